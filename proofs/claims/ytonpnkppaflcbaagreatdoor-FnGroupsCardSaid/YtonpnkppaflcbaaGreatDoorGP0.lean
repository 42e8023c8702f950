/-
  What the functions come to.
-/
import Derived.Test.YtonpnkppaflcbaaGreatDoorGT
namespace Go.Proofs.YtonpnkppaflcbaaGreatDoor
open G
set_option linter.unusedVariables false
set_option linter.unusedSimpArgs false
set_option maxRecDepth 100000
set_option maxHeartbeats 4000000
def laws_a2Long.f (a0 : List Int) (a1 : List Int) : Option Bool := if 3000 < (a0.length : Int) then (some true) else (some (decide (3000 < (a1.length : Int))))
theorem laws_a2Long.c (w : World) (Aa0 : Option Addr) (ca0 : Nat) (a0 : List Int) (hr0 : Rd (ci .u8) w Aa0 a0) (hc0 : a0.length ≤ ca0) (Aa1 : Option Addr) (ca1 : Nat) (a1 : List Int) (hr1 : Rd (ci .u8) w Aa1 a1) (hc1 : a1.length ≤ ca1) (r : Bool) (H : laws_a2Long.f a0 a1 = some r) :
    CV Tryz.prog 4 [.slice Aa0 a0.length ca0, .slice Aa1 a1.length ca1].toArray w fun v w' => v = .bool r ∧ Ext w w' := by
  have hS := (((St.init w no).param (ci .u8) Aa0 ca0 a0 hr0 hc0).param (ci .u8) Aa1 ca1 a1 hr1 hc1)
  unfold laws_a2Long.f at H
  refine CV.body Tryz.func4 rfl Tryz.ntmps4 rfl ?_
  refine CJ.seq ?_
  refine CJ.region ?_
  refine OJ.pures tU_ok 1 rfl ?_
  refine OJ.nil (EJ.next ?_)
  refine CJ.seq ?_
  refine CJ.region ?_
  refine OJ.pures tU_ok 4 rfl ?_
  refine OJ.split (t := 8) rfl (fun hb => ?_) (fun hb => ?_)
  · replace H := pif_t (of_decide_eq_true hb) H
    refine OJ.pures tU_ok 5 rfl ?_
    refine OJ.nil (EJ.next ?_)
    refine CJ.ret (?_)
    obtain rfl := Option.some.inj H
    exact EJ.fin rfl (.tmp rfl .nil) ⟨rfl, hS.ext⟩
  · replace H := pif_f (of_decide_eq_false hb) H
    refine OJ.pures tU_ok 5 rfl ?_
    refine OJ.nil (EJ.next ?_)
    refine CJ.ret (?_)
    obtain rfl := Option.some.inj H
    exact EJ.fin rfl (.tmp rfl .nil) ⟨rfl, hS.ext⟩

def spec_l00From.f (a0 : List Int) : Option l00Src := some (⟨a0, 0, 0⟩ : l00Src)
theorem spec_l00From.c (w : World) (Aa0 : Option Addr) (ca0 : Nat) (a0 : List Int) (hr0 : Rd (ci .u8) w Aa0 a0) (hc0 : a0.length ≤ ca0) (r : l00Src) (H : spec_l00From.f a0 = some r) :
    CV Tryz.prog 24 [.slice Aa0 a0.length ca0].toArray w fun v w' => ∃ (bn : Nat), v = .pointer (some ⟨bn, 0, none⟩) ∧ St w no w' [box bn ([.slice Aa0 a0.length ca0, .int .i64 r.at_, .int .u64 r.seed]) 81] [] := by
  have hS := ((St.init w no).param (ci .u8) Aa0 ca0 a0 hr0 hc0)
  unfold spec_l00From.f at H
  refine CV.body Tryz.func24 rfl Tryz.ntmps24 rfl ?_
  refine CJ.seq ?_
  refine CJ.region ?_
  refine OJ.pures tU_ok 1 rfl ?_
  refine OJ.nil (EJ.next ?_)
  refine CJ.seq ?_
  refine CJ.region ?_
  refine OJ.pures tU_ok 1 rfl ?_
  refine OJ.st rfl rfl rfl (SR.build' tU_ok tI_ok rfl rfl rfl (zs := [.slice none 0 0, .int .i64 0, .int .u64 0]) rfl rfl rfl ([.slice Aa0 a0.length ca0, .int .i64 0, .int .u64 0]) rfl) ?_
  refine OJ.ef rfl rfl rfl (Ef.box hS rfl rfl ([.slice Aa0 a0.length ca0, .int .i64 0, .int .u64 0]) rfl) ?_
  rintro _ w1 ⟨b1, rfl, hS⟩
  refine OJ.pures tU_ok 1 rfl ?_
  refine OJ.nil (EJ.next ?_)
  refine CJ.ret (?_)
  obtain rfl := Option.some.inj H
  exact EJ.fin rfl (.tmp rfl .nil) ⟨b1, rfl, hS.pick [0] [] rfl⟩

def spec_l00Src_next.f (a0 : l00Src) : Option (Int × l00Src) := if a0.at_ < (a0.code.length : Int) then ((getI a0.code a0.at_).bind fun t1 => if (IntKind.i64.wrap (a0.at_ + 1)) ≤ (a0.code.length : Int) then (some (IntKind.i64.wrap t1, (⟨a0.code, IntKind.i64.wrap (a0.at_ + 1), IntKind.u64.wrap ((IntKind.u64.wrap ((IntKind.u64.wrap (a0.seed * 6364136223846793005)) + (IntKind.u64.wrap (IntKind.i64.wrap t1)))) + 1442695040888963407)⟩ : l00Src))) else (some (IntKind.i64.wrap (andI .u64 (shrI .u64 (IntKind.u64.wrap ((IntKind.u64.wrap ((IntKind.u64.wrap (a0.seed * 6364136223846793005)) + (IntKind.u64.wrap (IntKind.i64.wrap t1)))) + 1442695040888963407)) 40) 255), (⟨a0.code, IntKind.i64.wrap (a0.at_ + 1), IntKind.u64.wrap ((IntKind.u64.wrap ((IntKind.u64.wrap (a0.seed * 6364136223846793005)) + (IntKind.u64.wrap (IntKind.i64.wrap t1)))) + 1442695040888963407)⟩ : l00Src)))) else (if (IntKind.i64.wrap (a0.at_ + 1)) ≤ (a0.code.length : Int) then (some (0, (⟨a0.code, IntKind.i64.wrap (a0.at_ + 1), IntKind.u64.wrap ((IntKind.u64.wrap ((IntKind.u64.wrap (a0.seed * 6364136223846793005)) + (IntKind.u64.wrap 0))) + 1442695040888963407)⟩ : l00Src))) else (some (IntKind.i64.wrap (andI .u64 (shrI .u64 (IntKind.u64.wrap ((IntKind.u64.wrap ((IntKind.u64.wrap (a0.seed * 6364136223846793005)) + (IntKind.u64.wrap 0))) + 1442695040888963407)) 40) 255), (⟨a0.code, IntKind.i64.wrap (a0.at_ + 1), IntKind.u64.wrap ((IntKind.u64.wrap ((IntKind.u64.wrap (a0.seed * 6364136223846793005)) + (IntKind.u64.wrap 0))) + 1442695040888963407)⟩ : l00Src))))
theorem spec_l00Src_next.c (w : World) (Aa0_0 : Option Addr) (ca0_0 : Nat) (a0 : l00Src) (ba0 : Nat) (hin : St w (fpU [box ba0 ([.slice Aa0_0 a0.code.length ca0_0, .int .i64 a0.at_, .int .u64 a0.seed]) 81]) w [box ba0 ([.slice Aa0_0 a0.code.length ca0_0, .int .i64 a0.at_, .int .u64 a0.seed]) 81] [roC (ci .u8) Aa0_0 ca0_0 a0.code]) (r : Int × l00Src) (H : spec_l00Src_next.f a0 = some r) :
    CV Tryz.prog 58 [.pointer (some ⟨ba0, 0, none⟩)].toArray w fun v w' => v = .int .i64 r.1 ∧ St w (fpU [box ba0 ([.slice Aa0_0 a0.code.length ca0_0, .int .i64 a0.at_, .int .u64 a0.seed]) 81]) w' [box ba0 ([.slice Aa0_0 a0.code.length ca0_0, .int .i64 r.2.at_, .int .u64 r.2.seed]) 81] [] := by
  have hS := hin
  unfold spec_l00Src_next.f at H
  refine CV.body Tryz.func58 rfl Tryz.ntmps58 rfl ?_
  refine CJ.seq ?_
  refine CJ.region ?_
  refine OJ.pures tU_ok 1 rfl ?_
  refine OJ.nil (EJ.next ?_)
  refine CJ.seq ?_
  refine CJ.region ?_
  refine OJ.pures tU_ok 1 rfl ?_
  refine OJ.nil (EJ.next ?_)
  refine CJ.seq ?_
  refine CJ.seq ?_
  refine CJ.draw [] [0, 1, 2, 3, 4, 5, 6, 7, 8, 9] mixed (by kernel_rfl) hS fun w1 hS => ?_
  refine DJ.pures tU_ok 2 rfl ?_
  refine DJ.st rfl rfl rfl rfl rfl (SR.fieldAddr tU_ok tI_ok rfl rfl rfl rfl rfl rfl) ?_
  refine DJ.st rfl rfl rfl rfl rfl (SR.load rfl rfl (fun w' hx => ld1 tU_ok rfl rfl (CA.ext (CA.sub (hS.cells (i := 0) rfl) 1) hx) rfl)) ?_
  refine DJ.pures tU_ok 2 rfl ?_
  refine DJ.st rfl rfl rfl rfl rfl (SR.fieldAddr tU_ok tI_ok rfl rfl rfl rfl rfl rfl) ?_
  refine DJ.st rfl rfl rfl rfl rfl (SR.load rfl rfl (fun w' hx => ld1 tU_ok rfl rfl (CA.ext (CA.sub (hS.cells (i := 0) rfl) 0) hx) rfl)) ?_
  refine DJ.pures tU_ok 2 rfl ?_
  refine DJ.nil (EJ.next ?_)
  refine CJ.cond rfl (fun hb => ?_) (fun hb => ?_)
  · replace H := pif_t (of_decide_eq_true hb) H
    refine CJ.draw [] [0, 1, 2, 3, 4, 5, 6, 7, 8, 9, 10, 11] mixed (by kernel_rfl) hS fun w1 hS => ?_
    refine DJ.pures tU_ok 2 rfl ?_
    refine DJ.st rfl rfl rfl rfl rfl (SR.fieldAddr tU_ok tI_ok rfl rfl rfl rfl rfl rfl) ?_
    refine DJ.st rfl rfl rfl rfl rfl (SR.load rfl rfl (fun w' hx => ld1 tU_ok rfl rfl (CA.ext (CA.sub (hS.cells (i := 0) rfl) 0) hx) rfl)) ?_
    refine DJ.pures tU_ok 2 rfl ?_
    refine DJ.st rfl rfl rfl rfl rfl (SR.fieldAddr tU_ok tI_ok rfl rfl rfl rfl rfl rfl) ?_
    refine DJ.st rfl rfl rfl rfl rfl (SR.load rfl rfl (fun w' hx => ld1 tU_ok rfl rfl (CA.ext (CA.sub (hS.cells (i := 0) rfl) 1) hx) rfl)) ?_
    obtain ⟨t1, ht1, H⟩ := pbind H
    obtain ⟨ad1, e1⟩ := (hS.rd' (i := 0) rfl).some' ht1
    refine DJ.st rfl rfl rfl rfl rfl (SR.idxS tU_ok tI_ok rfl rfl rfl rfl e1 rfl (getI_some ht1).1) ?_
    refine DJ.st rfl rfl rfl rfl rfl (SR.load rfl rfl (fun w' hx => ld1 tU_ok rfl rfl (CA.ext ((hS.rd' (i := 0) rfl).at_ e1 ht1) hx) rfl)) ?_
    refine DJ.pures tU_ok 2 rfl ?_
    refine DJ.nil (EJ.next ?_)
    refine CJ.seq ?_
    refine CJ.region ?_
    refine OJ.pures tU_ok 2 rfl ?_
    refine OJ.st rfl rfl rfl (SR.fieldAddr tU_ok tI_ok rfl rfl rfl rfl rfl rfl) ?_
    refine OJ.st rfl rfl rfl (SR.load rfl rfl (fun w' hx => ld1 tU_ok rfl rfl (CA.ext (CA.sub (hS.cells (i := 0) rfl) 1) hx) rfl)) ?_
    refine OJ.pures tU_ok 2 rfl ?_
    refine OJ.st rfl rfl rfl (SR.fieldAddr tU_ok tI_ok rfl rfl rfl rfl rfl rfl) ?_
    refine OJ.es rfl rfl (Es.store tI_ok hS (i := 0) (vs := [.int .i64 (IntKind.i64.wrap (a0.at_ + 1))]) rfl rfl rfl (G.ad1 _ _) rfl rfl rfl rfl (one1 rfl) (Nat.le_of_ble_eq_true rfl) ([.slice Aa0_0 a0.code.length ca0_0, .int .i64 (IntKind.i64.wrap (a0.at_ + 1)), .int .u64 a0.seed]) rfl) ?_
    intro w1 hS
    refine OJ.nil (EJ.next ?_)
    refine CJ.seq ?_
    refine CJ.region ?_
    refine OJ.pures tU_ok 3 rfl ?_
    refine OJ.st rfl rfl rfl (SR.fieldAddr tU_ok tI_ok rfl rfl rfl rfl rfl rfl) ?_
    refine OJ.st rfl rfl rfl (SR.load rfl rfl (fun w' hx => ld1 tU_ok rfl rfl (CA.ext (CA.sub (hS.cells (i := 0) rfl) 2) hx) rfl)) ?_
    refine OJ.pures tU_ok 6 rfl ?_
    refine OJ.st rfl rfl rfl (SR.fieldAddr tU_ok tI_ok rfl rfl rfl rfl rfl rfl) ?_
    refine OJ.es rfl rfl (Es.store tI_ok hS (i := 0) (vs := [.int .u64 (IntKind.u64.wrap ((IntKind.u64.wrap ((IntKind.u64.wrap (a0.seed * 6364136223846793005)) + (IntKind.u64.wrap (IntKind.i64.wrap t1)))) + 1442695040888963407))]) rfl rfl rfl (G.ad1 _ _) rfl rfl rfl rfl (one1 rfl) (Nat.le_of_ble_eq_true rfl) ([.slice Aa0_0 a0.code.length ca0_0, .int .i64 (IntKind.i64.wrap (a0.at_ + 1)), .int .u64 (IntKind.u64.wrap ((IntKind.u64.wrap ((IntKind.u64.wrap (a0.seed * 6364136223846793005)) + (IntKind.u64.wrap (IntKind.i64.wrap t1)))) + 1442695040888963407))]) rfl) ?_
    intro w1 hS
    refine OJ.nil (EJ.next ?_)
    refine CJ.seq ?_
    refine CJ.seq ?_
    refine CJ.draw [] [0, 1, 2, 3, 4, 5, 6, 7, 8, 9] mixed (by kernel_rfl) hS fun w1 hS => ?_
    refine DJ.pures tU_ok 2 rfl ?_
    refine DJ.st rfl rfl rfl rfl rfl (SR.fieldAddr tU_ok tI_ok rfl rfl rfl rfl rfl rfl) ?_
    refine DJ.st rfl rfl rfl rfl rfl (SR.load rfl rfl (fun w' hx => ld1 tU_ok rfl rfl (CA.ext (CA.sub (hS.cells (i := 0) rfl) 1) hx) rfl)) ?_
    refine DJ.pures tU_ok 2 rfl ?_
    refine DJ.st rfl rfl rfl rfl rfl (SR.fieldAddr tU_ok tI_ok rfl rfl rfl rfl rfl rfl) ?_
    refine DJ.st rfl rfl rfl rfl rfl (SR.load rfl rfl (fun w' hx => ld1 tU_ok rfl rfl (CA.ext (CA.sub (hS.cells (i := 0) rfl) 0) hx) rfl)) ?_
    refine DJ.pures tU_ok 2 rfl ?_
    refine DJ.nil (EJ.next ?_)
    refine CJ.cond rfl (fun hb => ?_) (fun hb => ?_)
    · replace H := pif_t (of_decide_eq_true hb) H
      refine CJ.seq ?_
      refine CJ.region ?_
      refine OJ.pures tU_ok 2 rfl ?_
      refine OJ.nil (EJ.next ?_)
      refine CJ.ret (EJ.skR (?_))
      obtain rfl := Option.some.inj H
      exact EJ.fin rfl (.tmp rfl .nil) ⟨rfl, hS.pick [0] [] rfl⟩
    · replace H := pif_f (of_decide_eq_false hb) H
      refine CJ.skip (EJ.next ?_)
      refine CJ.seq ?_
      refine CJ.region ?_
      refine OJ.pures tU_ok 2 rfl ?_
      refine OJ.st rfl rfl rfl (SR.fieldAddr tU_ok tI_ok rfl rfl rfl rfl rfl rfl) ?_
      refine OJ.st rfl rfl rfl (SR.load rfl rfl (fun w' hx => ld1 tU_ok rfl rfl (CA.ext (CA.sub (hS.cells (i := 0) rfl) 2) hx) rfl)) ?_
      refine OJ.st rfl rfl rfl (SR.shr rfl rfl rfl (by decide)) ?_
      refine OJ.pures tU_ok 3 rfl ?_
      refine OJ.nil (EJ.next ?_)
      refine CJ.ret (?_)
      obtain rfl := Option.some.inj H
      exact EJ.fin rfl (.tmp rfl .nil) ⟨rfl, hS.pick [0] [] rfl⟩
  · replace H := pif_f (of_decide_eq_false hb) H
    refine CJ.skip (EJ.next ?_)
    refine CJ.seq ?_
    refine CJ.region ?_
    refine OJ.pures tU_ok 2 rfl ?_
    refine OJ.st rfl rfl rfl (SR.fieldAddr tU_ok tI_ok rfl rfl rfl rfl rfl rfl) ?_
    refine OJ.st rfl rfl rfl (SR.load rfl rfl (fun w' hx => ld1 tU_ok rfl rfl (CA.ext (CA.sub (hS.cells (i := 0) rfl) 1) hx) rfl)) ?_
    refine OJ.pures tU_ok 2 rfl ?_
    refine OJ.st rfl rfl rfl (SR.fieldAddr tU_ok tI_ok rfl rfl rfl rfl rfl rfl) ?_
    refine OJ.es rfl rfl (Es.store tI_ok hS (i := 0) (vs := [.int .i64 (IntKind.i64.wrap (a0.at_ + 1))]) rfl rfl rfl (G.ad1 _ _) rfl rfl rfl rfl (one1 rfl) (Nat.le_of_ble_eq_true rfl) ([.slice Aa0_0 a0.code.length ca0_0, .int .i64 (IntKind.i64.wrap (a0.at_ + 1)), .int .u64 a0.seed]) rfl) ?_
    intro w1 hS
    refine OJ.nil (EJ.next ?_)
    refine CJ.seq ?_
    refine CJ.region ?_
    refine OJ.pures tU_ok 3 rfl ?_
    refine OJ.st rfl rfl rfl (SR.fieldAddr tU_ok tI_ok rfl rfl rfl rfl rfl rfl) ?_
    refine OJ.st rfl rfl rfl (SR.load rfl rfl (fun w' hx => ld1 tU_ok rfl rfl (CA.ext (CA.sub (hS.cells (i := 0) rfl) 2) hx) rfl)) ?_
    refine OJ.pures tU_ok 6 rfl ?_
    refine OJ.st rfl rfl rfl (SR.fieldAddr tU_ok tI_ok rfl rfl rfl rfl rfl rfl) ?_
    refine OJ.es rfl rfl (Es.store tI_ok hS (i := 0) (vs := [.int .u64 (IntKind.u64.wrap ((IntKind.u64.wrap ((IntKind.u64.wrap (a0.seed * 6364136223846793005)) + (IntKind.u64.wrap 0))) + 1442695040888963407))]) rfl rfl rfl (G.ad1 _ _) rfl rfl rfl rfl (one1 rfl) (Nat.le_of_ble_eq_true rfl) ([.slice Aa0_0 a0.code.length ca0_0, .int .i64 (IntKind.i64.wrap (a0.at_ + 1)), .int .u64 (IntKind.u64.wrap ((IntKind.u64.wrap ((IntKind.u64.wrap (a0.seed * 6364136223846793005)) + (IntKind.u64.wrap 0))) + 1442695040888963407))]) rfl) ?_
    intro w1 hS
    refine OJ.nil (EJ.next ?_)
    refine CJ.seq ?_
    refine CJ.seq ?_
    refine CJ.draw [] [0, 1, 2, 3, 4, 5, 6, 7, 8, 9] mixed (by kernel_rfl) hS fun w1 hS => ?_
    refine DJ.pures tU_ok 2 rfl ?_
    refine DJ.st rfl rfl rfl rfl rfl (SR.fieldAddr tU_ok tI_ok rfl rfl rfl rfl rfl rfl) ?_
    refine DJ.st rfl rfl rfl rfl rfl (SR.load rfl rfl (fun w' hx => ld1 tU_ok rfl rfl (CA.ext (CA.sub (hS.cells (i := 0) rfl) 1) hx) rfl)) ?_
    refine DJ.pures tU_ok 2 rfl ?_
    refine DJ.st rfl rfl rfl rfl rfl (SR.fieldAddr tU_ok tI_ok rfl rfl rfl rfl rfl rfl) ?_
    refine DJ.st rfl rfl rfl rfl rfl (SR.load rfl rfl (fun w' hx => ld1 tU_ok rfl rfl (CA.ext (CA.sub (hS.cells (i := 0) rfl) 0) hx) rfl)) ?_
    refine DJ.pures tU_ok 2 rfl ?_
    refine DJ.nil (EJ.next ?_)
    refine CJ.cond rfl (fun hb => ?_) (fun hb => ?_)
    · replace H := pif_t (of_decide_eq_true hb) H
      refine CJ.seq ?_
      refine CJ.region ?_
      refine OJ.pures tU_ok 2 rfl ?_
      refine OJ.nil (EJ.next ?_)
      refine CJ.ret (EJ.skR (?_))
      obtain rfl := Option.some.inj H
      exact EJ.fin rfl (.tmp rfl .nil) ⟨rfl, hS.pick [0] [] rfl⟩
    · replace H := pif_f (of_decide_eq_false hb) H
      refine CJ.skip (EJ.next ?_)
      refine CJ.seq ?_
      refine CJ.region ?_
      refine OJ.pures tU_ok 2 rfl ?_
      refine OJ.st rfl rfl rfl (SR.fieldAddr tU_ok tI_ok rfl rfl rfl rfl rfl rfl) ?_
      refine OJ.st rfl rfl rfl (SR.load rfl rfl (fun w' hx => ld1 tU_ok rfl rfl (CA.ext (CA.sub (hS.cells (i := 0) rfl) 2) hx) rfl)) ?_
      refine OJ.st rfl rfl rfl (SR.shr rfl rfl rfl (by decide)) ?_
      refine OJ.pures tU_ok 3 rfl ?_
      refine OJ.nil (EJ.next ?_)
      refine CJ.ret (?_)
      obtain rfl := Option.some.inj H
      exact EJ.fin rfl (.tmp rfl .nil) ⟨rfl, hS.pick [0] [] rfl⟩

def spec_l00Src_pick.f (a0 : l00Src) (a1 : Int) : Option (Int × l00Src) := if a1 ≤ 1 then (some (0, a0)) else ((spec_l00Src_next.f a0).bind fun t1 => if 200 < a1 then ((spec_l00Src_next.f (⟨a0.code, t1.2.at_, t1.2.seed⟩ : l00Src)).bind fun t2 => (chk (a1 ≠ 0)).bind fun u3 => some (Int.tmod (IntKind.i64.wrap ((IntKind.i64.wrap (t1.1 * 256)) + t2.1)) a1, (⟨a0.code, t2.2.at_, t2.2.seed⟩ : l00Src))) else ((chk (a1 ≠ 0)).bind fun u4 => some (Int.tmod t1.1 a1, (⟨a0.code, t1.2.at_, t1.2.seed⟩ : l00Src))))
theorem spec_l00Src_pick.c (w : World) (Aa0_0 : Option Addr) (ca0_0 : Nat) (a0 : l00Src) (ba0 : Nat) (a1 : Int) (hin : St w (fpU [box ba0 ([.slice Aa0_0 a0.code.length ca0_0, .int .i64 a0.at_, .int .u64 a0.seed]) 81]) w [box ba0 ([.slice Aa0_0 a0.code.length ca0_0, .int .i64 a0.at_, .int .u64 a0.seed]) 81] [roC (ci .u8) Aa0_0 ca0_0 a0.code]) (r : Int × l00Src) (H : spec_l00Src_pick.f a0 a1 = some r) :
    CV Tryz.prog 25 [.pointer (some ⟨ba0, 0, none⟩), .int .i64 a1].toArray w fun v w' => v = .int .i64 r.1 ∧ St w (fpU [box ba0 ([.slice Aa0_0 a0.code.length ca0_0, .int .i64 a0.at_, .int .u64 a0.seed]) 81]) w' [box ba0 ([.slice Aa0_0 a0.code.length ca0_0, .int .i64 r.2.at_, .int .u64 r.2.seed]) 81] [] := by
  have hS := hin
  unfold spec_l00Src_pick.f at H
  refine CV.body Tryz.func25 rfl Tryz.ntmps25 rfl ?_
  refine CJ.seq ?_
  refine CJ.region ?_
  refine OJ.pures tU_ok 1 rfl ?_
  refine OJ.nil (EJ.next ?_)
  refine CJ.seq ?_
  refine CJ.seq ?_
  refine CJ.region ?_
  refine OJ.pures tU_ok 2 rfl ?_
  refine OJ.nil (EJ.next ?_)
  refine CJ.cond rfl (fun hb => ?_) (fun hb => ?_)
  · replace H := pif_t (of_decide_eq_true hb) H
    refine CJ.seq ?_
    refine CJ.region ?_
    refine OJ.pures tU_ok 1 rfl ?_
    refine OJ.nil (EJ.next ?_)
    refine CJ.ret (EJ.skR (?_))
    obtain rfl := Option.some.inj H
    exact EJ.fin rfl (.tmp rfl .nil) ⟨rfl, hS.pick [0] [] rfl⟩
  · replace H := pif_f (of_decide_eq_false hb) H
    refine CJ.skip (EJ.next ?_)
    refine CJ.seq ?_
    refine CJ.region ?_
    refine OJ.pures tU_ok 1 rfl ?_
    obtain ⟨t1, ht1, H⟩ := pbind H
    refine OJ.callF rfl rfl rfl rfl rfl hb58 rfl (spec_l00Src_next.c _ Aa0_0 ca0_0 a0 ba0 ((hS.subs [0] [0] [] rfl).pick [0] [0] rfl) _ ht1) ?_
    rintro _ w1 ⟨rfl, hs⟩
    replace hS := hS.back [0] rfl rfl [box ba0 ([.slice Aa0_0 a0.code.length ca0_0, .int .i64 t1.2.at_, .int .u64 t1.2.seed]) 81] [] hs ⟨fun _ => Iff.rfl, trivial⟩
    refine OJ.pures tU_ok 1 rfl ?_
    refine OJ.nil (EJ.next ?_)
    refine CJ.seq ?_
    refine CJ.seq ?_
    refine CJ.region ?_
    refine OJ.pures tU_ok 2 rfl ?_
    refine OJ.nil (EJ.next ?_)
    refine CJ.cond rfl (fun hb => ?_) (fun hb => ?_)
    · replace H := pif_t (of_decide_eq_true hb) H
      refine CJ.region ?_
      refine OJ.pures tU_ok 3 rfl ?_
      obtain ⟨t2, ht2, H⟩ := pbind H
      refine OJ.callF rfl rfl rfl rfl rfl hb58 rfl (spec_l00Src_next.c _ Aa0_0 ca0_0 (⟨a0.code, t1.2.at_, t1.2.seed⟩ : l00Src) ba0 ((hS.subs [0] [0] [] rfl).pick [0] [0] rfl) _ ht2) ?_
      rintro _ w1 ⟨rfl, hs⟩
      replace hS := hS.back [0] rfl rfl [box ba0 ([.slice Aa0_0 a0.code.length ca0_0, .int .i64 t2.2.at_, .int .u64 t2.2.seed]) 81] [] hs ⟨fun _ => Iff.rfl, trivial⟩
      refine OJ.pures tU_ok 2 rfl ?_
      refine OJ.nil (EJ.next ?_)
      refine CJ.seq ?_
      refine CJ.region ?_
      refine OJ.pures tU_ok 2 rfl ?_
      obtain ⟨u3, hu3, H⟩ := pbind H
      refine OJ.st rfl rfl rfl (SR.rem rfl rfl rfl (chk_some hu3)) ?_
      refine OJ.pures tU_ok 1 rfl ?_
      refine OJ.nil (EJ.next ?_)
      refine CJ.ret (?_)
      obtain rfl := Option.some.inj H
      exact EJ.fin rfl (.tmp rfl .nil) ⟨rfl, hS.pick [0] [] rfl⟩
    · replace H := pif_f (of_decide_eq_false hb) H
      refine CJ.skip (EJ.next ?_)
      refine CJ.seq ?_
      refine CJ.region ?_
      refine OJ.pures tU_ok 2 rfl ?_
      obtain ⟨u4, hu4, H⟩ := pbind H
      refine OJ.st rfl rfl rfl (SR.rem rfl rfl rfl (chk_some hu4)) ?_
      refine OJ.pures tU_ok 1 rfl ?_
      refine OJ.nil (EJ.next ?_)
      refine CJ.ret (?_)
      obtain rfl := Option.some.inj H
      exact EJ.fin rfl (.tmp rfl .nil) ⟨rfl, hS.pick [0] [] rfl⟩

def spec_l00Src_among.f (a0 : l00Src) (a1 : List Int) : Option (Int × l00Src) := (spec_l00Src_pick.f a0 (a1.length : Int)).bind fun t1 => (getI a1 t1.1).bind fun t2 => some (t2, (⟨a0.code, t1.2.at_, t1.2.seed⟩ : l00Src))
theorem spec_l00Src_among.c (w : World) (Aa0_0 : Option Addr) (ca0_0 : Nat) (a0 : l00Src) (ba0 : Nat) (Aa1 : Option Addr) (ca1 : Nat) (a1 : List Int) (hin : St w (fpU [box ba0 ([.slice Aa0_0 a0.code.length ca0_0, .int .i64 a0.at_, .int .u64 a0.seed]) 81]) w [box ba0 ([.slice Aa0_0 a0.code.length ca0_0, .int .i64 a0.at_, .int .u64 a0.seed]) 81] [roC (ci .u8) Aa0_0 ca0_0 a0.code, roC (ci .i64) Aa1 ca1 a1]) (r : Int × l00Src) (H : spec_l00Src_among.f a0 a1 = some r) :
    CV Tryz.prog 55 [.pointer (some ⟨ba0, 0, none⟩), .slice Aa1 a1.length ca1].toArray w fun v w' => v = .int .i64 r.1 ∧ St w (fpU [box ba0 ([.slice Aa0_0 a0.code.length ca0_0, .int .i64 a0.at_, .int .u64 a0.seed]) 81]) w' [box ba0 ([.slice Aa0_0 a0.code.length ca0_0, .int .i64 r.2.at_, .int .u64 r.2.seed]) 81] [] := by
  have hS := hin
  unfold spec_l00Src_among.f at H
  refine CV.body Tryz.func55 rfl Tryz.ntmps55 rfl ?_
  refine CJ.seq ?_
  refine CJ.region ?_
  refine OJ.pures tU_ok 1 rfl ?_
  refine OJ.nil (EJ.next ?_)
  refine CJ.seq ?_
  refine CJ.region ?_
  refine OJ.pures tU_ok 4 rfl ?_
  obtain ⟨t1, ht1, H⟩ := pbind H
  refine OJ.callF rfl rfl rfl rfl rfl hb25 rfl (spec_l00Src_pick.c _ Aa0_0 ca0_0 a0 ba0 (a1.length : Int) ((hS.subs [0] [0] [] rfl).pick [0] [0] rfl) _ ht1) ?_
  rintro _ w1 ⟨rfl, hs⟩
  replace hS := hS.back [0] rfl rfl [box ba0 ([.slice Aa0_0 a0.code.length ca0_0, .int .i64 t1.2.at_, .int .u64 t1.2.seed]) 81] [] hs ⟨fun _ => Iff.rfl, trivial⟩
  obtain ⟨t2, ht2, H⟩ := pbind H
  obtain ⟨ad2, e2⟩ := (hS.rd' (i := 1) rfl).some' ht2
  refine OJ.st rfl rfl rfl (SR.idxS tU_ok tI_ok rfl rfl rfl rfl e2 rfl (getI_some ht2).1) ?_
  refine OJ.st rfl rfl rfl (SR.load rfl rfl (fun w' hx => ld1 tU_ok rfl rfl (CA.ext ((hS.rd' (i := 1) rfl).at_ e2 ht2) hx) rfl)) ?_
  refine OJ.pures tU_ok 1 rfl ?_
  refine OJ.nil (EJ.next ?_)
  refine CJ.ret (?_)
  obtain rfl := Option.some.inj H
  exact EJ.fin rfl (.tmp rfl .nil) ⟨rfl, hS.pick [0] [] rfl⟩

def spec_l00Src_one.f (a0 : l00Src) (a1 : Int) : Option (Bool × l00Src) := (spec_l00Src_pick.f a0 a1).bind fun t1 => some (decide (t1.1 = 0), (⟨a0.code, t1.2.at_, t1.2.seed⟩ : l00Src))
theorem spec_l00Src_one.c (w : World) (Aa0_0 : Option Addr) (ca0_0 : Nat) (a0 : l00Src) (ba0 : Nat) (a1 : Int) (hin : St w (fpU [box ba0 ([.slice Aa0_0 a0.code.length ca0_0, .int .i64 a0.at_, .int .u64 a0.seed]) 81]) w [box ba0 ([.slice Aa0_0 a0.code.length ca0_0, .int .i64 a0.at_, .int .u64 a0.seed]) 81] [roC (ci .u8) Aa0_0 ca0_0 a0.code]) (r : Bool × l00Src) (H : spec_l00Src_one.f a0 a1 = some r) :
    CV Tryz.prog 57 [.pointer (some ⟨ba0, 0, none⟩), .int .i64 a1].toArray w fun v w' => v = .bool r.1 ∧ St w (fpU [box ba0 ([.slice Aa0_0 a0.code.length ca0_0, .int .i64 a0.at_, .int .u64 a0.seed]) 81]) w' [box ba0 ([.slice Aa0_0 a0.code.length ca0_0, .int .i64 r.2.at_, .int .u64 r.2.seed]) 81] [] := by
  have hS := hin
  unfold spec_l00Src_one.f at H
  refine CV.body Tryz.func57 rfl Tryz.ntmps57 rfl ?_
  refine CJ.seq ?_
  refine CJ.region ?_
  refine OJ.pures tU_ok 1 rfl ?_
  refine OJ.nil (EJ.next ?_)
  refine CJ.seq ?_
  refine CJ.region ?_
  refine OJ.pures tU_ok 2 rfl ?_
  obtain ⟨t1, ht1, H⟩ := pbind H
  refine OJ.callF rfl rfl rfl rfl rfl hb25 rfl (spec_l00Src_pick.c _ Aa0_0 ca0_0 a0 ba0 a1 ((hS.subs [0] [0] [] rfl).pick [0] [0] rfl) _ ht1) ?_
  rintro _ w1 ⟨rfl, hs⟩
  replace hS := hS.back [0] rfl rfl [box ba0 ([.slice Aa0_0 a0.code.length ca0_0, .int .i64 t1.2.at_, .int .u64 t1.2.seed]) 81] [] hs ⟨fun _ => Iff.rfl, trivial⟩
  refine OJ.pures tU_ok 2 rfl ?_
  refine OJ.nil (EJ.next ?_)
  refine CJ.ret (?_)
  obtain rfl := Option.some.inj H
  exact EJ.fin rfl (.tmp rfl .nil) ⟨rfl, hS.pick [0] [] rfl⟩

def spec_l06Put.f (a0 : Herd) (a1 : Int) (a2 : Int) (a3 : Bool) : Option (List Int) := (getI a0.Foes a1).bind fun t1 => (chk (0 ≤ (IntKind.u64.wrap a2))).bind fun u2 => (getI a0.Foes a1).bind fun t3 => (getI (a0.Foes.set a1.toNat (andNotI .u16 t1 (shlI .u16 1 (IntKind.u64.wrap a2)))) a2).bind fun t4 => (chk (0 ≤ (IntKind.u64.wrap a1))).bind fun u5 => (getI (a0.Foes.set a1.toNat (andNotI .u16 t1 (shlI .u16 1 (IntKind.u64.wrap a2)))) a2).bind fun t6 => if a3 = true then ((getI ((a0.Foes.set a1.toNat (andNotI .u16 t1 (shlI .u16 1 (IntKind.u64.wrap a2)))).set a2.toNat (andNotI .u16 t4 (shlI .u16 1 (IntKind.u64.wrap a1)))) a1).bind fun t7 => (chk (0 ≤ (IntKind.u64.wrap a2))).bind fun u8 => (getI ((a0.Foes.set a1.toNat (andNotI .u16 t1 (shlI .u16 1 (IntKind.u64.wrap a2)))).set a2.toNat (andNotI .u16 t4 (shlI .u16 1 (IntKind.u64.wrap a1)))) a1).bind fun t9 => (getI (((a0.Foes.set a1.toNat (andNotI .u16 t1 (shlI .u16 1 (IntKind.u64.wrap a2)))).set a2.toNat (andNotI .u16 t4 (shlI .u16 1 (IntKind.u64.wrap a1)))).set a1.toNat (orI .u16 t7 (shlI .u16 1 (IntKind.u64.wrap a2)))) a2).bind fun t10 => (chk (0 ≤ (IntKind.u64.wrap a1))).bind fun u11 => (getI (((a0.Foes.set a1.toNat (andNotI .u16 t1 (shlI .u16 1 (IntKind.u64.wrap a2)))).set a2.toNat (andNotI .u16 t4 (shlI .u16 1 (IntKind.u64.wrap a1)))).set a1.toNat (orI .u16 t7 (shlI .u16 1 (IntKind.u64.wrap a2)))) a2).bind fun t12 => some ((((a0.Foes.set a1.toNat (andNotI .u16 t1 (shlI .u16 1 (IntKind.u64.wrap a2)))).set a2.toNat (andNotI .u16 t4 (shlI .u16 1 (IntKind.u64.wrap a1)))).set a1.toNat (orI .u16 t7 (shlI .u16 1 (IntKind.u64.wrap a2)))).set a2.toNat (orI .u16 t10 (shlI .u16 1 (IntKind.u64.wrap a1))))) else (some ((a0.Foes.set a1.toNat (andNotI .u16 t1 (shlI .u16 1 (IntKind.u64.wrap a2)))).set a2.toNat (andNotI .u16 t4 (shlI .u16 1 (IntKind.u64.wrap a1)))))
theorem spec_l06Put.c (w : World) (Aa0_0 : Option Addr) (ca0_0 : Nat) (Aa0_1 : Option Addr) (ca0_1 : Nat) (Aa0_2 : Option Addr) (ca0_2 : Nat) (a0 : Herd) (pa0 : Addr) (a1 : Int) (a2 : Int) (a3 : Bool) (hin : St w (fpU [rowC (ci .u16) Aa0_2 ca0_2 64 a0.Foes]) w [rowC (ci .u16) Aa0_2 ca0_2 64 a0.Foes] [roP pa0 ([.slice Aa0_0 a0.Names.length ca0_0, .slice Aa0_1 a0.Eats.length ca0_1, .slice Aa0_2 a0.Foes.length ca0_2])]) (r : List Int) (H : spec_l06Put.f a0 a1 a2 a3 = some r) :
    CV Tryz.prog 56 [.pointer (some pa0), .int .i64 a1, .int .i64 a2, .bool a3].toArray w fun v w' => v = .tuple #[] ∧ St w (fpU [rowC (ci .u16) Aa0_2 ca0_2 64 a0.Foes]) w' [rowC (ci .u16) Aa0_2 ca0_2 64 r] [] ∧ r.length = a0.Foes.length := by
  have hS := hin
  unfold spec_l06Put.f at H
  refine CV.body Tryz.func56 rfl Tryz.ntmps56 rfl ?_
  have hl0 : a0.Foes.length = a0.Foes.length := rfl
  refine CJ.seq ?_
  refine CJ.draw [] [0, 1, 2, 3, 4, 5, 6, 7, 8, 9, 10, 11, 12, 13, 14, 15, 16, 17] mixed (by kernel_rfl) hS fun w1 hS => ?_
  refine DJ.pures tU_ok 2 rfl ?_
  refine DJ.st rfl rfl rfl rfl rfl (SR.fieldAddr tU_ok tI_ok rfl rfl rfl rfl rfl rfl) ?_
  refine DJ.st rfl rfl rfl rfl rfl (SR.load rfl rfl (fun w' hx => ld1 tU_ok rfl rfl (CA.ext (CA.sub (hS.ca (i := 0) rfl) 2) hx) rfl)) ?_
  refine DJ.pures tU_ok 3 rfl ?_
  refine DJ.st rfl rfl rfl rfl rfl (SR.fieldAddr tU_ok tI_ok rfl rfl rfl rfl rfl rfl) ?_
  refine DJ.st rfl rfl rfl rfl rfl (SR.load rfl rfl (fun w' hx => ld1 tU_ok rfl rfl (CA.ext (CA.sub (hS.ca (i := 0) rfl) 2) hx) rfl)) ?_
  refine DJ.pures tU_ok 1 rfl ?_
  obtain ⟨t1, ht1, H⟩ := pbind H
  obtain ⟨ad1, e1⟩ := (hS.rd (i := 0) rfl).some' ht1
  refine DJ.st rfl rfl rfl rfl rfl (SR.idxS tU_ok tI_ok rfl rfl rfl rfl e1 rfl (by have hg := (getI_some ht1).1; (first | rw [hl0] at hg | (simp only [List.length_set] at hg; rw [hl0] at hg)); exact hg)) ?_
  refine DJ.st rfl rfl rfl rfl rfl (SR.load rfl rfl (fun w' hx => ld1 tU_ok rfl rfl (CA.ext ((hS.rd (i := 0) rfl).at_ e1 ht1) hx) rfl)) ?_
  refine DJ.pures tU_ok 2 rfl ?_
  obtain ⟨u2, hu2, H⟩ := pbind H
  refine DJ.st rfl rfl rfl rfl rfl (SR.shl rfl rfl rfl (chk_some hu2)) ?_
  refine DJ.pures tU_ok 1 rfl ?_
  obtain ⟨t3, ht3, H⟩ := pbind H
  obtain ⟨ad3, e3⟩ := (hS.rd (i := 0) rfl).some' ht3
  refine DJ.st rfl rfl rfl rfl rfl (SR.idxS tU_ok tI_ok rfl rfl rfl rfl e3 rfl (by have hg := (getI_some ht3).1; (first | rw [hl0] at hg | (simp only [List.length_set] at hg; rw [hl0] at hg)); exact hg)) ?_
  refine DJ.es rfl rfl rfl rfl (Es.storeR tI_ok hS (i := 0) (off := 0) rfl rfl ht3 e3 rfl rfl rfl rfl (vs := (ci .u16).enc (andNotI .u16 t1 (shlI .u16 1 (IntKind.u64.wrap a2)))) rfl rfl (one1 rfl) (Nat.le_of_ble_eq_true rfl) (andNotI .u16 t1 (shlI .u16 1 (IntKind.u64.wrap a2))) rfl) ?_
  intro w1 hS
  refine DJ.nil (EJ.next ?_)
  refine CJ.seq ?_
  refine CJ.draw [] [0, 1, 2, 3, 4, 5, 6, 7, 8, 9, 10, 11, 12, 13, 14, 15, 16, 17] mixed (by kernel_rfl) hS fun w1 hS => ?_
  refine DJ.pures tU_ok 2 rfl ?_
  refine DJ.st rfl rfl rfl rfl rfl (SR.fieldAddr tU_ok tI_ok rfl rfl rfl rfl rfl rfl) ?_
  refine DJ.st rfl rfl rfl rfl rfl (SR.load rfl rfl (fun w' hx => ld1 tU_ok rfl rfl (CA.ext (CA.sub (hS.ca (i := 0) rfl) 2) hx) rfl)) ?_
  refine DJ.pures tU_ok 3 rfl ?_
  refine DJ.st rfl rfl rfl rfl rfl (SR.fieldAddr tU_ok tI_ok rfl rfl rfl rfl rfl rfl) ?_
  refine DJ.st rfl rfl rfl rfl rfl (SR.load rfl rfl (fun w' hx => ld1 tU_ok rfl rfl (CA.ext (CA.sub (hS.ca (i := 0) rfl) 2) hx) rfl)) ?_
  refine DJ.pures tU_ok 1 rfl ?_
  obtain ⟨t4, ht4, H⟩ := pbind H
  obtain ⟨ad4, e4⟩ := (hS.rd (i := 0) rfl).some' ht4
  refine DJ.st rfl rfl rfl rfl rfl (SR.idxS tU_ok tI_ok rfl rfl rfl rfl e4 rfl (by have hg := (getI_some ht4).1; (first | rw [hl0] at hg | (simp only [List.length_set] at hg; rw [hl0] at hg)); exact hg)) ?_
  refine DJ.st rfl rfl rfl rfl rfl (SR.load rfl rfl (fun w' hx => ld1 tU_ok rfl rfl (CA.ext ((hS.rd (i := 0) rfl).at_ e4 ht4) hx) rfl)) ?_
  refine DJ.pures tU_ok 2 rfl ?_
  obtain ⟨u5, hu5, H⟩ := pbind H
  refine DJ.st rfl rfl rfl rfl rfl (SR.shl rfl rfl rfl (chk_some hu5)) ?_
  refine DJ.pures tU_ok 1 rfl ?_
  obtain ⟨t6, ht6, H⟩ := pbind H
  obtain ⟨ad6, e6⟩ := (hS.rd (i := 0) rfl).some' ht6
  refine DJ.st rfl rfl rfl rfl rfl (SR.idxS tU_ok tI_ok rfl rfl rfl rfl e6 rfl (by have hg := (getI_some ht6).1; (first | rw [hl0] at hg | (simp only [List.length_set] at hg; rw [hl0] at hg)); exact hg)) ?_
  refine DJ.es rfl rfl rfl rfl (Es.storeR tI_ok hS (i := 0) (off := 0) rfl rfl ht6 e6 rfl rfl rfl rfl (vs := (ci .u16).enc (andNotI .u16 t4 (shlI .u16 1 (IntKind.u64.wrap a1)))) rfl rfl (one1 rfl) (Nat.le_of_ble_eq_true rfl) (andNotI .u16 t4 (shlI .u16 1 (IntKind.u64.wrap a1))) rfl) ?_
  intro w1 hS
  refine DJ.nil (EJ.next ?_)
  refine CJ.seq ?_
  refine CJ.region ?_
  refine OJ.pures tU_ok 1 rfl ?_
  refine OJ.nil (EJ.next ?_)
  refine CJ.cond rfl (fun hb => ?_) (fun hb => ?_)
  · replace H := pif_t hb H
    refine CJ.seq ?_
    refine CJ.draw [] [0, 1, 2, 3, 4, 5, 6, 7, 8, 9, 10, 11, 12, 13, 14, 15, 16, 17] mixed (by kernel_rfl) hS fun w1 hS => ?_
    refine DJ.pures tU_ok 2 rfl ?_
    refine DJ.st rfl rfl rfl rfl rfl (SR.fieldAddr tU_ok tI_ok rfl rfl rfl rfl rfl rfl) ?_
    refine DJ.st rfl rfl rfl rfl rfl (SR.load rfl rfl (fun w' hx => ld1 tU_ok rfl rfl (CA.ext (CA.sub (hS.ca (i := 0) rfl) 2) hx) rfl)) ?_
    refine DJ.pures tU_ok 3 rfl ?_
    refine DJ.st rfl rfl rfl rfl rfl (SR.fieldAddr tU_ok tI_ok rfl rfl rfl rfl rfl rfl) ?_
    refine DJ.st rfl rfl rfl rfl rfl (SR.load rfl rfl (fun w' hx => ld1 tU_ok rfl rfl (CA.ext (CA.sub (hS.ca (i := 0) rfl) 2) hx) rfl)) ?_
    refine DJ.pures tU_ok 1 rfl ?_
    obtain ⟨t7, ht7, H⟩ := pbind H
    obtain ⟨ad7, e7⟩ := (hS.rd (i := 0) rfl).some' ht7
    refine DJ.st rfl rfl rfl rfl rfl (SR.idxS tU_ok tI_ok rfl rfl rfl rfl e7 rfl (by have hg := (getI_some ht7).1; (first | rw [hl0] at hg | (simp only [List.length_set] at hg; rw [hl0] at hg)); exact hg)) ?_
    refine DJ.st rfl rfl rfl rfl rfl (SR.load rfl rfl (fun w' hx => ld1 tU_ok rfl rfl (CA.ext ((hS.rd (i := 0) rfl).at_ e7 ht7) hx) rfl)) ?_
    refine DJ.pures tU_ok 2 rfl ?_
    obtain ⟨u8, hu8, H⟩ := pbind H
    refine DJ.st rfl rfl rfl rfl rfl (SR.shl rfl rfl rfl (chk_some hu8)) ?_
    refine DJ.pures tU_ok 1 rfl ?_
    obtain ⟨t9, ht9, H⟩ := pbind H
    obtain ⟨ad9, e9⟩ := (hS.rd (i := 0) rfl).some' ht9
    refine DJ.st rfl rfl rfl rfl rfl (SR.idxS tU_ok tI_ok rfl rfl rfl rfl e9 rfl (by have hg := (getI_some ht9).1; (first | rw [hl0] at hg | (simp only [List.length_set] at hg; rw [hl0] at hg)); exact hg)) ?_
    refine DJ.es rfl rfl rfl rfl (Es.storeR tI_ok hS (i := 0) (off := 0) rfl rfl ht9 e9 rfl rfl rfl rfl (vs := (ci .u16).enc (orI .u16 t7 (shlI .u16 1 (IntKind.u64.wrap a2)))) rfl rfl (one1 rfl) (Nat.le_of_ble_eq_true rfl) (orI .u16 t7 (shlI .u16 1 (IntKind.u64.wrap a2))) rfl) ?_
    intro w1 hS
    refine DJ.nil (EJ.next ?_)
    refine CJ.draw [] [0, 1, 2, 3, 4, 5, 6, 7, 8, 9, 10, 11, 12, 13, 14, 15, 16, 17] mixed (by kernel_rfl) hS fun w1 hS => ?_
    refine DJ.pures tU_ok 2 rfl ?_
    refine DJ.st rfl rfl rfl rfl rfl (SR.fieldAddr tU_ok tI_ok rfl rfl rfl rfl rfl rfl) ?_
    refine DJ.st rfl rfl rfl rfl rfl (SR.load rfl rfl (fun w' hx => ld1 tU_ok rfl rfl (CA.ext (CA.sub (hS.ca (i := 0) rfl) 2) hx) rfl)) ?_
    refine DJ.pures tU_ok 3 rfl ?_
    refine DJ.st rfl rfl rfl rfl rfl (SR.fieldAddr tU_ok tI_ok rfl rfl rfl rfl rfl rfl) ?_
    refine DJ.st rfl rfl rfl rfl rfl (SR.load rfl rfl (fun w' hx => ld1 tU_ok rfl rfl (CA.ext (CA.sub (hS.ca (i := 0) rfl) 2) hx) rfl)) ?_
    refine DJ.pures tU_ok 1 rfl ?_
    obtain ⟨t10, ht10, H⟩ := pbind H
    obtain ⟨ad10, e10⟩ := (hS.rd (i := 0) rfl).some' ht10
    refine DJ.st rfl rfl rfl rfl rfl (SR.idxS tU_ok tI_ok rfl rfl rfl rfl e10 rfl (by have hg := (getI_some ht10).1; (first | rw [hl0] at hg | (simp only [List.length_set] at hg; rw [hl0] at hg)); exact hg)) ?_
    refine DJ.st rfl rfl rfl rfl rfl (SR.load rfl rfl (fun w' hx => ld1 tU_ok rfl rfl (CA.ext ((hS.rd (i := 0) rfl).at_ e10 ht10) hx) rfl)) ?_
    refine DJ.pures tU_ok 2 rfl ?_
    obtain ⟨u11, hu11, H⟩ := pbind H
    refine DJ.st rfl rfl rfl rfl rfl (SR.shl rfl rfl rfl (chk_some hu11)) ?_
    refine DJ.pures tU_ok 1 rfl ?_
    obtain ⟨t12, ht12, H⟩ := pbind H
    obtain ⟨ad12, e12⟩ := (hS.rd (i := 0) rfl).some' ht12
    refine DJ.st rfl rfl rfl rfl rfl (SR.idxS tU_ok tI_ok rfl rfl rfl rfl e12 rfl (by have hg := (getI_some ht12).1; (first | rw [hl0] at hg | (simp only [List.length_set] at hg; rw [hl0] at hg)); exact hg)) ?_
    refine DJ.es rfl rfl rfl rfl (Es.storeR tI_ok hS (i := 0) (off := 0) rfl rfl ht12 e12 rfl rfl rfl rfl (vs := (ci .u16).enc (orI .u16 t10 (shlI .u16 1 (IntKind.u64.wrap a1)))) rfl rfl (one1 rfl) (Nat.le_of_ble_eq_true rfl) (orI .u16 t10 (shlI .u16 1 (IntKind.u64.wrap a1))) rfl) ?_
    intro w1 hS
    refine DJ.nil ?_
    obtain rfl := Option.some.inj H
    exact EJ.fin' rfl .nil ⟨rfl, hS.pick [0] [] rfl, (by first | exact hl0 | (simp only [List.length_set]; exact hl0) | (simp only [List.length_set]; done))⟩
  · replace H := pifb_f hb H
    refine CJ.skip (?_)
    obtain rfl := Option.some.inj H
    exact EJ.fin' rfl .nil ⟨rfl, hS.pick [0] [] rfl, (by first | exact hl0 | (simp only [List.length_set]; exact hl0) | (simp only [List.length_set]; done))⟩

def spec_l06Drawn.l2 (a0 : l00Src) (t4 : Int × l00Src) (y18 : Int) (y21 : List ByteArray) (y24 : List Int) (t41 : ByteArray) (t47 : Int × l00Src) : Nat → (List Int) → Int → Int → Int → Option ((List Int) × Int × Int)
  | 0, _, _, _, _ => none
  | k + 1, y63, y64, y65, y66 => if y64 < y18 then ((spec_l00Src_one.f (⟨a0.code, y65, y66⟩ : l00Src) (IntKind.i64.wrap (1 + t4.1))).bind fun t67 => (spec_l06Put.f (⟨y21 ++ ([t41] : List ByteArray), y24 ++ ([IntKind.i16.wrap t47.1] : List Int), y63⟩ : Herd) y18 y64 t67.1).bind fun t68 => spec_l06Drawn.l2 a0 t4 y18 y21 y24 t41 t47 k t68 (IntKind.i64.wrap (y64 + 1)) t67.2.at_ t67.2.seed) else (some (y63, y65, y66))
def spec_l06Drawn.l1 (a0 : l00Src) (t4 : Int × l00Src) (t5 : Int × l00Src) (t6 : Int × l00Src) : Nat → Int → Int → Int → (List ByteArray) → (List Int) → (List Int) → Option ((List ByteArray) × (List Int) × (List Int) × Int × Int)
  | 0, _, _, _, _, _, _ => none
  | k + 1, y18, y19, y20, y21, y24, y27 => if y18 < t6.1 then (((getI ([(⟨#[97, 100, 97]⟩ : ByteArray), (⟨#[98, 101, 108]⟩ : ByteArray), (⟨#[99, 121, 100]⟩ : ByteArray), (⟨#[100, 111, 116]⟩ : ByteArray), (⟨#[101, 118, 97]⟩ : ByteArray), (⟨#[102, 97, 121]⟩ : ByteArray), (⟨#[103, 105, 108]⟩ : ByteArray), (⟨#[104, 111, 98]⟩ : ByteArray), (⟨#[105, 118, 111]⟩ : ByteArray), (⟨#[106, 97, 110]⟩ : ByteArray), (⟨#[107, 105, 116]⟩ : ByteArray), (⟨#[108, 111, 117]⟩ : ByteArray), (⟨#[109, 97, 120]⟩ : ByteArray), (⟨#[110, 97, 110]⟩ : ByteArray)] : List ByteArray) (Int.tmod (IntKind.i64.wrap (t5.1 + y18)) 14)).bind fun t41 => (chk (y21.length + ([t41] : List ByteArray).length ≤ 4294967296)).bind fun u43 => (spec_l00Src_among.f (⟨a0.code, y19, y20⟩ : l00Src) ([0, 3, 5, 7, 100] : List Int)).bind fun t47 => (chk (y24.length + ([IntKind.i16.wrap t47.1] : List Int).length ≤ 4294967296)).bind fun u49 => (chk (y27.length + ([0] : List Int).length ≤ 4294967296)).bind fun u57 => (spec_l06Drawn.l2 a0 t4 y18 y21 y24 t41 t47 k (y27 ++ ([0] : List Int)) 0 t47.2.at_ t47.2.seed).bind fun (y60, y61, y62) => some (y21 ++ ([t41] : List ByteArray), y24 ++ ([IntKind.i16.wrap t47.1] : List Int), y60, y61, y62)).bind fun (y30, y33, y36, y39, y40) => spec_l06Drawn.l1 a0 t4 t5 t6 k (IntKind.i64.wrap (y18 + 1)) y39 y40 y30 y33 y36) else (some (y21, y24, y27, y19, y20))
def spec_l06Drawn.f (k : Nat) (a0 : l00Src) (a1 : Int) : Option (Herd × l00Src) := (spec_l00Src_pick.f a0 5).bind fun t4 => (spec_l00Src_pick.f (⟨a0.code, t4.2.at_, t4.2.seed⟩ : l00Src) 14).bind fun t5 => (spec_l00Src_pick.f (⟨a0.code, t5.2.at_, t5.2.seed⟩ : l00Src) (IntKind.i64.wrap (a1 + 1))).bind fun t6 => (spec_l06Drawn.l1 a0 t4 t5 t6 k 0 t6.2.at_ t6.2.seed ([] : List ByteArray) ([] : List Int) ([] : List Int)).bind fun (y7, y10, y13, y16, y17) => some ((⟨y7, y10, y13⟩ : Herd), (⟨a0.code, y16, y17⟩ : l00Src))
theorem spec_l06Drawn.c (k : Nat) (w : World) (Aa0_0 : Option Addr) (ca0_0 : Nat) (a0 : l00Src) (ba0 : Nat) (a1 : Int) (hin : St w (fpU [box ba0 ([.slice Aa0_0 a0.code.length ca0_0, .int .i64 a0.at_, .int .u64 a0.seed]) 81]) w [box ba0 ([.slice Aa0_0 a0.code.length ca0_0, .int .i64 a0.at_, .int .u64 a0.seed]) 81] [roC (ci .u8) Aa0_0 ca0_0 a0.code]) (r : Herd × l00Src) (H : spec_l06Drawn.f k a0 a1 = some r) :
    CV Tryz.prog 23 [.pointer (some ⟨ba0, 0, none⟩), .int .i64 a1].toArray w fun v w' => ∃ (A0_0 : Option Addr) (c0_0 : Nat) (A0_1 : Option Addr) (c0_1 : Nat) (A0_2 : Option Addr) (c0_2 : Nat), v = .agg [.slice A0_0 r.1.Names.length c0_0, .slice A0_1 r.1.Eats.length c0_1, .slice A0_2 r.1.Foes.length c0_2].toArray ∧ St w (fpU [box ba0 ([.slice Aa0_0 a0.code.length ca0_0, .int .i64 a0.at_, .int .u64 a0.seed]) 81]) w' [box ba0 ([.slice Aa0_0 a0.code.length ca0_0, .int .i64 r.2.at_, .int .u64 r.2.seed]) 81, rowC G.cs A0_0 c0_0 9 r.1.Names, rowC (ci .i16) A0_1 c0_1 45 r.1.Eats, rowC (ci .u16) A0_2 c0_2 64 r.1.Foes] [] := by
  have hS := hin
  unfold spec_l06Drawn.f at H
  refine CV.body Tryz.func23 rfl Tryz.ntmps23 rfl ?_
  refine CJ.seq ?_
  refine CJ.region ?_
  refine OJ.ef rfl rfl rfl (Ef.alloc hS tI_ok rfl rfl ([.slice none 0 0, .slice none 0 0, .slice none 0 0]) rfl) ?_
  rintro _ w1 ⟨b1, rfl, hS⟩
  refine OJ.nil (EJ.next ?_)
  refine CJ.seq ?_
  refine CJ.region ?_
  refine OJ.ef rfl rfl rfl (Ef.lit tU_ok tI_ok hS (C := G.cs) rfl rfl rfl rfl rfl rfl ([(⟨#[97, 100, 97]⟩ : ByteArray), (⟨#[98, 101, 108]⟩ : ByteArray), (⟨#[99, 121, 100]⟩ : ByteArray), (⟨#[100, 111, 116]⟩ : ByteArray), (⟨#[101, 118, 97]⟩ : ByteArray), (⟨#[102, 97, 121]⟩ : ByteArray), (⟨#[103, 105, 108]⟩ : ByteArray), (⟨#[104, 111, 98]⟩ : ByteArray), (⟨#[105, 118, 111]⟩ : ByteArray), (⟨#[106, 97, 110]⟩ : ByteArray), (⟨#[107, 105, 116]⟩ : ByteArray), (⟨#[108, 111, 117]⟩ : ByteArray), (⟨#[109, 97, 120]⟩ : ByteArray), (⟨#[110, 97, 110]⟩ : ByteArray)] : List ByteArray) rfl rfl rfl rfl) ?_
  rintro _ w1 ⟨A2, rfl, hS⟩
  refine OJ.pures tU_ok 1 rfl ?_
  refine OJ.nil (EJ.next ?_)
  refine CJ.seq ?_
  refine CJ.region ?_
  refine OJ.st rfl rfl rfl (SR.build' tU_ok tI_ok rfl rfl rfl (zs := [.slice none 0 0, .slice none 0 0, .slice none 0 0]) rfl rfl rfl ([.slice none 0 0, .slice none 0 0, .slice none 0 0]) rfl) ?_
  refine OJ.ef rfl rfl rfl (Ef.alloc hS tI_ok rfl rfl ([.slice none 0 0, .slice none 0 0, .slice none 0 0]) rfl) ?_
  rintro _ w1 ⟨b3, rfl, hS⟩
  refine OJ.es rfl rfl (Es.store tI_ok hS (i := 3) (vs := [.slice none 0 0, .slice none 0 0, .slice none 0 0]) rfl rfl rfl rfl rfl rfl rfl rfl (by intro u hu; simp only [List.mem_cons, List.not_mem_nil, or_false] at hu; rcases hu with rfl | rfl | rfl <;> rfl) (Nat.le_of_ble_eq_true rfl) ([.slice none 0 0, .slice none 0 0, .slice none 0 0]) rfl) ?_
  intro w1 hS
  refine OJ.nil (EJ.next ?_)
  refine CJ.seq ?_
  refine CJ.region ?_
  refine OJ.pures tU_ok 1 rfl ?_
  obtain ⟨t4, ht4, H⟩ := pbind H
  refine OJ.callF rfl rfl rfl rfl rfl hb25 rfl (spec_l00Src_pick.c _ Aa0_0 ca0_0 a0 ba0 5 ((hS.subs [0] [0] [] rfl).pick [0] [0] rfl) _ ht4) ?_
  rintro _ w1 ⟨rfl, hs⟩
  replace hS := hS.back [0] rfl rfl [box ba0 ([.slice Aa0_0 a0.code.length ca0_0, .int .i64 t4.2.at_, .int .u64 t4.2.seed]) 81] [] hs ⟨fun _ => Iff.rfl, trivial⟩
  refine OJ.pures tU_ok 2 rfl ?_
  refine OJ.nil (EJ.next ?_)
  refine CJ.seq ?_
  refine CJ.region ?_
  refine OJ.pures tU_ok 1 rfl ?_
  obtain ⟨t5, ht5, H⟩ := pbind H
  refine OJ.callF rfl rfl rfl rfl rfl hb25 rfl (spec_l00Src_pick.c _ Aa0_0 ca0_0 (⟨a0.code, t4.2.at_, t4.2.seed⟩ : l00Src) ba0 14 ((hS.subs [0] [0] [] rfl).pick [0] [0] rfl) _ ht5) ?_
  rintro _ w1 ⟨rfl, hs⟩
  replace hS := hS.back [0] rfl rfl [box ba0 ([.slice Aa0_0 a0.code.length ca0_0, .int .i64 t5.2.at_, .int .u64 t5.2.seed]) 81] [] hs ⟨fun _ => Iff.rfl, trivial⟩
  refine OJ.pures tU_ok 1 rfl ?_
  refine OJ.nil (EJ.next ?_)
  refine CJ.seq ?_
  refine CJ.region ?_
  refine OJ.pures tU_ok 3 rfl ?_
  obtain ⟨t6, ht6, H⟩ := pbind H
  refine OJ.callF rfl rfl rfl rfl rfl hb25 rfl (spec_l00Src_pick.c _ Aa0_0 ca0_0 (⟨a0.code, t5.2.at_, t5.2.seed⟩ : l00Src) ba0 (IntKind.i64.wrap (a1 + 1)) ((hS.subs [0] [0] [] rfl).pick [0] [0] rfl) _ ht6) ?_
  rintro _ w1 ⟨rfl, hs⟩
  replace hS := hS.back [0] rfl rfl [box ba0 ([.slice Aa0_0 a0.code.length ca0_0, .int .i64 t6.2.at_, .int .u64 t6.2.seed]) 81] [] hs ⟨fun _ => Iff.rfl, trivial⟩
  refine OJ.pures tU_ok 1 rfl ?_
  refine OJ.nil (EJ.next ?_)
  refine CJ.seq ?_
  refine CJ.seq ?_
  refine CJ.region ?_
  refine OJ.pures tU_ok 1 rfl ?_
  refine OJ.nil (EJ.next ?_)
  obtain ⟨j1, H, K1⟩ := pbind H
  refine CJ.cut1 (fun F w1 => ∃ (y7 : List ByteArray) (y10 : List Int) (y13 : List Int) (y16 : Int) (y17 : Int) (A8 : Option Addr) (c9 : Nat) (A11 : Option Addr) (c12 : Nat) (A14 : Option Addr) (c15 : Nat), (some (y7, y10, y13, y16, y17) : Option ((List ByteArray) × (List Int) × (List Int) × Int × Int)) = some j1 ∧ F = [(4, .pointer (some ⟨b1, 0, none⟩)), (6, .pointer (some ⟨b3, 0, none⟩))] ∧ St w (fpU [box ba0 ([.slice Aa0_0 a0.code.length ca0_0, .int .i64 a0.at_, .int .u64 a0.seed]) 81]) w1 [box ba0 ([.slice Aa0_0 a0.code.length ca0_0, .int .i64 y16, .int .u64 y17]) 81, box b1 ([.slice none 0 0, .slice none 0 0, .slice none 0 0]) 28, box b3 ([.slice A8 y7.length c9, .slice A11 y10.length c12, .slice A14 y13.length c15]) 28, rowC G.cs A8 c9 9 y7, rowC (ci .i16) A11 c12 45 y10, rowC (ci .u16) A14 c15 64 y13] [roC (ci .u8) Aa0_0 ca0_0 a0.code]) ?_ ?_
  · skip
    refine CJ.block ?_
    replace hS := hS.addNil G.cs 9 none
    replace hS := hS.addNil (ci .i16) 45 none
    replace hS := hS.addNil (ci .u16) 64 none
    refine CJ.loop (fun k F w1 => ∃ (y18 : Int) (y19 : Int) (y20 : Int) (y21 : List ByteArray) (y24 : List Int) (y27 : List Int) (A22 : Option Addr) (c23 : Nat) (A25 : Option Addr) (c26 : Nat) (A28 : Option Addr) (c29 : Nat), F = [(0, .pointer (some ⟨ba0, 0, none⟩)), (4, .pointer (some ⟨b1, 0, none⟩)), (5, .slice A2 ([(⟨#[97, 100, 97]⟩ : ByteArray), (⟨#[98, 101, 108]⟩ : ByteArray), (⟨#[99, 121, 100]⟩ : ByteArray), (⟨#[100, 111, 116]⟩ : ByteArray), (⟨#[101, 118, 97]⟩ : ByteArray), (⟨#[102, 97, 121]⟩ : ByteArray), (⟨#[103, 105, 108]⟩ : ByteArray), (⟨#[104, 111, 98]⟩ : ByteArray), (⟨#[105, 118, 111]⟩ : ByteArray), (⟨#[106, 97, 110]⟩ : ByteArray), (⟨#[107, 105, 116]⟩ : ByteArray), (⟨#[108, 111, 117]⟩ : ByteArray), (⟨#[109, 97, 120]⟩ : ByteArray), (⟨#[110, 97, 110]⟩ : ByteArray)] : List ByteArray).length (([(⟨#[97, 100, 97]⟩ : ByteArray), (⟨#[98, 101, 108]⟩ : ByteArray), (⟨#[99, 121, 100]⟩ : ByteArray), (⟨#[100, 111, 116]⟩ : ByteArray), (⟨#[101, 118, 97]⟩ : ByteArray), (⟨#[102, 97, 121]⟩ : ByteArray), (⟨#[103, 105, 108]⟩ : ByteArray), (⟨#[104, 111, 98]⟩ : ByteArray), (⟨#[105, 118, 111]⟩ : ByteArray), (⟨#[106, 97, 110]⟩ : ByteArray), (⟨#[107, 105, 116]⟩ : ByteArray), (⟨#[108, 111, 117]⟩ : ByteArray), (⟨#[109, 97, 120]⟩ : ByteArray), (⟨#[110, 97, 110]⟩ : ByteArray)] : List ByteArray).length)), (6, .pointer (some ⟨b3, 0, none⟩)), (7, .int .i64 (IntKind.i64.wrap (1 + t4.1))), (8, .int .i64 t5.1), (9, .int .i64 t6.1), (10, .int .i64 y18)] ∧ St w (fpU [box ba0 ([.slice Aa0_0 a0.code.length ca0_0, .int .i64 a0.at_, .int .u64 a0.seed]) 81]) w1 [box ba0 ([.slice Aa0_0 a0.code.length ca0_0, .int .i64 y19, .int .u64 y20]) 81, box b1 ([.slice none 0 0, .slice none 0 0, .slice none 0 0]) 28, rowC G.cs A2 (([(⟨#[97, 100, 97]⟩ : ByteArray), (⟨#[98, 101, 108]⟩ : ByteArray), (⟨#[99, 121, 100]⟩ : ByteArray), (⟨#[100, 111, 116]⟩ : ByteArray), (⟨#[101, 118, 97]⟩ : ByteArray), (⟨#[102, 97, 121]⟩ : ByteArray), (⟨#[103, 105, 108]⟩ : ByteArray), (⟨#[104, 111, 98]⟩ : ByteArray), (⟨#[105, 118, 111]⟩ : ByteArray), (⟨#[106, 97, 110]⟩ : ByteArray), (⟨#[107, 105, 116]⟩ : ByteArray), (⟨#[108, 111, 117]⟩ : ByteArray), (⟨#[109, 97, 120]⟩ : ByteArray), (⟨#[110, 97, 110]⟩ : ByteArray)] : List ByteArray).length) 9 ([(⟨#[97, 100, 97]⟩ : ByteArray), (⟨#[98, 101, 108]⟩ : ByteArray), (⟨#[99, 121, 100]⟩ : ByteArray), (⟨#[100, 111, 116]⟩ : ByteArray), (⟨#[101, 118, 97]⟩ : ByteArray), (⟨#[102, 97, 121]⟩ : ByteArray), (⟨#[103, 105, 108]⟩ : ByteArray), (⟨#[104, 111, 98]⟩ : ByteArray), (⟨#[105, 118, 111]⟩ : ByteArray), (⟨#[106, 97, 110]⟩ : ByteArray), (⟨#[107, 105, 116]⟩ : ByteArray), (⟨#[108, 111, 117]⟩ : ByteArray), (⟨#[109, 97, 120]⟩ : ByteArray), (⟨#[110, 97, 110]⟩ : ByteArray)] : List ByteArray), box b3 ([.slice A22 y21.length c23, .slice A25 y24.length c26, .slice A28 y27.length c29]) 28, rowC G.cs A22 c23 9 y21, rowC (ci .i16) A25 c26 45 y24, rowC (ci .u16) A28 c29 64 y27] [roC (ci .u8) Aa0_0 ca0_0 a0.code] ∧ spec_l06Drawn.l1 a0 t4 t5 t6 k y18 y19 y20 y21 y24 y27 = some j1) k (F' := [(0, .pointer (some ⟨ba0, 0, none⟩)), (4, .pointer (some ⟨b1, 0, none⟩)), (5, .slice A2 ([(⟨#[97, 100, 97]⟩ : ByteArray), (⟨#[98, 101, 108]⟩ : ByteArray), (⟨#[99, 121, 100]⟩ : ByteArray), (⟨#[100, 111, 116]⟩ : ByteArray), (⟨#[101, 118, 97]⟩ : ByteArray), (⟨#[102, 97, 121]⟩ : ByteArray), (⟨#[103, 105, 108]⟩ : ByteArray), (⟨#[104, 111, 98]⟩ : ByteArray), (⟨#[105, 118, 111]⟩ : ByteArray), (⟨#[106, 97, 110]⟩ : ByteArray), (⟨#[107, 105, 116]⟩ : ByteArray), (⟨#[108, 111, 117]⟩ : ByteArray), (⟨#[109, 97, 120]⟩ : ByteArray), (⟨#[110, 97, 110]⟩ : ByteArray)] : List ByteArray).length (([(⟨#[97, 100, 97]⟩ : ByteArray), (⟨#[98, 101, 108]⟩ : ByteArray), (⟨#[99, 121, 100]⟩ : ByteArray), (⟨#[100, 111, 116]⟩ : ByteArray), (⟨#[101, 118, 97]⟩ : ByteArray), (⟨#[102, 97, 121]⟩ : ByteArray), (⟨#[103, 105, 108]⟩ : ByteArray), (⟨#[104, 111, 98]⟩ : ByteArray), (⟨#[105, 118, 111]⟩ : ByteArray), (⟨#[106, 97, 110]⟩ : ByteArray), (⟨#[107, 105, 116]⟩ : ByteArray), (⟨#[108, 111, 117]⟩ : ByteArray), (⟨#[109, 97, 120]⟩ : ByteArray), (⟨#[110, 97, 110]⟩ : ByteArray)] : List ByteArray).length)), (6, .pointer (some ⟨b3, 0, none⟩)), (7, .int .i64 (IntKind.i64.wrap (1 + t4.1))), (8, .int .i64 t5.1), (9, .int .i64 t6.1), (10, .int .i64 0)]) ⟨rfl, rfl, rfl, rfl, rfl, rfl, rfl, rfl, trivial⟩ ⟨0, t6.2.at_, t6.2.seed, ([] : List ByteArray), ([] : List Int), ([] : List Int), none, 0, none, 0, none, 0, rfl, hS.pick [0, 1, 2, 3, 4, 5, 6] [0] rfl, H⟩ ?_
    rintro k F w1 ⟨y18, y19, y20, y21, y24, y27, A22, c23, A25, c26, A28, c29, rfl, hS, H⟩
    cases k with
    | zero => rw [spec_l06Drawn.l1] at H; cases H
    | succ k =>
      rw [spec_l06Drawn.l1] at H
      refine CJ.seq ?_
      refine CJ.seq ?_
      refine CJ.region ?_
      refine OJ.pures tU_ok 3 rfl ?_
      refine OJ.nil (EJ.next ?_)
      refine CJ.cond rfl (fun hb => ?_) (fun hb => ?_)
      · replace H := pif_t (of_decide_eq_true hb) H
        refine CJ.skip (EJ.next ?_)
        obtain ⟨j8, H, K8⟩ := pbind H
        refine CJ.cut (fun F w1 => ∃ (y30 : List ByteArray) (y33 : List Int) (y36 : List Int) (y39 : Int) (y40 : Int) (A31 : Option Addr) (c32 : Nat) (A34 : Option Addr) (c35 : Nat) (A37 : Option Addr) (c38 : Nat), (some (y30, y33, y36, y39, y40) : Option ((List ByteArray) × (List Int) × (List Int) × Int × Int)) = some j8 ∧ F = [(0, .pointer (some ⟨ba0, 0, none⟩)), (4, .pointer (some ⟨b1, 0, none⟩)), (5, .slice A2 ([(⟨#[97, 100, 97]⟩ : ByteArray), (⟨#[98, 101, 108]⟩ : ByteArray), (⟨#[99, 121, 100]⟩ : ByteArray), (⟨#[100, 111, 116]⟩ : ByteArray), (⟨#[101, 118, 97]⟩ : ByteArray), (⟨#[102, 97, 121]⟩ : ByteArray), (⟨#[103, 105, 108]⟩ : ByteArray), (⟨#[104, 111, 98]⟩ : ByteArray), (⟨#[105, 118, 111]⟩ : ByteArray), (⟨#[106, 97, 110]⟩ : ByteArray), (⟨#[107, 105, 116]⟩ : ByteArray), (⟨#[108, 111, 117]⟩ : ByteArray), (⟨#[109, 97, 120]⟩ : ByteArray), (⟨#[110, 97, 110]⟩ : ByteArray)] : List ByteArray).length (([(⟨#[97, 100, 97]⟩ : ByteArray), (⟨#[98, 101, 108]⟩ : ByteArray), (⟨#[99, 121, 100]⟩ : ByteArray), (⟨#[100, 111, 116]⟩ : ByteArray), (⟨#[101, 118, 97]⟩ : ByteArray), (⟨#[102, 97, 121]⟩ : ByteArray), (⟨#[103, 105, 108]⟩ : ByteArray), (⟨#[104, 111, 98]⟩ : ByteArray), (⟨#[105, 118, 111]⟩ : ByteArray), (⟨#[106, 97, 110]⟩ : ByteArray), (⟨#[107, 105, 116]⟩ : ByteArray), (⟨#[108, 111, 117]⟩ : ByteArray), (⟨#[109, 97, 120]⟩ : ByteArray), (⟨#[110, 97, 110]⟩ : ByteArray)] : List ByteArray).length)), (6, .pointer (some ⟨b3, 0, none⟩)), (7, .int .i64 (IntKind.i64.wrap (1 + t4.1))), (8, .int .i64 t5.1), (9, .int .i64 t6.1), (10, .int .i64 y18)] ∧ St w (fpU [box ba0 ([.slice Aa0_0 a0.code.length ca0_0, .int .i64 a0.at_, .int .u64 a0.seed]) 81]) w1 [box ba0 ([.slice Aa0_0 a0.code.length ca0_0, .int .i64 y39, .int .u64 y40]) 81, box b1 ([.slice none 0 0, .slice none 0 0, .slice none 0 0]) 28, rowC G.cs A2 (([(⟨#[97, 100, 97]⟩ : ByteArray), (⟨#[98, 101, 108]⟩ : ByteArray), (⟨#[99, 121, 100]⟩ : ByteArray), (⟨#[100, 111, 116]⟩ : ByteArray), (⟨#[101, 118, 97]⟩ : ByteArray), (⟨#[102, 97, 121]⟩ : ByteArray), (⟨#[103, 105, 108]⟩ : ByteArray), (⟨#[104, 111, 98]⟩ : ByteArray), (⟨#[105, 118, 111]⟩ : ByteArray), (⟨#[106, 97, 110]⟩ : ByteArray), (⟨#[107, 105, 116]⟩ : ByteArray), (⟨#[108, 111, 117]⟩ : ByteArray), (⟨#[109, 97, 120]⟩ : ByteArray), (⟨#[110, 97, 110]⟩ : ByteArray)] : List ByteArray).length) 9 ([(⟨#[97, 100, 97]⟩ : ByteArray), (⟨#[98, 101, 108]⟩ : ByteArray), (⟨#[99, 121, 100]⟩ : ByteArray), (⟨#[100, 111, 116]⟩ : ByteArray), (⟨#[101, 118, 97]⟩ : ByteArray), (⟨#[102, 97, 121]⟩ : ByteArray), (⟨#[103, 105, 108]⟩ : ByteArray), (⟨#[104, 111, 98]⟩ : ByteArray), (⟨#[105, 118, 111]⟩ : ByteArray), (⟨#[106, 97, 110]⟩ : ByteArray), (⟨#[107, 105, 116]⟩ : ByteArray), (⟨#[108, 111, 117]⟩ : ByteArray), (⟨#[109, 97, 120]⟩ : ByteArray), (⟨#[110, 97, 110]⟩ : ByteArray)] : List ByteArray), box b3 ([.slice A31 y30.length c32, .slice A34 y33.length c35, .slice A37 y36.length c38]) 28, rowC G.cs A31 c32 9 y30, rowC (ci .i16) A34 c35 45 y33, rowC (ci .u16) A37 c38 64 y36] [roC (ci .u8) Aa0_0 ca0_0 a0.code]) ?_ ?_
        · skip
          refine CJ.block ?_
          refine CJ.seq ?_
          refine CJ.draw [] [0, 1, 2, 3, 4, 5, 6, 7, 8, 9, 10, 11, 12] mixed (by kernel_rfl) hS fun w1 hS => ?_
          refine DJ.st rfl rfl rfl rfl rfl (SR.fieldAddr tU_ok tI_ok rfl rfl rfl rfl rfl rfl) ?_
          refine DJ.st rfl rfl rfl rfl rfl (SR.load rfl rfl (fun w' hx => ld1 tU_ok rfl rfl (CA.ext (CA.sub (hS.cells (i := 3) rfl) 0) hx) rfl)) ?_
          refine DJ.pures tU_ok 4 rfl ?_
          refine DJ.st rfl rfl rfl rfl rfl (SR.rem rfl rfl rfl (by decide)) ?_
          obtain ⟨t41, ht41, H⟩ := pbind H
          obtain ⟨ad41, e41⟩ := (hS.rd (i := 2) rfl).some' ht41
          refine DJ.st rfl rfl rfl rfl rfl (SR.idxS tU_ok tI_ok rfl rfl rfl rfl e41 rfl (getI_some ht41).1) ?_
          refine DJ.st rfl rfl rfl rfl rfl (SR.load rfl rfl (fun w' hx => ld1 tU_ok rfl rfl (CA.ext ((hS.rd (i := 2) rfl).at_ e41 ht41) hx) rfl)) ?_
          refine DJ.ef rfl rfl rfl rfl rfl (Ef.lit tU_ok tI_ok hS (C := G.cs) rfl rfl rfl rfl rfl rfl ([t41] : List ByteArray) rfl rfl rfl rfl) ?_
          rintro _ w1 ⟨A42, rfl, hS⟩
          obtain ⟨u43, hu43, H⟩ := pbind H
          refine DJ.ew rfl rfl rfl rfl rfl (Ew.append tU_ok tI_ok (C := G.cs) (xs := y21) (ys := ([t41] : List ByteArray)) hS (i := 4) rfl rfl rfl rfl rfl rfl rfl rfl rfl rfl rfl rfl rfl (hS.rd (i := 7) rfl) (chk_some hu43)) ?_
          rintro _ w1 ⟨A44, c45, rfl, hS⟩
          refine DJ.st rfl rfl rfl rfl rfl (SR.fieldAddr tU_ok tI_ok rfl rfl rfl rfl rfl rfl) ?_
          refine DJ.es rfl rfl rfl rfl (Es.store tI_ok hS (i := 3) (vs := [.slice A44 (y21 ++ ([t41] : List ByteArray)).length c45]) rfl rfl rfl (G.ad1 _ _) rfl rfl rfl rfl (one1 rfl) (Nat.le_of_ble_eq_true rfl) ([.slice A44 (y21 ++ ([t41] : List ByteArray)).length c45, .slice A25 y24.length c26, .slice A28 y27.length c29]) rfl) ?_
          intro w1 hS
          refine DJ.nil (EJ.next ?_)
          refine CJ.seq ?_
          obtain ⟨t47, ht47, H⟩ := pbind H
          obtain ⟨u49, hu49, H⟩ := pbind H
          refine CJ.cut1 (fun F w1 => ∃ (A46 : Option Addr) (A48 : Option Addr) (A50 : Option Addr) (c51 : Nat), F = [(0, .pointer (some ⟨ba0, 0, none⟩)), (4, .pointer (some ⟨b1, 0, none⟩)), (5, .slice A2 ([(⟨#[97, 100, 97]⟩ : ByteArray), (⟨#[98, 101, 108]⟩ : ByteArray), (⟨#[99, 121, 100]⟩ : ByteArray), (⟨#[100, 111, 116]⟩ : ByteArray), (⟨#[101, 118, 97]⟩ : ByteArray), (⟨#[102, 97, 121]⟩ : ByteArray), (⟨#[103, 105, 108]⟩ : ByteArray), (⟨#[104, 111, 98]⟩ : ByteArray), (⟨#[105, 118, 111]⟩ : ByteArray), (⟨#[106, 97, 110]⟩ : ByteArray), (⟨#[107, 105, 116]⟩ : ByteArray), (⟨#[108, 111, 117]⟩ : ByteArray), (⟨#[109, 97, 120]⟩ : ByteArray), (⟨#[110, 97, 110]⟩ : ByteArray)] : List ByteArray).length (([(⟨#[97, 100, 97]⟩ : ByteArray), (⟨#[98, 101, 108]⟩ : ByteArray), (⟨#[99, 121, 100]⟩ : ByteArray), (⟨#[100, 111, 116]⟩ : ByteArray), (⟨#[101, 118, 97]⟩ : ByteArray), (⟨#[102, 97, 121]⟩ : ByteArray), (⟨#[103, 105, 108]⟩ : ByteArray), (⟨#[104, 111, 98]⟩ : ByteArray), (⟨#[105, 118, 111]⟩ : ByteArray), (⟨#[106, 97, 110]⟩ : ByteArray), (⟨#[107, 105, 116]⟩ : ByteArray), (⟨#[108, 111, 117]⟩ : ByteArray), (⟨#[109, 97, 120]⟩ : ByteArray), (⟨#[110, 97, 110]⟩ : ByteArray)] : List ByteArray).length)), (6, .pointer (some ⟨b3, 0, none⟩)), (7, .int .i64 (IntKind.i64.wrap (1 + t4.1))), (8, .int .i64 t5.1), (9, .int .i64 t6.1), (10, .int .i64 y18)] ∧ St w (fpU [box ba0 ([.slice Aa0_0 a0.code.length ca0_0, .int .i64 a0.at_, .int .u64 a0.seed]) 81]) w1 [box ba0 ([.slice Aa0_0 a0.code.length ca0_0, .int .i64 t47.2.at_, .int .u64 t47.2.seed]) 81, box b1 ([.slice none 0 0, .slice none 0 0, .slice none 0 0]) 28, rowC G.cs A2 (([(⟨#[97, 100, 97]⟩ : ByteArray), (⟨#[98, 101, 108]⟩ : ByteArray), (⟨#[99, 121, 100]⟩ : ByteArray), (⟨#[100, 111, 116]⟩ : ByteArray), (⟨#[101, 118, 97]⟩ : ByteArray), (⟨#[102, 97, 121]⟩ : ByteArray), (⟨#[103, 105, 108]⟩ : ByteArray), (⟨#[104, 111, 98]⟩ : ByteArray), (⟨#[105, 118, 111]⟩ : ByteArray), (⟨#[106, 97, 110]⟩ : ByteArray), (⟨#[107, 105, 116]⟩ : ByteArray), (⟨#[108, 111, 117]⟩ : ByteArray), (⟨#[109, 97, 120]⟩ : ByteArray), (⟨#[110, 97, 110]⟩ : ByteArray)] : List ByteArray).length) 9 ([(⟨#[97, 100, 97]⟩ : ByteArray), (⟨#[98, 101, 108]⟩ : ByteArray), (⟨#[99, 121, 100]⟩ : ByteArray), (⟨#[100, 111, 116]⟩ : ByteArray), (⟨#[101, 118, 97]⟩ : ByteArray), (⟨#[102, 97, 121]⟩ : ByteArray), (⟨#[103, 105, 108]⟩ : ByteArray), (⟨#[104, 111, 98]⟩ : ByteArray), (⟨#[105, 118, 111]⟩ : ByteArray), (⟨#[106, 97, 110]⟩ : ByteArray), (⟨#[107, 105, 116]⟩ : ByteArray), (⟨#[108, 111, 117]⟩ : ByteArray), (⟨#[109, 97, 120]⟩ : ByteArray), (⟨#[110, 97, 110]⟩ : ByteArray)] : List ByteArray), box b3 ([.slice A44 (y21 ++ ([t41] : List ByteArray)).length c45, .slice A50 (y24 ++ ([IntKind.i16.wrap t47.1] : List Int)).length c51, .slice A28 y27.length c29]) 28, rowC G.cs A44 c45 9 (y21 ++ ([t41] : List ByteArray)), rowC (ci .i16) A50 c51 45 (y24 ++ ([IntKind.i16.wrap t47.1] : List Int)), rowC (ci .u16) A28 c29 64 y27, rowC G.cs A42 (([t41] : List ByteArray).length) 9 ([t41] : List ByteArray), rowC (ci .i64) A46 (([0, 3, 5, 7, 100] : List Int).length) 2 ([0, 3, 5, 7, 100] : List Int), rowC (ci .i16) A48 (([IntKind.i16.wrap t47.1] : List Int).length) 45 ([IntKind.i16.wrap t47.1] : List Int)] [roC (ci .u8) Aa0_0 ca0_0 a0.code]) ?_ ?_
          · skip
            refine CJ.drawT [9] [3, 4, 6, 7] (.one 0 (.one 1 (.one 2 (.one 3 (.one 4 (.one 5 (.one 6 (.one 7 (.one 8 (.one 9 (.fin))))))))))) mixed (by kernel_rfl) hS [3] fun w1 hS hY hV => ?_
            refine TJ.sp rfl rfl rfl rfl rfl (fun w2 => SR.fieldAddr tU_ok tI_ok rfl rfl rfl rfl rfl rfl) ?_
            refine TJ.st hY rfl rfl rfl rfl rfl (fun w2 hY => SR.load rfl rfl (fun w' hx => ld1 tU_ok rfl rfl (CA.ext (CA.sub ((hV w2 hY).cellsR (i := 1) rfl) 1) hx) rfl)) ?_
            refine TJ.pures tU_ok 1 rfl ?_
            refine TJ.ef hY rfl rfl rfl rfl rfl (Ef.lit tU_ok tI_ok hS (C := (ci .i64)) rfl rfl rfl rfl rfl rfl ([0, 3, 5, 7, 100] : List Int) rfl rfl rfl rfl) ?_
            rintro _ w1 hY ⟨A52, rfl, hS⟩
            refine TJ.callFw rfl rfl rfl rfl rfl rfl rfl hb55 rfl (spec_l00Src_among.c _ Aa0_0 ca0_0 (⟨a0.code, y19, y20⟩ : l00Src) ba0 A52 (([0, 3, 5, 7, 100] : List Int).length) ([0, 3, 5, 7, 100] : List Int) (((hS.subs [0] [0] [8] rfl).rToRo (i := 1) rfl).pick [0] [0, 1] rfl) _ ht47) (by rintro _ w1 ⟨rfl, hs⟩; exact hY.wr (hS.inP [3] 1 rfl rfl [0] rfl) hs.chg) ?_
            rintro _ w1 hY ⟨rfl, hs⟩
            replace hS := hS.back [0] rfl rfl [box ba0 ([.slice Aa0_0 a0.code.length ca0_0, .int .i64 t47.2.at_, .int .u64 t47.2.seed]) 81] [] hs ⟨fun _ => Iff.rfl, trivial⟩
            have hS : St w (fpU [box ba0 ([.slice Aa0_0 a0.code.length ca0_0, .int .i64 a0.at_, .int .u64 a0.seed]) 81]) w1 [box ba0 ([.slice Aa0_0 a0.code.length ca0_0, .int .i64 t47.2.at_, .int .u64 t47.2.seed]) 81, box b1 ([.slice none 0 0, .slice none 0 0, .slice none 0 0]) 28, rowC G.cs A2 (([(⟨#[97, 100, 97]⟩ : ByteArray), (⟨#[98, 101, 108]⟩ : ByteArray), (⟨#[99, 121, 100]⟩ : ByteArray), (⟨#[100, 111, 116]⟩ : ByteArray), (⟨#[101, 118, 97]⟩ : ByteArray), (⟨#[102, 97, 121]⟩ : ByteArray), (⟨#[103, 105, 108]⟩ : ByteArray), (⟨#[104, 111, 98]⟩ : ByteArray), (⟨#[105, 118, 111]⟩ : ByteArray), (⟨#[106, 97, 110]⟩ : ByteArray), (⟨#[107, 105, 116]⟩ : ByteArray), (⟨#[108, 111, 117]⟩ : ByteArray), (⟨#[109, 97, 120]⟩ : ByteArray), (⟨#[110, 97, 110]⟩ : ByteArray)] : List ByteArray).length) 9 ([(⟨#[97, 100, 97]⟩ : ByteArray), (⟨#[98, 101, 108]⟩ : ByteArray), (⟨#[99, 121, 100]⟩ : ByteArray), (⟨#[100, 111, 116]⟩ : ByteArray), (⟨#[101, 118, 97]⟩ : ByteArray), (⟨#[102, 97, 121]⟩ : ByteArray), (⟨#[103, 105, 108]⟩ : ByteArray), (⟨#[104, 111, 98]⟩ : ByteArray), (⟨#[105, 118, 111]⟩ : ByteArray), (⟨#[106, 97, 110]⟩ : ByteArray), (⟨#[107, 105, 116]⟩ : ByteArray), (⟨#[108, 111, 117]⟩ : ByteArray), (⟨#[109, 97, 120]⟩ : ByteArray), (⟨#[110, 97, 110]⟩ : ByteArray)] : List ByteArray), box b3 ([.slice A44 (y21 ++ ([t41] : List ByteArray)).length c45, .slice A25 y24.length c26, .slice A28 y27.length c29]) 28, rowC G.cs A44 c45 9 (y21 ++ ([t41] : List ByteArray)), rowC (ci .i16) A25 c26 45 y24, rowC (ci .u16) A28 c29 64 y27, rowC G.cs A42 (([t41] : List ByteArray).length) 9 ([t41] : List ByteArray), rowC (ci .i64) A52 (([0, 3, 5, 7, 100] : List Int).length) 2 ([0, 3, 5, 7, 100] : List Int)] [roC (ci .u8) Aa0_0 ca0_0 a0.code] := hS
            have hS : St w (fpU [box ba0 ([.slice Aa0_0 a0.code.length ca0_0, .int .i64 a0.at_, .int .u64 a0.seed]) 81]) w1 [box ba0 ([.slice Aa0_0 a0.code.length ca0_0, .int .i64 t47.2.at_, .int .u64 t47.2.seed]) 81, box b1 ([.slice none 0 0, .slice none 0 0, .slice none 0 0]) 28, rowC G.cs A2 (([(⟨#[97, 100, 97]⟩ : ByteArray), (⟨#[98, 101, 108]⟩ : ByteArray), (⟨#[99, 121, 100]⟩ : ByteArray), (⟨#[100, 111, 116]⟩ : ByteArray), (⟨#[101, 118, 97]⟩ : ByteArray), (⟨#[102, 97, 121]⟩ : ByteArray), (⟨#[103, 105, 108]⟩ : ByteArray), (⟨#[104, 111, 98]⟩ : ByteArray), (⟨#[105, 118, 111]⟩ : ByteArray), (⟨#[106, 97, 110]⟩ : ByteArray), (⟨#[107, 105, 116]⟩ : ByteArray), (⟨#[108, 111, 117]⟩ : ByteArray), (⟨#[109, 97, 120]⟩ : ByteArray), (⟨#[110, 97, 110]⟩ : ByteArray)] : List ByteArray).length) 9 ([(⟨#[97, 100, 97]⟩ : ByteArray), (⟨#[98, 101, 108]⟩ : ByteArray), (⟨#[99, 121, 100]⟩ : ByteArray), (⟨#[100, 111, 116]⟩ : ByteArray), (⟨#[101, 118, 97]⟩ : ByteArray), (⟨#[102, 97, 121]⟩ : ByteArray), (⟨#[103, 105, 108]⟩ : ByteArray), (⟨#[104, 111, 98]⟩ : ByteArray), (⟨#[105, 118, 111]⟩ : ByteArray), (⟨#[106, 97, 110]⟩ : ByteArray), (⟨#[107, 105, 116]⟩ : ByteArray), (⟨#[108, 111, 117]⟩ : ByteArray), (⟨#[109, 97, 120]⟩ : ByteArray), (⟨#[110, 97, 110]⟩ : ByteArray)] : List ByteArray), box b3 ([.slice A44 (y21 ++ ([t41] : List ByteArray)).length c45, .slice A25 y24.length c26, .slice A28 y27.length c29]) 28, rowC G.cs A44 c45 9 (y21 ++ ([t41] : List ByteArray)), rowC (ci .i16) A25 c26 45 y24, rowC (ci .u16) A28 c29 64 y27, rowC G.cs A42 (([t41] : List ByteArray).length) 9 ([t41] : List ByteArray), rowC (ci .i64) A52 (([0, 3, 5, 7, 100] : List Int).length) 2 ([0, 3, 5, 7, 100] : List Int)] [roC (ci .u8) Aa0_0 ca0_0 a0.code] := hS
            refine TJ.pures tU_ok 1 rfl ?_
            refine TJ.ef hY rfl rfl rfl rfl rfl (Ef.lit tU_ok tI_ok hS (C := (ci .i16)) rfl rfl rfl rfl rfl rfl ([IntKind.i16.wrap t47.1] : List Int) rfl rfl rfl rfl) ?_
            rintro _ w1 hY ⟨A53, rfl, hS⟩
            have hO := hS
            refine TJ.ew rfl rfl rfl rfl rfl (Ew.append tU_ok tI_ok (C := (ci .i16)) (xs := y24) (ys := ([IntKind.i16.wrap t47.1] : List Int)) (hS.inn [3]) (i := 5) rfl rfl rfl rfl rfl rfl rfl rfl rfl rfl rfl rfl rfl (hS.rd (i := 9) rfl) (chk_some hu49)) (by rintro _ w1 ⟨A54, c55, rfl, hS⟩; exact hY.wr (hO.inY [3] 1 rfl rfl) hS.chg) ?_
            rintro _ w1 hY ⟨A54, c55, rfl, hS⟩
            have hS : St w (fpU [box ba0 ([.slice Aa0_0 a0.code.length ca0_0, .int .i64 a0.at_, .int .u64 a0.seed]) 81]) w1 [box ba0 ([.slice Aa0_0 a0.code.length ca0_0, .int .i64 t47.2.at_, .int .u64 t47.2.seed]) 81, box b1 ([.slice none 0 0, .slice none 0 0, .slice none 0 0]) 28, rowC G.cs A2 (([(⟨#[97, 100, 97]⟩ : ByteArray), (⟨#[98, 101, 108]⟩ : ByteArray), (⟨#[99, 121, 100]⟩ : ByteArray), (⟨#[100, 111, 116]⟩ : ByteArray), (⟨#[101, 118, 97]⟩ : ByteArray), (⟨#[102, 97, 121]⟩ : ByteArray), (⟨#[103, 105, 108]⟩ : ByteArray), (⟨#[104, 111, 98]⟩ : ByteArray), (⟨#[105, 118, 111]⟩ : ByteArray), (⟨#[106, 97, 110]⟩ : ByteArray), (⟨#[107, 105, 116]⟩ : ByteArray), (⟨#[108, 111, 117]⟩ : ByteArray), (⟨#[109, 97, 120]⟩ : ByteArray), (⟨#[110, 97, 110]⟩ : ByteArray)] : List ByteArray).length) 9 ([(⟨#[97, 100, 97]⟩ : ByteArray), (⟨#[98, 101, 108]⟩ : ByteArray), (⟨#[99, 121, 100]⟩ : ByteArray), (⟨#[100, 111, 116]⟩ : ByteArray), (⟨#[101, 118, 97]⟩ : ByteArray), (⟨#[102, 97, 121]⟩ : ByteArray), (⟨#[103, 105, 108]⟩ : ByteArray), (⟨#[104, 111, 98]⟩ : ByteArray), (⟨#[105, 118, 111]⟩ : ByteArray), (⟨#[106, 97, 110]⟩ : ByteArray), (⟨#[107, 105, 116]⟩ : ByteArray), (⟨#[108, 111, 117]⟩ : ByteArray), (⟨#[109, 97, 120]⟩ : ByteArray), (⟨#[110, 97, 110]⟩ : ByteArray)] : List ByteArray), box b3 ([.slice A44 (y21 ++ ([t41] : List ByteArray)).length c45, .slice A25 y24.length c26, .slice A28 y27.length c29]) 28, rowC G.cs A44 c45 9 (y21 ++ ([t41] : List ByteArray)), rowC (ci .i16) A54 c55 45 (y24 ++ ([IntKind.i16.wrap t47.1] : List Int)), rowC (ci .u16) A28 c29 64 y27, rowC G.cs A42 (([t41] : List ByteArray).length) 9 ([t41] : List ByteArray), rowC (ci .i64) A52 (([0, 3, 5, 7, 100] : List Int).length) 2 ([0, 3, 5, 7, 100] : List Int), rowC (ci .i16) A53 (([IntKind.i16.wrap t47.1] : List Int).length) 45 ([IntKind.i16.wrap t47.1] : List Int)] [roC (ci .u8) Aa0_0 ca0_0 a0.code] := hO.out [3] hS
            refine TJ.sp rfl rfl rfl rfl rfl (fun w2 => SR.fieldAddr tU_ok tI_ok rfl rfl rfl rfl rfl rfl) ?_
            refine TJ.esb rfl rfl rfl rfl (Es.store tI_ok hS (i := 3) (vs := [.slice A54 (y24 ++ ([IntKind.i16.wrap t47.1] : List Int)).length c55]) rfl rfl rfl (G.ad1 _ _) rfl rfl rfl rfl (one1 rfl) (Nat.le_of_ble_eq_true rfl) ([.slice A44 (y21 ++ ([t41] : List ByteArray)).length c45, .slice A54 (y24 ++ ([IntKind.i16.wrap t47.1] : List Int)).length c55, .slice A28 y27.length c29]) rfl) ?_
            intro w1 hS
            refine TJ.nil ?_
            exact EJ.meet (F' := [(0, .pointer (some ⟨ba0, 0, none⟩)), (4, .pointer (some ⟨b1, 0, none⟩)), (5, .slice A2 ([(⟨#[97, 100, 97]⟩ : ByteArray), (⟨#[98, 101, 108]⟩ : ByteArray), (⟨#[99, 121, 100]⟩ : ByteArray), (⟨#[100, 111, 116]⟩ : ByteArray), (⟨#[101, 118, 97]⟩ : ByteArray), (⟨#[102, 97, 121]⟩ : ByteArray), (⟨#[103, 105, 108]⟩ : ByteArray), (⟨#[104, 111, 98]⟩ : ByteArray), (⟨#[105, 118, 111]⟩ : ByteArray), (⟨#[106, 97, 110]⟩ : ByteArray), (⟨#[107, 105, 116]⟩ : ByteArray), (⟨#[108, 111, 117]⟩ : ByteArray), (⟨#[109, 97, 120]⟩ : ByteArray), (⟨#[110, 97, 110]⟩ : ByteArray)] : List ByteArray).length (([(⟨#[97, 100, 97]⟩ : ByteArray), (⟨#[98, 101, 108]⟩ : ByteArray), (⟨#[99, 121, 100]⟩ : ByteArray), (⟨#[100, 111, 116]⟩ : ByteArray), (⟨#[101, 118, 97]⟩ : ByteArray), (⟨#[102, 97, 121]⟩ : ByteArray), (⟨#[103, 105, 108]⟩ : ByteArray), (⟨#[104, 111, 98]⟩ : ByteArray), (⟨#[105, 118, 111]⟩ : ByteArray), (⟨#[106, 97, 110]⟩ : ByteArray), (⟨#[107, 105, 116]⟩ : ByteArray), (⟨#[108, 111, 117]⟩ : ByteArray), (⟨#[109, 97, 120]⟩ : ByteArray), (⟨#[110, 97, 110]⟩ : ByteArray)] : List ByteArray).length)), (6, .pointer (some ⟨b3, 0, none⟩)), (7, .int .i64 (IntKind.i64.wrap (1 + t4.1))), (8, .int .i64 t5.1), (9, .int .i64 t6.1), (10, .int .i64 y18)]) ⟨rfl, rfl, rfl, rfl, rfl, rfl, rfl, rfl, trivial⟩ ⟨A52, A53, A54, c55, rfl, hS.pick [0, 1, 2, 3, 4, 5, 6, 7, 8, 9] [0] rfl⟩
          · rintro F w1 ⟨A46, A48, A50, c51, rfl, hS⟩
            refine EJ.next ?_
            refine CJ.seq ?_
            refine CJ.region ?_
            refine OJ.st rfl rfl rfl (SR.fieldAddr tU_ok tI_ok rfl rfl rfl rfl rfl rfl) ?_
            refine OJ.st rfl rfl rfl (SR.load rfl rfl (fun w' hx => ld1 tU_ok rfl rfl (CA.ext (CA.sub (hS.cells (i := 3) rfl) 2) hx) rfl)) ?_
            refine OJ.ef rfl rfl rfl (Ef.lit tU_ok tI_ok hS (C := (ci .u16)) rfl rfl rfl rfl rfl rfl ([0] : List Int) rfl rfl rfl rfl) ?_
            rintro _ w1 ⟨A56, rfl, hS⟩
            obtain ⟨u57, hu57, H⟩ := pbind H
            refine OJ.ew rfl rfl rfl (Ew.append tU_ok tI_ok (C := (ci .u16)) (xs := y27) (ys := ([0] : List Int)) hS (i := 6) rfl rfl rfl rfl rfl rfl rfl rfl rfl rfl rfl rfl rfl (hS.rd (i := 10) rfl) (chk_some hu57)) ?_
            rintro _ w1 ⟨A58, c59, rfl, hS⟩
            refine OJ.st rfl rfl rfl (SR.fieldAddr tU_ok tI_ok rfl rfl rfl rfl rfl rfl) ?_
            refine OJ.es rfl rfl (Es.store tI_ok hS (i := 3) (vs := [.slice A58 (y27 ++ ([0] : List Int)).length c59]) rfl rfl rfl (G.ad1 _ _) rfl rfl rfl rfl (one1 rfl) (Nat.le_of_ble_eq_true rfl) ([.slice A44 (y21 ++ ([t41] : List ByteArray)).length c45, .slice A50 (y24 ++ ([IntKind.i16.wrap t47.1] : List Int)).length c51, .slice A58 (y27 ++ ([0] : List Int)).length c59]) rfl) ?_
            intro w1 hS
            refine OJ.nil (EJ.next ?_)
            refine CJ.seq ?_
            refine CJ.region ?_
            refine OJ.pures tU_ok 1 rfl ?_
            refine OJ.nil (EJ.next ?_)
            obtain ⟨j10, H, K10⟩ := pbind H
            refine CJ.cut1 (fun F w1 => ∃ (y60 : List Int) (y61 : Int) (y62 : Int) , (some (y60, y61, y62) : Option ((List Int) × Int × Int)) = some j10 ∧ F = [(0, .pointer (some ⟨ba0, 0, none⟩)), (4, .pointer (some ⟨b1, 0, none⟩)), (5, .slice A2 ([(⟨#[97, 100, 97]⟩ : ByteArray), (⟨#[98, 101, 108]⟩ : ByteArray), (⟨#[99, 121, 100]⟩ : ByteArray), (⟨#[100, 111, 116]⟩ : ByteArray), (⟨#[101, 118, 97]⟩ : ByteArray), (⟨#[102, 97, 121]⟩ : ByteArray), (⟨#[103, 105, 108]⟩ : ByteArray), (⟨#[104, 111, 98]⟩ : ByteArray), (⟨#[105, 118, 111]⟩ : ByteArray), (⟨#[106, 97, 110]⟩ : ByteArray), (⟨#[107, 105, 116]⟩ : ByteArray), (⟨#[108, 111, 117]⟩ : ByteArray), (⟨#[109, 97, 120]⟩ : ByteArray), (⟨#[110, 97, 110]⟩ : ByteArray)] : List ByteArray).length (([(⟨#[97, 100, 97]⟩ : ByteArray), (⟨#[98, 101, 108]⟩ : ByteArray), (⟨#[99, 121, 100]⟩ : ByteArray), (⟨#[100, 111, 116]⟩ : ByteArray), (⟨#[101, 118, 97]⟩ : ByteArray), (⟨#[102, 97, 121]⟩ : ByteArray), (⟨#[103, 105, 108]⟩ : ByteArray), (⟨#[104, 111, 98]⟩ : ByteArray), (⟨#[105, 118, 111]⟩ : ByteArray), (⟨#[106, 97, 110]⟩ : ByteArray), (⟨#[107, 105, 116]⟩ : ByteArray), (⟨#[108, 111, 117]⟩ : ByteArray), (⟨#[109, 97, 120]⟩ : ByteArray), (⟨#[110, 97, 110]⟩ : ByteArray)] : List ByteArray).length)), (6, .pointer (some ⟨b3, 0, none⟩)), (7, .int .i64 (IntKind.i64.wrap (1 + t4.1))), (8, .int .i64 t5.1), (9, .int .i64 t6.1), (10, .int .i64 y18)] ∧ St w (fpU [box ba0 ([.slice Aa0_0 a0.code.length ca0_0, .int .i64 a0.at_, .int .u64 a0.seed]) 81]) w1 [box ba0 ([.slice Aa0_0 a0.code.length ca0_0, .int .i64 y61, .int .u64 y62]) 81, box b1 ([.slice none 0 0, .slice none 0 0, .slice none 0 0]) 28, rowC G.cs A2 (([(⟨#[97, 100, 97]⟩ : ByteArray), (⟨#[98, 101, 108]⟩ : ByteArray), (⟨#[99, 121, 100]⟩ : ByteArray), (⟨#[100, 111, 116]⟩ : ByteArray), (⟨#[101, 118, 97]⟩ : ByteArray), (⟨#[102, 97, 121]⟩ : ByteArray), (⟨#[103, 105, 108]⟩ : ByteArray), (⟨#[104, 111, 98]⟩ : ByteArray), (⟨#[105, 118, 111]⟩ : ByteArray), (⟨#[106, 97, 110]⟩ : ByteArray), (⟨#[107, 105, 116]⟩ : ByteArray), (⟨#[108, 111, 117]⟩ : ByteArray), (⟨#[109, 97, 120]⟩ : ByteArray), (⟨#[110, 97, 110]⟩ : ByteArray)] : List ByteArray).length) 9 ([(⟨#[97, 100, 97]⟩ : ByteArray), (⟨#[98, 101, 108]⟩ : ByteArray), (⟨#[99, 121, 100]⟩ : ByteArray), (⟨#[100, 111, 116]⟩ : ByteArray), (⟨#[101, 118, 97]⟩ : ByteArray), (⟨#[102, 97, 121]⟩ : ByteArray), (⟨#[103, 105, 108]⟩ : ByteArray), (⟨#[104, 111, 98]⟩ : ByteArray), (⟨#[105, 118, 111]⟩ : ByteArray), (⟨#[106, 97, 110]⟩ : ByteArray), (⟨#[107, 105, 116]⟩ : ByteArray), (⟨#[108, 111, 117]⟩ : ByteArray), (⟨#[109, 97, 120]⟩ : ByteArray), (⟨#[110, 97, 110]⟩ : ByteArray)] : List ByteArray), box b3 ([.slice A44 (y21 ++ ([t41] : List ByteArray)).length c45, .slice A50 (y24 ++ ([IntKind.i16.wrap t47.1] : List Int)).length c51, .slice A58 y60.length c59]) 28, rowC G.cs A44 c45 9 (y21 ++ ([t41] : List ByteArray)), rowC (ci .i16) A50 c51 45 (y24 ++ ([IntKind.i16.wrap t47.1] : List Int)), rowC (ci .u16) A58 c59 64 y60] [roC (ci .u8) Aa0_0 ca0_0 a0.code]) ?_ ?_
            · skip
              refine CJ.block ?_
              refine CJ.loop (fun k F w1 => ∃ (y63 : List Int) (y64 : Int) (y65 : Int) (y66 : Int), F = [(0, .pointer (some ⟨ba0, 0, none⟩)), (4, .pointer (some ⟨b1, 0, none⟩)), (5, .slice A2 ([(⟨#[97, 100, 97]⟩ : ByteArray), (⟨#[98, 101, 108]⟩ : ByteArray), (⟨#[99, 121, 100]⟩ : ByteArray), (⟨#[100, 111, 116]⟩ : ByteArray), (⟨#[101, 118, 97]⟩ : ByteArray), (⟨#[102, 97, 121]⟩ : ByteArray), (⟨#[103, 105, 108]⟩ : ByteArray), (⟨#[104, 111, 98]⟩ : ByteArray), (⟨#[105, 118, 111]⟩ : ByteArray), (⟨#[106, 97, 110]⟩ : ByteArray), (⟨#[107, 105, 116]⟩ : ByteArray), (⟨#[108, 111, 117]⟩ : ByteArray), (⟨#[109, 97, 120]⟩ : ByteArray), (⟨#[110, 97, 110]⟩ : ByteArray)] : List ByteArray).length (([(⟨#[97, 100, 97]⟩ : ByteArray), (⟨#[98, 101, 108]⟩ : ByteArray), (⟨#[99, 121, 100]⟩ : ByteArray), (⟨#[100, 111, 116]⟩ : ByteArray), (⟨#[101, 118, 97]⟩ : ByteArray), (⟨#[102, 97, 121]⟩ : ByteArray), (⟨#[103, 105, 108]⟩ : ByteArray), (⟨#[104, 111, 98]⟩ : ByteArray), (⟨#[105, 118, 111]⟩ : ByteArray), (⟨#[106, 97, 110]⟩ : ByteArray), (⟨#[107, 105, 116]⟩ : ByteArray), (⟨#[108, 111, 117]⟩ : ByteArray), (⟨#[109, 97, 120]⟩ : ByteArray), (⟨#[110, 97, 110]⟩ : ByteArray)] : List ByteArray).length)), (6, .pointer (some ⟨b3, 0, none⟩)), (7, .int .i64 (IntKind.i64.wrap (1 + t4.1))), (8, .int .i64 t5.1), (9, .int .i64 t6.1), (10, .int .i64 y18), (11, .int .i64 y64)] ∧ St w (fpU [box ba0 ([.slice Aa0_0 a0.code.length ca0_0, .int .i64 a0.at_, .int .u64 a0.seed]) 81]) w1 [box ba0 ([.slice Aa0_0 a0.code.length ca0_0, .int .i64 y65, .int .u64 y66]) 81, box b1 ([.slice none 0 0, .slice none 0 0, .slice none 0 0]) 28, rowC G.cs A2 (([(⟨#[97, 100, 97]⟩ : ByteArray), (⟨#[98, 101, 108]⟩ : ByteArray), (⟨#[99, 121, 100]⟩ : ByteArray), (⟨#[100, 111, 116]⟩ : ByteArray), (⟨#[101, 118, 97]⟩ : ByteArray), (⟨#[102, 97, 121]⟩ : ByteArray), (⟨#[103, 105, 108]⟩ : ByteArray), (⟨#[104, 111, 98]⟩ : ByteArray), (⟨#[105, 118, 111]⟩ : ByteArray), (⟨#[106, 97, 110]⟩ : ByteArray), (⟨#[107, 105, 116]⟩ : ByteArray), (⟨#[108, 111, 117]⟩ : ByteArray), (⟨#[109, 97, 120]⟩ : ByteArray), (⟨#[110, 97, 110]⟩ : ByteArray)] : List ByteArray).length) 9 ([(⟨#[97, 100, 97]⟩ : ByteArray), (⟨#[98, 101, 108]⟩ : ByteArray), (⟨#[99, 121, 100]⟩ : ByteArray), (⟨#[100, 111, 116]⟩ : ByteArray), (⟨#[101, 118, 97]⟩ : ByteArray), (⟨#[102, 97, 121]⟩ : ByteArray), (⟨#[103, 105, 108]⟩ : ByteArray), (⟨#[104, 111, 98]⟩ : ByteArray), (⟨#[105, 118, 111]⟩ : ByteArray), (⟨#[106, 97, 110]⟩ : ByteArray), (⟨#[107, 105, 116]⟩ : ByteArray), (⟨#[108, 111, 117]⟩ : ByteArray), (⟨#[109, 97, 120]⟩ : ByteArray), (⟨#[110, 97, 110]⟩ : ByteArray)] : List ByteArray), box b3 ([.slice A44 (y21 ++ ([t41] : List ByteArray)).length c45, .slice A50 (y24 ++ ([IntKind.i16.wrap t47.1] : List Int)).length c51, .slice A58 y63.length c59]) 28, rowC G.cs A44 c45 9 (y21 ++ ([t41] : List ByteArray)), rowC (ci .i16) A50 c51 45 (y24 ++ ([IntKind.i16.wrap t47.1] : List Int)), rowC (ci .u16) A58 c59 64 y63] [roC (ci .u8) Aa0_0 ca0_0 a0.code] ∧ spec_l06Drawn.l2 a0 t4 y18 y21 y24 t41 t47 k y63 y64 y65 y66 = some j10) k (F' := [(0, .pointer (some ⟨ba0, 0, none⟩)), (4, .pointer (some ⟨b1, 0, none⟩)), (5, .slice A2 ([(⟨#[97, 100, 97]⟩ : ByteArray), (⟨#[98, 101, 108]⟩ : ByteArray), (⟨#[99, 121, 100]⟩ : ByteArray), (⟨#[100, 111, 116]⟩ : ByteArray), (⟨#[101, 118, 97]⟩ : ByteArray), (⟨#[102, 97, 121]⟩ : ByteArray), (⟨#[103, 105, 108]⟩ : ByteArray), (⟨#[104, 111, 98]⟩ : ByteArray), (⟨#[105, 118, 111]⟩ : ByteArray), (⟨#[106, 97, 110]⟩ : ByteArray), (⟨#[107, 105, 116]⟩ : ByteArray), (⟨#[108, 111, 117]⟩ : ByteArray), (⟨#[109, 97, 120]⟩ : ByteArray), (⟨#[110, 97, 110]⟩ : ByteArray)] : List ByteArray).length (([(⟨#[97, 100, 97]⟩ : ByteArray), (⟨#[98, 101, 108]⟩ : ByteArray), (⟨#[99, 121, 100]⟩ : ByteArray), (⟨#[100, 111, 116]⟩ : ByteArray), (⟨#[101, 118, 97]⟩ : ByteArray), (⟨#[102, 97, 121]⟩ : ByteArray), (⟨#[103, 105, 108]⟩ : ByteArray), (⟨#[104, 111, 98]⟩ : ByteArray), (⟨#[105, 118, 111]⟩ : ByteArray), (⟨#[106, 97, 110]⟩ : ByteArray), (⟨#[107, 105, 116]⟩ : ByteArray), (⟨#[108, 111, 117]⟩ : ByteArray), (⟨#[109, 97, 120]⟩ : ByteArray), (⟨#[110, 97, 110]⟩ : ByteArray)] : List ByteArray).length)), (6, .pointer (some ⟨b3, 0, none⟩)), (7, .int .i64 (IntKind.i64.wrap (1 + t4.1))), (8, .int .i64 t5.1), (9, .int .i64 t6.1), (10, .int .i64 y18), (11, .int .i64 0)]) ⟨rfl, rfl, rfl, rfl, rfl, rfl, rfl, rfl, rfl, trivial⟩ ⟨(y27 ++ ([0] : List Int)), 0, t47.2.at_, t47.2.seed, rfl, hS.pick [0, 1, 2, 3, 4, 5, 6] [0] rfl, H⟩ ?_
              rintro k F w1 ⟨y63, y64, y65, y66, rfl, hS, H⟩
              cases k with
              | zero => rw [spec_l06Drawn.l2] at H; cases H
              | succ k =>
                rw [spec_l06Drawn.l2] at H
                refine CJ.seq ?_
                refine CJ.seq ?_
                refine CJ.region ?_
                refine OJ.pures tU_ok 3 rfl ?_
                refine OJ.nil (EJ.next ?_)
                refine CJ.cond rfl (fun hb => ?_) (fun hb => ?_)
                · replace H := pif_t (of_decide_eq_true hb) H
                  refine CJ.skip (EJ.next ?_)
                  refine CJ.seq ?_
                  refine CJ.block ?_
                  refine CJ.region ?_
                  refine OJ.pures tU_ok 4 rfl ?_
                  obtain ⟨t67, ht67, H⟩ := pbind H
                  refine OJ.callF rfl rfl rfl rfl rfl hb57 rfl (spec_l00Src_one.c _ Aa0_0 ca0_0 (⟨a0.code, y65, y66⟩ : l00Src) ba0 (IntKind.i64.wrap (1 + t4.1)) ((hS.subs [0] [0] [] rfl).pick [0] [0] rfl) _ ht67) ?_
                  rintro _ w1 ⟨rfl, hs⟩
                  replace hS := hS.back [0] rfl rfl [box ba0 ([.slice Aa0_0 a0.code.length ca0_0, .int .i64 t67.2.at_, .int .u64 t67.2.seed]) 81] [] hs ⟨fun _ => Iff.rfl, trivial⟩
                  have hS : St w (fpU [box ba0 ([.slice Aa0_0 a0.code.length ca0_0, .int .i64 a0.at_, .int .u64 a0.seed]) 81]) w1 [box ba0 ([.slice Aa0_0 a0.code.length ca0_0, .int .i64 t67.2.at_, .int .u64 t67.2.seed]) 81, box b1 ([.slice none 0 0, .slice none 0 0, .slice none 0 0]) 28, rowC G.cs A2 (([(⟨#[97, 100, 97]⟩ : ByteArray), (⟨#[98, 101, 108]⟩ : ByteArray), (⟨#[99, 121, 100]⟩ : ByteArray), (⟨#[100, 111, 116]⟩ : ByteArray), (⟨#[101, 118, 97]⟩ : ByteArray), (⟨#[102, 97, 121]⟩ : ByteArray), (⟨#[103, 105, 108]⟩ : ByteArray), (⟨#[104, 111, 98]⟩ : ByteArray), (⟨#[105, 118, 111]⟩ : ByteArray), (⟨#[106, 97, 110]⟩ : ByteArray), (⟨#[107, 105, 116]⟩ : ByteArray), (⟨#[108, 111, 117]⟩ : ByteArray), (⟨#[109, 97, 120]⟩ : ByteArray), (⟨#[110, 97, 110]⟩ : ByteArray)] : List ByteArray).length) 9 ([(⟨#[97, 100, 97]⟩ : ByteArray), (⟨#[98, 101, 108]⟩ : ByteArray), (⟨#[99, 121, 100]⟩ : ByteArray), (⟨#[100, 111, 116]⟩ : ByteArray), (⟨#[101, 118, 97]⟩ : ByteArray), (⟨#[102, 97, 121]⟩ : ByteArray), (⟨#[103, 105, 108]⟩ : ByteArray), (⟨#[104, 111, 98]⟩ : ByteArray), (⟨#[105, 118, 111]⟩ : ByteArray), (⟨#[106, 97, 110]⟩ : ByteArray), (⟨#[107, 105, 116]⟩ : ByteArray), (⟨#[108, 111, 117]⟩ : ByteArray), (⟨#[109, 97, 120]⟩ : ByteArray), (⟨#[110, 97, 110]⟩ : ByteArray)] : List ByteArray), box b3 ([.slice A44 (y21 ++ ([t41] : List ByteArray)).length c45, .slice A50 (y24 ++ ([IntKind.i16.wrap t47.1] : List Int)).length c51, .slice A58 y63.length c59]) 28, rowC G.cs A44 c45 9 (y21 ++ ([t41] : List ByteArray)), rowC (ci .i16) A50 c51 45 (y24 ++ ([IntKind.i16.wrap t47.1] : List Int)), rowC (ci .u16) A58 c59 64 y63] [roC (ci .u8) Aa0_0 ca0_0 a0.code] := hS
                  have hS : St w (fpU [box ba0 ([.slice Aa0_0 a0.code.length ca0_0, .int .i64 a0.at_, .int .u64 a0.seed]) 81]) w1 [box ba0 ([.slice Aa0_0 a0.code.length ca0_0, .int .i64 t67.2.at_, .int .u64 t67.2.seed]) 81, box b1 ([.slice none 0 0, .slice none 0 0, .slice none 0 0]) 28, rowC G.cs A2 (([(⟨#[97, 100, 97]⟩ : ByteArray), (⟨#[98, 101, 108]⟩ : ByteArray), (⟨#[99, 121, 100]⟩ : ByteArray), (⟨#[100, 111, 116]⟩ : ByteArray), (⟨#[101, 118, 97]⟩ : ByteArray), (⟨#[102, 97, 121]⟩ : ByteArray), (⟨#[103, 105, 108]⟩ : ByteArray), (⟨#[104, 111, 98]⟩ : ByteArray), (⟨#[105, 118, 111]⟩ : ByteArray), (⟨#[106, 97, 110]⟩ : ByteArray), (⟨#[107, 105, 116]⟩ : ByteArray), (⟨#[108, 111, 117]⟩ : ByteArray), (⟨#[109, 97, 120]⟩ : ByteArray), (⟨#[110, 97, 110]⟩ : ByteArray)] : List ByteArray).length) 9 ([(⟨#[97, 100, 97]⟩ : ByteArray), (⟨#[98, 101, 108]⟩ : ByteArray), (⟨#[99, 121, 100]⟩ : ByteArray), (⟨#[100, 111, 116]⟩ : ByteArray), (⟨#[101, 118, 97]⟩ : ByteArray), (⟨#[102, 97, 121]⟩ : ByteArray), (⟨#[103, 105, 108]⟩ : ByteArray), (⟨#[104, 111, 98]⟩ : ByteArray), (⟨#[105, 118, 111]⟩ : ByteArray), (⟨#[106, 97, 110]⟩ : ByteArray), (⟨#[107, 105, 116]⟩ : ByteArray), (⟨#[108, 111, 117]⟩ : ByteArray), (⟨#[109, 97, 120]⟩ : ByteArray), (⟨#[110, 97, 110]⟩ : ByteArray)] : List ByteArray), box b3 ([.slice A44 (y21 ++ ([t41] : List ByteArray)).length c45, .slice A50 (y24 ++ ([IntKind.i16.wrap t47.1] : List Int)).length c51, .slice A58 y63.length c59]) 28, rowC G.cs A44 c45 9 (y21 ++ ([t41] : List ByteArray)), rowC (ci .i16) A50 c51 45 (y24 ++ ([IntKind.i16.wrap t47.1] : List Int)), rowC (ci .u16) A58 c59 64 y63] [roC (ci .u8) Aa0_0 ca0_0 a0.code] := hS
                  obtain ⟨t68, ht68, H⟩ := pbind H
                  refine OJ.callF rfl rfl rfl rfl rfl hb56 rfl (spec_l06Put.c _ A44 c45 A50 c51 A58 c59 (⟨y21 ++ ([t41] : List ByteArray), y24 ++ ([IntKind.i16.wrap t47.1] : List Int), y63⟩ : Herd) ⟨b3, 0, none⟩ y18 y64 t67.1 (((hS.subs [6] [] [3] rfl).rToRoP (i := 0) rfl).pick [0] [0] rfl) _ ht68) ?_
                  rintro _ w1 ⟨rfl, hs, hlc0⟩
                  replace hS := hS.back [6] rfl rfl [rowC (ci .u16) A58 c59 64 t68] [] hs ⟨fun _ => Iff.rfl, trivial⟩
                  have hS : St w (fpU [box ba0 ([.slice Aa0_0 a0.code.length ca0_0, .int .i64 a0.at_, .int .u64 a0.seed]) 81]) w1 [box ba0 ([.slice Aa0_0 a0.code.length ca0_0, .int .i64 t67.2.at_, .int .u64 t67.2.seed]) 81, box b1 ([.slice none 0 0, .slice none 0 0, .slice none 0 0]) 28, rowC G.cs A2 (([(⟨#[97, 100, 97]⟩ : ByteArray), (⟨#[98, 101, 108]⟩ : ByteArray), (⟨#[99, 121, 100]⟩ : ByteArray), (⟨#[100, 111, 116]⟩ : ByteArray), (⟨#[101, 118, 97]⟩ : ByteArray), (⟨#[102, 97, 121]⟩ : ByteArray), (⟨#[103, 105, 108]⟩ : ByteArray), (⟨#[104, 111, 98]⟩ : ByteArray), (⟨#[105, 118, 111]⟩ : ByteArray), (⟨#[106, 97, 110]⟩ : ByteArray), (⟨#[107, 105, 116]⟩ : ByteArray), (⟨#[108, 111, 117]⟩ : ByteArray), (⟨#[109, 97, 120]⟩ : ByteArray), (⟨#[110, 97, 110]⟩ : ByteArray)] : List ByteArray).length) 9 ([(⟨#[97, 100, 97]⟩ : ByteArray), (⟨#[98, 101, 108]⟩ : ByteArray), (⟨#[99, 121, 100]⟩ : ByteArray), (⟨#[100, 111, 116]⟩ : ByteArray), (⟨#[101, 118, 97]⟩ : ByteArray), (⟨#[102, 97, 121]⟩ : ByteArray), (⟨#[103, 105, 108]⟩ : ByteArray), (⟨#[104, 111, 98]⟩ : ByteArray), (⟨#[105, 118, 111]⟩ : ByteArray), (⟨#[106, 97, 110]⟩ : ByteArray), (⟨#[107, 105, 116]⟩ : ByteArray), (⟨#[108, 111, 117]⟩ : ByteArray), (⟨#[109, 97, 120]⟩ : ByteArray), (⟨#[110, 97, 110]⟩ : ByteArray)] : List ByteArray), box b3 ([.slice A44 (y21 ++ ([t41] : List ByteArray)).length c45, .slice A50 (y24 ++ ([IntKind.i16.wrap t47.1] : List Int)).length c51, .slice A58 y63.length c59]) 28, rowC G.cs A44 c45 9 (y21 ++ ([t41] : List ByteArray)), rowC (ci .i16) A50 c51 45 (y24 ++ ([IntKind.i16.wrap t47.1] : List Int)), rowC (ci .u16) A58 c59 64 t68] [roC (ci .u8) Aa0_0 ca0_0 a0.code] := hS
                  replace hS := hS.boxAs (i := 3) rfl (show _ = ([.slice A44 (y21 ++ ([t41] : List ByteArray)).length c45, .slice A50 (y24 ++ ([IntKind.i16.wrap t47.1] : List Int)).length c51, .slice A58 t68.length c59] : List Value) by simp only [hlc0])
                  have hS : St w (fpU [box ba0 ([.slice Aa0_0 a0.code.length ca0_0, .int .i64 a0.at_, .int .u64 a0.seed]) 81]) w1 [box ba0 ([.slice Aa0_0 a0.code.length ca0_0, .int .i64 t67.2.at_, .int .u64 t67.2.seed]) 81, box b1 ([.slice none 0 0, .slice none 0 0, .slice none 0 0]) 28, rowC G.cs A2 (([(⟨#[97, 100, 97]⟩ : ByteArray), (⟨#[98, 101, 108]⟩ : ByteArray), (⟨#[99, 121, 100]⟩ : ByteArray), (⟨#[100, 111, 116]⟩ : ByteArray), (⟨#[101, 118, 97]⟩ : ByteArray), (⟨#[102, 97, 121]⟩ : ByteArray), (⟨#[103, 105, 108]⟩ : ByteArray), (⟨#[104, 111, 98]⟩ : ByteArray), (⟨#[105, 118, 111]⟩ : ByteArray), (⟨#[106, 97, 110]⟩ : ByteArray), (⟨#[107, 105, 116]⟩ : ByteArray), (⟨#[108, 111, 117]⟩ : ByteArray), (⟨#[109, 97, 120]⟩ : ByteArray), (⟨#[110, 97, 110]⟩ : ByteArray)] : List ByteArray).length) 9 ([(⟨#[97, 100, 97]⟩ : ByteArray), (⟨#[98, 101, 108]⟩ : ByteArray), (⟨#[99, 121, 100]⟩ : ByteArray), (⟨#[100, 111, 116]⟩ : ByteArray), (⟨#[101, 118, 97]⟩ : ByteArray), (⟨#[102, 97, 121]⟩ : ByteArray), (⟨#[103, 105, 108]⟩ : ByteArray), (⟨#[104, 111, 98]⟩ : ByteArray), (⟨#[105, 118, 111]⟩ : ByteArray), (⟨#[106, 97, 110]⟩ : ByteArray), (⟨#[107, 105, 116]⟩ : ByteArray), (⟨#[108, 111, 117]⟩ : ByteArray), (⟨#[109, 97, 120]⟩ : ByteArray), (⟨#[110, 97, 110]⟩ : ByteArray)] : List ByteArray), box b3 ([.slice A44 (y21 ++ ([t41] : List ByteArray)).length c45, .slice A50 (y24 ++ ([IntKind.i16.wrap t47.1] : List Int)).length c51, .slice A58 t68.length c59]) 28, rowC G.cs A44 c45 9 (y21 ++ ([t41] : List ByteArray)), rowC (ci .i16) A50 c51 45 (y24 ++ ([IntKind.i16.wrap t47.1] : List Int)), rowC (ci .u16) A58 c59 64 t68] [roC (ci .u8) Aa0_0 ca0_0 a0.code] := hS
                  refine OJ.nil (EJ.blk (EJ.next ?_))
                  refine CJ.region ?_
                  refine OJ.pures tU_ok 3 rfl ?_
                  refine OJ.nil ?_
                  exact EJ.round k (F' := [(0, .pointer (some ⟨ba0, 0, none⟩)), (4, .pointer (some ⟨b1, 0, none⟩)), (5, .slice A2 ([(⟨#[97, 100, 97]⟩ : ByteArray), (⟨#[98, 101, 108]⟩ : ByteArray), (⟨#[99, 121, 100]⟩ : ByteArray), (⟨#[100, 111, 116]⟩ : ByteArray), (⟨#[101, 118, 97]⟩ : ByteArray), (⟨#[102, 97, 121]⟩ : ByteArray), (⟨#[103, 105, 108]⟩ : ByteArray), (⟨#[104, 111, 98]⟩ : ByteArray), (⟨#[105, 118, 111]⟩ : ByteArray), (⟨#[106, 97, 110]⟩ : ByteArray), (⟨#[107, 105, 116]⟩ : ByteArray), (⟨#[108, 111, 117]⟩ : ByteArray), (⟨#[109, 97, 120]⟩ : ByteArray), (⟨#[110, 97, 110]⟩ : ByteArray)] : List ByteArray).length (([(⟨#[97, 100, 97]⟩ : ByteArray), (⟨#[98, 101, 108]⟩ : ByteArray), (⟨#[99, 121, 100]⟩ : ByteArray), (⟨#[100, 111, 116]⟩ : ByteArray), (⟨#[101, 118, 97]⟩ : ByteArray), (⟨#[102, 97, 121]⟩ : ByteArray), (⟨#[103, 105, 108]⟩ : ByteArray), (⟨#[104, 111, 98]⟩ : ByteArray), (⟨#[105, 118, 111]⟩ : ByteArray), (⟨#[106, 97, 110]⟩ : ByteArray), (⟨#[107, 105, 116]⟩ : ByteArray), (⟨#[108, 111, 117]⟩ : ByteArray), (⟨#[109, 97, 120]⟩ : ByteArray), (⟨#[110, 97, 110]⟩ : ByteArray)] : List ByteArray).length)), (6, .pointer (some ⟨b3, 0, none⟩)), (7, .int .i64 (IntKind.i64.wrap (1 + t4.1))), (8, .int .i64 t5.1), (9, .int .i64 t6.1), (10, .int .i64 y18), (11, .int .i64 (IntKind.i64.wrap (y64 + 1)))]) ⟨rfl, rfl, rfl, rfl, rfl, rfl, rfl, rfl, rfl, trivial⟩ (Nat.lt_succ_self _) ⟨t68, (IntKind.i64.wrap (y64 + 1)), t67.2.at_, t67.2.seed, rfl, hS.pick [0, 1, 2, 3, 4, 5, 6] [0] rfl, H⟩
                · replace H := pif_f (of_decide_eq_false hb) H
                  refine CJ.exit (EJ.skE (EJ.skE (EJ.hit (?_))))
                  exact EJ.meet (F' := [(0, .pointer (some ⟨ba0, 0, none⟩)), (4, .pointer (some ⟨b1, 0, none⟩)), (5, .slice A2 ([(⟨#[97, 100, 97]⟩ : ByteArray), (⟨#[98, 101, 108]⟩ : ByteArray), (⟨#[99, 121, 100]⟩ : ByteArray), (⟨#[100, 111, 116]⟩ : ByteArray), (⟨#[101, 118, 97]⟩ : ByteArray), (⟨#[102, 97, 121]⟩ : ByteArray), (⟨#[103, 105, 108]⟩ : ByteArray), (⟨#[104, 111, 98]⟩ : ByteArray), (⟨#[105, 118, 111]⟩ : ByteArray), (⟨#[106, 97, 110]⟩ : ByteArray), (⟨#[107, 105, 116]⟩ : ByteArray), (⟨#[108, 111, 117]⟩ : ByteArray), (⟨#[109, 97, 120]⟩ : ByteArray), (⟨#[110, 97, 110]⟩ : ByteArray)] : List ByteArray).length (([(⟨#[97, 100, 97]⟩ : ByteArray), (⟨#[98, 101, 108]⟩ : ByteArray), (⟨#[99, 121, 100]⟩ : ByteArray), (⟨#[100, 111, 116]⟩ : ByteArray), (⟨#[101, 118, 97]⟩ : ByteArray), (⟨#[102, 97, 121]⟩ : ByteArray), (⟨#[103, 105, 108]⟩ : ByteArray), (⟨#[104, 111, 98]⟩ : ByteArray), (⟨#[105, 118, 111]⟩ : ByteArray), (⟨#[106, 97, 110]⟩ : ByteArray), (⟨#[107, 105, 116]⟩ : ByteArray), (⟨#[108, 111, 117]⟩ : ByteArray), (⟨#[109, 97, 120]⟩ : ByteArray), (⟨#[110, 97, 110]⟩ : ByteArray)] : List ByteArray).length)), (6, .pointer (some ⟨b3, 0, none⟩)), (7, .int .i64 (IntKind.i64.wrap (1 + t4.1))), (8, .int .i64 t5.1), (9, .int .i64 t6.1), (10, .int .i64 y18)]) ⟨rfl, rfl, rfl, rfl, rfl, rfl, rfl, rfl, trivial⟩ ⟨y63, y65, y66, H, rfl, hS.pick [0, 1, 2, 3, 4, 5, 6] [0] rfl⟩
            · rintro F w1 ⟨y60, y61, y62, he, rfl, hS⟩
              obtain rfl := Option.some.inj he
              have H := K10
              refine EJ.blk (?_)
              exact EJ.meet (F' := [(0, .pointer (some ⟨ba0, 0, none⟩)), (4, .pointer (some ⟨b1, 0, none⟩)), (5, .slice A2 ([(⟨#[97, 100, 97]⟩ : ByteArray), (⟨#[98, 101, 108]⟩ : ByteArray), (⟨#[99, 121, 100]⟩ : ByteArray), (⟨#[100, 111, 116]⟩ : ByteArray), (⟨#[101, 118, 97]⟩ : ByteArray), (⟨#[102, 97, 121]⟩ : ByteArray), (⟨#[103, 105, 108]⟩ : ByteArray), (⟨#[104, 111, 98]⟩ : ByteArray), (⟨#[105, 118, 111]⟩ : ByteArray), (⟨#[106, 97, 110]⟩ : ByteArray), (⟨#[107, 105, 116]⟩ : ByteArray), (⟨#[108, 111, 117]⟩ : ByteArray), (⟨#[109, 97, 120]⟩ : ByteArray), (⟨#[110, 97, 110]⟩ : ByteArray)] : List ByteArray).length (([(⟨#[97, 100, 97]⟩ : ByteArray), (⟨#[98, 101, 108]⟩ : ByteArray), (⟨#[99, 121, 100]⟩ : ByteArray), (⟨#[100, 111, 116]⟩ : ByteArray), (⟨#[101, 118, 97]⟩ : ByteArray), (⟨#[102, 97, 121]⟩ : ByteArray), (⟨#[103, 105, 108]⟩ : ByteArray), (⟨#[104, 111, 98]⟩ : ByteArray), (⟨#[105, 118, 111]⟩ : ByteArray), (⟨#[106, 97, 110]⟩ : ByteArray), (⟨#[107, 105, 116]⟩ : ByteArray), (⟨#[108, 111, 117]⟩ : ByteArray), (⟨#[109, 97, 120]⟩ : ByteArray), (⟨#[110, 97, 110]⟩ : ByteArray)] : List ByteArray).length)), (6, .pointer (some ⟨b3, 0, none⟩)), (7, .int .i64 (IntKind.i64.wrap (1 + t4.1))), (8, .int .i64 t5.1), (9, .int .i64 t6.1), (10, .int .i64 y18)]) ⟨rfl, rfl, rfl, rfl, rfl, rfl, rfl, rfl, trivial⟩ ⟨(y21 ++ ([t41] : List ByteArray)), (y24 ++ ([IntKind.i16.wrap t47.1] : List Int)), y60, y61, y62, A44, c45, A50, c51, A58, c59, H, rfl, hS.pick [0, 1, 2, 3, 4, 5, 6] [0] rfl⟩
        · rintro F w1 ⟨y30, y33, y36, y39, y40, A31, c32, A34, c35, A37, c38, he, rfl, hS⟩
          obtain rfl := Option.some.inj he
          have H := K8
          refine CJ.region ?_
          refine OJ.pures tU_ok 3 rfl ?_
          refine OJ.nil ?_
          exact EJ.round k (F' := [(0, .pointer (some ⟨ba0, 0, none⟩)), (4, .pointer (some ⟨b1, 0, none⟩)), (5, .slice A2 ([(⟨#[97, 100, 97]⟩ : ByteArray), (⟨#[98, 101, 108]⟩ : ByteArray), (⟨#[99, 121, 100]⟩ : ByteArray), (⟨#[100, 111, 116]⟩ : ByteArray), (⟨#[101, 118, 97]⟩ : ByteArray), (⟨#[102, 97, 121]⟩ : ByteArray), (⟨#[103, 105, 108]⟩ : ByteArray), (⟨#[104, 111, 98]⟩ : ByteArray), (⟨#[105, 118, 111]⟩ : ByteArray), (⟨#[106, 97, 110]⟩ : ByteArray), (⟨#[107, 105, 116]⟩ : ByteArray), (⟨#[108, 111, 117]⟩ : ByteArray), (⟨#[109, 97, 120]⟩ : ByteArray), (⟨#[110, 97, 110]⟩ : ByteArray)] : List ByteArray).length (([(⟨#[97, 100, 97]⟩ : ByteArray), (⟨#[98, 101, 108]⟩ : ByteArray), (⟨#[99, 121, 100]⟩ : ByteArray), (⟨#[100, 111, 116]⟩ : ByteArray), (⟨#[101, 118, 97]⟩ : ByteArray), (⟨#[102, 97, 121]⟩ : ByteArray), (⟨#[103, 105, 108]⟩ : ByteArray), (⟨#[104, 111, 98]⟩ : ByteArray), (⟨#[105, 118, 111]⟩ : ByteArray), (⟨#[106, 97, 110]⟩ : ByteArray), (⟨#[107, 105, 116]⟩ : ByteArray), (⟨#[108, 111, 117]⟩ : ByteArray), (⟨#[109, 97, 120]⟩ : ByteArray), (⟨#[110, 97, 110]⟩ : ByteArray)] : List ByteArray).length)), (6, .pointer (some ⟨b3, 0, none⟩)), (7, .int .i64 (IntKind.i64.wrap (1 + t4.1))), (8, .int .i64 t5.1), (9, .int .i64 t6.1), (10, .int .i64 (IntKind.i64.wrap (y18 + 1)))]) ⟨rfl, rfl, rfl, rfl, rfl, rfl, rfl, rfl, trivial⟩ (Nat.lt_succ_self _) ⟨(IntKind.i64.wrap (y18 + 1)), y39, y40, y30, y33, y36, A31, c32, A34, c35, A37, c38, rfl, hS.pick [0, 1, 2, 3, 4, 5, 6] [0] rfl, H⟩
      · replace H := pif_f (of_decide_eq_false hb) H
        refine CJ.exit (EJ.skE (EJ.skE (EJ.hit (?_))))
        exact EJ.meet (F' := [(4, .pointer (some ⟨b1, 0, none⟩)), (6, .pointer (some ⟨b3, 0, none⟩))]) ⟨rfl, rfl, trivial⟩ ⟨y21, y24, y27, y19, y20, A22, c23, A25, c26, A28, c29, H, rfl, hS.pick [0, 1, 3, 4, 5, 6] [0] rfl⟩
  · rintro F w1 ⟨y7, y10, y13, y16, y17, A8, c9, A11, c12, A14, c15, he, rfl, hS⟩
    obtain rfl := Option.some.inj he
    have H := K1
    refine EJ.next ?_
    refine CJ.seq ?_
    refine CJ.region ?_
    refine OJ.st rfl rfl rfl (SR.load rfl rfl (fun w' hx => ldN tU_ok tI_ok rfl rfl rfl (CA.ext (hS.cells (i := 2) rfl) hx) (ds := [.slice A8 y7.length c9, .slice A11 y10.length c12, .slice A14 y13.length c15]) rfl rfl)) ?_
    refine OJ.es rfl rfl (Es.store tI_ok hS (i := 1) (vs := [.slice A8 y7.length c9, .slice A11 y10.length c12, .slice A14 y13.length c15]) rfl rfl rfl rfl rfl rfl rfl rfl (by intro u hu; simp only [List.mem_cons, List.not_mem_nil, or_false] at hu; rcases hu with rfl | rfl | rfl <;> rfl) (Nat.le_of_ble_eq_true rfl) ([.slice A8 y7.length c9, .slice A11 y10.length c12, .slice A14 y13.length c15]) rfl) ?_
    intro w1 hS
    refine OJ.nil (EJ.next ?_)
    refine CJ.ret (?_)
    obtain rfl := Option.some.inj H
    exact EJ.fin rfl (.cell rfl (ldN tU_ok tI_ok rfl rfl rfl (hS.cells (i := 1) rfl) (ds := [.slice A8 y7.length c9, .slice A11 y10.length c12, .slice A14 y13.length c15]) rfl rfl) .nil) ⟨A8, c9, A11, c12, A14, c15, rfl, hS.pick [0, 3, 4, 5] [] rfl⟩

def spec_A2Herd.f (k : Nat) (a0 : List Int) : Option Herd := (spec_l00From.f a0).bind fun t2 => (spec_l06Drawn.f k (⟨a0, t2.at_, t2.seed⟩ : l00Src) 7).bind fun t4 => some t4.1
theorem spec_A2Herd.c (k : Nat) (w : World) (Aa0 : Option Addr) (ca0 : Nat) (a0 : List Int) (hr0 : Rd (ci .u8) w Aa0 a0) (hc0 : a0.length ≤ ca0) (r : Herd) (H : spec_A2Herd.f k a0 = some r) :
    CV Tryz.prog 5 [.slice Aa0 a0.length ca0].toArray w fun v w' => ∃ (A0_0 : Option Addr) (c0_0 : Nat) (A0_1 : Option Addr) (c0_1 : Nat) (A0_2 : Option Addr) (c0_2 : Nat), v = .agg [.slice A0_0 r.Names.length c0_0, .slice A0_1 r.Eats.length c0_1, .slice A0_2 r.Foes.length c0_2].toArray ∧ St w no w' [rowC G.cs A0_0 c0_0 9 r.Names, rowC (ci .i16) A0_1 c0_1 45 r.Eats, rowC (ci .u16) A0_2 c0_2 64 r.Foes] [] := by
  have hS := ((St.init w no).param (ci .u8) Aa0 ca0 a0 hr0 hc0)
  unfold spec_A2Herd.f at H
  refine CV.body Tryz.func5 rfl Tryz.ntmps5 rfl ?_
  refine CJ.seq ?_
  refine CJ.region ?_
  refine OJ.ef rfl rfl rfl (Ef.alloc hS tI_ok rfl rfl ([.slice none 0 0, .slice none 0 0, .slice none 0 0]) rfl) ?_
  rintro _ w1 ⟨b1, rfl, hS⟩
  refine OJ.nil (EJ.next ?_)
  refine CJ.seq ?_
  refine CJ.region ?_
  refine OJ.pures tU_ok 1 rfl ?_
  obtain ⟨t2, ht2, H⟩ := pbind H
  refine OJ.callF rfl rfl rfl rfl rfl hb24 rfl (spec_l00From.c _ Aa0 ca0 a0 (hS.rd' (i := 0) rfl) (hS.le' (i := 0) rfl) _ ht2) ?_
  rintro _ w1 ⟨b3, rfl, hs⟩
  replace hS := hS.addN hs
  obtain ⟨t4, ht4, H⟩ := pbind H
  refine OJ.callF rfl rfl rfl rfl rfl hb23 rfl (spec_l06Drawn.c k _ Aa0 ca0 (⟨a0, t2.at_, t2.seed⟩ : l00Src) b3 7 ((hS.subs [1] [0] [] rfl).pick [0] [0] rfl) _ ht4) ?_
  rintro _ w1 ⟨A5, c6, A7, c8, A9, c10, rfl, hs⟩
  replace hS := hS.back [1] rfl rfl [box b3 ([.slice Aa0 a0.length ca0, .int .i64 t4.2.at_, .int .u64 t4.2.seed]) 81] [rowC G.cs A5 c6 9 t4.1.Names, rowC (ci .i16) A7 c8 45 t4.1.Eats, rowC (ci .u16) A9 c10 64 t4.1.Foes] hs ⟨fun _ => Iff.rfl, trivial⟩
  refine OJ.es rfl rfl (Es.store tI_ok hS (i := 0) (vs := [.slice A5 t4.1.Names.length c6, .slice A7 t4.1.Eats.length c8, .slice A9 t4.1.Foes.length c10]) rfl rfl rfl rfl rfl rfl rfl rfl (by intro u hu; simp only [List.mem_cons, List.not_mem_nil, or_false] at hu; rcases hu with rfl | rfl | rfl <;> rfl) (Nat.le_of_ble_eq_true rfl) ([.slice A5 t4.1.Names.length c6, .slice A7 t4.1.Eats.length c8, .slice A9 t4.1.Foes.length c10]) rfl) ?_
  intro w1 hS
  refine OJ.nil (EJ.next ?_)
  refine CJ.ret (?_)
  obtain rfl := Option.some.inj H
  exact EJ.fin rfl (.cell rfl (ldN tU_ok tI_ok rfl rfl rfl (hS.cells (i := 0) rfl) (ds := [.slice A5 t4.1.Names.length c6, .slice A7 t4.1.Eats.length c8, .slice A9 t4.1.Foes.length c10]) rfl rfl) .nil) ⟨A5, c6, A7, c8, A9, c10, rfl, hS.pick [2, 3, 4] [] rfl⟩

def spec_l00Own.f (a0 : List Int) : Option (List Int) := (chk (([] : List Int).length + a0.length ≤ 4294967296)).bind fun u2 => some (([] : List Int) ++ a0)
theorem spec_l00Own.c (w : World) (Aa0 : Option Addr) (ca0 : Nat) (a0 : List Int) (hr0 : Rd (ci .i64) w Aa0 a0) (hc0 : a0.length ≤ ca0) (r : List Int) (H : spec_l00Own.f a0 = some r) :
    CV Tryz.prog 26 [.slice Aa0 a0.length ca0].toArray w fun v w' => ∃ (A0 : Option Addr) (c0 : Nat), v = .slice A0 r.length c0 ∧ St w no w' [rowC (ci .i64) A0 c0 2 r] [] := by
  have hS := ((St.init w no).param (ci .i64) Aa0 ca0 a0 hr0 hc0)
  unfold spec_l00Own.f at H
  refine CV.body Tryz.func26 rfl Tryz.ntmps26 rfl ?_
  refine CJ.seq ?_
  refine CJ.region ?_
  refine OJ.pures tU_ok 1 rfl ?_
  refine OJ.nil (EJ.next ?_)
  refine CJ.seq ?_
  refine CJ.region ?_
  refine OJ.ef rfl rfl rfl (Ef.lit tU_ok tI_ok hS (C := (ci .i64)) rfl rfl rfl rfl rfl rfl ([] : List Int) rfl rfl rfl rfl) ?_
  rintro _ w1 ⟨A1, rfl, hS⟩
  refine OJ.pures tU_ok 1 rfl ?_
  obtain ⟨u2, hu2, H⟩ := pbind H
  refine OJ.ew rfl rfl rfl (Ew.append tU_ok tI_ok (C := (ci .i64)) (xs := ([] : List Int)) (ys := a0) hS (i := 0) rfl rfl rfl rfl rfl rfl rfl rfl rfl rfl rfl rfl rfl (hS.rd' (i := 0) rfl) (chk_some hu2)) ?_
  rintro _ w1 ⟨A3, c4, rfl, hS⟩
  refine OJ.pures tU_ok 1 rfl ?_
  refine OJ.nil (EJ.next ?_)
  refine CJ.ret (?_)
  obtain rfl := Option.some.inj H
  exact EJ.fin rfl (.tmp rfl .nil) ⟨A3, c4, rfl, hS.pick [0] [] rfl⟩

def spec_A2Order.l1 (a0 : List Int) (a1 : Int) : Nat → (List Int) → Int → Int → Int → Option (List Int)
  | 0, _, _, _, _ => none
  | k + 1, y7, y10, y11, y12 => if y10 < a1 then ((spec_l00Src_pick.f (⟨a0, y11, y12⟩ : l00Src) (IntKind.i64.wrap (y10 + 1))).bind fun t13 => (chk ((0 : Int) ≤ t13.1 ∧ t13.1 ≤ (y7.length : Int) ∧ (y7.length : Int) ≤ (y7.length : Int))).bind fun u14 => (spec_l00Own.f (y7.drop t13.1.toNat)).bind fun t15 => (chk ((0 : Int) ≤ 0 ∧ 0 ≤ t13.1 ∧ t13.1 ≤ (y7.length : Int))).bind fun u18 => (chk ((y7.take t13.1.toNat).length + ([y10] : List Int).length ≤ 4294967296)).bind fun u20 => (chk (((y7.take t13.1.toNat) ++ ([y10] : List Int)).length + t15.length ≤ 4294967296)).bind fun u23 => spec_A2Order.l1 a0 a1 k (((y7.take t13.1.toNat) ++ ([y10] : List Int)) ++ t15) (IntKind.i64.wrap (y10 + 1)) t13.2.at_ t13.2.seed) else (some y7)
def spec_A2Order.f (k : Nat) (a0 : List Int) (a1 : Int) : Option (List Int) := (spec_l00From.f a0).bind fun t1 => (spec_A2Order.l1 a0 a1 k ([] : List Int) 0 t1.at_ t1.seed).bind fun y4 => some y4
theorem spec_A2Order.c (k : Nat) (w : World) (Aa0 : Option Addr) (ca0 : Nat) (a0 : List Int) (hr0 : Rd (ci .u8) w Aa0 a0) (hc0 : a0.length ≤ ca0) (a1 : Int) (r : List Int) (H : spec_A2Order.f k a0 a1 = some r) :
    CV Tryz.prog 6 [.slice Aa0 a0.length ca0, .int .i64 a1].toArray w fun v w' => ∃ (A0 : Option Addr) (c0 : Nat), v = .slice A0 r.length c0 ∧ St w no w' [rowC (ci .i64) A0 c0 2 r] [] := by
  have hS := ((St.init w no).param (ci .u8) Aa0 ca0 a0 hr0 hc0)
  unfold spec_A2Order.f at H
  refine CV.body Tryz.func6 rfl Tryz.ntmps6 rfl ?_
  refine CJ.seq ?_
  refine CJ.region ?_
  refine OJ.pures tU_ok 1 rfl ?_
  refine OJ.nil (EJ.next ?_)
  refine CJ.seq ?_
  refine CJ.region ?_
  refine OJ.pures tU_ok 1 rfl ?_
  obtain ⟨t1, ht1, H⟩ := pbind H
  refine OJ.callF rfl rfl rfl rfl rfl hb24 rfl (spec_l00From.c _ Aa0 ca0 a0 (hS.rd' (i := 0) rfl) (hS.le' (i := 0) rfl) _ ht1) ?_
  rintro _ w1 ⟨b2, rfl, hs⟩
  replace hS := hS.addN hs
  refine OJ.pures tU_ok 1 rfl ?_
  refine OJ.nil (EJ.next ?_)
  refine CJ.seq ?_
  refine CJ.region ?_
  refine OJ.ef rfl rfl rfl (Ef.lit tU_ok tI_ok hS (C := (ci .i64)) rfl rfl rfl rfl rfl rfl ([] : List Int) rfl rfl rfl rfl) ?_
  rintro _ w1 ⟨A3, rfl, hS⟩
  refine OJ.pures tU_ok 1 rfl ?_
  refine OJ.nil (EJ.next ?_)
  refine CJ.seq ?_
  refine CJ.seq ?_
  refine CJ.region ?_
  refine OJ.pures tU_ok 1 rfl ?_
  refine OJ.nil (EJ.next ?_)
  obtain ⟨j11, H, K11⟩ := pbind H
  refine CJ.cut1 (fun F w1 => ∃ (y4 : List Int) (A5 : Option Addr) (c6 : Nat), (some y4 : Option (List Int)) = some j11 ∧ F = [(6, .slice A5 y4.length c6)] ∧ St w no w1 [rowC (ci .i64) A5 c6 2 y4] [roC (ci .u8) Aa0 ca0 a0]) ?_ ?_
  · skip
    refine CJ.block ?_
    refine CJ.loop (fun k F w1 => ∃ (y7 : List Int) (y10 : Int) (y11 : Int) (y12 : Int) (A8 : Option Addr) (c9 : Nat), F = [(1, .int .i64 a1), (5, .pointer (some ⟨b2, 0, none⟩)), (6, .slice A8 y7.length c9), (7, .int .i64 y10)] ∧ St w no w1 [box b2 ([.slice Aa0 a0.length ca0, .int .i64 y11, .int .u64 y12]) 81, rowC (ci .i64) A8 c9 2 y7] [roC (ci .u8) Aa0 ca0 a0] ∧ spec_A2Order.l1 a0 a1 k y7 y10 y11 y12 = some j11) k (F' := [(1, .int .i64 a1), (5, .pointer (some ⟨b2, 0, none⟩)), (6, .slice A3 ([] : List Int).length (([] : List Int).length)), (7, .int .i64 0)]) ⟨rfl, rfl, rfl, rfl, trivial⟩ ⟨([] : List Int), 0, t1.at_, t1.seed, A3, (([] : List Int).length), rfl, hS.pick [0, 1] [0] rfl, H⟩ ?_
    rintro k F w1 ⟨y7, y10, y11, y12, A8, c9, rfl, hS, H⟩
    cases k with
    | zero => rw [spec_A2Order.l1] at H; cases H
    | succ k =>
      rw [spec_A2Order.l1] at H
      refine CJ.seq ?_
      refine CJ.seq ?_
      refine CJ.region ?_
      refine OJ.pures tU_ok 3 rfl ?_
      refine OJ.nil (EJ.next ?_)
      refine CJ.cond rfl (fun hb => ?_) (fun hb => ?_)
      · replace H := pif_t (of_decide_eq_true hb) H
        refine CJ.skip (EJ.next ?_)
        refine CJ.seq ?_
        refine CJ.block ?_
        refine CJ.seq ?_
        refine CJ.region ?_
        refine OJ.pures tU_ok 3 rfl ?_
        obtain ⟨t13, ht13, H⟩ := pbind H
        refine OJ.callF rfl rfl rfl rfl rfl hb25 rfl (spec_l00Src_pick.c _ Aa0 ca0 (⟨a0, y11, y12⟩ : l00Src) b2 (IntKind.i64.wrap (y10 + 1)) ((hS.subs [0] [0] [] rfl).pick [0] [0] rfl) _ ht13) ?_
        rintro _ w1 ⟨rfl, hs⟩
        replace hS := hS.back [0] rfl rfl [box b2 ([.slice Aa0 a0.length ca0, .int .i64 t13.2.at_, .int .u64 t13.2.seed]) 81] [] hs ⟨fun _ => Iff.rfl, trivial⟩
        refine OJ.pures tU_ok 1 rfl ?_
        refine OJ.nil (EJ.next ?_)
        refine CJ.seq ?_
        refine CJ.region ?_
        refine OJ.pures tU_ok 2 rfl ?_
        obtain ⟨u14, hu14, H⟩ := pbind H
        refine OJ.st rfl rfl rfl (SR.cutS tU_ok tI_ok (t13.1.toNat) (y7.length) rfl rfl rfl rfl rfl rfl (.inr ⟨_, _, rfl, (chk_some hu14).1, rfl⟩) (.inl ⟨rfl, rfl⟩) (by have := (chk_some hu14); omega) (by have := (chk_some hu14); have := (hS.le (i := 1) rfl : y7.length ≤ c9); omega)) ?_
        refine OJ.as (t := 24) rfl (show _ = (.slice (cutA A8 c9 t13.1.toNat (ci .i64).sz) (y7.drop t13.1.toNat).length (c9 - t13.1.toNat) : Value) by rw [List.length_drop]; rfl) ?_
        obtain ⟨t15, ht15, H⟩ := pbind H
        refine OJ.callF rfl rfl rfl rfl rfl hb26 rfl (spec_l00Own.c _ (cutA A8 c9 t13.1.toNat (ci .i64).sz) (c9 - t13.1.toNat) (y7.drop t13.1.toNat) ((hS.rd (i := 1) rfl).part (by have := (chk_some hu14); omega) (hS.le (i := 1) rfl)) (part_le (hS.le (i := 1) rfl)) _ ht15) ?_
        rintro _ w1 ⟨A16, c17, rfl, hs⟩
        replace hS := hS.addN hs
        refine OJ.pures tU_ok 1 rfl ?_
        refine OJ.nil (EJ.next ?_)
        refine CJ.region ?_
        refine OJ.pures tU_ok 2 rfl ?_
        obtain ⟨u18, hu18, H⟩ := pbind H
        refine OJ.st rfl rfl rfl (SR.cut0 tU_ok tI_ok rfl rfl rfl rfl rfl (by have := (chk_some hu18); omega) (by have := (chk_some hu18); have := (hS.le (i := 1) rfl : y7.length ≤ c9); omega)) ?_
        replace hS := hS.shrink (i := 1) (m := t13.1.toNat) rfl (by have := (chk_some hu18); omega)
        refine OJ.as (t := 28) rfl (show _ = (.slice A8 (y7.take t13.1.toNat).length c9 : Value) by rw [List.length_take, Nat.min_eq_left (by have := (chk_some hu18); omega)]) ?_
        refine OJ.pures tU_ok 1 rfl ?_
        refine OJ.ef rfl rfl rfl (Ef.lit tU_ok tI_ok hS (C := (ci .i64)) rfl rfl rfl rfl rfl rfl ([y10] : List Int) rfl rfl rfl rfl) ?_
        rintro _ w1 ⟨A19, rfl, hS⟩
        obtain ⟨u20, hu20, H⟩ := pbind H
        refine OJ.ew rfl rfl rfl (Ew.append tU_ok tI_ok (C := (ci .i64)) (xs := (y7.take t13.1.toNat)) (ys := ([y10] : List Int)) hS (i := 1) rfl rfl rfl rfl rfl rfl rfl rfl rfl rfl rfl rfl rfl (hS.rd (i := 3) rfl) (chk_some hu20)) ?_
        rintro _ w1 ⟨A21, c22, rfl, hS⟩
        refine OJ.pures tU_ok 1 rfl ?_
        obtain ⟨u23, hu23, H⟩ := pbind H
        refine OJ.ew rfl rfl rfl (Ew.append tU_ok tI_ok (C := (ci .i64)) (xs := ((y7.take t13.1.toNat) ++ ([y10] : List Int))) (ys := t15) hS (i := 1) rfl rfl rfl rfl rfl rfl rfl rfl rfl rfl rfl rfl rfl (hS.rd (i := 2) rfl) (chk_some hu23)) ?_
        rintro _ w1 ⟨A24, c25, rfl, hS⟩
        refine OJ.pures tU_ok 1 rfl ?_
        refine OJ.nil (EJ.blk (EJ.next ?_))
        refine CJ.region ?_
        refine OJ.pures tU_ok 3 rfl ?_
        refine OJ.nil ?_
        exact EJ.round k (F' := [(1, .int .i64 a1), (5, .pointer (some ⟨b2, 0, none⟩)), (6, .slice A24 (((y7.take t13.1.toNat) ++ ([y10] : List Int)) ++ t15).length c25), (7, .int .i64 (IntKind.i64.wrap (y10 + 1)))]) ⟨rfl, rfl, rfl, rfl, trivial⟩ (Nat.lt_succ_self _) ⟨(((y7.take t13.1.toNat) ++ ([y10] : List Int)) ++ t15), (IntKind.i64.wrap (y10 + 1)), t13.2.at_, t13.2.seed, A24, c25, rfl, hS.pick [0, 1] [0] rfl, H⟩
      · replace H := pif_f (of_decide_eq_false hb) H
        refine CJ.exit (EJ.skE (EJ.skE (EJ.hit (?_))))
        exact EJ.meet (F' := [(6, .slice A8 y7.length c9)]) ⟨rfl, trivial⟩ ⟨y7, A8, c9, H, rfl, hS.pick [1] [0] rfl⟩
  · rintro F w1 ⟨y4, A5, c6, he, rfl, hS⟩
    obtain rfl := Option.some.inj he
    have H := K11
    refine EJ.next ?_
    refine CJ.seq ?_
    refine CJ.region ?_
    refine OJ.pures tU_ok 2 rfl ?_
    refine OJ.nil (EJ.next ?_)
    refine CJ.ret (?_)
    obtain rfl := Option.some.inj H
    exact EJ.fin rfl (.tmp rfl .nil) ⟨A5, c6, rfl, hS.pick [0] [] rfl⟩

def impl_within.f (a0 : Int) (a1 : Int) (a2 : Int) : Option Bool := if a1 ≤ a0 then (some (decide (a0 ≤ a2))) else (some false)
theorem impl_within.c (w : World) (a0 : Int) (a1 : Int) (a2 : Int) (r : Bool) (H : impl_within.f a0 a1 a2 = some r) :
    CV Tryz.prog 49 [.int .i64 a0, .int .i64 a1, .int .i64 a2].toArray w fun v w' => v = .bool r ∧ Ext w w' := by
  have hS := (St.init w no)
  unfold impl_within.f at H
  refine CV.body Tryz.func49 rfl Tryz.ntmps49 rfl ?_
  refine CJ.seq ?_
  refine CJ.region ?_
  refine OJ.pures tU_ok 1 rfl ?_
  refine OJ.nil (EJ.next ?_)
  refine CJ.seq ?_
  refine CJ.region ?_
  refine OJ.pures tU_ok 4 rfl ?_
  refine OJ.split (t := 10) rfl (fun hb => ?_) (fun hb => ?_)
  · replace H := pif_t (of_decide_eq_true hb) H
    refine OJ.pures tU_ok 5 rfl ?_
    refine OJ.nil (EJ.next ?_)
    refine CJ.ret (?_)
    obtain rfl := Option.some.inj H
    exact EJ.fin rfl (.tmp rfl .nil) ⟨rfl, hS.ext⟩
  · replace H := pif_f (of_decide_eq_false hb) H
    refine OJ.pures tU_ok 5 rfl ?_
    refine OJ.nil (EJ.next ?_)
    refine CJ.ret (?_)
    obtain rfl := Option.some.inj H
    exact EJ.fin rfl (.tmp rfl .nil) ⟨rfl, hS.ext⟩

def strings_trimRightByte.l1 (a1 : Int) : Nat → ByteArray → Option ByteArray
  | 0, _ => none
  | k + 1, y2 => if 0 < (y2.size : Int) then ((getB y2 (IntKind.i64.wrap ((y2.size : Int) - 1))).bind fun t3 => if t3 = a1 then ((chk ((0 : Int) ≤ 0 ∧ 0 ≤ (IntKind.i64.wrap ((y2.size : Int) - 1)) ∧ (IntKind.i64.wrap ((y2.size : Int) - 1)) ≤ (y2.size : Int))).bind fun u4 => strings_trimRightByte.l1 a1 k (y2.extract 0 ((IntKind.i64.wrap ((y2.size : Int) - 1)).toNat))) else (some y2)) else (some y2)
def strings_trimRightByte.f (k : Nat) (a0 : ByteArray) (a1 : Int) : Option ByteArray := (strings_trimRightByte.l1 a1 k a0).bind fun y1 => some y1
theorem strings_trimRightByte.c (k : Nat) (w : World) (a0 : ByteArray) (a1 : Int) (r : ByteArray) (H : strings_trimRightByte.f k a0 a1 = some r) :
    CV Tryz.prog 87 [.string a0, .int .u8 a1].toArray w fun v w' => v = .string r ∧ Ext w w' := by
  have hS := (St.init w no)
  unfold strings_trimRightByte.f at H
  refine CV.body Tryz.func87 rfl Tryz.ntmps87 rfl ?_
  refine CJ.seq ?_
  refine CJ.region ?_
  refine OJ.pures tU_ok 1 rfl ?_
  refine OJ.nil (EJ.next ?_)
  obtain ⟨j18, H, K18⟩ := pbind H
  refine CJ.cut (fun F w1 => ∃ (y1 : ByteArray) , (some y1 : Option ByteArray) = some j18 ∧ F = [(0, .string y1)] ∧ St w no w1 [] []) ?_ ?_
  · skip
    refine CJ.block ?_
    refine CJ.loop (fun k F w1 => ∃ (y2 : ByteArray), F = [(0, .string y2), (1, .int .u8 a1)] ∧ St w no w1 [] [] ∧ strings_trimRightByte.l1 a1 k y2 = some j18) k (F' := [(0, .string a0), (1, .int .u8 a1)]) ⟨rfl, rfl, trivial⟩ ⟨a0, rfl, hS.pick [] [] rfl, H⟩ ?_
    rintro k F w1 ⟨y2, rfl, hS, H⟩
    cases k with
    | zero => rw [strings_trimRightByte.l1] at H; cases H
    | succ k =>
      rw [strings_trimRightByte.l1] at H
      refine CJ.seq ?_
      refine CJ.seq ?_
      refine CJ.region ?_
      refine OJ.pures tU_ok 4 rfl ?_
      refine OJ.split (t := 8) rfl (fun hb => ?_) (fun hb => ?_)
      · replace H := pif_t (of_decide_eq_true hb) H
        refine OJ.pures tU_ok 4 rfl ?_
        obtain ⟨t3, ht3, H⟩ := pbind H
        refine OJ.st rfl rfl rfl (SR.idxStr tU_ok rfl rfl rfl rfl ht3) ?_
        refine OJ.pures tU_ok 3 rfl ?_
        refine OJ.nil (EJ.next ?_)
        refine CJ.cond rfl (fun hb => ?_) (fun hb => ?_)
        · replace H := pif_t (of_decide_eq_true hb) H
          refine CJ.skip (EJ.next ?_)
          refine CJ.block ?_
          refine CJ.region ?_
          refine OJ.pures tU_ok 4 rfl ?_
          obtain ⟨u4, hu4, H⟩ := pbind H
          refine OJ.st rfl rfl rfl (SR.cutStr tU_ok (0) ((IntKind.i64.wrap ((y2.size : Int) - 1)).toNat) rfl rfl rfl rfl rfl (.inl ⟨rfl, rfl⟩) (.inr ⟨_, _, rfl, (by have := (chk_some hu4); omega), rfl⟩) (by have := (chk_some hu4); omega) (by have := (chk_some hu4); omega)) ?_
          refine OJ.pures tU_ok 1 rfl ?_
          refine OJ.nil (EJ.blk (?_))
          exact EJ.round k (F' := [(0, .string (y2.extract 0 ((IntKind.i64.wrap ((y2.size : Int) - 1)).toNat))), (1, .int .u8 a1)]) ⟨rfl, rfl, trivial⟩ (Nat.lt_succ_self _) ⟨(y2.extract 0 ((IntKind.i64.wrap ((y2.size : Int) - 1)).toNat)), rfl, hS.pick [] [] rfl, H⟩
        · replace H := pif_f (of_decide_eq_false hb) H
          refine CJ.exit (EJ.skE (EJ.skE (EJ.hit (?_))))
          exact EJ.meet (F' := [(0, .string y2)]) ⟨rfl, trivial⟩ ⟨y2, H, rfl, hS.pick [] [] rfl⟩
      · replace H := pif_f (of_decide_eq_false hb) H
        refine OJ.pures tU_ok 8 rfl ?_
        refine OJ.nil (EJ.next ?_)
        refine CJ.condF rfl ?_
        refine CJ.exit (EJ.skE (EJ.skE (EJ.hit (?_))))
        exact EJ.meet (F' := [(0, .string y2)]) ⟨rfl, trivial⟩ ⟨y2, H, rfl, hS.pick [] [] rfl⟩
  · rintro F w1 ⟨y1, he, rfl, hS⟩
    obtain rfl := Option.some.inj he
    have H := K18
    refine CJ.seq ?_
    refine CJ.region ?_
    refine OJ.pures tU_ok 2 rfl ?_
    refine OJ.nil (EJ.next ?_)
    refine CJ.ret (?_)
    obtain rfl := Option.some.inj H
    exact EJ.fin rfl (.tmp rfl .nil) ⟨rfl, hS.ext⟩

def strings_trimLeftByte.l1 (a1 : Int) : Nat → ByteArray → Option ByteArray
  | 0, _ => none
  | k + 1, y2 => if 0 < (y2.size : Int) then ((getB y2 0).bind fun t3 => if t3 = a1 then ((chk ((0 : Int) ≤ 1 ∧ 1 ≤ (y2.size : Int) ∧ (y2.size : Int) ≤ (y2.size : Int))).bind fun u4 => strings_trimLeftByte.l1 a1 k (y2.extract ((1 : Int).toNat) y2.size)) else (some y2)) else (some y2)
def strings_trimLeftByte.f (k : Nat) (a0 : ByteArray) (a1 : Int) : Option ByteArray := (strings_trimLeftByte.l1 a1 k a0).bind fun y1 => some y1
theorem strings_trimLeftByte.c (k : Nat) (w : World) (a0 : ByteArray) (a1 : Int) (r : ByteArray) (H : strings_trimLeftByte.f k a0 a1 = some r) :
    CV Tryz.prog 86 [.string a0, .int .u8 a1].toArray w fun v w' => v = .string r ∧ Ext w w' := by
  have hS := (St.init w no)
  unfold strings_trimLeftByte.f at H
  refine CV.body Tryz.func86 rfl Tryz.ntmps86 rfl ?_
  refine CJ.seq ?_
  refine CJ.region ?_
  refine OJ.pures tU_ok 1 rfl ?_
  refine OJ.nil (EJ.next ?_)
  obtain ⟨j19, H, K19⟩ := pbind H
  refine CJ.cut (fun F w1 => ∃ (y1 : ByteArray) , (some y1 : Option ByteArray) = some j19 ∧ F = [(0, .string y1)] ∧ St w no w1 [] []) ?_ ?_
  · skip
    refine CJ.block ?_
    refine CJ.loop (fun k F w1 => ∃ (y2 : ByteArray), F = [(0, .string y2), (1, .int .u8 a1)] ∧ St w no w1 [] [] ∧ strings_trimLeftByte.l1 a1 k y2 = some j19) k (F' := [(0, .string a0), (1, .int .u8 a1)]) ⟨rfl, rfl, trivial⟩ ⟨a0, rfl, hS.pick [] [] rfl, H⟩ ?_
    rintro k F w1 ⟨y2, rfl, hS, H⟩
    cases k with
    | zero => rw [strings_trimLeftByte.l1] at H; cases H
    | succ k =>
      rw [strings_trimLeftByte.l1] at H
      refine CJ.seq ?_
      refine CJ.seq ?_
      refine CJ.region ?_
      refine OJ.pures tU_ok 4 rfl ?_
      refine OJ.split (t := 8) rfl (fun hb => ?_) (fun hb => ?_)
      · replace H := pif_t (of_decide_eq_true hb) H
        refine OJ.pures tU_ok 1 rfl ?_
        obtain ⟨t3, ht3, H⟩ := pbind H
        refine OJ.st rfl rfl rfl (SR.idxStr tU_ok rfl rfl rfl rfl ht3) ?_
        refine OJ.pures tU_ok 3 rfl ?_
        refine OJ.nil (EJ.next ?_)
        refine CJ.cond rfl (fun hb => ?_) (fun hb => ?_)
        · replace H := pif_t (of_decide_eq_true hb) H
          refine CJ.skip (EJ.next ?_)
          refine CJ.block ?_
          refine CJ.region ?_
          refine OJ.pures tU_ok 1 rfl ?_
          obtain ⟨u4, hu4, H⟩ := pbind H
          refine OJ.st rfl rfl rfl (SR.cutStr tU_ok ((1 : Int).toNat) (y2.size) rfl rfl rfl rfl rfl (.inr ⟨_, _, rfl, (chk_some hu4).1, rfl⟩) (.inl ⟨rfl, rfl⟩) (by have := (chk_some hu4); omega) (by have := (chk_some hu4); omega)) ?_
          refine OJ.pures tU_ok 1 rfl ?_
          refine OJ.nil (EJ.blk (?_))
          exact EJ.round k (F' := [(0, .string (y2.extract ((1 : Int).toNat) y2.size)), (1, .int .u8 a1)]) ⟨rfl, rfl, trivial⟩ (Nat.lt_succ_self _) ⟨(y2.extract ((1 : Int).toNat) y2.size), rfl, hS.pick [] [] rfl, H⟩
        · replace H := pif_f (of_decide_eq_false hb) H
          refine CJ.exit (EJ.skE (EJ.skE (EJ.hit (?_))))
          exact EJ.meet (F' := [(0, .string y2)]) ⟨rfl, trivial⟩ ⟨y2, H, rfl, hS.pick [] [] rfl⟩
      · replace H := pif_f (of_decide_eq_false hb) H
        refine OJ.pures tU_ok 5 rfl ?_
        refine OJ.nil (EJ.next ?_)
        refine CJ.condF rfl ?_
        refine CJ.exit (EJ.skE (EJ.skE (EJ.hit (?_))))
        exact EJ.meet (F' := [(0, .string y2)]) ⟨rfl, trivial⟩ ⟨y2, H, rfl, hS.pick [] [] rfl⟩
  · rintro F w1 ⟨y1, he, rfl, hS⟩
    obtain rfl := Option.some.inj he
    have H := K19
    refine CJ.seq ?_
    refine CJ.region ?_
    refine OJ.pures tU_ok 2 rfl ?_
    refine OJ.nil (EJ.next ?_)
    refine CJ.ret (?_)
    obtain rfl := Option.some.inj H
    exact EJ.fin rfl (.tmp rfl .nil) ⟨rfl, hS.ext⟩

def strings_makeASCIISet.l1 (a0 : ByteArray) : Nat → (Arr 256 Bool) → Int → Option ((Arr 256 Bool × Bool) ⊕ (Arr 256 Bool))
  | 0, _, _ => none
  | k + 1, y3, y4 => if y4 < (a0.size : Int) then ((getB a0 y4).bind fun t5 => if 128 ≤ t5 then (some (Sum.inl (y3, false))) else ((getI y3.l t5).bind fun t6 => strings_makeASCIISet.l1 a0 k (aset y3 t5.toNat true) (IntKind.i64.wrap (y4 + 1)))) else (some (Sum.inr y3))
def strings_makeASCIISet.f (k : Nat) (a0 : ByteArray) : Option (Arr 256 Bool × Bool) := (strings_makeASCIISet.l1 a0 k (Arr.mk' false : Arr 256 Bool) 0).bind fun s20 => match s20 with | .inl r => some r | .inr y2 => some (y2, true)
theorem strings_makeASCIISet.c (k : Nat) (w : World) (a0 : ByteArray) (r : Arr 256 Bool × Bool) (H : strings_makeASCIISet.f k a0 = some r) :
    CV Tryz.prog 88 [.string a0].toArray w fun v w' => v = .tuple #[.agg ((carr 256 cb).enc r.1).toArray, .bool r.2] ∧ Ext w w' := by
  have hS := (St.init w no)
  unfold strings_makeASCIISet.f at H
  refine CV.body Tryz.func88 rfl Tryz.ntmps88 rfl ?_
  refine CJ.seq ?_
  refine CJ.region ?_
  refine OJ.ef rfl rfl rfl (Ef.alloc hS tI_ok rfl rfl ((carr 256 cb).enc (Arr.mk' false : Arr 256 Bool)) (by kernel_rfl)) ?_
  rintro _ w1 ⟨b1, rfl, hS⟩
  refine OJ.pures tU_ok 1 rfl ?_
  refine OJ.nil (EJ.next ?_)
  refine CJ.seq ?_
  refine CJ.seq ?_
  refine CJ.region ?_
  refine OJ.pures tU_ok 1 rfl ?_
  refine OJ.nil (EJ.next ?_)
  obtain ⟨j20, H, K20⟩ := pbind H
  refine CJ.cut1 (fun F w1 => ∃ (y2 : Arr 256 Bool) , (some (Sum.inr y2) : Option ((Arr 256 Bool × Bool) ⊕ (Arr 256 Bool))) = some j20 ∧ F = [(2, .pointer (some ⟨b1, 0, none⟩))] ∧ St w no w1 [box b1 ((carr 256 cb).enc y2) 108] []) ?_ ?_
  · skip
    refine CJ.block ?_
    refine CJ.loop (fun k F w1 => ∃ (y3 : Arr 256 Bool) (y4 : Int), F = [(0, .string a0), (2, .pointer (some ⟨b1, 0, none⟩)), (4, .int .i64 y4)] ∧ St w no w1 [box b1 ((carr 256 cb).enc y3) 108] [] ∧ strings_makeASCIISet.l1 a0 k y3 y4 = some j20) k (F' := [(0, .string a0), (2, .pointer (some ⟨b1, 0, none⟩)), (4, .int .i64 0)]) ⟨rfl, rfl, rfl, trivial⟩ ⟨(Arr.mk' false : Arr 256 Bool), 0, rfl, hS.pick [0] [] rfl, H⟩ ?_
    rintro k F w1 ⟨y3, y4, rfl, hS, H⟩
    cases k with
    | zero => rw [strings_makeASCIISet.l1] at H; cases H
    | succ k =>
      rw [strings_makeASCIISet.l1] at H
      refine CJ.seq ?_
      refine CJ.seq ?_
      refine CJ.region ?_
      refine OJ.pures tU_ok 4 rfl ?_
      refine OJ.nil (EJ.next ?_)
      refine CJ.cond rfl (fun hb => ?_) (fun hb => ?_)
      · replace H := pif_t (of_decide_eq_true hb) H
        refine CJ.skip (EJ.next ?_)
        refine CJ.seq ?_
        refine CJ.block ?_
        refine CJ.seq ?_
        refine CJ.region ?_
        refine OJ.pures tU_ok 2 rfl ?_
        obtain ⟨t5, ht5, H⟩ := pbind H
        refine OJ.st rfl rfl rfl (SR.idxStr tU_ok rfl rfl rfl rfl ht5) ?_
        refine OJ.pures tU_ok 1 rfl ?_
        refine OJ.nil (EJ.next ?_)
        refine CJ.seq ?_
        refine CJ.seq ?_
        refine CJ.region ?_
        refine OJ.pures tU_ok 2 rfl ?_
        refine OJ.nil (EJ.next ?_)
        refine CJ.cond rfl (fun hb => ?_) (fun hb => ?_)
        · replace H := pif_t (of_decide_eq_true hb) H
          refine CJ.seq ?_
          refine CJ.region ?_
          refine OJ.st rfl rfl rfl (SR.load rfl rfl (fun w' hx => ldE tU_ok tI_ok rfl rfl rfl (CA.ext (hS.cells (i := 0) rfl) hx) rfl)) ?_
          refine OJ.es rfl rfl (Es.put tI_ok hS (i := 0) rfl rfl rfl rfl rfl (vs := (carr 256 cb).enc y3) rfl ((carr 256 cb).len _) ((carr 256 cb).one _) (Put.all (carr 256 cb) y3 y3) (by (try simp only [add_lit, Nat.add_assoc, Nat.zero_add, Nat.add_zero]) <;> rfl)) ?_
          intro w1 hS
          refine OJ.pures tU_ok 1 rfl ?_
          refine OJ.nil (EJ.next ?_)
          refine CJ.ret (EJ.skR (EJ.bkR (EJ.skR (EJ.skR (EJ.bkR (EJ.skR (EJ.skR (?_))))))))
          first | (obtain rfl := Option.some.inj H; have H := K20) | (obtain ⟨q20, H2, e20⟩ := pbind H; obtain rfl := Option.some.inj e20; obtain rfl := Option.some.inj K20; have H := H2)
          obtain rfl := Option.some.inj H
          exact EJ.fin rfl (.cell rfl (ldE tU_ok tI_ok rfl rfl rfl (hS.cells (i := 0) rfl) rfl) (.tmp rfl .nil)) ⟨rfl, hS.ext⟩
        · replace H := pif_f (of_decide_eq_false hb) H
          refine CJ.skip (EJ.next ?_)
          refine CJ.region ?_
          refine OJ.pures tU_ok 1 rfl ?_
          obtain ⟨t6, ht6, H⟩ := pbind H
          refine OJ.st rfl rfl rfl (SR.idxA tU_ok tI_ok rfl rfl rfl rfl rfl (Arr.lt ht6)) ?_
          refine OJ.es rfl rfl (Es.put tI_ok hS (i := 0) rfl rfl rfl rfl rfl (vs := cb.enc true) rfl rfl (one1 rfl) (Put.idx (Put.all cb t6 true) ht6) (by (try simp only [add_lit, Nat.add_assoc, Nat.zero_add, Nat.add_zero]) <;> rfl)) ?_
          intro w1 hS
          refine OJ.nil (EJ.blk (EJ.next ?_))
          refine CJ.region ?_
          refine OJ.pures tU_ok 3 rfl ?_
          refine OJ.nil ?_
          exact EJ.round k (F' := [(0, .string a0), (2, .pointer (some ⟨b1, 0, none⟩)), (4, .int .i64 (IntKind.i64.wrap (y4 + 1)))]) ⟨rfl, rfl, rfl, trivial⟩ (Nat.lt_succ_self _) ⟨(aset y3 t5.toNat true), (IntKind.i64.wrap (y4 + 1)), rfl, hS.pick [0] [] rfl, H⟩
      · replace H := pif_f (of_decide_eq_false hb) H
        refine CJ.exit (EJ.skE (EJ.skE (EJ.hit (?_))))
        exact EJ.meet (F' := [(2, .pointer (some ⟨b1, 0, none⟩))]) ⟨rfl, trivial⟩ ⟨y3, H, rfl, hS.pick [0] [] rfl⟩
  · rintro F w1 ⟨y2, he, rfl, hS⟩
    obtain rfl := Option.some.inj he
    have H := K20
    refine EJ.next ?_
    refine CJ.seq ?_
    refine CJ.region ?_
    refine OJ.st rfl rfl rfl (SR.load rfl rfl (fun w' hx => ldE tU_ok tI_ok rfl rfl rfl (CA.ext (hS.cells (i := 0) rfl) hx) rfl)) ?_
    refine OJ.es rfl rfl (Es.put tI_ok hS (i := 0) rfl rfl rfl rfl rfl (vs := (carr 256 cb).enc y2) rfl ((carr 256 cb).len _) ((carr 256 cb).one _) (Put.all (carr 256 cb) y2 y2) (by (try simp only [add_lit, Nat.add_assoc, Nat.zero_add, Nat.add_zero]) <;> rfl)) ?_
    intro w1 hS
    refine OJ.pures tU_ok 1 rfl ?_
    refine OJ.nil (EJ.next ?_)
    refine CJ.ret (?_)
    obtain rfl := Option.some.inj H
    exact EJ.fin rfl (.cell rfl (ldE tU_ok tI_ok rfl rfl rfl (hS.cells (i := 0) rfl) rfl) (.tmp rfl .nil)) ⟨rfl, hS.ext⟩

def strings_asciiSet_contains.f (a0 : Arr 256 Bool) (a1 : Int) : Option Bool := (getI a0.l a1).bind fun t1 => some t1
theorem strings_asciiSet_contains.c (w : World) (pa0 : Addr) (a0 : Arr 256 Bool) (hp0 : CA w pa0 ((carr 256 cb).enc a0)) (a1 : Int) (r : Bool) (H : strings_asciiSet_contains.f a0 a1 = some r) :
    CV Tryz.prog 105 [.pointer (some pa0), .int .u8 a1].toArray w fun v w' => v = .bool r ∧ Ext w w' := by
  have hS := ((St.init w no).paramP pa0 ((carr 256 cb).enc a0) hp0)
  unfold strings_asciiSet_contains.f at H
  refine CV.body Tryz.func105 rfl Tryz.ntmps105 rfl ?_
  refine CJ.seq ?_
  refine CJ.region ?_
  refine OJ.pures tU_ok 1 rfl ?_
  refine OJ.nil (EJ.next ?_)
  refine CJ.seq ?_
  refine CJ.region ?_
  refine OJ.pures tU_ok 3 rfl ?_
  obtain ⟨t1, ht1, H⟩ := pbind H
  refine OJ.st rfl rfl rfl (SR.idxA tU_ok tI_ok rfl rfl rfl rfl rfl (Arr.lt ht1)) ?_
  refine OJ.st rfl rfl rfl (SR.load rfl rfl (fun w' hx => ld1 tU_ok rfl rfl (CA.ext (CA.idx (hS.ca (i := 0) rfl) ht1) hx) rfl)) ?_
  refine OJ.pures tU_ok 1 rfl ?_
  refine OJ.nil (EJ.next ?_)
  refine CJ.ret (?_)
  obtain rfl := Option.some.inj H
  exact EJ.fin rfl (.tmp rfl .nil) ⟨rfl, hS.ext⟩

def strings_trimRightASCII.l1 (a1 : Arr 256 Bool) : Nat → ByteArray → Option ByteArray
  | 0, _ => none
  | k + 1, y2 => if 0 < (y2.size : Int) then ((getB y2 (IntKind.i64.wrap ((y2.size : Int) - 1))).bind fun t3 => (strings_asciiSet_contains.f a1 t3).bind fun t4 => if (!t4) = true then (some y2) else ((chk ((0 : Int) ≤ 0 ∧ 0 ≤ (IntKind.i64.wrap ((y2.size : Int) - 1)) ∧ (IntKind.i64.wrap ((y2.size : Int) - 1)) ≤ (y2.size : Int))).bind fun u5 => strings_trimRightASCII.l1 a1 k (y2.extract 0 ((IntKind.i64.wrap ((y2.size : Int) - 1)).toNat)))) else (some y2)
def strings_trimRightASCII.f (k : Nat) (a0 : ByteArray) (a1 : Arr 256 Bool) : Option ByteArray := (strings_trimRightASCII.l1 a1 k a0).bind fun y1 => some y1
theorem strings_trimRightASCII.c (k : Nat) (w : World) (a0 : ByteArray) (pa1 : Addr) (a1 : Arr 256 Bool) (hp1 : CA w pa1 ((carr 256 cb).enc a1)) (r : ByteArray) (H : strings_trimRightASCII.f k a0 a1 = some r) :
    CV Tryz.prog 90 [.string a0, .pointer (some pa1)].toArray w fun v w' => v = .string r ∧ Ext w w' := by
  have hS := ((St.init w no).paramP pa1 ((carr 256 cb).enc a1) hp1)
  unfold strings_trimRightASCII.f at H
  refine CV.body Tryz.func90 rfl Tryz.ntmps90 rfl ?_
  refine CJ.seq ?_
  refine CJ.region ?_
  refine OJ.pures tU_ok 1 rfl ?_
  refine OJ.nil (EJ.next ?_)
  obtain ⟨j21, H, K21⟩ := pbind H
  refine CJ.cut (fun F w1 => ∃ (y1 : ByteArray) , (some y1 : Option ByteArray) = some j21 ∧ F = [(0, .string y1)] ∧ St w no w1 [] [roP pa1 ((carr 256 cb).enc a1)]) ?_ ?_
  · skip
    refine CJ.block ?_
    refine CJ.loop (fun k F w1 => ∃ (y2 : ByteArray), F = [(0, .string y2), (1, .pointer (some pa1))] ∧ St w no w1 [] [roP pa1 ((carr 256 cb).enc a1)] ∧ strings_trimRightASCII.l1 a1 k y2 = some j21) k (F' := [(0, .string a0), (1, .pointer (some pa1))]) ⟨rfl, rfl, trivial⟩ ⟨a0, rfl, hS.pick [] [0] rfl, H⟩ ?_
    rintro k F w1 ⟨y2, rfl, hS, H⟩
    cases k with
    | zero => rw [strings_trimRightASCII.l1] at H; cases H
    | succ k =>
      rw [strings_trimRightASCII.l1] at H
      refine CJ.seq ?_
      refine CJ.seq ?_
      refine CJ.region ?_
      refine OJ.pures tU_ok 3 rfl ?_
      refine OJ.nil (EJ.next ?_)
      refine CJ.cond rfl (fun hb => ?_) (fun hb => ?_)
      · replace H := pif_t (of_decide_eq_true hb) H
        refine CJ.skip (EJ.next ?_)
        refine CJ.block ?_
        refine CJ.seq ?_
        refine CJ.seq ?_
        refine CJ.region ?_
        refine OJ.pures tU_ok 5 rfl ?_
        obtain ⟨t3, ht3, H⟩ := pbind H
        refine OJ.st rfl rfl rfl (SR.idxStr tU_ok rfl rfl rfl rfl ht3) ?_
        obtain ⟨t4, ht4, H⟩ := pbind H
        refine OJ.callF rfl rfl rfl rfl rfl hb105 rfl (strings_asciiSet_contains.c _ _ a1 (hS.ca (i := 0) rfl) t3 _ ht4) ?_
        rintro _ w1 ⟨rfl, hs⟩
        replace hS := hS.grow hs
        refine OJ.pures tU_ok 1 rfl ?_
        refine OJ.nil (EJ.next ?_)
        refine CJ.cond rfl (fun hb => ?_) (fun hb => ?_)
        · replace H := pif_t hb H
          refine CJ.exit (EJ.skE (EJ.bkE rfl (EJ.skE (EJ.hit (?_)))))
          exact EJ.meet (F' := [(0, .string y2)]) ⟨rfl, trivial⟩ ⟨y2, H, rfl, hS.pick [] [0] rfl⟩
        · replace H := pifb_f hb H
          refine CJ.skip (EJ.next ?_)
          refine CJ.region ?_
          refine OJ.pures tU_ok 4 rfl ?_
          obtain ⟨u5, hu5, H⟩ := pbind H
          refine OJ.st rfl rfl rfl (SR.cutStr tU_ok (0) ((IntKind.i64.wrap ((y2.size : Int) - 1)).toNat) rfl rfl rfl rfl rfl (.inl ⟨rfl, rfl⟩) (.inr ⟨_, _, rfl, (by have := (chk_some hu5); omega), rfl⟩) (by have := (chk_some hu5); omega) (by have := (chk_some hu5); omega)) ?_
          refine OJ.pures tU_ok 1 rfl ?_
          refine OJ.nil (EJ.blk (?_))
          exact EJ.round k (F' := [(0, .string (y2.extract 0 ((IntKind.i64.wrap ((y2.size : Int) - 1)).toNat))), (1, .pointer (some pa1))]) ⟨rfl, rfl, trivial⟩ (Nat.lt_succ_self _) ⟨(y2.extract 0 ((IntKind.i64.wrap ((y2.size : Int) - 1)).toNat)), rfl, hS.pick [] [0] rfl, H⟩
      · replace H := pif_f (of_decide_eq_false hb) H
        refine CJ.exit (EJ.skE (EJ.skE (EJ.hit (?_))))
        exact EJ.meet (F' := [(0, .string y2)]) ⟨rfl, trivial⟩ ⟨y2, H, rfl, hS.pick [] [0] rfl⟩
  · rintro F w1 ⟨y1, he, rfl, hS⟩
    obtain rfl := Option.some.inj he
    have H := K21
    refine CJ.seq ?_
    refine CJ.region ?_
    refine OJ.pures tU_ok 2 rfl ?_
    refine OJ.nil (EJ.next ?_)
    refine CJ.ret (?_)
    obtain rfl := Option.some.inj H
    exact EJ.fin rfl (.tmp rfl .nil) ⟨rfl, hS.ext⟩

def strings_trimLeftASCII.l1 (a1 : Arr 256 Bool) : Nat → ByteArray → Option ByteArray
  | 0, _ => none
  | k + 1, y2 => if 0 < (y2.size : Int) then ((getB y2 0).bind fun t3 => (strings_asciiSet_contains.f a1 t3).bind fun t4 => if (!t4) = true then (some y2) else ((chk ((0 : Int) ≤ 1 ∧ 1 ≤ (y2.size : Int) ∧ (y2.size : Int) ≤ (y2.size : Int))).bind fun u5 => strings_trimLeftASCII.l1 a1 k (y2.extract ((1 : Int).toNat) y2.size))) else (some y2)
def strings_trimLeftASCII.f (k : Nat) (a0 : ByteArray) (a1 : Arr 256 Bool) : Option ByteArray := (strings_trimLeftASCII.l1 a1 k a0).bind fun y1 => some y1
theorem strings_trimLeftASCII.c (k : Nat) (w : World) (a0 : ByteArray) (pa1 : Addr) (a1 : Arr 256 Bool) (hp1 : CA w pa1 ((carr 256 cb).enc a1)) (r : ByteArray) (H : strings_trimLeftASCII.f k a0 a1 = some r) :
    CV Tryz.prog 89 [.string a0, .pointer (some pa1)].toArray w fun v w' => v = .string r ∧ Ext w w' := by
  have hS := ((St.init w no).paramP pa1 ((carr 256 cb).enc a1) hp1)
  unfold strings_trimLeftASCII.f at H
  refine CV.body Tryz.func89 rfl Tryz.ntmps89 rfl ?_
  refine CJ.seq ?_
  refine CJ.region ?_
  refine OJ.pures tU_ok 1 rfl ?_
  refine OJ.nil (EJ.next ?_)
  obtain ⟨j22, H, K22⟩ := pbind H
  refine CJ.cut (fun F w1 => ∃ (y1 : ByteArray) , (some y1 : Option ByteArray) = some j22 ∧ F = [(0, .string y1)] ∧ St w no w1 [] [roP pa1 ((carr 256 cb).enc a1)]) ?_ ?_
  · skip
    refine CJ.block ?_
    refine CJ.loop (fun k F w1 => ∃ (y2 : ByteArray), F = [(0, .string y2), (1, .pointer (some pa1))] ∧ St w no w1 [] [roP pa1 ((carr 256 cb).enc a1)] ∧ strings_trimLeftASCII.l1 a1 k y2 = some j22) k (F' := [(0, .string a0), (1, .pointer (some pa1))]) ⟨rfl, rfl, trivial⟩ ⟨a0, rfl, hS.pick [] [0] rfl, H⟩ ?_
    rintro k F w1 ⟨y2, rfl, hS, H⟩
    cases k with
    | zero => rw [strings_trimLeftASCII.l1] at H; cases H
    | succ k =>
      rw [strings_trimLeftASCII.l1] at H
      refine CJ.seq ?_
      refine CJ.seq ?_
      refine CJ.region ?_
      refine OJ.pures tU_ok 3 rfl ?_
      refine OJ.nil (EJ.next ?_)
      refine CJ.cond rfl (fun hb => ?_) (fun hb => ?_)
      · replace H := pif_t (of_decide_eq_true hb) H
        refine CJ.skip (EJ.next ?_)
        refine CJ.block ?_
        refine CJ.seq ?_
        refine CJ.seq ?_
        refine CJ.region ?_
        refine OJ.pures tU_ok 2 rfl ?_
        obtain ⟨t3, ht3, H⟩ := pbind H
        refine OJ.st rfl rfl rfl (SR.idxStr tU_ok rfl rfl rfl rfl ht3) ?_
        obtain ⟨t4, ht4, H⟩ := pbind H
        refine OJ.callF rfl rfl rfl rfl rfl hb105 rfl (strings_asciiSet_contains.c _ _ a1 (hS.ca (i := 0) rfl) t3 _ ht4) ?_
        rintro _ w1 ⟨rfl, hs⟩
        replace hS := hS.grow hs
        refine OJ.pures tU_ok 1 rfl ?_
        refine OJ.nil (EJ.next ?_)
        refine CJ.cond rfl (fun hb => ?_) (fun hb => ?_)
        · replace H := pif_t hb H
          refine CJ.exit (EJ.skE (EJ.bkE rfl (EJ.skE (EJ.hit (?_)))))
          exact EJ.meet (F' := [(0, .string y2)]) ⟨rfl, trivial⟩ ⟨y2, H, rfl, hS.pick [] [0] rfl⟩
        · replace H := pifb_f hb H
          refine CJ.skip (EJ.next ?_)
          refine CJ.region ?_
          refine OJ.pures tU_ok 1 rfl ?_
          obtain ⟨u5, hu5, H⟩ := pbind H
          refine OJ.st rfl rfl rfl (SR.cutStr tU_ok ((1 : Int).toNat) (y2.size) rfl rfl rfl rfl rfl (.inr ⟨_, _, rfl, (chk_some hu5).1, rfl⟩) (.inl ⟨rfl, rfl⟩) (by have := (chk_some hu5); omega) (by have := (chk_some hu5); omega)) ?_
          refine OJ.pures tU_ok 1 rfl ?_
          refine OJ.nil (EJ.blk (?_))
          exact EJ.round k (F' := [(0, .string (y2.extract ((1 : Int).toNat) y2.size)), (1, .pointer (some pa1))]) ⟨rfl, rfl, trivial⟩ (Nat.lt_succ_self _) ⟨(y2.extract ((1 : Int).toNat) y2.size), rfl, hS.pick [] [0] rfl, H⟩
      · replace H := pif_f (of_decide_eq_false hb) H
        refine CJ.exit (EJ.skE (EJ.skE (EJ.hit (?_))))
        exact EJ.meet (F' := [(0, .string y2)]) ⟨rfl, trivial⟩ ⟨y2, H, rfl, hS.pick [] [0] rfl⟩
  · rintro F w1 ⟨y1, he, rfl, hS⟩
    obtain rfl := Option.some.inj he
    have H := K22
    refine CJ.seq ?_
    refine CJ.region ?_
    refine OJ.pures tU_ok 2 rfl ?_
    refine OJ.nil (EJ.next ?_)
    refine CJ.ret (?_)
    obtain rfl := Option.some.inj H
    exact EJ.fin rfl (.tmp rfl .nil) ⟨rfl, hS.ext⟩

def unicode_utf8_RuneStart.f (a0 : Int) : Option Bool := some (decide ((andI .u8 a0 192) ≠ 128))
theorem unicode_utf8_RuneStart.c (w : World) (a0 : Int) (r : Bool) (H : unicode_utf8_RuneStart.f a0 = some r) :
    CV Tryz.prog 116 [.int .u8 a0].toArray w fun v w' => v = .bool r ∧ Ext w w' := by
  have hS := (St.init w no)
  unfold unicode_utf8_RuneStart.f at H
  refine CV.body Tryz.func116 rfl Tryz.ntmps116 rfl ?_
  refine CJ.seq ?_
  refine CJ.region ?_
  refine OJ.pures tU_ok 1 rfl ?_
  refine OJ.nil (EJ.next ?_)
  refine CJ.seq ?_
  refine CJ.region ?_
  refine OJ.pures tU_ok 4 rfl ?_
  refine OJ.nil (EJ.next ?_)
  refine CJ.ret (?_)
  obtain rfl := Option.some.inj H
  exact EJ.fin rfl (.tmp rfl .nil) ⟨rfl, hS.ext⟩

def unicode_utf8_decodeRuneInStringSlow.f (a0 : ByteArray) : Option (Int × Int) := if (a0.size : Int) < 1 then (some (65533, 0)) else none
theorem unicode_utf8_decodeRuneInStringSlow.c (w : World) (a0 : ByteArray) (r : Int × Int) (H : unicode_utf8_decodeRuneInStringSlow.f a0 = some r) :
    CV Tryz.prog 114 [.string a0].toArray w fun v w' => v = .tuple #[.int .i32 r.1, .int .i64 r.2] ∧ Ext w w' := by
  have hS := (St.init w no)
  unfold unicode_utf8_decodeRuneInStringSlow.f at H
  refine CV.body Tryz.func114 rfl Tryz.ntmps114 rfl ?_
  refine CJ.seq ?_
  refine CJ.region ?_
  refine OJ.pures tU_ok 2 rfl ?_
  refine OJ.nil (EJ.next ?_)
  refine CJ.seq ?_
  refine CJ.region ?_
  refine OJ.pures tU_ok 3 rfl ?_
  refine OJ.nil (EJ.next ?_)
  refine CJ.seq ?_
  refine CJ.seq ?_
  refine CJ.region ?_
  refine OJ.pures tU_ok 2 rfl ?_
  refine OJ.nil (EJ.next ?_)
  refine CJ.cond rfl (fun hb => ?_) (fun hb => ?_)
  · replace H := pif_t (of_decide_eq_true hb) H
    refine CJ.seq ?_
    refine CJ.region ?_
    refine OJ.pures tU_ok 2 rfl ?_
    refine OJ.nil (EJ.next ?_)
    refine CJ.ret (EJ.skR (?_))
    obtain rfl := Option.some.inj H
    exact EJ.fin rfl (.tmp rfl (.tmp rfl .nil)) ⟨rfl, hS.ext⟩
  · replace H := pif_f (of_decide_eq_false hb) H
    cases H

def unicode_utf8_DecodeRuneInString.f (a0 : ByteArray) : Option (Int × Int) := (if a0 ≠ ByteArray.empty then ((getB a0 0).bind fun t2 => some (decide (t2 < 128))) else (some false)).bind fun y1 => if y1 = true then ((getB a0 0).bind fun t3 => some (IntKind.i32.wrap t3, 1)) else ((unicode_utf8_decodeRuneInStringSlow.f a0).bind fun t4 => some (t4.1, t4.2))
theorem unicode_utf8_DecodeRuneInString.c (w : World) (a0 : ByteArray) (r : Int × Int) (H : unicode_utf8_DecodeRuneInString.f a0 = some r) :
    CV Tryz.prog 106 [.string a0].toArray w fun v w' => v = .tuple #[.int .i32 r.1, .int .i64 r.2] ∧ Ext w w' := by
  have hS := (St.init w no)
  unfold unicode_utf8_DecodeRuneInString.f at H
  refine CV.body Tryz.func106 rfl Tryz.ntmps106 rfl ?_
  refine CJ.seq ?_
  refine CJ.region ?_
  refine OJ.pures tU_ok 2 rfl ?_
  refine OJ.nil (EJ.next ?_)
  refine CJ.seq ?_
  obtain ⟨j25, H, K25⟩ := pbind H
  refine CJ.cut (fun F w1 => ∃ (y1 : Bool) , (some y1 : Option Bool) = some j25 ∧ F = [(0, .string a0), (10, .bool y1)] ∧ St w no w1 [] []) ?_ ?_
  · skip
    refine CJ.region ?_
    refine OJ.pures tU_ok 3 rfl ?_
    refine OJ.split (t := 6) rfl (fun hb => ?_) (fun hb => ?_)
    · replace H := pif_t (of_decide_eq_true hb) H
      refine OJ.pures tU_ok 1 rfl ?_
      obtain ⟨t2, ht2, H⟩ := pbind H
      refine OJ.st rfl rfl rfl (SR.idxStr tU_ok rfl rfl rfl rfl ht2) ?_
      refine OJ.pures tU_ok 2 rfl ?_
      refine OJ.nil ?_
      exact EJ.meet (F' := [(0, .string a0), (10, .bool (decide (t2 < 128)))]) ⟨rfl, rfl, trivial⟩ ⟨(decide (t2 < 128)), H, rfl, hS.pick [] [] rfl⟩
    · replace H := pif_f (of_decide_eq_false hb) H
      refine OJ.pures tU_ok 4 rfl ?_
      refine OJ.nil ?_
      exact EJ.meet (F' := [(0, .string a0), (10, .bool false)]) ⟨rfl, rfl, trivial⟩ ⟨false, H, rfl, hS.pick [] [] rfl⟩
  · rintro F w1 ⟨y1, he, rfl, hS⟩
    obtain rfl := Option.some.inj he
    have H := K25
    refine CJ.cond rfl (fun hb => ?_) (fun hb => ?_)
    · replace H := pif_t hb H
      refine CJ.seq ?_
      refine CJ.region ?_
      refine OJ.pures tU_ok 1 rfl ?_
      obtain ⟨t3, ht3, H⟩ := pbind H
      refine OJ.st rfl rfl rfl (SR.idxStr tU_ok rfl rfl rfl rfl ht3) ?_
      refine OJ.pures tU_ok 3 rfl ?_
      refine OJ.nil (EJ.next ?_)
      refine CJ.ret (EJ.skR (?_))
      obtain rfl := Option.some.inj H
      exact EJ.fin rfl (.tmp rfl (.tmp rfl .nil)) ⟨rfl, hS.ext⟩
    · replace H := pifb_f hb H
      refine CJ.region ?_
      refine OJ.pures tU_ok 1 rfl ?_
      obtain ⟨t4, ht4, H⟩ := pbind H
      refine OJ.callF rfl rfl rfl rfl rfl hb114 rfl (unicode_utf8_decodeRuneInStringSlow.c _ a0 _ ht4) ?_
      rintro _ w1 ⟨rfl, hs⟩
      replace hS := hS.grow hs
      refine OJ.pures tU_ok 5 rfl ?_
      refine OJ.nil (EJ.next ?_)
      refine CJ.ret (?_)
      obtain rfl := Option.some.inj H
      exact EJ.fin rfl (.tmp rfl (.tmp rfl .nil)) ⟨rfl, hS.ext⟩

def unicode_utf8_DecodeLastRuneInString.l1 (a0 : ByteArray) : Nat → Int → Option Int
  | 0, _ => none
  | k + 1, y3 => if (if (IntKind.i64.wrap ((a0.size : Int) - 4)) < 0 then 0 else (IntKind.i64.wrap ((a0.size : Int) - 4))) ≤ y3 then ((getB a0 y3).bind fun t4 => (unicode_utf8_RuneStart.f t4).bind fun t5 => if t5 = true then (some y3) else (unicode_utf8_DecodeLastRuneInString.l1 a0 k (IntKind.i64.wrap (y3 - 1)))) else (some y3)
def unicode_utf8_DecodeLastRuneInString.f (k : Nat) (a0 : ByteArray) : Option (Int × Int) := if (a0.size : Int) = 0 then (some (65533, 0)) else ((getB a0 (IntKind.i64.wrap ((a0.size : Int) - 1))).bind fun t1 => if (IntKind.i32.wrap t1) < 128 then (some (IntKind.i32.wrap t1, 1)) else ((unicode_utf8_DecodeLastRuneInString.l1 a0 k (IntKind.i64.wrap ((IntKind.i64.wrap ((a0.size : Int) - 1)) - 1))).bind fun y2 => if y2 < 0 then ((chk ((0 : Int) ≤ 0 ∧ 0 ≤ (a0.size : Int) ∧ (a0.size : Int) ≤ (a0.size : Int))).bind fun u6 => (unicode_utf8_DecodeRuneInString.f (a0.extract ((0 : Int).toNat) ((a0.size : Int).toNat))).bind fun t7 => if (IntKind.i64.wrap (0 + t7.2)) ≠ (a0.size : Int) then (some (65533, 1)) else (some (t7.1, t7.2))) else ((chk ((0 : Int) ≤ y2 ∧ y2 ≤ (a0.size : Int) ∧ (a0.size : Int) ≤ (a0.size : Int))).bind fun u8 => (unicode_utf8_DecodeRuneInString.f (a0.extract y2.toNat ((a0.size : Int).toNat))).bind fun t9 => if (IntKind.i64.wrap (y2 + t9.2)) ≠ (a0.size : Int) then (some (65533, 1)) else (some (t9.1, t9.2)))))
theorem unicode_utf8_DecodeLastRuneInString.c (k : Nat) (w : World) (a0 : ByteArray) (r : Int × Int) (H : unicode_utf8_DecodeLastRuneInString.f k a0 = some r) :
    CV Tryz.prog 108 [.string a0].toArray w fun v w' => v = .tuple #[.int .i32 r.1, .int .i64 r.2] ∧ Ext w w' := by
  have hS := (St.init w no)
  unfold unicode_utf8_DecodeLastRuneInString.f at H
  refine CV.body Tryz.func108 rfl Tryz.ntmps108 rfl ?_
  refine CJ.seq ?_
  refine CJ.region ?_
  refine OJ.pures tU_ok 2 rfl ?_
  refine OJ.nil (EJ.next ?_)
  refine CJ.seq ?_
  refine CJ.region ?_
  refine OJ.pures tU_ok 3 rfl ?_
  refine OJ.nil (EJ.next ?_)
  refine CJ.seq ?_
  refine CJ.seq ?_
  refine CJ.region ?_
  refine OJ.pures tU_ok 2 rfl ?_
  refine OJ.nil (EJ.next ?_)
  refine CJ.cond rfl (fun hb => ?_) (fun hb => ?_)
  · replace H := pif_t (of_decide_eq_true hb) H
    refine CJ.seq ?_
    refine CJ.region ?_
    refine OJ.pures tU_ok 2 rfl ?_
    refine OJ.nil (EJ.next ?_)
    refine CJ.ret (EJ.skR (?_))
    obtain rfl := Option.some.inj H
    exact EJ.fin rfl (.tmp rfl (.tmp rfl .nil)) ⟨rfl, hS.ext⟩
  · replace H := pif_f (of_decide_eq_false hb) H
    refine CJ.skip (EJ.next ?_)
    refine CJ.seq ?_
    refine CJ.region ?_
    refine OJ.pures tU_ok 3 rfl ?_
    refine OJ.nil (EJ.next ?_)
    refine CJ.seq ?_
    refine CJ.region ?_
    refine OJ.pures tU_ok 2 rfl ?_
    obtain ⟨t1, ht1, H⟩ := pbind H
    refine OJ.st rfl rfl rfl (SR.idxStr tU_ok rfl rfl rfl rfl ht1) ?_
    refine OJ.pures tU_ok 2 rfl ?_
    refine OJ.nil (EJ.next ?_)
    refine CJ.seq ?_
    refine CJ.seq ?_
    refine CJ.region ?_
    refine OJ.pures tU_ok 2 rfl ?_
    refine OJ.nil (EJ.next ?_)
    refine CJ.cond rfl (fun hb => ?_) (fun hb => ?_)
    · replace H := pif_t (of_decide_eq_true hb) H
      refine CJ.seq ?_
      refine CJ.region ?_
      refine OJ.pures tU_ok 3 rfl ?_
      refine OJ.nil (EJ.next ?_)
      refine CJ.ret (EJ.skR (?_))
      obtain rfl := Option.some.inj H
      exact EJ.fin rfl (.tmp rfl (.tmp rfl .nil)) ⟨rfl, hS.ext⟩
    · replace H := pif_f (of_decide_eq_false hb) H
      refine CJ.skip (EJ.next ?_)
      refine CJ.seq ?_
      refine CJ.region ?_
      refine OJ.pures tU_ok 4 rfl ?_
      refine OJ.nil (EJ.next ?_)
      refine CJ.seq ?_
      refine CJ.seq ?_
      refine CJ.region ?_
      refine OJ.pures tU_ok 3 rfl ?_
      refine OJ.nil (EJ.next ?_)
      obtain ⟨j24, H, K24⟩ := pbind H
      refine CJ.cut1 (fun F w1 => ∃ (y2 : Int) , (some y2 : Option Int) = some j24 ∧ F = [(0, .string a0), (4, .int .i64 (a0.size : Int)), (5, .int .i64 y2)] ∧ St w no w1 [] []) ?_ ?_
      · skip
        refine CJ.block ?_
        refine CJ.loop (fun k F w1 => ∃ (y3 : Int), F = [(0, .string a0), (4, .int .i64 (a0.size : Int)), (5, .int .i64 y3), (6, .int .i64 (if (IntKind.i64.wrap ((a0.size : Int) - 4)) < 0 then 0 else (IntKind.i64.wrap ((a0.size : Int) - 4))))] ∧ St w no w1 [] [] ∧ unicode_utf8_DecodeLastRuneInString.l1 a0 k y3 = some j24) k (F' := [(0, .string a0), (4, .int .i64 (a0.size : Int)), (5, .int .i64 (IntKind.i64.wrap ((IntKind.i64.wrap ((a0.size : Int) - 1)) - 1))), (6, .int .i64 (if (IntKind.i64.wrap ((a0.size : Int) - 4)) < 0 then 0 else (IntKind.i64.wrap ((a0.size : Int) - 4))))]) ⟨rfl, rfl, rfl, rfl, trivial⟩ ⟨(IntKind.i64.wrap ((IntKind.i64.wrap ((a0.size : Int) - 1)) - 1)), rfl, hS.pick [] [] rfl, H⟩ ?_
        rintro k F w1 ⟨y3, rfl, hS, H⟩
        cases k with
        | zero => rw [unicode_utf8_DecodeLastRuneInString.l1] at H; cases H
        | succ k =>
          rw [unicode_utf8_DecodeLastRuneInString.l1] at H
          refine CJ.seq ?_
          refine CJ.seq ?_
          refine CJ.region ?_
          refine OJ.pures tU_ok 3 rfl ?_
          refine OJ.nil (EJ.next ?_)
          refine CJ.cond rfl (fun hb => ?_) (fun hb => ?_)
          · replace H := pif_t (of_decide_eq_true hb) H
            refine CJ.skip (EJ.next ?_)
            refine CJ.seq ?_
            refine CJ.block ?_
            refine CJ.seq ?_
            refine CJ.region ?_
            refine OJ.pures tU_ok 2 rfl ?_
            obtain ⟨t4, ht4, H⟩ := pbind H
            refine OJ.st rfl rfl rfl (SR.idxStr tU_ok rfl rfl rfl rfl ht4) ?_
            obtain ⟨t5, ht5, H⟩ := pbind H
            refine OJ.callF rfl rfl rfl rfl rfl hb116 rfl (unicode_utf8_RuneStart.c _ t4 _ ht5) ?_
            rintro _ w1 ⟨rfl, hs⟩
            replace hS := hS.grow hs
            refine OJ.nil (EJ.next ?_)
            refine CJ.cond rfl (fun hb => ?_) (fun hb => ?_)
            · replace H := pif_t hb H
              refine CJ.exit (EJ.bkE rfl (EJ.skE (EJ.skE (EJ.hit (?_)))))
              exact EJ.meet (F' := [(0, .string a0), (4, .int .i64 (a0.size : Int)), (5, .int .i64 y3)]) ⟨rfl, rfl, rfl, trivial⟩ ⟨y3, H, rfl, hS.pick [] [] rfl⟩
            · replace H := pifb_f hb H
              refine CJ.skip (EJ.blk (EJ.next ?_))
              refine CJ.region ?_
              refine OJ.pures tU_ok 3 rfl ?_
              refine OJ.nil ?_
              exact EJ.round k (F' := [(0, .string a0), (4, .int .i64 (a0.size : Int)), (5, .int .i64 (IntKind.i64.wrap (y3 - 1))), (6, .int .i64 (if (IntKind.i64.wrap ((a0.size : Int) - 4)) < 0 then 0 else (IntKind.i64.wrap ((a0.size : Int) - 4))))]) ⟨rfl, rfl, rfl, rfl, trivial⟩ (Nat.lt_succ_self _) ⟨(IntKind.i64.wrap (y3 - 1)), rfl, hS.pick [] [] rfl, H⟩
          · replace H := pif_f (of_decide_eq_false hb) H
            refine CJ.exit (EJ.skE (EJ.skE (EJ.hit (?_))))
            exact EJ.meet (F' := [(0, .string a0), (4, .int .i64 (a0.size : Int)), (5, .int .i64 y3)]) ⟨rfl, rfl, rfl, trivial⟩ ⟨y3, H, rfl, hS.pick [] [] rfl⟩
      · rintro F w1 ⟨y2, he, rfl, hS⟩
        obtain rfl := Option.some.inj he
        have H := K24
        refine EJ.next ?_
        refine CJ.seq ?_
        refine CJ.seq ?_
        refine CJ.region ?_
        refine OJ.pures tU_ok 2 rfl ?_
        refine OJ.nil (EJ.next ?_)
        refine CJ.cond rfl (fun hb => ?_) (fun hb => ?_)
        · replace H := pif_t (of_decide_eq_true hb) H
          refine CJ.region ?_
          refine OJ.pures tU_ok 1 rfl ?_
          refine OJ.nil (EJ.next ?_)
          refine CJ.seq ?_
          refine CJ.region ?_
          refine OJ.pures tU_ok 3 rfl ?_
          obtain ⟨u6, hu6, H⟩ := pbind H
          refine OJ.st rfl rfl rfl (SR.cutStr tU_ok ((0 : Int).toNat) ((a0.size : Int).toNat) rfl rfl rfl rfl rfl (.inr ⟨_, _, rfl, (chk_some hu6).1, rfl⟩) (.inr ⟨_, _, rfl, (by have := (chk_some hu6); omega), rfl⟩) (by have := (chk_some hu6); omega) (by have := (chk_some hu6); omega)) ?_
          obtain ⟨t7, ht7, H⟩ := pbind H
          refine OJ.callF rfl rfl rfl rfl rfl hb106 rfl (unicode_utf8_DecodeRuneInString.c _ (a0.extract ((0 : Int).toNat) ((a0.size : Int).toNat)) _ ht7) ?_
          rintro _ w1 ⟨rfl, hs⟩
          replace hS := hS.grow hs
          refine OJ.pures tU_ok 5 rfl ?_
          refine OJ.nil (EJ.next ?_)
          refine CJ.seq ?_
          refine CJ.seq ?_
          refine CJ.region ?_
          refine OJ.pures tU_ok 5 rfl ?_
          refine OJ.nil (EJ.next ?_)
          refine CJ.cond rfl (fun hb => ?_) (fun hb => ?_)
          · replace H := pif_t (of_decide_eq_true hb) H
            refine CJ.seq ?_
            refine CJ.region ?_
            refine OJ.pures tU_ok 2 rfl ?_
            refine OJ.nil (EJ.next ?_)
            refine CJ.ret (EJ.skR (?_))
            obtain rfl := Option.some.inj H
            exact EJ.fin rfl (.tmp rfl (.tmp rfl .nil)) ⟨rfl, hS.ext⟩
          · replace H := pif_f (of_decide_eq_false hb) H
            refine CJ.skip (EJ.next ?_)
            refine CJ.seq ?_
            refine CJ.region ?_
            refine OJ.pures tU_ok 4 rfl ?_
            refine OJ.nil (EJ.next ?_)
            refine CJ.ret (?_)
            obtain rfl := Option.some.inj H
            exact EJ.fin rfl (.tmp rfl (.tmp rfl .nil)) ⟨rfl, hS.ext⟩
        · replace H := pif_f (of_decide_eq_false hb) H
          refine CJ.skip (EJ.next ?_)
          refine CJ.seq ?_
          refine CJ.region ?_
          refine OJ.pures tU_ok 3 rfl ?_
          obtain ⟨u8, hu8, H⟩ := pbind H
          refine OJ.st rfl rfl rfl (SR.cutStr tU_ok (y2.toNat) ((a0.size : Int).toNat) rfl rfl rfl rfl rfl (.inr ⟨_, _, rfl, (chk_some hu8).1, rfl⟩) (.inr ⟨_, _, rfl, (by have := (chk_some hu8); omega), rfl⟩) (by have := (chk_some hu8); omega) (by have := (chk_some hu8); omega)) ?_
          obtain ⟨t9, ht9, H⟩ := pbind H
          refine OJ.callF rfl rfl rfl rfl rfl hb106 rfl (unicode_utf8_DecodeRuneInString.c _ (a0.extract y2.toNat ((a0.size : Int).toNat)) _ ht9) ?_
          rintro _ w1 ⟨rfl, hs⟩
          replace hS := hS.grow hs
          refine OJ.pures tU_ok 5 rfl ?_
          refine OJ.nil (EJ.next ?_)
          refine CJ.seq ?_
          refine CJ.seq ?_
          refine CJ.region ?_
          refine OJ.pures tU_ok 5 rfl ?_
          refine OJ.nil (EJ.next ?_)
          refine CJ.cond rfl (fun hb => ?_) (fun hb => ?_)
          · replace H := pif_t (of_decide_eq_true hb) H
            refine CJ.seq ?_
            refine CJ.region ?_
            refine OJ.pures tU_ok 2 rfl ?_
            refine OJ.nil (EJ.next ?_)
            refine CJ.ret (EJ.skR (?_))
            obtain rfl := Option.some.inj H
            exact EJ.fin rfl (.tmp rfl (.tmp rfl .nil)) ⟨rfl, hS.ext⟩
          · replace H := pif_f (of_decide_eq_false hb) H
            refine CJ.skip (EJ.next ?_)
            refine CJ.seq ?_
            refine CJ.region ?_
            refine OJ.pures tU_ok 4 rfl ?_
            refine OJ.nil (EJ.next ?_)
            refine CJ.ret (?_)
            obtain rfl := Option.some.inj H
            exact EJ.fin rfl (.tmp rfl (.tmp rfl .nil)) ⟨rfl, hS.ext⟩

def unicode_utf8_ValidRune.f (a0 : Int) : Option Bool := (if 0 ≤ a0 then (some (decide (a0 < 55296))) else (some false)).bind fun y1 => if y1 = true then (some true) else (if 57343 < a0 then (if a0 ≤ 1114111 then (some true) else (some false)) else (some false))
theorem unicode_utf8_ValidRune.c (w : World) (a0 : Int) (r : Bool) (H : unicode_utf8_ValidRune.f a0 = some r) :
    CV Tryz.prog 119 [.int .i32 a0].toArray w fun v w' => v = .bool r ∧ Ext w w' := by
  have hS := (St.init w no)
  unfold unicode_utf8_ValidRune.f at H
  refine CV.body Tryz.func119 rfl Tryz.ntmps119 rfl ?_
  refine CJ.seq ?_
  refine CJ.region ?_
  refine OJ.pures tU_ok 1 rfl ?_
  refine OJ.nil (EJ.next ?_)
  refine CJ.seq ?_
  refine CJ.block ?_
  obtain ⟨j27, H, K27⟩ := pbind H
  refine CJ.cut (fun F w1 => ∃ (y1 : Bool) , (some y1 : Option Bool) = some j27 ∧ F = [(0, .int .i32 a0), (3, .bool y1)] ∧ St w no w1 [] []) ?_ ?_
  · skip
    refine CJ.region ?_
    refine OJ.pures tU_ok 3 rfl ?_
    refine OJ.split (t := 6) rfl (fun hb => ?_) (fun hb => ?_)
    · replace H := pif_t (of_decide_eq_true hb) H
      refine OJ.pures tU_ok 4 rfl ?_
      refine OJ.nil ?_
      exact EJ.meet (F' := [(0, .int .i32 a0), (3, .bool (decide (a0 < 55296)))]) ⟨rfl, rfl, trivial⟩ ⟨(decide (a0 < 55296)), H, rfl, hS.pick [] [] rfl⟩
    · replace H := pif_f (of_decide_eq_false hb) H
      refine OJ.pures tU_ok 4 rfl ?_
      refine OJ.nil ?_
      exact EJ.meet (F' := [(0, .int .i32 a0), (3, .bool false)]) ⟨rfl, rfl, trivial⟩ ⟨false, H, rfl, hS.pick [] [] rfl⟩
  · rintro F w1 ⟨y1, he, rfl, hS⟩
    obtain rfl := Option.some.inj he
    have H := K27
    refine CJ.cond rfl (fun hb => ?_) (fun hb => ?_)
    · replace H := pif_t hb H
      refine CJ.seq ?_
      refine CJ.region ?_
      refine OJ.pures tU_ok 1 rfl ?_
      refine OJ.nil (EJ.next ?_)
      refine CJ.ret (EJ.bkR (EJ.skR (?_)))
      obtain rfl := Option.some.inj H
      exact EJ.fin rfl (.tmp rfl .nil) ⟨rfl, hS.ext⟩
    · replace H := pifb_f hb H
      refine CJ.seq ?_
      refine CJ.region ?_
      refine OJ.pures tU_ok 3 rfl ?_
      refine OJ.split (t := 13) rfl (fun hb => ?_) (fun hb => ?_)
      · replace H := pif_t (of_decide_eq_true hb) H
        refine OJ.pures tU_ok 4 rfl ?_
        refine OJ.nil (EJ.next ?_)
        refine CJ.cond rfl (fun hb => ?_) (fun hb => ?_)
        · replace H := pif_t (of_decide_eq_true hb) H
          refine CJ.seq ?_
          refine CJ.region ?_
          refine OJ.pures tU_ok 1 rfl ?_
          refine OJ.nil (EJ.next ?_)
          refine CJ.ret (EJ.bkR (EJ.skR (?_)))
          obtain rfl := Option.some.inj H
          exact EJ.fin rfl (.tmp rfl .nil) ⟨rfl, hS.ext⟩
        · replace H := pif_f (of_decide_eq_false hb) H
          refine CJ.skip (EJ.blk (EJ.next ?_))
          refine CJ.seq ?_
          refine CJ.region ?_
          refine OJ.pures tU_ok 1 rfl ?_
          refine OJ.nil (EJ.next ?_)
          refine CJ.ret (?_)
          obtain rfl := Option.some.inj H
          exact EJ.fin rfl (.tmp rfl .nil) ⟨rfl, hS.ext⟩
      · replace H := pif_f (of_decide_eq_false hb) H
        refine OJ.pures tU_ok 4 rfl ?_
        refine OJ.nil (EJ.next ?_)
        refine CJ.condF rfl ?_
        refine CJ.skip (EJ.blk (EJ.next ?_))
        refine CJ.seq ?_
        refine CJ.region ?_
        refine OJ.pures tU_ok 1 rfl ?_
        refine OJ.nil (EJ.next ?_)
        refine CJ.ret (?_)
        obtain rfl := Option.some.inj H
        exact EJ.fin rfl (.tmp rfl .nil) ⟨rfl, hS.ext⟩

def strings_IndexRune.f (a0 : ByteArray) (a1 : Int) : Option Int := (if 0 ≤ a1 then (some (decide (a1 < 128))) else (some false)).bind fun y1 => if y1 = true then none else (if a1 = 65533 then none else ((unicode_utf8_ValidRune.f a1).bind fun t2 => if (!t2) = true then (some (-1)) else none))
theorem strings_IndexRune.c (w : World) (a0 : ByteArray) (a1 : Int) (r : Int) (H : strings_IndexRune.f a0 a1 = some r) :
    CV Tryz.prog 115 [.string a0, .int .i32 a1].toArray w fun v w' => v = .int .i64 r ∧ Ext w w' := by
  have hS := (St.init w no)
  unfold strings_IndexRune.f at H
  refine CV.body Tryz.func115 rfl Tryz.ntmps115 rfl ?_
  refine CJ.seq ?_
  refine CJ.region ?_
  refine OJ.pures tU_ok 1 rfl ?_
  refine OJ.nil (EJ.next ?_)
  refine CJ.block ?_
  obtain ⟨j26, H, K26⟩ := pbind H
  refine CJ.cut (fun F w1 => ∃ (y1 : Bool) , (some y1 : Option Bool) = some j26 ∧ F = [(0, .string a0), (1, .int .i32 a1), (160, .bool y1)] ∧ St w no w1 [] []) ?_ ?_
  · skip
    refine CJ.region ?_
    refine OJ.pures tU_ok 3 rfl ?_
    refine OJ.split (t := 163) rfl (fun hb => ?_) (fun hb => ?_)
    · replace H := pif_t (of_decide_eq_true hb) H
      refine OJ.pures tU_ok 4 rfl ?_
      refine OJ.nil ?_
      exact EJ.meet (F' := [(0, .string a0), (1, .int .i32 a1), (160, .bool (decide (a1 < 128)))]) ⟨rfl, rfl, rfl, trivial⟩ ⟨(decide (a1 < 128)), H, rfl, hS.pick [] [] rfl⟩
    · replace H := pif_f (of_decide_eq_false hb) H
      refine OJ.pures tU_ok 4 rfl ?_
      refine OJ.nil ?_
      exact EJ.meet (F' := [(0, .string a0), (1, .int .i32 a1), (160, .bool false)]) ⟨rfl, rfl, rfl, trivial⟩ ⟨false, H, rfl, hS.pick [] [] rfl⟩
  · rintro F w1 ⟨y1, he, rfl, hS⟩
    obtain rfl := Option.some.inj he
    have H := K26
    refine CJ.cond rfl (fun hb => ?_) (fun hb => ?_)
    · replace H := pif_t hb H
      cases H
    · replace H := pifb_f hb H
      refine CJ.seq ?_
      refine CJ.region ?_
      refine OJ.pures tU_ok 3 rfl ?_
      refine OJ.nil (EJ.next ?_)
      refine CJ.cond rfl (fun hb => ?_) (fun hb => ?_)
      · replace H := pif_t (of_decide_eq_true hb) H
        cases H
      · replace H := pif_f (of_decide_eq_false hb) H
        refine CJ.seq ?_
        refine CJ.region ?_
        refine OJ.pures tU_ok 1 rfl ?_
        obtain ⟨t2, ht2, H⟩ := pbind H
        refine OJ.callF rfl rfl rfl rfl rfl hb119 rfl (unicode_utf8_ValidRune.c _ a1 _ ht2) ?_
        rintro _ w1 ⟨rfl, hs⟩
        replace hS := hS.grow hs
        refine OJ.pures tU_ok 2 rfl ?_
        refine OJ.nil (EJ.next ?_)
        refine CJ.cond rfl (fun hb => ?_) (fun hb => ?_)
        · replace H := pif_t hb H
          refine CJ.seq ?_
          refine CJ.region ?_
          refine OJ.pures tU_ok 1 rfl ?_
          refine OJ.nil (EJ.next ?_)
          refine CJ.ret (EJ.bkR (?_))
          obtain rfl := Option.some.inj H
          exact EJ.fin rfl (.tmp rfl .nil) ⟨rfl, hS.ext⟩
        · replace H := pifb_f hb H
          cases H

def strings_ContainsRune.f (a0 : ByteArray) (a1 : Int) : Option Bool := (strings_IndexRune.f a0 a1).bind fun t1 => some (decide (0 ≤ t1))
theorem strings_ContainsRune.c (w : World) (a0 : ByteArray) (a1 : Int) (r : Bool) (H : strings_ContainsRune.f a0 a1 = some r) :
    CV Tryz.prog 107 [.string a0, .int .i32 a1].toArray w fun v w' => v = .bool r ∧ Ext w w' := by
  have hS := (St.init w no)
  unfold strings_ContainsRune.f at H
  refine CV.body Tryz.func107 rfl Tryz.ntmps107 rfl ?_
  refine CJ.seq ?_
  refine CJ.region ?_
  refine OJ.pures tU_ok 1 rfl ?_
  refine OJ.nil (EJ.next ?_)
  refine CJ.seq ?_
  refine CJ.region ?_
  refine OJ.pures tU_ok 2 rfl ?_
  obtain ⟨t1, ht1, H⟩ := pbind H
  refine OJ.callF rfl rfl rfl rfl rfl hb115 rfl (strings_IndexRune.c _ a0 a1 _ ht1) ?_
  rintro _ w1 ⟨rfl, hs⟩
  replace hS := hS.grow hs
  refine OJ.pures tU_ok 2 rfl ?_
  refine OJ.nil (EJ.next ?_)
  refine CJ.ret (?_)
  obtain rfl := Option.some.inj H
  exact EJ.fin rfl (.tmp rfl .nil) ⟨rfl, hS.ext⟩

def strings_trimRightUnicode.l1 (a1 : ByteArray) : Nat → ByteArray → Option ByteArray
  | 0, _ => none
  | k + 1, y2 => if 0 < (y2.size : Int) then ((getB y2 (IntKind.i64.wrap ((y2.size : Int) - 1))).bind fun t3 => if 128 ≤ (IntKind.i32.wrap t3) then ((unicode_utf8_DecodeLastRuneInString.f k y2).bind fun t4 => (strings_ContainsRune.f a1 t4.1).bind fun t5 => if (!t5) = true then (some y2) else ((chk ((0 : Int) ≤ 0 ∧ 0 ≤ (IntKind.i64.wrap ((y2.size : Int) - t4.2)) ∧ (IntKind.i64.wrap ((y2.size : Int) - t4.2)) ≤ (y2.size : Int))).bind fun u6 => strings_trimRightUnicode.l1 a1 k (y2.extract 0 ((IntKind.i64.wrap ((y2.size : Int) - t4.2)).toNat)))) else ((strings_ContainsRune.f a1 (IntKind.i32.wrap t3)).bind fun t7 => if (!t7) = true then (some y2) else ((chk ((0 : Int) ≤ 0 ∧ 0 ≤ (IntKind.i64.wrap ((y2.size : Int) - 1)) ∧ (IntKind.i64.wrap ((y2.size : Int) - 1)) ≤ (y2.size : Int))).bind fun u8 => strings_trimRightUnicode.l1 a1 k (y2.extract 0 ((IntKind.i64.wrap ((y2.size : Int) - 1)).toNat))))) else (some y2)
def strings_trimRightUnicode.f (k : Nat) (a0 : ByteArray) (a1 : ByteArray) : Option ByteArray := (strings_trimRightUnicode.l1 a1 k a0).bind fun y1 => some y1
theorem strings_trimRightUnicode.c (k : Nat) (w : World) (a0 : ByteArray) (a1 : ByteArray) (r : ByteArray) (H : strings_trimRightUnicode.f k a0 a1 = some r) :
    CV Tryz.prog 92 [.string a0, .string a1].toArray w fun v w' => v = .string r ∧ Ext w w' := by
  have hS := (St.init w no)
  unfold strings_trimRightUnicode.f at H
  refine CV.body Tryz.func92 rfl Tryz.ntmps92 rfl ?_
  refine CJ.seq ?_
  refine CJ.region ?_
  refine OJ.pures tU_ok 1 rfl ?_
  refine OJ.nil (EJ.next ?_)
  obtain ⟨j23, H, K23⟩ := pbind H
  refine CJ.cut (fun F w1 => ∃ (y1 : ByteArray) , (some y1 : Option ByteArray) = some j23 ∧ F = [(0, .string y1)] ∧ St w no w1 [] []) ?_ ?_
  · skip
    refine CJ.block ?_
    refine CJ.loop (fun k F w1 => ∃ (y2 : ByteArray), F = [(0, .string y2), (1, .string a1)] ∧ St w no w1 [] [] ∧ strings_trimRightUnicode.l1 a1 k y2 = some j23) k (F' := [(0, .string a0), (1, .string a1)]) ⟨rfl, rfl, trivial⟩ ⟨a0, rfl, hS.pick [] [] rfl, H⟩ ?_
    rintro k F w1 ⟨y2, rfl, hS, H⟩
    cases k with
    | zero => rw [strings_trimRightUnicode.l1] at H; cases H
    | succ k =>
      rw [strings_trimRightUnicode.l1] at H
      refine CJ.seq ?_
      refine CJ.seq ?_
      refine CJ.region ?_
      refine OJ.pures tU_ok 3 rfl ?_
      refine OJ.nil (EJ.next ?_)
      refine CJ.cond rfl (fun hb => ?_) (fun hb => ?_)
      · replace H := pif_t (of_decide_eq_true hb) H
        refine CJ.skip (EJ.next ?_)
        refine CJ.block ?_
        refine CJ.seq ?_
        refine CJ.region ?_
        refine OJ.pures tU_ok 4 rfl ?_
        obtain ⟨t3, ht3, H⟩ := pbind H
        refine OJ.st rfl rfl rfl (SR.idxStr tU_ok rfl rfl rfl rfl ht3) ?_
        refine OJ.pures tU_ok 3 rfl ?_
        refine OJ.nil (EJ.next ?_)
        refine CJ.seq ?_
        refine CJ.seq ?_
        refine CJ.region ?_
        refine OJ.pures tU_ok 2 rfl ?_
        refine OJ.nil (EJ.next ?_)
        refine CJ.cond rfl (fun hb => ?_) (fun hb => ?_)
        · replace H := pif_t (of_decide_eq_true hb) H
          refine CJ.region ?_
          refine OJ.pures tU_ok 1 rfl ?_
          obtain ⟨t4, ht4, H⟩ := pbind H
          refine OJ.callF rfl rfl rfl rfl rfl hb108 rfl (unicode_utf8_DecodeLastRuneInString.c k _ y2 _ ht4) ?_
          rintro _ w1 ⟨rfl, hs⟩
          replace hS := hS.grow hs
          refine OJ.pures tU_ok 5 rfl ?_
          refine OJ.nil (EJ.next ?_)
          refine CJ.seq ?_
          refine CJ.seq ?_
          refine CJ.region ?_
          refine OJ.pures tU_ok 2 rfl ?_
          obtain ⟨t5, ht5, H⟩ := pbind H
          refine OJ.callF rfl rfl rfl rfl rfl hb107 rfl (strings_ContainsRune.c _ a1 t4.1 _ ht5) ?_
          rintro _ w1 ⟨rfl, hs⟩
          replace hS := hS.grow hs
          refine OJ.pures tU_ok 1 rfl ?_
          refine OJ.nil (EJ.next ?_)
          refine CJ.cond rfl (fun hb => ?_) (fun hb => ?_)
          · replace H := pif_t hb H
            refine CJ.exit (EJ.skE (EJ.bkE rfl (EJ.skE (EJ.hit (?_)))))
            exact EJ.meet (F' := [(0, .string y2)]) ⟨rfl, trivial⟩ ⟨y2, H, rfl, hS.pick [] [] rfl⟩
          · replace H := pifb_f hb H
            refine CJ.skip (EJ.next ?_)
            refine CJ.region ?_
            refine OJ.pures tU_ok 5 rfl ?_
            obtain ⟨u6, hu6, H⟩ := pbind H
            refine OJ.st rfl rfl rfl (SR.cutStr tU_ok (0) ((IntKind.i64.wrap ((y2.size : Int) - t4.2)).toNat) rfl rfl rfl rfl rfl (.inl ⟨rfl, rfl⟩) (.inr ⟨_, _, rfl, (by have := (chk_some hu6); omega), rfl⟩) (by have := (chk_some hu6); omega) (by have := (chk_some hu6); omega)) ?_
            refine OJ.pures tU_ok 1 rfl ?_
            refine OJ.nil (EJ.blk (?_))
            exact EJ.round k (F' := [(0, .string (y2.extract 0 ((IntKind.i64.wrap ((y2.size : Int) - t4.2)).toNat))), (1, .string a1)]) ⟨rfl, rfl, trivial⟩ (Nat.lt_succ_self _) ⟨(y2.extract 0 ((IntKind.i64.wrap ((y2.size : Int) - t4.2)).toNat)), rfl, hS.pick [] [] rfl, H⟩
        · replace H := pif_f (of_decide_eq_false hb) H
          refine CJ.skip (EJ.next ?_)
          refine CJ.seq ?_
          refine CJ.seq ?_
          refine CJ.region ?_
          refine OJ.pures tU_ok 2 rfl ?_
          obtain ⟨t7, ht7, H⟩ := pbind H
          refine OJ.callF rfl rfl rfl rfl rfl hb107 rfl (strings_ContainsRune.c _ a1 (IntKind.i32.wrap t3) _ ht7) ?_
          rintro _ w1 ⟨rfl, hs⟩
          replace hS := hS.grow hs
          refine OJ.pures tU_ok 1 rfl ?_
          refine OJ.nil (EJ.next ?_)
          refine CJ.cond rfl (fun hb => ?_) (fun hb => ?_)
          · replace H := pif_t hb H
            refine CJ.exit (EJ.skE (EJ.bkE rfl (EJ.skE (EJ.hit (?_)))))
            exact EJ.meet (F' := [(0, .string y2)]) ⟨rfl, trivial⟩ ⟨y2, H, rfl, hS.pick [] [] rfl⟩
          · replace H := pifb_f hb H
            refine CJ.skip (EJ.next ?_)
            refine CJ.region ?_
            refine OJ.pures tU_ok 5 rfl ?_
            obtain ⟨u8, hu8, H⟩ := pbind H
            refine OJ.st rfl rfl rfl (SR.cutStr tU_ok (0) ((IntKind.i64.wrap ((y2.size : Int) - 1)).toNat) rfl rfl rfl rfl rfl (.inl ⟨rfl, rfl⟩) (.inr ⟨_, _, rfl, (by have := (chk_some hu8); omega), rfl⟩) (by have := (chk_some hu8); omega) (by have := (chk_some hu8); omega)) ?_
            refine OJ.pures tU_ok 1 rfl ?_
            refine OJ.nil (EJ.blk (?_))
            exact EJ.round k (F' := [(0, .string (y2.extract 0 ((IntKind.i64.wrap ((y2.size : Int) - 1)).toNat))), (1, .string a1)]) ⟨rfl, rfl, trivial⟩ (Nat.lt_succ_self _) ⟨(y2.extract 0 ((IntKind.i64.wrap ((y2.size : Int) - 1)).toNat)), rfl, hS.pick [] [] rfl, H⟩
      · replace H := pif_f (of_decide_eq_false hb) H
        refine CJ.exit (EJ.skE (EJ.skE (EJ.hit (?_))))
        exact EJ.meet (F' := [(0, .string y2)]) ⟨rfl, trivial⟩ ⟨y2, H, rfl, hS.pick [] [] rfl⟩
  · rintro F w1 ⟨y1, he, rfl, hS⟩
    obtain rfl := Option.some.inj he
    have H := K23
    refine CJ.seq ?_
    refine CJ.region ?_
    refine OJ.pures tU_ok 2 rfl ?_
    refine OJ.nil (EJ.next ?_)
    refine CJ.ret (?_)
    obtain rfl := Option.some.inj H
    exact EJ.fin rfl (.tmp rfl .nil) ⟨rfl, hS.ext⟩

def strings_trimLeftUnicode.l1 (a1 : ByteArray) : Nat → ByteArray → Option ByteArray
  | 0, _ => none
  | k + 1, y2 => if 0 < (y2.size : Int) then ((unicode_utf8_DecodeRuneInString.f y2).bind fun t3 => (strings_ContainsRune.f a1 t3.1).bind fun t4 => if (!t4) = true then (some y2) else ((chk ((0 : Int) ≤ t3.2 ∧ t3.2 ≤ (y2.size : Int) ∧ (y2.size : Int) ≤ (y2.size : Int))).bind fun u5 => strings_trimLeftUnicode.l1 a1 k (y2.extract t3.2.toNat y2.size))) else (some y2)
def strings_trimLeftUnicode.f (k : Nat) (a0 : ByteArray) (a1 : ByteArray) : Option ByteArray := (strings_trimLeftUnicode.l1 a1 k a0).bind fun y1 => some y1
theorem strings_trimLeftUnicode.c (k : Nat) (w : World) (a0 : ByteArray) (a1 : ByteArray) (r : ByteArray) (H : strings_trimLeftUnicode.f k a0 a1 = some r) :
    CV Tryz.prog 91 [.string a0, .string a1].toArray w fun v w' => v = .string r ∧ Ext w w' := by
  have hS := (St.init w no)
  unfold strings_trimLeftUnicode.f at H
  refine CV.body Tryz.func91 rfl Tryz.ntmps91 rfl ?_
  refine CJ.seq ?_
  refine CJ.region ?_
  refine OJ.pures tU_ok 1 rfl ?_
  refine OJ.nil (EJ.next ?_)
  obtain ⟨j28, H, K28⟩ := pbind H
  refine CJ.cut (fun F w1 => ∃ (y1 : ByteArray) , (some y1 : Option ByteArray) = some j28 ∧ F = [(0, .string y1)] ∧ St w no w1 [] []) ?_ ?_
  · skip
    refine CJ.block ?_
    refine CJ.loop (fun k F w1 => ∃ (y2 : ByteArray), F = [(0, .string y2), (1, .string a1)] ∧ St w no w1 [] [] ∧ strings_trimLeftUnicode.l1 a1 k y2 = some j28) k (F' := [(0, .string a0), (1, .string a1)]) ⟨rfl, rfl, trivial⟩ ⟨a0, rfl, hS.pick [] [] rfl, H⟩ ?_
    rintro k F w1 ⟨y2, rfl, hS, H⟩
    cases k with
    | zero => rw [strings_trimLeftUnicode.l1] at H; cases H
    | succ k =>
      rw [strings_trimLeftUnicode.l1] at H
      refine CJ.seq ?_
      refine CJ.seq ?_
      refine CJ.region ?_
      refine OJ.pures tU_ok 3 rfl ?_
      refine OJ.nil (EJ.next ?_)
      refine CJ.cond rfl (fun hb => ?_) (fun hb => ?_)
      · replace H := pif_t (of_decide_eq_true hb) H
        refine CJ.skip (EJ.next ?_)
        refine CJ.block ?_
        refine CJ.seq ?_
        refine CJ.region ?_
        refine OJ.pures tU_ok 1 rfl ?_
        obtain ⟨t3, ht3, H⟩ := pbind H
        refine OJ.callF rfl rfl rfl rfl rfl hb106 rfl (unicode_utf8_DecodeRuneInString.c _ y2 _ ht3) ?_
        rintro _ w1 ⟨rfl, hs⟩
        replace hS := hS.grow hs
        refine OJ.pures tU_ok 5 rfl ?_
        refine OJ.nil (EJ.next ?_)
        refine CJ.seq ?_
        refine CJ.seq ?_
        refine CJ.region ?_
        refine OJ.pures tU_ok 2 rfl ?_
        obtain ⟨t4, ht4, H⟩ := pbind H
        refine OJ.callF rfl rfl rfl rfl rfl hb107 rfl (strings_ContainsRune.c _ a1 t3.1 _ ht4) ?_
        rintro _ w1 ⟨rfl, hs⟩
        replace hS := hS.grow hs
        refine OJ.pures tU_ok 1 rfl ?_
        refine OJ.nil (EJ.next ?_)
        refine CJ.cond rfl (fun hb => ?_) (fun hb => ?_)
        · replace H := pif_t hb H
          refine CJ.exit (EJ.skE (EJ.bkE rfl (EJ.skE (EJ.hit (?_)))))
          exact EJ.meet (F' := [(0, .string y2)]) ⟨rfl, trivial⟩ ⟨y2, H, rfl, hS.pick [] [] rfl⟩
        · replace H := pifb_f hb H
          refine CJ.skip (EJ.next ?_)
          refine CJ.region ?_
          refine OJ.pures tU_ok 2 rfl ?_
          obtain ⟨u5, hu5, H⟩ := pbind H
          refine OJ.st rfl rfl rfl (SR.cutStr tU_ok (t3.2.toNat) (y2.size) rfl rfl rfl rfl rfl (.inr ⟨_, _, rfl, (chk_some hu5).1, rfl⟩) (.inl ⟨rfl, rfl⟩) (by have := (chk_some hu5); omega) (by have := (chk_some hu5); omega)) ?_
          refine OJ.pures tU_ok 1 rfl ?_
          refine OJ.nil (EJ.blk (?_))
          exact EJ.round k (F' := [(0, .string (y2.extract t3.2.toNat y2.size)), (1, .string a1)]) ⟨rfl, rfl, trivial⟩ (Nat.lt_succ_self _) ⟨(y2.extract t3.2.toNat y2.size), rfl, hS.pick [] [] rfl, H⟩
      · replace H := pif_f (of_decide_eq_false hb) H
        refine CJ.exit (EJ.skE (EJ.skE (EJ.hit (?_))))
        exact EJ.meet (F' := [(0, .string y2)]) ⟨rfl, trivial⟩ ⟨y2, H, rfl, hS.pick [] [] rfl⟩
  · rintro F w1 ⟨y1, he, rfl, hS⟩
    obtain rfl := Option.some.inj he
    have H := K28
    refine CJ.seq ?_
    refine CJ.region ?_
    refine OJ.pures tU_ok 2 rfl ?_
    refine OJ.nil (EJ.next ?_)
    refine CJ.ret (?_)
    obtain rfl := Option.some.inj H
    exact EJ.fin rfl (.tmp rfl .nil) ⟨rfl, hS.ext⟩

def strings_Trim.f (k : Nat) (a0 : ByteArray) (a1 : ByteArray) : Option ByteArray := (if a0 = ByteArray.empty then (some true) else (some (decide (a1 = ByteArray.empty)))).bind fun y1 => if y1 = true then (some a0) else ((if (a1.size : Int) = 1 then ((getB a1 0).bind fun t3 => some (decide (t3 < 128))) else (some false)).bind fun y2 => if y2 = true then ((getB a1 0).bind fun t4 => (getB a1 0).bind fun t5 => (strings_trimRightByte.f k a0 t4).bind fun t6 => (strings_trimLeftByte.f k t6 t5).bind fun t7 => some t7) else ((strings_makeASCIISet.f k a1).bind fun t8 => if t8.2 = true then ((strings_trimRightASCII.f k a0 t8.1).bind fun t10 => (strings_trimLeftASCII.f k t10 t8.1).bind fun t11 => some t11) else ((strings_trimRightUnicode.f k a0 a1).bind fun t12 => (strings_trimLeftUnicode.f k t12 a1).bind fun t13 => some t13)))
theorem strings_Trim.c (k : Nat) (w : World) (a0 : ByteArray) (a1 : ByteArray) (r : ByteArray) (H : strings_Trim.f k a0 a1 = some r) :
    CV Tryz.prog 79 [.string a0, .string a1].toArray w fun v w' => v = .string r ∧ Ext w w' := by
  have hS := (St.init w no)
  unfold strings_Trim.f at H
  refine CV.body Tryz.func79 rfl Tryz.ntmps79 rfl ?_
  refine CJ.seq ?_
  refine CJ.region ?_
  refine OJ.pures tU_ok 1 rfl ?_
  refine OJ.nil (EJ.next ?_)
  refine CJ.seq ?_
  obtain ⟨j16, H, K16⟩ := pbind H
  refine CJ.cut (fun F w1 => ∃ (y1 : Bool) , (some y1 : Option Bool) = some j16 ∧ F = [(0, .string a0), (1, .string a1), (12, .bool y1)] ∧ St w no w1 [] []) ?_ ?_
  · skip
    refine CJ.region ?_
    refine OJ.pures tU_ok 3 rfl ?_
    refine OJ.split (t := 9) rfl (fun hb => ?_) (fun hb => ?_)
    · replace H := pif_t (of_decide_eq_true hb) H
      refine OJ.pures tU_ok 3 rfl ?_
      refine OJ.nil ?_
      exact EJ.meet (F' := [(0, .string a0), (1, .string a1), (12, .bool true)]) ⟨rfl, rfl, rfl, trivial⟩ ⟨true, H, rfl, hS.pick [] [] rfl⟩
    · replace H := pif_f (of_decide_eq_false hb) H
      refine OJ.pures tU_ok 3 rfl ?_
      refine OJ.nil ?_
      exact EJ.meet (F' := [(0, .string a0), (1, .string a1), (12, .bool (decide (a1 = ByteArray.empty)))]) ⟨rfl, rfl, rfl, trivial⟩ ⟨(decide (a1 = ByteArray.empty)), H, rfl, hS.pick [] [] rfl⟩
  · rintro F w1 ⟨y1, he, rfl, hS⟩
    obtain rfl := Option.some.inj he
    have H := K16
    refine CJ.cond rfl (fun hb => ?_) (fun hb => ?_)
    · replace H := pif_t hb H
      refine CJ.seq ?_
      refine CJ.region ?_
      refine OJ.pures tU_ok 2 rfl ?_
      refine OJ.nil (EJ.next ?_)
      refine CJ.ret (EJ.skR (?_))
      obtain rfl := Option.some.inj H
      exact EJ.fin rfl (.tmp rfl .nil) ⟨rfl, hS.ext⟩
    · replace H := pifb_f hb H
      refine CJ.skip (EJ.next ?_)
      refine CJ.seq ?_
      obtain ⟨j17, H, K17⟩ := pbind H
      refine CJ.cut (fun F w1 => ∃ (y2 : Bool) , (some y2 : Option Bool) = some j17 ∧ F = [(0, .string a0), (1, .string a1), (21, .bool y2)] ∧ St w no w1 [] []) ?_ ?_
      · skip
        refine CJ.region ?_
        refine OJ.pures tU_ok 4 rfl ?_
        refine OJ.split (t := 17) rfl (fun hb => ?_) (fun hb => ?_)
        · replace H := pif_t (of_decide_eq_true hb) H
          refine OJ.pures tU_ok 1 rfl ?_
          obtain ⟨t3, ht3, H⟩ := pbind H
          refine OJ.st rfl rfl rfl (SR.idxStr tU_ok rfl rfl rfl rfl ht3) ?_
          refine OJ.pures tU_ok 2 rfl ?_
          refine OJ.nil ?_
          exact EJ.meet (F' := [(0, .string a0), (1, .string a1), (21, .bool (decide (t3 < 128)))]) ⟨rfl, rfl, rfl, trivial⟩ ⟨(decide (t3 < 128)), H, rfl, hS.pick [] [] rfl⟩
        · replace H := pif_f (of_decide_eq_false hb) H
          refine OJ.pures tU_ok 4 rfl ?_
          refine OJ.nil ?_
          exact EJ.meet (F' := [(0, .string a0), (1, .string a1), (21, .bool false)]) ⟨rfl, rfl, rfl, trivial⟩ ⟨false, H, rfl, hS.pick [] [] rfl⟩
      · rintro F w1 ⟨y2, he, rfl, hS⟩
        obtain rfl := Option.some.inj he
        have H := K17
        refine CJ.cond rfl (fun hb => ?_) (fun hb => ?_)
        · replace H := pif_t hb H
          refine CJ.seq ?_
          refine CJ.draw [] [0, 1, 2, 4, 5, 3, 6, 7] mixed (by kernel_rfl) hS fun w1 hS => ?_
          refine DJ.pures tU_ok 2 rfl ?_
          obtain ⟨t4, ht4, H⟩ := pbind H
          refine DJ.st rfl rfl rfl rfl rfl (SR.idxStr tU_ok rfl rfl rfl rfl ht4) ?_
          refine DJ.pures tU_ok 1 rfl ?_
          obtain ⟨t5, ht5, H⟩ := pbind H
          refine DJ.st rfl rfl rfl rfl rfl (SR.idxStr tU_ok rfl rfl rfl rfl ht5) ?_
          obtain ⟨t6, ht6, H⟩ := pbind H
          refine DJ.callF rfl rfl rfl rfl rfl rfl rfl hb87 rfl (strings_trimRightByte.c k _ a0 t4 _ ht6) (by rintro v w' ⟨rfl, hs⟩; exact hs) ?_
          rintro _ w1 ⟨rfl, hs⟩
          replace hS := hS.grow hs
          obtain ⟨t7, ht7, H⟩ := pbind H
          refine DJ.callF rfl rfl rfl rfl rfl rfl rfl hb86 rfl (strings_trimLeftByte.c k _ t6 t5 _ ht7) (by rintro v w' ⟨rfl, hs⟩; exact hs) ?_
          rintro _ w1 ⟨rfl, hs⟩
          replace hS := hS.grow hs
          refine DJ.pures tU_ok 1 rfl ?_
          refine DJ.nil (EJ.next ?_)
          refine CJ.ret (EJ.skR (?_))
          obtain rfl := Option.some.inj H
          exact EJ.fin rfl (.tmp rfl .nil) ⟨rfl, hS.ext⟩
        · replace H := pifb_f hb H
          refine CJ.skip (EJ.next ?_)
          refine CJ.seq ?_
          refine CJ.seq ?_
          refine CJ.region ?_
          refine OJ.pures tU_ok 1 rfl ?_
          obtain ⟨t8, ht8, H⟩ := pbind H
          refine OJ.callF rfl rfl rfl rfl rfl hb88 rfl (strings_makeASCIISet.c k _ a1 _ ht8) ?_
          rintro _ w1 ⟨rfl, hs⟩
          replace hS := hS.grow hs
          refine OJ.pures tU_ok 3 rfl ?_
          refine OJ.ef rfl rfl rfl (Ef.alloc hS tI_ok rfl rfl ((carr 256 cb).enc (Arr.mk' false : Arr 256 Bool)) (by kernel_rfl)) ?_
          rintro _ w1 ⟨b9, rfl, hS⟩
          refine OJ.es rfl rfl (Es.put tI_ok hS (i := 0) rfl rfl rfl rfl rfl (vs := (carr 256 cb).enc t8.1) rfl ((carr 256 cb).len _) ((carr 256 cb).one _) (Put.all (carr 256 cb) (Arr.mk' false : Arr 256 Bool) t8.1) (by (try simp only [add_lit, Nat.add_assoc, Nat.zero_add, Nat.add_zero]) <;> rfl)) ?_
          intro w1 hS
          refine OJ.pures tU_ok 1 rfl ?_
          refine OJ.nil (EJ.next ?_)
          refine CJ.seq ?_
          refine CJ.region ?_
          refine OJ.pures tU_ok 1 rfl ?_
          refine OJ.nil (EJ.next ?_)
          refine CJ.cond rfl (fun hb => ?_) (fun hb => ?_)
          · replace H := pif_t hb H
            refine CJ.seq ?_
            refine CJ.region ?_
            refine OJ.pures tU_ok 1 rfl ?_
            obtain ⟨t10, ht10, H⟩ := pbind H
            refine OJ.callF rfl rfl rfl rfl rfl hb90 rfl (strings_trimRightASCII.c k _ a0 _ t8.1 (hS.cells (i := 0) rfl) _ ht10) ?_
            rintro _ w1 ⟨rfl, hs⟩
            replace hS := hS.grow hs
            obtain ⟨t11, ht11, H⟩ := pbind H
            refine OJ.callF rfl rfl rfl rfl rfl hb89 rfl (strings_trimLeftASCII.c k _ t10 _ t8.1 (hS.cells (i := 0) rfl) _ ht11) ?_
            rintro _ w1 ⟨rfl, hs⟩
            replace hS := hS.grow hs
            refine OJ.pures tU_ok 1 rfl ?_
            refine OJ.nil (EJ.next ?_)
            refine CJ.ret (EJ.skR (?_))
            obtain rfl := Option.some.inj H
            exact EJ.fin rfl (.tmp rfl .nil) ⟨rfl, hS.ext⟩
          · replace H := pifb_f hb H
            refine CJ.skip (EJ.next ?_)
            refine CJ.seq ?_
            refine CJ.region ?_
            refine OJ.pures tU_ok 2 rfl ?_
            obtain ⟨t12, ht12, H⟩ := pbind H
            refine OJ.callF rfl rfl rfl rfl rfl hb92 rfl (strings_trimRightUnicode.c k _ a0 a1 _ ht12) ?_
            rintro _ w1 ⟨rfl, hs⟩
            replace hS := hS.grow hs
            refine OJ.pures tU_ok 1 rfl ?_
            obtain ⟨t13, ht13, H⟩ := pbind H
            refine OJ.callF rfl rfl rfl rfl rfl hb91 rfl (strings_trimLeftUnicode.c k _ t12 a1 _ ht13) ?_
            rintro _ w1 ⟨rfl, hs⟩
            replace hS := hS.grow hs
            refine OJ.pures tU_ok 1 rfl ?_
            refine OJ.nil (EJ.next ?_)
            refine CJ.ret (?_)
            obtain rfl := Option.some.inj H
            exact EJ.fin rfl (.tmp rfl .nil) ⟨rfl, hS.ext⟩

def impl_isName.f (k : Nat) (a0 : ByteArray) : Option Bool := (impl_within.f (a0.size : Int) 1 8).bind fun t1 => if t1 = true then ((strings_Trim.f k a0 (⟨#[97, 98, 99, 100, 101, 102, 103, 104, 105, 106, 107, 108, 109, 110, 111, 112, 113, 114, 115, 116, 117, 118, 119, 120, 121, 122]⟩ : ByteArray)).bind fun t2 => some (decide (t2 = ByteArray.empty))) else (some false)
theorem impl_isName.c (k : Nat) (w : World) (a0 : ByteArray) (r : Bool) (H : impl_isName.f k a0 = some r) :
    CV Tryz.prog 59 [.string a0].toArray w fun v w' => v = .bool r ∧ Ext w w' := by
  have hS := (St.init w no)
  unfold impl_isName.f at H
  refine CV.body Tryz.func59 rfl Tryz.ntmps59 rfl ?_
  refine CJ.seq ?_
  refine CJ.region ?_
  refine OJ.pures tU_ok 1 rfl ?_
  refine OJ.nil (EJ.next ?_)
  refine CJ.seq ?_
  refine CJ.region ?_
  refine OJ.pures tU_ok 2 rfl ?_
  obtain ⟨t1, ht1, H⟩ := pbind H
  refine OJ.callF rfl rfl rfl rfl rfl hb49 rfl (impl_within.c _ (a0.size : Int) 1 8 _ ht1) ?_
  rintro _ w1 ⟨rfl, hs⟩
  replace hS := hS.grow hs
  refine OJ.pures tU_ok 1 rfl ?_
  refine OJ.split (t := 6) rfl (fun hb => ?_) (fun hb => ?_)
  · replace H := pif_t hb H
    refine OJ.pures tU_ok 1 rfl ?_
    obtain ⟨t2, ht2, H⟩ := pbind H
    refine OJ.callF rfl rfl rfl rfl rfl hb79 rfl (strings_Trim.c k _ a0 (⟨#[97, 98, 99, 100, 101, 102, 103, 104, 105, 106, 107, 108, 109, 110, 111, 112, 113, 114, 115, 116, 117, 118, 119, 120, 121, 122]⟩ : ByteArray) _ ht2) ?_
    rintro _ w1 ⟨rfl, hs⟩
    replace hS := hS.grow hs
    refine OJ.pures tU_ok 3 rfl ?_
    refine OJ.nil (EJ.next ?_)
    refine CJ.ret (?_)
    obtain rfl := Option.some.inj H
    exact EJ.fin rfl (.tmp rfl .nil) ⟨rfl, hS.ext⟩
  · replace H := pifb_f hb H
    refine OJ.pures tU_ok 5 rfl ?_
    refine OJ.nil (EJ.next ?_)
    refine CJ.ret (?_)
    obtain rfl := Option.some.inj H
    exact EJ.fin rfl (.tmp rfl .nil) ⟨rfl, hS.ext⟩

def slices_Index_string_string.l1 (a0 : List ByteArray) (a1 : ByteArray) : Nat → Int → Option (Int ⊕ Unit)
  | 0, _ => none
  | k + 1, y1 => if y1 < (a0.length : Int) then ((getI a0 y1).bind fun t2 => if a1 = t2 then (some (Sum.inl y1)) else (slices_Index_string_string.l1 a0 a1 k (IntKind.i64.wrap (y1 + 1)))) else (some (Sum.inr ()))
def slices_Index_string_string.f (k : Nat) (a0 : List ByteArray) (a1 : ByteArray) : Option Int := (slices_Index_string_string.l1 a0 a1 k 0).bind fun s29 => match s29 with | .inl r => some r | .inr _ => some (-1)
theorem slices_Index_string_string.c (k : Nat) (w : World) (Aa0 : Option Addr) (ca0 : Nat) (a0 : List ByteArray) (hr0 : Rd G.cs w Aa0 a0) (hc0 : a0.length ≤ ca0) (a1 : ByteArray) (r : Int) (H : slices_Index_string_string.f k a0 a1 = some r) :
    CV Tryz.prog 80 [.slice Aa0 a0.length ca0, .string a1].toArray w fun v w' => v = .int .i64 r ∧ Ext w w' := by
  have hS := ((St.init w no).param G.cs Aa0 ca0 a0 hr0 hc0)
  unfold slices_Index_string_string.f at H
  refine CV.body Tryz.func80 rfl Tryz.ntmps80 rfl ?_
  refine CJ.seq ?_
  refine CJ.region ?_
  refine OJ.pures tU_ok 1 rfl ?_
  refine OJ.nil (EJ.next ?_)
  refine CJ.seq ?_
  refine CJ.seq ?_
  refine CJ.region ?_
  refine OJ.pures tU_ok 3 rfl ?_
  refine OJ.nil (EJ.next ?_)
  obtain ⟨j29, H, K29⟩ := pbind H
  refine CJ.cut1 (fun F w1 => (some (Sum.inr ()) : Option (Int ⊕ Unit)) = some j29 ∧ F = [] ∧ St w no w1 [] [roC G.cs Aa0 ca0 a0]) ?_ ?_
  · skip
    refine CJ.block ?_
    refine CJ.loop (fun k F w1 => ∃ (y1 : Int), F = [(0, .slice Aa0 a0.length ca0), (1, .string a1), (7, .int .i64 (a0.length : Int)), (8, .int .i64 y1)] ∧ St w no w1 [] [roC G.cs Aa0 ca0 a0] ∧ slices_Index_string_string.l1 a0 a1 k y1 = some j29) k (F' := [(0, .slice Aa0 a0.length ca0), (1, .string a1), (7, .int .i64 (a0.length : Int)), (8, .int .i64 0)]) ⟨rfl, rfl, rfl, rfl, trivial⟩ ⟨0, rfl, hS.pick [] [0] rfl, H⟩ ?_
    rintro k F w1 ⟨y1, rfl, hS, H⟩
    cases k with
    | zero => rw [slices_Index_string_string.l1] at H; cases H
    | succ k =>
      rw [slices_Index_string_string.l1] at H
      refine CJ.seq ?_
      refine CJ.region ?_
      refine OJ.pures tU_ok 1 rfl ?_
      refine OJ.nil (EJ.next ?_)
      refine CJ.seq ?_
      refine CJ.cond rfl (fun hb => ?_) (fun hb => ?_)
      · replace H := pif_t (of_decide_eq_true hb) H
        refine CJ.skip (EJ.next ?_)
        refine CJ.seq ?_
        refine CJ.block ?_
        refine CJ.seq ?_
        refine CJ.region ?_
        refine OJ.pures tU_ok 2 rfl ?_
        refine OJ.nil (EJ.next ?_)
        refine CJ.seq ?_
        refine CJ.region ?_
        refine OJ.pures tU_ok 3 rfl ?_
        obtain ⟨t2, ht2, H⟩ := pbind H
        obtain ⟨ad2, e2⟩ := (hS.rd' (i := 0) rfl).some' ht2
        refine OJ.st rfl rfl rfl (SR.idxS tU_ok tI_ok rfl rfl rfl rfl e2 rfl (getI_some ht2).1) ?_
        refine OJ.st rfl rfl rfl (SR.load rfl rfl (fun w' hx => ld1 tU_ok rfl rfl (CA.ext ((hS.rd' (i := 0) rfl).at_ e2 ht2) hx) rfl)) ?_
        refine OJ.pures tU_ok 1 rfl ?_
        refine OJ.nil (EJ.next ?_)
        refine CJ.cond rfl (fun hb => ?_) (fun hb => ?_)
        · replace H := pif_t (of_decide_eq_true hb) H
          refine CJ.seq ?_
          refine CJ.region ?_
          refine OJ.pures tU_ok 2 rfl ?_
          refine OJ.nil (EJ.next ?_)
          refine CJ.ret (EJ.bkR (EJ.skR (EJ.skR (EJ.bkR (EJ.skR (EJ.skR (?_)))))))
          first | (obtain rfl := Option.some.inj H; have H := K29) | (obtain ⟨q29, H2, e29⟩ := pbind H; obtain rfl := Option.some.inj e29; obtain rfl := Option.some.inj K29; have H := H2)
          obtain rfl := Option.some.inj H
          exact EJ.fin rfl (.tmp rfl .nil) ⟨rfl, hS.ext⟩
        · replace H := pif_f (of_decide_eq_false hb) H
          refine CJ.skip (EJ.blk (EJ.next ?_))
          refine CJ.region ?_
          refine OJ.pures tU_ok 2 rfl ?_
          refine OJ.nil ?_
          exact EJ.round k (F' := [(0, .slice Aa0 a0.length ca0), (1, .string a1), (7, .int .i64 (a0.length : Int)), (8, .int .i64 (IntKind.i64.wrap (y1 + 1)))]) ⟨rfl, rfl, rfl, rfl, trivial⟩ (Nat.lt_succ_self _) ⟨(IntKind.i64.wrap (y1 + 1)), rfl, hS.pick [] [0] rfl, H⟩
      · replace H := pif_f (of_decide_eq_false hb) H
        refine CJ.exit (EJ.skE (EJ.skE (EJ.hit (?_))))
        exact EJ.meet (F' := []) trivial ⟨H, rfl, hS.pick [] [0] rfl⟩
  · rintro F w1 ⟨he, rfl, hS⟩
    obtain rfl := Option.some.inj he
    have H := K29
    refine EJ.next ?_
    refine CJ.seq ?_
    refine CJ.region ?_
    refine OJ.pures tU_ok 1 rfl ?_
    refine OJ.nil (EJ.next ?_)
    refine CJ.ret (?_)
    obtain rfl := Option.some.inj H
    exact EJ.fin rfl (.tmp rfl .nil) ⟨rfl, hS.ext⟩

def slices_Contains_string_string.f (k : Nat) (a0 : List ByteArray) (a1 : ByteArray) : Option Bool := (slices_Index_string_string.f k a0 a1).bind fun t1 => some (decide (0 ≤ t1))
theorem slices_Contains_string_string.c (k : Nat) (w : World) (Aa0 : Option Addr) (ca0 : Nat) (a0 : List ByteArray) (hr0 : Rd G.cs w Aa0 a0) (hc0 : a0.length ≤ ca0) (a1 : ByteArray) (r : Bool) (H : slices_Contains_string_string.f k a0 a1 = some r) :
    CV Tryz.prog 60 [.slice Aa0 a0.length ca0, .string a1].toArray w fun v w' => v = .bool r ∧ Ext w w' := by
  have hS := ((St.init w no).param G.cs Aa0 ca0 a0 hr0 hc0)
  unfold slices_Contains_string_string.f at H
  refine CV.body Tryz.func60 rfl Tryz.ntmps60 rfl ?_
  refine CJ.seq ?_
  refine CJ.region ?_
  refine OJ.pures tU_ok 1 rfl ?_
  refine OJ.nil (EJ.next ?_)
  refine CJ.seq ?_
  refine CJ.region ?_
  refine OJ.pures tU_ok 2 rfl ?_
  obtain ⟨t1, ht1, H⟩ := pbind H
  refine OJ.callF rfl rfl rfl rfl rfl hb80 rfl (slices_Index_string_string.c k _ Aa0 ca0 a0 (hS.rd' (i := 0) rfl) (hS.le' (i := 0) rfl) a1 _ ht1) ?_
  rintro _ w1 ⟨rfl, hs⟩
  replace hS := hS.grow hs
  refine OJ.pures tU_ok 2 rfl ?_
  refine OJ.nil (EJ.next ?_)
  refine CJ.ret (?_)
  obtain rfl := Option.some.inj H
  exact EJ.fin rfl (.tmp rfl .nil) ⟨rfl, hS.ext⟩

def impl_Herd_areFoes.f (a0 : Herd) (a1 : Int) (a2 : Int) : Option Bool := (getI a0.Foes a1).bind fun t2 => (chk (0 ≤ a2)).bind fun u3 => some (decide ((andI .u16 (shrI .u16 t2 a2) 1) = 1))
theorem impl_Herd_areFoes.c (w : World) (Aa0_0 : Option Addr) (ca0_0 : Nat) (Aa0_1 : Option Addr) (ca0_1 : Nat) (Aa0_2 : Option Addr) (ca0_2 : Nat) (a0 : Herd) (hr0_0 : Rd G.cs w Aa0_0 a0.Names) (hc0_0 : a0.Names.length ≤ ca0_0) (hr0_1 : Rd (ci .i16) w Aa0_1 a0.Eats) (hc0_1 : a0.Eats.length ≤ ca0_1) (hr0_2 : Rd (ci .u16) w Aa0_2 a0.Foes) (hc0_2 : a0.Foes.length ≤ ca0_2) (a1 : Int) (a2 : Int) (r : Bool) (H : impl_Herd_areFoes.f a0 a1 a2 = some r) :
    CV Tryz.prog 46 [.agg [.slice Aa0_0 a0.Names.length ca0_0, .slice Aa0_1 a0.Eats.length ca0_1, .slice Aa0_2 a0.Foes.length ca0_2].toArray, .int .i64 a1, .int .i64 a2].toArray w fun v w' => v = .bool r ∧ Ext w w' := by
  have hS := ((((St.init w no).param G.cs Aa0_0 ca0_0 a0.Names hr0_0 hc0_0).param (ci .i16) Aa0_1 ca0_1 a0.Eats hr0_1 hc0_1).param (ci .u16) Aa0_2 ca0_2 a0.Foes hr0_2 hc0_2)
  unfold impl_Herd_areFoes.f at H
  refine CV.body Tryz.func46 rfl Tryz.ntmps46 rfl ?_
  refine CJ.seq ?_
  refine CJ.region ?_
  refine OJ.ef rfl rfl rfl (Ef.box hS rfl rfl ([.slice Aa0_0 a0.Names.length ca0_0, .slice Aa0_1 a0.Eats.length ca0_1, .slice Aa0_2 a0.Foes.length ca0_2]) rfl) ?_
  rintro _ w1 ⟨b1, rfl, hS⟩
  refine OJ.pures tU_ok 1 rfl ?_
  refine OJ.nil (EJ.next ?_)
  refine CJ.seq ?_
  refine CJ.region ?_
  refine OJ.st rfl rfl rfl (SR.fieldAddr tU_ok tI_ok rfl rfl rfl rfl rfl rfl) ?_
  refine OJ.st rfl rfl rfl (SR.load rfl rfl (fun w' hx => ld1 tU_ok rfl rfl (CA.ext (CA.sub (hS.cells (i := 0) rfl) 2) hx) rfl)) ?_
  refine OJ.pures tU_ok 1 rfl ?_
  obtain ⟨t2, ht2, H⟩ := pbind H
  obtain ⟨ad2, e2⟩ := (hS.rd' (i := 2) rfl).some' ht2
  refine OJ.st rfl rfl rfl (SR.idxS tU_ok tI_ok rfl rfl rfl rfl e2 rfl (getI_some ht2).1) ?_
  refine OJ.st rfl rfl rfl (SR.load rfl rfl (fun w' hx => ld1 tU_ok rfl rfl (CA.ext ((hS.rd' (i := 2) rfl).at_ e2 ht2) hx) rfl)) ?_
  refine OJ.pures tU_ok 1 rfl ?_
  obtain ⟨u3, hu3, H⟩ := pbind H
  refine OJ.st rfl rfl rfl (SR.shr rfl rfl rfl (chk_some hu3)) ?_
  refine OJ.pures tU_ok 3 rfl ?_
  refine OJ.nil (EJ.next ?_)
  refine CJ.ret (?_)
  obtain rfl := Option.some.inj H
  exact EJ.fin rfl (.tmp rfl .nil) ⟨rfl, hS.ext⟩

def impl_ValidHerd.l2 (a0 : Herd) (y3 : Int) : Nat → Int → Option (((Bool ⊕ Unit) ⊕ Unit) ⊕ Unit)
  | 0, _ => none
  | k + 1, y14 => if y14 < y3 then ((impl_Herd_areFoes.f a0 y3 y14).bind fun t15 => (impl_Herd_areFoes.f a0 y14 y3).bind fun t16 => if t15 ≠ t16 then (some (Sum.inl (Sum.inl (Sum.inl false)))) else (impl_ValidHerd.l2 a0 y3 k (IntKind.i64.wrap (y14 + 1)))) else (some (Sum.inr ()))
def impl_ValidHerd.l1 (a0 : Herd) : Nat → Int → Option (Bool ⊕ Unit)
  | 0, _ => none
  | k + 1, y3 => if y3 < (a0.Names.length : Int) then (((getI a0.Names y3).bind fun t4 => ((impl_isName.f k t4).bind fun t6 => if (!t6) = true then (some true) else ((chk ((0 : Int) ≤ 0 ∧ 0 ≤ y3 ∧ y3 ≤ (a0.Names.length : Int))).bind fun u7 => (slices_Contains_string_string.f k ((a0.Names.drop 0).take (y3.toNat - 0)) t4).bind fun t8 => if t8 = true then (some true) else ((getI a0.Eats y3).bind fun t9 => (impl_within.f (IntKind.i64.wrap t9) 0 100).bind fun t10 => if (!t10) = true then (some true) else ((getI a0.Foes y3).bind fun t11 => (chk (0 ≤ (a0.Names.length : Int))).bind fun u12 => if (shrI .u16 t11 (a0.Names.length : Int)) ≠ 0 then (some true) else ((impl_Herd_areFoes.f a0 y3 y3).bind fun t13 => some t13))))).bind fun y5 => if y5 = true then (some (Sum.inl (Sum.inl false))) else ((impl_ValidHerd.l2 a0 y3 k 0).bind fun s42 => match s42 with | .inl r => some r | .inr _ => some (Sum.inr ()))).bind fun s38 => match s38 with | .inl r => some r | .inr _ => impl_ValidHerd.l1 a0 k (IntKind.i64.wrap (y3 + 1))) else (some (Sum.inr ()))
def impl_ValidHerd.f (k : Nat) (a0 : Herd) : Option Bool := (if 14 < (a0.Names.length : Int) then (some true) else (if (a0.Eats.length : Int) ≠ (a0.Names.length : Int) then (some true) else (some (decide ((a0.Foes.length : Int) ≠ (a0.Names.length : Int)))))).bind fun y2 => if y2 = true then (some false) else ((impl_ValidHerd.l1 a0 k 0).bind fun s13 => match s13 with | .inl r => some r | .inr _ => some true)
theorem impl_ValidHerd.c (k : Nat) (w : World) (Aa0_0 : Option Addr) (ca0_0 : Nat) (Aa0_1 : Option Addr) (ca0_1 : Nat) (Aa0_2 : Option Addr) (ca0_2 : Nat) (a0 : Herd) (hr0_0 : Rd G.cs w Aa0_0 a0.Names) (hc0_0 : a0.Names.length ≤ ca0_0) (hr0_1 : Rd (ci .i16) w Aa0_1 a0.Eats) (hc0_1 : a0.Eats.length ≤ ca0_1) (hr0_2 : Rd (ci .u16) w Aa0_2 a0.Foes) (hc0_2 : a0.Foes.length ≤ ca0_2) (r : Bool) (H : impl_ValidHerd.f k a0 = some r) :
    CV Tryz.prog 27 [.agg [.slice Aa0_0 a0.Names.length ca0_0, .slice Aa0_1 a0.Eats.length ca0_1, .slice Aa0_2 a0.Foes.length ca0_2].toArray].toArray w fun v w' => v = .bool r ∧ Ext w w' := by
  have hS := ((((St.init w no).param G.cs Aa0_0 ca0_0 a0.Names hr0_0 hc0_0).param (ci .i16) Aa0_1 ca0_1 a0.Eats hr0_1 hc0_1).param (ci .u16) Aa0_2 ca0_2 a0.Foes hr0_2 hc0_2)
  unfold impl_ValidHerd.f at H
  refine CV.body Tryz.func27 rfl Tryz.ntmps27 rfl ?_
  refine CJ.seq ?_
  refine CJ.region ?_
  refine OJ.ef rfl rfl rfl (Ef.box hS rfl rfl ([.slice Aa0_0 a0.Names.length ca0_0, .slice Aa0_1 a0.Eats.length ca0_1, .slice Aa0_2 a0.Foes.length ca0_2]) rfl) ?_
  rintro _ w1 ⟨b1, rfl, hS⟩
  refine OJ.pures tU_ok 1 rfl ?_
  refine OJ.nil (EJ.next ?_)
  refine CJ.seq ?_
  refine CJ.region ?_
  refine OJ.st rfl rfl rfl (SR.fieldAddr tU_ok tI_ok rfl rfl rfl rfl rfl rfl) ?_
  refine OJ.st rfl rfl rfl (SR.load rfl rfl (fun w' hx => ld1 tU_ok rfl rfl (CA.ext (CA.sub (hS.cells (i := 0) rfl) 0) hx) rfl)) ?_
  refine OJ.pures tU_ok 2 rfl ?_
  refine OJ.nil (EJ.next ?_)
  refine CJ.seq ?_
  obtain ⟨j12, H, K12⟩ := pbind H
  refine CJ.cut (fun F w1 => ∃ (y2 : Bool) , (some y2 : Option Bool) = some j12 ∧ F = [(1, .pointer (some ⟨b1, 0, none⟩)), (3, .int .i64 (a0.Names.length : Int)), (25, .bool y2)] ∧ St w no w1 [box b1 ([.slice Aa0_0 a0.Names.length ca0_0, .slice Aa0_1 a0.Eats.length ca0_1, .slice Aa0_2 a0.Foes.length ca0_2]) 28] [roC G.cs Aa0_0 ca0_0 a0.Names, roC (ci .i16) Aa0_1 ca0_1 a0.Eats, roC (ci .u16) Aa0_2 ca0_2 a0.Foes]) ?_ ?_
  · skip
    refine CJ.region ?_
    refine OJ.pures tU_ok 3 rfl ?_
    refine OJ.split (t := 12) rfl (fun hb => ?_) (fun hb => ?_)
    · replace H := pif_t (of_decide_eq_true hb) H
      refine OJ.pures tU_ok 13 rfl ?_
      refine OJ.nil ?_
      exact EJ.meet (F' := [(1, .pointer (some ⟨b1, 0, none⟩)), (3, .int .i64 (a0.Names.length : Int)), (25, .bool true)]) ⟨rfl, rfl, rfl, trivial⟩ ⟨true, H, rfl, hS.pick [0] [0, 1, 2] rfl⟩
    · replace H := pif_f (of_decide_eq_false hb) H
      refine OJ.st rfl rfl rfl (SR.fieldAddr tU_ok tI_ok rfl rfl rfl rfl rfl rfl) ?_
      refine OJ.st rfl rfl rfl (SR.load rfl rfl (fun w' hx => ld1 tU_ok rfl rfl (CA.ext (CA.sub (hS.cells (i := 0) rfl) 1) hx) rfl)) ?_
      refine OJ.pures tU_ok 5 rfl ?_
      refine OJ.split (t := 19) rfl (fun hb => ?_) (fun hb => ?_)
      · replace H := pif_t (of_decide_eq_true hb) H
        refine OJ.pures tU_ok 6 rfl ?_
        refine OJ.nil ?_
        exact EJ.meet (F' := [(1, .pointer (some ⟨b1, 0, none⟩)), (3, .int .i64 (a0.Names.length : Int)), (25, .bool true)]) ⟨rfl, rfl, rfl, trivial⟩ ⟨true, H, rfl, hS.pick [0] [0, 1, 2] rfl⟩
      · replace H := pif_f (of_decide_eq_false hb) H
        refine OJ.st rfl rfl rfl (SR.fieldAddr tU_ok tI_ok rfl rfl rfl rfl rfl rfl) ?_
        refine OJ.st rfl rfl rfl (SR.load rfl rfl (fun w' hx => ld1 tU_ok rfl rfl (CA.ext (CA.sub (hS.cells (i := 0) rfl) 2) hx) rfl)) ?_
        refine OJ.pures tU_ok 4 rfl ?_
        refine OJ.nil ?_
        exact EJ.meet (F' := [(1, .pointer (some ⟨b1, 0, none⟩)), (3, .int .i64 (a0.Names.length : Int)), (25, .bool (decide ((a0.Foes.length : Int) ≠ (a0.Names.length : Int))))]) ⟨rfl, rfl, rfl, trivial⟩ ⟨(decide ((a0.Foes.length : Int) ≠ (a0.Names.length : Int))), H, rfl, hS.pick [0] [0, 1, 2] rfl⟩
  · rintro F w1 ⟨y2, he, rfl, hS⟩
    obtain rfl := Option.some.inj he
    have H := K12
    refine CJ.cond rfl (fun hb => ?_) (fun hb => ?_)
    · replace H := pif_t hb H
      refine CJ.seq ?_
      refine CJ.region ?_
      refine OJ.pures tU_ok 1 rfl ?_
      refine OJ.nil (EJ.next ?_)
      refine CJ.ret (EJ.skR (?_))
      obtain rfl := Option.some.inj H
      exact EJ.fin rfl (.tmp rfl .nil) ⟨rfl, hS.ext⟩
    · replace H := pifb_f hb H
      refine CJ.skip (EJ.next ?_)
      refine CJ.seq ?_
      refine CJ.seq ?_
      refine CJ.region ?_
      refine OJ.st rfl rfl rfl (SR.fieldAddr tU_ok tI_ok rfl rfl rfl rfl rfl rfl) ?_
      refine OJ.st rfl rfl rfl (SR.load rfl rfl (fun w' hx => ld1 tU_ok rfl rfl (CA.ext (CA.sub (hS.cells (i := 0) rfl) 0) hx) rfl)) ?_
      refine OJ.pures tU_ok 2 rfl ?_
      refine OJ.nil (EJ.next ?_)
      obtain ⟨j13, H, K13⟩ := pbind H
      refine CJ.cut1 (fun F w1 => (some (Sum.inr ()) : Option (Bool ⊕ Unit)) = some j13 ∧ F = [] ∧ St w no w1 [] [roC G.cs Aa0_0 ca0_0 a0.Names, roC (ci .i16) Aa0_1 ca0_1 a0.Eats, roC (ci .u16) Aa0_2 ca0_2 a0.Foes]) ?_ ?_
      · skip
        refine CJ.block ?_
        refine CJ.loop (fun k F w1 => ∃ (y3 : Int), F = [(1, .pointer (some ⟨b1, 0, none⟩)), (3, .int .i64 (a0.Names.length : Int)), (27, .slice Aa0_0 a0.Names.length ca0_0), (28, .int .i64 (a0.Names.length : Int)), (29, .int .i64 y3)] ∧ St w no w1 [box b1 ([.slice Aa0_0 a0.Names.length ca0_0, .slice Aa0_1 a0.Eats.length ca0_1, .slice Aa0_2 a0.Foes.length ca0_2]) 28] [roC G.cs Aa0_0 ca0_0 a0.Names, roC (ci .i16) Aa0_1 ca0_1 a0.Eats, roC (ci .u16) Aa0_2 ca0_2 a0.Foes] ∧ impl_ValidHerd.l1 a0 k y3 = some j13) k (F' := [(1, .pointer (some ⟨b1, 0, none⟩)), (3, .int .i64 (a0.Names.length : Int)), (27, .slice Aa0_0 a0.Names.length ca0_0), (28, .int .i64 (a0.Names.length : Int)), (29, .int .i64 0)]) ⟨rfl, rfl, rfl, rfl, rfl, trivial⟩ ⟨0, rfl, hS.pick [0] [0, 1, 2] rfl, H⟩ ?_
        rintro k F w1 ⟨y3, rfl, hS, H⟩
        cases k with
        | zero => rw [impl_ValidHerd.l1] at H; cases H
        | succ k =>
          rw [impl_ValidHerd.l1] at H
          refine CJ.seq ?_
          refine CJ.region ?_
          refine OJ.pures tU_ok 1 rfl ?_
          refine OJ.nil (EJ.next ?_)
          refine CJ.seq ?_
          refine CJ.cond rfl (fun hb => ?_) (fun hb => ?_)
          · replace H := pif_t (of_decide_eq_true hb) H
            refine CJ.skip (EJ.next ?_)
            obtain ⟨j38, H, K38⟩ := pbind H
            refine CJ.cut (fun F w1 => (some (Sum.inr ()) : Option ((Bool ⊕ Unit) ⊕ Unit)) = some j38 ∧ F = [(1, .pointer (some ⟨b1, 0, none⟩)), (3, .int .i64 (a0.Names.length : Int)), (27, .slice Aa0_0 a0.Names.length ca0_0), (28, .int .i64 (a0.Names.length : Int)), (29, .int .i64 y3)] ∧ St w no w1 [box b1 ([.slice Aa0_0 a0.Names.length ca0_0, .slice Aa0_1 a0.Eats.length ca0_1, .slice Aa0_2 a0.Foes.length ca0_2]) 28] [roC G.cs Aa0_0 ca0_0 a0.Names, roC (ci .i16) Aa0_1 ca0_1 a0.Eats, roC (ci .u16) Aa0_2 ca0_2 a0.Foes]) ?_ ?_
            · skip
              refine CJ.block ?_
              refine CJ.seq ?_
              refine CJ.region ?_
              refine OJ.pures tU_ok 1 rfl ?_
              obtain ⟨t4, ht4, H⟩ := pbind H
              obtain ⟨ad4, e4⟩ := (hS.rd' (i := 0) rfl).some' ht4
              refine OJ.st rfl rfl rfl (SR.idxS tU_ok tI_ok rfl rfl rfl rfl e4 rfl (getI_some ht4).1) ?_
              refine OJ.st rfl rfl rfl (SR.load rfl rfl (fun w' hx => ld1 tU_ok rfl rfl (CA.ext ((hS.rd' (i := 0) rfl).at_ e4 ht4) hx) rfl)) ?_
              refine OJ.pures tU_ok 2 rfl ?_
              refine OJ.nil (EJ.next ?_)
              refine CJ.seq ?_
              obtain ⟨j41, H, K41⟩ := pbind H
              refine CJ.cut (fun F w1 => ∃ (y5 : Bool) , (some y5 : Option Bool) = some j41 ∧ F = [(1, .pointer (some ⟨b1, 0, none⟩)), (3, .int .i64 (a0.Names.length : Int)), (4, .int .i64 y3), (27, .slice Aa0_0 a0.Names.length ca0_0), (28, .int .i64 (a0.Names.length : Int)), (29, .int .i64 y3), (70, .bool y5)] ∧ St w no w1 [box b1 ([.slice Aa0_0 a0.Names.length ca0_0, .slice Aa0_1 a0.Eats.length ca0_1, .slice Aa0_2 a0.Foes.length ca0_2]) 28] [roC G.cs Aa0_0 ca0_0 a0.Names, roC (ci .i16) Aa0_1 ca0_1 a0.Eats, roC (ci .u16) Aa0_2 ca0_2 a0.Foes]) ?_ ?_
              · skip
                refine CJ.region ?_
                refine OJ.pures tU_ok 1 rfl ?_
                obtain ⟨t6, ht6, H⟩ := pbind H
                refine OJ.callF rfl rfl rfl rfl rfl hb59 rfl (impl_isName.c k _ t4 _ ht6) ?_
                rintro _ w1 ⟨rfl, hs⟩
                replace hS := hS.grow hs
                refine OJ.pures tU_ok 2 rfl ?_
                refine OJ.split (t := 37) rfl (fun hb => ?_) (fun hb => ?_)
                · replace H := pif_t hb H
                  refine OJ.pures tU_ok 33 rfl ?_
                  refine OJ.nil ?_
                  exact EJ.meet (F' := [(1, .pointer (some ⟨b1, 0, none⟩)), (3, .int .i64 (a0.Names.length : Int)), (4, .int .i64 y3), (27, .slice Aa0_0 a0.Names.length ca0_0), (28, .int .i64 (a0.Names.length : Int)), (29, .int .i64 y3), (70, .bool true)]) ⟨rfl, rfl, rfl, rfl, rfl, rfl, rfl, trivial⟩ ⟨true, H, rfl, hS.pick [0] [0, 1, 2] rfl⟩
                · replace H := pifb_f hb H
                  refine OJ.st rfl rfl rfl (SR.fieldAddr tU_ok tI_ok rfl rfl rfl rfl rfl rfl) ?_
                  refine OJ.st rfl rfl rfl (SR.load rfl rfl (fun w' hx => ld1 tU_ok rfl rfl (CA.ext (CA.sub (hS.cells (i := 0) rfl) 0) hx) rfl)) ?_
                  refine OJ.pures tU_ok 1 rfl ?_
                  obtain ⟨u7, hu7, H⟩ := pbind H
                  refine OJ.st rfl rfl rfl (SR.cutS tU_ok tI_ok (0) (y3.toNat) rfl rfl rfl rfl rfl rfl (.inl ⟨rfl, rfl⟩) (.inr ⟨_, _, rfl, (by have := (chk_some hu7); omega), rfl⟩) (by have := (chk_some hu7); omega) (by have := (chk_some hu7); have := (hS.le' (i := 0) rfl : a0.Names.length ≤ ca0_0); omega)) ?_
                  replace hS := hS.cutR (i := 0) (lo := 0) (hi := y3.toNat) rfl (by have := (chk_some hu7); omega) (by have := (chk_some hu7); omega)
                  refine OJ.as (t := 41) rfl (show _ = (.slice (cutA Aa0_0 ca0_0 0 G.cs.sz) ((a0.Names.drop 0).take (y3.toNat - 0)).length (ca0_0 - 0) : Value) by rw [cutLen (by have := (chk_some hu7); omega) (by have := (chk_some hu7); omega)]; rfl) ?_
                  refine OJ.pures tU_ok 1 rfl ?_
                  obtain ⟨t8, ht8, H⟩ := pbind H
                  refine OJ.callF rfl rfl rfl rfl rfl hb60 rfl (slices_Contains_string_string.c k _ (cutA Aa0_0 ca0_0 0 G.cs.sz) (ca0_0 - 0) ((a0.Names.drop 0).take (y3.toNat - 0)) (hS.rd' (i := 3) rfl) (hS.le' (i := 3) rfl) t4 _ ht8) ?_
                  rintro _ w1 ⟨rfl, hs⟩
                  replace hS := hS.grow hs
                  refine OJ.pures tU_ok 2 rfl ?_
                  refine OJ.split (t := 45) rfl (fun hb => ?_) (fun hb => ?_)
                  · replace H := pif_t hb H
                    refine OJ.pures tU_ok 25 rfl ?_
                    refine OJ.nil ?_
                    exact EJ.meet (F' := [(1, .pointer (some ⟨b1, 0, none⟩)), (3, .int .i64 (a0.Names.length : Int)), (4, .int .i64 y3), (27, .slice Aa0_0 a0.Names.length ca0_0), (28, .int .i64 (a0.Names.length : Int)), (29, .int .i64 y3), (70, .bool true)]) ⟨rfl, rfl, rfl, rfl, rfl, rfl, rfl, trivial⟩ ⟨true, H, rfl, hS.pick [0] [0, 1, 2] rfl⟩
                  · replace H := pifb_f hb H
                    refine OJ.st rfl rfl rfl (SR.fieldAddr tU_ok tI_ok rfl rfl rfl rfl rfl rfl) ?_
                    refine OJ.st rfl rfl rfl (SR.load rfl rfl (fun w' hx => ld1 tU_ok rfl rfl (CA.ext (CA.sub (hS.cells (i := 0) rfl) 1) hx) rfl)) ?_
                    refine OJ.pures tU_ok 1 rfl ?_
                    obtain ⟨t9, ht9, H⟩ := pbind H
                    obtain ⟨ad9, e9⟩ := (hS.rd' (i := 1) rfl).some' ht9
                    refine OJ.st rfl rfl rfl (SR.idxS tU_ok tI_ok rfl rfl rfl rfl e9 rfl (getI_some ht9).1) ?_
                    refine OJ.st rfl rfl rfl (SR.load rfl rfl (fun w' hx => ld1 tU_ok rfl rfl (CA.ext ((hS.rd' (i := 1) rfl).at_ e9 ht9) hx) rfl)) ?_
                    refine OJ.pures tU_ok 1 rfl ?_
                    obtain ⟨t10, ht10, H⟩ := pbind H
                    refine OJ.callF rfl rfl rfl rfl rfl hb49 rfl (impl_within.c _ (IntKind.i64.wrap t9) 0 100 _ ht10) ?_
                    rintro _ w1 ⟨rfl, hs⟩
                    replace hS := hS.grow hs
                    refine OJ.pures tU_ok 3 rfl ?_
                    refine OJ.split (t := 55) rfl (fun hb => ?_) (fun hb => ?_)
                    · replace H := pif_t hb H
                      refine OJ.pures tU_ok 15 rfl ?_
                      refine OJ.nil ?_
                      exact EJ.meet (F' := [(1, .pointer (some ⟨b1, 0, none⟩)), (3, .int .i64 (a0.Names.length : Int)), (4, .int .i64 y3), (27, .slice Aa0_0 a0.Names.length ca0_0), (28, .int .i64 (a0.Names.length : Int)), (29, .int .i64 y3), (70, .bool true)]) ⟨rfl, rfl, rfl, rfl, rfl, rfl, rfl, trivial⟩ ⟨true, H, rfl, hS.pick [0] [0, 1, 2] rfl⟩
                    · replace H := pifb_f hb H
                      refine OJ.st rfl rfl rfl (SR.fieldAddr tU_ok tI_ok rfl rfl rfl rfl rfl rfl) ?_
                      refine OJ.st rfl rfl rfl (SR.load rfl rfl (fun w' hx => ld1 tU_ok rfl rfl (CA.ext (CA.sub (hS.cells (i := 0) rfl) 2) hx) rfl)) ?_
                      refine OJ.pures tU_ok 1 rfl ?_
                      obtain ⟨t11, ht11, H⟩ := pbind H
                      obtain ⟨ad11, e11⟩ := (hS.rd' (i := 2) rfl).some' ht11
                      refine OJ.st rfl rfl rfl (SR.idxS tU_ok tI_ok rfl rfl rfl rfl e11 rfl (getI_some ht11).1) ?_
                      refine OJ.st rfl rfl rfl (SR.load rfl rfl (fun w' hx => ld1 tU_ok rfl rfl (CA.ext ((hS.rd' (i := 2) rfl).at_ e11 ht11) hx) rfl)) ?_
                      refine OJ.pures tU_ok 1 rfl ?_
                      obtain ⟨u12, hu12, H⟩ := pbind H
                      refine OJ.st rfl rfl rfl (SR.shr rfl rfl rfl (chk_some hu12)) ?_
                      refine OJ.pures tU_ok 3 rfl ?_
                      refine OJ.split (t := 65) rfl (fun hb => ?_) (fun hb => ?_)
                      · replace H := pif_t (of_decide_eq_true hb) H
                        refine OJ.pures tU_ok 5 rfl ?_
                        refine OJ.nil ?_
                        exact EJ.meet (F' := [(1, .pointer (some ⟨b1, 0, none⟩)), (3, .int .i64 (a0.Names.length : Int)), (4, .int .i64 y3), (27, .slice Aa0_0 a0.Names.length ca0_0), (28, .int .i64 (a0.Names.length : Int)), (29, .int .i64 y3), (70, .bool true)]) ⟨rfl, rfl, rfl, rfl, rfl, rfl, rfl, trivial⟩ ⟨true, H, rfl, hS.pick [0] [0, 1, 2] rfl⟩
                      · replace H := pif_f (of_decide_eq_false hb) H
                        refine OJ.st rfl rfl rfl (SR.load rfl rfl (fun w' hx => ldN tU_ok tI_ok rfl rfl rfl (CA.ext (hS.cells (i := 0) rfl) hx) (ds := [.slice Aa0_0 a0.Names.length ca0_0, .slice Aa0_1 a0.Eats.length ca0_1, .slice Aa0_2 a0.Foes.length ca0_2]) rfl rfl)) ?_
                        refine OJ.pures tU_ok 2 rfl ?_
                        obtain ⟨t13, ht13, H⟩ := pbind H
                        refine OJ.callF rfl rfl rfl rfl rfl hb46 rfl (impl_Herd_areFoes.c _ Aa0_0 ca0_0 Aa0_1 ca0_1 Aa0_2 ca0_2 a0 (hS.rd' (i := 0) rfl) (hS.le' (i := 0) rfl) (hS.rd' (i := 1) rfl) (hS.le' (i := 1) rfl) (hS.rd' (i := 2) rfl) (hS.le' (i := 2) rfl) y3 y3 _ ht13) ?_
                        rintro _ w1 ⟨rfl, hs⟩
                        replace hS := hS.grow hs
                        refine OJ.pures tU_ok 1 rfl ?_
                        refine OJ.nil ?_
                        exact EJ.meet (F' := [(1, .pointer (some ⟨b1, 0, none⟩)), (3, .int .i64 (a0.Names.length : Int)), (4, .int .i64 y3), (27, .slice Aa0_0 a0.Names.length ca0_0), (28, .int .i64 (a0.Names.length : Int)), (29, .int .i64 y3), (70, .bool t13)]) ⟨rfl, rfl, rfl, rfl, rfl, rfl, rfl, trivial⟩ ⟨t13, H, rfl, hS.pick [0] [0, 1, 2] rfl⟩
              · rintro F w1 ⟨y5, he, rfl, hS⟩
                obtain rfl := Option.some.inj he
                have H := K41
                refine CJ.cond rfl (fun hb => ?_) (fun hb => ?_)
                · replace H := pif_t hb H
                  refine CJ.seq ?_
                  refine CJ.region ?_
                  refine OJ.pures tU_ok 1 rfl ?_
                  refine OJ.nil (EJ.next ?_)
                  refine CJ.ret (EJ.skR (EJ.bkR (EJ.skR (EJ.skR (EJ.bkR (EJ.skR (EJ.skR (?_))))))))
                  first | (obtain rfl := Option.some.inj H; have H := K38) | (obtain ⟨q38, H2, e38⟩ := pbind H; obtain rfl := Option.some.inj e38; obtain rfl := Option.some.inj K38; have H := H2)
                  first | (obtain rfl := Option.some.inj H; have H := K13) | (obtain ⟨q13, H2, e13⟩ := pbind H; obtain rfl := Option.some.inj e13; obtain rfl := Option.some.inj K13; have H := H2)
                  obtain rfl := Option.some.inj H
                  exact EJ.fin rfl (.tmp rfl .nil) ⟨rfl, hS.ext⟩
                · replace H := pifb_f hb H
                  refine CJ.skip (EJ.next ?_)
                  refine CJ.seq ?_
                  refine CJ.region ?_
                  refine OJ.pures tU_ok 2 rfl ?_
                  refine OJ.nil (EJ.next ?_)
                  obtain ⟨j42, H, K42⟩ := pbind H
                  refine CJ.cut1 (fun F w1 => (some (Sum.inr ()) : Option (((Bool ⊕ Unit) ⊕ Unit) ⊕ Unit)) = some j42 ∧ F = [(1, .pointer (some ⟨b1, 0, none⟩)), (3, .int .i64 (a0.Names.length : Int)), (27, .slice Aa0_0 a0.Names.length ca0_0), (28, .int .i64 (a0.Names.length : Int)), (29, .int .i64 y3)] ∧ St w no w1 [box b1 ([.slice Aa0_0 a0.Names.length ca0_0, .slice Aa0_1 a0.Eats.length ca0_1, .slice Aa0_2 a0.Foes.length ca0_2]) 28] [roC G.cs Aa0_0 ca0_0 a0.Names, roC (ci .i16) Aa0_1 ca0_1 a0.Eats, roC (ci .u16) Aa0_2 ca0_2 a0.Foes]) ?_ ?_
                  · skip
                    refine CJ.block ?_
                    refine CJ.loop (fun k F w1 => ∃ (y14 : Int), F = [(1, .pointer (some ⟨b1, 0, none⟩)), (3, .int .i64 (a0.Names.length : Int)), (4, .int .i64 y3), (27, .slice Aa0_0 a0.Names.length ca0_0), (28, .int .i64 (a0.Names.length : Int)), (29, .int .i64 y3), (71, .int .i64 y3), (72, .int .i64 y14)] ∧ St w no w1 [box b1 ([.slice Aa0_0 a0.Names.length ca0_0, .slice Aa0_1 a0.Eats.length ca0_1, .slice Aa0_2 a0.Foes.length ca0_2]) 28] [roC G.cs Aa0_0 ca0_0 a0.Names, roC (ci .i16) Aa0_1 ca0_1 a0.Eats, roC (ci .u16) Aa0_2 ca0_2 a0.Foes] ∧ impl_ValidHerd.l2 a0 y3 k y14 = some j42) k (F' := [(1, .pointer (some ⟨b1, 0, none⟩)), (3, .int .i64 (a0.Names.length : Int)), (4, .int .i64 y3), (27, .slice Aa0_0 a0.Names.length ca0_0), (28, .int .i64 (a0.Names.length : Int)), (29, .int .i64 y3), (71, .int .i64 y3), (72, .int .i64 0)]) ⟨rfl, rfl, rfl, rfl, rfl, rfl, rfl, rfl, trivial⟩ ⟨0, rfl, hS.pick [0] [0, 1, 2] rfl, H⟩ ?_
                    rintro k F w1 ⟨y14, rfl, hS, H⟩
                    cases k with
                    | zero => rw [impl_ValidHerd.l2] at H; cases H
                    | succ k =>
                      rw [impl_ValidHerd.l2] at H
                      refine CJ.seq ?_
                      refine CJ.region ?_
                      refine OJ.pures tU_ok 1 rfl ?_
                      refine OJ.nil (EJ.next ?_)
                      refine CJ.seq ?_
                      refine CJ.cond rfl (fun hb => ?_) (fun hb => ?_)
                      · replace H := pif_t (of_decide_eq_true hb) H
                        refine CJ.skip (EJ.next ?_)
                        refine CJ.seq ?_
                        refine CJ.block ?_
                        refine CJ.seq ?_
                        refine CJ.region ?_
                        refine OJ.pures tU_ok 2 rfl ?_
                        refine OJ.nil (EJ.next ?_)
                        refine CJ.seq ?_
                        refine CJ.draw [] [0, 1, 2, 4, 5, 6, 3, 7, 8] mixed (by kernel_rfl) hS fun w1 hS => ?_
                        refine DJ.st rfl rfl rfl rfl rfl (SR.load rfl rfl (fun w' hx => ldN tU_ok tI_ok rfl rfl rfl (CA.ext (hS.cells (i := 0) rfl) hx) (ds := [.slice Aa0_0 a0.Names.length ca0_0, .slice Aa0_1 a0.Eats.length ca0_1, .slice Aa0_2 a0.Foes.length ca0_2]) rfl rfl)) ?_
                        refine DJ.pures tU_ok 2 rfl ?_
                        refine DJ.st rfl rfl rfl rfl rfl (SR.load rfl rfl (fun w' hx => ldN tU_ok tI_ok rfl rfl rfl (CA.ext (hS.cells (i := 0) rfl) hx) (ds := [.slice Aa0_0 a0.Names.length ca0_0, .slice Aa0_1 a0.Eats.length ca0_1, .slice Aa0_2 a0.Foes.length ca0_2]) rfl rfl)) ?_
                        refine DJ.pures tU_ok 2 rfl ?_
                        obtain ⟨t15, ht15, H⟩ := pbind H
                        refine DJ.callF rfl rfl rfl rfl rfl rfl rfl hb46 rfl (impl_Herd_areFoes.c _ Aa0_0 ca0_0 Aa0_1 ca0_1 Aa0_2 ca0_2 a0 (hS.rd' (i := 0) rfl) (hS.le' (i := 0) rfl) (hS.rd' (i := 1) rfl) (hS.le' (i := 1) rfl) (hS.rd' (i := 2) rfl) (hS.le' (i := 2) rfl) y3 y14 _ ht15) (by rintro v w' ⟨rfl, hs⟩; exact hs) ?_
                        rintro _ w1 ⟨rfl, hs⟩
                        replace hS := hS.grow hs
                        obtain ⟨t16, ht16, H⟩ := pbind H
                        refine DJ.callF rfl rfl rfl rfl rfl rfl rfl hb46 rfl (impl_Herd_areFoes.c _ Aa0_0 ca0_0 Aa0_1 ca0_1 Aa0_2 ca0_2 a0 (hS.rd' (i := 0) rfl) (hS.le' (i := 0) rfl) (hS.rd' (i := 1) rfl) (hS.le' (i := 1) rfl) (hS.rd' (i := 2) rfl) (hS.le' (i := 2) rfl) y14 y3 _ ht16) (by rintro v w' ⟨rfl, hs⟩; exact hs) ?_
                        rintro _ w1 ⟨rfl, hs⟩
                        replace hS := hS.grow hs
                        refine DJ.st rfl rfl rfl rfl rfl (SR.neB tU_ok rfl rfl rfl rfl) ?_
                        refine DJ.nil (EJ.next ?_)
                        refine CJ.cond rfl (fun hb => ?_) (fun hb => ?_)
                        · replace H := pif_t (of_decide_eq_true hb) H
                          refine CJ.seq ?_
                          refine CJ.region ?_
                          refine OJ.pures tU_ok 1 rfl ?_
                          refine OJ.nil (EJ.next ?_)
                          refine CJ.ret (EJ.bkR (EJ.skR (EJ.skR (EJ.bkR (EJ.skR (EJ.bkR (EJ.skR (EJ.skR (EJ.bkR (EJ.skR (EJ.skR (?_))))))))))))
                          first | (obtain rfl := Option.some.inj H; have H := K42) | (obtain ⟨q42, H2, e42⟩ := pbind H; obtain rfl := Option.some.inj e42; obtain rfl := Option.some.inj K42; have H := H2)
                          first | (obtain rfl := Option.some.inj H; have H := K38) | (obtain ⟨q38, H2, e38⟩ := pbind H; obtain rfl := Option.some.inj e38; obtain rfl := Option.some.inj K38; have H := H2)
                          first | (obtain rfl := Option.some.inj H; have H := K13) | (obtain ⟨q13, H2, e13⟩ := pbind H; obtain rfl := Option.some.inj e13; obtain rfl := Option.some.inj K13; have H := H2)
                          obtain rfl := Option.some.inj H
                          exact EJ.fin rfl (.tmp rfl .nil) ⟨rfl, hS.ext⟩
                        · replace H := pif_f (of_decide_eq_false hb) H
                          refine CJ.skip (EJ.blk (EJ.next ?_))
                          refine CJ.region ?_
                          refine OJ.pures tU_ok 2 rfl ?_
                          refine OJ.nil ?_
                          exact EJ.round k (F' := [(1, .pointer (some ⟨b1, 0, none⟩)), (3, .int .i64 (a0.Names.length : Int)), (4, .int .i64 y3), (27, .slice Aa0_0 a0.Names.length ca0_0), (28, .int .i64 (a0.Names.length : Int)), (29, .int .i64 y3), (71, .int .i64 y3), (72, .int .i64 (IntKind.i64.wrap (y14 + 1)))]) ⟨rfl, rfl, rfl, rfl, rfl, rfl, rfl, rfl, trivial⟩ (Nat.lt_succ_self _) ⟨(IntKind.i64.wrap (y14 + 1)), rfl, hS.pick [0] [0, 1, 2] rfl, H⟩
                      · replace H := pif_f (of_decide_eq_false hb) H
                        refine CJ.exit (EJ.skE (EJ.skE (EJ.hit (?_))))
                        exact EJ.meet (F' := [(1, .pointer (some ⟨b1, 0, none⟩)), (3, .int .i64 (a0.Names.length : Int)), (27, .slice Aa0_0 a0.Names.length ca0_0), (28, .int .i64 (a0.Names.length : Int)), (29, .int .i64 y3)]) ⟨rfl, rfl, rfl, rfl, rfl, trivial⟩ ⟨H, rfl, hS.pick [0] [0, 1, 2] rfl⟩
                  · rintro F w1 ⟨he, rfl, hS⟩
                    obtain rfl := Option.some.inj he
                    have H := K42
                    refine EJ.blk (?_)
                    exact EJ.meet (F' := [(1, .pointer (some ⟨b1, 0, none⟩)), (3, .int .i64 (a0.Names.length : Int)), (27, .slice Aa0_0 a0.Names.length ca0_0), (28, .int .i64 (a0.Names.length : Int)), (29, .int .i64 y3)]) ⟨rfl, rfl, rfl, rfl, rfl, trivial⟩ ⟨H, rfl, hS.pick [0] [0, 1, 2] rfl⟩
            · rintro F w1 ⟨he, rfl, hS⟩
              obtain rfl := Option.some.inj he
              have H := K38
              refine CJ.region ?_
              refine OJ.pures tU_ok 2 rfl ?_
              refine OJ.nil ?_
              exact EJ.round k (F' := [(1, .pointer (some ⟨b1, 0, none⟩)), (3, .int .i64 (a0.Names.length : Int)), (27, .slice Aa0_0 a0.Names.length ca0_0), (28, .int .i64 (a0.Names.length : Int)), (29, .int .i64 (IntKind.i64.wrap (y3 + 1)))]) ⟨rfl, rfl, rfl, rfl, rfl, trivial⟩ (Nat.lt_succ_self _) ⟨(IntKind.i64.wrap (y3 + 1)), rfl, hS.pick [0] [0, 1, 2] rfl, H⟩
          · replace H := pif_f (of_decide_eq_false hb) H
            refine CJ.exit (EJ.skE (EJ.skE (EJ.hit (?_))))
            exact EJ.meet (F' := []) trivial ⟨H, rfl, hS.pick [] [0, 1, 2] rfl⟩
      · rintro F w1 ⟨he, rfl, hS⟩
        obtain rfl := Option.some.inj he
        have H := K13
        refine EJ.next ?_
        refine CJ.seq ?_
        refine CJ.region ?_
        refine OJ.pures tU_ok 1 rfl ?_
        refine OJ.nil (EJ.next ?_)
        refine CJ.ret (?_)
        obtain rfl := Option.some.inj H
        exact EJ.fin rfl (.tmp rfl .nil) ⟨rfl, hS.ext⟩

def impl_listed.l1 (a0 : Int) : Nat → (List Int) → Int → Option (List Int)
  | 0, _, _ => none
  | k + 1, y5, y8 => if y8 < 16 then ((chk (0 ≤ y8)).bind fun u9 => if (andI .u16 (shrI .u16 a0 y8) 1) = 1 then ((chk (y5.length + ([y8] : List Int).length ≤ 4294967296)).bind fun u11 => impl_listed.l1 a0 k (y5 ++ ([y8] : List Int)) (IntKind.i64.wrap (y8 + 1))) else (impl_listed.l1 a0 k y5 (IntKind.i64.wrap (y8 + 1)))) else (some y5)
def impl_listed.f (k : Nat) (a0 : Int) : Option (List Int) := (impl_listed.l1 a0 k ([] : List Int) 0).bind fun y2 => some y2
theorem impl_listed.c (k : Nat) (w : World) (a0 : Int) (r : List Int) (H : impl_listed.f k a0 = some r) :
    CV Tryz.prog 37 [.int .u16 a0].toArray w fun v w' => ∃ (A0 : Option Addr) (c0 : Nat), v = .slice A0 r.length c0 ∧ St w no w' [rowC (ci .i64) A0 c0 2 r] [] := by
  have hS := (St.init w no)
  unfold impl_listed.f at H
  refine CV.body Tryz.func37 rfl Tryz.ntmps37 rfl ?_
  refine CJ.seq ?_
  refine CJ.region ?_
  refine OJ.pures tU_ok 1 rfl ?_
  refine OJ.nil (EJ.next ?_)
  refine CJ.seq ?_
  refine CJ.region ?_
  refine OJ.ef rfl rfl rfl (Ef.lit tU_ok tI_ok hS (C := (ci .i64)) rfl rfl rfl rfl rfl rfl ([] : List Int) rfl rfl rfl rfl) ?_
  rintro _ w1 ⟨A1, rfl, hS⟩
  refine OJ.pures tU_ok 1 rfl ?_
  refine OJ.nil (EJ.next ?_)
  refine CJ.seq ?_
  refine CJ.seq ?_
  refine CJ.region ?_
  refine OJ.pures tU_ok 1 rfl ?_
  refine OJ.nil (EJ.next ?_)
  obtain ⟨j45, H, K45⟩ := pbind H
  refine CJ.cut1 (fun F w1 => ∃ (y2 : List Int) (A3 : Option Addr) (c4 : Nat), (some y2 : Option (List Int)) = some j45 ∧ F = [(3, .slice A3 y2.length c4)] ∧ St w no w1 [rowC (ci .i64) A3 c4 2 y2] []) ?_ ?_
  · skip
    refine CJ.block ?_
    refine CJ.loop (fun k F w1 => ∃ (y5 : List Int) (y8 : Int) (A6 : Option Addr) (c7 : Nat), F = [(0, .int .u16 a0), (3, .slice A6 y5.length c7), (6, .int .i64 y8)] ∧ St w no w1 [rowC (ci .i64) A6 c7 2 y5] [] ∧ impl_listed.l1 a0 k y5 y8 = some j45) k (F' := [(0, .int .u16 a0), (3, .slice A1 ([] : List Int).length (([] : List Int).length)), (6, .int .i64 0)]) ⟨rfl, rfl, rfl, trivial⟩ ⟨([] : List Int), 0, A1, (([] : List Int).length), rfl, hS.pick [0] [] rfl, H⟩ ?_
    rintro k F w1 ⟨y5, y8, A6, c7, rfl, hS, H⟩
    cases k with
    | zero => rw [impl_listed.l1] at H; cases H
    | succ k =>
      rw [impl_listed.l1] at H
      refine CJ.seq ?_
      refine CJ.region ?_
      refine OJ.pures tU_ok 1 rfl ?_
      refine OJ.nil (EJ.next ?_)
      refine CJ.seq ?_
      refine CJ.cond rfl (fun hb => ?_) (fun hb => ?_)
      · replace H := pif_t (of_decide_eq_true hb) H
        refine CJ.skip (EJ.next ?_)
        refine CJ.seq ?_
        refine CJ.block ?_
        refine CJ.seq ?_
        refine CJ.region ?_
        refine OJ.pures tU_ok 2 rfl ?_
        refine OJ.nil (EJ.next ?_)
        refine CJ.seq ?_
        refine CJ.region ?_
        refine OJ.pures tU_ok 2 rfl ?_
        obtain ⟨u9, hu9, H⟩ := pbind H
        refine OJ.st rfl rfl rfl (SR.shr rfl rfl rfl (chk_some hu9)) ?_
        refine OJ.pures tU_ok 2 rfl ?_
        refine OJ.nil (EJ.next ?_)
        refine CJ.cond rfl (fun hb => ?_) (fun hb => ?_)
        · replace H := pif_t (of_decide_eq_true hb) H
          refine CJ.region ?_
          refine OJ.pures tU_ok 2 rfl ?_
          refine OJ.ef rfl rfl rfl (Ef.lit tU_ok tI_ok hS (C := (ci .i64)) rfl rfl rfl rfl rfl rfl ([y8] : List Int) rfl rfl rfl rfl) ?_
          rintro _ w1 ⟨A10, rfl, hS⟩
          obtain ⟨u11, hu11, H⟩ := pbind H
          refine OJ.ew rfl rfl rfl (Ew.append tU_ok tI_ok (C := (ci .i64)) (xs := y5) (ys := ([y8] : List Int)) hS (i := 0) rfl rfl rfl rfl rfl rfl rfl rfl rfl rfl rfl rfl rfl (hS.rd (i := 1) rfl) (chk_some hu11)) ?_
          rintro _ w1 ⟨A12, c13, rfl, hS⟩
          refine OJ.pures tU_ok 1 rfl ?_
          refine OJ.nil (EJ.blk (EJ.next ?_))
          refine CJ.region ?_
          refine OJ.pures tU_ok 2 rfl ?_
          refine OJ.nil ?_
          exact EJ.round k (F' := [(0, .int .u16 a0), (3, .slice A12 (y5 ++ ([y8] : List Int)).length c13), (6, .int .i64 (IntKind.i64.wrap (y8 + 1)))]) ⟨rfl, rfl, rfl, trivial⟩ (Nat.lt_succ_self _) ⟨(y5 ++ ([y8] : List Int)), (IntKind.i64.wrap (y8 + 1)), A12, c13, rfl, hS.pick [0] [] rfl, H⟩
        · replace H := pif_f (of_decide_eq_false hb) H
          refine CJ.skip (EJ.blk (EJ.next ?_))
          refine CJ.region ?_
          refine OJ.pures tU_ok 2 rfl ?_
          refine OJ.nil ?_
          exact EJ.round k (F' := [(0, .int .u16 a0), (3, .slice A6 y5.length c7), (6, .int .i64 (IntKind.i64.wrap (y8 + 1)))]) ⟨rfl, rfl, rfl, trivial⟩ (Nat.lt_succ_self _) ⟨y5, (IntKind.i64.wrap (y8 + 1)), A6, c7, rfl, hS.pick [0] [] rfl, H⟩
      · replace H := pif_f (of_decide_eq_false hb) H
        refine CJ.exit (EJ.skE (EJ.skE (EJ.hit (?_))))
        exact EJ.meet (F' := [(3, .slice A6 y5.length c7)]) ⟨rfl, trivial⟩ ⟨y5, A6, c7, H, rfl, hS.pick [0] [] rfl⟩
  · rintro F w1 ⟨y2, A3, c4, he, rfl, hS⟩
    obtain rfl := Option.some.inj he
    have H := K45
    refine EJ.next ?_
    refine CJ.seq ?_
    refine CJ.region ?_
    refine OJ.pures tU_ok 2 rfl ?_
    refine OJ.nil (EJ.next ?_)
    refine CJ.ret (?_)
    obtain rfl := Option.some.inj H
    exact EJ.fin rfl (.tmp rfl .nil) ⟨A3, c4, rfl, hS.pick [0] [] rfl⟩

def slices_IndexFunc_int64_int64.l1 (a0 : List Int) (a1 : Int → Option Bool) : Nat → Int → Option (Int ⊕ Unit)
  | 0, _ => none
  | k + 1, y1 => if y1 < (a0.length : Int) then ((getI a0 y1).bind fun t2 => (a1 t2).bind fun t3 => if t3 = true then (some (Sum.inl y1)) else (slices_IndexFunc_int64_int64.l1 a0 a1 k (IntKind.i64.wrap (y1 + 1)))) else (some (Sum.inr ()))
def slices_IndexFunc_int64_int64.f (k : Nat) (a0 : List Int) (a1 : Int → Option Bool) : Option Int := (slices_IndexFunc_int64_int64.l1 a0 a1 k 0).bind fun s46 => match s46 with | .inl r => some r | .inr _ => some (-1)
theorem slices_IndexFunc_int64_int64.c (k : Nat) (w : World) (Aa0 : Option Addr) (ca0 : Nat) (a0 : List Int) (hr0 : Rd (ci .i64) w Aa0 a0) (hc0 : a0.length ≤ ca0) (na1 : Nat) (fsa1 capa1 : Array Value) (hb1 : hasBody Tryz.prog na1) (a1 : Int → Option Bool) (hf1 : ∀ (z0 : Int) (r : Bool), a1 z0 = some r → ∀ w', Chg no w w' → CV Tryz.prog na1 (fsa1 ++ [.int .i64 z0].toArray ++ capa1) w' fun v w'' => v = .bool r ∧ Ext w' w'') (r : Int) (H : slices_IndexFunc_int64_int64.f k a0 a1 = some r) :
    CV Tryz.prog 72 [.slice Aa0 a0.length ca0, .func (.func na1) fsa1 capa1].toArray w fun v w' => v = .int .i64 r ∧ Ext w w' := by
  have hS := ((St.init w no).param (ci .i64) Aa0 ca0 a0 hr0 hc0)
  unfold slices_IndexFunc_int64_int64.f at H
  refine CV.body Tryz.func72 rfl Tryz.ntmps72 rfl ?_
  refine CJ.seq ?_
  refine CJ.region ?_
  refine OJ.pures tU_ok 1 rfl ?_
  refine OJ.nil (EJ.next ?_)
  refine CJ.seq ?_
  refine CJ.seq ?_
  refine CJ.region ?_
  refine OJ.pures tU_ok 3 rfl ?_
  refine OJ.nil (EJ.next ?_)
  obtain ⟨j46, H, K46⟩ := pbind H
  refine CJ.cut1 (fun F w1 => (some (Sum.inr ()) : Option (Int ⊕ Unit)) = some j46 ∧ F = [] ∧ St w no w1 [] [roC (ci .i64) Aa0 ca0 a0]) ?_ ?_
  · skip
    refine CJ.block ?_
    refine CJ.loop (fun k F w1 => ∃ (y1 : Int), F = [(0, .slice Aa0 a0.length ca0), (1, .func (.func na1) fsa1 capa1), (7, .int .i64 (a0.length : Int)), (8, .int .i64 y1)] ∧ St w no w1 [] [roC (ci .i64) Aa0 ca0 a0] ∧ slices_IndexFunc_int64_int64.l1 a0 a1 k y1 = some j46) k (F' := [(0, .slice Aa0 a0.length ca0), (1, .func (.func na1) fsa1 capa1), (7, .int .i64 (a0.length : Int)), (8, .int .i64 0)]) ⟨rfl, rfl, rfl, rfl, trivial⟩ ⟨0, rfl, hS.pick [] [0] rfl, H⟩ ?_
    rintro k F w1 ⟨y1, rfl, hS, H⟩
    cases k with
    | zero => rw [slices_IndexFunc_int64_int64.l1] at H; cases H
    | succ k =>
      rw [slices_IndexFunc_int64_int64.l1] at H
      refine CJ.seq ?_
      refine CJ.region ?_
      refine OJ.pures tU_ok 1 rfl ?_
      refine OJ.nil (EJ.next ?_)
      refine CJ.seq ?_
      refine CJ.cond rfl (fun hb => ?_) (fun hb => ?_)
      · replace H := pif_t (of_decide_eq_true hb) H
        refine CJ.skip (EJ.next ?_)
        refine CJ.seq ?_
        refine CJ.block ?_
        refine CJ.seq ?_
        refine CJ.region ?_
        refine OJ.pures tU_ok 2 rfl ?_
        refine OJ.nil (EJ.next ?_)
        refine CJ.seq ?_
        refine CJ.region ?_
        refine OJ.pures tU_ok 3 rfl ?_
        obtain ⟨t2, ht2, H⟩ := pbind H
        obtain ⟨ad2, e2⟩ := (hS.rd' (i := 0) rfl).some' ht2
        refine OJ.st rfl rfl rfl (SR.idxS tU_ok tI_ok rfl rfl rfl rfl e2 rfl (getI_some ht2).1) ?_
        refine OJ.st rfl rfl rfl (SR.load rfl rfl (fun w' hx => ld1 tU_ok rfl rfl (CA.ext ((hS.rd' (i := 0) rfl).at_ e2 ht2) hx) rfl)) ?_
        obtain ⟨t3, ht3, H⟩ := pbind H
        refine OJ.call rfl rfl (Nat.le_of_ble_eq_true rfl) rfl rfl rfl hb1 rfl (hf1 t2 _ ht3 _ hS.chg) ?_
        rintro _ w1 ⟨rfl, hs⟩
        replace hS := hS.grow hs
        refine OJ.nil (EJ.next ?_)
        refine CJ.cond rfl (fun hb => ?_) (fun hb => ?_)
        · replace H := pif_t hb H
          refine CJ.seq ?_
          refine CJ.region ?_
          refine OJ.pures tU_ok 2 rfl ?_
          refine OJ.nil (EJ.next ?_)
          refine CJ.ret (EJ.bkR (EJ.skR (EJ.skR (EJ.bkR (EJ.skR (EJ.skR (?_)))))))
          first | (obtain rfl := Option.some.inj H; have H := K46) | (obtain ⟨q46, H2, e46⟩ := pbind H; obtain rfl := Option.some.inj e46; obtain rfl := Option.some.inj K46; have H := H2)
          obtain rfl := Option.some.inj H
          exact EJ.fin rfl (.tmp rfl .nil) ⟨rfl, hS.ext⟩
        · replace H := pifb_f hb H
          refine CJ.skip (EJ.blk (EJ.next ?_))
          refine CJ.region ?_
          refine OJ.pures tU_ok 2 rfl ?_
          refine OJ.nil ?_
          exact EJ.round k (F' := [(0, .slice Aa0 a0.length ca0), (1, .func (.func na1) fsa1 capa1), (7, .int .i64 (a0.length : Int)), (8, .int .i64 (IntKind.i64.wrap (y1 + 1)))]) ⟨rfl, rfl, rfl, rfl, trivial⟩ (Nat.lt_succ_self _) ⟨(IntKind.i64.wrap (y1 + 1)), rfl, hS.pick [] [0] rfl, H⟩
      · replace H := pif_f (of_decide_eq_false hb) H
        refine CJ.exit (EJ.skE (EJ.skE (EJ.hit (?_))))
        exact EJ.meet (F' := []) trivial ⟨H, rfl, hS.pick [] [0] rfl⟩
  · rintro F w1 ⟨he, rfl, hS⟩
    obtain rfl := Option.some.inj he
    have H := K46
    refine EJ.next ?_
    refine CJ.seq ?_
    refine CJ.region ?_
    refine OJ.pures tU_ok 1 rfl ?_
    refine OJ.nil (EJ.next ?_)
    refine CJ.ret (?_)
    obtain rfl := Option.some.inj H
    exact EJ.fin rfl (.tmp rfl .nil) ⟨rfl, hS.ext⟩

def slices_ContainsFunc_int64_int64.f (k : Nat) (a0 : List Int) (a1 : Int → Option Bool) : Option Bool := (slices_IndexFunc_int64_int64.f k a0 a1).bind fun t1 => some (decide (0 ≤ t1))
theorem slices_ContainsFunc_int64_int64.c (k : Nat) (w : World) (Aa0 : Option Addr) (ca0 : Nat) (a0 : List Int) (hr0 : Rd (ci .i64) w Aa0 a0) (hc0 : a0.length ≤ ca0) (na1 : Nat) (fsa1 capa1 : Array Value) (hb1 : hasBody Tryz.prog na1) (a1 : Int → Option Bool) (hf1 : ∀ (z0 : Int) (r : Bool), a1 z0 = some r → ∀ w', Chg no w w' → CV Tryz.prog na1 (fsa1 ++ [.int .i64 z0].toArray ++ capa1) w' fun v w'' => v = .bool r ∧ Ext w' w'') (r : Bool) (H : slices_ContainsFunc_int64_int64.f k a0 a1 = some r) :
    CV Tryz.prog 36 [.slice Aa0 a0.length ca0, .func (.func na1) fsa1 capa1].toArray w fun v w' => v = .bool r ∧ Ext w w' := by
  have hS := ((St.init w no).param (ci .i64) Aa0 ca0 a0 hr0 hc0)
  unfold slices_ContainsFunc_int64_int64.f at H
  refine CV.body Tryz.func36 rfl Tryz.ntmps36 rfl ?_
  refine CJ.seq ?_
  refine CJ.region ?_
  refine OJ.pures tU_ok 1 rfl ?_
  refine OJ.nil (EJ.next ?_)
  refine CJ.seq ?_
  refine CJ.region ?_
  refine OJ.pures tU_ok 2 rfl ?_
  obtain ⟨t1, ht1, H⟩ := pbind H
  refine OJ.callF rfl rfl rfl rfl rfl hb72 rfl (slices_IndexFunc_int64_int64.c k _ Aa0 ca0 a0 (hS.rd' (i := 0) rfl) (hS.le' (i := 0) rfl) na1 fsa1 capa1 hb1 a1 (fun z0 r h w' hx => hf1 z0 r h w' (hS.chg.then hx (fun _ _ e => e.elim))) _ ht1) ?_
  rintro _ w1 ⟨rfl, hs⟩
  replace hS := hS.grow hs
  refine OJ.pures tU_ok 2 rfl ?_
  refine OJ.nil (EJ.next ?_)
  refine CJ.ret (?_)
  obtain rfl := Option.some.inj H
  exact EJ.fin rfl (.tmp rfl .nil) ⟨rfl, hS.ext⟩

def impl_Herd_group_1.f (a1 : List Int) (a2 : Int) (a0 : Int) : Option Bool := (getI a1 a0).bind fun t1 => some (decide (t1 = a2))
theorem impl_Herd_group_1.c (w : World) (Aa1 : Option Addr) (ca1 : Nat) (a1 : List Int) (hr1 : Rd (ci .i64) w Aa1 a1) (hc1 : a1.length ≤ ca1) (pa1 : Addr) (hp1 : CA w pa1 [.slice Aa1 a1.length ca1]) (pa2 : Addr) (a2 : Int) (hp2 : CA w pa2 ((ci .i64).enc a2)) (a0 : Int) (r : Bool) (H : impl_Herd_group_1.f a1 a2 a0 = some r) :
    CV Tryz.prog 61 [.int .i64 a0, .pointer (some pa1), .pointer (some pa2)].toArray w fun v w' => v = .bool r ∧ Ext w w' := by
  have hS := ((((St.init w no).param (ci .i64) Aa1 ca1 a1 hr1 hc1).paramP pa1 [.slice Aa1 a1.length ca1] hp1).paramP pa2 ((ci .i64).enc a2) hp2)
  unfold impl_Herd_group_1.f at H
  refine CV.body Tryz.func61 rfl Tryz.ntmps61 rfl ?_
  refine CJ.seq ?_
  refine CJ.region ?_
  refine OJ.pures tU_ok 1 rfl ?_
  refine OJ.nil (EJ.next ?_)
  refine CJ.seq ?_
  refine CJ.draw [] [0, 1, 2, 3, 4, 5, 6] mixed (by kernel_rfl) hS fun w1 hS => ?_
  refine DJ.st rfl rfl rfl rfl rfl (SR.load rfl rfl (fun w' hx => ld1 tU_ok rfl rfl (CA.ext (hS.ca (i := 1) rfl) hx) rfl)) ?_
  refine DJ.pures tU_ok 1 rfl ?_
  obtain ⟨t1, ht1, H⟩ := pbind H
  obtain ⟨ad1, e1⟩ := (hS.rd' (i := 0) rfl).some' ht1
  refine DJ.st rfl rfl rfl rfl rfl (SR.idxS tU_ok tI_ok rfl rfl rfl rfl e1 rfl (getI_some ht1).1) ?_
  refine DJ.st rfl rfl rfl rfl rfl (SR.load rfl rfl (fun w' hx => ld1 tU_ok rfl rfl (CA.ext ((hS.rd' (i := 0) rfl).at_ e1 ht1) hx) rfl)) ?_
  refine DJ.st rfl rfl rfl rfl rfl (SR.load rfl rfl (fun w' hx => ld1 tU_ok rfl rfl (CA.ext (hS.ca (i := 2) rfl) hx) rfl)) ?_
  refine DJ.pures tU_ok 2 rfl ?_
  refine DJ.nil (EJ.next ?_)
  refine CJ.ret (?_)
  obtain rfl := Option.some.inj H
  exact EJ.fin rfl (.tmp rfl .nil) ⟨rfl, hS.ext⟩

def slices_Clone_int64_int64.f (a0 : List Int) : Option (List Int) := (chk (([] : List Int).length + a0.length ≤ 4294967296)).bind fun _ => some a0
theorem slices_Clone_int64_int64.c (w : World) (A : Option Addr) (c : Nat) (a0 : List Int) (hr0 : Rd (ci .i64) w A a0) (hc0 : a0.length ≤ c) (r : List Int) (H : slices_Clone_int64_int64.f a0 = some r) :
    CV Tryz.prog 62 [.slice A a0.length c].toArray w fun v w' => ∃ (A0 : Option Addr) (c0 : Nat), v = .slice A0 r.length c0 ∧ St w no w' [rowC (ci .i64) A0 c0 2 r] [] := by
  have hS := ((St.init w no).param (ci .i64) A c a0 hr0 hc0)
  obtain ⟨u, hu, H⟩ := pbind H
  obtain rfl := Option.some.inj H
  refine CV.body Tryz.func62 rfl Tryz.ntmps62 rfl ?_
  refine CJ.seq ?_
  refine CJ.region ?_
  refine OJ.pures tU_ok 1 rfl ?_
  refine OJ.nil (EJ.next ?_)
  refine CJ.seq ?_
  refine CJ.seq ?_
  refine CJ.region ?_
  refine OJ.pures tU_ok 1 rfl ?_
  refine OJ.st rfl rfl rfl (SR.eqNil tU_ok rfl rfl rfl rfl) ?_
  refine OJ.nil (EJ.next ?_)
  refine CJ.cond rfl (fun hb => ?_) (fun hb => ?_)
  · obtain rfl := hr0.isNone hb
    refine CJ.seq ?_
    refine CJ.region ?_
    refine OJ.pures tU_ok 1 rfl ?_
    refine OJ.nil (EJ.next ?_)
    refine CJ.ret (EJ.skR ?_)
    replace hS := hS.addNil (ci .i64) 2 none
    exact EJ.fin rfl (.tmp rfl .nil) ⟨none, 0, rfl, hS.pick [0] [] rfl⟩
  · refine CJ.skip (EJ.next ?_)
    refine CJ.seq ?_
    refine CJ.region ?_
    refine OJ.ef rfl rfl rfl (Ef.lit tU_ok tI_ok hS (C := (ci .i64)) rfl rfl rfl rfl rfl rfl ([] : List Int) rfl rfl rfl rfl) ?_
    rintro _ w1 ⟨A1, rfl, hS⟩
    refine OJ.pures tU_ok 1 rfl ?_
    refine OJ.ew rfl rfl rfl (Ew.append tU_ok tI_ok (C := (ci .i64)) (xs := ([] : List Int)) (ys := a0) hS (i := 0) rfl rfl rfl rfl rfl rfl rfl rfl rfl rfl rfl rfl rfl (hS.rd' (i := 0) rfl) (chk_some hu)) ?_
    rintro _ w1 ⟨A2, c2, rfl, hS⟩
    refine OJ.pures tU_ok 1 rfl ?_
    refine OJ.nil (EJ.next ?_)
    exact CJ.ret (EJ.fin rfl (.tmp rfl .nil) ⟨A2, c2, rfl, hS.pick [0] [] rfl⟩)

def impl_Herd_group.l1 (self : Herd → Int → (List Int) → Int → Option (List Int × Bool)) (a0 : Herd) (a1 : Int) (a2 : List Int) (a3 : Int) : Nat → Int → Option ((List Int × Bool) ⊕ Unit)
  | 0, _ => none
  | k + 1, y3 => if y3 < (if a1 < (IntKind.i64.wrap (a3 + 1)) then a1 else (IntKind.i64.wrap (a3 + 1))) then ((getI a0.Foes (a2.length : Int)).bind fun t5 => (chk (0 ≤ (a2.length : Int))).bind fun u6 => (impl_listed.f k (andI .u16 t5 (IntKind.u16.wrap ((shlI .u16 1 (a2.length : Int)) - 1)))).bind fun t7 => (slices_ContainsFunc_int64_int64.f k t7 (impl_Herd_group_1.f a2 y3)).bind fun t10 => if t10 = true then (impl_Herd_group.l1 self a0 a1 a2 a3 k (IntKind.i64.wrap (y3 + 1))) else ((slices_Clone_int64_int64.f a2).bind fun t11 => (chk (t11.length + ([y3] : List Int).length ≤ 4294967296)).bind fun u15 => (self a0 a1 (t11 ++ ([y3] : List Int)) (if a3 < (IntKind.i64.wrap (y3 + 1)) then (IntKind.i64.wrap (y3 + 1)) else a3)).bind fun t18 => if t18.2 = true then (some (Sum.inl (t18.1, true))) else (impl_Herd_group.l1 self a0 a1 a2 a3 k (IntKind.i64.wrap (y3 + 1))))) else (some (Sum.inr ()))
def impl_Herd_group.f : Nat → Herd → Int → (List Int) → Int → Option (List Int × Bool)
  | 0, _, _, _, _ => none
  | k + 1, a0, a1, a2, a3 => if (a2.length : Int) = (a0.Names.length : Int) then (some (a2, true)) else ((impl_Herd_group.l1 (impl_Herd_group.f k) a0 a1 a2 a3 k 0).bind fun s47 => match s47 with | .inl r => some r | .inr _ => some ([], false))
theorem impl_Herd_group.c : ∀ (k : Nat) (w : World) (Aa0_0 : Option Addr) (ca0_0 : Nat) (Aa0_1 : Option Addr) (ca0_1 : Nat) (Aa0_2 : Option Addr) (ca0_2 : Nat) (a0 : Herd) (a1 : Int) (Aa2 : Option Addr) (ca2 : Nat) (a2 : List Int) (a3 : Int) (hin : St w (fpU [rowC (ci .i64) Aa2 ca2 2 a2]) w [rowC (ci .i64) Aa2 ca2 2 a2] [roC G.cs Aa0_0 ca0_0 a0.Names, roC (ci .i16) Aa0_1 ca0_1 a0.Eats, roC (ci .u16) Aa0_2 ca0_2 a0.Foes]) (r : List Int × Bool) (H : impl_Herd_group.f k a0 a1 a2 a3 = some r),
    CV Tryz.prog 28 [.agg [.slice Aa0_0 a0.Names.length ca0_0, .slice Aa0_1 a0.Eats.length ca0_1, .slice Aa0_2 a0.Foes.length ca0_2].toArray, .int .i64 a1, .slice Aa2 a2.length ca2, .int .i64 a3].toArray w fun v w' => ∃ (A0 : Option Addr) (c0 : Nat), v = .tuple #[.slice A0 r.1.length c0, .bool r.2] ∧ St w (fpU [rowC (ci .i64) Aa2 ca2 2 a2]) w' [rowC (ci .i64) A0 c0 2 r.1] [] := by
  intro k
  induction k
  · intro w Aa0_0 ca0_0 Aa0_1 ca0_1 Aa0_2 ca0_2 a0 a1 Aa2 ca2 a2 a3 hin r H; rw [impl_Herd_group.f] at H; cases H
  rename_i k ih
  intro w Aa0_0 ca0_0 Aa0_1 ca0_1 Aa0_2 ca0_2 a0 a1 Aa2 ca2 a2 a3 hin r H
  have hS := hin
  rw [impl_Herd_group.f] at H
  generalize impl_Herd_group.f k = self at H ih
  refine CV.body Tryz.func28 rfl Tryz.ntmps28 rfl ?_
  refine CJ.seq ?_
  refine CJ.region ?_
  refine OJ.ef rfl rfl rfl (Ef.box hS rfl rfl ([.slice Aa0_0 a0.Names.length ca0_0, .slice Aa0_1 a0.Eats.length ca0_1, .slice Aa0_2 a0.Foes.length ca0_2]) rfl) ?_
  rintro _ w1 ⟨b1, rfl, hS⟩
  refine OJ.ef rfl rfl rfl (Ef.box hS rfl rfl ([.slice Aa2 a2.length ca2]) rfl) ?_
  rintro _ w1 ⟨b2, rfl, hS⟩
  refine OJ.pures tU_ok 2 rfl ?_
  refine OJ.nil (EJ.next ?_)
  refine CJ.seq ?_
  refine CJ.region ?_
  refine OJ.st rfl rfl rfl (SR.load rfl rfl (fun w' hx => ld1 tU_ok rfl rfl (CA.ext (hS.cells (i := 2) rfl) hx) rfl)) ?_
  refine OJ.pures tU_ok 2 rfl ?_
  refine OJ.nil (EJ.next ?_)
  refine CJ.seq ?_
  refine CJ.seq ?_
  refine CJ.region ?_
  refine OJ.pures tU_ok 1 rfl ?_
  refine OJ.st rfl rfl rfl (SR.fieldAddr tU_ok tI_ok rfl rfl rfl rfl rfl rfl) ?_
  refine OJ.st rfl rfl rfl (SR.load rfl rfl (fun w' hx => ld1 tU_ok rfl rfl (CA.ext (CA.sub (hS.cells (i := 1) rfl) 0) hx) rfl)) ?_
  refine OJ.pures tU_ok 2 rfl ?_
  refine OJ.nil (EJ.next ?_)
  refine CJ.cond rfl (fun hb => ?_) (fun hb => ?_)
  · replace H := pif_t (of_decide_eq_true hb) H
    refine CJ.seq ?_
    refine CJ.region ?_
    refine OJ.st rfl rfl rfl (SR.load rfl rfl (fun w' hx => ld1 tU_ok rfl rfl (CA.ext (hS.cells (i := 2) rfl) hx) rfl)) ?_
    refine OJ.pures tU_ok 2 rfl ?_
    refine OJ.nil (EJ.next ?_)
    refine CJ.ret (EJ.skR (?_))
    obtain rfl := Option.some.inj H
    exact EJ.fin rfl (.tmp rfl (.tmp rfl .nil)) ⟨Aa2, ca2, rfl, hS.pick [0] [] rfl⟩
  · replace H := pif_f (of_decide_eq_false hb) H
    refine CJ.skip (EJ.next ?_)
    refine CJ.seq ?_
    refine CJ.seq ?_
    refine CJ.region ?_
    refine OJ.pures tU_ok 5 rfl ?_
    refine OJ.nil (EJ.next ?_)
    obtain ⟨j47, H, K47⟩ := pbind H
    refine CJ.cut1 (fun F w1 => (some (Sum.inr ()) : Option ((List Int × Bool) ⊕ Unit)) = some j47 ∧ F = [] ∧ St w (fpU [rowC (ci .i64) Aa2 ca2 2 a2]) w1 [] [roC G.cs Aa0_0 ca0_0 a0.Names, roC (ci .i16) Aa0_1 ca0_1 a0.Eats, roC (ci .u16) Aa0_2 ca0_2 a0.Foes]) ?_ ?_
    · skip
      refine CJ.block ?_
      refine CJ.loop (fun k F w1 => ∃ (y3 : Int), F = [(1, .int .i64 a1), (3, .int .i64 a3), (4, .pointer (some ⟨b1, 0, none⟩)), (6, .pointer (some ⟨b2, 0, none⟩)), (10, .int .i64 (a2.length : Int)), (25, .int .i64 (if a1 < (IntKind.i64.wrap (a3 + 1)) then a1 else (IntKind.i64.wrap (a3 + 1)))), (26, .int .i64 y3)] ∧ St w (fpU [rowC (ci .i64) Aa2 ca2 2 a2]) w1 [rowC (ci .i64) Aa2 ca2 2 a2, box b1 ([.slice Aa0_0 a0.Names.length ca0_0, .slice Aa0_1 a0.Eats.length ca0_1, .slice Aa0_2 a0.Foes.length ca0_2]) 28, box b2 ([.slice Aa2 a2.length ca2]) 30] [roC G.cs Aa0_0 ca0_0 a0.Names, roC (ci .i16) Aa0_1 ca0_1 a0.Eats, roC (ci .u16) Aa0_2 ca0_2 a0.Foes] ∧ impl_Herd_group.l1 self a0 a1 a2 a3 k y3 = some j47) k (F' := [(1, .int .i64 a1), (3, .int .i64 a3), (4, .pointer (some ⟨b1, 0, none⟩)), (6, .pointer (some ⟨b2, 0, none⟩)), (10, .int .i64 (a2.length : Int)), (25, .int .i64 (if a1 < (IntKind.i64.wrap (a3 + 1)) then a1 else (IntKind.i64.wrap (a3 + 1)))), (26, .int .i64 0)]) ⟨rfl, rfl, rfl, rfl, rfl, rfl, rfl, trivial⟩ ⟨0, rfl, hS.pick [0, 1, 2] [0, 1, 2] rfl, H⟩ ?_
      rintro k F w1 ⟨y3, rfl, hS, H⟩
      cases k with
      | zero => rw [impl_Herd_group.l1] at H; cases H
      | succ k =>
        rw [impl_Herd_group.l1] at H
        refine CJ.seq ?_
        refine CJ.region ?_
        refine OJ.pures tU_ok 1 rfl ?_
        refine OJ.nil (EJ.next ?_)
        refine CJ.seq ?_
        refine CJ.cond rfl (fun hb => ?_) (fun hb => ?_)
        · replace H := pif_t (of_decide_eq_true hb) H
          refine CJ.skip (EJ.next ?_)
          refine CJ.seq ?_
          refine CJ.block ?_
          refine CJ.seq ?_
          refine CJ.region ?_
          refine OJ.pures tU_ok 1 rfl ?_
          refine OJ.ef rfl rfl rfl (Ef.alloc hS tI_ok rfl rfl ((ci .i64).enc 0) rfl) ?_
          rintro _ w1 ⟨b4, rfl, hS⟩
          refine OJ.es rfl rfl (Es.store tI_ok hS (i := 3) rfl rfl rfl rfl rfl rfl (vs := (ci .i64).enc y3) rfl rfl (one1 rfl) (Nat.le_of_ble_eq_true rfl) ((ci .i64).enc y3) rfl) ?_
          intro w1 hS
          refine OJ.nil (EJ.next ?_)
          refine CJ.seq ?_
          refine CJ.seq ?_
          refine CJ.draw [] [0, 1, 2, 3, 4, 5, 6, 7, 8, 10, 9, 11] mixed (by kernel_rfl) hS fun w1 hS => ?_
          refine DJ.st rfl rfl rfl rfl rfl (SR.fieldAddr tU_ok tI_ok rfl rfl rfl rfl rfl rfl) ?_
          refine DJ.st rfl rfl rfl rfl rfl (SR.load rfl rfl (fun w' hx => ld1 tU_ok rfl rfl (CA.ext (CA.sub (hS.cells (i := 1) rfl) 2) hx) rfl)) ?_
          refine DJ.pures tU_ok 1 rfl ?_
          obtain ⟨t5, ht5, H⟩ := pbind H
          obtain ⟨ad5, e5⟩ := (hS.rd' (i := 2) rfl).some' ht5
          refine DJ.st rfl rfl rfl rfl rfl (SR.idxS tU_ok tI_ok rfl rfl rfl rfl e5 rfl (getI_some ht5).1) ?_
          refine DJ.st rfl rfl rfl rfl rfl (SR.load rfl rfl (fun w' hx => ld1 tU_ok rfl rfl (CA.ext ((hS.rd' (i := 2) rfl).at_ e5 ht5) hx) rfl)) ?_
          refine DJ.pures tU_ok 1 rfl ?_
          obtain ⟨u6, hu6, H⟩ := pbind H
          refine DJ.st rfl rfl rfl rfl rfl (SR.shl rfl rfl rfl (chk_some hu6)) ?_
          refine DJ.pures tU_ok 3 rfl ?_
          obtain ⟨t7, ht7, H⟩ := pbind H
          refine DJ.callF rfl rfl rfl rfl rfl rfl rfl hb37 rfl (impl_listed.c k _ (andI .u16 t5 (IntKind.u16.wrap ((shlI .u16 1 (a2.length : Int)) - 1))) _ ht7) (by rintro v w' ⟨A8, c9, rfl, hs⟩; exact hs.ext) ?_
          rintro _ w1 ⟨A8, c9, rfl, hs⟩
          replace hS := hS.addN hs
          obtain ⟨t10, ht10, H⟩ := pbind H
          refine DJ.callF rfl rfl rfl rfl rfl rfl rfl hb36 rfl (slices_ContainsFunc_int64_int64.c k _ A8 c9 t7 (hS.rd (i := 4) rfl) (hS.le (i := 4) rfl) 61 #[] #[.pointer (some ⟨b2, 0, none⟩), .pointer (some ⟨b4, 0, none⟩)] hb61 (impl_Herd_group_1.f a2 y3) (fun z0 r h w' hx => CV.cast (impl_Herd_group_1.c w' Aa2 ca2 a2 ((hS.rd (i := 0) rfl).ext hx) (hS.le (i := 0) rfl) ⟨b2, 0, none⟩ (CA.ext (hS.cells (i := 2) rfl) hx) ⟨b4, 0, none⟩ y3 (CA.ext (hS.cells (i := 3) rfl) hx)  z0 r h) (by simp)) _ ht10) (by rintro v w' ⟨rfl, hs⟩; exact hs) ?_
          rintro _ w1 ⟨rfl, hs⟩
          replace hS := hS.grow hs
          refine DJ.nil (EJ.next ?_)
          refine CJ.cond rfl (fun hb => ?_) (fun hb => ?_)
          · replace H := pif_t hb H
            refine CJ.exit (EJ.skE (EJ.hit (EJ.next ?_)))
            refine CJ.region ?_
            refine OJ.pures tU_ok 2 rfl ?_
            refine OJ.nil ?_
            exact EJ.round k (F' := [(1, .int .i64 a1), (3, .int .i64 a3), (4, .pointer (some ⟨b1, 0, none⟩)), (6, .pointer (some ⟨b2, 0, none⟩)), (10, .int .i64 (a2.length : Int)), (25, .int .i64 (if a1 < (IntKind.i64.wrap (a3 + 1)) then a1 else (IntKind.i64.wrap (a3 + 1)))), (26, .int .i64 (IntKind.i64.wrap (y3 + 1)))]) ⟨rfl, rfl, rfl, rfl, rfl, rfl, rfl, trivial⟩ (Nat.lt_succ_self _) ⟨(IntKind.i64.wrap (y3 + 1)), rfl, hS.pick [0, 1, 2] [0, 1, 2] rfl, H⟩
          · replace H := pifb_f hb H
            refine CJ.skip (EJ.next ?_)
            refine CJ.seq ?_
            obtain ⟨t11, ht11, H⟩ := pbind H
            obtain ⟨u15, hu15, H⟩ := pbind H
            obtain ⟨t18, ht18, H⟩ := pbind H
            refine CJ.cut1 (fun F w1 => ∃ (A14 : Option Addr) (A19 : Option Addr) (c20 : Nat), F = [(1, .int .i64 a1), (3, .int .i64 a3), (4, .pointer (some ⟨b1, 0, none⟩)), (6, .pointer (some ⟨b2, 0, none⟩)), (10, .int .i64 (a2.length : Int)), (12, .slice A19 t18.1.length c20), (13, .bool t18.2), (25, .int .i64 (if a1 < (IntKind.i64.wrap (a3 + 1)) then a1 else (IntKind.i64.wrap (a3 + 1)))), (26, .int .i64 y3)] ∧ St w (fpU [rowC (ci .i64) Aa2 ca2 2 a2]) w1 [rowC (ci .i64) Aa2 ca2 2 a2, box b1 ([.slice Aa0_0 a0.Names.length ca0_0, .slice Aa0_1 a0.Eats.length ca0_1, .slice Aa0_2 a0.Foes.length ca0_2]) 28, box b2 ([.slice Aa2 a2.length ca2]) 30, box b4 ((ci .i64).enc y3) 2, rowC (ci .i64) A8 c9 2 t7, rowC (ci .i64) A14 (([y3] : List Int).length) 2 ([y3] : List Int), rowC (ci .i64) A19 c20 2 t18.1] [roC G.cs Aa0_0 ca0_0 a0.Names, roC (ci .i16) Aa0_1 ca0_1 a0.Eats, roC (ci .u16) Aa0_2 ca0_2 a0.Foes]) ?_ ?_
            · skip
              refine CJ.drawT [] [3, 5, 6, 11] (.one 0 (.one 1 (.one 2 (.one 4 (.one 7 (.one 8 (.one 9 (.one 10 (.br (.alt 3 (.one 5 (.one 6 (.one 11 (.one 12 (.one 13 (.one 14 (.one 15 (.one 16 (.fin))))))))) (.alt 5 (.one 3 (.one 6 (.one 11 (.one 12 (.one 13 (.one 14 (.one 15 (.one 16 (.fin))))))))) (.stop)))))))))))) mixed (by kernel_rfl) hS [1, 2, 3] fun w1 hS hY hV => ?_
              refine TJ.st hY rfl rfl rfl rfl rfl (fun w2 hY => SR.load rfl rfl (fun w' hx => ldN tU_ok tI_ok rfl rfl rfl (CA.ext ((hV w2 hY).cellsR (i := 3) rfl) hx) (ds := [.slice Aa0_0 a0.Names.length ca0_0, .slice Aa0_1 a0.Eats.length ca0_1, .slice Aa0_2 a0.Foes.length ca0_2]) rfl rfl)) ?_
              refine TJ.pures tU_ok 1 rfl ?_
              refine TJ.st hY rfl rfl rfl rfl rfl (fun w2 hY => SR.load rfl rfl (fun w' hx => ld1 tU_ok rfl rfl (CA.ext ((hV w2 hY).cellsR (i := 4) rfl) hx) rfl)) ?_
              refine TJ.st hY rfl rfl rfl rfl rfl (fun w2 hY => SR.load rfl rfl (fun w' hx => ld1 tU_ok rfl rfl (CA.ext ((hV w2 hY).cellsR (i := 5) rfl) hx) rfl)) ?_
              refine TJ.pures tU_ok 1 rfl ?_
              refine TJ.st hY rfl rfl rfl rfl rfl (fun w2 hY => SR.load rfl rfl (fun w' hx => ld1 tU_ok rfl rfl (CA.ext ((hV w2 hY).cellsR (i := 5) rfl) hx) rfl)) ?_
              refine TJ.pures tU_ok 2 rfl ?_
              refine TJ.br ?_
              refine TJ.alt ?_ ?_
              · skip
                refine TJ.callF hY rfl rfl rfl rfl rfl rfl rfl hb62 rfl (slices_Clone_int64_int64.c _ Aa2 ca2 a2 (hS.rd (i := 0) rfl) (hS.le (i := 0) rfl) _ ht11) (by rintro v w' ⟨A21, c22, rfl, hs⟩; exact hs.ext) ?_
                rintro _ w1 hY ⟨A21, c22, rfl, hs⟩
                replace hS := hS.addN hs
                have hS : St w (fpU [rowC (ci .i64) Aa2 ca2 2 a2]) w1 [rowC (ci .i64) Aa2 ca2 2 a2, box b1 ([.slice Aa0_0 a0.Names.length ca0_0, .slice Aa0_1 a0.Eats.length ca0_1, .slice Aa0_2 a0.Foes.length ca0_2]) 28, box b2 ([.slice Aa2 a2.length ca2]) 30, box b4 ((ci .i64).enc y3) 2, rowC (ci .i64) A8 c9 2 t7, rowC (ci .i64) A21 c22 2 t11] [roC G.cs Aa0_0 ca0_0 a0.Names, roC (ci .i16) Aa0_1 ca0_1 a0.Eats, roC (ci .u16) Aa0_2 ca0_2 a0.Foes] := hS
                refine TJ.ef hY rfl rfl rfl rfl rfl (Ef.lit tU_ok tI_ok hS (C := (ci .i64)) rfl rfl rfl rfl rfl rfl ([y3] : List Int) rfl rfl rfl rfl) ?_
                rintro _ w1 hY ⟨A23, rfl, hS⟩
                have hO := hS
                refine TJ.ew rfl rfl rfl rfl rfl (Ew.append tU_ok tI_ok (C := (ci .i64)) (xs := t11) (ys := ([y3] : List Int)) (hS.inn [1, 2, 3]) (i := 5) rfl rfl rfl rfl rfl rfl rfl rfl rfl rfl rfl rfl rfl (hS.rd (i := 6) rfl) (chk_some hu15)) (by rintro _ w1 ⟨A24, c25, rfl, hS⟩; exact hY.wr (hO.inY [1, 2, 3] 3 rfl rfl) hS.chg) ?_
                rintro _ w1 hY ⟨A24, c25, rfl, hS⟩
                have hS : St w (fpU [rowC (ci .i64) Aa2 ca2 2 a2]) w1 [rowC (ci .i64) Aa2 ca2 2 a2, box b1 ([.slice Aa0_0 a0.Names.length ca0_0, .slice Aa0_1 a0.Eats.length ca0_1, .slice Aa0_2 a0.Foes.length ca0_2]) 28, box b2 ([.slice Aa2 a2.length ca2]) 30, box b4 ((ci .i64).enc y3) 2, rowC (ci .i64) A8 c9 2 t7, rowC (ci .i64) A24 c25 2 (t11 ++ ([y3] : List Int)), rowC (ci .i64) A23 (([y3] : List Int).length) 2 ([y3] : List Int)] [roC G.cs Aa0_0 ca0_0 a0.Names, roC (ci .i16) Aa0_1 ca0_1 a0.Eats, roC (ci .u16) Aa0_2 ca0_2 a0.Foes] := hO.out [1, 2, 3] hS
                refine TJ.callFw rfl rfl rfl rfl rfl rfl rfl hb28 rfl (ih _ Aa0_0 ca0_0 Aa0_1 ca0_1 Aa0_2 ca0_2 a0 a1 A24 c25 (t11 ++ ([y3] : List Int)) (if a3 < (IntKind.i64.wrap (y3 + 1)) then (IntKind.i64.wrap (y3 + 1)) else a3) ((hS.subs [5] [0, 1, 2] [] rfl).pick [0] [0, 1, 2] rfl) _ ht18) (by rintro _ w1 ⟨A26, c27, rfl, hs⟩; exact hY.wr (hS.inP [1, 2, 3] 3 rfl rfl [5] rfl) hs.chg) ?_
                rintro _ w1 hY ⟨A26, c27, rfl, hs⟩
                replace hS := hS.back' [] [5] rfl rfl [] [rowC (ci .i64) A26 c27 2 t18.1] [] hs trivial (fun _ h => by cases h) (.inr rfl)
                have hS : St w (fpU [rowC (ci .i64) Aa2 ca2 2 a2]) w1 [rowC (ci .i64) Aa2 ca2 2 a2, box b1 ([.slice Aa0_0 a0.Names.length ca0_0, .slice Aa0_1 a0.Eats.length ca0_1, .slice Aa0_2 a0.Foes.length ca0_2]) 28, box b2 ([.slice Aa2 a2.length ca2]) 30, box b4 ((ci .i64).enc y3) 2, rowC (ci .i64) A8 c9 2 t7, gone, rowC (ci .i64) A23 (([y3] : List Int).length) 2 ([y3] : List Int), rowC (ci .i64) A26 c27 2 t18.1] [roC G.cs Aa0_0 ca0_0 a0.Names, roC (ci .i16) Aa0_1 ca0_1 a0.Eats, roC (ci .u16) Aa0_2 ca0_2 a0.Foes] := hS
                have hS : St w (fpU [rowC (ci .i64) Aa2 ca2 2 a2]) w1 [rowC (ci .i64) Aa2 ca2 2 a2, box b1 ([.slice Aa0_0 a0.Names.length ca0_0, .slice Aa0_1 a0.Eats.length ca0_1, .slice Aa0_2 a0.Foes.length ca0_2]) 28, box b2 ([.slice Aa2 a2.length ca2]) 30, box b4 ((ci .i64).enc y3) 2, rowC (ci .i64) A8 c9 2 t7, gone, rowC (ci .i64) A23 (([y3] : List Int).length) 2 ([y3] : List Int), rowC (ci .i64) A26 c27 2 t18.1] [roC G.cs Aa0_0 ca0_0 a0.Names, roC (ci .i16) Aa0_1 ca0_1 a0.Eats, roC (ci .u16) Aa0_2 ca0_2 a0.Foes] := hS
                refine TJ.pures tU_ok 5 rfl ?_
                refine TJ.nil ?_
                exact EJ.meet (F' := [(1, .int .i64 a1), (3, .int .i64 a3), (4, .pointer (some ⟨b1, 0, none⟩)), (6, .pointer (some ⟨b2, 0, none⟩)), (10, .int .i64 (a2.length : Int)), (12, .slice A26 t18.1.length c27), (13, .bool t18.2), (25, .int .i64 (if a1 < (IntKind.i64.wrap (a3 + 1)) then a1 else (IntKind.i64.wrap (a3 + 1)))), (26, .int .i64 y3)]) ⟨rfl, rfl, rfl, rfl, rfl, rfl, rfl, rfl, rfl, trivial⟩ ⟨A23, A26, c27, rfl, hS.pick [0, 1, 2, 3, 4, 6, 7] [0, 1, 2] rfl⟩
              refine TJ.alt ?_ ?_
              · skip
                refine TJ.ef hY rfl rfl rfl rfl rfl (Ef.lit tU_ok tI_ok hS (C := (ci .i64)) rfl rfl rfl rfl rfl rfl ([y3] : List Int) rfl rfl rfl rfl) ?_
                rintro _ w1 hY ⟨A28, rfl, hS⟩
                refine TJ.callF hY rfl rfl rfl rfl rfl rfl rfl hb62 rfl (slices_Clone_int64_int64.c _ Aa2 ca2 a2 (hS.rd (i := 0) rfl) (hS.le (i := 0) rfl) _ ht11) (by rintro v w' ⟨A29, c30, rfl, hs⟩; exact hs.ext) ?_
                rintro _ w1 hY ⟨A29, c30, rfl, hs⟩
                replace hS := hS.addN hs
                have hS : St w (fpU [rowC (ci .i64) Aa2 ca2 2 a2]) w1 [rowC (ci .i64) Aa2 ca2 2 a2, box b1 ([.slice Aa0_0 a0.Names.length ca0_0, .slice Aa0_1 a0.Eats.length ca0_1, .slice Aa0_2 a0.Foes.length ca0_2]) 28, box b2 ([.slice Aa2 a2.length ca2]) 30, box b4 ((ci .i64).enc y3) 2, rowC (ci .i64) A8 c9 2 t7, rowC (ci .i64) A28 (([y3] : List Int).length) 2 ([y3] : List Int), rowC (ci .i64) A29 c30 2 t11] [roC G.cs Aa0_0 ca0_0 a0.Names, roC (ci .i16) Aa0_1 ca0_1 a0.Eats, roC (ci .u16) Aa0_2 ca0_2 a0.Foes] := hS
                have hO := hS
                refine TJ.ew rfl rfl rfl rfl rfl (Ew.append tU_ok tI_ok (C := (ci .i64)) (xs := t11) (ys := ([y3] : List Int)) (hS.inn [1, 2, 3]) (i := 6) rfl rfl rfl rfl rfl rfl rfl rfl rfl rfl rfl rfl rfl (hS.rd (i := 5) rfl) (chk_some hu15)) (by rintro _ w1 ⟨A31, c32, rfl, hS⟩; exact hY.wr (hO.inY [1, 2, 3] 3 rfl rfl) hS.chg) ?_
                rintro _ w1 hY ⟨A31, c32, rfl, hS⟩
                have hS : St w (fpU [rowC (ci .i64) Aa2 ca2 2 a2]) w1 [rowC (ci .i64) Aa2 ca2 2 a2, box b1 ([.slice Aa0_0 a0.Names.length ca0_0, .slice Aa0_1 a0.Eats.length ca0_1, .slice Aa0_2 a0.Foes.length ca0_2]) 28, box b2 ([.slice Aa2 a2.length ca2]) 30, box b4 ((ci .i64).enc y3) 2, rowC (ci .i64) A8 c9 2 t7, rowC (ci .i64) A28 (([y3] : List Int).length) 2 ([y3] : List Int), rowC (ci .i64) A31 c32 2 (t11 ++ ([y3] : List Int))] [roC G.cs Aa0_0 ca0_0 a0.Names, roC (ci .i16) Aa0_1 ca0_1 a0.Eats, roC (ci .u16) Aa0_2 ca0_2 a0.Foes] := hO.out [1, 2, 3] hS
                refine TJ.callFw rfl rfl rfl rfl rfl rfl rfl hb28 rfl (ih _ Aa0_0 ca0_0 Aa0_1 ca0_1 Aa0_2 ca0_2 a0 a1 A31 c32 (t11 ++ ([y3] : List Int)) (if a3 < (IntKind.i64.wrap (y3 + 1)) then (IntKind.i64.wrap (y3 + 1)) else a3) ((hS.subs [6] [0, 1, 2] [] rfl).pick [0] [0, 1, 2] rfl) _ ht18) (by rintro _ w1 ⟨A33, c34, rfl, hs⟩; exact hY.wr (hS.inP [1, 2, 3] 3 rfl rfl [6] rfl) hs.chg) ?_
                rintro _ w1 hY ⟨A33, c34, rfl, hs⟩
                replace hS := hS.back' [] [6] rfl rfl [] [rowC (ci .i64) A33 c34 2 t18.1] [] hs trivial (fun _ h => by cases h) (.inr rfl)
                have hS : St w (fpU [rowC (ci .i64) Aa2 ca2 2 a2]) w1 [rowC (ci .i64) Aa2 ca2 2 a2, box b1 ([.slice Aa0_0 a0.Names.length ca0_0, .slice Aa0_1 a0.Eats.length ca0_1, .slice Aa0_2 a0.Foes.length ca0_2]) 28, box b2 ([.slice Aa2 a2.length ca2]) 30, box b4 ((ci .i64).enc y3) 2, rowC (ci .i64) A8 c9 2 t7, rowC (ci .i64) A28 (([y3] : List Int).length) 2 ([y3] : List Int), gone, rowC (ci .i64) A33 c34 2 t18.1] [roC G.cs Aa0_0 ca0_0 a0.Names, roC (ci .i16) Aa0_1 ca0_1 a0.Eats, roC (ci .u16) Aa0_2 ca0_2 a0.Foes] := hS
                have hS : St w (fpU [rowC (ci .i64) Aa2 ca2 2 a2]) w1 [rowC (ci .i64) Aa2 ca2 2 a2, box b1 ([.slice Aa0_0 a0.Names.length ca0_0, .slice Aa0_1 a0.Eats.length ca0_1, .slice Aa0_2 a0.Foes.length ca0_2]) 28, box b2 ([.slice Aa2 a2.length ca2]) 30, box b4 ((ci .i64).enc y3) 2, rowC (ci .i64) A8 c9 2 t7, rowC (ci .i64) A28 (([y3] : List Int).length) 2 ([y3] : List Int), gone, rowC (ci .i64) A33 c34 2 t18.1] [roC G.cs Aa0_0 ca0_0 a0.Names, roC (ci .i16) Aa0_1 ca0_1 a0.Eats, roC (ci .u16) Aa0_2 ca0_2 a0.Foes] := hS
                refine TJ.pures tU_ok 5 rfl ?_
                refine TJ.nil ?_
                exact EJ.meet (F' := [(1, .int .i64 a1), (3, .int .i64 a3), (4, .pointer (some ⟨b1, 0, none⟩)), (6, .pointer (some ⟨b2, 0, none⟩)), (10, .int .i64 (a2.length : Int)), (12, .slice A33 t18.1.length c34), (13, .bool t18.2), (25, .int .i64 (if a1 < (IntKind.i64.wrap (a3 + 1)) then a1 else (IntKind.i64.wrap (a3 + 1)))), (26, .int .i64 y3)]) ⟨rfl, rfl, rfl, rfl, rfl, rfl, rfl, rfl, rfl, trivial⟩ ⟨A28, A33, c34, rfl, hS.pick [0, 1, 2, 3, 4, 5, 7] [0, 1, 2] rfl⟩
              exact TJ.stop
            · rintro F w1 ⟨A14, A19, c20, rfl, hS⟩
              refine EJ.next ?_
              refine CJ.seq ?_
              refine CJ.region ?_
              refine OJ.pures tU_ok 1 rfl ?_
              refine OJ.nil (EJ.next ?_)
              refine CJ.cond rfl (fun hb => ?_) (fun hb => ?_)
              · replace H := pif_t hb H
                refine CJ.seq ?_
                refine CJ.region ?_
                refine OJ.pures tU_ok 3 rfl ?_
                refine OJ.nil (EJ.next ?_)
                refine CJ.ret (EJ.bkR (EJ.skR (EJ.skR (EJ.bkR (EJ.skR (EJ.skR (?_)))))))
                first | (obtain rfl := Option.some.inj H; have H := K47) | (obtain ⟨q47, H2, e47⟩ := pbind H; obtain rfl := Option.some.inj e47; obtain rfl := Option.some.inj K47; have H := H2)
                obtain rfl := Option.some.inj H
                exact EJ.fin rfl (.tmp rfl (.tmp rfl .nil)) ⟨A19, c20, rfl, hS.pick [6] [] rfl⟩
              · replace H := pifb_f hb H
                refine CJ.skip (EJ.blk (EJ.next ?_))
                refine CJ.region ?_
                refine OJ.pures tU_ok 2 rfl ?_
                refine OJ.nil ?_
                exact EJ.round k (F' := [(1, .int .i64 a1), (3, .int .i64 a3), (4, .pointer (some ⟨b1, 0, none⟩)), (6, .pointer (some ⟨b2, 0, none⟩)), (10, .int .i64 (a2.length : Int)), (25, .int .i64 (if a1 < (IntKind.i64.wrap (a3 + 1)) then a1 else (IntKind.i64.wrap (a3 + 1)))), (26, .int .i64 (IntKind.i64.wrap (y3 + 1)))]) ⟨rfl, rfl, rfl, rfl, rfl, rfl, rfl, trivial⟩ (Nat.lt_succ_self _) ⟨(IntKind.i64.wrap (y3 + 1)), rfl, hS.pick [0, 1, 2] [0, 1, 2] rfl, H⟩
        · replace H := pif_f (of_decide_eq_false hb) H
          refine CJ.exit (EJ.skE (EJ.skE (EJ.hit (?_))))
          exact EJ.meet (F' := []) trivial ⟨H, rfl, hS.pick [] [0, 1, 2] rfl⟩
    · rintro F w1 ⟨he, rfl, hS⟩
      obtain rfl := Option.some.inj he
      have H := K47
      refine EJ.next ?_
      refine CJ.seq ?_
      refine CJ.region ?_
      refine OJ.pures tU_ok 2 rfl ?_
      refine OJ.nil (EJ.next ?_)
      refine CJ.ret (?_)
      replace hS := hS.addNil (ci .i64) 2 none
      obtain rfl := Option.some.inj H
      exact EJ.fin rfl (.tmp rfl (.tmp rfl .nil)) ⟨none, 0, rfl, hS.pick [0] [] rfl⟩

def impl_FewestGroups.l1 (a0 : Herd) : Nat → Int → Option ((List Int × Int × Int) ⊕ Unit)
  | 0, _ => none
  | k + 1, y3 => (impl_Herd_group.f k a0 y3 ([] : List Int) 0).bind fun t4 => if t4.2 = true then (some (Sum.inl (t4.1, y3, 0))) else (impl_FewestGroups.l1 a0 k (IntKind.i64.wrap (y3 + 1)))
def impl_FewestGroups.f (k : Nat) (a0 : Herd) : Option (List Int × Int × Int) := (impl_ValidHerd.f k a0).bind fun t2 => if (!t2) = true then (some ([], 0, 1)) else ((impl_FewestGroups.l1 a0 k 0).bind fun s43 => match s43 with | .inl r => some r | .inr _ => none)
theorem impl_FewestGroups.c (k : Nat) (w : World) (Aa0_0 : Option Addr) (ca0_0 : Nat) (Aa0_1 : Option Addr) (ca0_1 : Nat) (Aa0_2 : Option Addr) (ca0_2 : Nat) (a0 : Herd) (hr0_0 : Rd G.cs w Aa0_0 a0.Names) (hc0_0 : a0.Names.length ≤ ca0_0) (hr0_1 : Rd (ci .i16) w Aa0_1 a0.Eats) (hc0_1 : a0.Eats.length ≤ ca0_1) (hr0_2 : Rd (ci .u16) w Aa0_2 a0.Foes) (hc0_2 : a0.Foes.length ≤ ca0_2) (r : List Int × Int × Int) (H : impl_FewestGroups.f k a0 = some r) :
    CV Tryz.prog 7 [.agg [.slice Aa0_0 a0.Names.length ca0_0, .slice Aa0_1 a0.Eats.length ca0_1, .slice Aa0_2 a0.Foes.length ca0_2].toArray].toArray w fun v w' => ∃ (A0 : Option Addr) (c0 : Nat), v = .tuple #[.slice A0 r.1.length c0, .int .i64 r.2.1, .int .i64 r.2.2] ∧ St w no w' [rowC (ci .i64) A0 c0 2 r.1] [] := by
  have hS := ((((St.init w no).param G.cs Aa0_0 ca0_0 a0.Names hr0_0 hc0_0).param (ci .i16) Aa0_1 ca0_1 a0.Eats hr0_1 hc0_1).param (ci .u16) Aa0_2 ca0_2 a0.Foes hr0_2 hc0_2)
  unfold impl_FewestGroups.f at H
  refine CV.body Tryz.func7 rfl Tryz.ntmps7 rfl ?_
  refine CJ.seq ?_
  refine CJ.region ?_
  refine OJ.ef rfl rfl rfl (Ef.box hS rfl rfl ([.slice Aa0_0 a0.Names.length ca0_0, .slice Aa0_1 a0.Eats.length ca0_1, .slice Aa0_2 a0.Foes.length ca0_2]) rfl) ?_
  rintro _ w1 ⟨b1, rfl, hS⟩
  refine OJ.pures tU_ok 3 rfl ?_
  refine OJ.nil (EJ.next ?_)
  refine CJ.seq ?_
  refine CJ.seq ?_
  refine CJ.region ?_
  refine OJ.st rfl rfl rfl (SR.load rfl rfl (fun w' hx => ldN tU_ok tI_ok rfl rfl rfl (CA.ext (hS.cells (i := 0) rfl) hx) (ds := [.slice Aa0_0 a0.Names.length ca0_0, .slice Aa0_1 a0.Eats.length ca0_1, .slice Aa0_2 a0.Foes.length ca0_2]) rfl rfl)) ?_
  obtain ⟨t2, ht2, H⟩ := pbind H
  refine OJ.callF rfl rfl rfl rfl rfl hb27 rfl (impl_ValidHerd.c k _ Aa0_0 ca0_0 Aa0_1 ca0_1 Aa0_2 ca0_2 a0 (hS.rd' (i := 0) rfl) (hS.le' (i := 0) rfl) (hS.rd' (i := 1) rfl) (hS.le' (i := 1) rfl) (hS.rd' (i := 2) rfl) (hS.le' (i := 2) rfl) _ ht2) ?_
  rintro _ w1 ⟨rfl, hs⟩
  replace hS := hS.grow hs
  refine OJ.pures tU_ok 1 rfl ?_
  refine OJ.nil (EJ.next ?_)
  refine CJ.cond rfl (fun hb => ?_) (fun hb => ?_)
  · replace H := pif_t hb H
    refine CJ.seq ?_
    refine CJ.region ?_
    refine OJ.pures tU_ok 3 rfl ?_
    refine OJ.nil (EJ.next ?_)
    refine CJ.ret (EJ.skR (?_))
    replace hS := hS.addNil (ci .i64) 2 none
    obtain rfl := Option.some.inj H
    exact EJ.fin rfl (.tmp rfl (.tmp rfl (.tmp rfl .nil))) ⟨none, 0, rfl, hS.pick [1] [] rfl⟩
  · replace H := pifb_f hb H
    refine CJ.skip (EJ.next ?_)
    refine CJ.seq ?_
    refine CJ.region ?_
    refine OJ.pures tU_ok 1 rfl ?_
    refine OJ.nil (EJ.next ?_)
    obtain ⟨j43, H, K43⟩ := pbind H
    refine CJ.cut1 (fun _ _ => False) ?_ ?_
    · skip
      refine CJ.block ?_
      refine CJ.loop (fun k F w1 => ∃ (y3 : Int), F = [(1, .pointer (some ⟨b1, 0, none⟩)), (2, .slice none 0 0), (3, .int .i64 0), (4, .int .i64 0), (5, .int .i64 y3)] ∧ St w no w1 [box b1 ([.slice Aa0_0 a0.Names.length ca0_0, .slice Aa0_1 a0.Eats.length ca0_1, .slice Aa0_2 a0.Foes.length ca0_2]) 28] [roC G.cs Aa0_0 ca0_0 a0.Names, roC (ci .i16) Aa0_1 ca0_1 a0.Eats, roC (ci .u16) Aa0_2 ca0_2 a0.Foes] ∧ impl_FewestGroups.l1 a0 k y3 = some j43) k (F' := [(1, .pointer (some ⟨b1, 0, none⟩)), (2, .slice none 0 0), (3, .int .i64 0), (4, .int .i64 0), (5, .int .i64 0)]) ⟨rfl, rfl, rfl, rfl, rfl, trivial⟩ ⟨0, rfl, hS.pick [0] [0, 1, 2] rfl, H⟩ ?_
      rintro k F w1 ⟨y3, rfl, hS, H⟩
      cases k with
      | zero => rw [impl_FewestGroups.l1] at H; cases H
      | succ k =>
        rw [impl_FewestGroups.l1] at H
        refine CJ.seq ?_
        refine CJ.block ?_
        refine CJ.seq ?_
        refine CJ.region ?_
        refine OJ.st rfl rfl rfl (SR.load rfl rfl (fun w' hx => ldN tU_ok tI_ok rfl rfl rfl (CA.ext (hS.cells (i := 0) rfl) hx) (ds := [.slice Aa0_0 a0.Names.length ca0_0, .slice Aa0_1 a0.Eats.length ca0_1, .slice Aa0_2 a0.Foes.length ca0_2]) rfl rfl)) ?_
        refine OJ.pures tU_ok 1 rfl ?_
        replace hS := hS.addNil (ci .i64) 2 none
        obtain ⟨t4, ht4, H⟩ := pbind H
        refine OJ.callF rfl rfl rfl rfl rfl hb28 rfl (impl_Herd_group.c k _ Aa0_0 ca0_0 Aa0_1 ca0_1 Aa0_2 ca0_2 a0 y3 none 0 ([] : List Int) 0 ((hS.subs [1] [0, 1, 2] [] rfl).pick [0] [0, 1, 2] rfl) _ ht4) ?_
        rintro _ w1 ⟨A5, c6, rfl, hs⟩
        replace hS := hS.back' [] [1] rfl rfl [] [rowC (ci .i64) A5 c6 2 t4.1] [] hs trivial (fun _ h => by cases h) (.inr rfl)
        refine OJ.pures tU_ok 5 rfl ?_
        refine OJ.nil (EJ.next ?_)
        refine CJ.seq ?_
        refine CJ.region ?_
        refine OJ.pures tU_ok 1 rfl ?_
        refine OJ.nil (EJ.next ?_)
        refine CJ.cond rfl (fun hb => ?_) (fun hb => ?_)
        · replace H := pif_t hb H
          refine CJ.seq ?_
          refine CJ.region ?_
          refine OJ.pures tU_ok 5 rfl ?_
          refine OJ.nil (EJ.next ?_)
          refine CJ.ret (EJ.bkR (EJ.skR (EJ.skR (EJ.bkR (EJ.skR (?_))))))
          first | (obtain rfl := Option.some.inj H; have H := K43) | (obtain ⟨q43, H2, e43⟩ := pbind H; obtain rfl := Option.some.inj e43; obtain rfl := Option.some.inj K43; have H := H2)
          obtain rfl := Option.some.inj H
          exact EJ.fin rfl (.tmp rfl (.tmp rfl (.tmp rfl .nil))) ⟨A5, c6, rfl, hS.pick [2] [] rfl⟩
        · replace H := pifb_f hb H
          refine CJ.skip (EJ.blk (EJ.next ?_))
          refine CJ.region ?_
          refine OJ.pures tU_ok 3 rfl ?_
          refine OJ.nil ?_
          exact EJ.round k (F' := [(1, .pointer (some ⟨b1, 0, none⟩)), (2, .slice none 0 0), (3, .int .i64 0), (4, .int .i64 0), (5, .int .i64 (IntKind.i64.wrap (y3 + 1)))]) ⟨rfl, rfl, rfl, rfl, rfl, trivial⟩ (Nat.lt_succ_self _) ⟨(IntKind.i64.wrap (y3 + 1)), rfl, hS.pick [0] [0, 1, 2] rfl, H⟩
    · rintro F w1 h
      exact h.elim

def spec_l00In.f (a0 : Int) (a1 : Int) (a2 : Int) : Option Bool := if a1 ≤ a0 then (some (decide (a0 ≤ a2))) else (some false)
theorem spec_l00In.c (w : World) (a0 : Int) (a1 : Int) (a2 : Int) (r : Bool) (H : spec_l00In.f a0 a1 a2 = some r) :
    CV Tryz.prog 39 [.int .i64 a0, .int .i64 a1, .int .i64 a2].toArray w fun v w' => v = .bool r ∧ Ext w w' := by
  have hS := (St.init w no)
  unfold spec_l00In.f at H
  refine CV.body Tryz.func39 rfl Tryz.ntmps39 rfl ?_
  refine CJ.seq ?_
  refine CJ.region ?_
  refine OJ.pures tU_ok 1 rfl ?_
  refine OJ.nil (EJ.next ?_)
  refine CJ.seq ?_
  refine CJ.region ?_
  refine OJ.pures tU_ok 4 rfl ?_
  refine OJ.split (t := 10) rfl (fun hb => ?_) (fun hb => ?_)
  · replace H := pif_t (of_decide_eq_true hb) H
    refine OJ.pures tU_ok 5 rfl ?_
    refine OJ.nil (EJ.next ?_)
    refine CJ.ret (?_)
    obtain rfl := Option.some.inj H
    exact EJ.fin rfl (.tmp rfl .nil) ⟨rfl, hS.ext⟩
  · replace H := pif_f (of_decide_eq_false hb) H
    refine OJ.pures tU_ok 5 rfl ?_
    refine OJ.nil (EJ.next ?_)
    refine CJ.ret (?_)
    obtain rfl := Option.some.inj H
    exact EJ.fin rfl (.tmp rfl .nil) ⟨rfl, hS.ext⟩

def spec_l06Name.l1 (a0 : ByteArray) : Nat → Int → Option (Bool ⊕ Unit)
  | 0, _ => none
  | k + 1, y1 => if y1 < (a0.size : Int) then ((getB a0 y1).bind fun t2 => if t2 < 97 then (some (Sum.inl false)) else ((getB a0 y1).bind fun t3 => if 122 < t3 then (some (Sum.inl false)) else (spec_l06Name.l1 a0 k (IntKind.i64.wrap (y1 + 1))))) else (some (Sum.inr ()))
def spec_l06Name.f (k : Nat) (a0 : ByteArray) : Option Bool := (spec_l06Name.l1 a0 k 0).bind fun s52 => match s52 with | .inl r => some r | .inr _ => (spec_l00In.f (a0.size : Int) 1 8).bind fun t4 => some t4
theorem spec_l06Name.c (k : Nat) (w : World) (a0 : ByteArray) (r : Bool) (H : spec_l06Name.f k a0 = some r) :
    CV Tryz.prog 63 [.string a0].toArray w fun v w' => v = .bool r ∧ Ext w w' := by
  have hS := (St.init w no)
  unfold spec_l06Name.f at H
  refine CV.body Tryz.func63 rfl Tryz.ntmps63 rfl ?_
  refine CJ.seq ?_
  refine CJ.region ?_
  refine OJ.pures tU_ok 1 rfl ?_
  refine OJ.nil (EJ.next ?_)
  refine CJ.seq ?_
  refine CJ.seq ?_
  refine CJ.region ?_
  refine OJ.pures tU_ok 1 rfl ?_
  refine OJ.nil (EJ.next ?_)
  obtain ⟨j52, H, K52⟩ := pbind H
  refine CJ.cut1 (fun F w1 => (some (Sum.inr ()) : Option (Bool ⊕ Unit)) = some j52 ∧ F = [(0, .string a0)] ∧ St w no w1 [] []) ?_ ?_
  · skip
    refine CJ.block ?_
    refine CJ.loop (fun k F w1 => ∃ (y1 : Int), F = [(0, .string a0), (3, .int .i64 y1)] ∧ St w no w1 [] [] ∧ spec_l06Name.l1 a0 k y1 = some j52) k (F' := [(0, .string a0), (3, .int .i64 0)]) ⟨rfl, rfl, trivial⟩ ⟨0, rfl, hS.pick [] [] rfl, H⟩ ?_
    rintro k F w1 ⟨y1, rfl, hS, H⟩
    cases k with
    | zero => rw [spec_l06Name.l1] at H; cases H
    | succ k =>
      rw [spec_l06Name.l1] at H
      refine CJ.seq ?_
      refine CJ.seq ?_
      refine CJ.region ?_
      refine OJ.pures tU_ok 4 rfl ?_
      refine OJ.nil (EJ.next ?_)
      refine CJ.cond rfl (fun hb => ?_) (fun hb => ?_)
      · replace H := pif_t (of_decide_eq_true hb) H
        refine CJ.skip (EJ.next ?_)
        refine CJ.seq ?_
        refine CJ.block ?_
        refine CJ.seq ?_
        refine CJ.region ?_
        refine OJ.pures tU_ok 2 rfl ?_
        obtain ⟨t2, ht2, H⟩ := pbind H
        refine OJ.st rfl rfl rfl (SR.idxStr tU_ok rfl rfl rfl rfl ht2) ?_
        refine OJ.pures tU_ok 2 rfl ?_
        refine OJ.split (t := 14) rfl (fun hb => ?_) (fun hb => ?_)
        · replace H := pif_t (of_decide_eq_true hb) H
          refine OJ.pures tU_ok 5 rfl ?_
          refine OJ.nil (EJ.next ?_)
          refine CJ.condT rfl ?_
          refine CJ.seq ?_
          refine CJ.region ?_
          refine OJ.pures tU_ok 1 rfl ?_
          refine OJ.nil (EJ.next ?_)
          refine CJ.ret (EJ.bkR (EJ.skR (EJ.skR (EJ.bkR (EJ.skR (EJ.skR (?_)))))))
          first | (obtain rfl := Option.some.inj H; have H := K52) | (obtain ⟨q52, H2, e52⟩ := pbind H; obtain rfl := Option.some.inj e52; obtain rfl := Option.some.inj K52; have H := H2)
          obtain rfl := Option.some.inj H
          exact EJ.fin rfl (.tmp rfl .nil) ⟨rfl, hS.ext⟩
        · replace H := pif_f (of_decide_eq_false hb) H
          refine OJ.pures tU_ok 2 rfl ?_
          obtain ⟨t3, ht3, H⟩ := pbind H
          refine OJ.st rfl rfl rfl (SR.idxStr tU_ok rfl rfl rfl rfl ht3) ?_
          refine OJ.pures tU_ok 2 rfl ?_
          refine OJ.nil (EJ.next ?_)
          refine CJ.cond rfl (fun hb => ?_) (fun hb => ?_)
          · replace H := pif_t (of_decide_eq_true hb) H
            refine CJ.seq ?_
            refine CJ.region ?_
            refine OJ.pures tU_ok 1 rfl ?_
            refine OJ.nil (EJ.next ?_)
            refine CJ.ret (EJ.bkR (EJ.skR (EJ.skR (EJ.bkR (EJ.skR (EJ.skR (?_)))))))
            first | (obtain rfl := Option.some.inj H; have H := K52) | (obtain ⟨q52, H2, e52⟩ := pbind H; obtain rfl := Option.some.inj e52; obtain rfl := Option.some.inj K52; have H := H2)
            obtain rfl := Option.some.inj H
            exact EJ.fin rfl (.tmp rfl .nil) ⟨rfl, hS.ext⟩
          · replace H := pif_f (of_decide_eq_false hb) H
            refine CJ.skip (EJ.blk (EJ.next ?_))
            refine CJ.region ?_
            refine OJ.pures tU_ok 3 rfl ?_
            refine OJ.nil ?_
            exact EJ.round k (F' := [(0, .string a0), (3, .int .i64 (IntKind.i64.wrap (y1 + 1)))]) ⟨rfl, rfl, trivial⟩ (Nat.lt_succ_self _) ⟨(IntKind.i64.wrap (y1 + 1)), rfl, hS.pick [] [] rfl, H⟩
      · replace H := pif_f (of_decide_eq_false hb) H
        refine CJ.exit (EJ.skE (EJ.skE (EJ.hit (?_))))
        exact EJ.meet (F' := [(0, .string a0)]) ⟨rfl, trivial⟩ ⟨H, rfl, hS.pick [] [] rfl⟩
  · rintro F w1 ⟨he, rfl, hS⟩
    obtain rfl := Option.some.inj he
    have H := K52
    refine EJ.next ?_
    refine CJ.seq ?_
    refine CJ.region ?_
    refine OJ.pures tU_ok 2 rfl ?_
    obtain ⟨t4, ht4, H⟩ := pbind H
    refine OJ.callF rfl rfl rfl rfl rfl hb39 rfl (spec_l00In.c _ (a0.size : Int) 1 8 _ ht4) ?_
    rintro _ w1 ⟨rfl, hs⟩
    replace hS := hS.grow hs
    refine OJ.pures tU_ok 1 rfl ?_
    refine OJ.nil (EJ.next ?_)
    refine CJ.ret (?_)
    obtain rfl := Option.some.inj H
    exact EJ.fin rfl (.tmp rfl .nil) ⟨rfl, hS.ext⟩

def spec_l06Are.f (a0 : Herd) (a1 : Int) (a2 : Int) : Option Bool := (getI a0.Foes a1).bind fun t1 => (chk (0 ≤ (IntKind.u64.wrap a2))).bind fun u2 => some (decide ((Int.tmod (shrI .u16 t1 (IntKind.u64.wrap a2)) 2) = 1))
theorem spec_l06Are.c (w : World) (Aa0_0 : Option Addr) (ca0_0 : Nat) (Aa0_1 : Option Addr) (ca0_1 : Nat) (Aa0_2 : Option Addr) (ca0_2 : Nat) (a0 : Herd) (hr0_0 : Rd G.cs w Aa0_0 a0.Names) (hc0_0 : a0.Names.length ≤ ca0_0) (hr0_1 : Rd (ci .i16) w Aa0_1 a0.Eats) (hc0_1 : a0.Eats.length ≤ ca0_1) (hr0_2 : Rd (ci .u16) w Aa0_2 a0.Foes) (hc0_2 : a0.Foes.length ≤ ca0_2) (pa0 : Addr) (hp0 : CA w pa0 ([.slice Aa0_0 a0.Names.length ca0_0, .slice Aa0_1 a0.Eats.length ca0_1, .slice Aa0_2 a0.Foes.length ca0_2])) (a1 : Int) (a2 : Int) (r : Bool) (H : spec_l06Are.f a0 a1 a2 = some r) :
    CV Tryz.prog 64 [.pointer (some pa0), .int .i64 a1, .int .i64 a2].toArray w fun v w' => v = .bool r ∧ Ext w w' := by
  have hS := (((((St.init w no).param G.cs Aa0_0 ca0_0 a0.Names hr0_0 hc0_0).param (ci .i16) Aa0_1 ca0_1 a0.Eats hr0_1 hc0_1).param (ci .u16) Aa0_2 ca0_2 a0.Foes hr0_2 hc0_2).paramP pa0 ([.slice Aa0_0 a0.Names.length ca0_0, .slice Aa0_1 a0.Eats.length ca0_1, .slice Aa0_2 a0.Foes.length ca0_2]) hp0)
  unfold spec_l06Are.f at H
  refine CV.body Tryz.func64 rfl Tryz.ntmps64 rfl ?_
  refine CJ.seq ?_
  refine CJ.region ?_
  refine OJ.pures tU_ok 1 rfl ?_
  refine OJ.nil (EJ.next ?_)
  refine CJ.seq ?_
  refine CJ.region ?_
  refine OJ.pures tU_ok 2 rfl ?_
  refine OJ.st rfl rfl rfl (SR.fieldAddr tU_ok tI_ok rfl rfl rfl rfl rfl rfl) ?_
  refine OJ.st rfl rfl rfl (SR.load rfl rfl (fun w' hx => ld1 tU_ok rfl rfl (CA.ext (CA.sub (hS.ca (i := 3) rfl) 2) hx) rfl)) ?_
  refine OJ.pures tU_ok 1 rfl ?_
  obtain ⟨t1, ht1, H⟩ := pbind H
  obtain ⟨ad1, e1⟩ := (hS.rd' (i := 2) rfl).some' ht1
  refine OJ.st rfl rfl rfl (SR.idxS tU_ok tI_ok rfl rfl rfl rfl e1 rfl (getI_some ht1).1) ?_
  refine OJ.st rfl rfl rfl (SR.load rfl rfl (fun w' hx => ld1 tU_ok rfl rfl (CA.ext ((hS.rd' (i := 2) rfl).at_ e1 ht1) hx) rfl)) ?_
  refine OJ.pures tU_ok 2 rfl ?_
  obtain ⟨u2, hu2, H⟩ := pbind H
  refine OJ.st rfl rfl rfl (SR.shr rfl rfl rfl (chk_some hu2)) ?_
  refine OJ.st rfl rfl rfl (SR.rem rfl rfl rfl (by decide)) ?_
  refine OJ.pures tU_ok 2 rfl ?_
  refine OJ.nil (EJ.next ?_)
  refine CJ.ret (?_)
  obtain rfl := Option.some.inj H
  exact EJ.fin rfl (.tmp rfl .nil) ⟨rfl, hS.ext⟩
end Go.Proofs.YtonpnkppaflcbaaGreatDoor
