/-
  What the functions come to.
-/
import Derived.Test.YtnjeddecmccdcaaGT
namespace Go.Proofs.Ytnjeddecmccdcaa
open G
set_option linter.unusedVariables false
set_option linter.unusedSimpArgs false
set_option maxRecDepth 100000
set_option maxHeartbeats 4000000
def laws_f6big.f (a0 : List Int) : Option Bool := some (decide (4096 < (a0.length : Int)))
theorem laws_f6big.c (w : World) (Aa0 : Option Addr) (ca0 : Nat) (a0 : List Int) (hr0 : Rd (ci .u8) w Aa0 a0) (hc0 : a0.length ≤ ca0) (r : Bool) (H : laws_f6big.f a0 = some r) :
    CV Try.prog 4 [.slice Aa0 a0.length ca0].toArray w fun v w' => v = .bool r ∧ Ext w w' := by
  have hS := ((St.init w no).param (ci .u8) Aa0 ca0 a0 hr0 hc0)
  unfold laws_f6big.f at H
  refine CV.body Try.func4 rfl Try.ntmps4 rfl ?_
  refine CJ.seq ?_
  refine CJ.region ?_
  refine OJ.pures tU_ok 1 rfl ?_
  refine OJ.nil (EJ.next ?_)
  refine CJ.seq ?_
  refine CJ.region ?_
  refine OJ.pures tU_ok 4 rfl ?_
  refine OJ.nil (EJ.next ?_)
  refine CJ.ret (?_)
  obtain rfl := Option.some.inj H
  exact EJ.fin rfl (.tmp rfl .nil) ⟨rfl, hS.ext⟩

def spec_l00From.f (a0 : List Int) : Option l00Src := some (⟨a0, 0, 0⟩ : l00Src)
theorem spec_l00From.c (w : World) (Aa0 : Option Addr) (ca0 : Nat) (a0 : List Int) (hr0 : Rd (ci .u8) w Aa0 a0) (hc0 : a0.length ≤ ca0) (r : l00Src) (H : spec_l00From.f a0 = some r) :
    CV Try.prog 27 [.slice Aa0 a0.length ca0].toArray w fun v w' => ∃ (bn : Nat), v = .pointer (some ⟨bn, 0, none⟩) ∧ St w no w' [box bn ([.slice Aa0 a0.length ca0, .int .i64 r.at_, .int .u64 r.seed]) 77] [] := by
  have hS := ((St.init w no).param (ci .u8) Aa0 ca0 a0 hr0 hc0)
  unfold spec_l00From.f at H
  refine CV.body Try.func27 rfl Try.ntmps27 rfl ?_
  refine CJ.seq ?_
  refine CJ.region ?_
  refine OJ.pures tU_ok 1 rfl ?_
  refine OJ.nil (EJ.next ?_)
  refine CJ.seq ?_
  refine CJ.region ?_
  refine OJ.pures tU_ok 1 rfl ?_
  refine OJ.st rfl rfl rfl (SR.build' tU_ok tI_ok rfl rfl rfl (zs := [.slice none 0 0, .int .i64 0, .int .u64 0]) rfl rfl rfl ([.slice Aa0 a0.length ca0, .int .i64 0, .int .u64 0]) rfl) ?_
  refine OJ.ef rfl rfl rfl (Ef.box hS rfl rfl ([.slice Aa0 a0.length ca0, .int .i64 0, .int .u64 0]) rfl) ?_
  rintro _ w1 ⟨b1, rfl, hS⟩
  refine OJ.pures tU_ok 1 rfl ?_
  refine OJ.nil (EJ.next ?_)
  refine CJ.ret (?_)
  obtain rfl := Option.some.inj H
  exact EJ.fin rfl (.tmp rfl .nil) ⟨b1, rfl, hS.pick [0] [] rfl⟩

def spec_l00Src_next.f (a0 : l00Src) : Option (Int × l00Src) := if a0.at_ < (a0.code.length : Int) then ((getI a0.code a0.at_).bind fun t1 => if (IntKind.i64.wrap (a0.at_ + 1)) ≤ (a0.code.length : Int) then (some (IntKind.i64.wrap t1, (⟨a0.code, IntKind.i64.wrap (a0.at_ + 1), IntKind.u64.wrap ((IntKind.u64.wrap ((IntKind.u64.wrap (a0.seed * 6364136223846793005)) + (IntKind.u64.wrap (IntKind.i64.wrap t1)))) + 1442695040888963407)⟩ : l00Src))) else (some (IntKind.i64.wrap (andI .u64 (shrI .u64 (IntKind.u64.wrap ((IntKind.u64.wrap ((IntKind.u64.wrap (a0.seed * 6364136223846793005)) + (IntKind.u64.wrap (IntKind.i64.wrap t1)))) + 1442695040888963407)) 40) 255), (⟨a0.code, IntKind.i64.wrap (a0.at_ + 1), IntKind.u64.wrap ((IntKind.u64.wrap ((IntKind.u64.wrap (a0.seed * 6364136223846793005)) + (IntKind.u64.wrap (IntKind.i64.wrap t1)))) + 1442695040888963407)⟩ : l00Src)))) else (if (IntKind.i64.wrap (a0.at_ + 1)) ≤ (a0.code.length : Int) then (some (0, (⟨a0.code, IntKind.i64.wrap (a0.at_ + 1), IntKind.u64.wrap ((IntKind.u64.wrap ((IntKind.u64.wrap (a0.seed * 6364136223846793005)) + (IntKind.u64.wrap 0))) + 1442695040888963407)⟩ : l00Src))) else (some (IntKind.i64.wrap (andI .u64 (shrI .u64 (IntKind.u64.wrap ((IntKind.u64.wrap ((IntKind.u64.wrap (a0.seed * 6364136223846793005)) + (IntKind.u64.wrap 0))) + 1442695040888963407)) 40) 255), (⟨a0.code, IntKind.i64.wrap (a0.at_ + 1), IntKind.u64.wrap ((IntKind.u64.wrap ((IntKind.u64.wrap (a0.seed * 6364136223846793005)) + (IntKind.u64.wrap 0))) + 1442695040888963407)⟩ : l00Src))))
theorem spec_l00Src_next.c (w : World) (Aa0_0 : Option Addr) (ca0_0 : Nat) (a0 : l00Src) (ba0 : Nat) (hin : St w (fpU [box ba0 ([.slice Aa0_0 a0.code.length ca0_0, .int .i64 a0.at_, .int .u64 a0.seed]) 77]) w [box ba0 ([.slice Aa0_0 a0.code.length ca0_0, .int .i64 a0.at_, .int .u64 a0.seed]) 77] [roC (ci .u8) Aa0_0 ca0_0 a0.code]) (r : Int × l00Src) (H : spec_l00Src_next.f a0 = some r) :
    CV Try.prog 56 [.pointer (some ⟨ba0, 0, none⟩)].toArray w fun v w' => v = .int .i64 r.1 ∧ St w (fpU [box ba0 ([.slice Aa0_0 a0.code.length ca0_0, .int .i64 a0.at_, .int .u64 a0.seed]) 77]) w' [box ba0 ([.slice Aa0_0 a0.code.length ca0_0, .int .i64 r.2.at_, .int .u64 r.2.seed]) 77] [] := by
  have hS := hin
  unfold spec_l00Src_next.f at H
  refine CV.body Try.func56 rfl Try.ntmps56 rfl ?_
  refine CJ.seq ?_
  refine CJ.region ?_
  refine OJ.pures tU_ok 1 rfl ?_
  refine OJ.nil (EJ.next ?_)
  refine CJ.seq ?_
  refine CJ.region ?_
  refine OJ.pures tU_ok 1 rfl ?_
  refine OJ.nil (EJ.next ?_)
  refine CJ.seq ?_
  refine CJ.seq ?_
  refine CJ.draw [] [0, 1, 2, 3, 4, 5, 6, 7, 8, 9] mixed (by kernel_rfl) hS fun w1 hS => ?_
  refine DJ.pures tU_ok 2 rfl ?_
  refine DJ.st rfl rfl rfl rfl rfl (SR.fieldAddr tU_ok tI_ok rfl rfl rfl rfl rfl rfl) ?_
  refine DJ.st rfl rfl rfl rfl rfl (SR.load rfl rfl (fun w' hx => ld1 tU_ok rfl rfl (CA.ext (CA.sub (hS.cells (i := 0) rfl) 1) hx) rfl)) ?_
  refine DJ.pures tU_ok 2 rfl ?_
  refine DJ.st rfl rfl rfl rfl rfl (SR.fieldAddr tU_ok tI_ok rfl rfl rfl rfl rfl rfl) ?_
  refine DJ.st rfl rfl rfl rfl rfl (SR.load rfl rfl (fun w' hx => ld1 tU_ok rfl rfl (CA.ext (CA.sub (hS.cells (i := 0) rfl) 0) hx) rfl)) ?_
  refine DJ.pures tU_ok 2 rfl ?_
  refine DJ.nil (EJ.next ?_)
  refine CJ.cond rfl (fun hb => ?_) (fun hb => ?_)
  · replace H := pif_t (of_decide_eq_true hb) H
    refine CJ.draw [] [0, 1, 2, 3, 4, 5, 6, 7, 8, 9, 10, 11] mixed (by kernel_rfl) hS fun w1 hS => ?_
    refine DJ.pures tU_ok 2 rfl ?_
    refine DJ.st rfl rfl rfl rfl rfl (SR.fieldAddr tU_ok tI_ok rfl rfl rfl rfl rfl rfl) ?_
    refine DJ.st rfl rfl rfl rfl rfl (SR.load rfl rfl (fun w' hx => ld1 tU_ok rfl rfl (CA.ext (CA.sub (hS.cells (i := 0) rfl) 0) hx) rfl)) ?_
    refine DJ.pures tU_ok 2 rfl ?_
    refine DJ.st rfl rfl rfl rfl rfl (SR.fieldAddr tU_ok tI_ok rfl rfl rfl rfl rfl rfl) ?_
    refine DJ.st rfl rfl rfl rfl rfl (SR.load rfl rfl (fun w' hx => ld1 tU_ok rfl rfl (CA.ext (CA.sub (hS.cells (i := 0) rfl) 1) hx) rfl)) ?_
    obtain ⟨t1, ht1, H⟩ := pbind H
    obtain ⟨ad1, e1⟩ := (hS.rd' (i := 0) rfl).some' ht1
    refine DJ.st rfl rfl rfl rfl rfl (SR.idxS tU_ok tI_ok rfl rfl rfl rfl e1 rfl (getI_some ht1).1) ?_
    refine DJ.st rfl rfl rfl rfl rfl (SR.load rfl rfl (fun w' hx => ld1 tU_ok rfl rfl (CA.ext ((hS.rd' (i := 0) rfl).at_ e1 ht1) hx) rfl)) ?_
    refine DJ.pures tU_ok 2 rfl ?_
    refine DJ.nil (EJ.next ?_)
    refine CJ.seq ?_
    refine CJ.region ?_
    refine OJ.pures tU_ok 2 rfl ?_
    refine OJ.st rfl rfl rfl (SR.fieldAddr tU_ok tI_ok rfl rfl rfl rfl rfl rfl) ?_
    refine OJ.st rfl rfl rfl (SR.load rfl rfl (fun w' hx => ld1 tU_ok rfl rfl (CA.ext (CA.sub (hS.cells (i := 0) rfl) 1) hx) rfl)) ?_
    refine OJ.pures tU_ok 2 rfl ?_
    refine OJ.st rfl rfl rfl (SR.fieldAddr tU_ok tI_ok rfl rfl rfl rfl rfl rfl) ?_
    refine OJ.es rfl rfl (Es.store tI_ok hS (i := 0) (vs := [.int .i64 (IntKind.i64.wrap (a0.at_ + 1))]) rfl rfl rfl (G.ad1 _ _) rfl rfl rfl rfl (one1 rfl) (Nat.le_of_ble_eq_true rfl) ([.slice Aa0_0 a0.code.length ca0_0, .int .i64 (IntKind.i64.wrap (a0.at_ + 1)), .int .u64 a0.seed]) rfl) ?_
    intro w1 hS
    refine OJ.nil (EJ.next ?_)
    refine CJ.seq ?_
    refine CJ.region ?_
    refine OJ.pures tU_ok 3 rfl ?_
    refine OJ.st rfl rfl rfl (SR.fieldAddr tU_ok tI_ok rfl rfl rfl rfl rfl rfl) ?_
    refine OJ.st rfl rfl rfl (SR.load rfl rfl (fun w' hx => ld1 tU_ok rfl rfl (CA.ext (CA.sub (hS.cells (i := 0) rfl) 2) hx) rfl)) ?_
    refine OJ.pures tU_ok 6 rfl ?_
    refine OJ.st rfl rfl rfl (SR.fieldAddr tU_ok tI_ok rfl rfl rfl rfl rfl rfl) ?_
    refine OJ.es rfl rfl (Es.store tI_ok hS (i := 0) (vs := [.int .u64 (IntKind.u64.wrap ((IntKind.u64.wrap ((IntKind.u64.wrap (a0.seed * 6364136223846793005)) + (IntKind.u64.wrap (IntKind.i64.wrap t1)))) + 1442695040888963407))]) rfl rfl rfl (G.ad1 _ _) rfl rfl rfl rfl (one1 rfl) (Nat.le_of_ble_eq_true rfl) ([.slice Aa0_0 a0.code.length ca0_0, .int .i64 (IntKind.i64.wrap (a0.at_ + 1)), .int .u64 (IntKind.u64.wrap ((IntKind.u64.wrap ((IntKind.u64.wrap (a0.seed * 6364136223846793005)) + (IntKind.u64.wrap (IntKind.i64.wrap t1)))) + 1442695040888963407))]) rfl) ?_
    intro w1 hS
    refine OJ.nil (EJ.next ?_)
    refine CJ.seq ?_
    refine CJ.seq ?_
    refine CJ.draw [] [0, 1, 2, 3, 4, 5, 6, 7, 8, 9] mixed (by kernel_rfl) hS fun w1 hS => ?_
    refine DJ.pures tU_ok 2 rfl ?_
    refine DJ.st rfl rfl rfl rfl rfl (SR.fieldAddr tU_ok tI_ok rfl rfl rfl rfl rfl rfl) ?_
    refine DJ.st rfl rfl rfl rfl rfl (SR.load rfl rfl (fun w' hx => ld1 tU_ok rfl rfl (CA.ext (CA.sub (hS.cells (i := 0) rfl) 1) hx) rfl)) ?_
    refine DJ.pures tU_ok 2 rfl ?_
    refine DJ.st rfl rfl rfl rfl rfl (SR.fieldAddr tU_ok tI_ok rfl rfl rfl rfl rfl rfl) ?_
    refine DJ.st rfl rfl rfl rfl rfl (SR.load rfl rfl (fun w' hx => ld1 tU_ok rfl rfl (CA.ext (CA.sub (hS.cells (i := 0) rfl) 0) hx) rfl)) ?_
    refine DJ.pures tU_ok 2 rfl ?_
    refine DJ.nil (EJ.next ?_)
    refine CJ.cond rfl (fun hb => ?_) (fun hb => ?_)
    · replace H := pif_t (of_decide_eq_true hb) H
      refine CJ.seq ?_
      refine CJ.region ?_
      refine OJ.pures tU_ok 2 rfl ?_
      refine OJ.nil (EJ.next ?_)
      refine CJ.ret (EJ.skR (?_))
      obtain rfl := Option.some.inj H
      exact EJ.fin rfl (.tmp rfl .nil) ⟨rfl, hS.pick [0] [] rfl⟩
    · replace H := pif_f (of_decide_eq_false hb) H
      refine CJ.skip (EJ.next ?_)
      refine CJ.seq ?_
      refine CJ.region ?_
      refine OJ.pures tU_ok 2 rfl ?_
      refine OJ.st rfl rfl rfl (SR.fieldAddr tU_ok tI_ok rfl rfl rfl rfl rfl rfl) ?_
      refine OJ.st rfl rfl rfl (SR.load rfl rfl (fun w' hx => ld1 tU_ok rfl rfl (CA.ext (CA.sub (hS.cells (i := 0) rfl) 2) hx) rfl)) ?_
      refine OJ.st rfl rfl rfl (SR.shr rfl rfl rfl (by decide)) ?_
      refine OJ.pures tU_ok 3 rfl ?_
      refine OJ.nil (EJ.next ?_)
      refine CJ.ret (?_)
      obtain rfl := Option.some.inj H
      exact EJ.fin rfl (.tmp rfl .nil) ⟨rfl, hS.pick [0] [] rfl⟩
  · replace H := pif_f (of_decide_eq_false hb) H
    refine CJ.skip (EJ.next ?_)
    refine CJ.seq ?_
    refine CJ.region ?_
    refine OJ.pures tU_ok 2 rfl ?_
    refine OJ.st rfl rfl rfl (SR.fieldAddr tU_ok tI_ok rfl rfl rfl rfl rfl rfl) ?_
    refine OJ.st rfl rfl rfl (SR.load rfl rfl (fun w' hx => ld1 tU_ok rfl rfl (CA.ext (CA.sub (hS.cells (i := 0) rfl) 1) hx) rfl)) ?_
    refine OJ.pures tU_ok 2 rfl ?_
    refine OJ.st rfl rfl rfl (SR.fieldAddr tU_ok tI_ok rfl rfl rfl rfl rfl rfl) ?_
    refine OJ.es rfl rfl (Es.store tI_ok hS (i := 0) (vs := [.int .i64 (IntKind.i64.wrap (a0.at_ + 1))]) rfl rfl rfl (G.ad1 _ _) rfl rfl rfl rfl (one1 rfl) (Nat.le_of_ble_eq_true rfl) ([.slice Aa0_0 a0.code.length ca0_0, .int .i64 (IntKind.i64.wrap (a0.at_ + 1)), .int .u64 a0.seed]) rfl) ?_
    intro w1 hS
    refine OJ.nil (EJ.next ?_)
    refine CJ.seq ?_
    refine CJ.region ?_
    refine OJ.pures tU_ok 3 rfl ?_
    refine OJ.st rfl rfl rfl (SR.fieldAddr tU_ok tI_ok rfl rfl rfl rfl rfl rfl) ?_
    refine OJ.st rfl rfl rfl (SR.load rfl rfl (fun w' hx => ld1 tU_ok rfl rfl (CA.ext (CA.sub (hS.cells (i := 0) rfl) 2) hx) rfl)) ?_
    refine OJ.pures tU_ok 6 rfl ?_
    refine OJ.st rfl rfl rfl (SR.fieldAddr tU_ok tI_ok rfl rfl rfl rfl rfl rfl) ?_
    refine OJ.es rfl rfl (Es.store tI_ok hS (i := 0) (vs := [.int .u64 (IntKind.u64.wrap ((IntKind.u64.wrap ((IntKind.u64.wrap (a0.seed * 6364136223846793005)) + (IntKind.u64.wrap 0))) + 1442695040888963407))]) rfl rfl rfl (G.ad1 _ _) rfl rfl rfl rfl (one1 rfl) (Nat.le_of_ble_eq_true rfl) ([.slice Aa0_0 a0.code.length ca0_0, .int .i64 (IntKind.i64.wrap (a0.at_ + 1)), .int .u64 (IntKind.u64.wrap ((IntKind.u64.wrap ((IntKind.u64.wrap (a0.seed * 6364136223846793005)) + (IntKind.u64.wrap 0))) + 1442695040888963407))]) rfl) ?_
    intro w1 hS
    refine OJ.nil (EJ.next ?_)
    refine CJ.seq ?_
    refine CJ.seq ?_
    refine CJ.draw [] [0, 1, 2, 3, 4, 5, 6, 7, 8, 9] mixed (by kernel_rfl) hS fun w1 hS => ?_
    refine DJ.pures tU_ok 2 rfl ?_
    refine DJ.st rfl rfl rfl rfl rfl (SR.fieldAddr tU_ok tI_ok rfl rfl rfl rfl rfl rfl) ?_
    refine DJ.st rfl rfl rfl rfl rfl (SR.load rfl rfl (fun w' hx => ld1 tU_ok rfl rfl (CA.ext (CA.sub (hS.cells (i := 0) rfl) 1) hx) rfl)) ?_
    refine DJ.pures tU_ok 2 rfl ?_
    refine DJ.st rfl rfl rfl rfl rfl (SR.fieldAddr tU_ok tI_ok rfl rfl rfl rfl rfl rfl) ?_
    refine DJ.st rfl rfl rfl rfl rfl (SR.load rfl rfl (fun w' hx => ld1 tU_ok rfl rfl (CA.ext (CA.sub (hS.cells (i := 0) rfl) 0) hx) rfl)) ?_
    refine DJ.pures tU_ok 2 rfl ?_
    refine DJ.nil (EJ.next ?_)
    refine CJ.cond rfl (fun hb => ?_) (fun hb => ?_)
    · replace H := pif_t (of_decide_eq_true hb) H
      refine CJ.seq ?_
      refine CJ.region ?_
      refine OJ.pures tU_ok 2 rfl ?_
      refine OJ.nil (EJ.next ?_)
      refine CJ.ret (EJ.skR (?_))
      obtain rfl := Option.some.inj H
      exact EJ.fin rfl (.tmp rfl .nil) ⟨rfl, hS.pick [0] [] rfl⟩
    · replace H := pif_f (of_decide_eq_false hb) H
      refine CJ.skip (EJ.next ?_)
      refine CJ.seq ?_
      refine CJ.region ?_
      refine OJ.pures tU_ok 2 rfl ?_
      refine OJ.st rfl rfl rfl (SR.fieldAddr tU_ok tI_ok rfl rfl rfl rfl rfl rfl) ?_
      refine OJ.st rfl rfl rfl (SR.load rfl rfl (fun w' hx => ld1 tU_ok rfl rfl (CA.ext (CA.sub (hS.cells (i := 0) rfl) 2) hx) rfl)) ?_
      refine OJ.st rfl rfl rfl (SR.shr rfl rfl rfl (by decide)) ?_
      refine OJ.pures tU_ok 3 rfl ?_
      refine OJ.nil (EJ.next ?_)
      refine CJ.ret (?_)
      obtain rfl := Option.some.inj H
      exact EJ.fin rfl (.tmp rfl .nil) ⟨rfl, hS.pick [0] [] rfl⟩

def spec_l00Src_pick.f (a0 : l00Src) (a1 : Int) : Option (Int × l00Src) := if a1 ≤ 1 then (some (0, a0)) else ((spec_l00Src_next.f a0).bind fun t1 => if 200 < a1 then ((spec_l00Src_next.f (⟨a0.code, t1.2.at_, t1.2.seed⟩ : l00Src)).bind fun t2 => (chk (a1 ≠ 0)).bind fun u3 => some (Int.tmod (IntKind.i64.wrap ((IntKind.i64.wrap (t1.1 * 256)) + t2.1)) a1, (⟨a0.code, t2.2.at_, t2.2.seed⟩ : l00Src))) else ((chk (a1 ≠ 0)).bind fun u4 => some (Int.tmod t1.1 a1, (⟨a0.code, t1.2.at_, t1.2.seed⟩ : l00Src))))
theorem spec_l00Src_pick.c (w : World) (Aa0_0 : Option Addr) (ca0_0 : Nat) (a0 : l00Src) (ba0 : Nat) (a1 : Int) (hin : St w (fpU [box ba0 ([.slice Aa0_0 a0.code.length ca0_0, .int .i64 a0.at_, .int .u64 a0.seed]) 77]) w [box ba0 ([.slice Aa0_0 a0.code.length ca0_0, .int .i64 a0.at_, .int .u64 a0.seed]) 77] [roC (ci .u8) Aa0_0 ca0_0 a0.code]) (r : Int × l00Src) (H : spec_l00Src_pick.f a0 a1 = some r) :
    CV Try.prog 28 [.pointer (some ⟨ba0, 0, none⟩), .int .i64 a1].toArray w fun v w' => v = .int .i64 r.1 ∧ St w (fpU [box ba0 ([.slice Aa0_0 a0.code.length ca0_0, .int .i64 a0.at_, .int .u64 a0.seed]) 77]) w' [box ba0 ([.slice Aa0_0 a0.code.length ca0_0, .int .i64 r.2.at_, .int .u64 r.2.seed]) 77] [] := by
  have hS := hin
  unfold spec_l00Src_pick.f at H
  refine CV.body Try.func28 rfl Try.ntmps28 rfl ?_
  refine CJ.seq ?_
  refine CJ.region ?_
  refine OJ.pures tU_ok 1 rfl ?_
  refine OJ.nil (EJ.next ?_)
  refine CJ.seq ?_
  refine CJ.seq ?_
  refine CJ.region ?_
  refine OJ.pures tU_ok 2 rfl ?_
  refine OJ.nil (EJ.next ?_)
  refine CJ.cond rfl (fun hb => ?_) (fun hb => ?_)
  · replace H := pif_t (of_decide_eq_true hb) H
    refine CJ.seq ?_
    refine CJ.region ?_
    refine OJ.pures tU_ok 1 rfl ?_
    refine OJ.nil (EJ.next ?_)
    refine CJ.ret (EJ.skR (?_))
    obtain rfl := Option.some.inj H
    exact EJ.fin rfl (.tmp rfl .nil) ⟨rfl, hS.pick [0] [] rfl⟩
  · replace H := pif_f (of_decide_eq_false hb) H
    refine CJ.skip (EJ.next ?_)
    refine CJ.seq ?_
    refine CJ.region ?_
    refine OJ.pures tU_ok 1 rfl ?_
    obtain ⟨t1, ht1, H⟩ := pbind H
    refine OJ.callF rfl rfl rfl rfl rfl hb56 rfl (spec_l00Src_next.c _ Aa0_0 ca0_0 a0 ba0 ((hS.subs [0] [0] [] rfl).pick [0] [0] rfl) _ ht1) ?_
    rintro _ w1 ⟨rfl, hs⟩
    replace hS := hS.back [0] rfl rfl [box ba0 ([.slice Aa0_0 a0.code.length ca0_0, .int .i64 t1.2.at_, .int .u64 t1.2.seed]) 77] [] hs ⟨fun _ => Iff.rfl, trivial⟩
    refine OJ.pures tU_ok 1 rfl ?_
    refine OJ.nil (EJ.next ?_)
    refine CJ.seq ?_
    refine CJ.seq ?_
    refine CJ.region ?_
    refine OJ.pures tU_ok 2 rfl ?_
    refine OJ.nil (EJ.next ?_)
    refine CJ.cond rfl (fun hb => ?_) (fun hb => ?_)
    · replace H := pif_t (of_decide_eq_true hb) H
      refine CJ.region ?_
      refine OJ.pures tU_ok 3 rfl ?_
      obtain ⟨t2, ht2, H⟩ := pbind H
      refine OJ.callF rfl rfl rfl rfl rfl hb56 rfl (spec_l00Src_next.c _ Aa0_0 ca0_0 (⟨a0.code, t1.2.at_, t1.2.seed⟩ : l00Src) ba0 ((hS.subs [0] [0] [] rfl).pick [0] [0] rfl) _ ht2) ?_
      rintro _ w1 ⟨rfl, hs⟩
      replace hS := hS.back [0] rfl rfl [box ba0 ([.slice Aa0_0 a0.code.length ca0_0, .int .i64 t2.2.at_, .int .u64 t2.2.seed]) 77] [] hs ⟨fun _ => Iff.rfl, trivial⟩
      refine OJ.pures tU_ok 2 rfl ?_
      refine OJ.nil (EJ.next ?_)
      refine CJ.seq ?_
      refine CJ.region ?_
      refine OJ.pures tU_ok 2 rfl ?_
      obtain ⟨u3, hu3, H⟩ := pbind H
      refine OJ.st rfl rfl rfl (SR.rem rfl rfl rfl (chk_some hu3)) ?_
      refine OJ.pures tU_ok 1 rfl ?_
      refine OJ.nil (EJ.next ?_)
      refine CJ.ret (?_)
      obtain rfl := Option.some.inj H
      exact EJ.fin rfl (.tmp rfl .nil) ⟨rfl, hS.pick [0] [] rfl⟩
    · replace H := pif_f (of_decide_eq_false hb) H
      refine CJ.skip (EJ.next ?_)
      refine CJ.seq ?_
      refine CJ.region ?_
      refine OJ.pures tU_ok 2 rfl ?_
      obtain ⟨u4, hu4, H⟩ := pbind H
      refine OJ.st rfl rfl rfl (SR.rem rfl rfl rfl (chk_some hu4)) ?_
      refine OJ.pures tU_ok 1 rfl ?_
      refine OJ.nil (EJ.next ?_)
      refine CJ.ret (?_)
      obtain rfl := Option.some.inj H
      exact EJ.fin rfl (.tmp rfl .nil) ⟨rfl, hS.pick [0] [] rfl⟩

def spec_l00Min.f (a0 : Int) (a1 : Int) : Option Int := if a0 < a1 then (some a0) else (some a1)
theorem spec_l00Min.c (w : World) (a0 : Int) (a1 : Int) (r : Int) (H : spec_l00Min.f a0 a1 = some r) :
    CV Try.prog 55 [.int .i64 a0, .int .i64 a1].toArray w fun v w' => v = .int .i64 r ∧ Ext w w' := by
  have hS := (St.init w no)
  unfold spec_l00Min.f at H
  refine CV.body Try.func55 rfl Try.ntmps55 rfl ?_
  refine CJ.seq ?_
  refine CJ.region ?_
  refine OJ.pures tU_ok 1 rfl ?_
  refine OJ.nil (EJ.next ?_)
  refine CJ.seq ?_
  refine CJ.seq ?_
  refine CJ.region ?_
  refine OJ.pures tU_ok 3 rfl ?_
  refine OJ.nil (EJ.next ?_)
  refine CJ.cond rfl (fun hb => ?_) (fun hb => ?_)
  · replace H := pif_t (of_decide_eq_true hb) H
    refine CJ.seq ?_
    refine CJ.region ?_
    refine OJ.pures tU_ok 2 rfl ?_
    refine OJ.nil (EJ.next ?_)
    refine CJ.ret (EJ.skR (?_))
    obtain rfl := Option.some.inj H
    exact EJ.fin rfl (.tmp rfl .nil) ⟨rfl, hS.ext⟩
  · replace H := pif_f (of_decide_eq_false hb) H
    refine CJ.skip (EJ.next ?_)
    refine CJ.seq ?_
    refine CJ.region ?_
    refine OJ.pures tU_ok 2 rfl ?_
    refine OJ.nil (EJ.next ?_)
    refine CJ.ret (?_)
    obtain rfl := Option.some.inj H
    exact EJ.fin rfl (.tmp rfl .nil) ⟨rfl, hS.ext⟩

def spec_l07Drawn.l1 (a0 : l00Src) : Nat → (List Meadow) → Int → Int → Int → Option ((List Meadow) × Int × Int)
  | 0, _, _, _, _ => none
  | k + 1, y8, y11, y12, y13 => if 0 < y11 then ((spec_l00Src_pick.f (⟨a0.code, y12, y13⟩ : l00Src) 14).bind fun t14 => (spec_l00Src_pick.f (⟨a0.code, t14.2.at_, t14.2.seed⟩ : l00Src) (IntKind.i64.wrap (t14.1 + 1))).bind fun t15 => (spec_l00Min.f t14.1 3).bind fun t17 => (spec_l00Src_pick.f (⟨a0.code, t15.2.at_, t15.2.seed⟩ : l00Src) (IntKind.i64.wrap (t17 + 1))).bind fun t18 => (chk (y8.length + ([(⟨IntKind.i16.wrap t15.1, IntKind.i16.wrap t18.1, IntKind.i16.wrap t14.1⟩ : Meadow)] : List Meadow).length ≤ 4294967296)).bind fun u20 => spec_l07Drawn.l1 a0 k (y8 ++ ([(⟨IntKind.i16.wrap t15.1, IntKind.i16.wrap t18.1, IntKind.i16.wrap t14.1⟩ : Meadow)] : List Meadow)) (IntKind.i64.wrap (y11 - 1)) t18.2.at_ t18.2.seed) else (some (y8, y12, y13))
def spec_l07Drawn.f (k : Nat) (a0 : l00Src) : Option (List Meadow × l00Src) := (spec_l00Src_pick.f a0 4).bind fun t2 => (spec_l07Drawn.l1 a0 k ([] : List Meadow) (IntKind.i64.wrap (1 + t2.1)) t2.2.at_ t2.2.seed).bind fun (y3, y6, y7) => some (y3, (⟨a0.code, y6, y7⟩ : l00Src))
theorem spec_l07Drawn.c (k : Nat) (w : World) (Aa0_0 : Option Addr) (ca0_0 : Nat) (a0 : l00Src) (ba0 : Nat) (hin : St w (fpU [box ba0 ([.slice Aa0_0 a0.code.length ca0_0, .int .i64 a0.at_, .int .u64 a0.seed]) 77]) w [box ba0 ([.slice Aa0_0 a0.code.length ca0_0, .int .i64 a0.at_, .int .u64 a0.seed]) 77] [roC (ci .u8) Aa0_0 ca0_0 a0.code]) (r : List Meadow × l00Src) (H : spec_l07Drawn.f k a0 = some r) :
    CV Try.prog 26 [.pointer (some ⟨ba0, 0, none⟩)].toArray w fun v w' => ∃ (A0 : Option Addr) (c0 : Nat), v = .slice A0 r.1.length c0 ∧ St w (fpU [box ba0 ([.slice Aa0_0 a0.code.length ca0_0, .int .i64 a0.at_, .int .u64 a0.seed]) 77]) w' [box ba0 ([.slice Aa0_0 a0.code.length ca0_0, .int .i64 r.2.at_, .int .u64 r.2.seed]) 77, rowC cMeadow A0 c0 47 r.1] [] := by
  have hS := hin
  unfold spec_l07Drawn.f at H
  refine CV.body Try.func26 rfl Try.ntmps26 rfl ?_
  refine CJ.seq ?_
  refine CJ.region ?_
  refine OJ.pures tU_ok 1 rfl ?_
  refine OJ.nil (EJ.next ?_)
  refine CJ.seq ?_
  refine CJ.region ?_
  refine OJ.ef rfl rfl rfl (Ef.lit tU_ok tI_ok hS (C := cMeadow) rfl rfl rfl rfl rfl rfl ([] : List Meadow) rfl rfl rfl rfl) ?_
  rintro _ w1 ⟨A1, rfl, hS⟩
  refine OJ.pures tU_ok 1 rfl ?_
  refine OJ.nil (EJ.next ?_)
  refine CJ.seq ?_
  refine CJ.seq ?_
  refine CJ.region ?_
  refine OJ.pures tU_ok 1 rfl ?_
  obtain ⟨t2, ht2, H⟩ := pbind H
  refine OJ.callF rfl rfl rfl rfl rfl hb28 rfl (spec_l00Src_pick.c _ Aa0_0 ca0_0 a0 ba0 4 ((hS.subs [0] [0] [] rfl).pick [0] [0] rfl) _ ht2) ?_
  rintro _ w1 ⟨rfl, hs⟩
  replace hS := hS.back [0] rfl rfl [box ba0 ([.slice Aa0_0 a0.code.length ca0_0, .int .i64 t2.2.at_, .int .u64 t2.2.seed]) 77] [] hs ⟨fun _ => Iff.rfl, trivial⟩
  refine OJ.pures tU_ok 2 rfl ?_
  refine OJ.nil (EJ.next ?_)
  obtain ⟨j2, H, K2⟩ := pbind H
  refine CJ.cut1 (fun F w1 => ∃ (y3 : List Meadow) (y6 : Int) (y7 : Int) (A4 : Option Addr) (c5 : Nat), (some (y3, y6, y7) : Option ((List Meadow) × Int × Int)) = some j2 ∧ F = [(3, .slice A4 y3.length c5)] ∧ St w (fpU [box ba0 ([.slice Aa0_0 a0.code.length ca0_0, .int .i64 a0.at_, .int .u64 a0.seed]) 77]) w1 [box ba0 ([.slice Aa0_0 a0.code.length ca0_0, .int .i64 y6, .int .u64 y7]) 77, rowC cMeadow A4 c5 47 y3] [roC (ci .u8) Aa0_0 ca0_0 a0.code]) ?_ ?_
  · skip
    refine CJ.block ?_
    refine CJ.loop (fun k F w1 => ∃ (y8 : List Meadow) (y11 : Int) (y12 : Int) (y13 : Int) (A9 : Option Addr) (c10 : Nat), F = [(0, .pointer (some ⟨ba0, 0, none⟩)), (3, .slice A9 y8.length c10), (4, .int .i64 y11)] ∧ St w (fpU [box ba0 ([.slice Aa0_0 a0.code.length ca0_0, .int .i64 a0.at_, .int .u64 a0.seed]) 77]) w1 [box ba0 ([.slice Aa0_0 a0.code.length ca0_0, .int .i64 y12, .int .u64 y13]) 77, rowC cMeadow A9 c10 47 y8] [roC (ci .u8) Aa0_0 ca0_0 a0.code] ∧ spec_l07Drawn.l1 a0 k y8 y11 y12 y13 = some j2) k (F' := [(0, .pointer (some ⟨ba0, 0, none⟩)), (3, .slice A1 ([] : List Meadow).length (([] : List Meadow).length)), (4, .int .i64 (IntKind.i64.wrap (1 + t2.1)))]) ⟨rfl, rfl, rfl, trivial⟩ ⟨([] : List Meadow), (IntKind.i64.wrap (1 + t2.1)), t2.2.at_, t2.2.seed, A1, (([] : List Meadow).length), rfl, hS.pick [0, 1] [0] rfl, H⟩ ?_
    rintro k F w1 ⟨y8, y11, y12, y13, A9, c10, rfl, hS, H⟩
    cases k with
    | zero => rw [spec_l07Drawn.l1] at H; cases H
    | succ k =>
      rw [spec_l07Drawn.l1] at H
      refine CJ.seq ?_
      refine CJ.seq ?_
      refine CJ.region ?_
      refine OJ.pures tU_ok 2 rfl ?_
      refine OJ.nil (EJ.next ?_)
      refine CJ.cond rfl (fun hb => ?_) (fun hb => ?_)
      · replace H := pif_t (of_decide_eq_true hb) H
        refine CJ.skip (EJ.next ?_)
        refine CJ.seq ?_
        refine CJ.block ?_
        refine CJ.seq ?_
        refine CJ.region ?_
        refine OJ.pures tU_ok 1 rfl ?_
        obtain ⟨t14, ht14, H⟩ := pbind H
        refine OJ.callF rfl rfl rfl rfl rfl hb28 rfl (spec_l00Src_pick.c _ Aa0_0 ca0_0 (⟨a0.code, y12, y13⟩ : l00Src) ba0 14 ((hS.subs [0] [0] [] rfl).pick [0] [0] rfl) _ ht14) ?_
        rintro _ w1 ⟨rfl, hs⟩
        replace hS := hS.back [0] rfl rfl [box ba0 ([.slice Aa0_0 a0.code.length ca0_0, .int .i64 t14.2.at_, .int .u64 t14.2.seed]) 77] [] hs ⟨fun _ => Iff.rfl, trivial⟩
        refine OJ.pures tU_ok 1 rfl ?_
        refine OJ.nil (EJ.next ?_)
        refine CJ.seq ?_
        refine CJ.region ?_
        refine OJ.pures tU_ok 3 rfl ?_
        obtain ⟨t15, ht15, H⟩ := pbind H
        refine OJ.callF rfl rfl rfl rfl rfl hb28 rfl (spec_l00Src_pick.c _ Aa0_0 ca0_0 (⟨a0.code, t14.2.at_, t14.2.seed⟩ : l00Src) ba0 (IntKind.i64.wrap (t14.1 + 1)) ((hS.subs [0] [0] [] rfl).pick [0] [0] rfl) _ ht15) ?_
        rintro _ w1 ⟨rfl, hs⟩
        replace hS := hS.back [0] rfl rfl [box ba0 ([.slice Aa0_0 a0.code.length ca0_0, .int .i64 t15.2.at_, .int .u64 t15.2.seed]) 77] [] hs ⟨fun _ => Iff.rfl, trivial⟩
        refine OJ.pures tU_ok 3 rfl ?_
        refine OJ.st rfl rfl rfl (SR.build (C := cMeadow) tU_ok tI_ok rfl rfl rfl (zs := [.int .i16 0, .int .i16 0, .int .i16 0]) rfl rfl rfl (⟨IntKind.i16.wrap t15.1, 0, IntKind.i16.wrap t14.1⟩ : Meadow) rfl) ?_
        refine OJ.ef rfl rfl rfl (Ef.alloc hS tI_ok rfl rfl (cMeadow.enc (⟨0, 0, 0⟩ : Meadow)) rfl) ?_
        rintro _ w1 ⟨b16, rfl, hS⟩
        refine OJ.es rfl rfl (Es.store tI_ok hS (i := 2) rfl rfl rfl rfl rfl rfl (vs := cMeadow.enc (⟨IntKind.i16.wrap t15.1, 0, IntKind.i16.wrap t14.1⟩ : Meadow)) rfl (cMeadow.len _) (cMeadow.one _) (Nat.le_of_ble_eq_true rfl) (cMeadow.enc (⟨IntKind.i16.wrap t15.1, 0, IntKind.i16.wrap t14.1⟩ : Meadow)) rfl) ?_
        intro w1 hS
        refine OJ.nil (EJ.next ?_)
        refine CJ.seq ?_
        refine CJ.region ?_
        refine OJ.pures tU_ok 2 rfl ?_
        obtain ⟨t17, ht17, H⟩ := pbind H
        refine OJ.callF rfl rfl rfl rfl rfl hb55 rfl (spec_l00Min.c _ t14.1 3 _ ht17) ?_
        rintro _ w1 ⟨rfl, hs⟩
        replace hS := hS.grow hs
        refine OJ.pures tU_ok 1 rfl ?_
        obtain ⟨t18, ht18, H⟩ := pbind H
        refine OJ.callF rfl rfl rfl rfl rfl hb28 rfl (spec_l00Src_pick.c _ Aa0_0 ca0_0 (⟨a0.code, t15.2.at_, t15.2.seed⟩ : l00Src) ba0 (IntKind.i64.wrap (t17 + 1)) ((hS.subs [0] [0] [] rfl).pick [0] [0] rfl) _ ht18) ?_
        rintro _ w1 ⟨rfl, hs⟩
        replace hS := hS.back [0] rfl rfl [box ba0 ([.slice Aa0_0 a0.code.length ca0_0, .int .i64 t18.2.at_, .int .u64 t18.2.seed]) 77] [] hs ⟨fun _ => Iff.rfl, trivial⟩
        refine OJ.pures tU_ok 1 rfl ?_
        refine OJ.st rfl rfl rfl (SR.fieldAddr tU_ok tI_ok rfl rfl rfl rfl rfl rfl) ?_
        refine OJ.es rfl rfl (Es.store tI_ok hS (i := 2) rfl rfl rfl (G.ad1 _ _) rfl rfl (vs := (ci .i16).enc (IntKind.i16.wrap t18.1)) rfl rfl (one1 rfl) (Nat.le_of_ble_eq_true rfl) (cMeadow.enc (⟨IntKind.i16.wrap t15.1, IntKind.i16.wrap t18.1, IntKind.i16.wrap t14.1⟩ : Meadow)) rfl) ?_
        intro w1 hS
        refine OJ.nil (EJ.next ?_)
        refine CJ.region ?_
        refine OJ.pures tU_ok 1 rfl ?_
        refine OJ.st rfl rfl rfl (SR.load rfl rfl (fun w' hx => ldE tU_ok tI_ok rfl rfl rfl (CA.ext (hS.cells (i := 2) rfl) hx) rfl)) ?_
        refine OJ.ef rfl rfl rfl (Ef.lit tU_ok tI_ok hS (C := cMeadow) rfl rfl rfl rfl rfl rfl ([(⟨IntKind.i16.wrap t15.1, IntKind.i16.wrap t18.1, IntKind.i16.wrap t14.1⟩ : Meadow)] : List Meadow) rfl rfl rfl rfl) ?_
        rintro _ w1 ⟨A19, rfl, hS⟩
        obtain ⟨u20, hu20, H⟩ := pbind H
        refine OJ.ew rfl rfl rfl (Ew.append tU_ok tI_ok (C := cMeadow) (xs := y8) (ys := ([(⟨IntKind.i16.wrap t15.1, IntKind.i16.wrap t18.1, IntKind.i16.wrap t14.1⟩ : Meadow)] : List Meadow)) hS (i := 1) rfl rfl rfl rfl rfl rfl rfl rfl rfl rfl rfl rfl rfl (hS.rd (i := 3) rfl) (chk_some hu20)) ?_
        rintro _ w1 ⟨A21, c22, rfl, hS⟩
        refine OJ.pures tU_ok 1 rfl ?_
        refine OJ.nil (EJ.blk (EJ.next ?_))
        refine CJ.region ?_
        refine OJ.pures tU_ok 3 rfl ?_
        refine OJ.nil ?_
        exact EJ.round k (F' := [(0, .pointer (some ⟨ba0, 0, none⟩)), (3, .slice A21 (y8 ++ ([(⟨IntKind.i16.wrap t15.1, IntKind.i16.wrap t18.1, IntKind.i16.wrap t14.1⟩ : Meadow)] : List Meadow)).length c22), (4, .int .i64 (IntKind.i64.wrap (y11 - 1)))]) ⟨rfl, rfl, rfl, trivial⟩ (Nat.lt_succ_self _) ⟨(y8 ++ ([(⟨IntKind.i16.wrap t15.1, IntKind.i16.wrap t18.1, IntKind.i16.wrap t14.1⟩ : Meadow)] : List Meadow)), (IntKind.i64.wrap (y11 - 1)), t18.2.at_, t18.2.seed, A21, c22, rfl, hS.pick [0, 1] [0] rfl, H⟩
      · replace H := pif_f (of_decide_eq_false hb) H
        refine CJ.exit (EJ.skE (EJ.skE (EJ.hit (?_))))
        exact EJ.meet (F' := [(3, .slice A9 y8.length c10)]) ⟨rfl, trivial⟩ ⟨y8, y12, y13, A9, c10, H, rfl, hS.pick [0, 1] [0] rfl⟩
  · rintro F w1 ⟨y3, y6, y7, A4, c5, he, rfl, hS⟩
    obtain rfl := Option.some.inj he
    have H := K2
    refine EJ.next ?_
    refine CJ.seq ?_
    refine CJ.region ?_
    refine OJ.pures tU_ok 2 rfl ?_
    refine OJ.nil (EJ.next ?_)
    refine CJ.ret (?_)
    obtain rfl := Option.some.inj H
    exact EJ.fin rfl (.tmp rfl .nil) ⟨A4, c5, rfl, hS.pick [0, 1] [] rfl⟩

def spec_P6Meadows.f (k : Nat) (a0 : List Int) : Option (List Meadow) := (spec_l00From.f a0).bind fun t1 => (spec_l07Drawn.f k (⟨a0, t1.at_, t1.seed⟩ : l00Src)).bind fun t3 => some t3.1
theorem spec_P6Meadows.c (k : Nat) (w : World) (Aa0 : Option Addr) (ca0 : Nat) (a0 : List Int) (hr0 : Rd (ci .u8) w Aa0 a0) (hc0 : a0.length ≤ ca0) (r : List Meadow) (H : spec_P6Meadows.f k a0 = some r) :
    CV Try.prog 5 [.slice Aa0 a0.length ca0].toArray w fun v w' => ∃ (A0 : Option Addr) (c0 : Nat), v = .slice A0 r.length c0 ∧ St w no w' [rowC cMeadow A0 c0 47 r] [] := by
  have hS := ((St.init w no).param (ci .u8) Aa0 ca0 a0 hr0 hc0)
  unfold spec_P6Meadows.f at H
  refine CV.body Try.func5 rfl Try.ntmps5 rfl ?_
  refine CJ.seq ?_
  refine CJ.region ?_
  refine OJ.pures tU_ok 1 rfl ?_
  refine OJ.nil (EJ.next ?_)
  refine CJ.seq ?_
  refine CJ.region ?_
  refine OJ.pures tU_ok 1 rfl ?_
  obtain ⟨t1, ht1, H⟩ := pbind H
  refine OJ.callF rfl rfl rfl rfl rfl hb27 rfl (spec_l00From.c _ Aa0 ca0 a0 (hS.rd' (i := 0) rfl) (hS.le' (i := 0) rfl) _ ht1) ?_
  rintro _ w1 ⟨b2, rfl, hs⟩
  replace hS := hS.addN hs
  obtain ⟨t3, ht3, H⟩ := pbind H
  refine OJ.callF rfl rfl rfl rfl rfl hb26 rfl (spec_l07Drawn.c k _ Aa0 ca0 (⟨a0, t1.at_, t1.seed⟩ : l00Src) b2 ((hS.subs [0] [0] [] rfl).pick [0] [0] rfl) _ ht3) ?_
  rintro _ w1 ⟨A4, c5, rfl, hs⟩
  replace hS := hS.back [0] rfl rfl [box b2 ([.slice Aa0 a0.length ca0, .int .i64 t3.2.at_, .int .u64 t3.2.seed]) 77] [rowC cMeadow A4 c5 47 t3.1] hs ⟨fun _ => Iff.rfl, trivial⟩
  refine OJ.pures tU_ok 1 rfl ?_
  refine OJ.nil (EJ.next ?_)
  refine CJ.ret (?_)
  obtain rfl := Option.some.inj H
  exact EJ.fin rfl (.tmp rfl .nil) ⟨A4, c5, rfl, hS.pick [1] [] rfl⟩

def spec_P6Pick.f (a0 : List Int) (a1 : Int) : Option Int := (spec_l00From.f a0).bind fun t1 => (spec_l00Src_pick.f (⟨a0, t1.at_, t1.seed⟩ : l00Src) a1).bind fun t3 => some t3.1
theorem spec_P6Pick.c (w : World) (Aa0 : Option Addr) (ca0 : Nat) (a0 : List Int) (hr0 : Rd (ci .u8) w Aa0 a0) (hc0 : a0.length ≤ ca0) (a1 : Int) (r : Int) (H : spec_P6Pick.f a0 a1 = some r) :
    CV Try.prog 6 [.slice Aa0 a0.length ca0, .int .i64 a1].toArray w fun v w' => v = .int .i64 r ∧ Ext w w' := by
  have hS := ((St.init w no).param (ci .u8) Aa0 ca0 a0 hr0 hc0)
  unfold spec_P6Pick.f at H
  refine CV.body Try.func6 rfl Try.ntmps6 rfl ?_
  refine CJ.seq ?_
  refine CJ.region ?_
  refine OJ.pures tU_ok 1 rfl ?_
  refine OJ.nil (EJ.next ?_)
  refine CJ.seq ?_
  refine CJ.region ?_
  refine OJ.pures tU_ok 1 rfl ?_
  obtain ⟨t1, ht1, H⟩ := pbind H
  refine OJ.callF rfl rfl rfl rfl rfl hb27 rfl (spec_l00From.c _ Aa0 ca0 a0 (hS.rd' (i := 0) rfl) (hS.le' (i := 0) rfl) _ ht1) ?_
  rintro _ w1 ⟨b2, rfl, hs⟩
  replace hS := hS.addN hs
  refine OJ.pures tU_ok 1 rfl ?_
  obtain ⟨t3, ht3, H⟩ := pbind H
  refine OJ.callF rfl rfl rfl rfl rfl hb28 rfl (spec_l00Src_pick.c _ Aa0 ca0 (⟨a0, t1.at_, t1.seed⟩ : l00Src) b2 a1 ((hS.subs [0] [0] [] rfl).pick [0] [0] rfl) _ ht3) ?_
  rintro _ w1 ⟨rfl, hs⟩
  replace hS := hS.back [0] rfl rfl [box b2 ([.slice Aa0 a0.length ca0, .int .i64 t3.2.at_, .int .u64 t3.2.seed]) 77] [] hs ⟨fun _ => Iff.rfl, trivial⟩
  refine OJ.pures tU_ok 1 rfl ?_
  refine OJ.nil (EJ.next ?_)
  refine CJ.ret (?_)
  obtain rfl := Option.some.inj H
  exact EJ.fin rfl (.tmp rfl .nil) ⟨rfl, hS.ext⟩

def impl_size_impl_Meadow.f (a0 : List Meadow) : Option Int := some (a0.length : Int)
theorem impl_size_impl_Meadow.c (w : World) (Aa0 : Option Addr) (ca0 : Nat) (a0 : List Meadow) (hr0 : Rd cMeadow w Aa0 a0) (hc0 : a0.length ≤ ca0) (r : Int) (H : impl_size_impl_Meadow.f a0 = some r) :
    CV Try.prog 42 [.slice Aa0 a0.length ca0].toArray w fun v w' => v = .int .i64 r ∧ Ext w w' := by
  have hS := ((St.init w no).param cMeadow Aa0 ca0 a0 hr0 hc0)
  unfold impl_size_impl_Meadow.f at H
  refine CV.body Try.func42 rfl Try.ntmps42 rfl ?_
  refine CJ.seq ?_
  refine CJ.region ?_
  refine OJ.pures tU_ok 1 rfl ?_
  refine OJ.nil (EJ.next ?_)
  refine CJ.seq ?_
  refine CJ.region ?_
  refine OJ.pures tU_ok 3 rfl ?_
  refine OJ.nil (EJ.next ?_)
  refine CJ.ret (?_)
  obtain rfl := Option.some.inj H
  exact EJ.fin rfl (.tmp rfl .nil) ⟨rfl, hS.ext⟩

def impl_within.f (a0 : Int) (a1 : Int) (a2 : Int) : Option Bool := if a1 ≤ a0 then (some (decide (a0 ≤ a2))) else (some false)
theorem impl_within.c (w : World) (a0 : Int) (a1 : Int) (a2 : Int) (r : Bool) (H : impl_within.f a0 a1 a2 = some r) :
    CV Try.prog 41 [.int .i64 a0, .int .i64 a1, .int .i64 a2].toArray w fun v w' => v = .bool r ∧ Ext w w' := by
  have hS := (St.init w no)
  unfold impl_within.f at H
  refine CV.body Try.func41 rfl Try.ntmps41 rfl ?_
  refine CJ.seq ?_
  refine CJ.region ?_
  refine OJ.pures tU_ok 1 rfl ?_
  refine OJ.nil (EJ.next ?_)
  refine CJ.seq ?_
  refine CJ.region ?_
  refine OJ.pures tU_ok 4 rfl ?_
  refine OJ.split (t := 10) rfl (fun hb => ?_) (fun hb => ?_)
  · replace H := pif_t (of_decide_eq_true hb) H
    refine OJ.pures tU_ok 5 rfl ?_
    refine OJ.nil (EJ.next ?_)
    refine CJ.ret (?_)
    obtain rfl := Option.some.inj H
    exact EJ.fin rfl (.tmp rfl .nil) ⟨rfl, hS.ext⟩
  · replace H := pif_f (of_decide_eq_false hb) H
    refine OJ.pures tU_ok 5 rfl ?_
    refine OJ.nil (EJ.next ?_)
    refine CJ.ret (?_)
    obtain rfl := Option.some.inj H
    exact EJ.fin rfl (.tmp rfl .nil) ⟨rfl, hS.ext⟩

def slices_IndexFunc_impl_Meadow_impl_Meadow.l1 (a0 : List Meadow) (a1 : Meadow → Option Bool) : Nat → Int → Option (Int ⊕ Unit)
  | 0, _ => none
  | k + 1, y1 => if y1 < (a0.length : Int) then ((getI a0 y1).bind fun t2 => (a1 t2).bind fun t3 => if t3 = true then (some (Sum.inl y1)) else (slices_IndexFunc_impl_Meadow_impl_Meadow.l1 a0 a1 k (IntKind.i64.wrap (y1 + 1)))) else (some (Sum.inr ()))
def slices_IndexFunc_impl_Meadow_impl_Meadow.f (k : Nat) (a0 : List Meadow) (a1 : Meadow → Option Bool) : Option Int := (slices_IndexFunc_impl_Meadow_impl_Meadow.l1 a0 a1 k 0).bind fun s3 => match s3 with | .inl r => some r | .inr _ => some (-1)
theorem slices_IndexFunc_impl_Meadow_impl_Meadow.c (k : Nat) (w : World) (Aa0 : Option Addr) (ca0 : Nat) (a0 : List Meadow) (hr0 : Rd cMeadow w Aa0 a0) (hc0 : a0.length ≤ ca0) (na1 : Nat) (fsa1 capa1 : Array Value) (hb1 : hasBody Try.prog na1) (a1 : Meadow → Option Bool) (hf1 : ∀ (z0 : Meadow) (r : Bool), a1 z0 = some r → ∀ w', Chg no w w' → CV Try.prog na1 (fsa1 ++ [.agg (cMeadow.enc z0).toArray].toArray ++ capa1) w' fun v w'' => v = .bool r ∧ Ext w' w'') (r : Int) (H : slices_IndexFunc_impl_Meadow_impl_Meadow.f k a0 a1 = some r) :
    CV Try.prog 63 [.slice Aa0 a0.length ca0, .func (.func na1) fsa1 capa1].toArray w fun v w' => v = .int .i64 r ∧ Ext w w' := by
  have hS := ((St.init w no).param cMeadow Aa0 ca0 a0 hr0 hc0)
  unfold slices_IndexFunc_impl_Meadow_impl_Meadow.f at H
  refine CV.body Try.func63 rfl Try.ntmps63 rfl ?_
  refine CJ.seq ?_
  refine CJ.region ?_
  refine OJ.pures tU_ok 1 rfl ?_
  refine OJ.nil (EJ.next ?_)
  refine CJ.seq ?_
  refine CJ.seq ?_
  refine CJ.region ?_
  refine OJ.pures tU_ok 3 rfl ?_
  refine OJ.nil (EJ.next ?_)
  obtain ⟨j3, H, K3⟩ := pbind H
  refine CJ.cut1 (fun F w1 => (some (Sum.inr ()) : Option (Int ⊕ Unit)) = some j3 ∧ F = [] ∧ St w no w1 [] [roC cMeadow Aa0 ca0 a0]) ?_ ?_
  · skip
    refine CJ.block ?_
    refine CJ.loop (fun k F w1 => ∃ (y1 : Int), F = [(0, .slice Aa0 a0.length ca0), (1, .func (.func na1) fsa1 capa1), (7, .int .i64 (a0.length : Int)), (8, .int .i64 y1)] ∧ St w no w1 [] [roC cMeadow Aa0 ca0 a0] ∧ slices_IndexFunc_impl_Meadow_impl_Meadow.l1 a0 a1 k y1 = some j3) k (F' := [(0, .slice Aa0 a0.length ca0), (1, .func (.func na1) fsa1 capa1), (7, .int .i64 (a0.length : Int)), (8, .int .i64 0)]) ⟨rfl, rfl, rfl, rfl, trivial⟩ ⟨0, rfl, hS.pick [] [0] rfl, H⟩ ?_
    rintro k F w1 ⟨y1, rfl, hS, H⟩
    cases k with
    | zero => rw [slices_IndexFunc_impl_Meadow_impl_Meadow.l1] at H; cases H
    | succ k =>
      rw [slices_IndexFunc_impl_Meadow_impl_Meadow.l1] at H
      refine CJ.seq ?_
      refine CJ.region ?_
      refine OJ.pures tU_ok 1 rfl ?_
      refine OJ.nil (EJ.next ?_)
      refine CJ.seq ?_
      refine CJ.cond rfl (fun hb => ?_) (fun hb => ?_)
      · replace H := pif_t (of_decide_eq_true hb) H
        refine CJ.skip (EJ.next ?_)
        refine CJ.seq ?_
        refine CJ.block ?_
        refine CJ.seq ?_
        refine CJ.region ?_
        refine OJ.pures tU_ok 2 rfl ?_
        refine OJ.nil (EJ.next ?_)
        refine CJ.seq ?_
        refine CJ.region ?_
        refine OJ.pures tU_ok 3 rfl ?_
        obtain ⟨t2, ht2, H⟩ := pbind H
        obtain ⟨ad2, e2⟩ := (hS.rd' (i := 0) rfl).some' ht2
        refine OJ.st rfl rfl rfl (SR.idxS tU_ok tI_ok rfl rfl rfl rfl e2 rfl (getI_some ht2).1) ?_
        refine OJ.st rfl rfl rfl (SR.load rfl rfl (fun w' hx => ldE tU_ok tI_ok rfl rfl rfl (CA.ext ((hS.rd' (i := 0) rfl).at_ e2 ht2) hx) rfl)) ?_
        obtain ⟨t3, ht3, H⟩ := pbind H
        refine OJ.call rfl rfl (Nat.le_of_ble_eq_true rfl) rfl rfl rfl hb1 rfl (hf1 t2 _ ht3 _ hS.chg) ?_
        rintro _ w1 ⟨rfl, hs⟩
        replace hS := hS.grow hs
        refine OJ.nil (EJ.next ?_)
        refine CJ.cond rfl (fun hb => ?_) (fun hb => ?_)
        · replace H := pif_t hb H
          refine CJ.seq ?_
          refine CJ.region ?_
          refine OJ.pures tU_ok 2 rfl ?_
          refine OJ.nil (EJ.next ?_)
          refine CJ.ret (EJ.bkR (EJ.skR (EJ.skR (EJ.bkR (EJ.skR (EJ.skR (?_)))))))
          first | (obtain rfl := Option.some.inj H; have H := K3) | (obtain ⟨q3, H2, e3⟩ := pbind H; obtain rfl := Option.some.inj e3; obtain rfl := Option.some.inj K3; have H := H2)
          obtain rfl := Option.some.inj H
          exact EJ.fin rfl (.tmp rfl .nil) ⟨rfl, hS.ext⟩
        · replace H := pifb_f hb H
          refine CJ.skip (EJ.blk (EJ.next ?_))
          refine CJ.region ?_
          refine OJ.pures tU_ok 2 rfl ?_
          refine OJ.nil ?_
          exact EJ.round k (F' := [(0, .slice Aa0 a0.length ca0), (1, .func (.func na1) fsa1 capa1), (7, .int .i64 (a0.length : Int)), (8, .int .i64 (IntKind.i64.wrap (y1 + 1)))]) ⟨rfl, rfl, rfl, rfl, trivial⟩ (Nat.lt_succ_self _) ⟨(IntKind.i64.wrap (y1 + 1)), rfl, hS.pick [] [0] rfl, H⟩
      · replace H := pif_f (of_decide_eq_false hb) H
        refine CJ.exit (EJ.skE (EJ.skE (EJ.hit (?_))))
        exact EJ.meet (F' := []) trivial ⟨H, rfl, hS.pick [] [0] rfl⟩
  · rintro F w1 ⟨he, rfl, hS⟩
    obtain rfl := Option.some.inj he
    have H := K3
    refine EJ.next ?_
    refine CJ.seq ?_
    refine CJ.region ?_
    refine OJ.pures tU_ok 1 rfl ?_
    refine OJ.nil (EJ.next ?_)
    refine CJ.ret (?_)
    obtain rfl := Option.some.inj H
    exact EJ.fin rfl (.tmp rfl .nil) ⟨rfl, hS.ext⟩

def slices_ContainsFunc_impl_Meadow_impl_Meadow.f (k : Nat) (a0 : List Meadow) (a1 : Meadow → Option Bool) : Option Bool := (slices_IndexFunc_impl_Meadow_impl_Meadow.f k a0 a1).bind fun t1 => some (decide (0 ≤ t1))
theorem slices_ContainsFunc_impl_Meadow_impl_Meadow.c (k : Nat) (w : World) (Aa0 : Option Addr) (ca0 : Nat) (a0 : List Meadow) (hr0 : Rd cMeadow w Aa0 a0) (hc0 : a0.length ≤ ca0) (na1 : Nat) (fsa1 capa1 : Array Value) (hb1 : hasBody Try.prog na1) (a1 : Meadow → Option Bool) (hf1 : ∀ (z0 : Meadow) (r : Bool), a1 z0 = some r → ∀ w', Chg no w w' → CV Try.prog na1 (fsa1 ++ [.agg (cMeadow.enc z0).toArray].toArray ++ capa1) w' fun v w'' => v = .bool r ∧ Ext w' w'') (r : Bool) (H : slices_ContainsFunc_impl_Meadow_impl_Meadow.f k a0 a1 = some r) :
    CV Try.prog 43 [.slice Aa0 a0.length ca0, .func (.func na1) fsa1 capa1].toArray w fun v w' => v = .bool r ∧ Ext w w' := by
  have hS := ((St.init w no).param cMeadow Aa0 ca0 a0 hr0 hc0)
  unfold slices_ContainsFunc_impl_Meadow_impl_Meadow.f at H
  refine CV.body Try.func43 rfl Try.ntmps43 rfl ?_
  refine CJ.seq ?_
  refine CJ.region ?_
  refine OJ.pures tU_ok 1 rfl ?_
  refine OJ.nil (EJ.next ?_)
  refine CJ.seq ?_
  refine CJ.region ?_
  refine OJ.pures tU_ok 2 rfl ?_
  obtain ⟨t1, ht1, H⟩ := pbind H
  refine OJ.callF rfl rfl rfl rfl rfl hb63 rfl (slices_IndexFunc_impl_Meadow_impl_Meadow.c k _ Aa0 ca0 a0 (hS.rd' (i := 0) rfl) (hS.le' (i := 0) rfl) na1 fsa1 capa1 hb1 a1 (fun z0 r h w' hx => hf1 z0 r h w' (hS.chg.then hx (fun _ _ e => e.elim))) _ ht1) ?_
  rintro _ w1 ⟨rfl, hs⟩
  replace hS := hS.grow hs
  refine OJ.pures tU_ok 2 rfl ?_
  refine OJ.nil (EJ.next ?_)
  refine CJ.ret (?_)
  obtain rfl := Option.some.inj H
  exact EJ.fin rfl (.tmp rfl .nil) ⟨rfl, hS.ext⟩

def impl_ValidMeadows_1.f (a0 : Meadow) : Option Bool := (impl_within.f (IntKind.i64.wrap a0.Most) 0 1000).bind fun t2 => if (!t2) = true then (some true) else ((impl_within.f (IntKind.i64.wrap a0.Grass) 0 (IntKind.i64.wrap a0.Most)).bind fun t3 => if (!t3) = true then (some true) else ((impl_within.f (IntKind.i64.wrap a0.Grows) 0 (IntKind.i64.wrap a0.Most)).bind fun t4 => some (!t4)))
theorem impl_ValidMeadows_1.c (w : World) (a0 : Meadow) (r : Bool) (H : impl_ValidMeadows_1.f a0 = some r) :
    CV Try.prog 44 [.agg (cMeadow.enc a0).toArray].toArray w fun v w' => v = .bool r ∧ Ext w w' := by
  have hS := (St.init w no)
  unfold impl_ValidMeadows_1.f at H
  refine CV.body Try.func44 rfl Try.ntmps44 rfl ?_
  refine CJ.seq ?_
  refine CJ.region ?_
  refine OJ.ef rfl rfl rfl (Ef.box hS rfl rfl (cMeadow.enc a0) rfl) ?_
  rintro _ w1 ⟨b1, rfl, hS⟩
  refine OJ.pures tU_ok 1 rfl ?_
  refine OJ.nil (EJ.next ?_)
  refine CJ.seq ?_
  refine CJ.region ?_
  refine OJ.st rfl rfl rfl (SR.fieldAddr tU_ok tI_ok rfl rfl rfl rfl rfl rfl) ?_
  refine OJ.st rfl rfl rfl (SR.load rfl rfl (fun w' hx => ld1 tU_ok rfl rfl (CA.ext (CA.sub (hS.cells (i := 0) rfl) 2) hx) rfl)) ?_
  refine OJ.pures tU_ok 1 rfl ?_
  obtain ⟨t2, ht2, H⟩ := pbind H
  refine OJ.callF rfl rfl rfl rfl rfl hb41 rfl (impl_within.c _ (IntKind.i64.wrap a0.Most) 0 1000 _ ht2) ?_
  rintro _ w1 ⟨rfl, hs⟩
  replace hS := hS.grow hs
  refine OJ.pures tU_ok 2 rfl ?_
  refine OJ.split (t := 8) rfl (fun hb => ?_) (fun hb => ?_)
  · replace H := pif_t hb H
    refine OJ.pures tU_ok 20 rfl ?_
    refine OJ.nil (EJ.next ?_)
    refine CJ.ret (?_)
    obtain rfl := Option.some.inj H
    exact EJ.fin rfl (.tmp rfl .nil) ⟨rfl, hS.ext⟩
  · replace H := pifb_f hb H
    refine OJ.st rfl rfl rfl (SR.fieldAddr tU_ok tI_ok rfl rfl rfl rfl rfl rfl) ?_
    refine OJ.st rfl rfl rfl (SR.load rfl rfl (fun w' hx => ld1 tU_ok rfl rfl (CA.ext (CA.sub (hS.cells (i := 0) rfl) 0) hx) rfl)) ?_
    refine OJ.pures tU_ok 1 rfl ?_
    refine OJ.st rfl rfl rfl (SR.fieldAddr tU_ok tI_ok rfl rfl rfl rfl rfl rfl) ?_
    refine OJ.st rfl rfl rfl (SR.load rfl rfl (fun w' hx => ld1 tU_ok rfl rfl (CA.ext (CA.sub (hS.cells (i := 0) rfl) 2) hx) rfl)) ?_
    refine OJ.pures tU_ok 1 rfl ?_
    obtain ⟨t3, ht3, H⟩ := pbind H
    refine OJ.callF rfl rfl rfl rfl rfl hb41 rfl (impl_within.c _ (IntKind.i64.wrap a0.Grass) 0 (IntKind.i64.wrap a0.Most) _ ht3) ?_
    rintro _ w1 ⟨rfl, hs⟩
    replace hS := hS.grow hs
    refine OJ.pures tU_ok 3 rfl ?_
    refine OJ.split (t := 18) rfl (fun hb => ?_) (fun hb => ?_)
    · replace H := pif_t hb H
      refine OJ.pures tU_ok 10 rfl ?_
      refine OJ.nil (EJ.next ?_)
      refine CJ.ret (?_)
      obtain rfl := Option.some.inj H
      exact EJ.fin rfl (.tmp rfl .nil) ⟨rfl, hS.ext⟩
    · replace H := pifb_f hb H
      refine OJ.st rfl rfl rfl (SR.fieldAddr tU_ok tI_ok rfl rfl rfl rfl rfl rfl) ?_
      refine OJ.st rfl rfl rfl (SR.load rfl rfl (fun w' hx => ld1 tU_ok rfl rfl (CA.ext (CA.sub (hS.cells (i := 0) rfl) 1) hx) rfl)) ?_
      refine OJ.pures tU_ok 1 rfl ?_
      refine OJ.st rfl rfl rfl (SR.fieldAddr tU_ok tI_ok rfl rfl rfl rfl rfl rfl) ?_
      refine OJ.st rfl rfl rfl (SR.load rfl rfl (fun w' hx => ld1 tU_ok rfl rfl (CA.ext (CA.sub (hS.cells (i := 0) rfl) 2) hx) rfl)) ?_
      refine OJ.pures tU_ok 1 rfl ?_
      obtain ⟨t4, ht4, H⟩ := pbind H
      refine OJ.callF rfl rfl rfl rfl rfl hb41 rfl (impl_within.c _ (IntKind.i64.wrap a0.Grows) 0 (IntKind.i64.wrap a0.Most) _ ht4) ?_
      rintro _ w1 ⟨rfl, hs⟩
      replace hS := hS.grow hs
      refine OJ.pures tU_ok 3 rfl ?_
      refine OJ.nil (EJ.next ?_)
      refine CJ.ret (?_)
      obtain rfl := Option.some.inj H
      exact EJ.fin rfl (.tmp rfl .nil) ⟨rfl, hS.ext⟩

def impl_ValidMeadows.f (k : Nat) (a0 : List Meadow) : Option Bool := (impl_size_impl_Meadow.f a0).bind fun t1 => (impl_within.f t1 1 6).bind fun t2 => if t2 = true then ((slices_ContainsFunc_impl_Meadow_impl_Meadow.f k a0 impl_ValidMeadows_1.f).bind fun t3 => some (!t3)) else (some false)
theorem impl_ValidMeadows.c (k : Nat) (w : World) (Aa0 : Option Addr) (ca0 : Nat) (a0 : List Meadow) (hr0 : Rd cMeadow w Aa0 a0) (hc0 : a0.length ≤ ca0) (r : Bool) (H : impl_ValidMeadows.f k a0 = some r) :
    CV Try.prog 15 [.slice Aa0 a0.length ca0].toArray w fun v w' => v = .bool r ∧ Ext w w' := by
  have hS := ((St.init w no).param cMeadow Aa0 ca0 a0 hr0 hc0)
  unfold impl_ValidMeadows.f at H
  refine CV.body Try.func15 rfl Try.ntmps15 rfl ?_
  refine CJ.seq ?_
  refine CJ.region ?_
  refine OJ.pures tU_ok 1 rfl ?_
  refine OJ.nil (EJ.next ?_)
  refine CJ.seq ?_
  refine CJ.region ?_
  refine OJ.pures tU_ok 1 rfl ?_
  obtain ⟨t1, ht1, H⟩ := pbind H
  refine OJ.callF rfl rfl rfl rfl rfl hb42 rfl (impl_size_impl_Meadow.c _ Aa0 ca0 a0 (hS.rd' (i := 0) rfl) (hS.le' (i := 0) rfl) _ ht1) ?_
  rintro _ w1 ⟨rfl, hs⟩
  replace hS := hS.grow hs
  obtain ⟨t2, ht2, H⟩ := pbind H
  refine OJ.callF rfl rfl rfl rfl rfl hb41 rfl (impl_within.c _ t1 1 6 _ ht2) ?_
  rintro _ w1 ⟨rfl, hs⟩
  replace hS := hS.grow hs
  refine OJ.pures tU_ok 1 rfl ?_
  refine OJ.split (t := 6) rfl (fun hb => ?_) (fun hb => ?_)
  · replace H := pif_t hb H
    refine OJ.pures tU_ok 1 rfl ?_
    obtain ⟨t3, ht3, H⟩ := pbind H
    refine OJ.callF rfl rfl rfl rfl rfl hb43 rfl (slices_ContainsFunc_impl_Meadow_impl_Meadow.c k _ Aa0 ca0 a0 (hS.rd' (i := 0) rfl) (hS.le' (i := 0) rfl) 44 #[] #[] hb44 impl_ValidMeadows_1.f (fun z0 r h w' hx => CV.cast (impl_ValidMeadows_1.c w'   z0 r h) (by simp)) _ ht3) ?_
    rintro _ w1 ⟨rfl, hs⟩
    replace hS := hS.grow hs
    refine OJ.pures tU_ok 3 rfl ?_
    refine OJ.nil (EJ.next ?_)
    refine CJ.ret (?_)
    obtain rfl := Option.some.inj H
    exact EJ.fin rfl (.tmp rfl .nil) ⟨rfl, hS.ext⟩
  · replace H := pifb_f hb H
    refine OJ.pures tU_ok 5 rfl ?_
    refine OJ.nil (EJ.next ?_)
    refine CJ.ret (?_)
    obtain rfl := Option.some.inj H
    exact EJ.fin rfl (.tmp rfl .nil) ⟨rfl, hS.ext⟩

def slices_IndexFunc_int64_int64.l1 (a0 : List Int) (a1 : Int → Option Bool) : Nat → Int → Option (Int ⊕ Unit)
  | 0, _ => none
  | k + 1, y1 => if y1 < (a0.length : Int) then ((getI a0 y1).bind fun t2 => (a1 t2).bind fun t3 => if t3 = true then (some (Sum.inl y1)) else (slices_IndexFunc_int64_int64.l1 a0 a1 k (IntKind.i64.wrap (y1 + 1)))) else (some (Sum.inr ()))
def slices_IndexFunc_int64_int64.f (k : Nat) (a0 : List Int) (a1 : Int → Option Bool) : Option Int := (slices_IndexFunc_int64_int64.l1 a0 a1 k 0).bind fun s4 => match s4 with | .inl r => some r | .inr _ => some (-1)
theorem slices_IndexFunc_int64_int64.c (k : Nat) (w : World) (Aa0 : Option Addr) (ca0 : Nat) (a0 : List Int) (hr0 : Rd (ci .i64) w Aa0 a0) (hc0 : a0.length ≤ ca0) (na1 : Nat) (fsa1 capa1 : Array Value) (hb1 : hasBody Try.prog na1) (a1 : Int → Option Bool) (hf1 : ∀ (z0 : Int) (r : Bool), a1 z0 = some r → ∀ w', Chg no w w' → CV Try.prog na1 (fsa1 ++ [.int .i64 z0].toArray ++ capa1) w' fun v w'' => v = .bool r ∧ Ext w' w'') (r : Int) (H : slices_IndexFunc_int64_int64.f k a0 a1 = some r) :
    CV Try.prog 66 [.slice Aa0 a0.length ca0, .func (.func na1) fsa1 capa1].toArray w fun v w' => v = .int .i64 r ∧ Ext w w' := by
  have hS := ((St.init w no).param (ci .i64) Aa0 ca0 a0 hr0 hc0)
  unfold slices_IndexFunc_int64_int64.f at H
  refine CV.body Try.func66 rfl Try.ntmps66 rfl ?_
  refine CJ.seq ?_
  refine CJ.region ?_
  refine OJ.pures tU_ok 1 rfl ?_
  refine OJ.nil (EJ.next ?_)
  refine CJ.seq ?_
  refine CJ.seq ?_
  refine CJ.region ?_
  refine OJ.pures tU_ok 3 rfl ?_
  refine OJ.nil (EJ.next ?_)
  obtain ⟨j4, H, K4⟩ := pbind H
  refine CJ.cut1 (fun F w1 => (some (Sum.inr ()) : Option (Int ⊕ Unit)) = some j4 ∧ F = [] ∧ St w no w1 [] [roC (ci .i64) Aa0 ca0 a0]) ?_ ?_
  · skip
    refine CJ.block ?_
    refine CJ.loop (fun k F w1 => ∃ (y1 : Int), F = [(0, .slice Aa0 a0.length ca0), (1, .func (.func na1) fsa1 capa1), (7, .int .i64 (a0.length : Int)), (8, .int .i64 y1)] ∧ St w no w1 [] [roC (ci .i64) Aa0 ca0 a0] ∧ slices_IndexFunc_int64_int64.l1 a0 a1 k y1 = some j4) k (F' := [(0, .slice Aa0 a0.length ca0), (1, .func (.func na1) fsa1 capa1), (7, .int .i64 (a0.length : Int)), (8, .int .i64 0)]) ⟨rfl, rfl, rfl, rfl, trivial⟩ ⟨0, rfl, hS.pick [] [0] rfl, H⟩ ?_
    rintro k F w1 ⟨y1, rfl, hS, H⟩
    cases k with
    | zero => rw [slices_IndexFunc_int64_int64.l1] at H; cases H
    | succ k =>
      rw [slices_IndexFunc_int64_int64.l1] at H
      refine CJ.seq ?_
      refine CJ.region ?_
      refine OJ.pures tU_ok 1 rfl ?_
      refine OJ.nil (EJ.next ?_)
      refine CJ.seq ?_
      refine CJ.cond rfl (fun hb => ?_) (fun hb => ?_)
      · replace H := pif_t (of_decide_eq_true hb) H
        refine CJ.skip (EJ.next ?_)
        refine CJ.seq ?_
        refine CJ.block ?_
        refine CJ.seq ?_
        refine CJ.region ?_
        refine OJ.pures tU_ok 2 rfl ?_
        refine OJ.nil (EJ.next ?_)
        refine CJ.seq ?_
        refine CJ.region ?_
        refine OJ.pures tU_ok 3 rfl ?_
        obtain ⟨t2, ht2, H⟩ := pbind H
        obtain ⟨ad2, e2⟩ := (hS.rd' (i := 0) rfl).some' ht2
        refine OJ.st rfl rfl rfl (SR.idxS tU_ok tI_ok rfl rfl rfl rfl e2 rfl (getI_some ht2).1) ?_
        refine OJ.st rfl rfl rfl (SR.load rfl rfl (fun w' hx => ld1 tU_ok rfl rfl (CA.ext ((hS.rd' (i := 0) rfl).at_ e2 ht2) hx) rfl)) ?_
        obtain ⟨t3, ht3, H⟩ := pbind H
        refine OJ.call rfl rfl (Nat.le_of_ble_eq_true rfl) rfl rfl rfl hb1 rfl (hf1 t2 _ ht3 _ hS.chg) ?_
        rintro _ w1 ⟨rfl, hs⟩
        replace hS := hS.grow hs
        refine OJ.nil (EJ.next ?_)
        refine CJ.cond rfl (fun hb => ?_) (fun hb => ?_)
        · replace H := pif_t hb H
          refine CJ.seq ?_
          refine CJ.region ?_
          refine OJ.pures tU_ok 2 rfl ?_
          refine OJ.nil (EJ.next ?_)
          refine CJ.ret (EJ.bkR (EJ.skR (EJ.skR (EJ.bkR (EJ.skR (EJ.skR (?_)))))))
          first | (obtain rfl := Option.some.inj H; have H := K4) | (obtain ⟨q4, H2, e4⟩ := pbind H; obtain rfl := Option.some.inj e4; obtain rfl := Option.some.inj K4; have H := H2)
          obtain rfl := Option.some.inj H
          exact EJ.fin rfl (.tmp rfl .nil) ⟨rfl, hS.ext⟩
        · replace H := pifb_f hb H
          refine CJ.skip (EJ.blk (EJ.next ?_))
          refine CJ.region ?_
          refine OJ.pures tU_ok 2 rfl ?_
          refine OJ.nil ?_
          exact EJ.round k (F' := [(0, .slice Aa0 a0.length ca0), (1, .func (.func na1) fsa1 capa1), (7, .int .i64 (a0.length : Int)), (8, .int .i64 (IntKind.i64.wrap (y1 + 1)))]) ⟨rfl, rfl, rfl, rfl, trivial⟩ (Nat.lt_succ_self _) ⟨(IntKind.i64.wrap (y1 + 1)), rfl, hS.pick [] [0] rfl, H⟩
      · replace H := pif_f (of_decide_eq_false hb) H
        refine CJ.exit (EJ.skE (EJ.skE (EJ.hit (?_))))
        exact EJ.meet (F' := []) trivial ⟨H, rfl, hS.pick [] [0] rfl⟩
  · rintro F w1 ⟨he, rfl, hS⟩
    obtain rfl := Option.some.inj he
    have H := K4
    refine EJ.next ?_
    refine CJ.seq ?_
    refine CJ.region ?_
    refine OJ.pures tU_ok 1 rfl ?_
    refine OJ.nil (EJ.next ?_)
    refine CJ.ret (?_)
    obtain rfl := Option.some.inj H
    exact EJ.fin rfl (.tmp rfl .nil) ⟨rfl, hS.ext⟩

def slices_ContainsFunc_int64_int64.f (k : Nat) (a0 : List Int) (a1 : Int → Option Bool) : Option Bool := (slices_IndexFunc_int64_int64.f k a0 a1).bind fun t1 => some (decide (0 ≤ t1))
theorem slices_ContainsFunc_int64_int64.c (k : Nat) (w : World) (Aa0 : Option Addr) (ca0 : Nat) (a0 : List Int) (hr0 : Rd (ci .i64) w Aa0 a0) (hc0 : a0.length ≤ ca0) (na1 : Nat) (fsa1 capa1 : Array Value) (hb1 : hasBody Try.prog na1) (a1 : Int → Option Bool) (hf1 : ∀ (z0 : Int) (r : Bool), a1 z0 = some r → ∀ w', Chg no w w' → CV Try.prog na1 (fsa1 ++ [.int .i64 z0].toArray ++ capa1) w' fun v w'' => v = .bool r ∧ Ext w' w'') (r : Bool) (H : slices_ContainsFunc_int64_int64.f k a0 a1 = some r) :
    CV Try.prog 61 [.slice Aa0 a0.length ca0, .func (.func na1) fsa1 capa1].toArray w fun v w' => v = .bool r ∧ Ext w w' := by
  have hS := ((St.init w no).param (ci .i64) Aa0 ca0 a0 hr0 hc0)
  unfold slices_ContainsFunc_int64_int64.f at H
  refine CV.body Try.func61 rfl Try.ntmps61 rfl ?_
  refine CJ.seq ?_
  refine CJ.region ?_
  refine OJ.pures tU_ok 1 rfl ?_
  refine OJ.nil (EJ.next ?_)
  refine CJ.seq ?_
  refine CJ.region ?_
  refine OJ.pures tU_ok 2 rfl ?_
  obtain ⟨t1, ht1, H⟩ := pbind H
  refine OJ.callF rfl rfl rfl rfl rfl hb66 rfl (slices_IndexFunc_int64_int64.c k _ Aa0 ca0 a0 (hS.rd' (i := 0) rfl) (hS.le' (i := 0) rfl) na1 fsa1 capa1 hb1 a1 (fun z0 r h w' hx => hf1 z0 r h w' (hS.chg.then hx (fun _ _ e => e.elim))) _ ht1) ?_
  rintro _ w1 ⟨rfl, hs⟩
  replace hS := hS.grow hs
  refine OJ.pures tU_ok 2 rfl ?_
  refine OJ.nil (EJ.next ?_)
  refine CJ.ret (?_)
  obtain rfl := Option.some.inj H
  exact EJ.fin rfl (.tmp rfl .nil) ⟨rfl, hS.ext⟩

def impl_meadowCode_1.f (a1 : List Meadow) (a0 : Int) : Option Bool := (impl_size_impl_Meadow.f a1).bind fun t1 => (impl_within.f a0 0 (IntKind.i64.wrap (t1 - 1))).bind fun t2 => some (!t2)
theorem impl_meadowCode_1.c (w : World) (Aa1 : Option Addr) (ca1 : Nat) (a1 : List Meadow) (hr1 : Rd cMeadow w Aa1 a1) (hc1 : a1.length ≤ ca1) (pa1 : Addr) (hp1 : CA w pa1 [.slice Aa1 a1.length ca1]) (a0 : Int) (r : Bool) (H : impl_meadowCode_1.f a1 a0 = some r) :
    CV Try.prog 62 [.int .i64 a0, .pointer (some pa1)].toArray w fun v w' => v = .bool r ∧ Ext w w' := by
  have hS := (((St.init w no).param cMeadow Aa1 ca1 a1 hr1 hc1).paramP pa1 [.slice Aa1 a1.length ca1] hp1)
  unfold impl_meadowCode_1.f at H
  refine CV.body Try.func62 rfl Try.ntmps62 rfl ?_
  refine CJ.seq ?_
  refine CJ.region ?_
  refine OJ.pures tU_ok 1 rfl ?_
  refine OJ.nil (EJ.next ?_)
  refine CJ.seq ?_
  refine CJ.region ?_
  refine OJ.pures tU_ok 1 rfl ?_
  refine OJ.st rfl rfl rfl (SR.load rfl rfl (fun w' hx => ld1 tU_ok rfl rfl (CA.ext (hS.ca (i := 1) rfl) hx) rfl)) ?_
  obtain ⟨t1, ht1, H⟩ := pbind H
  refine OJ.callF rfl rfl rfl rfl rfl hb42 rfl (impl_size_impl_Meadow.c _ Aa1 ca1 a1 (hS.rd' (i := 0) rfl) (hS.le' (i := 0) rfl) _ ht1) ?_
  rintro _ w1 ⟨rfl, hs⟩
  replace hS := hS.grow hs
  refine OJ.pures tU_ok 1 rfl ?_
  obtain ⟨t2, ht2, H⟩ := pbind H
  refine OJ.callF rfl rfl rfl rfl rfl hb41 rfl (impl_within.c _ a0 0 (IntKind.i64.wrap (t1 - 1)) _ ht2) ?_
  rintro _ w1 ⟨rfl, hs⟩
  replace hS := hS.grow hs
  refine OJ.pures tU_ok 2 rfl ?_
  refine OJ.nil (EJ.next ?_)
  refine CJ.ret (?_)
  obtain rfl := Option.some.inj H
  exact EJ.fin rfl (.tmp rfl .nil) ⟨rfl, hS.ext⟩

def impl_unless.f (a0 : Bool) (a1 : Int) : Option Int := if a0 = true then (some 0) else (some a1)
theorem impl_unless.c (w : World) (a0 : Bool) (a1 : Int) (r : Int) (H : impl_unless.f a0 a1 = some r) :
    CV Try.prog 54 [.bool a0, .int .i64 a1].toArray w fun v w' => v = .int .i64 r ∧ Ext w w' := by
  have hS := (St.init w no)
  unfold impl_unless.f at H
  refine CV.body Try.func54 rfl Try.ntmps54 rfl ?_
  refine CJ.seq ?_
  refine CJ.region ?_
  refine OJ.pures tU_ok 1 rfl ?_
  refine OJ.nil (EJ.next ?_)
  refine CJ.seq ?_
  refine CJ.seq ?_
  refine CJ.region ?_
  refine OJ.pures tU_ok 1 rfl ?_
  refine OJ.nil (EJ.next ?_)
  refine CJ.cond rfl (fun hb => ?_) (fun hb => ?_)
  · replace H := pif_t hb H
    refine CJ.seq ?_
    refine CJ.region ?_
    refine OJ.pures tU_ok 1 rfl ?_
    refine OJ.nil (EJ.next ?_)
    refine CJ.ret (EJ.skR (?_))
    obtain rfl := Option.some.inj H
    exact EJ.fin rfl (.tmp rfl .nil) ⟨rfl, hS.ext⟩
  · replace H := pifb_f hb H
    refine CJ.skip (EJ.next ?_)
    refine CJ.seq ?_
    refine CJ.region ?_
    refine OJ.pures tU_ok 2 rfl ?_
    refine OJ.nil (EJ.next ?_)
    refine CJ.ret (?_)
    obtain rfl := Option.some.inj H
    exact EJ.fin rfl (.tmp rfl .nil) ⟨rfl, hS.ext⟩

def impl_meadowCode.f (k : Nat) (a0 : List Meadow) (a1 : Int) (a2 : List Int) : Option Int := (impl_ValidMeadows.f k a0).bind fun t2 => if (!t2) = true then (some 1) else ((slices_ContainsFunc_int64_int64.f k a2 (impl_meadowCode_1.f a0)).bind fun t3 => (impl_within.f a1 1 1000).bind fun t4 => if t4 = true then ((impl_unless.f (!t3) 2).bind fun t5 => some t5) else ((impl_unless.f false 2).bind fun t6 => some t6))
theorem impl_meadowCode.c (k : Nat) (w : World) (Aa0 : Option Addr) (ca0 : Nat) (a0 : List Meadow) (hr0 : Rd cMeadow w Aa0 a0) (hc0 : a0.length ≤ ca0) (a1 : Int) (Aa2 : Option Addr) (ca2 : Nat) (a2 : List Int) (hr2 : Rd (ci .i64) w Aa2 a2) (hc2 : a2.length ≤ ca2) (r : Int) (H : impl_meadowCode.f k a0 a1 a2 = some r) :
    CV Try.prog 38 [.slice Aa0 a0.length ca0, .int .i64 a1, .slice Aa2 a2.length ca2].toArray w fun v w' => v = .int .i64 r ∧ Ext w w' := by
  have hS := (((St.init w no).param cMeadow Aa0 ca0 a0 hr0 hc0).param (ci .i64) Aa2 ca2 a2 hr2 hc2)
  unfold impl_meadowCode.f at H
  refine CV.body Try.func38 rfl Try.ntmps38 rfl ?_
  refine CJ.seq ?_
  refine CJ.region ?_
  refine OJ.ef rfl rfl rfl (Ef.box hS rfl rfl ([.slice Aa0 a0.length ca0]) rfl) ?_
  rintro _ w1 ⟨b1, rfl, hS⟩
  refine OJ.pures tU_ok 1 rfl ?_
  refine OJ.nil (EJ.next ?_)
  refine CJ.seq ?_
  refine CJ.seq ?_
  refine CJ.region ?_
  refine OJ.st rfl rfl rfl (SR.load rfl rfl (fun w' hx => ld1 tU_ok rfl rfl (CA.ext (hS.cells (i := 0) rfl) hx) rfl)) ?_
  obtain ⟨t2, ht2, H⟩ := pbind H
  refine OJ.callF rfl rfl rfl rfl rfl hb15 rfl (impl_ValidMeadows.c k _ Aa0 ca0 a0 (hS.rd' (i := 0) rfl) (hS.le' (i := 0) rfl) _ ht2) ?_
  rintro _ w1 ⟨rfl, hs⟩
  replace hS := hS.grow hs
  refine OJ.pures tU_ok 1 rfl ?_
  refine OJ.nil (EJ.next ?_)
  refine CJ.cond rfl (fun hb => ?_) (fun hb => ?_)
  · replace H := pif_t hb H
    refine CJ.seq ?_
    refine CJ.region ?_
    refine OJ.pures tU_ok 1 rfl ?_
    refine OJ.nil (EJ.next ?_)
    refine CJ.ret (EJ.skR (?_))
    obtain rfl := Option.some.inj H
    exact EJ.fin rfl (.tmp rfl .nil) ⟨rfl, hS.ext⟩
  · replace H := pifb_f hb H
    refine CJ.skip (EJ.next ?_)
    refine CJ.seq ?_
    refine CJ.region ?_
    refine OJ.pures tU_ok 2 rfl ?_
    obtain ⟨t3, ht3, H⟩ := pbind H
    refine OJ.callF rfl rfl rfl rfl rfl hb61 rfl (slices_ContainsFunc_int64_int64.c k _ Aa2 ca2 a2 (hS.rd' (i := 1) rfl) (hS.le' (i := 1) rfl) 62 #[] #[.pointer (some ⟨b1, 0, none⟩)] hb62 (impl_meadowCode_1.f a0) (fun z0 r h w' hx => CV.cast (impl_meadowCode_1.c w' Aa0 ca0 a0 ((hS.rd' (i := 0) rfl).ext hx) (hS.le' (i := 0) rfl) ⟨b1, 0, none⟩ (CA.ext (hS.cells (i := 0) rfl) hx)  z0 r h) (by simp)) _ ht3) ?_
    rintro _ w1 ⟨rfl, hs⟩
    replace hS := hS.grow hs
    refine OJ.pures tU_ok 2 rfl ?_
    refine OJ.nil (EJ.next ?_)
    refine CJ.seq ?_
    refine CJ.region ?_
    refine OJ.pures tU_ok 1 rfl ?_
    obtain ⟨t4, ht4, H⟩ := pbind H
    refine OJ.callF rfl rfl rfl rfl rfl hb41 rfl (impl_within.c _ a1 1 1000 _ ht4) ?_
    rintro _ w1 ⟨rfl, hs⟩
    replace hS := hS.grow hs
    refine OJ.pures tU_ok 1 rfl ?_
    refine OJ.split (t := 17) rfl (fun hb => ?_) (fun hb => ?_)
    · replace H := pif_t hb H
      refine OJ.pures tU_ok 2 rfl ?_
      obtain ⟨t5, ht5, H⟩ := pbind H
      refine OJ.callF rfl rfl rfl rfl rfl hb54 rfl (impl_unless.c _ (!t3) 2 _ ht5) ?_
      rintro _ w1 ⟨rfl, hs⟩
      replace hS := hS.grow hs
      refine OJ.pures tU_ok 1 rfl ?_
      refine OJ.nil (EJ.next ?_)
      refine CJ.ret (?_)
      obtain rfl := Option.some.inj H
      exact EJ.fin rfl (.tmp rfl .nil) ⟨rfl, hS.ext⟩
    · replace H := pifb_f hb H
      refine OJ.pures tU_ok 2 rfl ?_
      obtain ⟨t6, ht6, H⟩ := pbind H
      refine OJ.callF rfl rfl rfl rfl rfl hb54 rfl (impl_unless.c _ false 2 _ ht6) ?_
      rintro _ w1 ⟨rfl, hs⟩
      replace hS := hS.grow hs
      refine OJ.pures tU_ok 1 rfl ?_
      refine OJ.nil (EJ.next ?_)
      refine CJ.ret (?_)
      obtain rfl := Option.some.inj H
      exact EJ.fin rfl (.tmp rfl .nil) ⟨rfl, hS.ext⟩

def impl_firstOf.l1 (a0 : List Int) : Nat → Int → Option (Int ⊕ Unit)
  | 0, _ => none
  | k + 1, y1 => if y1 < (a0.length : Int) then ((getI a0 y1).bind fun t2 => if t2 ≠ 0 then (some (Sum.inl t2)) else (impl_firstOf.l1 a0 k (IntKind.i64.wrap (y1 + 1)))) else (some (Sum.inr ()))
def impl_firstOf.f (k : Nat) (a0 : List Int) : Option Int := (impl_firstOf.l1 a0 k 0).bind fun s5 => match s5 with | .inl r => some r | .inr _ => some 0
theorem impl_firstOf.c (k : Nat) (w : World) (Aa0 : Option Addr) (ca0 : Nat) (a0 : List Int) (hr0 : Rd (ci .i64) w Aa0 a0) (hc0 : a0.length ≤ ca0) (r : Int) (H : impl_firstOf.f k a0 = some r) :
    CV Try.prog 53 [.slice Aa0 a0.length ca0].toArray w fun v w' => v = .int .i64 r ∧ Ext w w' := by
  have hS := ((St.init w no).param (ci .i64) Aa0 ca0 a0 hr0 hc0)
  unfold impl_firstOf.f at H
  refine CV.body Try.func53 rfl Try.ntmps53 rfl ?_
  refine CJ.seq ?_
  refine CJ.region ?_
  refine OJ.pures tU_ok 1 rfl ?_
  refine OJ.nil (EJ.next ?_)
  refine CJ.seq ?_
  refine CJ.seq ?_
  refine CJ.region ?_
  refine OJ.pures tU_ok 3 rfl ?_
  refine OJ.nil (EJ.next ?_)
  obtain ⟨j5, H, K5⟩ := pbind H
  refine CJ.cut1 (fun F w1 => (some (Sum.inr ()) : Option (Int ⊕ Unit)) = some j5 ∧ F = [] ∧ St w no w1 [] [roC (ci .i64) Aa0 ca0 a0]) ?_ ?_
  · skip
    refine CJ.block ?_
    refine CJ.loop (fun k F w1 => ∃ (y1 : Int), F = [(5, .slice Aa0 a0.length ca0), (6, .int .i64 (a0.length : Int)), (7, .int .i64 y1)] ∧ St w no w1 [] [roC (ci .i64) Aa0 ca0 a0] ∧ impl_firstOf.l1 a0 k y1 = some j5) k (F' := [(5, .slice Aa0 a0.length ca0), (6, .int .i64 (a0.length : Int)), (7, .int .i64 0)]) ⟨rfl, rfl, rfl, trivial⟩ ⟨0, rfl, hS.pick [] [0] rfl, H⟩ ?_
    rintro k F w1 ⟨y1, rfl, hS, H⟩
    cases k with
    | zero => rw [impl_firstOf.l1] at H; cases H
    | succ k =>
      rw [impl_firstOf.l1] at H
      refine CJ.seq ?_
      refine CJ.region ?_
      refine OJ.pures tU_ok 1 rfl ?_
      refine OJ.nil (EJ.next ?_)
      refine CJ.seq ?_
      refine CJ.cond rfl (fun hb => ?_) (fun hb => ?_)
      · replace H := pif_t (of_decide_eq_true hb) H
        refine CJ.skip (EJ.next ?_)
        refine CJ.seq ?_
        refine CJ.block ?_
        refine CJ.seq ?_
        refine CJ.region ?_
        obtain ⟨t2, ht2, H⟩ := pbind H
        obtain ⟨ad2, e2⟩ := (hS.rd' (i := 0) rfl).some' ht2
        refine OJ.st rfl rfl rfl (SR.idxS tU_ok tI_ok rfl rfl rfl rfl e2 rfl (getI_some ht2).1) ?_
        refine OJ.st rfl rfl rfl (SR.load rfl rfl (fun w' hx => ld1 tU_ok rfl rfl (CA.ext ((hS.rd' (i := 0) rfl).at_ e2 ht2) hx) rfl)) ?_
        refine OJ.pures tU_ok 1 rfl ?_
        refine OJ.nil (EJ.next ?_)
        refine CJ.seq ?_
        refine CJ.region ?_
        refine OJ.pures tU_ok 2 rfl ?_
        refine OJ.nil (EJ.next ?_)
        refine CJ.cond rfl (fun hb => ?_) (fun hb => ?_)
        · replace H := pif_t (of_decide_eq_true hb) H
          refine CJ.seq ?_
          refine CJ.region ?_
          refine OJ.pures tU_ok 2 rfl ?_
          refine OJ.nil (EJ.next ?_)
          refine CJ.ret (EJ.bkR (EJ.skR (EJ.skR (EJ.bkR (EJ.skR (EJ.skR (?_)))))))
          first | (obtain rfl := Option.some.inj H; have H := K5) | (obtain ⟨q5, H2, e5⟩ := pbind H; obtain rfl := Option.some.inj e5; obtain rfl := Option.some.inj K5; have H := H2)
          obtain rfl := Option.some.inj H
          exact EJ.fin rfl (.tmp rfl .nil) ⟨rfl, hS.ext⟩
        · replace H := pif_f (of_decide_eq_false hb) H
          refine CJ.skip (EJ.blk (EJ.next ?_))
          refine CJ.region ?_
          refine OJ.pures tU_ok 2 rfl ?_
          refine OJ.nil ?_
          exact EJ.round k (F' := [(5, .slice Aa0 a0.length ca0), (6, .int .i64 (a0.length : Int)), (7, .int .i64 (IntKind.i64.wrap (y1 + 1)))]) ⟨rfl, rfl, rfl, trivial⟩ (Nat.lt_succ_self _) ⟨(IntKind.i64.wrap (y1 + 1)), rfl, hS.pick [] [0] rfl, H⟩
      · replace H := pif_f (of_decide_eq_false hb) H
        refine CJ.exit (EJ.skE (EJ.skE (EJ.hit (?_))))
        exact EJ.meet (F' := []) trivial ⟨H, rfl, hS.pick [] [0] rfl⟩
  · rintro F w1 ⟨he, rfl, hS⟩
    obtain rfl := Option.some.inj he
    have H := K5
    refine EJ.next ?_
    refine CJ.seq ?_
    refine CJ.region ?_
    refine OJ.pures tU_ok 1 rfl ?_
    refine OJ.nil (EJ.next ?_)
    refine CJ.ret (?_)
    obtain rfl := Option.some.inj H
    exact EJ.fin rfl (.tmp rfl .nil) ⟨rfl, hS.ext⟩

def impl_spanCode.f (k : Nat) (a0 : List Meadow) (a1 : Int) (a2 : Int) (a3 : Int) : Option Int := (impl_meadowCode.f k a0 a1 []).bind fun t1 => (impl_within.f a2 0 30).bind fun t2 => if t2 = true then ((impl_within.f a3 0 20000).bind fun t3 => (impl_unless.f t3 2).bind fun t4 => (impl_firstOf.f k ([t1, t4] : List Int)).bind fun t6 => some t6) else ((impl_unless.f false 2).bind fun t7 => (impl_firstOf.f k ([t1, t7] : List Int)).bind fun t9 => some t9)
theorem impl_spanCode.c (k : Nat) (w : World) (Aa0 : Option Addr) (ca0 : Nat) (a0 : List Meadow) (hr0 : Rd cMeadow w Aa0 a0) (hc0 : a0.length ≤ ca0) (a1 : Int) (a2 : Int) (a3 : Int) (r : Int) (H : impl_spanCode.f k a0 a1 a2 a3 = some r) :
    CV Try.prog 29 [.slice Aa0 a0.length ca0, .int .i64 a1, .int .i64 a2, .int .i64 a3].toArray w fun v w' => v = .int .i64 r ∧ Ext w w' := by
  have hS := ((St.init w no).param cMeadow Aa0 ca0 a0 hr0 hc0)
  unfold impl_spanCode.f at H
  refine CV.body Try.func29 rfl Try.ntmps29 rfl ?_
  refine CJ.seq ?_
  refine CJ.region ?_
  refine OJ.pures tU_ok 1 rfl ?_
  refine OJ.nil (EJ.next ?_)
  refine CJ.seq ?_
  refine CJ.region ?_
  refine OJ.pures tU_ok 2 rfl ?_
  obtain ⟨t1, ht1, H⟩ := pbind H
  refine OJ.callF rfl rfl rfl rfl rfl hb38 rfl (impl_meadowCode.c k _ Aa0 ca0 a0 (hS.rd' (i := 0) rfl) (hS.le' (i := 0) rfl) a1 none 0 [] (Rd.nil (ci .i64) _ _) (Nat.le_refl _) _ ht1) ?_
  rintro _ w1 ⟨rfl, hs⟩
  replace hS := hS.grow hs
  refine OJ.pures tU_ok 1 rfl ?_
  obtain ⟨t2, ht2, H⟩ := pbind H
  refine OJ.callF rfl rfl rfl rfl rfl hb41 rfl (impl_within.c _ a2 0 30 _ ht2) ?_
  rintro _ w1 ⟨rfl, hs⟩
  replace hS := hS.grow hs
  refine OJ.pures tU_ok 1 rfl ?_
  refine OJ.split (t := 14) rfl (fun hb => ?_) (fun hb => ?_)
  · replace H := pif_t hb H
    refine OJ.pures tU_ok 1 rfl ?_
    obtain ⟨t3, ht3, H⟩ := pbind H
    refine OJ.callF rfl rfl rfl rfl rfl hb41 rfl (impl_within.c _ a3 0 20000 _ ht3) ?_
    rintro _ w1 ⟨rfl, hs⟩
    replace hS := hS.grow hs
    refine OJ.pures tU_ok 1 rfl ?_
    obtain ⟨t4, ht4, H⟩ := pbind H
    refine OJ.callF rfl rfl rfl rfl rfl hb54 rfl (impl_unless.c _ t3 2 _ ht4) ?_
    rintro _ w1 ⟨rfl, hs⟩
    replace hS := hS.grow hs
    refine OJ.ef rfl rfl rfl (Ef.lit tU_ok tI_ok hS (C := (ci .i64)) rfl rfl rfl rfl rfl rfl ([t1, t4] : List Int) rfl rfl rfl rfl) ?_
    rintro _ w1 ⟨A5, rfl, hS⟩
    obtain ⟨t6, ht6, H⟩ := pbind H
    refine OJ.callF rfl rfl rfl rfl rfl hb53 rfl (impl_firstOf.c k _ A5 (([t1, t4] : List Int).length) ([t1, t4] : List Int) (hS.rd (i := 0) rfl) (hS.le (i := 0) rfl) _ ht6) ?_
    rintro _ w1 ⟨rfl, hs⟩
    replace hS := hS.grow hs
    refine OJ.pures tU_ok 1 rfl ?_
    refine OJ.nil (EJ.next ?_)
    refine CJ.ret (?_)
    obtain rfl := Option.some.inj H
    exact EJ.fin rfl (.tmp rfl .nil) ⟨rfl, hS.ext⟩
  · replace H := pifb_f hb H
    refine OJ.pures tU_ok 3 rfl ?_
    obtain ⟨t7, ht7, H⟩ := pbind H
    refine OJ.callF rfl rfl rfl rfl rfl hb54 rfl (impl_unless.c _ false 2 _ ht7) ?_
    rintro _ w1 ⟨rfl, hs⟩
    replace hS := hS.grow hs
    refine OJ.ef rfl rfl rfl (Ef.lit tU_ok tI_ok hS (C := (ci .i64)) rfl rfl rfl rfl rfl rfl ([t1, t7] : List Int) rfl rfl rfl rfl) ?_
    rintro _ w1 ⟨A8, rfl, hS⟩
    obtain ⟨t9, ht9, H⟩ := pbind H
    refine OJ.callF rfl rfl rfl rfl rfl hb53 rfl (impl_firstOf.c k _ A8 (([t1, t7] : List Int).length) ([t1, t7] : List Int) (hS.rd (i := 0) rfl) (hS.le (i := 0) rfl) _ ht9) ?_
    rintro _ w1 ⟨rfl, hs⟩
    replace hS := hS.grow hs
    refine OJ.pures tU_ok 1 rfl ?_
    refine OJ.nil (EJ.next ?_)
    refine CJ.ret (?_)
    obtain rfl := Option.some.inj H
    exact EJ.fin rfl (.tmp rfl .nil) ⟨rfl, hS.ext⟩

def impl_size_int64.f (a0 : List Int) : Option Int := some (a0.length : Int)
theorem impl_size_int64.c (w : World) (Aa0 : Option Addr) (ca0 : Nat) (a0 : List Int) (hr0 : Rd (ci .i64) w Aa0 a0) (hc0 : a0.length ≤ ca0) (r : Int) (H : impl_size_int64.f a0 = some r) :
    CV Try.prog 36 [.slice Aa0 a0.length ca0].toArray w fun v w' => v = .int .i64 r ∧ Ext w w' := by
  have hS := ((St.init w no).param (ci .i64) Aa0 ca0 a0 hr0 hc0)
  unfold impl_size_int64.f at H
  refine CV.body Try.func36 rfl Try.ntmps36 rfl ?_
  refine CJ.seq ?_
  refine CJ.region ?_
  refine OJ.pures tU_ok 1 rfl ?_
  refine OJ.nil (EJ.next ?_)
  refine CJ.seq ?_
  refine CJ.region ?_
  refine OJ.pures tU_ok 3 rfl ?_
  refine OJ.nil (EJ.next ?_)
  refine CJ.ret (?_)
  obtain rfl := Option.some.inj H
  exact EJ.fin rfl (.tmp rfl .nil) ⟨rfl, hS.ext⟩

def slices_Clone_impl_Meadow_impl_Meadow.f (a0 : List Meadow) : Option (List Meadow) := (chk (([] : List Meadow).length + a0.length ≤ 4294967296)).bind fun _ => some a0
theorem slices_Clone_impl_Meadow_impl_Meadow.c (w : World) (A : Option Addr) (c : Nat) (a0 : List Meadow) (hr0 : Rd cMeadow w A a0) (hc0 : a0.length ≤ c) (r : List Meadow) (H : slices_Clone_impl_Meadow_impl_Meadow.f a0 = some r) :
    CV Try.prog 51 [.slice A a0.length c].toArray w fun v w' => ∃ (A0 : Option Addr) (c0 : Nat), v = .slice A0 r.length c0 ∧ St w no w' [rowC cMeadow A0 c0 47 r] [] := by
  have hS := ((St.init w no).param cMeadow A c a0 hr0 hc0)
  obtain ⟨u, hu, H⟩ := pbind H
  obtain rfl := Option.some.inj H
  refine CV.body Try.func51 rfl Try.ntmps51 rfl ?_
  refine CJ.seq ?_
  refine CJ.region ?_
  refine OJ.pures tU_ok 1 rfl ?_
  refine OJ.nil (EJ.next ?_)
  refine CJ.seq ?_
  refine CJ.seq ?_
  refine CJ.region ?_
  refine OJ.pures tU_ok 1 rfl ?_
  refine OJ.st rfl rfl rfl (SR.eqNil tU_ok rfl rfl rfl rfl) ?_
  refine OJ.nil (EJ.next ?_)
  refine CJ.cond rfl (fun hb => ?_) (fun hb => ?_)
  · obtain rfl := hr0.isNone hb
    refine CJ.seq ?_
    refine CJ.region ?_
    refine OJ.pures tU_ok 1 rfl ?_
    refine OJ.nil (EJ.next ?_)
    refine CJ.ret (EJ.skR ?_)
    replace hS := hS.addNil cMeadow 47 none
    exact EJ.fin rfl (.tmp rfl .nil) ⟨none, 0, rfl, hS.pick [0] [] rfl⟩
  · refine CJ.skip (EJ.next ?_)
    refine CJ.seq ?_
    refine CJ.region ?_
    refine OJ.ef rfl rfl rfl (Ef.lit tU_ok tI_ok hS (C := cMeadow) rfl rfl rfl rfl rfl rfl ([] : List Meadow) rfl rfl rfl rfl) ?_
    rintro _ w1 ⟨A1, rfl, hS⟩
    refine OJ.pures tU_ok 1 rfl ?_
    refine OJ.ew rfl rfl rfl (Ew.append tU_ok tI_ok (C := cMeadow) (xs := ([] : List Meadow)) (ys := a0) hS (i := 0) rfl rfl rfl rfl rfl rfl rfl rfl rfl rfl rfl rfl rfl (hS.rd' (i := 0) rfl) (chk_some hu)) ?_
    rintro _ w1 ⟨A2, c2, rfl, hS⟩
    refine OJ.pures tU_ok 1 rfl ?_
    refine OJ.nil (EJ.next ?_)
    exact CJ.ret (EJ.fin rfl (.tmp rfl .nil) ⟨A2, c2, rfl, hS.pick [0] [] rfl⟩)

def impl_behind.l1 (a1 : Int) (a2 : Int) (t2 : List Meadow) (t5 : Meadow) (t6 : Meadow) : Nat → (List Meadow) → Int → Option (List Meadow)
  | 0, _, _ => none
  | k + 1, y8, y9 => if y9 < ((t2.set a2.toNat (⟨IntKind.i16.wrap (t5.Grass - (IntKind.i16.wrap a1)), t6.Grows, t6.Most⟩ : Meadow)).length : Int) then ((getI y8 y9).bind fun t10 => (getI y8 y9).bind fun t12 => impl_behind.l1 a1 a2 t2 t5 t6 k (y8.set y9.toNat (⟨(if t10.Most < (IntKind.i16.wrap (t10.Grass + t10.Grows)) then t10.Most else (IntKind.i16.wrap (t10.Grass + t10.Grows))), t12.Grows, t12.Most⟩ : Meadow)) (IntKind.i64.wrap (y9 + 1))) else (some y8)
def impl_behind.f (k : Nat) (a0 : List Meadow) (a1 : Int) (a2 : Int) : Option (List Meadow × Bool) := (getI a0 a2).bind fun t1 => if (IntKind.i64.wrap t1.Grass) < a1 then (some ([], false)) else ((slices_Clone_impl_Meadow_impl_Meadow.f a0).bind fun t2 => (getI t2 a2).bind fun t5 => (getI t2 a2).bind fun t6 => (impl_behind.l1 a1 a2 t2 t5 t6 k (t2.set a2.toNat (⟨IntKind.i16.wrap (t5.Grass - (IntKind.i16.wrap a1)), t6.Grows, t6.Most⟩ : Meadow)) 0).bind fun y7 => some (y7, true))
theorem impl_behind.c (k : Nat) (w : World) (Aa0 : Option Addr) (ca0 : Nat) (a0 : List Meadow) (hr0 : Rd cMeadow w Aa0 a0) (hc0 : a0.length ≤ ca0) (a1 : Int) (a2 : Int) (r : List Meadow × Bool) (H : impl_behind.f k a0 a1 a2 = some r) :
    CV Try.prog 47 [.slice Aa0 a0.length ca0, .int .i64 a1, .int .i64 a2].toArray w fun v w' => ∃ (A0 : Option Addr) (c0 : Nat), v = .tuple #[.slice A0 r.1.length c0, .bool r.2] ∧ St w no w' [rowC cMeadow A0 c0 47 r.1] [] := by
  have hS := ((St.init w no).param cMeadow Aa0 ca0 a0 hr0 hc0)
  unfold impl_behind.f at H
  refine CV.body Try.func47 rfl Try.ntmps47 rfl ?_
  refine CJ.seq ?_
  refine CJ.region ?_
  refine OJ.pures tU_ok 2 rfl ?_
  refine OJ.nil (EJ.next ?_)
  refine CJ.seq ?_
  refine CJ.seq ?_
  refine CJ.region ?_
  refine OJ.pures tU_ok 2 rfl ?_
  obtain ⟨t1, ht1, H⟩ := pbind H
  obtain ⟨ad1, e1⟩ := (hS.rd' (i := 0) rfl).some' ht1
  refine OJ.st rfl rfl rfl (SR.idxS tU_ok tI_ok rfl rfl rfl rfl e1 rfl (getI_some ht1).1) ?_
  refine OJ.st rfl rfl rfl (SR.fieldAddr tU_ok tI_ok rfl rfl rfl rfl rfl rfl) ?_
  refine OJ.st rfl rfl rfl (SR.load rfl rfl (fun w' hx => ld1 tU_ok rfl rfl (CA.ext (CA.sub ((hS.rd' (i := 0) rfl).at_ e1 ht1) 0) hx) rfl)) ?_
  refine OJ.pures tU_ok 3 rfl ?_
  refine OJ.nil (EJ.next ?_)
  refine CJ.cond rfl (fun hb => ?_) (fun hb => ?_)
  · replace H := pif_t (of_decide_eq_true hb) H
    refine CJ.seq ?_
    refine CJ.region ?_
    refine OJ.pures tU_ok 2 rfl ?_
    refine OJ.nil (EJ.next ?_)
    refine CJ.ret (EJ.skR (?_))
    replace hS := hS.addNil cMeadow 47 none
    obtain rfl := Option.some.inj H
    exact EJ.fin rfl (.tmp rfl (.tmp rfl .nil)) ⟨none, 0, rfl, hS.pick [0] [] rfl⟩
  · replace H := pif_f (of_decide_eq_false hb) H
    refine CJ.skip (EJ.next ?_)
    refine CJ.seq ?_
    refine CJ.region ?_
    refine OJ.pures tU_ok 1 rfl ?_
    obtain ⟨t2, ht2, H⟩ := pbind H
    refine OJ.callF rfl rfl rfl rfl rfl hb51 rfl (slices_Clone_impl_Meadow_impl_Meadow.c _ Aa0 ca0 a0 (hS.rd' (i := 0) rfl) (hS.le' (i := 0) rfl) _ ht2) ?_
    rintro _ w1 ⟨A3, c4, rfl, hs⟩
    replace hS := hS.addN hs
    refine OJ.pures tU_ok 1 rfl ?_
    refine OJ.nil (EJ.next ?_)
    refine CJ.seq ?_
    refine CJ.region ?_
    refine OJ.pures tU_ok 2 rfl ?_
    obtain ⟨t5, ht5, H⟩ := pbind H
    obtain ⟨ad5, e5⟩ := (hS.rd (i := 0) rfl).some' ht5
    refine OJ.st rfl rfl rfl (SR.idxS tU_ok tI_ok rfl rfl rfl rfl e5 rfl (getI_some ht5).1) ?_
    refine OJ.st rfl rfl rfl (SR.fieldAddr tU_ok tI_ok rfl rfl rfl rfl rfl rfl) ?_
    refine OJ.st rfl rfl rfl (SR.load rfl rfl (fun w' hx => ld1 tU_ok rfl rfl (CA.ext (CA.sub ((hS.rd (i := 0) rfl).at_ e5 ht5) 0) hx) rfl)) ?_
    refine OJ.pures tU_ok 3 rfl ?_
    obtain ⟨t6, ht6, H⟩ := pbind H
    obtain ⟨ad6, e6⟩ := (hS.rd (i := 0) rfl).some' ht6
    refine OJ.st rfl rfl rfl (SR.idxS tU_ok tI_ok rfl rfl rfl rfl e6 rfl (getI_some ht6).1) ?_
    refine OJ.st rfl rfl rfl (SR.fieldAddr tU_ok tI_ok rfl rfl rfl rfl rfl rfl) ?_
    refine OJ.es rfl rfl (Es.storeR tI_ok hS (i := 0) (off := 0) rfl rfl ht6 e6 rfl (add_add _ _ _) rfl rfl (vs := (ci .i16).enc (IntKind.i16.wrap (t5.Grass - (IntKind.i16.wrap a1)))) rfl rfl (one1 rfl) (Nat.le_of_ble_eq_true rfl) (⟨IntKind.i16.wrap (t5.Grass - (IntKind.i16.wrap a1)), t6.Grows, t6.Most⟩ : Meadow) rfl) ?_
    intro w1 hS
    refine OJ.as (t := 20) rfl (show _ = (.slice A3 (t2.set a2.toNat (⟨IntKind.i16.wrap (t5.Grass - (IntKind.i16.wrap a1)), t6.Grows, t6.Most⟩ : Meadow)).length c4 : Value) by simp only [List.length_set]) ?_
    refine OJ.as (t := 8) rfl (show _ = (.slice A3 (t2.set a2.toNat (⟨IntKind.i16.wrap (t5.Grass - (IntKind.i16.wrap a1)), t6.Grows, t6.Most⟩ : Meadow)).length c4 : Value) by simp only [List.length_set]) ?_
    refine OJ.as (t := 21) rfl (show _ = (.slice A3 (t2.set a2.toNat (⟨IntKind.i16.wrap (t5.Grass - (IntKind.i16.wrap a1)), t6.Grows, t6.Most⟩ : Meadow)).length c4 : Value) by simp only [List.length_set]) ?_
    refine OJ.nil (EJ.next ?_)
    refine CJ.seq ?_
    refine CJ.seq ?_
    refine CJ.region ?_
    refine OJ.pures tU_ok 3 rfl ?_
    refine OJ.nil (EJ.next ?_)
    obtain ⟨j7, H, K7⟩ := pbind H
    refine CJ.cut1 (fun F w1 => ∃ (y7 : List Meadow) , (some y7 : Option (List Meadow)) = some j7 ∧ F = [(8, .slice A3 y7.length c4)] ∧ St w no w1 [rowC cMeadow A3 c4 47 y7] [roC cMeadow Aa0 ca0 a0]) ?_ ?_
    · skip
      refine CJ.block ?_
      refine CJ.loop (fun k F w1 => ∃ (y8 : List Meadow) (y9 : Int), F = [(8, .slice A3 y8.length c4), (31, .slice A3 y8.length c4), (32, .int .i64 ((t2.set a2.toNat (⟨IntKind.i16.wrap (t5.Grass - (IntKind.i16.wrap a1)), t6.Grows, t6.Most⟩ : Meadow)).length : Int)), (33, .int .i64 y9)] ∧ St w no w1 [rowC cMeadow A3 c4 47 y8] [roC cMeadow Aa0 ca0 a0] ∧ impl_behind.l1 a1 a2 t2 t5 t6 k y8 y9 = some j7) k (F' := [(8, .slice A3 (t2.set a2.toNat (⟨IntKind.i16.wrap (t5.Grass - (IntKind.i16.wrap a1)), t6.Grows, t6.Most⟩ : Meadow)).length c4), (31, .slice A3 (t2.set a2.toNat (⟨IntKind.i16.wrap (t5.Grass - (IntKind.i16.wrap a1)), t6.Grows, t6.Most⟩ : Meadow)).length c4), (32, .int .i64 ((t2.set a2.toNat (⟨IntKind.i16.wrap (t5.Grass - (IntKind.i16.wrap a1)), t6.Grows, t6.Most⟩ : Meadow)).length : Int)), (33, .int .i64 0)]) ⟨rfl, rfl, rfl, rfl, trivial⟩ ⟨(t2.set a2.toNat (⟨IntKind.i16.wrap (t5.Grass - (IntKind.i16.wrap a1)), t6.Grows, t6.Most⟩ : Meadow)), 0, rfl, hS.pick [0] [0] rfl, H⟩ ?_
      rintro k F w1 ⟨y8, y9, rfl, hS, H⟩
      cases k with
      | zero => rw [impl_behind.l1] at H; cases H
      | succ k =>
        rw [impl_behind.l1] at H
        refine CJ.seq ?_
        refine CJ.region ?_
        refine OJ.pures tU_ok 1 rfl ?_
        refine OJ.nil (EJ.next ?_)
        refine CJ.seq ?_
        refine CJ.cond rfl (fun hb => ?_) (fun hb => ?_)
        · replace H := pif_t (of_decide_eq_true hb) H
          refine CJ.skip (EJ.next ?_)
          refine CJ.seq ?_
          refine CJ.block ?_
          refine CJ.seq ?_
          refine CJ.region ?_
          refine OJ.pures tU_ok 1 rfl ?_
          obtain ⟨t10, ht10, H⟩ := pbind H
          obtain ⟨ad10, e10⟩ := (hS.rd (i := 0) rfl).some' ht10
          refine OJ.st rfl rfl rfl (SR.idxS tU_ok tI_ok rfl rfl rfl rfl e10 rfl (getI_some ht10).1) ?_
          refine OJ.st rfl rfl rfl (SR.load rfl rfl (fun w' hx => ldE tU_ok tI_ok rfl rfl rfl (CA.ext ((hS.rd (i := 0) rfl).at_ e10 ht10) hx) rfl)) ?_
          refine OJ.ef rfl rfl rfl (Ef.alloc hS tI_ok rfl rfl (cMeadow.enc (⟨0, 0, 0⟩ : Meadow)) rfl) ?_
          rintro _ w1 ⟨b11, rfl, hS⟩
          refine OJ.pures tU_ok 1 rfl ?_
          refine OJ.es rfl rfl (Es.store tI_ok hS (i := 1) rfl rfl rfl rfl rfl rfl (vs := cMeadow.enc t10) rfl (cMeadow.len _) (cMeadow.one _) (Nat.le_of_ble_eq_true rfl) (cMeadow.enc t10) rfl) ?_
          intro w1 hS
          refine OJ.nil (EJ.next ?_)
          refine CJ.region ?_
          refine OJ.pures tU_ok 2 rfl ?_
          refine OJ.st rfl rfl rfl (SR.fieldAddr tU_ok tI_ok rfl rfl rfl rfl rfl rfl) ?_
          refine OJ.st rfl rfl rfl (SR.load rfl rfl (fun w' hx => ld1 tU_ok rfl rfl (CA.ext (CA.sub (hS.cells (i := 1) rfl) 0) hx) rfl)) ?_
          refine OJ.st rfl rfl rfl (SR.fieldAddr tU_ok tI_ok rfl rfl rfl rfl rfl rfl) ?_
          refine OJ.st rfl rfl rfl (SR.load rfl rfl (fun w' hx => ld1 tU_ok rfl rfl (CA.ext (CA.sub (hS.cells (i := 1) rfl) 1) hx) rfl)) ?_
          refine OJ.pures tU_ok 1 rfl ?_
          refine OJ.st rfl rfl rfl (SR.fieldAddr tU_ok tI_ok rfl rfl rfl rfl rfl rfl) ?_
          refine OJ.st rfl rfl rfl (SR.load rfl rfl (fun w' hx => ld1 tU_ok rfl rfl (CA.ext (CA.sub (hS.cells (i := 1) rfl) 2) hx) rfl)) ?_
          refine OJ.pures tU_ok 1 rfl ?_
          obtain ⟨t12, ht12, H⟩ := pbind H
          obtain ⟨ad12, e12⟩ := (hS.rd (i := 0) rfl).some' ht12
          refine OJ.st rfl rfl rfl (SR.idxS tU_ok tI_ok rfl rfl rfl rfl e12 rfl (getI_some ht12).1) ?_
          refine OJ.st rfl rfl rfl (SR.fieldAddr tU_ok tI_ok rfl rfl rfl rfl rfl rfl) ?_
          refine OJ.es rfl rfl (Es.storeR tI_ok hS (i := 0) (off := 0) rfl rfl ht12 e12 rfl (add_add _ _ _) rfl rfl (vs := (ci .i16).enc (if t10.Most < (IntKind.i16.wrap (t10.Grass + t10.Grows)) then t10.Most else (IntKind.i16.wrap (t10.Grass + t10.Grows)))) rfl rfl (one1 rfl) (Nat.le_of_ble_eq_true rfl) (⟨(if t10.Most < (IntKind.i16.wrap (t10.Grass + t10.Grows)) then t10.Most else (IntKind.i16.wrap (t10.Grass + t10.Grows))), t12.Grows, t12.Most⟩ : Meadow) rfl) ?_
          intro w1 hS
          refine OJ.as (t := 8) rfl (show _ = (.slice A3 (y8.set y9.toNat (⟨(if t10.Most < (IntKind.i16.wrap (t10.Grass + t10.Grows)) then t10.Most else (IntKind.i16.wrap (t10.Grass + t10.Grows))), t12.Grows, t12.Most⟩ : Meadow)).length c4 : Value) by simp only [List.length_set]) ?_
          refine OJ.as (t := 31) rfl (show _ = (.slice A3 (y8.set y9.toNat (⟨(if t10.Most < (IntKind.i16.wrap (t10.Grass + t10.Grows)) then t10.Most else (IntKind.i16.wrap (t10.Grass + t10.Grows))), t12.Grows, t12.Most⟩ : Meadow)).length c4 : Value) by simp only [List.length_set]) ?_
          refine OJ.as (t := 38) rfl (show _ = (.slice A3 (y8.set y9.toNat (⟨(if t10.Most < (IntKind.i16.wrap (t10.Grass + t10.Grows)) then t10.Most else (IntKind.i16.wrap (t10.Grass + t10.Grows))), t12.Grows, t12.Most⟩ : Meadow)).length c4 : Value) by simp only [List.length_set]) ?_
          refine OJ.nil (EJ.blk (EJ.next ?_))
          refine CJ.region ?_
          refine OJ.pures tU_ok 2 rfl ?_
          refine OJ.nil ?_
          exact EJ.round k (F' := [(8, .slice A3 (y8.set y9.toNat (⟨(if t10.Most < (IntKind.i16.wrap (t10.Grass + t10.Grows)) then t10.Most else (IntKind.i16.wrap (t10.Grass + t10.Grows))), t12.Grows, t12.Most⟩ : Meadow)).length c4), (31, .slice A3 (y8.set y9.toNat (⟨(if t10.Most < (IntKind.i16.wrap (t10.Grass + t10.Grows)) then t10.Most else (IntKind.i16.wrap (t10.Grass + t10.Grows))), t12.Grows, t12.Most⟩ : Meadow)).length c4), (32, .int .i64 ((t2.set a2.toNat (⟨IntKind.i16.wrap (t5.Grass - (IntKind.i16.wrap a1)), t6.Grows, t6.Most⟩ : Meadow)).length : Int)), (33, .int .i64 (IntKind.i64.wrap (y9 + 1)))]) ⟨rfl, rfl, rfl, rfl, trivial⟩ (Nat.lt_succ_self _) ⟨(y8.set y9.toNat (⟨(if t10.Most < (IntKind.i16.wrap (t10.Grass + t10.Grows)) then t10.Most else (IntKind.i16.wrap (t10.Grass + t10.Grows))), t12.Grows, t12.Most⟩ : Meadow)), (IntKind.i64.wrap (y9 + 1)), rfl, hS.pick [0] [0] rfl, H⟩
        · replace H := pif_f (of_decide_eq_false hb) H
          refine CJ.exit (EJ.skE (EJ.skE (EJ.hit (?_))))
          exact EJ.meet (F' := [(8, .slice A3 y8.length c4)]) ⟨rfl, trivial⟩ ⟨y8, H, rfl, hS.pick [0] [0] rfl⟩
    · rintro F w1 ⟨y7, he, rfl, hS⟩
      obtain rfl := Option.some.inj he
      have H := K7
      refine EJ.next ?_
      refine CJ.seq ?_
      refine CJ.region ?_
      refine OJ.pures tU_ok 3 rfl ?_
      refine OJ.nil (EJ.next ?_)
      refine CJ.ret (?_)
      obtain rfl := Option.some.inj H
      exact EJ.fin rfl (.tmp rfl (.tmp rfl .nil)) ⟨A3, c4, rfl, hS.pick [0] [] rfl⟩

def slices_Clone_int64_int64.f (a0 : List Int) : Option (List Int) := (chk (([] : List Int).length + a0.length ≤ 4294967296)).bind fun _ => some a0
theorem slices_Clone_int64_int64.c (w : World) (A : Option Addr) (c : Nat) (a0 : List Int) (hr0 : Rd (ci .i64) w A a0) (hc0 : a0.length ≤ c) (r : List Int) (H : slices_Clone_int64_int64.f a0 = some r) :
    CV Try.prog 64 [.slice A a0.length c].toArray w fun v w' => ∃ (A0 : Option Addr) (c0 : Nat), v = .slice A0 r.length c0 ∧ St w no w' [rowC (ci .i64) A0 c0 2 r] [] := by
  have hS := ((St.init w no).param (ci .i64) A c a0 hr0 hc0)
  obtain ⟨u, hu, H⟩ := pbind H
  obtain rfl := Option.some.inj H
  refine CV.body Try.func64 rfl Try.ntmps64 rfl ?_
  refine CJ.seq ?_
  refine CJ.region ?_
  refine OJ.pures tU_ok 1 rfl ?_
  refine OJ.nil (EJ.next ?_)
  refine CJ.seq ?_
  refine CJ.seq ?_
  refine CJ.region ?_
  refine OJ.pures tU_ok 1 rfl ?_
  refine OJ.st rfl rfl rfl (SR.eqNil tU_ok rfl rfl rfl rfl) ?_
  refine OJ.nil (EJ.next ?_)
  refine CJ.cond rfl (fun hb => ?_) (fun hb => ?_)
  · obtain rfl := hr0.isNone hb
    refine CJ.seq ?_
    refine CJ.region ?_
    refine OJ.pures tU_ok 1 rfl ?_
    refine OJ.nil (EJ.next ?_)
    refine CJ.ret (EJ.skR ?_)
    replace hS := hS.addNil (ci .i64) 2 none
    exact EJ.fin rfl (.tmp rfl .nil) ⟨none, 0, rfl, hS.pick [0] [] rfl⟩
  · refine CJ.skip (EJ.next ?_)
    refine CJ.seq ?_
    refine CJ.region ?_
    refine OJ.ef rfl rfl rfl (Ef.lit tU_ok tI_ok hS (C := (ci .i64)) rfl rfl rfl rfl rfl rfl ([] : List Int) rfl rfl rfl rfl) ?_
    rintro _ w1 ⟨A1, rfl, hS⟩
    refine OJ.pures tU_ok 1 rfl ?_
    refine OJ.ew rfl rfl rfl (Ew.append tU_ok tI_ok (C := (ci .i64)) (xs := ([] : List Int)) (ys := a0) hS (i := 0) rfl rfl rfl rfl rfl rfl rfl rfl rfl rfl rfl rfl rfl (hS.rd' (i := 0) rfl) (chk_some hu)) ?_
    rintro _ w1 ⟨A2, c2, rfl, hS⟩
    refine OJ.pures tU_ok 1 rfl ?_
    refine OJ.nil (EJ.next ?_)
    exact CJ.ret (EJ.fin rfl (.tmp rfl .nil) ⟨A2, c2, rfl, hS.pick [0] [] rfl⟩)

def impl_planner_find.l1 (self : planner → (List Meadow) → (List Int) → Option (List Int × Bool × planner)) (a1 : List Meadow) (a2 : List Int) (t2 : Int) : Nat → planner → Int → Option ((List Int × Bool × planner) ⊕ planner)
  | 0, _, _ => none
  | k + 1, y4, y5 => if y5 < t2 then ((impl_behind.f k a1 y4.need y5).bind fun t6 => if (!t6.2) = true then (impl_planner_find.l1 self a1 a2 t2 k y4 (IntKind.i64.wrap (y5 + 1))) else (if y4.tries = y4.budget then (some (Sum.inl ([], false, (⟨y4.need, y4.days, y4.budget, y4.tries, true⟩ : planner)))) else ((slices_Clone_int64_int64.f a2).bind fun t9 => (chk (t9.length + ([y5] : List Int).length ≤ 4294967296)).bind fun u13 => (self (⟨y4.need, y4.days, y4.budget, IntKind.i64.wrap (y4.tries + 1), y4.over_⟩ : planner) t6.1 (t9 ++ ([y5] : List Int))).bind fun t16 => if t16.2.1 = true then (some (Sum.inl (t16.1, t16.2.1, t16.2.2))) else (if t16.2.2.over_ = true then (some (Sum.inl (t16.1, t16.2.1, t16.2.2))) else (impl_planner_find.l1 self a1 a2 t2 k t16.2.2 (IntKind.i64.wrap (y5 + 1))))))) else (some (Sum.inr y4))
def impl_planner_find.f : Nat → planner → (List Meadow) → (List Int) → Option (List Int × Bool × planner)
  | 0, _, _, _ => none
  | k + 1, a0, a1, a2 => (impl_size_int64.f a2).bind fun t1 => if t1 = a0.days then (some (a2, true, a0)) else ((impl_size_impl_Meadow.f a1).bind fun t2 => (impl_planner_find.l1 (impl_planner_find.f k) a1 a2 t2 k a0 0).bind fun s9 => match s9 with | .inl r => some r | .inr y3 => some ([], false, y3))
theorem impl_planner_find.c : ∀ (k : Nat) (w : World) (ba0 : Nat) (a0 : planner) (Aa1 : Option Addr) (ca1 : Nat) (a1 : List Meadow) (Aa2 : Option Addr) (ca2 : Nat) (a2 : List Int) (hin : St w (fpU [box ba0 (cplanner.enc a0) 81, rowC (ci .i64) Aa2 ca2 2 a2]) w [box ba0 (cplanner.enc a0) 81, rowC (ci .i64) Aa2 ca2 2 a2] [roC cMeadow Aa1 ca1 a1]) (r : List Int × Bool × planner) (H : impl_planner_find.f k a0 a1 a2 = some r),
    CV Try.prog 57 [.pointer (some ⟨ba0, 0, none⟩), .slice Aa1 a1.length ca1, .slice Aa2 a2.length ca2].toArray w fun v w' => ∃ (A0 : Option Addr) (c0 : Nat), v = .tuple #[.slice A0 r.1.length c0, .bool r.2.1] ∧ St w (fpU [box ba0 (cplanner.enc a0) 81, rowC (ci .i64) Aa2 ca2 2 a2]) w' [box ba0 (cplanner.enc r.2.2) 81, rowC (ci .i64) A0 c0 2 r.1] [] := by
  intro k
  induction k
  · intro w ba0 a0 Aa1 ca1 a1 Aa2 ca2 a2 hin r H; rw [impl_planner_find.f] at H; cases H
  rename_i k ih
  intro w ba0 a0 Aa1 ca1 a1 Aa2 ca2 a2 hin r H
  have hS := hin
  rw [impl_planner_find.f] at H
  generalize impl_planner_find.f k = self at H ih
  refine CV.body Try.func57 rfl Try.ntmps57 rfl ?_
  refine CJ.seq ?_
  refine CJ.region ?_
  refine OJ.pures tU_ok 2 rfl ?_
  refine OJ.nil (EJ.next ?_)
  refine CJ.seq ?_
  refine CJ.seq ?_
  refine CJ.draw [] [0, 2, 3, 4, 5, 1, 6] mixed (by kernel_rfl) hS fun w1 hS => ?_
  refine DJ.pures tU_ok 3 rfl ?_
  refine DJ.st rfl rfl rfl rfl rfl (SR.fieldAddr tU_ok tI_ok rfl rfl rfl rfl rfl rfl) ?_
  refine DJ.st rfl rfl rfl rfl rfl (SR.load rfl rfl (fun w' hx => ld1 tU_ok rfl rfl (CA.ext (CA.sub (hS.cells (i := 0) rfl) 1) hx) rfl)) ?_
  obtain ⟨t1, ht1, H⟩ := pbind H
  refine DJ.callF rfl rfl rfl rfl rfl rfl rfl hb36 rfl (impl_size_int64.c _ Aa2 ca2 a2 (hS.rd (i := 1) rfl) (hS.le (i := 1) rfl) _ ht1) (by rintro v w' ⟨rfl, hs⟩; exact hs) ?_
  rintro _ w1 ⟨rfl, hs⟩
  replace hS := hS.grow hs
  refine DJ.pures tU_ok 1 rfl ?_
  refine DJ.nil (EJ.next ?_)
  refine CJ.cond rfl (fun hb => ?_) (fun hb => ?_)
  · replace H := pif_t (of_decide_eq_true hb) H
    refine CJ.seq ?_
    refine CJ.region ?_
    refine OJ.pures tU_ok 3 rfl ?_
    refine OJ.nil (EJ.next ?_)
    refine CJ.ret (EJ.skR (?_))
    obtain rfl := Option.some.inj H
    exact EJ.fin rfl (.tmp rfl (.tmp rfl .nil)) ⟨Aa2, ca2, rfl, hS.pick [0, 1] [] rfl⟩
  · replace H := pif_f (of_decide_eq_false hb) H
    refine CJ.skip (EJ.next ?_)
    refine CJ.seq ?_
    refine CJ.seq ?_
    refine CJ.region ?_
    refine OJ.pures tU_ok 1 rfl ?_
    obtain ⟨t2, ht2, H⟩ := pbind H
    refine OJ.callF rfl rfl rfl rfl rfl hb42 rfl (impl_size_impl_Meadow.c _ Aa1 ca1 a1 (hS.rd' (i := 0) rfl) (hS.le' (i := 0) rfl) _ ht2) ?_
    rintro _ w1 ⟨rfl, hs⟩
    replace hS := hS.grow hs
    refine OJ.pures tU_ok 1 rfl ?_
    refine OJ.nil (EJ.next ?_)
    obtain ⟨j9, H, K9⟩ := pbind H
    refine CJ.cut1 (fun F w1 => ∃ (y3 : planner) , (some (Sum.inr y3) : Option ((List Int × Bool × planner) ⊕ planner)) = some j9 ∧ F = [] ∧ St w (fpU [box ba0 (cplanner.enc a0) 81, rowC (ci .i64) Aa2 ca2 2 a2]) w1 [box ba0 (cplanner.enc y3) 81] [roC cMeadow Aa1 ca1 a1]) ?_ ?_
    · skip
      refine CJ.block ?_
      refine CJ.loop (fun k F w1 => ∃ (y4 : planner) (y5 : Int), F = [(0, .pointer (some ⟨ba0, 0, none⟩)), (1, .slice Aa1 a1.length ca1), (2, .slice Aa2 a2.length ca2), (22, .int .i64 t2), (23, .int .i64 y5)] ∧ St w (fpU [box ba0 (cplanner.enc a0) 81, rowC (ci .i64) Aa2 ca2 2 a2]) w1 [box ba0 (cplanner.enc y4) 81, rowC (ci .i64) Aa2 ca2 2 a2] [roC cMeadow Aa1 ca1 a1] ∧ impl_planner_find.l1 self a1 a2 t2 k y4 y5 = some j9) k (F' := [(0, .pointer (some ⟨ba0, 0, none⟩)), (1, .slice Aa1 a1.length ca1), (2, .slice Aa2 a2.length ca2), (22, .int .i64 t2), (23, .int .i64 0)]) ⟨rfl, rfl, rfl, rfl, rfl, trivial⟩ ⟨a0, 0, rfl, hS.pick [0, 1] [0] rfl, H⟩ ?_
      rintro k F w1 ⟨y4, y5, rfl, hS, H⟩
      cases k with
      | zero => rw [impl_planner_find.l1] at H; cases H
      | succ k =>
        rw [impl_planner_find.l1] at H
        refine CJ.seq ?_
        refine CJ.region ?_
        refine OJ.pures tU_ok 1 rfl ?_
        refine OJ.nil (EJ.next ?_)
        refine CJ.seq ?_
        refine CJ.cond rfl (fun hb => ?_) (fun hb => ?_)
        · replace H := pif_t (of_decide_eq_true hb) H
          refine CJ.skip (EJ.next ?_)
          refine CJ.seq ?_
          refine CJ.block ?_
          refine CJ.seq ?_
          refine CJ.region ?_
          refine OJ.pures tU_ok 2 rfl ?_
          refine OJ.nil (EJ.next ?_)
          refine CJ.seq ?_
          refine CJ.region ?_
          refine OJ.pures tU_ok 3 rfl ?_
          refine OJ.st rfl rfl rfl (SR.fieldAddr tU_ok tI_ok rfl rfl rfl rfl rfl rfl) ?_
          refine OJ.st rfl rfl rfl (SR.load rfl rfl (fun w' hx => ld1 tU_ok rfl rfl (CA.ext (CA.sub (hS.cells (i := 0) rfl) 0) hx) rfl)) ?_
          refine OJ.pures tU_ok 1 rfl ?_
          obtain ⟨t6, ht6, H⟩ := pbind H
          refine OJ.callF rfl rfl rfl rfl rfl hb47 rfl (impl_behind.c k _ Aa1 ca1 a1 (hS.rd' (i := 0) rfl) (hS.le' (i := 0) rfl) y4.need y5 _ ht6) ?_
          rintro _ w1 ⟨A7, c8, rfl, hs⟩
          replace hS := hS.addN hs
          refine OJ.pures tU_ok 5 rfl ?_
          refine OJ.nil (EJ.next ?_)
          refine CJ.seq ?_
          refine CJ.seq ?_
          refine CJ.region ?_
          refine OJ.pures tU_ok 2 rfl ?_
          refine OJ.nil (EJ.next ?_)
          refine CJ.cond rfl (fun hb => ?_) (fun hb => ?_)
          · replace H := pif_t hb H
            refine CJ.exit (EJ.skE (EJ.hit (EJ.next ?_)))
            refine CJ.region ?_
            refine OJ.pures tU_ok 2 rfl ?_
            refine OJ.nil ?_
            exact EJ.round k (F' := [(0, .pointer (some ⟨ba0, 0, none⟩)), (1, .slice Aa1 a1.length ca1), (2, .slice Aa2 a2.length ca2), (22, .int .i64 t2), (23, .int .i64 (IntKind.i64.wrap (y5 + 1)))]) ⟨rfl, rfl, rfl, rfl, rfl, trivial⟩ (Nat.lt_succ_self _) ⟨y4, (IntKind.i64.wrap (y5 + 1)), rfl, hS.pick [0, 1] [0] rfl, H⟩
          · replace H := pifb_f hb H
            refine CJ.skip (EJ.next ?_)
            refine CJ.seq ?_
            refine CJ.seq ?_
            refine CJ.draw [] [0, 1, 2, 3, 4, 5, 6, 7, 8] mixed (by kernel_rfl) hS fun w1 hS => ?_
            refine DJ.pures tU_ok 2 rfl ?_
            refine DJ.st rfl rfl rfl rfl rfl (SR.fieldAddr tU_ok tI_ok rfl rfl rfl rfl rfl rfl) ?_
            refine DJ.st rfl rfl rfl rfl rfl (SR.load rfl rfl (fun w' hx => ld1 tU_ok rfl rfl (CA.ext (CA.sub (hS.cells (i := 0) rfl) 3) hx) rfl)) ?_
            refine DJ.pures tU_ok 2 rfl ?_
            refine DJ.st rfl rfl rfl rfl rfl (SR.fieldAddr tU_ok tI_ok rfl rfl rfl rfl rfl rfl) ?_
            refine DJ.st rfl rfl rfl rfl rfl (SR.load rfl rfl (fun w' hx => ld1 tU_ok rfl rfl (CA.ext (CA.sub (hS.cells (i := 0) rfl) 2) hx) rfl)) ?_
            refine DJ.pures tU_ok 1 rfl ?_
            refine DJ.nil (EJ.next ?_)
            refine CJ.cond rfl (fun hb => ?_) (fun hb => ?_)
            · replace H := pif_t (of_decide_eq_true hb) H
              refine CJ.seq ?_
              refine CJ.region ?_
              refine OJ.pures tU_ok 2 rfl ?_
              refine OJ.st rfl rfl rfl (SR.fieldAddr tU_ok tI_ok rfl rfl rfl rfl rfl rfl) ?_
              refine OJ.es rfl rfl (Es.store tI_ok hS (i := 0) rfl rfl rfl (G.ad1 _ _) rfl rfl (vs := cb.enc true) rfl rfl (one1 rfl) (Nat.le_of_ble_eq_true rfl) (cplanner.enc (⟨y4.need, y4.days, y4.budget, y4.tries, true⟩ : planner)) rfl) ?_
              intro w1 hS
              refine OJ.nil (EJ.next ?_)
              refine CJ.seq ?_
              refine CJ.region ?_
              refine OJ.pures tU_ok 2 rfl ?_
              refine OJ.nil (EJ.next ?_)
              refine CJ.ret (EJ.skR (EJ.bkR (EJ.skR (EJ.skR (EJ.bkR (EJ.skR (EJ.skR (?_))))))))
              first | (obtain rfl := Option.some.inj H; have H := K9) | (obtain ⟨q9, H2, e9⟩ := pbind H; obtain rfl := Option.some.inj e9; obtain rfl := Option.some.inj K9; have H := H2)
              replace hS := hS.addNil (ci .i64) 2 none
              obtain rfl := Option.some.inj H
              exact EJ.fin rfl (.tmp rfl (.tmp rfl .nil)) ⟨none, 0, rfl, hS.pick [0, 3] [] rfl⟩
            · replace H := pif_f (of_decide_eq_false hb) H
              refine CJ.skip (EJ.next ?_)
              refine CJ.seq ?_
              refine CJ.region ?_
              refine OJ.pures tU_ok 2 rfl ?_
              refine OJ.st rfl rfl rfl (SR.fieldAddr tU_ok tI_ok rfl rfl rfl rfl rfl rfl) ?_
              refine OJ.st rfl rfl rfl (SR.load rfl rfl (fun w' hx => ld1 tU_ok rfl rfl (CA.ext (CA.sub (hS.cells (i := 0) rfl) 3) hx) rfl)) ?_
              refine OJ.pures tU_ok 2 rfl ?_
              refine OJ.st rfl rfl rfl (SR.fieldAddr tU_ok tI_ok rfl rfl rfl rfl rfl rfl) ?_
              refine OJ.es rfl rfl (Es.store tI_ok hS (i := 0) rfl rfl rfl (G.ad1 _ _) rfl rfl (vs := (ci .i64).enc (IntKind.i64.wrap (y4.tries + 1))) rfl rfl (one1 rfl) (Nat.le_of_ble_eq_true rfl) (cplanner.enc (⟨y4.need, y4.days, y4.budget, IntKind.i64.wrap (y4.tries + 1), y4.over_⟩ : planner)) rfl) ?_
              intro w1 hS
              refine OJ.nil (EJ.next ?_)
              refine CJ.seq ?_
              refine CJ.region ?_
              refine OJ.pures tU_ok 3 rfl ?_
              obtain ⟨t9, ht9, H⟩ := pbind H
              refine OJ.callF rfl rfl rfl rfl rfl hb64 rfl (slices_Clone_int64_int64.c _ Aa2 ca2 a2 (hS.rd (i := 1) rfl) (hS.le (i := 1) rfl) _ ht9) ?_
              rintro _ w1 ⟨A10, c11, rfl, hs⟩
              replace hS := hS.addN hs
              refine OJ.pures tU_ok 1 rfl ?_
              refine OJ.ef rfl rfl rfl (Ef.lit tU_ok tI_ok hS (C := (ci .i64)) rfl rfl rfl rfl rfl rfl ([y5] : List Int) rfl rfl rfl rfl) ?_
              rintro _ w1 ⟨A12, rfl, hS⟩
              obtain ⟨u13, hu13, H⟩ := pbind H
              refine OJ.ew rfl rfl rfl (Ew.append tU_ok tI_ok (C := (ci .i64)) (xs := t9) (ys := ([y5] : List Int)) hS (i := 3) rfl rfl rfl rfl rfl rfl rfl rfl rfl rfl rfl rfl rfl (hS.rd (i := 4) rfl) (chk_some hu13)) ?_
              rintro _ w1 ⟨A14, c15, rfl, hS⟩
              obtain ⟨t16, ht16, H⟩ := pbind H
              refine OJ.callF rfl rfl rfl rfl rfl hb57 rfl (ih _ ba0 (⟨y4.need, y4.days, y4.budget, IntKind.i64.wrap (y4.tries + 1), y4.over_⟩ : planner) A7 c8 t6.1 A14 c15 (t9 ++ ([y5] : List Int)) (((hS.subs [0, 3] [] [2] rfl).rToRo (i := 0) rfl).pick [0, 1] [0] rfl) _ ht16) ?_
              rintro _ w1 ⟨A17, c18, rfl, hs⟩
              replace hS := hS.back' [0] [3] rfl rfl [box ba0 (cplanner.enc t16.2.2) 81] [rowC (ci .i64) A17 c18 2 t16.1] [] hs ⟨fun _ => Iff.rfl, trivial⟩ (fun _ h => by cases h) (.inr rfl)
              have hS : St w (fpU [box ba0 (cplanner.enc a0) 81, rowC (ci .i64) Aa2 ca2 2 a2]) w1 [box ba0 (cplanner.enc t16.2.2) 81, rowC (ci .i64) Aa2 ca2 2 a2, rowC cMeadow A7 c8 47 t6.1, gone, rowC (ci .i64) A12 (([y5] : List Int).length) 2 ([y5] : List Int), rowC (ci .i64) A17 c18 2 t16.1] [roC cMeadow Aa1 ca1 a1] := hS
              have hS : St w (fpU [box ba0 (cplanner.enc a0) 81, rowC (ci .i64) Aa2 ca2 2 a2]) w1 [box ba0 (cplanner.enc t16.2.2) 81, rowC (ci .i64) Aa2 ca2 2 a2, rowC cMeadow A7 c8 47 t6.1, gone, rowC (ci .i64) A12 (([y5] : List Int).length) 2 ([y5] : List Int), rowC (ci .i64) A17 c18 2 t16.1] [roC cMeadow Aa1 ca1 a1] := hS
              refine OJ.pures tU_ok 5 rfl ?_
              refine OJ.nil (EJ.next ?_)
              refine CJ.seq ?_
              refine CJ.region ?_
              refine OJ.pures tU_ok 2 rfl ?_
              refine OJ.split (t := 69) rfl (fun hb => ?_) (fun hb => ?_)
              · replace H := pif_t hb H
                refine OJ.pures tU_ok 5 rfl ?_
                refine OJ.nil (EJ.next ?_)
                refine CJ.condT rfl ?_
                refine CJ.seq ?_
                refine CJ.region ?_
                refine OJ.pures tU_ok 4 rfl ?_
                refine OJ.nil (EJ.next ?_)
                refine CJ.ret (EJ.bkR (EJ.skR (EJ.skR (EJ.bkR (EJ.skR (EJ.skR (?_)))))))
                first | (obtain rfl := Option.some.inj H; have H := K9) | (obtain ⟨q9, H2, e9⟩ := pbind H; obtain rfl := Option.some.inj e9; obtain rfl := Option.some.inj K9; have H := H2)
                obtain rfl := Option.some.inj H
                exact EJ.fin rfl (.tmp rfl (.tmp rfl .nil)) ⟨A17, c18, rfl, hS.pick [0, 5] [] rfl⟩
              · replace H := pifb_f hb H
                refine OJ.pures tU_ok 2 rfl ?_
                refine OJ.st rfl rfl rfl (SR.fieldAddr tU_ok tI_ok rfl rfl rfl rfl rfl rfl) ?_
                refine OJ.st rfl rfl rfl (SR.load rfl rfl (fun w' hx => ld1 tU_ok rfl rfl (CA.ext (CA.sub (hS.cells (i := 0) rfl) 4) hx) rfl)) ?_
                refine OJ.pures tU_ok 1 rfl ?_
                refine OJ.nil (EJ.next ?_)
                refine CJ.cond rfl (fun hb => ?_) (fun hb => ?_)
                · replace H := pif_t hb H
                  refine CJ.seq ?_
                  refine CJ.region ?_
                  refine OJ.pures tU_ok 4 rfl ?_
                  refine OJ.nil (EJ.next ?_)
                  refine CJ.ret (EJ.bkR (EJ.skR (EJ.skR (EJ.bkR (EJ.skR (EJ.skR (?_)))))))
                  first | (obtain rfl := Option.some.inj H; have H := K9) | (obtain ⟨q9, H2, e9⟩ := pbind H; obtain rfl := Option.some.inj e9; obtain rfl := Option.some.inj K9; have H := H2)
                  obtain rfl := Option.some.inj H
                  exact EJ.fin rfl (.tmp rfl (.tmp rfl .nil)) ⟨A17, c18, rfl, hS.pick [0, 5] [] rfl⟩
                · replace H := pifb_f hb H
                  refine CJ.skip (EJ.blk (EJ.next ?_))
                  refine CJ.region ?_
                  refine OJ.pures tU_ok 2 rfl ?_
                  refine OJ.nil ?_
                  exact EJ.round k (F' := [(0, .pointer (some ⟨ba0, 0, none⟩)), (1, .slice Aa1 a1.length ca1), (2, .slice Aa2 a2.length ca2), (22, .int .i64 t2), (23, .int .i64 (IntKind.i64.wrap (y5 + 1)))]) ⟨rfl, rfl, rfl, rfl, rfl, trivial⟩ (Nat.lt_succ_self _) ⟨t16.2.2, (IntKind.i64.wrap (y5 + 1)), rfl, hS.pick [0, 1] [0] rfl, H⟩
        · replace H := pif_f (of_decide_eq_false hb) H
          refine CJ.exit (EJ.skE (EJ.skE (EJ.hit (?_))))
          exact EJ.meet (F' := []) trivial ⟨y4, H, rfl, hS.pick [0] [0] rfl⟩
    · rintro F w1 ⟨y3, he, rfl, hS⟩
      obtain rfl := Option.some.inj he
      have H := K9
      refine EJ.next ?_
      refine CJ.seq ?_
      refine CJ.region ?_
      refine OJ.pures tU_ok 2 rfl ?_
      refine OJ.nil (EJ.next ?_)
      refine CJ.ret (?_)
      replace hS := hS.addNil (ci .i64) 2 none
      obtain rfl := Option.some.inj H
      exact EJ.fin rfl (.tmp rfl (.tmp rfl .nil)) ⟨none, 0, rfl, hS.pick [0, 1] [] rfl⟩

def impl_firstPlan.f (k : Nat) (a0 : List Meadow) (a1 : Int) (a2 : Int) (a3 : Int) : Option (List Int × Int × Int) := (impl_planner_find.f k (⟨a1, a2, a3, 0, false⟩ : planner) a0 ([] : List Int)).bind fun t2 => if t2.2.2.over_ = true then (some ([], 0, 7)) else (if (!t2.2.1) = true then (some ([], 0, 6)) else (some (t2.1, t2.2.2.tries, 0)))
theorem impl_firstPlan.c (k : Nat) (w : World) (Aa0 : Option Addr) (ca0 : Nat) (a0 : List Meadow) (hr0 : Rd cMeadow w Aa0 a0) (hc0 : a0.length ≤ ca0) (a1 : Int) (a2 : Int) (a3 : Int) (r : List Int × Int × Int) (H : impl_firstPlan.f k a0 a1 a2 a3 = some r) :
    CV Try.prog 30 [.slice Aa0 a0.length ca0, .int .i64 a1, .int .i64 a2, .int .i64 a3].toArray w fun v w' => ∃ (A0 : Option Addr) (c0 : Nat), v = .tuple #[.slice A0 r.1.length c0, .int .i64 r.2.1, .int .i64 r.2.2] ∧ St w no w' [rowC (ci .i64) A0 c0 2 r.1] [] := by
  have hS := ((St.init w no).param cMeadow Aa0 ca0 a0 hr0 hc0)
  unfold impl_firstPlan.f at H
  refine CV.body Try.func30 rfl Try.ntmps30 rfl ?_
  refine CJ.seq ?_
  refine CJ.region ?_
  refine OJ.pures tU_ok 3 rfl ?_
  refine OJ.nil (EJ.next ?_)
  refine CJ.seq ?_
  refine CJ.region ?_
  refine OJ.pures tU_ok 3 rfl ?_
  refine OJ.st rfl rfl rfl (SR.build (C := cplanner) tU_ok tI_ok rfl rfl rfl (zs := [.int .i64 0, .int .i64 0, .int .i64 0, .int .i64 0, .bool false]) rfl rfl rfl (⟨a1, a2, a3, 0, false⟩ : planner) rfl) ?_
  refine OJ.ef rfl rfl rfl (Ef.box hS rfl rfl (cplanner.enc (⟨a1, a2, a3, 0, false⟩ : planner)) rfl) ?_
  rintro _ w1 ⟨b1, rfl, hS⟩
  refine OJ.pures tU_ok 1 rfl ?_
  refine OJ.nil (EJ.next ?_)
  refine CJ.seq ?_
  refine CJ.region ?_
  refine OJ.pures tU_ok 2 rfl ?_
  replace hS := hS.addNil (ci .i64) 2 none
  obtain ⟨t2, ht2, H⟩ := pbind H
  refine OJ.callF rfl rfl rfl rfl rfl hb57 rfl (impl_planner_find.c k _ b1 (⟨a1, a2, a3, 0, false⟩ : planner) Aa0 ca0 a0 none 0 ([] : List Int) ((hS.subs [0, 1] [0] [] rfl).pick [0, 1] [0] rfl) _ ht2) ?_
  rintro _ w1 ⟨A3, c4, rfl, hs⟩
  replace hS := hS.back' [0] [1] rfl rfl [box b1 (cplanner.enc t2.2.2) 81] [rowC (ci .i64) A3 c4 2 t2.1] [] hs ⟨fun _ => Iff.rfl, trivial⟩ (fun _ h => by cases h) (.inr rfl)
  refine OJ.pures tU_ok 5 rfl ?_
  refine OJ.nil (EJ.next ?_)
  refine CJ.seq ?_
  refine CJ.block ?_
  refine CJ.seq ?_
  refine CJ.region ?_
  refine OJ.pures tU_ok 2 rfl ?_
  refine OJ.st rfl rfl rfl (SR.fieldAddr tU_ok tI_ok rfl rfl rfl rfl rfl rfl) ?_
  refine OJ.st rfl rfl rfl (SR.load rfl rfl (fun w' hx => ld1 tU_ok rfl rfl (CA.ext (CA.sub (hS.cells (i := 0) rfl) 4) hx) rfl)) ?_
  refine OJ.pures tU_ok 1 rfl ?_
  refine OJ.nil (EJ.next ?_)
  refine CJ.cond rfl (fun hb => ?_) (fun hb => ?_)
  · replace H := pif_t hb H
    refine CJ.seq ?_
    refine CJ.region ?_
    refine OJ.pures tU_ok 3 rfl ?_
    refine OJ.nil (EJ.next ?_)
    refine CJ.ret (EJ.bkR (EJ.skR (?_)))
    replace hS := hS.addNil (ci .i64) 2 none
    obtain rfl := Option.some.inj H
    exact EJ.fin rfl (.tmp rfl (.tmp rfl (.tmp rfl .nil))) ⟨none, 0, rfl, hS.pick [3] [] rfl⟩
  · replace H := pifb_f hb H
    refine CJ.seq ?_
    refine CJ.region ?_
    refine OJ.pures tU_ok 3 rfl ?_
    refine OJ.nil (EJ.next ?_)
    refine CJ.cond rfl (fun hb => ?_) (fun hb => ?_)
    · replace H := pif_t hb H
      refine CJ.seq ?_
      refine CJ.region ?_
      refine OJ.pures tU_ok 3 rfl ?_
      refine OJ.nil (EJ.next ?_)
      refine CJ.ret (EJ.bkR (EJ.skR (?_)))
      replace hS := hS.addNil (ci .i64) 2 none
      obtain rfl := Option.some.inj H
      exact EJ.fin rfl (.tmp rfl (.tmp rfl (.tmp rfl .nil))) ⟨none, 0, rfl, hS.pick [3] [] rfl⟩
    · replace H := pifb_f hb H
      refine CJ.skip (EJ.blk (EJ.next ?_))
      refine CJ.seq ?_
      refine CJ.draw [] [0, 1, 2, 3, 4, 5, 6, 7] mixed (by kernel_rfl) hS fun w1 hS => ?_
      refine DJ.pures tU_ok 3 rfl ?_
      refine DJ.st rfl rfl rfl rfl rfl (SR.fieldAddr tU_ok tI_ok rfl rfl rfl rfl rfl rfl) ?_
      refine DJ.st rfl rfl rfl rfl rfl (SR.load rfl rfl (fun w' hx => ld1 tU_ok rfl rfl (CA.ext (CA.sub (hS.cells (i := 0) rfl) 3) hx) rfl)) ?_
      refine DJ.pures tU_ok 3 rfl ?_
      refine DJ.nil (EJ.next ?_)
      refine CJ.ret (?_)
      obtain rfl := Option.some.inj H
      exact EJ.fin rfl (.tmp rfl (.tmp rfl (.tmp rfl .nil))) ⟨A3, c4, rfl, hS.pick [2] [] rfl⟩

def impl_FirstPlan.f (k : Nat) (a0 : List Meadow) (a1 : Int) (a2 : Int) (a3 : Int) : Option (List Int × Int × Int) := (impl_spanCode.f k a0 a1 a2 a3).bind fun t1 => if t1 ≠ 0 then (some ([], 0, t1)) else ((impl_firstPlan.f k a0 a1 a2 a3).bind fun t2 => some (t2.1, t2.2.1, t2.2.2))
theorem impl_FirstPlan.c (k : Nat) (w : World) (Aa0 : Option Addr) (ca0 : Nat) (a0 : List Meadow) (hr0 : Rd cMeadow w Aa0 a0) (hc0 : a0.length ≤ ca0) (a1 : Int) (a2 : Int) (a3 : Int) (r : List Int × Int × Int) (H : impl_FirstPlan.f k a0 a1 a2 a3 = some r) :
    CV Try.prog 7 [.slice Aa0 a0.length ca0, .int .i64 a1, .int .i64 a2, .int .i64 a3].toArray w fun v w' => ∃ (A0 : Option Addr) (c0 : Nat), v = .tuple #[.slice A0 r.1.length c0, .int .i64 r.2.1, .int .i64 r.2.2] ∧ St w no w' [rowC (ci .i64) A0 c0 2 r.1] [] := by
  have hS := ((St.init w no).param cMeadow Aa0 ca0 a0 hr0 hc0)
  unfold impl_FirstPlan.f at H
  refine CV.body Try.func7 rfl Try.ntmps7 rfl ?_
  refine CJ.seq ?_
  refine CJ.region ?_
  refine OJ.pures tU_ok 3 rfl ?_
  refine OJ.nil (EJ.next ?_)
  refine CJ.seq ?_
  refine CJ.seq ?_
  refine CJ.region ?_
  refine OJ.pures tU_ok 4 rfl ?_
  obtain ⟨t1, ht1, H⟩ := pbind H
  refine OJ.callF rfl rfl rfl rfl rfl hb29 rfl (impl_spanCode.c k _ Aa0 ca0 a0 (hS.rd' (i := 0) rfl) (hS.le' (i := 0) rfl) a1 a2 a3 _ ht1) ?_
  rintro _ w1 ⟨rfl, hs⟩
  replace hS := hS.grow hs
  refine OJ.pures tU_ok 1 rfl ?_
  refine OJ.nil (EJ.next ?_)
  refine CJ.seq ?_
  refine CJ.region ?_
  refine OJ.pures tU_ok 2 rfl ?_
  refine OJ.nil (EJ.next ?_)
  refine CJ.cond rfl (fun hb => ?_) (fun hb => ?_)
  · replace H := pif_t (of_decide_eq_true hb) H
    refine CJ.seq ?_
    refine CJ.region ?_
    refine OJ.pures tU_ok 4 rfl ?_
    refine OJ.nil (EJ.next ?_)
    refine CJ.ret (EJ.skR (?_))
    replace hS := hS.addNil (ci .i64) 2 none
    obtain rfl := Option.some.inj H
    exact EJ.fin rfl (.tmp rfl (.tmp rfl (.tmp rfl .nil))) ⟨none, 0, rfl, hS.pick [0] [] rfl⟩
  · replace H := pif_f (of_decide_eq_false hb) H
    refine CJ.skip (EJ.next ?_)
    refine CJ.seq ?_
    refine CJ.region ?_
    refine OJ.pures tU_ok 4 rfl ?_
    obtain ⟨t2, ht2, H⟩ := pbind H
    refine OJ.callF rfl rfl rfl rfl rfl hb30 rfl (impl_firstPlan.c k _ Aa0 ca0 a0 (hS.rd' (i := 0) rfl) (hS.le' (i := 0) rfl) a1 a2 a3 _ ht2) ?_
    rintro _ w1 ⟨A3, c4, rfl, hs⟩
    replace hS := hS.addN hs
    refine OJ.pures tU_ok 6 rfl ?_
    refine OJ.nil (EJ.next ?_)
    refine CJ.ret (?_)
    obtain rfl := Option.some.inj H
    exact EJ.fin rfl (.tmp rfl (.tmp rfl (.tmp rfl .nil))) ⟨A3, c4, rfl, hS.pick [0] [] rfl⟩

def spec_l00In.f (a0 : Int) (a1 : Int) (a2 : Int) : Option Bool := if a1 ≤ a0 then (some (decide (a0 ≤ a2))) else (some false)
theorem spec_l00In.c (w : World) (a0 : Int) (a1 : Int) (a2 : Int) (r : Bool) (H : spec_l00In.f a0 a1 a2 = some r) :
    CV Try.prog 52 [.int .i64 a0, .int .i64 a1, .int .i64 a2].toArray w fun v w' => v = .bool r ∧ Ext w w' := by
  have hS := (St.init w no)
  unfold spec_l00In.f at H
  refine CV.body Try.func52 rfl Try.ntmps52 rfl ?_
  refine CJ.seq ?_
  refine CJ.region ?_
  refine OJ.pures tU_ok 1 rfl ?_
  refine OJ.nil (EJ.next ?_)
  refine CJ.seq ?_
  refine CJ.region ?_
  refine OJ.pures tU_ok 4 rfl ?_
  refine OJ.split (t := 10) rfl (fun hb => ?_) (fun hb => ?_)
  · replace H := pif_t (of_decide_eq_true hb) H
    refine OJ.pures tU_ok 5 rfl ?_
    refine OJ.nil (EJ.next ?_)
    refine CJ.ret (?_)
    obtain rfl := Option.some.inj H
    exact EJ.fin rfl (.tmp rfl .nil) ⟨rfl, hS.ext⟩
  · replace H := pif_f (of_decide_eq_false hb) H
    refine OJ.pures tU_ok 5 rfl ?_
    refine OJ.nil (EJ.next ?_)
    refine CJ.ret (?_)
    obtain rfl := Option.some.inj H
    exact EJ.fin rfl (.tmp rfl .nil) ⟨rfl, hS.ext⟩

def spec_l07Days.f (a0 : Int) : Option Bool := (spec_l00In.f a0 0 30).bind fun t1 => some t1
theorem spec_l07Days.c (w : World) (a0 : Int) (r : Bool) (H : spec_l07Days.f a0 = some r) :
    CV Try.prog 32 [.int .i64 a0].toArray w fun v w' => v = .bool r ∧ Ext w w' := by
  have hS := (St.init w no)
  unfold spec_l07Days.f at H
  refine CV.body Try.func32 rfl Try.ntmps32 rfl ?_
  refine CJ.seq ?_
  refine CJ.region ?_
  refine OJ.pures tU_ok 1 rfl ?_
  refine OJ.nil (EJ.next ?_)
  refine CJ.seq ?_
  refine CJ.region ?_
  refine OJ.pures tU_ok 1 rfl ?_
  obtain ⟨t1, ht1, H⟩ := pbind H
  refine OJ.callF rfl rfl rfl rfl rfl hb52 rfl (spec_l00In.c _ a0 0 30 _ ht1) ?_
  rintro _ w1 ⟨rfl, hs⟩
  replace hS := hS.grow hs
  refine OJ.pures tU_ok 1 rfl ?_
  refine OJ.nil (EJ.next ?_)
  refine CJ.ret (?_)
  obtain rfl := Option.some.inj H
  exact EJ.fin rfl (.tmp rfl .nil) ⟨rfl, hS.ext⟩

def spec_l07Budget.f (a0 : Int) : Option Bool := (spec_l00In.f a0 0 20000).bind fun t1 => some t1
theorem spec_l07Budget.c (w : World) (a0 : Int) (r : Bool) (H : spec_l07Budget.f a0 = some r) :
    CV Try.prog 33 [.int .i64 a0].toArray w fun v w' => v = .bool r ∧ Ext w w' := by
  have hS := (St.init w no)
  unfold spec_l07Budget.f at H
  refine CV.body Try.func33 rfl Try.ntmps33 rfl ?_
  refine CJ.seq ?_
  refine CJ.region ?_
  refine OJ.pures tU_ok 1 rfl ?_
  refine OJ.nil (EJ.next ?_)
  refine CJ.seq ?_
  refine CJ.region ?_
  refine OJ.pures tU_ok 1 rfl ?_
  obtain ⟨t1, ht1, H⟩ := pbind H
  refine OJ.callF rfl rfl rfl rfl rfl hb52 rfl (spec_l00In.c _ a0 0 20000 _ ht1) ?_
  rintro _ w1 ⟨rfl, hs⟩
  replace hS := hS.grow hs
  refine OJ.pures tU_ok 1 rfl ?_
  refine OJ.nil (EJ.next ?_)
  refine CJ.ret (?_)
  obtain rfl := Option.some.inj H
  exact EJ.fin rfl (.tmp rfl .nil) ⟨rfl, hS.ext⟩

def spec_l01Grass.f (a0 : Int) : Option Bool := (spec_l00In.f a0 0 1000).bind fun t1 => some t1
theorem spec_l01Grass.c (w : World) (a0 : Int) (r : Bool) (H : spec_l01Grass.f a0 = some r) :
    CV Try.prog 65 [.int .i64 a0].toArray w fun v w' => v = .bool r ∧ Ext w w' := by
  have hS := (St.init w no)
  unfold spec_l01Grass.f at H
  refine CV.body Try.func65 rfl Try.ntmps65 rfl ?_
  refine CJ.seq ?_
  refine CJ.region ?_
  refine OJ.pures tU_ok 1 rfl ?_
  refine OJ.nil (EJ.next ?_)
  refine CJ.seq ?_
  refine CJ.region ?_
  refine OJ.pures tU_ok 1 rfl ?_
  obtain ⟨t1, ht1, H⟩ := pbind H
  refine OJ.callF rfl rfl rfl rfl rfl hb52 rfl (spec_l00In.c _ a0 0 1000 _ ht1) ?_
  rintro _ w1 ⟨rfl, hs⟩
  replace hS := hS.grow hs
  refine OJ.pures tU_ok 1 rfl ?_
  refine OJ.nil (EJ.next ?_)
  refine CJ.ret (?_)
  obtain rfl := Option.some.inj H
  exact EJ.fin rfl (.tmp rfl .nil) ⟨rfl, hS.ext⟩

def spec_l07Ok.l1 (a0 : List Meadow) : Nat → Int → Option (Bool ⊕ Unit)
  | 0, _ => none
  | k + 1, y1 => if y1 < (a0.length : Int) then ((getI a0 y1).bind fun t2 => (spec_l01Grass.f (IntKind.i64.wrap t2.Most)).bind fun t3 => if (!t3) = true then (some (Sum.inl false)) else ((getI a0 y1).bind fun t4 => (spec_l00In.f (IntKind.i64.wrap t4.Grass) 0 (IntKind.i64.wrap t2.Most)).bind fun t5 => if (!t5) = true then (some (Sum.inl false)) else ((getI a0 y1).bind fun t6 => (spec_l00In.f (IntKind.i64.wrap t6.Grows) 0 (IntKind.i64.wrap t2.Most)).bind fun t7 => if (!t7) = true then (some (Sum.inl false)) else (spec_l07Ok.l1 a0 k (IntKind.i64.wrap (y1 + 1)))))) else (some (Sum.inr ()))
def spec_l07Ok.f (k : Nat) (a0 : List Meadow) : Option Bool := (spec_l07Ok.l1 a0 k 0).bind fun s11 => match s11 with | .inl r => some r | .inr _ => (spec_l00In.f (a0.length : Int) 1 6).bind fun t8 => some t8
theorem spec_l07Ok.c (k : Nat) (w : World) (Aa0 : Option Addr) (ca0 : Nat) (a0 : List Meadow) (hr0 : Rd cMeadow w Aa0 a0) (hc0 : a0.length ≤ ca0) (r : Bool) (H : spec_l07Ok.f k a0 = some r) :
    CV Try.prog 58 [.slice Aa0 a0.length ca0].toArray w fun v w' => v = .bool r ∧ Ext w w' := by
  have hS := ((St.init w no).param cMeadow Aa0 ca0 a0 hr0 hc0)
  unfold spec_l07Ok.f at H
  refine CV.body Try.func58 rfl Try.ntmps58 rfl ?_
  refine CJ.seq ?_
  refine CJ.region ?_
  refine OJ.pures tU_ok 1 rfl ?_
  refine OJ.nil (EJ.next ?_)
  refine CJ.seq ?_
  refine CJ.seq ?_
  refine CJ.region ?_
  refine OJ.pures tU_ok 1 rfl ?_
  refine OJ.nil (EJ.next ?_)
  obtain ⟨j11, H, K11⟩ := pbind H
  refine CJ.cut1 (fun F w1 => (some (Sum.inr ()) : Option (Bool ⊕ Unit)) = some j11 ∧ F = [(0, .slice Aa0 a0.length ca0)] ∧ St w no w1 [] [roC cMeadow Aa0 ca0 a0]) ?_ ?_
  · skip
    refine CJ.block ?_
    refine CJ.loop (fun k F w1 => ∃ (y1 : Int), F = [(0, .slice Aa0 a0.length ca0), (3, .int .i64 y1)] ∧ St w no w1 [] [roC cMeadow Aa0 ca0 a0] ∧ spec_l07Ok.l1 a0 k y1 = some j11) k (F' := [(0, .slice Aa0 a0.length ca0), (3, .int .i64 0)]) ⟨rfl, rfl, trivial⟩ ⟨0, rfl, hS.pick [] [0] rfl, H⟩ ?_
    rintro k F w1 ⟨y1, rfl, hS, H⟩
    cases k with
    | zero => rw [spec_l07Ok.l1] at H; cases H
    | succ k =>
      rw [spec_l07Ok.l1] at H
      refine CJ.seq ?_
      refine CJ.seq ?_
      refine CJ.region ?_
      refine OJ.pures tU_ok 4 rfl ?_
      refine OJ.nil (EJ.next ?_)
      refine CJ.cond rfl (fun hb => ?_) (fun hb => ?_)
      · replace H := pif_t (of_decide_eq_true hb) H
        refine CJ.skip (EJ.next ?_)
        refine CJ.seq ?_
        refine CJ.block ?_
        refine CJ.seq ?_
        refine CJ.region ?_
        refine OJ.pures tU_ok 2 rfl ?_
        obtain ⟨t2, ht2, H⟩ := pbind H
        obtain ⟨ad2, e2⟩ := (hS.rd' (i := 0) rfl).some' ht2
        refine OJ.st rfl rfl rfl (SR.idxS tU_ok tI_ok rfl rfl rfl rfl e2 rfl (getI_some ht2).1) ?_
        refine OJ.st rfl rfl rfl (SR.fieldAddr tU_ok tI_ok rfl rfl rfl rfl rfl rfl) ?_
        refine OJ.st rfl rfl rfl (SR.load rfl rfl (fun w' hx => ld1 tU_ok rfl rfl (CA.ext (CA.sub ((hS.rd' (i := 0) rfl).at_ e2 ht2) 2) hx) rfl)) ?_
        refine OJ.pures tU_ok 2 rfl ?_
        refine OJ.nil (EJ.next ?_)
        refine CJ.seq ?_
        refine CJ.region ?_
        refine OJ.pures tU_ok 1 rfl ?_
        obtain ⟨t3, ht3, H⟩ := pbind H
        refine OJ.callF rfl rfl rfl rfl rfl hb65 rfl (spec_l01Grass.c _ (IntKind.i64.wrap t2.Most) _ ht3) ?_
        rintro _ w1 ⟨rfl, hs⟩
        replace hS := hS.grow hs
        refine OJ.pures tU_ok 2 rfl ?_
        refine OJ.split (t := 20) rfl (fun hb => ?_) (fun hb => ?_)
        · replace H := pif_t hb H
          refine OJ.pures tU_ok 21 rfl ?_
          refine OJ.nil (EJ.next ?_)
          refine CJ.condT rfl ?_
          refine CJ.seq ?_
          refine CJ.region ?_
          refine OJ.pures tU_ok 1 rfl ?_
          refine OJ.nil (EJ.next ?_)
          refine CJ.ret (EJ.bkR (EJ.skR (EJ.skR (EJ.bkR (EJ.skR (EJ.skR (?_)))))))
          first | (obtain rfl := Option.some.inj H; have H := K11) | (obtain ⟨q11, H2, e11⟩ := pbind H; obtain rfl := Option.some.inj e11; obtain rfl := Option.some.inj K11; have H := H2)
          obtain rfl := Option.some.inj H
          exact EJ.fin rfl (.tmp rfl .nil) ⟨rfl, hS.ext⟩
        · replace H := pifb_f hb H
          refine OJ.pures tU_ok 2 rfl ?_
          obtain ⟨t4, ht4, H⟩ := pbind H
          obtain ⟨ad4, e4⟩ := (hS.rd' (i := 0) rfl).some' ht4
          refine OJ.st rfl rfl rfl (SR.idxS tU_ok tI_ok rfl rfl rfl rfl e4 rfl (getI_some ht4).1) ?_
          refine OJ.st rfl rfl rfl (SR.fieldAddr tU_ok tI_ok rfl rfl rfl rfl rfl rfl) ?_
          refine OJ.st rfl rfl rfl (SR.load rfl rfl (fun w' hx => ld1 tU_ok rfl rfl (CA.ext (CA.sub ((hS.rd' (i := 0) rfl).at_ e4 ht4) 0) hx) rfl)) ?_
          refine OJ.pures tU_ok 2 rfl ?_
          obtain ⟨t5, ht5, H⟩ := pbind H
          refine OJ.callF rfl rfl rfl rfl rfl hb52 rfl (spec_l00In.c _ (IntKind.i64.wrap t4.Grass) 0 (IntKind.i64.wrap t2.Most) _ ht5) ?_
          rintro _ w1 ⟨rfl, hs⟩
          replace hS := hS.grow hs
          refine OJ.pures tU_ok 3 rfl ?_
          refine OJ.split (t := 31) rfl (fun hb => ?_) (fun hb => ?_)
          · replace H := pif_t hb H
            refine OJ.pures tU_ok 10 rfl ?_
            refine OJ.nil (EJ.next ?_)
            refine CJ.condT rfl ?_
            refine CJ.seq ?_
            refine CJ.region ?_
            refine OJ.pures tU_ok 1 rfl ?_
            refine OJ.nil (EJ.next ?_)
            refine CJ.ret (EJ.bkR (EJ.skR (EJ.skR (EJ.bkR (EJ.skR (EJ.skR (?_)))))))
            first | (obtain rfl := Option.some.inj H; have H := K11) | (obtain ⟨q11, H2, e11⟩ := pbind H; obtain rfl := Option.some.inj e11; obtain rfl := Option.some.inj K11; have H := H2)
            obtain rfl := Option.some.inj H
            exact EJ.fin rfl (.tmp rfl .nil) ⟨rfl, hS.ext⟩
          · replace H := pifb_f hb H
            refine OJ.pures tU_ok 2 rfl ?_
            obtain ⟨t6, ht6, H⟩ := pbind H
            obtain ⟨ad6, e6⟩ := (hS.rd' (i := 0) rfl).some' ht6
            refine OJ.st rfl rfl rfl (SR.idxS tU_ok tI_ok rfl rfl rfl rfl e6 rfl (getI_some ht6).1) ?_
            refine OJ.st rfl rfl rfl (SR.fieldAddr tU_ok tI_ok rfl rfl rfl rfl rfl rfl) ?_
            refine OJ.st rfl rfl rfl (SR.load rfl rfl (fun w' hx => ld1 tU_ok rfl rfl (CA.ext (CA.sub ((hS.rd' (i := 0) rfl).at_ e6 ht6) 1) hx) rfl)) ?_
            refine OJ.pures tU_ok 2 rfl ?_
            obtain ⟨t7, ht7, H⟩ := pbind H
            refine OJ.callF rfl rfl rfl rfl rfl hb52 rfl (spec_l00In.c _ (IntKind.i64.wrap t6.Grows) 0 (IntKind.i64.wrap t2.Most) _ ht7) ?_
            rintro _ w1 ⟨rfl, hs⟩
            replace hS := hS.grow hs
            refine OJ.pures tU_ok 2 rfl ?_
            refine OJ.nil (EJ.next ?_)
            refine CJ.cond rfl (fun hb => ?_) (fun hb => ?_)
            · replace H := pif_t hb H
              refine CJ.seq ?_
              refine CJ.region ?_
              refine OJ.pures tU_ok 1 rfl ?_
              refine OJ.nil (EJ.next ?_)
              refine CJ.ret (EJ.bkR (EJ.skR (EJ.skR (EJ.bkR (EJ.skR (EJ.skR (?_)))))))
              first | (obtain rfl := Option.some.inj H; have H := K11) | (obtain ⟨q11, H2, e11⟩ := pbind H; obtain rfl := Option.some.inj e11; obtain rfl := Option.some.inj K11; have H := H2)
              obtain rfl := Option.some.inj H
              exact EJ.fin rfl (.tmp rfl .nil) ⟨rfl, hS.ext⟩
            · replace H := pifb_f hb H
              refine CJ.skip (EJ.blk (EJ.next ?_))
              refine CJ.region ?_
              refine OJ.pures tU_ok 3 rfl ?_
              refine OJ.nil ?_
              exact EJ.round k (F' := [(0, .slice Aa0 a0.length ca0), (3, .int .i64 (IntKind.i64.wrap (y1 + 1)))]) ⟨rfl, rfl, trivial⟩ (Nat.lt_succ_self _) ⟨(IntKind.i64.wrap (y1 + 1)), rfl, hS.pick [] [0] rfl, H⟩
      · replace H := pif_f (of_decide_eq_false hb) H
        refine CJ.exit (EJ.skE (EJ.skE (EJ.hit (?_))))
        exact EJ.meet (F' := [(0, .slice Aa0 a0.length ca0)]) ⟨rfl, trivial⟩ ⟨H, rfl, hS.pick [] [0] rfl⟩
  · rintro F w1 ⟨he, rfl, hS⟩
    obtain rfl := Option.some.inj he
    have H := K11
    refine EJ.next ?_
    refine CJ.seq ?_
    refine CJ.region ?_
    refine OJ.pures tU_ok 2 rfl ?_
    obtain ⟨t8, ht8, H⟩ := pbind H
    refine OJ.callF rfl rfl rfl rfl rfl hb52 rfl (spec_l00In.c _ (a0.length : Int) 1 6 _ ht8) ?_
    rintro _ w1 ⟨rfl, hs⟩
    replace hS := hS.grow hs
    refine OJ.pures tU_ok 1 rfl ?_
    refine OJ.nil (EJ.next ?_)
    refine CJ.ret (?_)
    obtain rfl := Option.some.inj H
    exact EJ.fin rfl (.tmp rfl .nil) ⟨rfl, hS.ext⟩

def spec_l07Asked.f (k : Nat) (a0 : List Meadow) (a1 : Int) (a2 : Bool) : Option Int := (spec_l07Ok.f k a0).bind fun t1 => if (!t1) = true then (some 1) else ((spec_l00In.f a1 1 1000).bind fun t2 => if (!t2) = true then (some 2) else (if (!a2) = true then (some 2) else (some 0)))
theorem spec_l07Asked.c (k : Nat) (w : World) (Aa0 : Option Addr) (ca0 : Nat) (a0 : List Meadow) (hr0 : Rd cMeadow w Aa0 a0) (hc0 : a0.length ≤ ca0) (a1 : Int) (a2 : Bool) (r : Int) (H : spec_l07Asked.f k a0 a1 a2 = some r) :
    CV Try.prog 31 [.slice Aa0 a0.length ca0, .int .i64 a1, .bool a2].toArray w fun v w' => v = .int .i64 r ∧ Ext w w' := by
  have hS := ((St.init w no).param cMeadow Aa0 ca0 a0 hr0 hc0)
  unfold spec_l07Asked.f at H
  refine CV.body Try.func31 rfl Try.ntmps31 rfl ?_
  refine CJ.seq ?_
  refine CJ.region ?_
  refine OJ.pures tU_ok 1 rfl ?_
  refine OJ.nil (EJ.next ?_)
  refine CJ.seq ?_
  refine CJ.seq ?_
  refine CJ.region ?_
  refine OJ.pures tU_ok 1 rfl ?_
  obtain ⟨t1, ht1, H⟩ := pbind H
  refine OJ.callF rfl rfl rfl rfl rfl hb58 rfl (spec_l07Ok.c k _ Aa0 ca0 a0 (hS.rd' (i := 0) rfl) (hS.le' (i := 0) rfl) _ ht1) ?_
  rintro _ w1 ⟨rfl, hs⟩
  replace hS := hS.grow hs
  refine OJ.pures tU_ok 1 rfl ?_
  refine OJ.nil (EJ.next ?_)
  refine CJ.cond rfl (fun hb => ?_) (fun hb => ?_)
  · replace H := pif_t hb H
    refine CJ.seq ?_
    refine CJ.region ?_
    refine OJ.pures tU_ok 1 rfl ?_
    refine OJ.nil (EJ.next ?_)
    refine CJ.ret (EJ.skR (?_))
    obtain rfl := Option.some.inj H
    exact EJ.fin rfl (.tmp rfl .nil) ⟨rfl, hS.ext⟩
  · replace H := pifb_f hb H
    refine CJ.skip (EJ.next ?_)
    refine CJ.seq ?_
    refine CJ.seq ?_
    refine CJ.region ?_
    refine OJ.pures tU_ok 1 rfl ?_
    obtain ⟨t2, ht2, H⟩ := pbind H
    refine OJ.callF rfl rfl rfl rfl rfl hb52 rfl (spec_l00In.c _ a1 1 1000 _ ht2) ?_
    rintro _ w1 ⟨rfl, hs⟩
    replace hS := hS.grow hs
    refine OJ.pures tU_ok 2 rfl ?_
    refine OJ.split (t := 13) rfl (fun hb => ?_) (fun hb => ?_)
    · replace H := pif_t hb H
      refine OJ.pures tU_ok 3 rfl ?_
      refine OJ.nil (EJ.next ?_)
      refine CJ.condT rfl ?_
      refine CJ.seq ?_
      refine CJ.region ?_
      refine OJ.pures tU_ok 1 rfl ?_
      refine OJ.nil (EJ.next ?_)
      refine CJ.ret (EJ.skR (?_))
      obtain rfl := Option.some.inj H
      exact EJ.fin rfl (.tmp rfl .nil) ⟨rfl, hS.ext⟩
    · replace H := pifb_f hb H
      refine OJ.pures tU_ok 3 rfl ?_
      refine OJ.nil (EJ.next ?_)
      refine CJ.cond rfl (fun hb => ?_) (fun hb => ?_)
      · replace H := pif_t hb H
        refine CJ.seq ?_
        refine CJ.region ?_
        refine OJ.pures tU_ok 1 rfl ?_
        refine OJ.nil (EJ.next ?_)
        refine CJ.ret (EJ.skR (?_))
        obtain rfl := Option.some.inj H
        exact EJ.fin rfl (.tmp rfl .nil) ⟨rfl, hS.ext⟩
      · replace H := pifb_f hb H
        refine CJ.skip (EJ.next ?_)
        refine CJ.seq ?_
        refine CJ.region ?_
        refine OJ.pures tU_ok 1 rfl ?_
        refine OJ.nil (EJ.next ?_)
        refine CJ.ret (?_)
        obtain rfl := Option.some.inj H
        exact EJ.fin rfl (.tmp rfl .nil) ⟨rfl, hS.ext⟩

def spec_l07Day.l1 : Nat → (List Meadow) → Int → Option (List Meadow)
  | 0, _, _ => none
  | k + 1, y8, y9 => if y9 < (y8.length : Int) then ((getI y8 y9).bind fun t10 => (getI y8 y9).bind fun t11 => (getI y8 y9).bind fun t12 => (spec_l00Min.f (IntKind.i64.wrap t10.Most) (IntKind.i64.wrap ((IntKind.i64.wrap t11.Grass) + (IntKind.i64.wrap t12.Grows)))).bind fun t13 => (getI y8 y9).bind fun t14 => spec_l07Day.l1 k (y8.set y9.toNat (⟨IntKind.i16.wrap t13, t14.Grows, t14.Most⟩ : Meadow)) (IntKind.i64.wrap (y9 + 1))) else (some y8)
def spec_l07Day.f (k : Nat) (a0 : List Meadow) (a1 : Int) (a2 : Int) : Option (List Meadow) := (chk (([] : List Meadow).length + a0.length ≤ 4294967296)).bind fun u2 => (getI (([] : List Meadow) ++ a0) a2).bind fun t5 => (getI (([] : List Meadow) ++ a0) a2).bind fun t6 => (spec_l07Day.l1 k ((([] : List Meadow) ++ a0).set a2.toNat (⟨IntKind.i16.wrap (t5.Grass - (IntKind.i16.wrap a1)), t6.Grows, t6.Most⟩ : Meadow)) 0).bind fun y7 => some y7
theorem spec_l07Day.c (k : Nat) (w : World) (Aa0 : Option Addr) (ca0 : Nat) (a0 : List Meadow) (hr0 : Rd cMeadow w Aa0 a0) (hc0 : a0.length ≤ ca0) (a1 : Int) (a2 : Int) (r : List Meadow) (H : spec_l07Day.f k a0 a1 a2 = some r) :
    CV Try.prog 49 [.slice Aa0 a0.length ca0, .int .i64 a1, .int .i64 a2].toArray w fun v w' => ∃ (A0 : Option Addr) (c0 : Nat), v = .slice A0 r.length c0 ∧ St w no w' [rowC cMeadow A0 c0 47 r] [] := by
  have hS := ((St.init w no).param cMeadow Aa0 ca0 a0 hr0 hc0)
  unfold spec_l07Day.f at H
  refine CV.body Try.func49 rfl Try.ntmps49 rfl ?_
  refine CJ.seq ?_
  refine CJ.region ?_
  refine OJ.pures tU_ok 1 rfl ?_
  refine OJ.nil (EJ.next ?_)
  refine CJ.seq ?_
  refine CJ.region ?_
  refine OJ.ef rfl rfl rfl (Ef.lit tU_ok tI_ok hS (C := cMeadow) rfl rfl rfl rfl rfl rfl ([] : List Meadow) rfl rfl rfl rfl) ?_
  rintro _ w1 ⟨A1, rfl, hS⟩
  refine OJ.pures tU_ok 1 rfl ?_
  obtain ⟨u2, hu2, H⟩ := pbind H
  refine OJ.ew rfl rfl rfl (Ew.append tU_ok tI_ok (C := cMeadow) (xs := ([] : List Meadow)) (ys := a0) hS (i := 0) rfl rfl rfl rfl rfl rfl rfl rfl rfl rfl rfl rfl rfl (hS.rd' (i := 0) rfl) (chk_some hu2)) ?_
  rintro _ w1 ⟨A3, c4, rfl, hS⟩
  refine OJ.pures tU_ok 1 rfl ?_
  refine OJ.nil (EJ.next ?_)
  refine CJ.seq ?_
  refine CJ.region ?_
  refine OJ.pures tU_ok 2 rfl ?_
  obtain ⟨t5, ht5, H⟩ := pbind H
  obtain ⟨ad5, e5⟩ := (hS.rd (i := 0) rfl).some' ht5
  refine OJ.st rfl rfl rfl (SR.idxS tU_ok tI_ok rfl rfl rfl rfl e5 rfl (getI_some ht5).1) ?_
  refine OJ.st rfl rfl rfl (SR.fieldAddr tU_ok tI_ok rfl rfl rfl rfl rfl rfl) ?_
  refine OJ.st rfl rfl rfl (SR.load rfl rfl (fun w' hx => ld1 tU_ok rfl rfl (CA.ext (CA.sub ((hS.rd (i := 0) rfl).at_ e5 ht5) 0) hx) rfl)) ?_
  refine OJ.pures tU_ok 3 rfl ?_
  obtain ⟨t6, ht6, H⟩ := pbind H
  obtain ⟨ad6, e6⟩ := (hS.rd (i := 0) rfl).some' ht6
  refine OJ.st rfl rfl rfl (SR.idxS tU_ok tI_ok rfl rfl rfl rfl e6 rfl (getI_some ht6).1) ?_
  refine OJ.st rfl rfl rfl (SR.fieldAddr tU_ok tI_ok rfl rfl rfl rfl rfl rfl) ?_
  refine OJ.es rfl rfl (Es.storeR tI_ok hS (i := 0) (off := 0) rfl rfl ht6 e6 rfl (add_add _ _ _) rfl rfl (vs := (ci .i16).enc (IntKind.i16.wrap (t5.Grass - (IntKind.i16.wrap a1)))) rfl rfl (one1 rfl) (Nat.le_of_ble_eq_true rfl) (⟨IntKind.i16.wrap (t5.Grass - (IntKind.i16.wrap a1)), t6.Grows, t6.Most⟩ : Meadow) rfl) ?_
  intro w1 hS
  refine OJ.as (t := 11) rfl (show _ = (.slice A3 ((([] : List Meadow) ++ a0).set a2.toNat (⟨IntKind.i16.wrap (t5.Grass - (IntKind.i16.wrap a1)), t6.Grows, t6.Most⟩ : Meadow)).length c4 : Value) by simp only [List.length_set]) ?_
  refine OJ.as (t := 7) rfl (show _ = (.slice A3 ((([] : List Meadow) ++ a0).set a2.toNat (⟨IntKind.i16.wrap (t5.Grass - (IntKind.i16.wrap a1)), t6.Grows, t6.Most⟩ : Meadow)).length c4 : Value) by simp only [List.length_set]) ?_
  refine OJ.as (t := 12) rfl (show _ = (.slice A3 ((([] : List Meadow) ++ a0).set a2.toNat (⟨IntKind.i16.wrap (t5.Grass - (IntKind.i16.wrap a1)), t6.Grows, t6.Most⟩ : Meadow)).length c4 : Value) by simp only [List.length_set]) ?_
  refine OJ.nil (EJ.next ?_)
  refine CJ.seq ?_
  refine CJ.seq ?_
  refine CJ.region ?_
  refine OJ.pures tU_ok 1 rfl ?_
  refine OJ.nil (EJ.next ?_)
  obtain ⟨j14, H, K14⟩ := pbind H
  refine CJ.cut1 (fun F w1 => ∃ (y7 : List Meadow) , (some y7 : Option (List Meadow)) = some j14 ∧ F = [(7, .slice A3 y7.length c4)] ∧ St w no w1 [rowC cMeadow A3 c4 47 y7] [roC cMeadow Aa0 ca0 a0]) ?_ ?_
  · skip
    refine CJ.block ?_
    refine CJ.loop (fun k F w1 => ∃ (y8 : List Meadow) (y9 : Int), F = [(7, .slice A3 y8.length c4), (8, .int .i64 y9)] ∧ St w no w1 [rowC cMeadow A3 c4 47 y8] [roC cMeadow Aa0 ca0 a0] ∧ spec_l07Day.l1 k y8 y9 = some j14) k (F' := [(7, .slice A3 ((([] : List Meadow) ++ a0).set a2.toNat (⟨IntKind.i16.wrap (t5.Grass - (IntKind.i16.wrap a1)), t6.Grows, t6.Most⟩ : Meadow)).length c4), (8, .int .i64 0)]) ⟨rfl, rfl, trivial⟩ ⟨((([] : List Meadow) ++ a0).set a2.toNat (⟨IntKind.i16.wrap (t5.Grass - (IntKind.i16.wrap a1)), t6.Grows, t6.Most⟩ : Meadow)), 0, rfl, hS.pick [0] [0] rfl, H⟩ ?_
    rintro k F w1 ⟨y8, y9, rfl, hS, H⟩
    cases k with
    | zero => rw [spec_l07Day.l1] at H; cases H
    | succ k =>
      rw [spec_l07Day.l1] at H
      refine CJ.seq ?_
      refine CJ.seq ?_
      refine CJ.region ?_
      refine OJ.pures tU_ok 4 rfl ?_
      refine OJ.nil (EJ.next ?_)
      refine CJ.cond rfl (fun hb => ?_) (fun hb => ?_)
      · replace H := pif_t (of_decide_eq_true hb) H
        refine CJ.skip (EJ.next ?_)
        refine CJ.seq ?_
        refine CJ.block ?_
        refine CJ.draw [] [0, 1, 2, 3, 4, 5, 6, 7, 8, 9, 10, 11, 12, 13, 14, 15, 16, 17, 18, 19, 20, 21, 22, 23, 24, 25] mixed (by kernel_rfl) hS fun w1 hS => ?_
        refine DJ.pures tU_ok 4 rfl ?_
        obtain ⟨t10, ht10, H⟩ := pbind H
        obtain ⟨ad10, e10⟩ := (hS.rd (i := 0) rfl).some' ht10
        refine DJ.st rfl rfl rfl rfl rfl (SR.idxS tU_ok tI_ok rfl rfl rfl rfl e10 rfl (getI_some ht10).1) ?_
        refine DJ.st rfl rfl rfl rfl rfl (SR.fieldAddr tU_ok tI_ok rfl rfl rfl rfl rfl rfl) ?_
        refine DJ.st rfl rfl rfl rfl rfl (SR.load rfl rfl (fun w' hx => ld1 tU_ok rfl rfl (CA.ext (CA.sub ((hS.rd (i := 0) rfl).at_ e10 ht10) 2) hx) rfl)) ?_
        refine DJ.pures tU_ok 3 rfl ?_
        obtain ⟨t11, ht11, H⟩ := pbind H
        obtain ⟨ad11, e11⟩ := (hS.rd (i := 0) rfl).some' ht11
        refine DJ.st rfl rfl rfl rfl rfl (SR.idxS tU_ok tI_ok rfl rfl rfl rfl e11 rfl (getI_some ht11).1) ?_
        refine DJ.st rfl rfl rfl rfl rfl (SR.fieldAddr tU_ok tI_ok rfl rfl rfl rfl rfl rfl) ?_
        refine DJ.st rfl rfl rfl rfl rfl (SR.load rfl rfl (fun w' hx => ld1 tU_ok rfl rfl (CA.ext (CA.sub ((hS.rd (i := 0) rfl).at_ e11 ht11) 0) hx) rfl)) ?_
        refine DJ.pures tU_ok 3 rfl ?_
        obtain ⟨t12, ht12, H⟩ := pbind H
        obtain ⟨ad12, e12⟩ := (hS.rd (i := 0) rfl).some' ht12
        refine DJ.st rfl rfl rfl rfl rfl (SR.idxS tU_ok tI_ok rfl rfl rfl rfl e12 rfl (getI_some ht12).1) ?_
        refine DJ.st rfl rfl rfl rfl rfl (SR.fieldAddr tU_ok tI_ok rfl rfl rfl rfl rfl rfl) ?_
        refine DJ.st rfl rfl rfl rfl rfl (SR.load rfl rfl (fun w' hx => ld1 tU_ok rfl rfl (CA.ext (CA.sub ((hS.rd (i := 0) rfl).at_ e12 ht12) 1) hx) rfl)) ?_
        refine DJ.pures tU_ok 2 rfl ?_
        obtain ⟨t13, ht13, H⟩ := pbind H
        refine DJ.callF rfl rfl rfl rfl rfl rfl rfl hb55 rfl (spec_l00Min.c _ (IntKind.i64.wrap t10.Most) (IntKind.i64.wrap ((IntKind.i64.wrap t11.Grass) + (IntKind.i64.wrap t12.Grows))) _ ht13) (by rintro v w' ⟨rfl, hs⟩; exact hs) ?_
        rintro _ w1 ⟨rfl, hs⟩
        replace hS := hS.grow hs
        refine DJ.pures tU_ok 1 rfl ?_
        obtain ⟨t14, ht14, H⟩ := pbind H
        obtain ⟨ad14, e14⟩ := (hS.rd (i := 0) rfl).some' ht14
        refine DJ.st rfl rfl rfl rfl rfl (SR.idxS tU_ok tI_ok rfl rfl rfl rfl e14 rfl (getI_some ht14).1) ?_
        refine DJ.st rfl rfl rfl rfl rfl (SR.fieldAddr tU_ok tI_ok rfl rfl rfl rfl rfl rfl) ?_
        refine DJ.es rfl rfl rfl rfl (Es.storeR tI_ok hS (i := 0) (off := 0) rfl rfl ht14 e14 rfl (add_add _ _ _) rfl rfl (vs := (ci .i16).enc (IntKind.i16.wrap t13)) rfl rfl (one1 rfl) (Nat.le_of_ble_eq_true rfl) (⟨IntKind.i16.wrap t13, t14.Grows, t14.Most⟩ : Meadow) rfl) ?_
        intro w1 hS
        refine DJ.as (t := 7) rfl (show _ = (.slice A3 (y8.set y9.toNat (⟨IntKind.i16.wrap t13, t14.Grows, t14.Most⟩ : Meadow)).length c4 : Value) by simp only [List.length_set]) ?_
        refine DJ.as (t := 23) rfl (show _ = (.slice A3 (y8.set y9.toNat (⟨IntKind.i16.wrap t13, t14.Grows, t14.Most⟩ : Meadow)).length c4 : Value) by simp only [List.length_set]) ?_
        refine DJ.as (t := 28) rfl (show _ = (.slice A3 (y8.set y9.toNat (⟨IntKind.i16.wrap t13, t14.Grows, t14.Most⟩ : Meadow)).length c4 : Value) by simp only [List.length_set]) ?_
        refine DJ.as (t := 30) rfl (show _ = (.slice A3 (y8.set y9.toNat (⟨IntKind.i16.wrap t13, t14.Grows, t14.Most⟩ : Meadow)).length c4 : Value) by simp only [List.length_set]) ?_
        refine DJ.as (t := 36) rfl (show _ = (.slice A3 (y8.set y9.toNat (⟨IntKind.i16.wrap t13, t14.Grows, t14.Most⟩ : Meadow)).length c4 : Value) by simp only [List.length_set]) ?_
        refine DJ.as (t := 42) rfl (show _ = (.slice A3 (y8.set y9.toNat (⟨IntKind.i16.wrap t13, t14.Grows, t14.Most⟩ : Meadow)).length c4 : Value) by simp only [List.length_set]) ?_
        refine DJ.nil (EJ.blk (EJ.next ?_))
        refine CJ.region ?_
        refine OJ.pures tU_ok 3 rfl ?_
        refine OJ.nil ?_
        exact EJ.round k (F' := [(7, .slice A3 (y8.set y9.toNat (⟨IntKind.i16.wrap t13, t14.Grows, t14.Most⟩ : Meadow)).length c4), (8, .int .i64 (IntKind.i64.wrap (y9 + 1)))]) ⟨rfl, rfl, trivial⟩ (Nat.lt_succ_self _) ⟨(y8.set y9.toNat (⟨IntKind.i16.wrap t13, t14.Grows, t14.Most⟩ : Meadow)), (IntKind.i64.wrap (y9 + 1)), rfl, hS.pick [0] [0] rfl, H⟩
      · replace H := pif_f (of_decide_eq_false hb) H
        refine CJ.exit (EJ.skE (EJ.skE (EJ.hit (?_))))
        exact EJ.meet (F' := [(7, .slice A3 y8.length c4)]) ⟨rfl, trivial⟩ ⟨y8, H, rfl, hS.pick [0] [0] rfl⟩
  · rintro F w1 ⟨y7, he, rfl, hS⟩
    obtain rfl := Option.some.inj he
    have H := K14
    refine EJ.next ?_
    refine CJ.seq ?_
    refine CJ.region ?_
    refine OJ.pures tU_ok 2 rfl ?_
    refine OJ.nil (EJ.next ?_)
    refine CJ.ret (?_)
    obtain rfl := Option.some.inj H
    exact EJ.fin rfl (.tmp rfl .nil) ⟨A3, c4, rfl, hS.pick [0] [] rfl⟩

def spec_l07Search_from.l1 (self : l07Search → (List Meadow) → (List Int) → Option (List Int × Bool × l07Search)) (a1 : List Meadow) (a2 : List Int) : Nat → l07Search → Int → Option ((List Int × Bool × l07Search) ⊕ l07Search)
  | 0, _, _ => none
  | k + 1, y2, y3 => if y3 < (a1.length : Int) then ((getI a1 y3).bind fun t4 => if (IntKind.i64.wrap t4.Grass) < y2.need then (spec_l07Search_from.l1 self a1 a2 k y2 (IntKind.i64.wrap (y3 + 1))) else (if y2.tries = y2.budget then (some (Sum.inl (a2, false, (⟨y2.need, y2.days, y2.budget, y2.tries, true⟩ : l07Search)))) else ((spec_l07Day.f k a1 y2.need y3).bind fun t5 => (chk (([] : List Int).length + a2.length ≤ 4294967296)).bind fun u9 => (chk ((([] : List Int) ++ a2).length + ([y3] : List Int).length ≤ 4294967296)).bind fun u13 => (self (⟨y2.need, y2.days, y2.budget, IntKind.i64.wrap (y2.tries + 1), y2.over_⟩ : l07Search) t5 ((([] : List Int) ++ a2) ++ ([y3] : List Int))).bind fun t16 => if t16.2.1 = true then (some (Sum.inl (t16.1, t16.2.1, t16.2.2))) else (if t16.2.2.over_ = true then (some (Sum.inl (t16.1, t16.2.1, t16.2.2))) else (spec_l07Search_from.l1 self a1 a2 k t16.2.2 (IntKind.i64.wrap (y3 + 1))))))) else (some (Sum.inr y2))
def spec_l07Search_from.f : Nat → l07Search → (List Meadow) → (List Int) → Option (List Int × Bool × l07Search)
  | 0, _, _, _ => none
  | k + 1, a0, a1, a2 => if (a2.length : Int) = a0.days then (some (a2, true, a0)) else ((spec_l07Search_from.l1 (spec_l07Search_from.f k) a1 a2 k a0 0).bind fun s15 => match s15 with | .inl r => some r | .inr y1 => some (a2, false, y1))
theorem spec_l07Search_from.c : ∀ (k : Nat) (w : World) (ba0 : Nat) (a0 : l07Search) (Aa1 : Option Addr) (ca1 : Nat) (a1 : List Meadow) (Aa2 : Option Addr) (ca2 : Nat) (a2 : List Int) (hin : St w (fpU [box ba0 (cl07Search.enc a0) 86, rowC (ci .i64) Aa2 ca2 2 a2]) w [box ba0 (cl07Search.enc a0) 86, rowC (ci .i64) Aa2 ca2 2 a2] [roC cMeadow Aa1 ca1 a1]) (r : List Int × Bool × l07Search) (H : spec_l07Search_from.f k a0 a1 a2 = some r),
    CV Try.prog 59 [.pointer (some ⟨ba0, 0, none⟩), .slice Aa1 a1.length ca1, .slice Aa2 a2.length ca2].toArray w fun v w' => ∃ (A0 : Option Addr) (c0 : Nat), v = .tuple #[.slice A0 r.1.length c0, .bool r.2.1] ∧ St w (fpU [box ba0 (cl07Search.enc a0) 86, rowC (ci .i64) Aa2 ca2 2 a2]) w' [box ba0 (cl07Search.enc r.2.2) 86, rowC (ci .i64) A0 c0 2 r.1] [] := by
  intro k
  induction k
  · intro w ba0 a0 Aa1 ca1 a1 Aa2 ca2 a2 hin r H; rw [spec_l07Search_from.f] at H; cases H
  rename_i k ih
  intro w ba0 a0 Aa1 ca1 a1 Aa2 ca2 a2 hin r H
  have hS := hin
  rw [spec_l07Search_from.f] at H
  generalize spec_l07Search_from.f k = self at H ih
  refine CV.body Try.func59 rfl Try.ntmps59 rfl ?_
  refine CJ.seq ?_
  refine CJ.region ?_
  refine OJ.pures tU_ok 2 rfl ?_
  refine OJ.nil (EJ.next ?_)
  refine CJ.seq ?_
  refine CJ.seq ?_
  refine CJ.region ?_
  refine OJ.pures tU_ok 4 rfl ?_
  refine OJ.st rfl rfl rfl (SR.fieldAddr tU_ok tI_ok rfl rfl rfl rfl rfl rfl) ?_
  refine OJ.st rfl rfl rfl (SR.load rfl rfl (fun w' hx => ld1 tU_ok rfl rfl (CA.ext (CA.sub (hS.cells (i := 0) rfl) 1) hx) rfl)) ?_
  refine OJ.pures tU_ok 1 rfl ?_
  refine OJ.nil (EJ.next ?_)
  refine CJ.cond rfl (fun hb => ?_) (fun hb => ?_)
  · replace H := pif_t (of_decide_eq_true hb) H
    refine CJ.seq ?_
    refine CJ.region ?_
    refine OJ.pures tU_ok 3 rfl ?_
    refine OJ.nil (EJ.next ?_)
    refine CJ.ret (EJ.skR (?_))
    obtain rfl := Option.some.inj H
    exact EJ.fin rfl (.tmp rfl (.tmp rfl .nil)) ⟨Aa2, ca2, rfl, hS.pick [0, 1] [] rfl⟩
  · replace H := pif_f (of_decide_eq_false hb) H
    refine CJ.skip (EJ.next ?_)
    refine CJ.seq ?_
    refine CJ.seq ?_
    refine CJ.region ?_
    refine OJ.pures tU_ok 1 rfl ?_
    refine OJ.nil (EJ.next ?_)
    obtain ⟨j15, H, K15⟩ := pbind H
    refine CJ.cut1 (fun F w1 => ∃ (y1 : l07Search) , (some (Sum.inr y1) : Option ((List Int × Bool × l07Search) ⊕ l07Search)) = some j15 ∧ F = [(2, .slice Aa2 a2.length ca2)] ∧ St w (fpU [box ba0 (cl07Search.enc a0) 86, rowC (ci .i64) Aa2 ca2 2 a2]) w1 [box ba0 (cl07Search.enc y1) 86, rowC (ci .i64) Aa2 ca2 2 a2] [roC cMeadow Aa1 ca1 a1]) ?_ ?_
    · skip
      refine CJ.block ?_
      refine CJ.loop (fun k F w1 => ∃ (y2 : l07Search) (y3 : Int), F = [(0, .pointer (some ⟨ba0, 0, none⟩)), (1, .slice Aa1 a1.length ca1), (2, .slice Aa2 a2.length ca2), (8, .int .i64 y3)] ∧ St w (fpU [box ba0 (cl07Search.enc a0) 86, rowC (ci .i64) Aa2 ca2 2 a2]) w1 [box ba0 (cl07Search.enc y2) 86, rowC (ci .i64) Aa2 ca2 2 a2] [roC cMeadow Aa1 ca1 a1] ∧ spec_l07Search_from.l1 self a1 a2 k y2 y3 = some j15) k (F' := [(0, .pointer (some ⟨ba0, 0, none⟩)), (1, .slice Aa1 a1.length ca1), (2, .slice Aa2 a2.length ca2), (8, .int .i64 0)]) ⟨rfl, rfl, rfl, rfl, trivial⟩ ⟨a0, 0, rfl, hS.pick [0, 1] [0] rfl, H⟩ ?_
      rintro k F w1 ⟨y2, y3, rfl, hS, H⟩
      cases k with
      | zero => rw [spec_l07Search_from.l1] at H; cases H
      | succ k =>
        rw [spec_l07Search_from.l1] at H
        refine CJ.seq ?_
        refine CJ.seq ?_
        refine CJ.region ?_
        refine OJ.pures tU_ok 4 rfl ?_
        refine OJ.nil (EJ.next ?_)
        refine CJ.cond rfl (fun hb => ?_) (fun hb => ?_)
        · replace H := pif_t (of_decide_eq_true hb) H
          refine CJ.skip (EJ.next ?_)
          refine CJ.seq ?_
          refine CJ.block ?_
          refine CJ.seq ?_
          refine CJ.seq ?_
          refine CJ.draw [] [0, 1, 2, 3, 4, 5, 6, 7, 8, 9, 10] mixed (by kernel_rfl) hS fun w1 hS => ?_
          refine DJ.pures tU_ok 2 rfl ?_
          obtain ⟨t4, ht4, H⟩ := pbind H
          obtain ⟨ad4, e4⟩ := (hS.rd' (i := 0) rfl).some' ht4
          refine DJ.st rfl rfl rfl rfl rfl (SR.idxS tU_ok tI_ok rfl rfl rfl rfl e4 rfl (getI_some ht4).1) ?_
          refine DJ.st rfl rfl rfl rfl rfl (SR.fieldAddr tU_ok tI_ok rfl rfl rfl rfl rfl rfl) ?_
          refine DJ.st rfl rfl rfl rfl rfl (SR.load rfl rfl (fun w' hx => ld1 tU_ok rfl rfl (CA.ext (CA.sub ((hS.rd' (i := 0) rfl).at_ e4 ht4) 0) hx) rfl)) ?_
          refine DJ.pures tU_ok 3 rfl ?_
          refine DJ.st rfl rfl rfl rfl rfl (SR.fieldAddr tU_ok tI_ok rfl rfl rfl rfl rfl rfl) ?_
          refine DJ.st rfl rfl rfl rfl rfl (SR.load rfl rfl (fun w' hx => ld1 tU_ok rfl rfl (CA.ext (CA.sub (hS.cells (i := 0) rfl) 0) hx) rfl)) ?_
          refine DJ.pures tU_ok 1 rfl ?_
          refine DJ.nil (EJ.next ?_)
          refine CJ.cond rfl (fun hb => ?_) (fun hb => ?_)
          · replace H := pif_t (of_decide_eq_true hb) H
            refine CJ.exit (EJ.skE (EJ.hit (EJ.next ?_)))
            refine CJ.region ?_
            refine OJ.pures tU_ok 3 rfl ?_
            refine OJ.nil ?_
            exact EJ.round k (F' := [(0, .pointer (some ⟨ba0, 0, none⟩)), (1, .slice Aa1 a1.length ca1), (2, .slice Aa2 a2.length ca2), (8, .int .i64 (IntKind.i64.wrap (y3 + 1)))]) ⟨rfl, rfl, rfl, rfl, trivial⟩ (Nat.lt_succ_self _) ⟨y2, (IntKind.i64.wrap (y3 + 1)), rfl, hS.pick [0, 1] [0] rfl, H⟩
          · replace H := pif_f (of_decide_eq_false hb) H
            refine CJ.skip (EJ.next ?_)
            refine CJ.seq ?_
            refine CJ.seq ?_
            refine CJ.draw [] [0, 1, 2, 3, 4, 5, 6, 7, 8] mixed (by kernel_rfl) hS fun w1 hS => ?_
            refine DJ.pures tU_ok 2 rfl ?_
            refine DJ.st rfl rfl rfl rfl rfl (SR.fieldAddr tU_ok tI_ok rfl rfl rfl rfl rfl rfl) ?_
            refine DJ.st rfl rfl rfl rfl rfl (SR.load rfl rfl (fun w' hx => ld1 tU_ok rfl rfl (CA.ext (CA.sub (hS.cells (i := 0) rfl) 3) hx) rfl)) ?_
            refine DJ.pures tU_ok 2 rfl ?_
            refine DJ.st rfl rfl rfl rfl rfl (SR.fieldAddr tU_ok tI_ok rfl rfl rfl rfl rfl rfl) ?_
            refine DJ.st rfl rfl rfl rfl rfl (SR.load rfl rfl (fun w' hx => ld1 tU_ok rfl rfl (CA.ext (CA.sub (hS.cells (i := 0) rfl) 2) hx) rfl)) ?_
            refine DJ.pures tU_ok 1 rfl ?_
            refine DJ.nil (EJ.next ?_)
            refine CJ.cond rfl (fun hb => ?_) (fun hb => ?_)
            · replace H := pif_t (of_decide_eq_true hb) H
              refine CJ.seq ?_
              refine CJ.region ?_
              refine OJ.pures tU_ok 2 rfl ?_
              refine OJ.st rfl rfl rfl (SR.fieldAddr tU_ok tI_ok rfl rfl rfl rfl rfl rfl) ?_
              refine OJ.es rfl rfl (Es.store tI_ok hS (i := 0) rfl rfl rfl (G.ad1 _ _) rfl rfl (vs := cb.enc true) rfl rfl (one1 rfl) (Nat.le_of_ble_eq_true rfl) (cl07Search.enc (⟨y2.need, y2.days, y2.budget, y2.tries, true⟩ : l07Search)) rfl) ?_
              intro w1 hS
              refine OJ.nil (EJ.next ?_)
              refine CJ.seq ?_
              refine CJ.region ?_
              refine OJ.pures tU_ok 3 rfl ?_
              refine OJ.nil (EJ.next ?_)
              refine CJ.ret (EJ.skR (EJ.bkR (EJ.skR (EJ.skR (EJ.bkR (EJ.skR (EJ.skR (?_))))))))
              first | (obtain rfl := Option.some.inj H; have H := K15) | (obtain ⟨q15, H2, e15⟩ := pbind H; obtain rfl := Option.some.inj e15; obtain rfl := Option.some.inj K15; have H := H2)
              obtain rfl := Option.some.inj H
              exact EJ.fin rfl (.tmp rfl (.tmp rfl .nil)) ⟨Aa2, ca2, rfl, hS.pick [0, 1] [] rfl⟩
            · replace H := pif_f (of_decide_eq_false hb) H
              refine CJ.skip (EJ.next ?_)
              refine CJ.seq ?_
              refine CJ.region ?_
              refine OJ.pures tU_ok 2 rfl ?_
              refine OJ.st rfl rfl rfl (SR.fieldAddr tU_ok tI_ok rfl rfl rfl rfl rfl rfl) ?_
              refine OJ.st rfl rfl rfl (SR.load rfl rfl (fun w' hx => ld1 tU_ok rfl rfl (CA.ext (CA.sub (hS.cells (i := 0) rfl) 3) hx) rfl)) ?_
              refine OJ.pures tU_ok 2 rfl ?_
              refine OJ.st rfl rfl rfl (SR.fieldAddr tU_ok tI_ok rfl rfl rfl rfl rfl rfl) ?_
              refine OJ.es rfl rfl (Es.store tI_ok hS (i := 0) rfl rfl rfl (G.ad1 _ _) rfl rfl (vs := (ci .i64).enc (IntKind.i64.wrap (y2.tries + 1))) rfl rfl (one1 rfl) (Nat.le_of_ble_eq_true rfl) (cl07Search.enc (⟨y2.need, y2.days, y2.budget, IntKind.i64.wrap (y2.tries + 1), y2.over_⟩ : l07Search)) rfl) ?_
              intro w1 hS
              refine OJ.nil (EJ.next ?_)
              refine CJ.seq ?_
              refine CJ.region ?_
              refine OJ.pures tU_ok 4 rfl ?_
              refine OJ.st rfl rfl rfl (SR.fieldAddr tU_ok tI_ok rfl rfl rfl rfl rfl rfl) ?_
              refine OJ.st rfl rfl rfl (SR.load rfl rfl (fun w' hx => ld1 tU_ok rfl rfl (CA.ext (CA.sub (hS.cells (i := 0) rfl) 0) hx) rfl)) ?_
              refine OJ.pures tU_ok 1 rfl ?_
              obtain ⟨t5, ht5, H⟩ := pbind H
              refine OJ.callF rfl rfl rfl rfl rfl hb49 rfl (spec_l07Day.c k _ Aa1 ca1 a1 (hS.rd' (i := 0) rfl) (hS.le' (i := 0) rfl) y2.need y3 _ ht5) ?_
              rintro _ w1 ⟨A6, c7, rfl, hs⟩
              replace hS := hS.addN hs
              refine OJ.ef rfl rfl rfl (Ef.lit tU_ok tI_ok hS (C := (ci .i64)) rfl rfl rfl rfl rfl rfl ([] : List Int) rfl rfl rfl rfl) ?_
              rintro _ w1 ⟨A8, rfl, hS⟩
              refine OJ.pures tU_ok 1 rfl ?_
              obtain ⟨u9, hu9, H⟩ := pbind H
              refine OJ.ew rfl rfl rfl (Ew.append tU_ok tI_ok (C := (ci .i64)) (xs := ([] : List Int)) (ys := a2) hS (i := 3) rfl rfl rfl rfl rfl rfl rfl rfl rfl rfl rfl rfl rfl (hS.rd (i := 1) rfl) (chk_some hu9)) ?_
              rintro _ w1 ⟨A10, c11, rfl, hS⟩
              refine OJ.pures tU_ok 1 rfl ?_
              refine OJ.ef rfl rfl rfl (Ef.lit tU_ok tI_ok hS (C := (ci .i64)) rfl rfl rfl rfl rfl rfl ([y3] : List Int) rfl rfl rfl rfl) ?_
              rintro _ w1 ⟨A12, rfl, hS⟩
              obtain ⟨u13, hu13, H⟩ := pbind H
              refine OJ.ew rfl rfl rfl (Ew.append tU_ok tI_ok (C := (ci .i64)) (xs := (([] : List Int) ++ a2)) (ys := ([y3] : List Int)) hS (i := 3) rfl rfl rfl rfl rfl rfl rfl rfl rfl rfl rfl rfl rfl (hS.rd (i := 4) rfl) (chk_some hu13)) ?_
              rintro _ w1 ⟨A14, c15, rfl, hS⟩
              obtain ⟨t16, ht16, H⟩ := pbind H
              refine OJ.callF rfl rfl rfl rfl rfl hb59 rfl (ih _ ba0 (⟨y2.need, y2.days, y2.budget, IntKind.i64.wrap (y2.tries + 1), y2.over_⟩ : l07Search) A6 c7 t5 A14 c15 ((([] : List Int) ++ a2) ++ ([y3] : List Int)) (((hS.subs [0, 3] [] [2] rfl).rToRo (i := 0) rfl).pick [0, 1] [0] rfl) _ ht16) ?_
              rintro _ w1 ⟨A17, c18, rfl, hs⟩
              replace hS := hS.back' [0] [3] rfl rfl [box ba0 (cl07Search.enc t16.2.2) 86] [rowC (ci .i64) A17 c18 2 t16.1] [] hs ⟨fun _ => Iff.rfl, trivial⟩ (fun _ h => by cases h) (.inr rfl)
              have hS : St w (fpU [box ba0 (cl07Search.enc a0) 86, rowC (ci .i64) Aa2 ca2 2 a2]) w1 [box ba0 (cl07Search.enc t16.2.2) 86, rowC (ci .i64) Aa2 ca2 2 a2, rowC cMeadow A6 c7 47 t5, gone, rowC (ci .i64) A12 (([y3] : List Int).length) 2 ([y3] : List Int), rowC (ci .i64) A17 c18 2 t16.1] [roC cMeadow Aa1 ca1 a1] := hS
              have hS : St w (fpU [box ba0 (cl07Search.enc a0) 86, rowC (ci .i64) Aa2 ca2 2 a2]) w1 [box ba0 (cl07Search.enc t16.2.2) 86, rowC (ci .i64) Aa2 ca2 2 a2, rowC cMeadow A6 c7 47 t5, gone, rowC (ci .i64) A12 (([y3] : List Int).length) 2 ([y3] : List Int), rowC (ci .i64) A17 c18 2 t16.1] [roC cMeadow Aa1 ca1 a1] := hS
              refine OJ.pures tU_ok 5 rfl ?_
              refine OJ.nil (EJ.next ?_)
              refine CJ.seq ?_
              refine CJ.region ?_
              refine OJ.pures tU_ok 2 rfl ?_
              refine OJ.split (t := 75) rfl (fun hb => ?_) (fun hb => ?_)
              · replace H := pif_t hb H
                refine OJ.pures tU_ok 5 rfl ?_
                refine OJ.nil (EJ.next ?_)
                refine CJ.condT rfl ?_
                refine CJ.seq ?_
                refine CJ.region ?_
                refine OJ.pures tU_ok 4 rfl ?_
                refine OJ.nil (EJ.next ?_)
                refine CJ.ret (EJ.bkR (EJ.skR (EJ.skR (EJ.bkR (EJ.skR (EJ.skR (?_)))))))
                first | (obtain rfl := Option.some.inj H; have H := K15) | (obtain ⟨q15, H2, e15⟩ := pbind H; obtain rfl := Option.some.inj e15; obtain rfl := Option.some.inj K15; have H := H2)
                obtain rfl := Option.some.inj H
                exact EJ.fin rfl (.tmp rfl (.tmp rfl .nil)) ⟨A17, c18, rfl, hS.pick [0, 5] [] rfl⟩
              · replace H := pifb_f hb H
                refine OJ.pures tU_ok 2 rfl ?_
                refine OJ.st rfl rfl rfl (SR.fieldAddr tU_ok tI_ok rfl rfl rfl rfl rfl rfl) ?_
                refine OJ.st rfl rfl rfl (SR.load rfl rfl (fun w' hx => ld1 tU_ok rfl rfl (CA.ext (CA.sub (hS.cells (i := 0) rfl) 4) hx) rfl)) ?_
                refine OJ.pures tU_ok 1 rfl ?_
                refine OJ.nil (EJ.next ?_)
                refine CJ.cond rfl (fun hb => ?_) (fun hb => ?_)
                · replace H := pif_t hb H
                  refine CJ.seq ?_
                  refine CJ.region ?_
                  refine OJ.pures tU_ok 4 rfl ?_
                  refine OJ.nil (EJ.next ?_)
                  refine CJ.ret (EJ.bkR (EJ.skR (EJ.skR (EJ.bkR (EJ.skR (EJ.skR (?_)))))))
                  first | (obtain rfl := Option.some.inj H; have H := K15) | (obtain ⟨q15, H2, e15⟩ := pbind H; obtain rfl := Option.some.inj e15; obtain rfl := Option.some.inj K15; have H := H2)
                  obtain rfl := Option.some.inj H
                  exact EJ.fin rfl (.tmp rfl (.tmp rfl .nil)) ⟨A17, c18, rfl, hS.pick [0, 5] [] rfl⟩
                · replace H := pifb_f hb H
                  refine CJ.skip (EJ.blk (EJ.next ?_))
                  refine CJ.region ?_
                  refine OJ.pures tU_ok 3 rfl ?_
                  refine OJ.nil ?_
                  exact EJ.round k (F' := [(0, .pointer (some ⟨ba0, 0, none⟩)), (1, .slice Aa1 a1.length ca1), (2, .slice Aa2 a2.length ca2), (8, .int .i64 (IntKind.i64.wrap (y3 + 1)))]) ⟨rfl, rfl, rfl, rfl, trivial⟩ (Nat.lt_succ_self _) ⟨t16.2.2, (IntKind.i64.wrap (y3 + 1)), rfl, hS.pick [0, 1] [0] rfl, H⟩
        · replace H := pif_f (of_decide_eq_false hb) H
          refine CJ.exit (EJ.skE (EJ.skE (EJ.hit (?_))))
          exact EJ.meet (F' := [(2, .slice Aa2 a2.length ca2)]) ⟨rfl, trivial⟩ ⟨y2, H, rfl, hS.pick [0, 1] [0] rfl⟩
    · rintro F w1 ⟨y1, he, rfl, hS⟩
      obtain rfl := Option.some.inj he
      have H := K15
      refine EJ.next ?_
      refine CJ.seq ?_
      refine CJ.region ?_
      refine OJ.pures tU_ok 3 rfl ?_
      refine OJ.nil (EJ.next ?_)
      refine CJ.ret (?_)
      obtain rfl := Option.some.inj H
      exact EJ.fin rfl (.tmp rfl (.tmp rfl .nil)) ⟨Aa2, ca2, rfl, hS.pick [0, 1] [] rfl⟩

def spec_l07Found.f (k : Nat) (a0 : List Meadow) (a1 : Int) (a2 : Int) (a3 : Int) : Option (List Int × Int × Int) := (spec_l07Search_from.f k (⟨a1, a2, a3, 0, false⟩ : l07Search) a0 ([] : List Int)).bind fun t3 => if t3.2.2.over_ = true then (some (([] : List Int), 0, 7)) else (if (!t3.2.1) = true then (some (([] : List Int), 0, 6)) else (some (t3.1, t3.2.2.tries, 0)))
theorem spec_l07Found.c (k : Nat) (w : World) (Aa0 : Option Addr) (ca0 : Nat) (a0 : List Meadow) (hr0 : Rd cMeadow w Aa0 a0) (hc0 : a0.length ≤ ca0) (a1 : Int) (a2 : Int) (a3 : Int) (r : List Int × Int × Int) (H : spec_l07Found.f k a0 a1 a2 a3 = some r) :
    CV Try.prog 34 [.slice Aa0 a0.length ca0, .int .i64 a1, .int .i64 a2, .int .i64 a3].toArray w fun v w' => ∃ (A0 : Option Addr) (c0 : Nat), v = .tuple #[.slice A0 r.1.length c0, .int .i64 r.2.1, .int .i64 r.2.2] ∧ St w no w' [rowC (ci .i64) A0 c0 2 r.1] [] := by
  have hS := ((St.init w no).param cMeadow Aa0 ca0 a0 hr0 hc0)
  unfold spec_l07Found.f at H
  refine CV.body Try.func34 rfl Try.ntmps34 rfl ?_
  refine CJ.seq ?_
  refine CJ.region ?_
  refine OJ.pures tU_ok 3 rfl ?_
  refine OJ.nil (EJ.next ?_)
  refine CJ.seq ?_
  refine CJ.region ?_
  refine OJ.pures tU_ok 3 rfl ?_
  refine OJ.st rfl rfl rfl (SR.build (C := cl07Search) tU_ok tI_ok rfl rfl rfl (zs := [.int .i64 0, .int .i64 0, .int .i64 0, .int .i64 0, .bool false]) rfl rfl rfl (⟨a1, a2, a3, 0, false⟩ : l07Search) rfl) ?_
  refine OJ.ef rfl rfl rfl (Ef.box hS rfl rfl (cl07Search.enc (⟨a1, a2, a3, 0, false⟩ : l07Search)) rfl) ?_
  rintro _ w1 ⟨b1, rfl, hS⟩
  refine OJ.pures tU_ok 1 rfl ?_
  refine OJ.nil (EJ.next ?_)
  refine CJ.seq ?_
  refine CJ.region ?_
  refine OJ.pures tU_ok 2 rfl ?_
  refine OJ.ef rfl rfl rfl (Ef.lit tU_ok tI_ok hS (C := (ci .i64)) rfl rfl rfl rfl rfl rfl ([] : List Int) rfl rfl rfl rfl) ?_
  rintro _ w1 ⟨A2, rfl, hS⟩
  obtain ⟨t3, ht3, H⟩ := pbind H
  refine OJ.callF rfl rfl rfl rfl rfl hb59 rfl (spec_l07Search_from.c k _ b1 (⟨a1, a2, a3, 0, false⟩ : l07Search) Aa0 ca0 a0 A2 (([] : List Int).length) ([] : List Int) ((hS.subs [0, 1] [0] [] rfl).pick [0, 1] [0] rfl) _ ht3) ?_
  rintro _ w1 ⟨A4, c5, rfl, hs⟩
  replace hS := hS.back' [0] [1] rfl rfl [box b1 (cl07Search.enc t3.2.2) 86] [rowC (ci .i64) A4 c5 2 t3.1] [] hs ⟨fun _ => Iff.rfl, trivial⟩ (fun _ h => by cases h) (.inr rfl)
  refine OJ.pures tU_ok 5 rfl ?_
  refine OJ.nil (EJ.next ?_)
  refine CJ.seq ?_
  refine CJ.block ?_
  refine CJ.seq ?_
  refine CJ.region ?_
  refine OJ.pures tU_ok 2 rfl ?_
  refine OJ.st rfl rfl rfl (SR.fieldAddr tU_ok tI_ok rfl rfl rfl rfl rfl rfl) ?_
  refine OJ.st rfl rfl rfl (SR.load rfl rfl (fun w' hx => ld1 tU_ok rfl rfl (CA.ext (CA.sub (hS.cells (i := 0) rfl) 4) hx) rfl)) ?_
  refine OJ.pures tU_ok 1 rfl ?_
  refine OJ.nil (EJ.next ?_)
  refine CJ.cond rfl (fun hb => ?_) (fun hb => ?_)
  · replace H := pif_t hb H
    refine CJ.seq ?_
    refine CJ.region ?_
    refine OJ.ef rfl rfl rfl (Ef.lit tU_ok tI_ok hS (C := (ci .i64)) rfl rfl rfl rfl rfl rfl ([] : List Int) rfl rfl rfl rfl) ?_
    rintro _ w1 ⟨A6, rfl, hS⟩
    refine OJ.pures tU_ok 3 rfl ?_
    refine OJ.nil (EJ.next ?_)
    refine CJ.ret (EJ.bkR (EJ.skR (?_)))
    obtain rfl := Option.some.inj H
    exact EJ.fin rfl (.tmp rfl (.tmp rfl (.tmp rfl .nil))) ⟨A6, (([] : List Int).length), rfl, hS.pick [3] [] rfl⟩
  · replace H := pifb_f hb H
    refine CJ.seq ?_
    refine CJ.region ?_
    refine OJ.pures tU_ok 3 rfl ?_
    refine OJ.nil (EJ.next ?_)
    refine CJ.cond rfl (fun hb => ?_) (fun hb => ?_)
    · replace H := pif_t hb H
      refine CJ.seq ?_
      refine CJ.region ?_
      refine OJ.ef rfl rfl rfl (Ef.lit tU_ok tI_ok hS (C := (ci .i64)) rfl rfl rfl rfl rfl rfl ([] : List Int) rfl rfl rfl rfl) ?_
      rintro _ w1 ⟨A7, rfl, hS⟩
      refine OJ.pures tU_ok 3 rfl ?_
      refine OJ.nil (EJ.next ?_)
      refine CJ.ret (EJ.bkR (EJ.skR (?_)))
      obtain rfl := Option.some.inj H
      exact EJ.fin rfl (.tmp rfl (.tmp rfl (.tmp rfl .nil))) ⟨A7, (([] : List Int).length), rfl, hS.pick [3] [] rfl⟩
    · replace H := pifb_f hb H
      refine CJ.skip (EJ.blk (EJ.next ?_))
      refine CJ.seq ?_
      refine CJ.draw [] [0, 1, 2, 3, 4, 5, 6, 7] mixed (by kernel_rfl) hS fun w1 hS => ?_
      refine DJ.pures tU_ok 3 rfl ?_
      refine DJ.st rfl rfl rfl rfl rfl (SR.fieldAddr tU_ok tI_ok rfl rfl rfl rfl rfl rfl) ?_
      refine DJ.st rfl rfl rfl rfl rfl (SR.load rfl rfl (fun w' hx => ld1 tU_ok rfl rfl (CA.ext (CA.sub (hS.cells (i := 0) rfl) 3) hx) rfl)) ?_
      refine DJ.pures tU_ok 3 rfl ?_
      refine DJ.nil (EJ.next ?_)
      refine CJ.ret (?_)
      obtain rfl := Option.some.inj H
      exact EJ.fin rfl (.tmp rfl (.tmp rfl (.tmp rfl .nil))) ⟨A4, c5, rfl, hS.pick [2] [] rfl⟩

def spec_FirstPlan.f (k : Nat) (a0 : List Meadow) (a1 : Int) (a2 : Int) (a3 : Int) : Option (List Int × Int × Int) := ((spec_l07Days.f a2).bind fun t2 => if t2 = true then ((spec_l07Budget.f a3).bind fun t3 => (spec_l07Asked.f k a0 a1 t3).bind fun t4 => some t4) else ((spec_l07Asked.f k a0 a1 false).bind fun t5 => some t5)).bind fun y1 => if y1 ≠ 0 then (some (([] : List Int), 0, y1)) else ((spec_l07Found.f k a0 a1 a2 a3).bind fun t7 => some (t7.1, t7.2.1, t7.2.2))
theorem spec_FirstPlan.c (k : Nat) (w : World) (Aa0 : Option Addr) (ca0 : Nat) (a0 : List Meadow) (hr0 : Rd cMeadow w Aa0 a0) (hc0 : a0.length ≤ ca0) (a1 : Int) (a2 : Int) (a3 : Int) (r : List Int × Int × Int) (H : spec_FirstPlan.f k a0 a1 a2 a3 = some r) :
    CV Try.prog 8 [.slice Aa0 a0.length ca0, .int .i64 a1, .int .i64 a2, .int .i64 a3].toArray w fun v w' => ∃ (A0 : Option Addr) (c0 : Nat), v = .tuple #[.slice A0 r.1.length c0, .int .i64 r.2.1, .int .i64 r.2.2] ∧ St w no w' [rowC (ci .i64) A0 c0 2 r.1] [] := by
  have hS := ((St.init w no).param cMeadow Aa0 ca0 a0 hr0 hc0)
  unfold spec_FirstPlan.f at H
  refine CV.body Try.func8 rfl Try.ntmps8 rfl ?_
  refine CJ.seq ?_
  refine CJ.region ?_
  refine OJ.pures tU_ok 3 rfl ?_
  refine OJ.nil (EJ.next ?_)
  refine CJ.seq ?_
  obtain ⟨j10, H, K10⟩ := pbind H
  refine CJ.cut (fun F w1 => ∃ (y1 : Int) , (some y1 : Option Int) = some j10 ∧ F = [(0, .slice Aa0 a0.length ca0), (1, .int .i64 a1), (2, .int .i64 a2), (3, .int .i64 a3), (11, .int .i64 y1)] ∧ St w no w1 [] [roC cMeadow Aa0 ca0 a0]) ?_ ?_
  · skip
    refine CJ.region ?_
    refine OJ.pures tU_ok 3 rfl ?_
    obtain ⟨t2, ht2, H⟩ := pbind H
    refine OJ.callF rfl rfl rfl rfl rfl hb32 rfl (spec_l07Days.c _ a2 _ ht2) ?_
    rintro _ w1 ⟨rfl, hs⟩
    replace hS := hS.grow hs
    refine OJ.pures tU_ok 1 rfl ?_
    refine OJ.split (t := 16) rfl (fun hb => ?_) (fun hb => ?_)
    · replace H := pif_t hb H
      refine OJ.pures tU_ok 1 rfl ?_
      obtain ⟨t3, ht3, H⟩ := pbind H
      refine OJ.callF rfl rfl rfl rfl rfl hb33 rfl (spec_l07Budget.c _ a3 _ ht3) ?_
      rintro _ w1 ⟨rfl, hs⟩
      replace hS := hS.grow hs
      refine OJ.pures tU_ok 1 rfl ?_
      obtain ⟨t4, ht4, H⟩ := pbind H
      refine OJ.callF rfl rfl rfl rfl rfl hb31 rfl (spec_l07Asked.c k _ Aa0 ca0 a0 (hS.rd' (i := 0) rfl) (hS.le' (i := 0) rfl) a1 t3 _ ht4) ?_
      rintro _ w1 ⟨rfl, hs⟩
      replace hS := hS.grow hs
      refine OJ.pures tU_ok 1 rfl ?_
      refine OJ.nil ?_
      exact EJ.meet (F' := [(0, .slice Aa0 a0.length ca0), (1, .int .i64 a1), (2, .int .i64 a2), (3, .int .i64 a3), (11, .int .i64 t4)]) ⟨rfl, rfl, rfl, rfl, rfl, trivial⟩ ⟨t4, H, rfl, hS.pick [] [0] rfl⟩
    · replace H := pifb_f hb H
      refine OJ.pures tU_ok 3 rfl ?_
      obtain ⟨t5, ht5, H⟩ := pbind H
      refine OJ.callF rfl rfl rfl rfl rfl hb31 rfl (spec_l07Asked.c k _ Aa0 ca0 a0 (hS.rd' (i := 0) rfl) (hS.le' (i := 0) rfl) a1 false _ ht5) ?_
      rintro _ w1 ⟨rfl, hs⟩
      replace hS := hS.grow hs
      refine OJ.pures tU_ok 1 rfl ?_
      refine OJ.nil ?_
      exact EJ.meet (F' := [(0, .slice Aa0 a0.length ca0), (1, .int .i64 a1), (2, .int .i64 a2), (3, .int .i64 a3), (11, .int .i64 t5)]) ⟨rfl, rfl, rfl, rfl, rfl, trivial⟩ ⟨t5, H, rfl, hS.pick [] [0] rfl⟩
  · rintro F w1 ⟨y1, he, rfl, hS⟩
    obtain rfl := Option.some.inj he
    have H := K10
    refine CJ.seq ?_
    refine CJ.region ?_
    refine OJ.pures tU_ok 2 rfl ?_
    refine OJ.nil (EJ.next ?_)
    refine CJ.cond rfl (fun hb => ?_) (fun hb => ?_)
    · replace H := pif_t (of_decide_eq_true hb) H
      refine CJ.seq ?_
      refine CJ.region ?_
      refine OJ.ef rfl rfl rfl (Ef.lit tU_ok tI_ok hS (C := (ci .i64)) rfl rfl rfl rfl rfl rfl ([] : List Int) rfl rfl rfl rfl) ?_
      rintro _ w1 ⟨A6, rfl, hS⟩
      refine OJ.pures tU_ok 4 rfl ?_
      refine OJ.nil (EJ.next ?_)
      refine CJ.ret (EJ.skR (?_))
      obtain rfl := Option.some.inj H
      exact EJ.fin rfl (.tmp rfl (.tmp rfl (.tmp rfl .nil))) ⟨A6, (([] : List Int).length), rfl, hS.pick [0] [] rfl⟩
    · replace H := pif_f (of_decide_eq_false hb) H
      refine CJ.skip (EJ.next ?_)
      refine CJ.seq ?_
      refine CJ.region ?_
      refine OJ.pures tU_ok 4 rfl ?_
      obtain ⟨t7, ht7, H⟩ := pbind H
      refine OJ.callF rfl rfl rfl rfl rfl hb34 rfl (spec_l07Found.c k _ Aa0 ca0 a0 (hS.rd' (i := 0) rfl) (hS.le' (i := 0) rfl) a1 a2 a3 _ ht7) ?_
      rintro _ w1 ⟨A8, c9, rfl, hs⟩
      replace hS := hS.addN hs
      refine OJ.pures tU_ok 6 rfl ?_
      refine OJ.nil (EJ.next ?_)
      refine CJ.ret (?_)
      obtain rfl := Option.some.inj H
      exact EJ.fin rfl (.tmp rfl (.tmp rfl (.tmp rfl .nil))) ⟨A8, c9, rfl, hS.pick [0] [] rfl⟩

def impl_greedy.l2 (y8 : List Meadow) : Nat → Int → Int → Option Int
  | 0, _, _ => none
  | k + 1, y19, y20 => if y20 < (y8.length : Int) then ((getI y8 y20).bind fun t21 => (getI y8 y19).bind fun t23 => if t23.Grass < t21.Grass then (impl_greedy.l2 y8 k y20 (IntKind.i64.wrap (y20 + 1))) else (impl_greedy.l2 y8 k y19 (IntKind.i64.wrap (y20 + 1)))) else (some y19)
def impl_greedy.l1 (a1 : Int) (a2 : Int) : Nat → (List Int) → (List Meadow) → Int → Option ((List Int) ⊕ (List Int))
  | 0, _, _, _ => none
  | k + 1, y5, y8, y11 => if y11 < a2 then (((impl_greedy.l2 y8 k 0 0).bind fun y18 => (impl_behind.f k y8 a1 y18).bind fun t24 => if (!t24.2) = true then (some (Sum.inl (Sum.inl y5))) else ((chk (y5.length + ([y18] : List Int).length ≤ 4294967296)).bind fun u28 => some (Sum.inr (y5 ++ ([y18] : List Int), t24.1)))).bind fun s23 => match s23 with | .inl r => some r | .inr (y12, y15) => impl_greedy.l1 a1 a2 k y12 y15 (IntKind.i64.wrap (y11 + 1))) else (some (Sum.inr y5))
def impl_greedy.f (k : Nat) (a0 : List Meadow) (a1 : Int) (a2 : Int) : Option (List Int) := (impl_greedy.l1 a1 a2 k ([] : List Int) a0 0).bind fun s16 => match s16 with | .inl r => some r | .inr y2 => some y2
theorem impl_greedy.c (k : Nat) (w : World) (Aa0 : Option Addr) (ca0 : Nat) (a0 : List Meadow) (hr0 : Rd cMeadow w Aa0 a0) (hc0 : a0.length ≤ ca0) (a1 : Int) (a2 : Int) (r : List Int) (H : impl_greedy.f k a0 a1 a2 = some r) :
    CV Try.prog 35 [.slice Aa0 a0.length ca0, .int .i64 a1, .int .i64 a2].toArray w fun v w' => ∃ (A0 : Option Addr) (c0 : Nat), v = .slice A0 r.length c0 ∧ St w no w' [rowC (ci .i64) A0 c0 2 r] [] := by
  have hS := ((St.init w no).param cMeadow Aa0 ca0 a0 hr0 hc0)
  unfold impl_greedy.f at H
  refine CV.body Try.func35 rfl Try.ntmps35 rfl ?_
  refine CJ.seq ?_
  refine CJ.region ?_
  refine OJ.pures tU_ok 1 rfl ?_
  refine OJ.nil (EJ.next ?_)
  refine CJ.seq ?_
  refine CJ.region ?_
  refine OJ.ef rfl rfl rfl (Ef.lit tU_ok tI_ok hS (C := (ci .i64)) rfl rfl rfl rfl rfl rfl ([] : List Int) rfl rfl rfl rfl) ?_
  rintro _ w1 ⟨A1, rfl, hS⟩
  refine OJ.pures tU_ok 1 rfl ?_
  refine OJ.nil (EJ.next ?_)
  refine CJ.seq ?_
  refine CJ.seq ?_
  refine CJ.region ?_
  refine OJ.pures tU_ok 2 rfl ?_
  refine OJ.nil (EJ.next ?_)
  obtain ⟨j16, H, K16⟩ := pbind H
  refine CJ.cut1 (fun F w1 => ∃ (y2 : List Int) (A3 : Option Addr) (c4 : Nat), (some (Sum.inr y2) : Option ((List Int) ⊕ (List Int))) = some j16 ∧ F = [(7, .slice A3 y2.length c4)] ∧ St w no w1 [rowC (ci .i64) A3 c4 2 y2] [roC cMeadow Aa0 ca0 a0]) ?_ ?_
  · skip
    refine CJ.block ?_
    refine CJ.loop (fun k F w1 => ∃ (y5 : List Int) (y8 : List Meadow) (y11 : Int) (A6 : Option Addr) (c7 : Nat) (A9 : Option Addr) (c10 : Nat), F = [(0, .slice A9 y8.length c10), (1, .int .i64 a1), (7, .slice A6 y5.length c7), (14, .int .i64 a2), (15, .int .i64 y11)] ∧ St w no w1 [rowC (ci .i64) A6 c7 2 y5] [roC cMeadow Aa0 ca0 a0, roC cMeadow A9 c10 y8] ∧ impl_greedy.l1 a1 a2 k y5 y8 y11 = some j16) k (F' := [(0, .slice Aa0 a0.length ca0), (1, .int .i64 a1), (7, .slice A1 ([] : List Int).length (([] : List Int).length)), (14, .int .i64 a2), (15, .int .i64 0)]) ⟨rfl, rfl, rfl, rfl, rfl, trivial⟩ ⟨([] : List Int), a0, 0, A1, (([] : List Int).length), Aa0, ca0, rfl, hS.pick [0] [0, 0] rfl, H⟩ ?_
    rintro k F w1 ⟨y5, y8, y11, A6, c7, A9, c10, rfl, hS, H⟩
    cases k with
    | zero => rw [impl_greedy.l1] at H; cases H
    | succ k =>
      rw [impl_greedy.l1] at H
      refine CJ.seq ?_
      refine CJ.region ?_
      refine OJ.pures tU_ok 1 rfl ?_
      refine OJ.nil (EJ.next ?_)
      refine CJ.seq ?_
      refine CJ.cond rfl (fun hb => ?_) (fun hb => ?_)
      · replace H := pif_t (of_decide_eq_true hb) H
        refine CJ.skip (EJ.next ?_)
        obtain ⟨j23, H, K23⟩ := pbind H
        refine CJ.cut (fun F w1 => ∃ (y12 : List Int) (y15 : List Meadow) (A13 : Option Addr) (c14 : Nat) (A16 : Option Addr) (c17 : Nat), (some (Sum.inr (y12, y15)) : Option (((List Int) ⊕ (List Int)) ⊕ ((List Int) × (List Meadow)))) = some j23 ∧ F = [(0, .slice A16 y15.length c17), (1, .int .i64 a1), (7, .slice A13 y12.length c14), (14, .int .i64 a2), (15, .int .i64 y11)] ∧ St w no w1 [rowC (ci .i64) A13 c14 2 y12, rowC cMeadow A16 c17 47 y15] [roC cMeadow Aa0 ca0 a0, roC cMeadow A9 c10 y8]) ?_ ?_
        · skip
          refine CJ.block ?_
          refine CJ.seq ?_
          refine CJ.region ?_
          refine OJ.pures tU_ok 1 rfl ?_
          refine OJ.nil (EJ.next ?_)
          refine CJ.seq ?_
          refine CJ.seq ?_
          refine CJ.region ?_
          refine OJ.pures tU_ok 3 rfl ?_
          refine OJ.nil (EJ.next ?_)
          obtain ⟨j25, H, K25⟩ := pbind H
          refine CJ.cut1 (fun F w1 => ∃ (y18 : Int) , (some y18 : Option Int) = some j25 ∧ F = [(0, .slice A9 y8.length c10), (1, .int .i64 a1), (7, .slice A6 y5.length c7), (8, .int .i64 y18), (14, .int .i64 a2), (15, .int .i64 y11)] ∧ St w no w1 [rowC (ci .i64) A6 c7 2 y5] [roC cMeadow Aa0 ca0 a0, roC cMeadow A9 c10 y8]) ?_ ?_
          · skip
            refine CJ.block ?_
            refine CJ.loop (fun k F w1 => ∃ (y19 : Int) (y20 : Int), F = [(0, .slice A9 y8.length c10), (1, .int .i64 a1), (7, .slice A6 y5.length c7), (8, .int .i64 y19), (14, .int .i64 a2), (15, .int .i64 y11), (17, .slice A9 y8.length c10), (18, .int .i64 (y8.length : Int)), (19, .int .i64 y20)] ∧ St w no w1 [rowC (ci .i64) A6 c7 2 y5] [roC cMeadow Aa0 ca0 a0, roC cMeadow A9 c10 y8] ∧ impl_greedy.l2 y8 k y19 y20 = some j25) k (F' := [(0, .slice A9 y8.length c10), (1, .int .i64 a1), (7, .slice A6 y5.length c7), (8, .int .i64 0), (14, .int .i64 a2), (15, .int .i64 y11), (17, .slice A9 y8.length c10), (18, .int .i64 (y8.length : Int)), (19, .int .i64 0)]) ⟨rfl, rfl, rfl, rfl, rfl, rfl, rfl, rfl, rfl, trivial⟩ ⟨0, 0, rfl, hS.pick [0] [0, 1] rfl, H⟩ ?_
            rintro k F w1 ⟨y19, y20, rfl, hS, H⟩
            cases k with
            | zero => rw [impl_greedy.l2] at H; cases H
            | succ k =>
              rw [impl_greedy.l2] at H
              refine CJ.seq ?_
              refine CJ.region ?_
              refine OJ.pures tU_ok 1 rfl ?_
              refine OJ.nil (EJ.next ?_)
              refine CJ.seq ?_
              refine CJ.cond rfl (fun hb => ?_) (fun hb => ?_)
              · replace H := pif_t (of_decide_eq_true hb) H
                refine CJ.skip (EJ.next ?_)
                refine CJ.seq ?_
                refine CJ.block ?_
                refine CJ.seq ?_
                refine CJ.region ?_
                refine OJ.pures tU_ok 1 rfl ?_
                obtain ⟨t21, ht21, H⟩ := pbind H
                obtain ⟨ad21, e21⟩ := (hS.rd' (i := 1) rfl).some' ht21
                refine OJ.st rfl rfl rfl (SR.idxS tU_ok tI_ok rfl rfl rfl rfl e21 rfl (getI_some ht21).1) ?_
                refine OJ.st rfl rfl rfl (SR.load rfl rfl (fun w' hx => ldE tU_ok tI_ok rfl rfl rfl (CA.ext ((hS.rd' (i := 1) rfl).at_ e21 ht21) hx) rfl)) ?_
                refine OJ.ef rfl rfl rfl (Ef.alloc hS tI_ok rfl rfl (cMeadow.enc (⟨0, 0, 0⟩ : Meadow)) rfl) ?_
                rintro _ w1 ⟨b22, rfl, hS⟩
                refine OJ.pures tU_ok 1 rfl ?_
                refine OJ.es rfl rfl (Es.store tI_ok hS (i := 1) rfl rfl rfl rfl rfl rfl (vs := cMeadow.enc t21) rfl (cMeadow.len _) (cMeadow.one _) (Nat.le_of_ble_eq_true rfl) (cMeadow.enc t21) rfl) ?_
                intro w1 hS
                refine OJ.nil (EJ.next ?_)
                refine CJ.seq ?_
                refine CJ.draw [] [0, 1, 2, 3, 4, 5, 6, 7] mixed (by kernel_rfl) hS fun w1 hS => ?_
                refine DJ.st rfl rfl rfl rfl rfl (SR.fieldAddr tU_ok tI_ok rfl rfl rfl rfl rfl rfl) ?_
                refine DJ.st rfl rfl rfl rfl rfl (SR.load rfl rfl (fun w' hx => ld1 tU_ok rfl rfl (CA.ext (CA.sub (hS.cells (i := 1) rfl) 0) hx) rfl)) ?_
                refine DJ.pures tU_ok 2 rfl ?_
                obtain ⟨t23, ht23, H⟩ := pbind H
                obtain ⟨ad23, e23⟩ := (hS.rd' (i := 1) rfl).some' ht23
                refine DJ.st rfl rfl rfl rfl rfl (SR.idxS tU_ok tI_ok rfl rfl rfl rfl e23 rfl (getI_some ht23).1) ?_
                refine DJ.st rfl rfl rfl rfl rfl (SR.fieldAddr tU_ok tI_ok rfl rfl rfl rfl rfl rfl) ?_
                refine DJ.st rfl rfl rfl rfl rfl (SR.load rfl rfl (fun w' hx => ld1 tU_ok rfl rfl (CA.ext (CA.sub ((hS.rd' (i := 1) rfl).at_ e23 ht23) 0) hx) rfl)) ?_
                refine DJ.pures tU_ok 1 rfl ?_
                refine DJ.nil (EJ.next ?_)
                refine CJ.cond rfl (fun hb => ?_) (fun hb => ?_)
                · replace H := pif_t (of_decide_eq_true hb) H
                  refine CJ.region ?_
                  refine OJ.pures tU_ok 2 rfl ?_
                  refine OJ.nil (EJ.blk (EJ.next ?_))
                  refine CJ.region ?_
                  refine OJ.pures tU_ok 2 rfl ?_
                  refine OJ.nil ?_
                  exact EJ.round k (F' := [(0, .slice A9 y8.length c10), (1, .int .i64 a1), (7, .slice A6 y5.length c7), (8, .int .i64 y20), (14, .int .i64 a2), (15, .int .i64 y11), (17, .slice A9 y8.length c10), (18, .int .i64 (y8.length : Int)), (19, .int .i64 (IntKind.i64.wrap (y20 + 1)))]) ⟨rfl, rfl, rfl, rfl, rfl, rfl, rfl, rfl, rfl, trivial⟩ (Nat.lt_succ_self _) ⟨y20, (IntKind.i64.wrap (y20 + 1)), rfl, hS.pick [0] [0, 1] rfl, H⟩
                · replace H := pif_f (of_decide_eq_false hb) H
                  refine CJ.skip (EJ.blk (EJ.next ?_))
                  refine CJ.region ?_
                  refine OJ.pures tU_ok 2 rfl ?_
                  refine OJ.nil ?_
                  exact EJ.round k (F' := [(0, .slice A9 y8.length c10), (1, .int .i64 a1), (7, .slice A6 y5.length c7), (8, .int .i64 y19), (14, .int .i64 a2), (15, .int .i64 y11), (17, .slice A9 y8.length c10), (18, .int .i64 (y8.length : Int)), (19, .int .i64 (IntKind.i64.wrap (y20 + 1)))]) ⟨rfl, rfl, rfl, rfl, rfl, rfl, rfl, rfl, rfl, trivial⟩ (Nat.lt_succ_self _) ⟨y19, (IntKind.i64.wrap (y20 + 1)), rfl, hS.pick [0] [0, 1] rfl, H⟩
              · replace H := pif_f (of_decide_eq_false hb) H
                refine CJ.exit (EJ.skE (EJ.skE (EJ.hit (?_))))
                exact EJ.meet (F' := [(0, .slice A9 y8.length c10), (1, .int .i64 a1), (7, .slice A6 y5.length c7), (8, .int .i64 y19), (14, .int .i64 a2), (15, .int .i64 y11)]) ⟨rfl, rfl, rfl, rfl, rfl, rfl, trivial⟩ ⟨y19, H, rfl, hS.pick [0] [0, 1] rfl⟩
          · rintro F w1 ⟨y18, he, rfl, hS⟩
            obtain rfl := Option.some.inj he
            have H := K25
            refine EJ.next ?_
            refine CJ.seq ?_
            refine CJ.region ?_
            refine OJ.pures tU_ok 3 rfl ?_
            obtain ⟨t24, ht24, H⟩ := pbind H
            refine OJ.callF rfl rfl rfl rfl rfl hb47 rfl (impl_behind.c k _ A9 c10 y8 (hS.rd' (i := 1) rfl) (hS.le' (i := 1) rfl) a1 y18 _ ht24) ?_
            rintro _ w1 ⟨A25, c26, rfl, hs⟩
            replace hS := hS.addN hs
            refine OJ.pures tU_ok 5 rfl ?_
            refine OJ.nil (EJ.next ?_)
            refine CJ.seq ?_
            refine CJ.seq ?_
            refine CJ.region ?_
            refine OJ.pures tU_ok 2 rfl ?_
            refine OJ.nil (EJ.next ?_)
            refine CJ.cond rfl (fun hb => ?_) (fun hb => ?_)
            · replace H := pif_t hb H
              refine CJ.seq ?_
              refine CJ.region ?_
              refine OJ.pures tU_ok 2 rfl ?_
              refine OJ.nil (EJ.next ?_)
              refine CJ.ret (EJ.skR (EJ.bkR (EJ.skR (EJ.skR (EJ.bkR (EJ.skR (EJ.skR (?_))))))))
              first | (obtain rfl := Option.some.inj H; have H := K23) | (obtain ⟨q23, H2, e23⟩ := pbind H; obtain rfl := Option.some.inj e23; obtain rfl := Option.some.inj K23; have H := H2)
              first | (obtain rfl := Option.some.inj H; have H := K16) | (obtain ⟨q16, H2, e16⟩ := pbind H; obtain rfl := Option.some.inj e16; obtain rfl := Option.some.inj K16; have H := H2)
              obtain rfl := Option.some.inj H
              exact EJ.fin rfl (.tmp rfl .nil) ⟨A6, c7, rfl, hS.pick [0] [] rfl⟩
            · replace H := pifb_f hb H
              refine CJ.skip (EJ.next ?_)
              refine CJ.region ?_
              refine OJ.pures tU_ok 2 rfl ?_
              refine OJ.ef rfl rfl rfl (Ef.lit tU_ok tI_ok hS (C := (ci .i64)) rfl rfl rfl rfl rfl rfl ([y18] : List Int) rfl rfl rfl rfl) ?_
              rintro _ w1 ⟨A27, rfl, hS⟩
              obtain ⟨u28, hu28, H⟩ := pbind H
              refine OJ.ew rfl rfl rfl (Ew.append tU_ok tI_ok (C := (ci .i64)) (xs := y5) (ys := ([y18] : List Int)) hS (i := 0) rfl rfl rfl rfl rfl rfl rfl rfl rfl rfl rfl rfl rfl (hS.rd (i := 2) rfl) (chk_some hu28)) ?_
              rintro _ w1 ⟨A29, c30, rfl, hS⟩
              refine OJ.pures tU_ok 3 rfl ?_
              refine OJ.nil (EJ.blk (?_))
              exact EJ.meet (F' := [(0, .slice A25 t24.1.length c26), (1, .int .i64 a1), (7, .slice A29 (y5 ++ ([y18] : List Int)).length c30), (14, .int .i64 a2), (15, .int .i64 y11)]) ⟨rfl, rfl, rfl, rfl, rfl, trivial⟩ ⟨(y5 ++ ([y18] : List Int)), t24.1, A29, c30, A25, c26, H, rfl, hS.pick [0, 1] [0, 1] rfl⟩
        · rintro F w1 ⟨y12, y15, A13, c14, A16, c17, he, rfl, hS⟩
          obtain rfl := Option.some.inj he
          have H := K23
          refine CJ.region ?_
          refine OJ.pures tU_ok 2 rfl ?_
          refine OJ.nil ?_
          replace hS := hS.freezeG (i := 1) rfl
          exact EJ.round k (F' := [(0, .slice A16 y15.length c17), (1, .int .i64 a1), (7, .slice A13 y12.length c14), (14, .int .i64 a2), (15, .int .i64 (IntKind.i64.wrap (y11 + 1)))]) ⟨rfl, rfl, rfl, rfl, rfl, trivial⟩ (Nat.lt_succ_self _) ⟨y12, y15, (IntKind.i64.wrap (y11 + 1)), A13, c14, A16, c17, rfl, hS.pick [0] [0, 2] rfl, H⟩
      · replace H := pif_f (of_decide_eq_false hb) H
        refine CJ.exit (EJ.skE (EJ.skE (EJ.hit (?_))))
        exact EJ.meet (F' := [(7, .slice A6 y5.length c7)]) ⟨rfl, trivial⟩ ⟨y5, A6, c7, H, rfl, hS.pick [0] [0] rfl⟩
  · rintro F w1 ⟨y2, A3, c4, he, rfl, hS⟩
    obtain rfl := Option.some.inj he
    have H := K16
    refine EJ.next ?_
    refine CJ.seq ?_
    refine CJ.region ?_
    refine OJ.pures tU_ok 2 rfl ?_
    refine OJ.nil (EJ.next ?_)
    refine CJ.ret (?_)
    obtain rfl := Option.some.inj H
    exact EJ.fin rfl (.tmp rfl .nil) ⟨A3, c4, rfl, hS.pick [0] [] rfl⟩

def impl_GreedyPlan.f (k : Nat) (a0 : List Meadow) (a1 : Int) (a2 : Int) : Option (List Int × Int) := (impl_spanCode.f k a0 a1 a2 0).bind fun t1 => if t1 ≠ 0 then (some ([], t1)) else ((impl_greedy.f k a0 a1 a2).bind fun t2 => (impl_size_int64.f t2).bind fun t5 => if t5 < a2 then (some ([], 6)) else (some (t2, 0)))
theorem impl_GreedyPlan.c (k : Nat) (w : World) (Aa0 : Option Addr) (ca0 : Nat) (a0 : List Meadow) (hr0 : Rd cMeadow w Aa0 a0) (hc0 : a0.length ≤ ca0) (a1 : Int) (a2 : Int) (r : List Int × Int) (H : impl_GreedyPlan.f k a0 a1 a2 = some r) :
    CV Try.prog 9 [.slice Aa0 a0.length ca0, .int .i64 a1, .int .i64 a2].toArray w fun v w' => ∃ (A0 : Option Addr) (c0 : Nat), v = .tuple #[.slice A0 r.1.length c0, .int .i64 r.2] ∧ St w no w' [rowC (ci .i64) A0 c0 2 r.1] [] := by
  have hS := ((St.init w no).param cMeadow Aa0 ca0 a0 hr0 hc0)
  unfold impl_GreedyPlan.f at H
  refine CV.body Try.func9 rfl Try.ntmps9 rfl ?_
  refine CJ.seq ?_
  refine CJ.region ?_
  refine OJ.pures tU_ok 2 rfl ?_
  refine OJ.nil (EJ.next ?_)
  refine CJ.seq ?_
  refine CJ.seq ?_
  refine CJ.region ?_
  refine OJ.pures tU_ok 3 rfl ?_
  obtain ⟨t1, ht1, H⟩ := pbind H
  refine OJ.callF rfl rfl rfl rfl rfl hb29 rfl (impl_spanCode.c k _ Aa0 ca0 a0 (hS.rd' (i := 0) rfl) (hS.le' (i := 0) rfl) a1 a2 0 _ ht1) ?_
  rintro _ w1 ⟨rfl, hs⟩
  replace hS := hS.grow hs
  refine OJ.pures tU_ok 1 rfl ?_
  refine OJ.nil (EJ.next ?_)
  refine CJ.seq ?_
  refine CJ.region ?_
  refine OJ.pures tU_ok 2 rfl ?_
  refine OJ.nil (EJ.next ?_)
  refine CJ.cond rfl (fun hb => ?_) (fun hb => ?_)
  · replace H := pif_t (of_decide_eq_true hb) H
    refine CJ.seq ?_
    refine CJ.region ?_
    refine OJ.pures tU_ok 3 rfl ?_
    refine OJ.nil (EJ.next ?_)
    refine CJ.ret (EJ.skR (?_))
    replace hS := hS.addNil (ci .i64) 2 none
    obtain rfl := Option.some.inj H
    exact EJ.fin rfl (.tmp rfl (.tmp rfl .nil)) ⟨none, 0, rfl, hS.pick [0] [] rfl⟩
  · replace H := pif_f (of_decide_eq_false hb) H
    refine CJ.skip (EJ.next ?_)
    refine CJ.seq ?_
    refine CJ.region ?_
    refine OJ.pures tU_ok 3 rfl ?_
    obtain ⟨t2, ht2, H⟩ := pbind H
    refine OJ.callF rfl rfl rfl rfl rfl hb35 rfl (impl_greedy.c k _ Aa0 ca0 a0 (hS.rd' (i := 0) rfl) (hS.le' (i := 0) rfl) a1 a2 _ ht2) ?_
    rintro _ w1 ⟨A3, c4, rfl, hs⟩
    replace hS := hS.addN hs
    refine OJ.pures tU_ok 1 rfl ?_
    refine OJ.nil (EJ.next ?_)
    refine CJ.seq ?_
    refine CJ.seq ?_
    refine CJ.region ?_
    refine OJ.pures tU_ok 1 rfl ?_
    obtain ⟨t5, ht5, H⟩ := pbind H
    refine OJ.callF rfl rfl rfl rfl rfl hb36 rfl (impl_size_int64.c _ A3 c4 t2 (hS.rd (i := 0) rfl) (hS.le (i := 0) rfl) _ ht5) ?_
    rintro _ w1 ⟨rfl, hs⟩
    replace hS := hS.grow hs
    refine OJ.pures tU_ok 2 rfl ?_
    refine OJ.nil (EJ.next ?_)
    refine CJ.cond rfl (fun hb => ?_) (fun hb => ?_)
    · replace H := pif_t (of_decide_eq_true hb) H
      refine CJ.seq ?_
      refine CJ.region ?_
      refine OJ.pures tU_ok 2 rfl ?_
      refine OJ.nil (EJ.next ?_)
      refine CJ.ret (EJ.skR (?_))
      replace hS := hS.addNil (ci .i64) 2 none
      obtain rfl := Option.some.inj H
      exact EJ.fin rfl (.tmp rfl (.tmp rfl .nil)) ⟨none, 0, rfl, hS.pick [1] [] rfl⟩
    · replace H := pif_f (of_decide_eq_false hb) H
      refine CJ.skip (EJ.next ?_)
      refine CJ.seq ?_
      refine CJ.region ?_
      refine OJ.pures tU_ok 3 rfl ?_
      refine OJ.nil (EJ.next ?_)
      refine CJ.ret (?_)
      obtain rfl := Option.some.inj H
      exact EJ.fin rfl (.tmp rfl (.tmp rfl .nil)) ⟨A3, c4, rfl, hS.pick [0] [] rfl⟩

def spec_l07Richest.l1 (a0 : List Meadow) : Nat → Int → Int → Option Int
  | 0, _, _ => none
  | k + 1, y2, y3 => if y3 < (a0.length : Int) then ((getI a0 y3).bind fun t4 => (getI a0 y2).bind fun t5 => if t5.Grass < t4.Grass then (spec_l07Richest.l1 a0 k y3 (IntKind.i64.wrap (y3 + 1))) else (spec_l07Richest.l1 a0 k y2 (IntKind.i64.wrap (y3 + 1)))) else (some y2)
def spec_l07Richest.f (k : Nat) (a0 : List Meadow) : Option Int := (spec_l07Richest.l1 a0 k 0 1).bind fun y1 => some y1
theorem spec_l07Richest.c (k : Nat) (w : World) (Aa0 : Option Addr) (ca0 : Nat) (a0 : List Meadow) (hr0 : Rd cMeadow w Aa0 a0) (hc0 : a0.length ≤ ca0) (r : Int) (H : spec_l07Richest.f k a0 = some r) :
    CV Try.prog 60 [.slice Aa0 a0.length ca0].toArray w fun v w' => v = .int .i64 r ∧ Ext w w' := by
  have hS := ((St.init w no).param cMeadow Aa0 ca0 a0 hr0 hc0)
  unfold spec_l07Richest.f at H
  refine CV.body Try.func60 rfl Try.ntmps60 rfl ?_
  refine CJ.seq ?_
  refine CJ.region ?_
  refine OJ.pures tU_ok 1 rfl ?_
  refine OJ.nil (EJ.next ?_)
  refine CJ.seq ?_
  refine CJ.region ?_
  refine OJ.pures tU_ok 1 rfl ?_
  refine OJ.nil (EJ.next ?_)
  refine CJ.seq ?_
  refine CJ.seq ?_
  refine CJ.region ?_
  refine OJ.pures tU_ok 1 rfl ?_
  refine OJ.nil (EJ.next ?_)
  obtain ⟨j27, H, K27⟩ := pbind H
  refine CJ.cut1 (fun F w1 => ∃ (y1 : Int) , (some y1 : Option Int) = some j27 ∧ F = [(3, .int .i64 y1)] ∧ St w no w1 [] [roC cMeadow Aa0 ca0 a0]) ?_ ?_
  · skip
    refine CJ.block ?_
    refine CJ.loop (fun k F w1 => ∃ (y2 : Int) (y3 : Int), F = [(0, .slice Aa0 a0.length ca0), (3, .int .i64 y2), (4, .int .i64 y3)] ∧ St w no w1 [] [roC cMeadow Aa0 ca0 a0] ∧ spec_l07Richest.l1 a0 k y2 y3 = some j27) k (F' := [(0, .slice Aa0 a0.length ca0), (3, .int .i64 0), (4, .int .i64 1)]) ⟨rfl, rfl, rfl, trivial⟩ ⟨0, 1, rfl, hS.pick [] [0] rfl, H⟩ ?_
    rintro k F w1 ⟨y2, y3, rfl, hS, H⟩
    cases k with
    | zero => rw [spec_l07Richest.l1] at H; cases H
    | succ k =>
      rw [spec_l07Richest.l1] at H
      refine CJ.seq ?_
      refine CJ.seq ?_
      refine CJ.region ?_
      refine OJ.pures tU_ok 4 rfl ?_
      refine OJ.nil (EJ.next ?_)
      refine CJ.cond rfl (fun hb => ?_) (fun hb => ?_)
      · replace H := pif_t (of_decide_eq_true hb) H
        refine CJ.skip (EJ.next ?_)
        refine CJ.seq ?_
        refine CJ.block ?_
        refine CJ.seq ?_
        refine CJ.draw [] [0, 1, 2, 3, 4, 5, 6, 7, 8, 9, 10] mixed (by kernel_rfl) hS fun w1 hS => ?_
        refine DJ.pures tU_ok 2 rfl ?_
        obtain ⟨t4, ht4, H⟩ := pbind H
        obtain ⟨ad4, e4⟩ := (hS.rd' (i := 0) rfl).some' ht4
        refine DJ.st rfl rfl rfl rfl rfl (SR.idxS tU_ok tI_ok rfl rfl rfl rfl e4 rfl (getI_some ht4).1) ?_
        refine DJ.st rfl rfl rfl rfl rfl (SR.fieldAddr tU_ok tI_ok rfl rfl rfl rfl rfl rfl) ?_
        refine DJ.st rfl rfl rfl rfl rfl (SR.load rfl rfl (fun w' hx => ld1 tU_ok rfl rfl (CA.ext (CA.sub ((hS.rd' (i := 0) rfl).at_ e4 ht4) 0) hx) rfl)) ?_
        refine DJ.pures tU_ok 2 rfl ?_
        obtain ⟨t5, ht5, H⟩ := pbind H
        obtain ⟨ad5, e5⟩ := (hS.rd' (i := 0) rfl).some' ht5
        refine DJ.st rfl rfl rfl rfl rfl (SR.idxS tU_ok tI_ok rfl rfl rfl rfl e5 rfl (getI_some ht5).1) ?_
        refine DJ.st rfl rfl rfl rfl rfl (SR.fieldAddr tU_ok tI_ok rfl rfl rfl rfl rfl rfl) ?_
        refine DJ.st rfl rfl rfl rfl rfl (SR.load rfl rfl (fun w' hx => ld1 tU_ok rfl rfl (CA.ext (CA.sub ((hS.rd' (i := 0) rfl).at_ e5 ht5) 0) hx) rfl)) ?_
        refine DJ.pures tU_ok 1 rfl ?_
        refine DJ.nil (EJ.next ?_)
        refine CJ.cond rfl (fun hb => ?_) (fun hb => ?_)
        · replace H := pif_t (of_decide_eq_true hb) H
          refine CJ.region ?_
          refine OJ.pures tU_ok 2 rfl ?_
          refine OJ.nil (EJ.blk (EJ.next ?_))
          refine CJ.region ?_
          refine OJ.pures tU_ok 3 rfl ?_
          refine OJ.nil ?_
          exact EJ.round k (F' := [(0, .slice Aa0 a0.length ca0), (3, .int .i64 y3), (4, .int .i64 (IntKind.i64.wrap (y3 + 1)))]) ⟨rfl, rfl, rfl, trivial⟩ (Nat.lt_succ_self _) ⟨y3, (IntKind.i64.wrap (y3 + 1)), rfl, hS.pick [] [0] rfl, H⟩
        · replace H := pif_f (of_decide_eq_false hb) H
          refine CJ.skip (EJ.blk (EJ.next ?_))
          refine CJ.region ?_
          refine OJ.pures tU_ok 3 rfl ?_
          refine OJ.nil ?_
          exact EJ.round k (F' := [(0, .slice Aa0 a0.length ca0), (3, .int .i64 y2), (4, .int .i64 (IntKind.i64.wrap (y3 + 1)))]) ⟨rfl, rfl, rfl, trivial⟩ (Nat.lt_succ_self _) ⟨y2, (IntKind.i64.wrap (y3 + 1)), rfl, hS.pick [] [0] rfl, H⟩
      · replace H := pif_f (of_decide_eq_false hb) H
        refine CJ.exit (EJ.skE (EJ.skE (EJ.hit (?_))))
        exact EJ.meet (F' := [(3, .int .i64 y2)]) ⟨rfl, trivial⟩ ⟨y2, H, rfl, hS.pick [] [0] rfl⟩
  · rintro F w1 ⟨y1, he, rfl, hS⟩
    obtain rfl := Option.some.inj he
    have H := K27
    refine EJ.next ?_
    refine CJ.seq ?_
    refine CJ.region ?_
    refine OJ.pures tU_ok 2 rfl ?_
    refine OJ.nil (EJ.next ?_)
    refine CJ.ret (?_)
    obtain rfl := Option.some.inj H
    exact EJ.fin rfl (.tmp rfl .nil) ⟨rfl, hS.ext⟩

def spec_l07Greedy.l1 (a1 : Int) (a2 : Int) : Nat → (List Int) → (List Meadow) → Option ((List Int) ⊕ (List Int))
  | 0, _, _ => none
  | k + 1, y5, y8 => if (y5.length : Int) < a2 then ((spec_l07Richest.f k y8).bind fun t11 => (getI y8 t11).bind fun t12 => if (IntKind.i64.wrap t12.Grass) < a1 then (some (Sum.inl y5)) else ((chk (y5.length + ([t11] : List Int).length ≤ 4294967296)).bind fun u14 => (spec_l07Day.f k y8 a1 t11).bind fun t17 => spec_l07Greedy.l1 a1 a2 k (y5 ++ ([t11] : List Int)) t17)) else (some (Sum.inr y5))
def spec_l07Greedy.f (k : Nat) (a0 : List Meadow) (a1 : Int) (a2 : Int) : Option (List Int) := (spec_l07Greedy.l1 a1 a2 k ([] : List Int) a0).bind fun s26 => match s26 with | .inl r => some r | .inr y2 => some y2
theorem spec_l07Greedy.c (k : Nat) (w : World) (Aa0 : Option Addr) (ca0 : Nat) (a0 : List Meadow) (hr0 : Rd cMeadow w Aa0 a0) (hc0 : a0.length ≤ ca0) (a1 : Int) (a2 : Int) (r : List Int) (H : spec_l07Greedy.f k a0 a1 a2 = some r) :
    CV Try.prog 37 [.slice Aa0 a0.length ca0, .int .i64 a1, .int .i64 a2].toArray w fun v w' => ∃ (A0 : Option Addr) (c0 : Nat), v = .slice A0 r.length c0 ∧ St w no w' [rowC (ci .i64) A0 c0 2 r] [] := by
  have hS := ((St.init w no).param cMeadow Aa0 ca0 a0 hr0 hc0)
  unfold spec_l07Greedy.f at H
  refine CV.body Try.func37 rfl Try.ntmps37 rfl ?_
  refine CJ.seq ?_
  refine CJ.region ?_
  refine OJ.pures tU_ok 1 rfl ?_
  refine OJ.nil (EJ.next ?_)
  refine CJ.seq ?_
  refine CJ.region ?_
  refine OJ.ef rfl rfl rfl (Ef.lit tU_ok tI_ok hS (C := (ci .i64)) rfl rfl rfl rfl rfl rfl ([] : List Int) rfl rfl rfl rfl) ?_
  rintro _ w1 ⟨A1, rfl, hS⟩
  refine OJ.pures tU_ok 1 rfl ?_
  refine OJ.nil (EJ.next ?_)
  obtain ⟨j26, H, K26⟩ := pbind H
  refine CJ.cut (fun F w1 => ∃ (y2 : List Int) (A3 : Option Addr) (c4 : Nat), (some (Sum.inr y2) : Option ((List Int) ⊕ (List Int))) = some j26 ∧ F = [(7, .slice A3 y2.length c4)] ∧ St w no w1 [rowC (ci .i64) A3 c4 2 y2] [roC cMeadow Aa0 ca0 a0]) ?_ ?_
  · skip
    refine CJ.block ?_
    refine CJ.loop (fun k F w1 => ∃ (y5 : List Int) (y8 : List Meadow) (A6 : Option Addr) (c7 : Nat) (A9 : Option Addr) (c10 : Nat), F = [(0, .slice A9 y8.length c10), (1, .int .i64 a1), (2, .int .i64 a2), (7, .slice A6 y5.length c7)] ∧ St w no w1 [rowC (ci .i64) A6 c7 2 y5] [roC cMeadow Aa0 ca0 a0, roC cMeadow A9 c10 y8] ∧ spec_l07Greedy.l1 a1 a2 k y5 y8 = some j26) k (F' := [(0, .slice Aa0 a0.length ca0), (1, .int .i64 a1), (2, .int .i64 a2), (7, .slice A1 ([] : List Int).length (([] : List Int).length))]) ⟨rfl, rfl, rfl, rfl, trivial⟩ ⟨([] : List Int), a0, A1, (([] : List Int).length), Aa0, ca0, rfl, hS.pick [0] [0, 0] rfl, H⟩ ?_
    rintro k F w1 ⟨y5, y8, A6, c7, A9, c10, rfl, hS, H⟩
    cases k with
    | zero => rw [spec_l07Greedy.l1] at H; cases H
    | succ k =>
      rw [spec_l07Greedy.l1] at H
      refine CJ.seq ?_
      refine CJ.seq ?_
      refine CJ.region ?_
      refine OJ.pures tU_ok 4 rfl ?_
      refine OJ.nil (EJ.next ?_)
      refine CJ.cond rfl (fun hb => ?_) (fun hb => ?_)
      · replace H := pif_t (of_decide_eq_true hb) H
        refine CJ.skip (EJ.next ?_)
        refine CJ.block ?_
        refine CJ.seq ?_
        refine CJ.region ?_
        refine OJ.pures tU_ok 1 rfl ?_
        obtain ⟨t11, ht11, H⟩ := pbind H
        refine OJ.callF rfl rfl rfl rfl rfl hb60 rfl (spec_l07Richest.c k _ A9 c10 y8 (hS.rd' (i := 1) rfl) (hS.le' (i := 1) rfl) _ ht11) ?_
        rintro _ w1 ⟨rfl, hs⟩
        replace hS := hS.grow hs
        refine OJ.pures tU_ok 1 rfl ?_
        refine OJ.nil (EJ.next ?_)
        refine CJ.seq ?_
        refine CJ.seq ?_
        refine CJ.region ?_
        refine OJ.pures tU_ok 2 rfl ?_
        obtain ⟨t12, ht12, H⟩ := pbind H
        obtain ⟨ad12, e12⟩ := (hS.rd' (i := 1) rfl).some' ht12
        refine OJ.st rfl rfl rfl (SR.idxS tU_ok tI_ok rfl rfl rfl rfl e12 rfl (getI_some ht12).1) ?_
        refine OJ.st rfl rfl rfl (SR.fieldAddr tU_ok tI_ok rfl rfl rfl rfl rfl rfl) ?_
        refine OJ.st rfl rfl rfl (SR.load rfl rfl (fun w' hx => ld1 tU_ok rfl rfl (CA.ext (CA.sub ((hS.rd' (i := 1) rfl).at_ e12 ht12) 0) hx) rfl)) ?_
        refine OJ.pures tU_ok 3 rfl ?_
        refine OJ.nil (EJ.next ?_)
        refine CJ.cond rfl (fun hb => ?_) (fun hb => ?_)
        · replace H := pif_t (of_decide_eq_true hb) H
          refine CJ.seq ?_
          refine CJ.region ?_
          refine OJ.pures tU_ok 2 rfl ?_
          refine OJ.nil (EJ.next ?_)
          refine CJ.ret (EJ.skR (EJ.bkR (EJ.skR (EJ.bkR (EJ.skR (?_))))))
          first | (obtain rfl := Option.some.inj H; have H := K26) | (obtain ⟨q26, H2, e26⟩ := pbind H; obtain rfl := Option.some.inj e26; obtain rfl := Option.some.inj K26; have H := H2)
          obtain rfl := Option.some.inj H
          exact EJ.fin rfl (.tmp rfl .nil) ⟨A6, c7, rfl, hS.pick [0] [] rfl⟩
        · replace H := pif_f (of_decide_eq_false hb) H
          refine CJ.skip (EJ.next ?_)
          refine CJ.seq ?_
          refine CJ.region ?_
          refine OJ.pures tU_ok 2 rfl ?_
          refine OJ.ef rfl rfl rfl (Ef.lit tU_ok tI_ok hS (C := (ci .i64)) rfl rfl rfl rfl rfl rfl ([t11] : List Int) rfl rfl rfl rfl) ?_
          rintro _ w1 ⟨A13, rfl, hS⟩
          obtain ⟨u14, hu14, H⟩ := pbind H
          refine OJ.ew rfl rfl rfl (Ew.append tU_ok tI_ok (C := (ci .i64)) (xs := y5) (ys := ([t11] : List Int)) hS (i := 0) rfl rfl rfl rfl rfl rfl rfl rfl rfl rfl rfl rfl rfl (hS.rd (i := 1) rfl) (chk_some hu14)) ?_
          rintro _ w1 ⟨A15, c16, rfl, hS⟩
          refine OJ.pures tU_ok 1 rfl ?_
          refine OJ.nil (EJ.next ?_)
          refine CJ.region ?_
          refine OJ.pures tU_ok 3 rfl ?_
          obtain ⟨t17, ht17, H⟩ := pbind H
          refine OJ.callF rfl rfl rfl rfl rfl hb49 rfl (spec_l07Day.c k _ A9 c10 y8 (hS.rd' (i := 1) rfl) (hS.le' (i := 1) rfl) a1 t11 _ ht17) ?_
          rintro _ w1 ⟨A18, c19, rfl, hs⟩
          replace hS := hS.addN hs
          refine OJ.pures tU_ok 1 rfl ?_
          refine OJ.nil (EJ.blk (?_))
          replace hS := hS.freezeG (i := 2) rfl
          exact EJ.round k (F' := [(0, .slice A18 t17.length c19), (1, .int .i64 a1), (2, .int .i64 a2), (7, .slice A15 (y5 ++ ([t11] : List Int)).length c16)]) ⟨rfl, rfl, rfl, rfl, trivial⟩ (Nat.lt_succ_self _) ⟨(y5 ++ ([t11] : List Int)), t17, A15, c16, A18, c19, rfl, hS.pick [0] [0, 2] rfl, H⟩
      · replace H := pif_f (of_decide_eq_false hb) H
        refine CJ.exit (EJ.skE (EJ.skE (EJ.hit (?_))))
        exact EJ.meet (F' := [(7, .slice A6 y5.length c7)]) ⟨rfl, trivial⟩ ⟨y5, A6, c7, H, rfl, hS.pick [0] [0] rfl⟩
  · rintro F w1 ⟨y2, A3, c4, he, rfl, hS⟩
    obtain rfl := Option.some.inj he
    have H := K26
    refine CJ.seq ?_
    refine CJ.region ?_
    refine OJ.pures tU_ok 2 rfl ?_
    refine OJ.nil (EJ.next ?_)
    refine CJ.ret (?_)
    obtain rfl := Option.some.inj H
    exact EJ.fin rfl (.tmp rfl .nil) ⟨A3, c4, rfl, hS.pick [0] [] rfl⟩

def spec_GreedyPlan.f (k : Nat) (a0 : List Meadow) (a1 : Int) (a2 : Int) : Option (List Int × Int) := (spec_l07Days.f a2).bind fun t1 => (spec_l07Asked.f k a0 a1 t1).bind fun t2 => if t2 ≠ 0 then (some (([] : List Int), t2)) else ((spec_l07Greedy.f k a0 a1 a2).bind fun t4 => if (t4.length : Int) < a2 then (some (([] : List Int), 6)) else (some (t4, 0)))
theorem spec_GreedyPlan.c (k : Nat) (w : World) (Aa0 : Option Addr) (ca0 : Nat) (a0 : List Meadow) (hr0 : Rd cMeadow w Aa0 a0) (hc0 : a0.length ≤ ca0) (a1 : Int) (a2 : Int) (r : List Int × Int) (H : spec_GreedyPlan.f k a0 a1 a2 = some r) :
    CV Try.prog 10 [.slice Aa0 a0.length ca0, .int .i64 a1, .int .i64 a2].toArray w fun v w' => ∃ (A0 : Option Addr) (c0 : Nat), v = .tuple #[.slice A0 r.1.length c0, .int .i64 r.2] ∧ St w no w' [rowC (ci .i64) A0 c0 2 r.1] [] := by
  have hS := ((St.init w no).param cMeadow Aa0 ca0 a0 hr0 hc0)
  unfold spec_GreedyPlan.f at H
  refine CV.body Try.func10 rfl Try.ntmps10 rfl ?_
  refine CJ.seq ?_
  refine CJ.region ?_
  refine OJ.pures tU_ok 2 rfl ?_
  refine OJ.nil (EJ.next ?_)
  refine CJ.seq ?_
  refine CJ.seq ?_
  refine CJ.region ?_
  refine OJ.pures tU_ok 3 rfl ?_
  obtain ⟨t1, ht1, H⟩ := pbind H
  refine OJ.callF rfl rfl rfl rfl rfl hb32 rfl (spec_l07Days.c _ a2 _ ht1) ?_
  rintro _ w1 ⟨rfl, hs⟩
  replace hS := hS.grow hs
  obtain ⟨t2, ht2, H⟩ := pbind H
  refine OJ.callF rfl rfl rfl rfl rfl hb31 rfl (spec_l07Asked.c k _ Aa0 ca0 a0 (hS.rd' (i := 0) rfl) (hS.le' (i := 0) rfl) a1 t1 _ ht2) ?_
  rintro _ w1 ⟨rfl, hs⟩
  replace hS := hS.grow hs
  refine OJ.pures tU_ok 1 rfl ?_
  refine OJ.nil (EJ.next ?_)
  refine CJ.seq ?_
  refine CJ.region ?_
  refine OJ.pures tU_ok 2 rfl ?_
  refine OJ.nil (EJ.next ?_)
  refine CJ.cond rfl (fun hb => ?_) (fun hb => ?_)
  · replace H := pif_t (of_decide_eq_true hb) H
    refine CJ.seq ?_
    refine CJ.region ?_
    refine OJ.ef rfl rfl rfl (Ef.lit tU_ok tI_ok hS (C := (ci .i64)) rfl rfl rfl rfl rfl rfl ([] : List Int) rfl rfl rfl rfl) ?_
    rintro _ w1 ⟨A3, rfl, hS⟩
    refine OJ.pures tU_ok 3 rfl ?_
    refine OJ.nil (EJ.next ?_)
    refine CJ.ret (EJ.skR (?_))
    obtain rfl := Option.some.inj H
    exact EJ.fin rfl (.tmp rfl (.tmp rfl .nil)) ⟨A3, (([] : List Int).length), rfl, hS.pick [0] [] rfl⟩
  · replace H := pif_f (of_decide_eq_false hb) H
    refine CJ.skip (EJ.next ?_)
    refine CJ.seq ?_
    refine CJ.region ?_
    refine OJ.pures tU_ok 3 rfl ?_
    obtain ⟨t4, ht4, H⟩ := pbind H
    refine OJ.callF rfl rfl rfl rfl rfl hb37 rfl (spec_l07Greedy.c k _ Aa0 ca0 a0 (hS.rd' (i := 0) rfl) (hS.le' (i := 0) rfl) a1 a2 _ ht4) ?_
    rintro _ w1 ⟨A5, c6, rfl, hs⟩
    replace hS := hS.addN hs
    refine OJ.pures tU_ok 1 rfl ?_
    refine OJ.nil (EJ.next ?_)
    refine CJ.seq ?_
    refine CJ.seq ?_
    refine CJ.region ?_
    refine OJ.pures tU_ok 4 rfl ?_
    refine OJ.nil (EJ.next ?_)
    refine CJ.cond rfl (fun hb => ?_) (fun hb => ?_)
    · replace H := pif_t (of_decide_eq_true hb) H
      refine CJ.seq ?_
      refine CJ.region ?_
      refine OJ.ef rfl rfl rfl (Ef.lit tU_ok tI_ok hS (C := (ci .i64)) rfl rfl rfl rfl rfl rfl ([] : List Int) rfl rfl rfl rfl) ?_
      rintro _ w1 ⟨A7, rfl, hS⟩
      refine OJ.pures tU_ok 2 rfl ?_
      refine OJ.nil (EJ.next ?_)
      refine CJ.ret (EJ.skR (?_))
      obtain rfl := Option.some.inj H
      exact EJ.fin rfl (.tmp rfl (.tmp rfl .nil)) ⟨A7, (([] : List Int).length), rfl, hS.pick [1] [] rfl⟩
    · replace H := pif_f (of_decide_eq_false hb) H
      refine CJ.skip (EJ.next ?_)
      refine CJ.seq ?_
      refine CJ.region ?_
      refine OJ.pures tU_ok 3 rfl ?_
      refine OJ.nil (EJ.next ?_)
      refine CJ.ret (?_)
      obtain rfl := Option.some.inj H
      exact EJ.fin rfl (.tmp rfl (.tmp rfl .nil)) ⟨A5, c6, rfl, hS.pick [0] [] rfl⟩

def impl_LongestGreedy.f (k : Nat) (a0 : List Meadow) (a1 : Int) : Option (Int × Int) := (impl_meadowCode.f k a0 a1 []).bind fun t1 => if t1 ≠ 0 then (some (0, t1)) else ((impl_greedy.f k a0 a1 30).bind fun t2 => (impl_size_int64.f t2).bind fun t5 => some (t5, 0))
theorem impl_LongestGreedy.c (k : Nat) (w : World) (Aa0 : Option Addr) (ca0 : Nat) (a0 : List Meadow) (hr0 : Rd cMeadow w Aa0 a0) (hc0 : a0.length ≤ ca0) (a1 : Int) (r : Int × Int) (H : impl_LongestGreedy.f k a0 a1 = some r) :
    CV Try.prog 11 [.slice Aa0 a0.length ca0, .int .i64 a1].toArray w fun v w' => v = .tuple #[.int .i64 r.1, .int .i64 r.2] ∧ Ext w w' := by
  have hS := ((St.init w no).param cMeadow Aa0 ca0 a0 hr0 hc0)
  unfold impl_LongestGreedy.f at H
  refine CV.body Try.func11 rfl Try.ntmps11 rfl ?_
  refine CJ.seq ?_
  refine CJ.region ?_
  refine OJ.pures tU_ok 2 rfl ?_
  refine OJ.nil (EJ.next ?_)
  refine CJ.seq ?_
  refine CJ.seq ?_
  refine CJ.region ?_
  refine OJ.pures tU_ok 2 rfl ?_
  obtain ⟨t1, ht1, H⟩ := pbind H
  refine OJ.callF rfl rfl rfl rfl rfl hb38 rfl (impl_meadowCode.c k _ Aa0 ca0 a0 (hS.rd' (i := 0) rfl) (hS.le' (i := 0) rfl) a1 none 0 [] (Rd.nil (ci .i64) _ _) (Nat.le_refl _) _ ht1) ?_
  rintro _ w1 ⟨rfl, hs⟩
  replace hS := hS.grow hs
  refine OJ.pures tU_ok 1 rfl ?_
  refine OJ.nil (EJ.next ?_)
  refine CJ.seq ?_
  refine CJ.region ?_
  refine OJ.pures tU_ok 2 rfl ?_
  refine OJ.nil (EJ.next ?_)
  refine CJ.cond rfl (fun hb => ?_) (fun hb => ?_)
  · replace H := pif_t (of_decide_eq_true hb) H
    refine CJ.seq ?_
    refine CJ.region ?_
    refine OJ.pures tU_ok 3 rfl ?_
    refine OJ.nil (EJ.next ?_)
    refine CJ.ret (EJ.skR (?_))
    obtain rfl := Option.some.inj H
    exact EJ.fin rfl (.tmp rfl (.tmp rfl .nil)) ⟨rfl, hS.ext⟩
  · replace H := pif_f (of_decide_eq_false hb) H
    refine CJ.skip (EJ.next ?_)
    refine CJ.seq ?_
    refine CJ.region ?_
    refine OJ.pures tU_ok 2 rfl ?_
    obtain ⟨t2, ht2, H⟩ := pbind H
    refine OJ.callF rfl rfl rfl rfl rfl hb35 rfl (impl_greedy.c k _ Aa0 ca0 a0 (hS.rd' (i := 0) rfl) (hS.le' (i := 0) rfl) a1 30 _ ht2) ?_
    rintro _ w1 ⟨A3, c4, rfl, hs⟩
    replace hS := hS.addN hs
    obtain ⟨t5, ht5, H⟩ := pbind H
    refine OJ.callF rfl rfl rfl rfl rfl hb36 rfl (impl_size_int64.c _ A3 c4 t2 (hS.rd (i := 0) rfl) (hS.le (i := 0) rfl) _ ht5) ?_
    rintro _ w1 ⟨rfl, hs⟩
    replace hS := hS.grow hs
    refine OJ.pures tU_ok 2 rfl ?_
    refine OJ.nil (EJ.next ?_)
    refine CJ.ret (?_)
    obtain rfl := Option.some.inj H
    exact EJ.fin rfl (.tmp rfl (.tmp rfl .nil)) ⟨rfl, hS.ext⟩

def impl_EnoughFor.l1 (a0 : List Meadow) (a2 : Int) : Nat → Int → Int → Option Int
  | 0, _, _ => none
  | k + 1, y3, y4 => if y4 < (a0.length : Int) then ((getI a0 y4).bind fun t5 => impl_EnoughFor.l1 a0 a2 k (IntKind.i64.wrap (y3 + (IntKind.i64.wrap ((IntKind.i64.wrap t5.Grass) + (IntKind.i64.wrap ((IntKind.i64.wrap t5.Grows) * (IntKind.i64.wrap (a2 - 1)))))))) (IntKind.i64.wrap (y4 + 1))) else (some y3)
def impl_EnoughFor.f (k : Nat) (a0 : List Meadow) (a1 : Int) (a2 : Int) : Option (Bool × Int) := (impl_spanCode.f k a0 a1 a2 0).bind fun t1 => if t1 ≠ 0 then (some (false, t1)) else ((impl_EnoughFor.l1 a0 a2 k 0 0).bind fun y2 => if a2 = 0 then (some (true, 0)) else (some (decide ((IntKind.i64.wrap (a1 * a2)) ≤ y2), 0)))
theorem impl_EnoughFor.c (k : Nat) (w : World) (Aa0 : Option Addr) (ca0 : Nat) (a0 : List Meadow) (hr0 : Rd cMeadow w Aa0 a0) (hc0 : a0.length ≤ ca0) (a1 : Int) (a2 : Int) (r : Bool × Int) (H : impl_EnoughFor.f k a0 a1 a2 = some r) :
    CV Try.prog 12 [.slice Aa0 a0.length ca0, .int .i64 a1, .int .i64 a2].toArray w fun v w' => v = .tuple #[.bool r.1, .int .i64 r.2] ∧ Ext w w' := by
  have hS := ((St.init w no).param cMeadow Aa0 ca0 a0 hr0 hc0)
  unfold impl_EnoughFor.f at H
  refine CV.body Try.func12 rfl Try.ntmps12 rfl ?_
  refine CJ.seq ?_
  refine CJ.region ?_
  refine OJ.pures tU_ok 2 rfl ?_
  refine OJ.nil (EJ.next ?_)
  refine CJ.seq ?_
  refine CJ.seq ?_
  refine CJ.region ?_
  refine OJ.pures tU_ok 3 rfl ?_
  obtain ⟨t1, ht1, H⟩ := pbind H
  refine OJ.callF rfl rfl rfl rfl rfl hb29 rfl (impl_spanCode.c k _ Aa0 ca0 a0 (hS.rd' (i := 0) rfl) (hS.le' (i := 0) rfl) a1 a2 0 _ ht1) ?_
  rintro _ w1 ⟨rfl, hs⟩
  replace hS := hS.grow hs
  refine OJ.pures tU_ok 1 rfl ?_
  refine OJ.nil (EJ.next ?_)
  refine CJ.seq ?_
  refine CJ.region ?_
  refine OJ.pures tU_ok 2 rfl ?_
  refine OJ.nil (EJ.next ?_)
  refine CJ.cond rfl (fun hb => ?_) (fun hb => ?_)
  · replace H := pif_t (of_decide_eq_true hb) H
    refine CJ.seq ?_
    refine CJ.region ?_
    refine OJ.pures tU_ok 3 rfl ?_
    refine OJ.nil (EJ.next ?_)
    refine CJ.ret (EJ.skR (?_))
    obtain rfl := Option.some.inj H
    exact EJ.fin rfl (.tmp rfl (.tmp rfl .nil)) ⟨rfl, hS.ext⟩
  · replace H := pif_f (of_decide_eq_false hb) H
    refine CJ.skip (EJ.next ?_)
    refine CJ.seq ?_
    refine CJ.region ?_
    refine OJ.pures tU_ok 1 rfl ?_
    refine OJ.nil (EJ.next ?_)
    refine CJ.seq ?_
    refine CJ.seq ?_
    refine CJ.region ?_
    refine OJ.pures tU_ok 3 rfl ?_
    refine OJ.nil (EJ.next ?_)
    obtain ⟨j28, H, K28⟩ := pbind H
    refine CJ.cut1 (fun F w1 => ∃ (y2 : Int) , (some y2 : Option Int) = some j28 ∧ F = [(1, .int .i64 a1), (2, .int .i64 a2), (9, .int .i64 y2)] ∧ St w no w1 [] [roC cMeadow Aa0 ca0 a0]) ?_ ?_
    · skip
      refine CJ.block ?_
      refine CJ.loop (fun k F w1 => ∃ (y3 : Int) (y4 : Int), F = [(1, .int .i64 a1), (2, .int .i64 a2), (9, .int .i64 y3), (19, .slice Aa0 a0.length ca0), (20, .int .i64 (a0.length : Int)), (21, .int .i64 y4)] ∧ St w no w1 [] [roC cMeadow Aa0 ca0 a0] ∧ impl_EnoughFor.l1 a0 a2 k y3 y4 = some j28) k (F' := [(1, .int .i64 a1), (2, .int .i64 a2), (9, .int .i64 0), (19, .slice Aa0 a0.length ca0), (20, .int .i64 (a0.length : Int)), (21, .int .i64 0)]) ⟨rfl, rfl, rfl, rfl, rfl, rfl, trivial⟩ ⟨0, 0, rfl, hS.pick [] [0] rfl, H⟩ ?_
      rintro k F w1 ⟨y3, y4, rfl, hS, H⟩
      cases k with
      | zero => rw [impl_EnoughFor.l1] at H; cases H
      | succ k =>
        rw [impl_EnoughFor.l1] at H
        refine CJ.seq ?_
        refine CJ.region ?_
        refine OJ.pures tU_ok 1 rfl ?_
        refine OJ.nil (EJ.next ?_)
        refine CJ.seq ?_
        refine CJ.cond rfl (fun hb => ?_) (fun hb => ?_)
        · replace H := pif_t (of_decide_eq_true hb) H
          refine CJ.skip (EJ.next ?_)
          refine CJ.seq ?_
          refine CJ.block ?_
          refine CJ.seq ?_
          refine CJ.region ?_
          obtain ⟨t5, ht5, H⟩ := pbind H
          obtain ⟨ad5, e5⟩ := (hS.rd' (i := 0) rfl).some' ht5
          refine OJ.st rfl rfl rfl (SR.idxS tU_ok tI_ok rfl rfl rfl rfl e5 rfl (getI_some ht5).1) ?_
          refine OJ.st rfl rfl rfl (SR.load rfl rfl (fun w' hx => ldE tU_ok tI_ok rfl rfl rfl (CA.ext ((hS.rd' (i := 0) rfl).at_ e5 ht5) hx) rfl)) ?_
          refine OJ.ef rfl rfl rfl (Ef.alloc hS tI_ok rfl rfl (cMeadow.enc (⟨0, 0, 0⟩ : Meadow)) rfl) ?_
          rintro _ w1 ⟨b6, rfl, hS⟩
          refine OJ.es rfl rfl (Es.store tI_ok hS (i := 0) rfl rfl rfl rfl rfl rfl (vs := cMeadow.enc t5) rfl (cMeadow.len _) (cMeadow.one _) (Nat.le_of_ble_eq_true rfl) (cMeadow.enc t5) rfl) ?_
          intro w1 hS
          refine OJ.nil (EJ.next ?_)
          refine CJ.region ?_
          refine OJ.pures tU_ok 1 rfl ?_
          refine OJ.st rfl rfl rfl (SR.fieldAddr tU_ok tI_ok rfl rfl rfl rfl rfl rfl) ?_
          refine OJ.st rfl rfl rfl (SR.load rfl rfl (fun w' hx => ld1 tU_ok rfl rfl (CA.ext (CA.sub (hS.cells (i := 0) rfl) 0) hx) rfl)) ?_
          refine OJ.pures tU_ok 1 rfl ?_
          refine OJ.st rfl rfl rfl (SR.fieldAddr tU_ok tI_ok rfl rfl rfl rfl rfl rfl) ?_
          refine OJ.st rfl rfl rfl (SR.load rfl rfl (fun w' hx => ld1 tU_ok rfl rfl (CA.ext (CA.sub (hS.cells (i := 0) rfl) 1) hx) rfl)) ?_
          refine OJ.pures tU_ok 7 rfl ?_
          refine OJ.nil (EJ.blk (EJ.next ?_))
          refine CJ.region ?_
          refine OJ.pures tU_ok 2 rfl ?_
          refine OJ.nil ?_
          exact EJ.round k (F' := [(1, .int .i64 a1), (2, .int .i64 a2), (9, .int .i64 (IntKind.i64.wrap (y3 + (IntKind.i64.wrap ((IntKind.i64.wrap t5.Grass) + (IntKind.i64.wrap ((IntKind.i64.wrap t5.Grows) * (IntKind.i64.wrap (a2 - 1))))))))), (19, .slice Aa0 a0.length ca0), (20, .int .i64 (a0.length : Int)), (21, .int .i64 (IntKind.i64.wrap (y4 + 1)))]) ⟨rfl, rfl, rfl, rfl, rfl, rfl, trivial⟩ (Nat.lt_succ_self _) ⟨(IntKind.i64.wrap (y3 + (IntKind.i64.wrap ((IntKind.i64.wrap t5.Grass) + (IntKind.i64.wrap ((IntKind.i64.wrap t5.Grows) * (IntKind.i64.wrap (a2 - 1)))))))), (IntKind.i64.wrap (y4 + 1)), rfl, hS.pick [] [0] rfl, H⟩
        · replace H := pif_f (of_decide_eq_false hb) H
          refine CJ.exit (EJ.skE (EJ.skE (EJ.hit (?_))))
          exact EJ.meet (F' := [(1, .int .i64 a1), (2, .int .i64 a2), (9, .int .i64 y3)]) ⟨rfl, rfl, rfl, trivial⟩ ⟨y3, H, rfl, hS.pick [] [0] rfl⟩
    · rintro F w1 ⟨y2, he, rfl, hS⟩
      obtain rfl := Option.some.inj he
      have H := K28
      refine EJ.next ?_
      refine CJ.seq ?_
      refine CJ.region ?_
      refine OJ.pures tU_ok 3 rfl ?_
      refine OJ.split (t := 40) rfl (fun hb => ?_) (fun hb => ?_)
      · replace H := pif_t (of_decide_eq_true hb) H
        refine OJ.pures tU_ok 8 rfl ?_
        refine OJ.nil (EJ.next ?_)
        refine CJ.ret (?_)
        obtain rfl := Option.some.inj H
        exact EJ.fin rfl (.tmp rfl (.tmp rfl .nil)) ⟨rfl, hS.ext⟩
      · replace H := pif_f (of_decide_eq_false hb) H
        refine OJ.pures tU_ok 8 rfl ?_
        refine OJ.nil (EJ.next ?_)
        refine CJ.ret (?_)
        obtain rfl := Option.some.inj H
        exact EJ.fin rfl (.tmp rfl (.tmp rfl .nil)) ⟨rfl, hS.ext⟩

def spec_l00Max.f (a0 : Int) (a1 : Int) : Option Int := if a1 < a0 then (some a0) else (some a1)
theorem spec_l00Max.c (w : World) (a0 : Int) (a1 : Int) (r : Int) (H : spec_l00Max.f a0 a1 = some r) :
    CV Try.prog 39 [.int .i64 a0, .int .i64 a1].toArray w fun v w' => v = .int .i64 r ∧ Ext w w' := by
  have hS := (St.init w no)
  unfold spec_l00Max.f at H
  refine CV.body Try.func39 rfl Try.ntmps39 rfl ?_
  refine CJ.seq ?_
  refine CJ.region ?_
  refine OJ.pures tU_ok 1 rfl ?_
  refine OJ.nil (EJ.next ?_)
  refine CJ.seq ?_
  refine CJ.seq ?_
  refine CJ.region ?_
  refine OJ.pures tU_ok 3 rfl ?_
  refine OJ.nil (EJ.next ?_)
  refine CJ.cond rfl (fun hb => ?_) (fun hb => ?_)
  · replace H := pif_t (of_decide_eq_true hb) H
    refine CJ.seq ?_
    refine CJ.region ?_
    refine OJ.pures tU_ok 2 rfl ?_
    refine OJ.nil (EJ.next ?_)
    refine CJ.ret (EJ.skR (?_))
    obtain rfl := Option.some.inj H
    exact EJ.fin rfl (.tmp rfl .nil) ⟨rfl, hS.ext⟩
  · replace H := pif_f (of_decide_eq_false hb) H
    refine CJ.skip (EJ.next ?_)
    refine CJ.seq ?_
    refine CJ.region ?_
    refine OJ.pures tU_ok 2 rfl ?_
    refine OJ.nil (EJ.next ?_)
    refine CJ.ret (?_)
    obtain rfl := Option.some.inj H
    exact EJ.fin rfl (.tmp rfl .nil) ⟨rfl, hS.ext⟩

def spec_EnoughFor.l1 (a0 : List Meadow) (a2 : Int) : Nat → Int → Int → Option Int
  | 0, _, _ => none
  | k + 1, y4, y5 => if y5 < (a0.length : Int) then ((getI a0 y5).bind fun t6 => (getI a0 y5).bind fun t7 => (spec_l00Max.f 0 (IntKind.i64.wrap (a2 - 1))).bind fun t8 => spec_EnoughFor.l1 a0 a2 k (IntKind.i64.wrap (y4 + (IntKind.i64.wrap ((IntKind.i64.wrap t6.Grass) + (IntKind.i64.wrap ((IntKind.i64.wrap t7.Grows) * t8)))))) (IntKind.i64.wrap (y5 + 1))) else (some y4)
def spec_EnoughFor.f (k : Nat) (a0 : List Meadow) (a1 : Int) (a2 : Int) : Option (Bool × Int) := (spec_l07Days.f a2).bind fun t1 => (spec_l07Asked.f k a0 a1 t1).bind fun t2 => if t2 ≠ 0 then (some (false, t2)) else ((spec_EnoughFor.l1 a0 a2 k 0 0).bind fun y3 => some (decide ((IntKind.i64.wrap (a1 * a2)) ≤ y3), 0))
theorem spec_EnoughFor.c (k : Nat) (w : World) (Aa0 : Option Addr) (ca0 : Nat) (a0 : List Meadow) (hr0 : Rd cMeadow w Aa0 a0) (hc0 : a0.length ≤ ca0) (a1 : Int) (a2 : Int) (r : Bool × Int) (H : spec_EnoughFor.f k a0 a1 a2 = some r) :
    CV Try.prog 13 [.slice Aa0 a0.length ca0, .int .i64 a1, .int .i64 a2].toArray w fun v w' => v = .tuple #[.bool r.1, .int .i64 r.2] ∧ Ext w w' := by
  have hS := ((St.init w no).param cMeadow Aa0 ca0 a0 hr0 hc0)
  unfold spec_EnoughFor.f at H
  refine CV.body Try.func13 rfl Try.ntmps13 rfl ?_
  refine CJ.seq ?_
  refine CJ.region ?_
  refine OJ.pures tU_ok 2 rfl ?_
  refine OJ.nil (EJ.next ?_)
  refine CJ.seq ?_
  refine CJ.seq ?_
  refine CJ.region ?_
  refine OJ.pures tU_ok 3 rfl ?_
  obtain ⟨t1, ht1, H⟩ := pbind H
  refine OJ.callF rfl rfl rfl rfl rfl hb32 rfl (spec_l07Days.c _ a2 _ ht1) ?_
  rintro _ w1 ⟨rfl, hs⟩
  replace hS := hS.grow hs
  obtain ⟨t2, ht2, H⟩ := pbind H
  refine OJ.callF rfl rfl rfl rfl rfl hb31 rfl (spec_l07Asked.c k _ Aa0 ca0 a0 (hS.rd' (i := 0) rfl) (hS.le' (i := 0) rfl) a1 t1 _ ht2) ?_
  rintro _ w1 ⟨rfl, hs⟩
  replace hS := hS.grow hs
  refine OJ.pures tU_ok 1 rfl ?_
  refine OJ.nil (EJ.next ?_)
  refine CJ.seq ?_
  refine CJ.region ?_
  refine OJ.pures tU_ok 2 rfl ?_
  refine OJ.nil (EJ.next ?_)
  refine CJ.cond rfl (fun hb => ?_) (fun hb => ?_)
  · replace H := pif_t (of_decide_eq_true hb) H
    refine CJ.seq ?_
    refine CJ.region ?_
    refine OJ.pures tU_ok 3 rfl ?_
    refine OJ.nil (EJ.next ?_)
    refine CJ.ret (EJ.skR (?_))
    obtain rfl := Option.some.inj H
    exact EJ.fin rfl (.tmp rfl (.tmp rfl .nil)) ⟨rfl, hS.ext⟩
  · replace H := pif_f (of_decide_eq_false hb) H
    refine CJ.skip (EJ.next ?_)
    refine CJ.seq ?_
    refine CJ.region ?_
    refine OJ.pures tU_ok 1 rfl ?_
    refine OJ.nil (EJ.next ?_)
    refine CJ.seq ?_
    refine CJ.seq ?_
    refine CJ.region ?_
    refine OJ.pures tU_ok 1 rfl ?_
    refine OJ.nil (EJ.next ?_)
    obtain ⟨j29, H, K29⟩ := pbind H
    refine CJ.cut1 (fun F w1 => ∃ (y3 : Int) , (some y3 : Option Int) = some j29 ∧ F = [(1, .int .i64 a1), (2, .int .i64 a2), (9, .int .i64 y3)] ∧ St w no w1 [] [roC cMeadow Aa0 ca0 a0]) ?_ ?_
    · skip
      refine CJ.block ?_
      refine CJ.loop (fun k F w1 => ∃ (y4 : Int) (y5 : Int), F = [(0, .slice Aa0 a0.length ca0), (1, .int .i64 a1), (2, .int .i64 a2), (9, .int .i64 y4), (10, .int .i64 y5)] ∧ St w no w1 [] [roC cMeadow Aa0 ca0 a0] ∧ spec_EnoughFor.l1 a0 a2 k y4 y5 = some j29) k (F' := [(0, .slice Aa0 a0.length ca0), (1, .int .i64 a1), (2, .int .i64 a2), (9, .int .i64 0), (10, .int .i64 0)]) ⟨rfl, rfl, rfl, rfl, rfl, trivial⟩ ⟨0, 0, rfl, hS.pick [] [0] rfl, H⟩ ?_
      rintro k F w1 ⟨y4, y5, rfl, hS, H⟩
      cases k with
      | zero => rw [spec_EnoughFor.l1] at H; cases H
      | succ k =>
        rw [spec_EnoughFor.l1] at H
        refine CJ.seq ?_
        refine CJ.seq ?_
        refine CJ.region ?_
        refine OJ.pures tU_ok 4 rfl ?_
        refine OJ.nil (EJ.next ?_)
        refine CJ.cond rfl (fun hb => ?_) (fun hb => ?_)
        · replace H := pif_t (of_decide_eq_true hb) H
          refine CJ.skip (EJ.next ?_)
          refine CJ.seq ?_
          refine CJ.block ?_
          refine CJ.draw [] [0, 1, 2, 3, 4, 5, 6, 7, 8, 9, 10, 11, 12, 13, 14, 15, 16, 17, 18, 19] mixed (by kernel_rfl) hS fun w1 hS => ?_
          refine DJ.pures tU_ok 3 rfl ?_
          obtain ⟨t6, ht6, H⟩ := pbind H
          obtain ⟨ad6, e6⟩ := (hS.rd' (i := 0) rfl).some' ht6
          refine DJ.st rfl rfl rfl rfl rfl (SR.idxS tU_ok tI_ok rfl rfl rfl rfl e6 rfl (getI_some ht6).1) ?_
          refine DJ.st rfl rfl rfl rfl rfl (SR.fieldAddr tU_ok tI_ok rfl rfl rfl rfl rfl rfl) ?_
          refine DJ.st rfl rfl rfl rfl rfl (SR.load rfl rfl (fun w' hx => ld1 tU_ok rfl rfl (CA.ext (CA.sub ((hS.rd' (i := 0) rfl).at_ e6 ht6) 0) hx) rfl)) ?_
          refine DJ.pures tU_ok 3 rfl ?_
          obtain ⟨t7, ht7, H⟩ := pbind H
          obtain ⟨ad7, e7⟩ := (hS.rd' (i := 0) rfl).some' ht7
          refine DJ.st rfl rfl rfl rfl rfl (SR.idxS tU_ok tI_ok rfl rfl rfl rfl e7 rfl (getI_some ht7).1) ?_
          refine DJ.st rfl rfl rfl rfl rfl (SR.fieldAddr tU_ok tI_ok rfl rfl rfl rfl rfl rfl) ?_
          refine DJ.st rfl rfl rfl rfl rfl (SR.load rfl rfl (fun w' hx => ld1 tU_ok rfl rfl (CA.ext (CA.sub ((hS.rd' (i := 0) rfl).at_ e7 ht7) 1) hx) rfl)) ?_
          refine DJ.pures tU_ok 3 rfl ?_
          obtain ⟨t8, ht8, H⟩ := pbind H
          refine DJ.callF rfl rfl rfl rfl rfl rfl rfl hb39 rfl (spec_l00Max.c _ 0 (IntKind.i64.wrap (a2 - 1)) _ ht8) (by rintro v w' ⟨rfl, hs⟩; exact hs) ?_
          rintro _ w1 ⟨rfl, hs⟩
          replace hS := hS.grow hs
          refine DJ.pures tU_ok 4 rfl ?_
          refine DJ.nil (EJ.blk (EJ.next ?_))
          refine CJ.region ?_
          refine OJ.pures tU_ok 3 rfl ?_
          refine OJ.nil ?_
          exact EJ.round k (F' := [(0, .slice Aa0 a0.length ca0), (1, .int .i64 a1), (2, .int .i64 a2), (9, .int .i64 (IntKind.i64.wrap (y4 + (IntKind.i64.wrap ((IntKind.i64.wrap t6.Grass) + (IntKind.i64.wrap ((IntKind.i64.wrap t7.Grows) * t8))))))), (10, .int .i64 (IntKind.i64.wrap (y5 + 1)))]) ⟨rfl, rfl, rfl, rfl, rfl, trivial⟩ (Nat.lt_succ_self _) ⟨(IntKind.i64.wrap (y4 + (IntKind.i64.wrap ((IntKind.i64.wrap t6.Grass) + (IntKind.i64.wrap ((IntKind.i64.wrap t7.Grows) * t8)))))), (IntKind.i64.wrap (y5 + 1)), rfl, hS.pick [] [0] rfl, H⟩
        · replace H := pif_f (of_decide_eq_false hb) H
          refine CJ.exit (EJ.skE (EJ.skE (EJ.hit (?_))))
          exact EJ.meet (F' := [(1, .int .i64 a1), (2, .int .i64 a2), (9, .int .i64 y4)]) ⟨rfl, rfl, rfl, trivial⟩ ⟨y4, H, rfl, hS.pick [] [0] rfl⟩
    · rintro F w1 ⟨y3, he, rfl, hS⟩
      obtain rfl := Option.some.inj he
      have H := K29
      refine EJ.next ?_
      refine CJ.seq ?_
      refine CJ.region ?_
      refine OJ.pures tU_ok 7 rfl ?_
      refine OJ.nil (EJ.next ?_)
      refine CJ.ret (?_)
      obtain rfl := Option.some.inj H
      exact EJ.fin rfl (.tmp rfl (.tmp rfl .nil)) ⟨rfl, hS.ext⟩

def spec_l00Same.l1 (a0 : List Int) (a1 : List Int) : Nat → Int → Option (Bool ⊕ Unit)
  | 0, _ => none
  | k + 1, y1 => if y1 < (a0.length : Int) then ((getI a0 y1).bind fun t2 => (getI a1 y1).bind fun t3 => if t2 ≠ t3 then (some (Sum.inl false)) else (spec_l00Same.l1 a0 a1 k (IntKind.i64.wrap (y1 + 1)))) else (some (Sum.inr ()))
def spec_l00Same.f (k : Nat) (a0 : List Int) (a1 : List Int) : Option Bool := if (a0.length : Int) ≠ (a1.length : Int) then (some false) else ((spec_l00Same.l1 a0 a1 k 0).bind fun s31 => match s31 with | .inl r => some r | .inr _ => some true)
theorem spec_l00Same.c (k : Nat) (w : World) (Aa0 : Option Addr) (ca0 : Nat) (a0 : List Int) (hr0 : Rd (ci .i64) w Aa0 a0) (hc0 : a0.length ≤ ca0) (Aa1 : Option Addr) (ca1 : Nat) (a1 : List Int) (hr1 : Rd (ci .i64) w Aa1 a1) (hc1 : a1.length ≤ ca1) (r : Bool) (H : spec_l00Same.f k a0 a1 = some r) :
    CV Try.prog 40 [.slice Aa0 a0.length ca0, .slice Aa1 a1.length ca1].toArray w fun v w' => v = .bool r ∧ Ext w w' := by
  have hS := (((St.init w no).param (ci .i64) Aa0 ca0 a0 hr0 hc0).param (ci .i64) Aa1 ca1 a1 hr1 hc1)
  unfold spec_l00Same.f at H
  refine CV.body Try.func40 rfl Try.ntmps40 rfl ?_
  refine CJ.seq ?_
  refine CJ.region ?_
  refine OJ.pures tU_ok 1 rfl ?_
  refine OJ.nil (EJ.next ?_)
  refine CJ.seq ?_
  refine CJ.seq ?_
  refine CJ.region ?_
  refine OJ.pures tU_ok 5 rfl ?_
  refine OJ.nil (EJ.next ?_)
  refine CJ.cond rfl (fun hb => ?_) (fun hb => ?_)
  · replace H := pif_t (of_decide_eq_true hb) H
    refine CJ.seq ?_
    refine CJ.region ?_
    refine OJ.pures tU_ok 1 rfl ?_
    refine OJ.nil (EJ.next ?_)
    refine CJ.ret (EJ.skR (?_))
    obtain rfl := Option.some.inj H
    exact EJ.fin rfl (.tmp rfl .nil) ⟨rfl, hS.ext⟩
  · replace H := pif_f (of_decide_eq_false hb) H
    refine CJ.skip (EJ.next ?_)
    refine CJ.seq ?_
    refine CJ.seq ?_
    refine CJ.region ?_
    refine OJ.pures tU_ok 1 rfl ?_
    refine OJ.nil (EJ.next ?_)
    obtain ⟨j31, H, K31⟩ := pbind H
    refine CJ.cut1 (fun F w1 => (some (Sum.inr ()) : Option (Bool ⊕ Unit)) = some j31 ∧ F = [] ∧ St w no w1 [] [roC (ci .i64) Aa0 ca0 a0, roC (ci .i64) Aa1 ca1 a1]) ?_ ?_
    · skip
      refine CJ.block ?_
      refine CJ.loop (fun k F w1 => ∃ (y1 : Int), F = [(0, .slice Aa0 a0.length ca0), (1, .slice Aa1 a1.length ca1), (5, .int .i64 y1)] ∧ St w no w1 [] [roC (ci .i64) Aa0 ca0 a0, roC (ci .i64) Aa1 ca1 a1] ∧ spec_l00Same.l1 a0 a1 k y1 = some j31) k (F' := [(0, .slice Aa0 a0.length ca0), (1, .slice Aa1 a1.length ca1), (5, .int .i64 0)]) ⟨rfl, rfl, rfl, trivial⟩ ⟨0, rfl, hS.pick [] [0, 1] rfl, H⟩ ?_
      rintro k F w1 ⟨y1, rfl, hS, H⟩
      cases k with
      | zero => rw [spec_l00Same.l1] at H; cases H
      | succ k =>
        rw [spec_l00Same.l1] at H
        refine CJ.seq ?_
        refine CJ.seq ?_
        refine CJ.region ?_
        refine OJ.pures tU_ok 4 rfl ?_
        refine OJ.nil (EJ.next ?_)
        refine CJ.cond rfl (fun hb => ?_) (fun hb => ?_)
        · replace H := pif_t (of_decide_eq_true hb) H
          refine CJ.skip (EJ.next ?_)
          refine CJ.seq ?_
          refine CJ.block ?_
          refine CJ.seq ?_
          refine CJ.draw [] [0, 1, 2, 3, 4, 5, 6, 7, 8] mixed (by kernel_rfl) hS fun w1 hS => ?_
          refine DJ.pures tU_ok 2 rfl ?_
          obtain ⟨t2, ht2, H⟩ := pbind H
          obtain ⟨ad2, e2⟩ := (hS.rd' (i := 0) rfl).some' ht2
          refine DJ.st rfl rfl rfl rfl rfl (SR.idxS tU_ok tI_ok rfl rfl rfl rfl e2 rfl (getI_some ht2).1) ?_
          refine DJ.st rfl rfl rfl rfl rfl (SR.load rfl rfl (fun w' hx => ld1 tU_ok rfl rfl (CA.ext ((hS.rd' (i := 0) rfl).at_ e2 ht2) hx) rfl)) ?_
          refine DJ.pures tU_ok 2 rfl ?_
          obtain ⟨t3, ht3, H⟩ := pbind H
          obtain ⟨ad3, e3⟩ := (hS.rd' (i := 1) rfl).some' ht3
          refine DJ.st rfl rfl rfl rfl rfl (SR.idxS tU_ok tI_ok rfl rfl rfl rfl e3 rfl (getI_some ht3).1) ?_
          refine DJ.st rfl rfl rfl rfl rfl (SR.load rfl rfl (fun w' hx => ld1 tU_ok rfl rfl (CA.ext ((hS.rd' (i := 1) rfl).at_ e3 ht3) hx) rfl)) ?_
          refine DJ.pures tU_ok 1 rfl ?_
          refine DJ.nil (EJ.next ?_)
          refine CJ.cond rfl (fun hb => ?_) (fun hb => ?_)
          · replace H := pif_t (of_decide_eq_true hb) H
            refine CJ.seq ?_
            refine CJ.region ?_
            refine OJ.pures tU_ok 1 rfl ?_
            refine OJ.nil (EJ.next ?_)
            refine CJ.ret (EJ.bkR (EJ.skR (EJ.skR (EJ.bkR (EJ.skR (EJ.skR (?_)))))))
            first | (obtain rfl := Option.some.inj H; have H := K31) | (obtain ⟨q31, H2, e31⟩ := pbind H; obtain rfl := Option.some.inj e31; obtain rfl := Option.some.inj K31; have H := H2)
            obtain rfl := Option.some.inj H
            exact EJ.fin rfl (.tmp rfl .nil) ⟨rfl, hS.ext⟩
          · replace H := pif_f (of_decide_eq_false hb) H
            refine CJ.skip (EJ.blk (EJ.next ?_))
            refine CJ.region ?_
            refine OJ.pures tU_ok 3 rfl ?_
            refine OJ.nil ?_
            exact EJ.round k (F' := [(0, .slice Aa0 a0.length ca0), (1, .slice Aa1 a1.length ca1), (5, .int .i64 (IntKind.i64.wrap (y1 + 1)))]) ⟨rfl, rfl, rfl, trivial⟩ (Nat.lt_succ_self _) ⟨(IntKind.i64.wrap (y1 + 1)), rfl, hS.pick [] [0, 1] rfl, H⟩
        · replace H := pif_f (of_decide_eq_false hb) H
          refine CJ.exit (EJ.skE (EJ.skE (EJ.hit (?_))))
          exact EJ.meet (F' := []) trivial ⟨H, rfl, hS.pick [] [0, 1] rfl⟩
    · rintro F w1 ⟨he, rfl, hS⟩
      obtain rfl := Option.some.inj he
      have H := K31
      refine EJ.next ?_
      refine CJ.seq ?_
      refine CJ.region ?_
      refine OJ.pures tU_ok 1 rfl ?_
      refine OJ.nil (EJ.next ?_)
      refine CJ.ret (?_)
      obtain rfl := Option.some.inj H
      exact EJ.fin rfl (.tmp rfl .nil) ⟨rfl, hS.ext⟩

def spec_SameNumbers.f (k : Nat) (a0 : List Int) (a1 : List Int) : Option Bool := (spec_l00Same.f k a0 a1).bind fun t1 => some t1
theorem spec_SameNumbers.c (k : Nat) (w : World) (Aa0 : Option Addr) (ca0 : Nat) (a0 : List Int) (hr0 : Rd (ci .i64) w Aa0 a0) (hc0 : a0.length ≤ ca0) (Aa1 : Option Addr) (ca1 : Nat) (a1 : List Int) (hr1 : Rd (ci .i64) w Aa1 a1) (hc1 : a1.length ≤ ca1) (r : Bool) (H : spec_SameNumbers.f k a0 a1 = some r) :
    CV Try.prog 14 [.slice Aa0 a0.length ca0, .slice Aa1 a1.length ca1].toArray w fun v w' => v = .bool r ∧ Ext w w' := by
  have hS := (((St.init w no).param (ci .i64) Aa0 ca0 a0 hr0 hc0).param (ci .i64) Aa1 ca1 a1 hr1 hc1)
  unfold spec_SameNumbers.f at H
  refine CV.body Try.func14 rfl Try.ntmps14 rfl ?_
  refine CJ.seq ?_
  refine CJ.region ?_
  refine OJ.pures tU_ok 1 rfl ?_
  refine OJ.nil (EJ.next ?_)
  refine CJ.seq ?_
  refine CJ.region ?_
  refine OJ.pures tU_ok 2 rfl ?_
  obtain ⟨t1, ht1, H⟩ := pbind H
  refine OJ.callF rfl rfl rfl rfl rfl hb40 rfl (spec_l00Same.c k _ Aa0 ca0 a0 (hS.rd' (i := 0) rfl) (hS.le' (i := 0) rfl) Aa1 ca1 a1 (hS.rd' (i := 1) rfl) (hS.le' (i := 1) rfl) _ ht1) ?_
  rintro _ w1 ⟨rfl, hs⟩
  replace hS := hS.grow hs
  refine OJ.pures tU_ok 1 rfl ?_
  refine OJ.nil (EJ.next ?_)
  refine CJ.ret (?_)
  obtain rfl := Option.some.inj H
  exact EJ.fin rfl (.tmp rfl .nil) ⟨rfl, hS.ext⟩

def impl_planCode.f (k : Nat) (a0 : List Meadow) (a1 : Int) (a2 : List Int) : Option Int := (impl_meadowCode.f k a0 a1 a2).bind fun t1 => (impl_unless.f (decide ((a2.length : Int) ≤ 30)) 2).bind fun t2 => (impl_firstOf.f k ([t1, t2] : List Int)).bind fun t4 => some t4
theorem impl_planCode.c (k : Nat) (w : World) (Aa0 : Option Addr) (ca0 : Nat) (a0 : List Meadow) (hr0 : Rd cMeadow w Aa0 a0) (hc0 : a0.length ≤ ca0) (a1 : Int) (Aa2 : Option Addr) (ca2 : Nat) (a2 : List Int) (hr2 : Rd (ci .i64) w Aa2 a2) (hc2 : a2.length ≤ ca2) (r : Int) (H : impl_planCode.f k a0 a1 a2 = some r) :
    CV Try.prog 45 [.slice Aa0 a0.length ca0, .int .i64 a1, .slice Aa2 a2.length ca2].toArray w fun v w' => v = .int .i64 r ∧ Ext w w' := by
  have hS := (((St.init w no).param cMeadow Aa0 ca0 a0 hr0 hc0).param (ci .i64) Aa2 ca2 a2 hr2 hc2)
  unfold impl_planCode.f at H
  refine CV.body Try.func45 rfl Try.ntmps45 rfl ?_
  refine CJ.seq ?_
  refine CJ.region ?_
  refine OJ.pures tU_ok 1 rfl ?_
  refine OJ.nil (EJ.next ?_)
  refine CJ.seq ?_
  refine CJ.region ?_
  refine OJ.pures tU_ok 3 rfl ?_
  obtain ⟨t1, ht1, H⟩ := pbind H
  refine OJ.callF rfl rfl rfl rfl rfl hb38 rfl (impl_meadowCode.c k _ Aa0 ca0 a0 (hS.rd' (i := 0) rfl) (hS.le' (i := 0) rfl) a1 Aa2 ca2 a2 (hS.rd' (i := 1) rfl) (hS.le' (i := 1) rfl) _ ht1) ?_
  rintro _ w1 ⟨rfl, hs⟩
  replace hS := hS.grow hs
  refine OJ.pures tU_ok 3 rfl ?_
  obtain ⟨t2, ht2, H⟩ := pbind H
  refine OJ.callF rfl rfl rfl rfl rfl hb54 rfl (impl_unless.c _ (decide ((a2.length : Int) ≤ 30)) 2 _ ht2) ?_
  rintro _ w1 ⟨rfl, hs⟩
  replace hS := hS.grow hs
  refine OJ.ef rfl rfl rfl (Ef.lit tU_ok tI_ok hS (C := (ci .i64)) rfl rfl rfl rfl rfl rfl ([t1, t2] : List Int) rfl rfl rfl rfl) ?_
  rintro _ w1 ⟨A3, rfl, hS⟩
  obtain ⟨t4, ht4, H⟩ := pbind H
  refine OJ.callF rfl rfl rfl rfl rfl hb53 rfl (impl_firstOf.c k _ A3 (([t1, t2] : List Int).length) ([t1, t2] : List Int) (hS.rd (i := 0) rfl) (hS.le (i := 0) rfl) _ ht4) ?_
  rintro _ w1 ⟨rfl, hs⟩
  replace hS := hS.grow hs
  refine OJ.pures tU_ok 1 rfl ?_
  refine OJ.nil (EJ.next ?_)
  refine CJ.ret (?_)
  obtain rfl := Option.some.inj H
  exact EJ.fin rfl (.tmp rfl .nil) ⟨rfl, hS.ext⟩

def impl_follow.l1 (a1 : Int) (a2 : List Int) : Nat → (List Meadow) → Int → Option ((Int × List Meadow) ⊕ (List Meadow))
  | 0, _, _ => none
  | k + 1, y4, y7 => if y7 < (a2.length : Int) then ((getI a2 y7).bind fun t8 => (impl_behind.f k y4 a1 t8).bind fun t9 => if (!t9.2) = true then (some (Sum.inl (y7, y4))) else (impl_follow.l1 a1 a2 k t9.1 (IntKind.i64.wrap (y7 + 1)))) else (some (Sum.inr y4))
def impl_follow.f (k : Nat) (a0 : List Meadow) (a1 : Int) (a2 : List Int) : Option (Int × List Meadow) := (impl_follow.l1 a1 a2 k a0 0).bind fun s34 => match s34 with | .inl r => some r | .inr y1 => some ((a2.length : Int), y1)
theorem impl_follow.c (k : Nat) (w : World) (Aa0 : Option Addr) (ca0 : Nat) (a0 : List Meadow) (hr0 : Rd cMeadow w Aa0 a0) (hc0 : a0.length ≤ ca0) (a1 : Int) (Aa2 : Option Addr) (ca2 : Nat) (a2 : List Int) (hr2 : Rd (ci .i64) w Aa2 a2) (hc2 : a2.length ≤ ca2) (r : Int × List Meadow) (H : impl_follow.f k a0 a1 a2 = some r) :
    CV Try.prog 46 [.slice Aa0 a0.length ca0, .int .i64 a1, .slice Aa2 a2.length ca2].toArray w fun v w' => ∃ (A1 : Option Addr) (c1 : Nat), v = .tuple #[.int .i64 r.1, .slice A1 r.2.length c1] ∧ Ext w w' ∧ (roO (fun b => w.heap.size ≤ b ∨ (roC cMeadow Aa0 ca0 a0).fp b ∨ (roC (ci .i64) Aa2 ca2 a2).fp b ∨ False) cMeadow A1 c1 r.2).holds w' := by
  have hS := (((St.init w no).paramO (O := (fun b => w.heap.size ≤ b ∨ (roC cMeadow Aa0 ca0 a0).fp b ∨ (roC (ci .i64) Aa2 ca2 a2).fp b ∨ False)) cMeadow Aa0 ca0 a0 hr0 hc0 (fun b hb => .inr (.inl hb))).paramO (O := (fun b => w.heap.size ≤ b ∨ (roC cMeadow Aa0 ca0 a0).fp b ∨ (roC (ci .i64) Aa2 ca2 a2).fp b ∨ False)) (ci .i64) Aa2 ca2 a2 hr2 hc2 (fun b hb => .inr (.inr (.inl hb))))
  unfold impl_follow.f at H
  refine CV.body Try.func46 rfl Try.ntmps46 rfl ?_
  refine CJ.seq ?_
  refine CJ.region ?_
  refine OJ.pures tU_ok 2 rfl ?_
  refine OJ.nil (EJ.next ?_)
  refine CJ.seq ?_
  refine CJ.seq ?_
  refine CJ.region ?_
  refine OJ.pures tU_ok 3 rfl ?_
  refine OJ.nil (EJ.next ?_)
  obtain ⟨j34, H, K34⟩ := pbind H
  refine CJ.cut1 (fun F w1 => ∃ (y1 : List Meadow) (A2 : Option Addr) (c3 : Nat), (some (Sum.inr y1) : Option ((Int × List Meadow) ⊕ (List Meadow))) = some j34 ∧ F = [(0, .slice A2 y1.length c3), (2, .slice Aa2 a2.length ca2)] ∧ St w no w1 [] [roO (fun b => w.heap.size ≤ b ∨ (roC cMeadow Aa0 ca0 a0).fp b ∨ (roC (ci .i64) Aa2 ca2 a2).fp b ∨ False) cMeadow Aa0 ca0 a0, roO (fun b => w.heap.size ≤ b ∨ (roC cMeadow Aa0 ca0 a0).fp b ∨ (roC (ci .i64) Aa2 ca2 a2).fp b ∨ False) (ci .i64) Aa2 ca2 a2, roO (fun b => w.heap.size ≤ b ∨ (roC cMeadow Aa0 ca0 a0).fp b ∨ (roC (ci .i64) Aa2 ca2 a2).fp b ∨ False) cMeadow A2 c3 y1]) ?_ ?_
  · skip
    refine CJ.block ?_
    refine CJ.loop (fun k F w1 => ∃ (y4 : List Meadow) (y7 : Int) (A5 : Option Addr) (c6 : Nat), F = [(0, .slice A5 y4.length c6), (1, .int .i64 a1), (2, .slice Aa2 a2.length ca2), (12, .slice Aa2 a2.length ca2), (13, .int .i64 (a2.length : Int)), (14, .int .i64 y7)] ∧ St w no w1 [] [roO (fun b => w.heap.size ≤ b ∨ (roC cMeadow Aa0 ca0 a0).fp b ∨ (roC (ci .i64) Aa2 ca2 a2).fp b ∨ False) cMeadow Aa0 ca0 a0, roO (fun b => w.heap.size ≤ b ∨ (roC cMeadow Aa0 ca0 a0).fp b ∨ (roC (ci .i64) Aa2 ca2 a2).fp b ∨ False) (ci .i64) Aa2 ca2 a2, roO (fun b => w.heap.size ≤ b ∨ (roC cMeadow Aa0 ca0 a0).fp b ∨ (roC (ci .i64) Aa2 ca2 a2).fp b ∨ False) cMeadow A5 c6 y4] ∧ impl_follow.l1 a1 a2 k y4 y7 = some j34) k (F' := [(0, .slice Aa0 a0.length ca0), (1, .int .i64 a1), (2, .slice Aa2 a2.length ca2), (12, .slice Aa2 a2.length ca2), (13, .int .i64 (a2.length : Int)), (14, .int .i64 0)]) ⟨rfl, rfl, rfl, rfl, rfl, rfl, trivial⟩ ⟨a0, 0, Aa0, ca0, rfl, hS.pick [] [0, 1, 0] rfl, H⟩ ?_
    rintro k F w1 ⟨y4, y7, A5, c6, rfl, hS, H⟩
    cases k with
    | zero => rw [impl_follow.l1] at H; cases H
    | succ k =>
      rw [impl_follow.l1] at H
      refine CJ.seq ?_
      refine CJ.region ?_
      refine OJ.pures tU_ok 1 rfl ?_
      refine OJ.nil (EJ.next ?_)
      refine CJ.seq ?_
      refine CJ.cond rfl (fun hb => ?_) (fun hb => ?_)
      · replace H := pif_t (of_decide_eq_true hb) H
        refine CJ.skip (EJ.next ?_)
        refine CJ.seq ?_
        refine CJ.block ?_
        refine CJ.seq ?_
        refine CJ.region ?_
        refine OJ.pures tU_ok 1 rfl ?_
        obtain ⟨t8, ht8, H⟩ := pbind H
        obtain ⟨ad8, e8⟩ := (hS.rdO (i := 1) rfl).some' ht8
        refine OJ.st rfl rfl rfl (SR.idxS tU_ok tI_ok rfl rfl rfl rfl e8 rfl (getI_some ht8).1) ?_
        refine OJ.st rfl rfl rfl (SR.load rfl rfl (fun w' hx => ld1 tU_ok rfl rfl (CA.ext ((hS.rdO (i := 1) rfl).at_ e8 ht8) hx) rfl)) ?_
        refine OJ.pures tU_ok 2 rfl ?_
        refine OJ.nil (EJ.next ?_)
        refine CJ.seq ?_
        refine CJ.region ?_
        refine OJ.pures tU_ok 3 rfl ?_
        obtain ⟨t9, ht9, H⟩ := pbind H
        refine OJ.callF rfl rfl rfl rfl rfl hb47 rfl (impl_behind.c k _ A5 c6 y4 (hS.rdO (i := 2) rfl) (hS.leO (i := 2) rfl) a1 t8 _ ht9) ?_
        rintro _ w1 ⟨A10, c11, rfl, hs⟩
        replace hS := hS.addN hs
        refine OJ.pures tU_ok 5 rfl ?_
        refine OJ.nil (EJ.next ?_)
        refine CJ.seq ?_
        refine CJ.seq ?_
        refine CJ.region ?_
        refine OJ.pures tU_ok 2 rfl ?_
        refine OJ.nil (EJ.next ?_)
        refine CJ.cond rfl (fun hb => ?_) (fun hb => ?_)
        · replace H := pif_t hb H
          refine CJ.seq ?_
          refine CJ.region ?_
          refine OJ.pures tU_ok 4 rfl ?_
          refine OJ.nil (EJ.next ?_)
          refine CJ.ret (EJ.skR (EJ.bkR (EJ.skR (EJ.skR (EJ.bkR (EJ.skR (EJ.skR (?_))))))))
          first | (obtain rfl := Option.some.inj H; have H := K34) | (obtain ⟨q34, H2, e34⟩ := pbind H; obtain rfl := Option.some.inj e34; obtain rfl := Option.some.inj K34; have H := H2)
          obtain rfl := Option.some.inj H
          exact EJ.fin rfl (.tmp rfl (.tmp rfl .nil)) ⟨A5, c6, rfl, hS.ext, hS.holdsO (i := 2) rfl⟩
        · replace H := pifb_f hb H
          refine CJ.skip (EJ.next ?_)
          refine CJ.region ?_
          refine OJ.pures tU_ok 2 rfl ?_
          refine OJ.nil (EJ.blk (EJ.next ?_))
          refine CJ.region ?_
          refine OJ.pures tU_ok 2 rfl ?_
          refine OJ.nil ?_
          replace hS := hS.freezeO (O := (fun b => w.heap.size ≤ b ∨ (roC cMeadow Aa0 ca0 a0).fp b ∨ (roC (ci .i64) Aa2 ca2 a2).fp b ∨ False)) (fun b hb => .inl hb) (i := 0) rfl
          exact EJ.round k (F' := [(0, .slice A10 t9.1.length c11), (1, .int .i64 a1), (2, .slice Aa2 a2.length ca2), (12, .slice Aa2 a2.length ca2), (13, .int .i64 (a2.length : Int)), (14, .int .i64 (IntKind.i64.wrap (y7 + 1)))]) ⟨rfl, rfl, rfl, rfl, rfl, rfl, trivial⟩ (Nat.lt_succ_self _) ⟨t9.1, (IntKind.i64.wrap (y7 + 1)), A10, c11, rfl, hS.pick [] [0, 1, 3] rfl, H⟩
      · replace H := pif_f (of_decide_eq_false hb) H
        refine CJ.exit (EJ.skE (EJ.skE (EJ.hit (?_))))
        exact EJ.meet (F' := [(0, .slice A5 y4.length c6), (2, .slice Aa2 a2.length ca2)]) ⟨rfl, rfl, trivial⟩ ⟨y4, A5, c6, H, rfl, hS.pick [] [0, 1, 2] rfl⟩
  · rintro F w1 ⟨y1, A2, c3, he, rfl, hS⟩
    obtain rfl := Option.some.inj he
    have H := K34
    refine EJ.next ?_
    refine CJ.seq ?_
    refine CJ.region ?_
    refine OJ.pures tU_ok 5 rfl ?_
    refine OJ.nil (EJ.next ?_)
    refine CJ.ret (?_)
    obtain rfl := Option.some.inj H
    exact EJ.fin rfl (.tmp rfl (.tmp rfl .nil)) ⟨A2, c3, rfl, hS.ext, hS.holdsO (i := 2) rfl⟩

def impl_CheckPlan.f (k : Nat) (a0 : List Meadow) (a1 : Int) (a2 : List Int) : Option (Bool × Int) := (impl_planCode.f k a0 a1 a2).bind fun t1 => if t1 ≠ 0 then (some (false, t1)) else ((impl_follow.f k a0 a1 a2).bind fun t2 => some (decide (t2.1 = (a2.length : Int)), 0))
theorem impl_CheckPlan.c (k : Nat) (w : World) (Aa0 : Option Addr) (ca0 : Nat) (a0 : List Meadow) (hr0 : Rd cMeadow w Aa0 a0) (hc0 : a0.length ≤ ca0) (a1 : Int) (Aa2 : Option Addr) (ca2 : Nat) (a2 : List Int) (hr2 : Rd (ci .i64) w Aa2 a2) (hc2 : a2.length ≤ ca2) (r : Bool × Int) (H : impl_CheckPlan.f k a0 a1 a2 = some r) :
    CV Try.prog 16 [.slice Aa0 a0.length ca0, .int .i64 a1, .slice Aa2 a2.length ca2].toArray w fun v w' => v = .tuple #[.bool r.1, .int .i64 r.2] ∧ Ext w w' := by
  have hS := (((St.init w no).param cMeadow Aa0 ca0 a0 hr0 hc0).param (ci .i64) Aa2 ca2 a2 hr2 hc2)
  unfold impl_CheckPlan.f at H
  refine CV.body Try.func16 rfl Try.ntmps16 rfl ?_
  refine CJ.seq ?_
  refine CJ.region ?_
  refine OJ.pures tU_ok 2 rfl ?_
  refine OJ.nil (EJ.next ?_)
  refine CJ.seq ?_
  refine CJ.seq ?_
  refine CJ.region ?_
  refine OJ.pures tU_ok 3 rfl ?_
  obtain ⟨t1, ht1, H⟩ := pbind H
  refine OJ.callF rfl rfl rfl rfl rfl hb45 rfl (impl_planCode.c k _ Aa0 ca0 a0 (hS.rd' (i := 0) rfl) (hS.le' (i := 0) rfl) a1 Aa2 ca2 a2 (hS.rd' (i := 1) rfl) (hS.le' (i := 1) rfl) _ ht1) ?_
  rintro _ w1 ⟨rfl, hs⟩
  replace hS := hS.grow hs
  refine OJ.pures tU_ok 1 rfl ?_
  refine OJ.nil (EJ.next ?_)
  refine CJ.seq ?_
  refine CJ.region ?_
  refine OJ.pures tU_ok 2 rfl ?_
  refine OJ.nil (EJ.next ?_)
  refine CJ.cond rfl (fun hb => ?_) (fun hb => ?_)
  · replace H := pif_t (of_decide_eq_true hb) H
    refine CJ.seq ?_
    refine CJ.region ?_
    refine OJ.pures tU_ok 3 rfl ?_
    refine OJ.nil (EJ.next ?_)
    refine CJ.ret (EJ.skR (?_))
    obtain rfl := Option.some.inj H
    exact EJ.fin rfl (.tmp rfl (.tmp rfl .nil)) ⟨rfl, hS.ext⟩
  · replace H := pif_f (of_decide_eq_false hb) H
    refine CJ.skip (EJ.next ?_)
    refine CJ.seq ?_
    refine CJ.region ?_
    refine OJ.pures tU_ok 3 rfl ?_
    obtain ⟨t2, ht2, H⟩ := pbind H
    refine OJ.callF rfl rfl rfl rfl rfl hb46 rfl (impl_follow.c k _ Aa0 ca0 a0 (hS.rd' (i := 0) rfl) (hS.le' (i := 0) rfl) a1 Aa2 ca2 a2 (hS.rd' (i := 1) rfl) (hS.le' (i := 1) rfl) _ ht2) ?_
    rintro _ w1 ⟨A3, c4, rfl, hx, hr0⟩
    replace hS := hS.addRos hx [roC cMeadow A3 c4 t2.2] (by intro c hc; simp only [List.mem_cons, List.not_mem_nil, or_false] at hc; rcases hc with rfl; exact ⟨hr0.1, fun b hb => (by have hb := hr0.2 b hb; rcases hb with hb | hb | hb | hb; exact .inl hb; exact .inr ⟨_, List.mem_of_getElem? (i := 0) rfl, hb⟩; exact .inr ⟨_, List.mem_of_getElem? (i := 1) rfl, hb⟩; exact hb.elim)⟩)
    refine OJ.pures tU_ok 5 rfl ?_
    refine OJ.nil (EJ.next ?_)
    refine CJ.seq ?_
    refine CJ.region ?_
    refine OJ.pures tU_ok 6 rfl ?_
    refine OJ.nil (EJ.next ?_)
    refine CJ.ret (?_)
    obtain rfl := Option.some.inj H
    exact EJ.fin rfl (.tmp rfl (.tmp rfl .nil)) ⟨rfl, hS.ext⟩

def impl_FirstHungry.f (k : Nat) (a0 : List Meadow) (a1 : Int) (a2 : List Int) : Option (Int × Int) := (impl_planCode.f k a0 a1 a2).bind fun t1 => if t1 ≠ 0 then (some (0, t1)) else ((impl_follow.f k a0 a1 a2).bind fun t2 => if t2.1 = (a2.length : Int) then (some (0, 6)) else (some (t2.1, 0)))
theorem impl_FirstHungry.c (k : Nat) (w : World) (Aa0 : Option Addr) (ca0 : Nat) (a0 : List Meadow) (hr0 : Rd cMeadow w Aa0 a0) (hc0 : a0.length ≤ ca0) (a1 : Int) (Aa2 : Option Addr) (ca2 : Nat) (a2 : List Int) (hr2 : Rd (ci .i64) w Aa2 a2) (hc2 : a2.length ≤ ca2) (r : Int × Int) (H : impl_FirstHungry.f k a0 a1 a2 = some r) :
    CV Try.prog 17 [.slice Aa0 a0.length ca0, .int .i64 a1, .slice Aa2 a2.length ca2].toArray w fun v w' => v = .tuple #[.int .i64 r.1, .int .i64 r.2] ∧ Ext w w' := by
  have hS := (((St.init w no).param cMeadow Aa0 ca0 a0 hr0 hc0).param (ci .i64) Aa2 ca2 a2 hr2 hc2)
  unfold impl_FirstHungry.f at H
  refine CV.body Try.func17 rfl Try.ntmps17 rfl ?_
  refine CJ.seq ?_
  refine CJ.region ?_
  refine OJ.pures tU_ok 2 rfl ?_
  refine OJ.nil (EJ.next ?_)
  refine CJ.seq ?_
  refine CJ.seq ?_
  refine CJ.region ?_
  refine OJ.pures tU_ok 3 rfl ?_
  obtain ⟨t1, ht1, H⟩ := pbind H
  refine OJ.callF rfl rfl rfl rfl rfl hb45 rfl (impl_planCode.c k _ Aa0 ca0 a0 (hS.rd' (i := 0) rfl) (hS.le' (i := 0) rfl) a1 Aa2 ca2 a2 (hS.rd' (i := 1) rfl) (hS.le' (i := 1) rfl) _ ht1) ?_
  rintro _ w1 ⟨rfl, hs⟩
  replace hS := hS.grow hs
  refine OJ.pures tU_ok 1 rfl ?_
  refine OJ.nil (EJ.next ?_)
  refine CJ.seq ?_
  refine CJ.region ?_
  refine OJ.pures tU_ok 2 rfl ?_
  refine OJ.nil (EJ.next ?_)
  refine CJ.cond rfl (fun hb => ?_) (fun hb => ?_)
  · replace H := pif_t (of_decide_eq_true hb) H
    refine CJ.seq ?_
    refine CJ.region ?_
    refine OJ.pures tU_ok 3 rfl ?_
    refine OJ.nil (EJ.next ?_)
    refine CJ.ret (EJ.skR (?_))
    obtain rfl := Option.some.inj H
    exact EJ.fin rfl (.tmp rfl (.tmp rfl .nil)) ⟨rfl, hS.ext⟩
  · replace H := pif_f (of_decide_eq_false hb) H
    refine CJ.skip (EJ.next ?_)
    refine CJ.seq ?_
    refine CJ.region ?_
    refine OJ.pures tU_ok 3 rfl ?_
    obtain ⟨t2, ht2, H⟩ := pbind H
    refine OJ.callF rfl rfl rfl rfl rfl hb46 rfl (impl_follow.c k _ Aa0 ca0 a0 (hS.rd' (i := 0) rfl) (hS.le' (i := 0) rfl) a1 Aa2 ca2 a2 (hS.rd' (i := 1) rfl) (hS.le' (i := 1) rfl) _ ht2) ?_
    rintro _ w1 ⟨A3, c4, rfl, hx, hr0⟩
    replace hS := hS.addRos hx [roC cMeadow A3 c4 t2.2] (by intro c hc; simp only [List.mem_cons, List.not_mem_nil, or_false] at hc; rcases hc with rfl; exact ⟨hr0.1, fun b hb => (by have hb := hr0.2 b hb; rcases hb with hb | hb | hb | hb; exact .inl hb; exact .inr ⟨_, List.mem_of_getElem? (i := 0) rfl, hb⟩; exact .inr ⟨_, List.mem_of_getElem? (i := 1) rfl, hb⟩; exact hb.elim)⟩)
    refine OJ.pures tU_ok 5 rfl ?_
    refine OJ.nil (EJ.next ?_)
    refine CJ.seq ?_
    refine CJ.seq ?_
    refine CJ.region ?_
    refine OJ.pures tU_ok 4 rfl ?_
    refine OJ.nil (EJ.next ?_)
    refine CJ.cond rfl (fun hb => ?_) (fun hb => ?_)
    · replace H := pif_t (of_decide_eq_true hb) H
      refine CJ.seq ?_
      refine CJ.region ?_
      refine OJ.pures tU_ok 2 rfl ?_
      refine OJ.nil (EJ.next ?_)
      refine CJ.ret (EJ.skR (?_))
      obtain rfl := Option.some.inj H
      exact EJ.fin rfl (.tmp rfl (.tmp rfl .nil)) ⟨rfl, hS.ext⟩
    · replace H := pif_f (of_decide_eq_false hb) H
      refine CJ.skip (EJ.next ?_)
      refine CJ.seq ?_
      refine CJ.region ?_
      refine OJ.pures tU_ok 3 rfl ?_
      refine OJ.nil (EJ.next ?_)
      refine CJ.ret (?_)
      obtain rfl := Option.some.inj H
      exact EJ.fin rfl (.tmp rfl (.tmp rfl .nil)) ⟨rfl, hS.ext⟩

def impl_DayBehind.f (k : Nat) (a0 : List Meadow) (a1 : Int) (a2 : Int) : Option (List Meadow × Int) := (impl_meadowCode.f k a0 a1 ([a2] : List Int)).bind fun t2 => if t2 ≠ 0 then (some ([], t2)) else ((impl_behind.f k a0 a1 a2).bind fun t3 => if (!t3.2) = true then (some ([], 4)) else (some (t3.1, 0)))
theorem impl_DayBehind.c (k : Nat) (w : World) (Aa0 : Option Addr) (ca0 : Nat) (a0 : List Meadow) (hr0 : Rd cMeadow w Aa0 a0) (hc0 : a0.length ≤ ca0) (a1 : Int) (a2 : Int) (r : List Meadow × Int) (H : impl_DayBehind.f k a0 a1 a2 = some r) :
    CV Try.prog 18 [.slice Aa0 a0.length ca0, .int .i64 a1, .int .i64 a2].toArray w fun v w' => ∃ (A0 : Option Addr) (c0 : Nat), v = .tuple #[.slice A0 r.1.length c0, .int .i64 r.2] ∧ St w no w' [rowC cMeadow A0 c0 47 r.1] [] := by
  have hS := ((St.init w no).param cMeadow Aa0 ca0 a0 hr0 hc0)
  unfold impl_DayBehind.f at H
  refine CV.body Try.func18 rfl Try.ntmps18 rfl ?_
  refine CJ.seq ?_
  refine CJ.region ?_
  refine OJ.pures tU_ok 2 rfl ?_
  refine OJ.nil (EJ.next ?_)
  refine CJ.seq ?_
  refine CJ.seq ?_
  refine CJ.region ?_
  refine OJ.pures tU_ok 3 rfl ?_
  refine OJ.ef rfl rfl rfl (Ef.lit tU_ok tI_ok hS (C := (ci .i64)) rfl rfl rfl rfl rfl rfl ([a2] : List Int) rfl rfl rfl rfl) ?_
  rintro _ w1 ⟨A1, rfl, hS⟩
  obtain ⟨t2, ht2, H⟩ := pbind H
  refine OJ.callF rfl rfl rfl rfl rfl hb38 rfl (impl_meadowCode.c k _ Aa0 ca0 a0 (hS.rd' (i := 0) rfl) (hS.le' (i := 0) rfl) a1 A1 (([a2] : List Int).length) ([a2] : List Int) (hS.rd (i := 0) rfl) (hS.le (i := 0) rfl) _ ht2) ?_
  rintro _ w1 ⟨rfl, hs⟩
  replace hS := hS.grow hs
  refine OJ.pures tU_ok 1 rfl ?_
  refine OJ.nil (EJ.next ?_)
  refine CJ.seq ?_
  refine CJ.region ?_
  refine OJ.pures tU_ok 2 rfl ?_
  refine OJ.nil (EJ.next ?_)
  refine CJ.cond rfl (fun hb => ?_) (fun hb => ?_)
  · replace H := pif_t (of_decide_eq_true hb) H
    refine CJ.seq ?_
    refine CJ.region ?_
    refine OJ.pures tU_ok 3 rfl ?_
    refine OJ.nil (EJ.next ?_)
    refine CJ.ret (EJ.skR (?_))
    replace hS := hS.addNil cMeadow 47 none
    obtain rfl := Option.some.inj H
    exact EJ.fin rfl (.tmp rfl (.tmp rfl .nil)) ⟨none, 0, rfl, hS.pick [1] [] rfl⟩
  · replace H := pif_f (of_decide_eq_false hb) H
    refine CJ.skip (EJ.next ?_)
    refine CJ.seq ?_
    refine CJ.region ?_
    refine OJ.pures tU_ok 3 rfl ?_
    obtain ⟨t3, ht3, H⟩ := pbind H
    refine OJ.callF rfl rfl rfl rfl rfl hb47 rfl (impl_behind.c k _ Aa0 ca0 a0 (hS.rd' (i := 0) rfl) (hS.le' (i := 0) rfl) a1 a2 _ ht3) ?_
    rintro _ w1 ⟨A4, c5, rfl, hs⟩
    replace hS := hS.addN hs
    refine OJ.pures tU_ok 5 rfl ?_
    refine OJ.nil (EJ.next ?_)
    refine CJ.seq ?_
    refine CJ.seq ?_
    refine CJ.region ?_
    refine OJ.pures tU_ok 2 rfl ?_
    refine OJ.nil (EJ.next ?_)
    refine CJ.cond rfl (fun hb => ?_) (fun hb => ?_)
    · replace H := pif_t hb H
      refine CJ.seq ?_
      refine CJ.region ?_
      refine OJ.pures tU_ok 2 rfl ?_
      refine OJ.nil (EJ.next ?_)
      refine CJ.ret (EJ.skR (?_))
      replace hS := hS.addNil cMeadow 47 none
      obtain rfl := Option.some.inj H
      exact EJ.fin rfl (.tmp rfl (.tmp rfl .nil)) ⟨none, 0, rfl, hS.pick [2] [] rfl⟩
    · replace H := pifb_f hb H
      refine CJ.skip (EJ.next ?_)
      refine CJ.seq ?_
      refine CJ.region ?_
      refine OJ.pures tU_ok 3 rfl ?_
      refine OJ.nil (EJ.next ?_)
      refine CJ.ret (?_)
      obtain rfl := Option.some.inj H
      exact EJ.fin rfl (.tmp rfl (.tmp rfl .nil)) ⟨A4, c5, rfl, hS.pick [1] [] rfl⟩

def spec_l07Index.f (a0 : List Meadow) (a1 : Int) : Option Bool := (spec_l00In.f a1 0 (IntKind.i64.wrap ((a0.length : Int) - 1))).bind fun t1 => some t1
theorem spec_l07Index.c (w : World) (Aa0 : Option Addr) (ca0 : Nat) (a0 : List Meadow) (hr0 : Rd cMeadow w Aa0 a0) (hc0 : a0.length ≤ ca0) (a1 : Int) (r : Bool) (H : spec_l07Index.f a0 a1 = some r) :
    CV Try.prog 48 [.slice Aa0 a0.length ca0, .int .i64 a1].toArray w fun v w' => v = .bool r ∧ Ext w w' := by
  have hS := ((St.init w no).param cMeadow Aa0 ca0 a0 hr0 hc0)
  unfold spec_l07Index.f at H
  refine CV.body Try.func48 rfl Try.ntmps48 rfl ?_
  refine CJ.seq ?_
  refine CJ.region ?_
  refine OJ.pures tU_ok 1 rfl ?_
  refine OJ.nil (EJ.next ?_)
  refine CJ.seq ?_
  refine CJ.region ?_
  refine OJ.pures tU_ok 4 rfl ?_
  obtain ⟨t1, ht1, H⟩ := pbind H
  refine OJ.callF rfl rfl rfl rfl rfl hb52 rfl (spec_l00In.c _ a1 0 (IntKind.i64.wrap ((a0.length : Int) - 1)) _ ht1) ?_
  rintro _ w1 ⟨rfl, hs⟩
  replace hS := hS.grow hs
  refine OJ.pures tU_ok 1 rfl ?_
  refine OJ.nil (EJ.next ?_)
  refine CJ.ret (?_)
  obtain rfl := Option.some.inj H
  exact EJ.fin rfl (.tmp rfl .nil) ⟨rfl, hS.ext⟩

def spec_DayBehind.f (k : Nat) (a0 : List Meadow) (a1 : Int) (a2 : Int) : Option (List Meadow × Int) := (spec_l07Index.f a0 a2).bind fun t1 => (spec_l07Asked.f k a0 a1 t1).bind fun t2 => if t2 ≠ 0 then (some (([] : List Meadow), t2)) else ((getI a0 a2).bind fun t4 => if (IntKind.i64.wrap t4.Grass) < a1 then (some (([] : List Meadow), 4)) else ((spec_l07Day.f k a0 a1 a2).bind fun t6 => some (t6, 0)))
theorem spec_DayBehind.c (k : Nat) (w : World) (Aa0 : Option Addr) (ca0 : Nat) (a0 : List Meadow) (hr0 : Rd cMeadow w Aa0 a0) (hc0 : a0.length ≤ ca0) (a1 : Int) (a2 : Int) (r : List Meadow × Int) (H : spec_DayBehind.f k a0 a1 a2 = some r) :
    CV Try.prog 19 [.slice Aa0 a0.length ca0, .int .i64 a1, .int .i64 a2].toArray w fun v w' => ∃ (A0 : Option Addr) (c0 : Nat), v = .tuple #[.slice A0 r.1.length c0, .int .i64 r.2] ∧ St w no w' [rowC cMeadow A0 c0 47 r.1] [] := by
  have hS := ((St.init w no).param cMeadow Aa0 ca0 a0 hr0 hc0)
  unfold spec_DayBehind.f at H
  refine CV.body Try.func19 rfl Try.ntmps19 rfl ?_
  refine CJ.seq ?_
  refine CJ.region ?_
  refine OJ.pures tU_ok 2 rfl ?_
  refine OJ.nil (EJ.next ?_)
  refine CJ.seq ?_
  refine CJ.seq ?_
  refine CJ.region ?_
  refine OJ.pures tU_ok 4 rfl ?_
  obtain ⟨t1, ht1, H⟩ := pbind H
  refine OJ.callF rfl rfl rfl rfl rfl hb48 rfl (spec_l07Index.c _ Aa0 ca0 a0 (hS.rd' (i := 0) rfl) (hS.le' (i := 0) rfl) a2 _ ht1) ?_
  rintro _ w1 ⟨rfl, hs⟩
  replace hS := hS.grow hs
  obtain ⟨t2, ht2, H⟩ := pbind H
  refine OJ.callF rfl rfl rfl rfl rfl hb31 rfl (spec_l07Asked.c k _ Aa0 ca0 a0 (hS.rd' (i := 0) rfl) (hS.le' (i := 0) rfl) a1 t1 _ ht2) ?_
  rintro _ w1 ⟨rfl, hs⟩
  replace hS := hS.grow hs
  refine OJ.pures tU_ok 1 rfl ?_
  refine OJ.nil (EJ.next ?_)
  refine CJ.seq ?_
  refine CJ.region ?_
  refine OJ.pures tU_ok 2 rfl ?_
  refine OJ.nil (EJ.next ?_)
  refine CJ.cond rfl (fun hb => ?_) (fun hb => ?_)
  · replace H := pif_t (of_decide_eq_true hb) H
    refine CJ.seq ?_
    refine CJ.region ?_
    refine OJ.ef rfl rfl rfl (Ef.lit tU_ok tI_ok hS (C := cMeadow) rfl rfl rfl rfl rfl rfl ([] : List Meadow) rfl rfl rfl rfl) ?_
    rintro _ w1 ⟨A3, rfl, hS⟩
    refine OJ.pures tU_ok 3 rfl ?_
    refine OJ.nil (EJ.next ?_)
    refine CJ.ret (EJ.skR (?_))
    obtain rfl := Option.some.inj H
    exact EJ.fin rfl (.tmp rfl (.tmp rfl .nil)) ⟨A3, (([] : List Meadow).length), rfl, hS.pick [0] [] rfl⟩
  · replace H := pif_f (of_decide_eq_false hb) H
    refine CJ.skip (EJ.next ?_)
    refine CJ.seq ?_
    refine CJ.seq ?_
    refine CJ.region ?_
    refine OJ.pures tU_ok 2 rfl ?_
    obtain ⟨t4, ht4, H⟩ := pbind H
    obtain ⟨ad4, e4⟩ := (hS.rd' (i := 0) rfl).some' ht4
    refine OJ.st rfl rfl rfl (SR.idxS tU_ok tI_ok rfl rfl rfl rfl e4 rfl (getI_some ht4).1) ?_
    refine OJ.st rfl rfl rfl (SR.fieldAddr tU_ok tI_ok rfl rfl rfl rfl rfl rfl) ?_
    refine OJ.st rfl rfl rfl (SR.load rfl rfl (fun w' hx => ld1 tU_ok rfl rfl (CA.ext (CA.sub ((hS.rd' (i := 0) rfl).at_ e4 ht4) 0) hx) rfl)) ?_
    refine OJ.pures tU_ok 3 rfl ?_
    refine OJ.nil (EJ.next ?_)
    refine CJ.cond rfl (fun hb => ?_) (fun hb => ?_)
    · replace H := pif_t (of_decide_eq_true hb) H
      refine CJ.seq ?_
      refine CJ.region ?_
      refine OJ.ef rfl rfl rfl (Ef.lit tU_ok tI_ok hS (C := cMeadow) rfl rfl rfl rfl rfl rfl ([] : List Meadow) rfl rfl rfl rfl) ?_
      rintro _ w1 ⟨A5, rfl, hS⟩
      refine OJ.pures tU_ok 2 rfl ?_
      refine OJ.nil (EJ.next ?_)
      refine CJ.ret (EJ.skR (?_))
      obtain rfl := Option.some.inj H
      exact EJ.fin rfl (.tmp rfl (.tmp rfl .nil)) ⟨A5, (([] : List Meadow).length), rfl, hS.pick [0] [] rfl⟩
    · replace H := pif_f (of_decide_eq_false hb) H
      refine CJ.skip (EJ.next ?_)
      refine CJ.seq ?_
      refine CJ.region ?_
      refine OJ.pures tU_ok 3 rfl ?_
      obtain ⟨t6, ht6, H⟩ := pbind H
      refine OJ.callF rfl rfl rfl rfl rfl hb49 rfl (spec_l07Day.c k _ Aa0 ca0 a0 (hS.rd' (i := 0) rfl) (hS.le' (i := 0) rfl) a1 a2 _ ht6) ?_
      rintro _ w1 ⟨A7, c8, rfl, hs⟩
      replace hS := hS.addN hs
      refine OJ.pures tU_ok 2 rfl ?_
      refine OJ.nil (EJ.next ?_)
      refine CJ.ret (?_)
      obtain rfl := Option.some.inj H
      exact EJ.fin rfl (.tmp rfl (.tmp rfl .nil)) ⟨A7, c8, rfl, hS.pick [0] [] rfl⟩

def spec_SameMeadows.l1 (a0 : List Meadow) (a1 : List Meadow) : Nat → Int → Option (Bool ⊕ Unit)
  | 0, _ => none
  | k + 1, y1 => if y1 < (a0.length : Int) then ((getI a0 y1).bind fun t2 => (getI a1 y1).bind fun t3 => if t2 ≠ t3 then (some (Sum.inl false)) else (spec_SameMeadows.l1 a0 a1 k (IntKind.i64.wrap (y1 + 1)))) else (some (Sum.inr ()))
def spec_SameMeadows.f (k : Nat) (a0 : List Meadow) (a1 : List Meadow) : Option Bool := if (a0.length : Int) ≠ (a1.length : Int) then (some false) else ((spec_SameMeadows.l1 a0 a1 k 0).bind fun s37 => match s37 with | .inl r => some r | .inr _ => some true)
theorem spec_SameMeadows.c (k : Nat) (w : World) (Aa0 : Option Addr) (ca0 : Nat) (a0 : List Meadow) (hr0 : Rd cMeadow w Aa0 a0) (hc0 : a0.length ≤ ca0) (Aa1 : Option Addr) (ca1 : Nat) (a1 : List Meadow) (hr1 : Rd cMeadow w Aa1 a1) (hc1 : a1.length ≤ ca1) (r : Bool) (H : spec_SameMeadows.f k a0 a1 = some r) :
    CV Try.prog 20 [.slice Aa0 a0.length ca0, .slice Aa1 a1.length ca1].toArray w fun v w' => v = .bool r ∧ Ext w w' := by
  have hS := (((St.init w no).param cMeadow Aa0 ca0 a0 hr0 hc0).param cMeadow Aa1 ca1 a1 hr1 hc1)
  unfold spec_SameMeadows.f at H
  refine CV.body Try.func20 rfl Try.ntmps20 rfl ?_
  refine CJ.seq ?_
  refine CJ.region ?_
  refine OJ.pures tU_ok 1 rfl ?_
  refine OJ.nil (EJ.next ?_)
  refine CJ.seq ?_
  refine CJ.seq ?_
  refine CJ.region ?_
  refine OJ.pures tU_ok 5 rfl ?_
  refine OJ.nil (EJ.next ?_)
  refine CJ.cond rfl (fun hb => ?_) (fun hb => ?_)
  · replace H := pif_t (of_decide_eq_true hb) H
    refine CJ.seq ?_
    refine CJ.region ?_
    refine OJ.pures tU_ok 1 rfl ?_
    refine OJ.nil (EJ.next ?_)
    refine CJ.ret (EJ.skR (?_))
    obtain rfl := Option.some.inj H
    exact EJ.fin rfl (.tmp rfl .nil) ⟨rfl, hS.ext⟩
  · replace H := pif_f (of_decide_eq_false hb) H
    refine CJ.skip (EJ.next ?_)
    refine CJ.seq ?_
    refine CJ.seq ?_
    refine CJ.region ?_
    refine OJ.pures tU_ok 1 rfl ?_
    refine OJ.nil (EJ.next ?_)
    obtain ⟨j37, H, K37⟩ := pbind H
    refine CJ.cut1 (fun F w1 => (some (Sum.inr ()) : Option (Bool ⊕ Unit)) = some j37 ∧ F = [] ∧ St w no w1 [] [roC cMeadow Aa0 ca0 a0, roC cMeadow Aa1 ca1 a1]) ?_ ?_
    · skip
      refine CJ.block ?_
      refine CJ.loop (fun k F w1 => ∃ (y1 : Int), F = [(0, .slice Aa0 a0.length ca0), (1, .slice Aa1 a1.length ca1), (5, .int .i64 y1)] ∧ St w no w1 [] [roC cMeadow Aa0 ca0 a0, roC cMeadow Aa1 ca1 a1] ∧ spec_SameMeadows.l1 a0 a1 k y1 = some j37) k (F' := [(0, .slice Aa0 a0.length ca0), (1, .slice Aa1 a1.length ca1), (5, .int .i64 0)]) ⟨rfl, rfl, rfl, trivial⟩ ⟨0, rfl, hS.pick [] [0, 1] rfl, H⟩ ?_
      rintro k F w1 ⟨y1, rfl, hS, H⟩
      cases k with
      | zero => rw [spec_SameMeadows.l1] at H; cases H
      | succ k =>
        rw [spec_SameMeadows.l1] at H
        refine CJ.seq ?_
        refine CJ.seq ?_
        refine CJ.region ?_
        refine OJ.pures tU_ok 4 rfl ?_
        refine OJ.nil (EJ.next ?_)
        refine CJ.cond rfl (fun hb => ?_) (fun hb => ?_)
        · replace H := pif_t (of_decide_eq_true hb) H
          refine CJ.skip (EJ.next ?_)
          refine CJ.seq ?_
          refine CJ.block ?_
          refine CJ.seq ?_
          refine CJ.draw [] [0, 1, 2, 3, 4, 5, 6, 7, 8] mixed (by kernel_rfl) hS fun w1 hS => ?_
          refine DJ.pures tU_ok 2 rfl ?_
          obtain ⟨t2, ht2, H⟩ := pbind H
          obtain ⟨ad2, e2⟩ := (hS.rd' (i := 0) rfl).some' ht2
          refine DJ.st rfl rfl rfl rfl rfl (SR.idxS tU_ok tI_ok rfl rfl rfl rfl e2 rfl (getI_some ht2).1) ?_
          refine DJ.st rfl rfl rfl rfl rfl (SR.load rfl rfl (fun w' hx => ldE tU_ok tI_ok rfl rfl rfl (CA.ext ((hS.rd' (i := 0) rfl).at_ e2 ht2) hx) rfl)) ?_
          refine DJ.pures tU_ok 2 rfl ?_
          obtain ⟨t3, ht3, H⟩ := pbind H
          obtain ⟨ad3, e3⟩ := (hS.rd' (i := 1) rfl).some' ht3
          refine DJ.st rfl rfl rfl rfl rfl (SR.idxS tU_ok tI_ok rfl rfl rfl rfl e3 rfl (getI_some ht3).1) ?_
          refine DJ.st rfl rfl rfl rfl rfl (SR.load rfl rfl (fun w' hx => ldE tU_ok tI_ok rfl rfl rfl (CA.ext ((hS.rd' (i := 1) rfl).at_ e3 ht3) hx) rfl)) ?_
          refine DJ.st rfl rfl rfl rfl rfl (SR.neS eqT47 eqG47 rfl rfl rfl (rfl : _ = (cMeadow.enc t2).toArray) (rfl : _ = (cMeadow.enc t3).toArray)) ?_
          refine DJ.nil (EJ.next ?_)
          refine CJ.cond rfl (fun hb => ?_) (fun hb => ?_)
          · replace H := pif_t (of_decide_eq_true hb) H
            refine CJ.seq ?_
            refine CJ.region ?_
            refine OJ.pures tU_ok 1 rfl ?_
            refine OJ.nil (EJ.next ?_)
            refine CJ.ret (EJ.bkR (EJ.skR (EJ.skR (EJ.bkR (EJ.skR (EJ.skR (?_)))))))
            first | (obtain rfl := Option.some.inj H; have H := K37) | (obtain ⟨q37, H2, e37⟩ := pbind H; obtain rfl := Option.some.inj e37; obtain rfl := Option.some.inj K37; have H := H2)
            obtain rfl := Option.some.inj H
            exact EJ.fin rfl (.tmp rfl .nil) ⟨rfl, hS.ext⟩
          · replace H := pif_f (of_decide_eq_false hb) H
            refine CJ.skip (EJ.blk (EJ.next ?_))
            refine CJ.region ?_
            refine OJ.pures tU_ok 3 rfl ?_
            refine OJ.nil ?_
            exact EJ.round k (F' := [(0, .slice Aa0 a0.length ca0), (1, .slice Aa1 a1.length ca1), (5, .int .i64 (IntKind.i64.wrap (y1 + 1)))]) ⟨rfl, rfl, rfl, trivial⟩ (Nat.lt_succ_self _) ⟨(IntKind.i64.wrap (y1 + 1)), rfl, hS.pick [] [0, 1] rfl, H⟩
        · replace H := pif_f (of_decide_eq_false hb) H
          refine CJ.exit (EJ.skE (EJ.skE (EJ.hit (?_))))
          exact EJ.meet (F' := []) trivial ⟨H, rfl, hS.pick [] [0, 1] rfl⟩
    · rintro F w1 ⟨he, rfl, hS⟩
      obtain rfl := Option.some.inj he
      have H := K37
      refine EJ.next ?_
      refine CJ.seq ?_
      refine CJ.region ?_
      refine OJ.pures tU_ok 1 rfl ?_
      refine OJ.nil (EJ.next ?_)
      refine CJ.ret (?_)
      obtain rfl := Option.some.inj H
      exact EJ.fin rfl (.tmp rfl .nil) ⟨rfl, hS.ext⟩

def slices_Equal_impl_Meadow_impl_Meadow.l1 (a0 : List Meadow) (a1 : List Meadow) : Nat → Int → Option (Bool ⊕ Unit)
  | 0, _ => none
  | k + 1, y1 => if y1 < (a0.length : Int) then ((getI a0 y1).bind fun t2 => (getI a1 y1).bind fun t3 => if t2 ≠ t3 then (some (Sum.inl false)) else (slices_Equal_impl_Meadow_impl_Meadow.l1 a0 a1 k (IntKind.i64.wrap (y1 + 1)))) else (some (Sum.inr ()))
def slices_Equal_impl_Meadow_impl_Meadow.f (k : Nat) (a0 : List Meadow) (a1 : List Meadow) : Option Bool := if (a0.length : Int) ≠ (a1.length : Int) then (some false) else ((slices_Equal_impl_Meadow_impl_Meadow.l1 a0 a1 k 0).bind fun s38 => match s38 with | .inl r => some r | .inr _ => some true)
theorem slices_Equal_impl_Meadow_impl_Meadow.c (k : Nat) (w : World) (Aa0 : Option Addr) (ca0 : Nat) (a0 : List Meadow) (hr0 : Rd cMeadow w Aa0 a0) (hc0 : a0.length ≤ ca0) (Aa1 : Option Addr) (ca1 : Nat) (a1 : List Meadow) (hr1 : Rd cMeadow w Aa1 a1) (hc1 : a1.length ≤ ca1) (r : Bool) (H : slices_Equal_impl_Meadow_impl_Meadow.f k a0 a1 = some r) :
    CV Try.prog 50 [.slice Aa0 a0.length ca0, .slice Aa1 a1.length ca1].toArray w fun v w' => v = .bool r ∧ Ext w w' := by
  have hS := (((St.init w no).param cMeadow Aa0 ca0 a0 hr0 hc0).param cMeadow Aa1 ca1 a1 hr1 hc1)
  unfold slices_Equal_impl_Meadow_impl_Meadow.f at H
  refine CV.body Try.func50 rfl Try.ntmps50 rfl ?_
  refine CJ.seq ?_
  refine CJ.region ?_
  refine OJ.pures tU_ok 1 rfl ?_
  refine OJ.nil (EJ.next ?_)
  refine CJ.seq ?_
  refine CJ.seq ?_
  refine CJ.region ?_
  refine OJ.pures tU_ok 5 rfl ?_
  refine OJ.nil (EJ.next ?_)
  refine CJ.cond rfl (fun hb => ?_) (fun hb => ?_)
  · replace H := pif_t (of_decide_eq_true hb) H
    refine CJ.seq ?_
    refine CJ.region ?_
    refine OJ.pures tU_ok 1 rfl ?_
    refine OJ.nil (EJ.next ?_)
    refine CJ.ret (EJ.skR (?_))
    obtain rfl := Option.some.inj H
    exact EJ.fin rfl (.tmp rfl .nil) ⟨rfl, hS.ext⟩
  · replace H := pif_f (of_decide_eq_false hb) H
    refine CJ.skip (EJ.next ?_)
    refine CJ.seq ?_
    refine CJ.seq ?_
    refine CJ.region ?_
    refine OJ.pures tU_ok 3 rfl ?_
    refine OJ.nil (EJ.next ?_)
    obtain ⟨j38, H, K38⟩ := pbind H
    refine CJ.cut1 (fun F w1 => (some (Sum.inr ()) : Option (Bool ⊕ Unit)) = some j38 ∧ F = [] ∧ St w no w1 [] [roC cMeadow Aa0 ca0 a0, roC cMeadow Aa1 ca1 a1]) ?_ ?_
    · skip
      refine CJ.block ?_
      refine CJ.loop (fun k F w1 => ∃ (y1 : Int), F = [(0, .slice Aa0 a0.length ca0), (1, .slice Aa1 a1.length ca1), (12, .int .i64 (a0.length : Int)), (13, .int .i64 y1)] ∧ St w no w1 [] [roC cMeadow Aa0 ca0 a0, roC cMeadow Aa1 ca1 a1] ∧ slices_Equal_impl_Meadow_impl_Meadow.l1 a0 a1 k y1 = some j38) k (F' := [(0, .slice Aa0 a0.length ca0), (1, .slice Aa1 a1.length ca1), (12, .int .i64 (a0.length : Int)), (13, .int .i64 0)]) ⟨rfl, rfl, rfl, rfl, trivial⟩ ⟨0, rfl, hS.pick [] [0, 1] rfl, H⟩ ?_
      rintro k F w1 ⟨y1, rfl, hS, H⟩
      cases k with
      | zero => rw [slices_Equal_impl_Meadow_impl_Meadow.l1] at H; cases H
      | succ k =>
        rw [slices_Equal_impl_Meadow_impl_Meadow.l1] at H
        refine CJ.seq ?_
        refine CJ.region ?_
        refine OJ.pures tU_ok 1 rfl ?_
        refine OJ.nil (EJ.next ?_)
        refine CJ.seq ?_
        refine CJ.cond rfl (fun hb => ?_) (fun hb => ?_)
        · replace H := pif_t (of_decide_eq_true hb) H
          refine CJ.skip (EJ.next ?_)
          refine CJ.seq ?_
          refine CJ.block ?_
          refine CJ.seq ?_
          refine CJ.region ?_
          refine OJ.pures tU_ok 2 rfl ?_
          refine OJ.nil (EJ.next ?_)
          refine CJ.seq ?_
          refine CJ.draw [] [0, 1, 2, 3, 4, 5, 6, 7, 8] mixed (by kernel_rfl) hS fun w1 hS => ?_
          refine DJ.pures tU_ok 2 rfl ?_
          obtain ⟨t2, ht2, H⟩ := pbind H
          obtain ⟨ad2, e2⟩ := (hS.rd' (i := 0) rfl).some' ht2
          refine DJ.st rfl rfl rfl rfl rfl (SR.idxS tU_ok tI_ok rfl rfl rfl rfl e2 rfl (getI_some ht2).1) ?_
          refine DJ.st rfl rfl rfl rfl rfl (SR.load rfl rfl (fun w' hx => ldE tU_ok tI_ok rfl rfl rfl (CA.ext ((hS.rd' (i := 0) rfl).at_ e2 ht2) hx) rfl)) ?_
          refine DJ.pures tU_ok 2 rfl ?_
          obtain ⟨t3, ht3, H⟩ := pbind H
          obtain ⟨ad3, e3⟩ := (hS.rd' (i := 1) rfl).some' ht3
          refine DJ.st rfl rfl rfl rfl rfl (SR.idxS tU_ok tI_ok rfl rfl rfl rfl e3 rfl (getI_some ht3).1) ?_
          refine DJ.st rfl rfl rfl rfl rfl (SR.load rfl rfl (fun w' hx => ldE tU_ok tI_ok rfl rfl rfl (CA.ext ((hS.rd' (i := 1) rfl).at_ e3 ht3) hx) rfl)) ?_
          refine DJ.st rfl rfl rfl rfl rfl (SR.neS eqT47 eqG47 rfl rfl rfl (rfl : _ = (cMeadow.enc t2).toArray) (rfl : _ = (cMeadow.enc t3).toArray)) ?_
          refine DJ.nil (EJ.next ?_)
          refine CJ.cond rfl (fun hb => ?_) (fun hb => ?_)
          · replace H := pif_t (of_decide_eq_true hb) H
            refine CJ.seq ?_
            refine CJ.region ?_
            refine OJ.pures tU_ok 1 rfl ?_
            refine OJ.nil (EJ.next ?_)
            refine CJ.ret (EJ.bkR (EJ.skR (EJ.skR (EJ.bkR (EJ.skR (EJ.skR (?_)))))))
            first | (obtain rfl := Option.some.inj H; have H := K38) | (obtain ⟨q38, H2, e38⟩ := pbind H; obtain rfl := Option.some.inj e38; obtain rfl := Option.some.inj K38; have H := H2)
            obtain rfl := Option.some.inj H
            exact EJ.fin rfl (.tmp rfl .nil) ⟨rfl, hS.ext⟩
          · replace H := pif_f (of_decide_eq_false hb) H
            refine CJ.skip (EJ.blk (EJ.next ?_))
            refine CJ.region ?_
            refine OJ.pures tU_ok 2 rfl ?_
            refine OJ.nil ?_
            exact EJ.round k (F' := [(0, .slice Aa0 a0.length ca0), (1, .slice Aa1 a1.length ca1), (12, .int .i64 (a0.length : Int)), (13, .int .i64 (IntKind.i64.wrap (y1 + 1)))]) ⟨rfl, rfl, rfl, rfl, trivial⟩ (Nat.lt_succ_self _) ⟨(IntKind.i64.wrap (y1 + 1)), rfl, hS.pick [] [0, 1] rfl, H⟩
        · replace H := pif_f (of_decide_eq_false hb) H
          refine CJ.exit (EJ.skE (EJ.skE (EJ.hit (?_))))
          exact EJ.meet (F' := []) trivial ⟨H, rfl, hS.pick [] [0, 1] rfl⟩
    · rintro F w1 ⟨he, rfl, hS⟩
      obtain rfl := Option.some.inj he
      have H := K38
      refine EJ.next ?_
      refine CJ.seq ?_
      refine CJ.region ?_
      refine OJ.pures tU_ok 1 rfl ?_
      refine OJ.nil (EJ.next ?_)
      refine CJ.ret (?_)
      obtain rfl := Option.some.inj H
      exact EJ.fin rfl (.tmp rfl .nil) ⟨rfl, hS.ext⟩

def impl_SameMeadows.f (k : Nat) (a0 : List Meadow) (a1 : List Meadow) : Option Bool := (slices_Equal_impl_Meadow_impl_Meadow.f k a0 a1).bind fun t1 => some t1
theorem impl_SameMeadows.c (k : Nat) (w : World) (Aa0 : Option Addr) (ca0 : Nat) (a0 : List Meadow) (hr0 : Rd cMeadow w Aa0 a0) (hc0 : a0.length ≤ ca0) (Aa1 : Option Addr) (ca1 : Nat) (a1 : List Meadow) (hr1 : Rd cMeadow w Aa1 a1) (hc1 : a1.length ≤ ca1) (r : Bool) (H : impl_SameMeadows.f k a0 a1 = some r) :
    CV Try.prog 21 [.slice Aa0 a0.length ca0, .slice Aa1 a1.length ca1].toArray w fun v w' => v = .bool r ∧ Ext w w' := by
  have hS := (((St.init w no).param cMeadow Aa0 ca0 a0 hr0 hc0).param cMeadow Aa1 ca1 a1 hr1 hc1)
  unfold impl_SameMeadows.f at H
  refine CV.body Try.func21 rfl Try.ntmps21 rfl ?_
  refine CJ.seq ?_
  refine CJ.region ?_
  refine OJ.pures tU_ok 1 rfl ?_
  refine OJ.nil (EJ.next ?_)
  refine CJ.seq ?_
  refine CJ.region ?_
  refine OJ.pures tU_ok 2 rfl ?_
  obtain ⟨t1, ht1, H⟩ := pbind H
  refine OJ.callF rfl rfl rfl rfl rfl hb50 rfl (slices_Equal_impl_Meadow_impl_Meadow.c k _ Aa0 ca0 a0 (hS.rd' (i := 0) rfl) (hS.le' (i := 0) rfl) Aa1 ca1 a1 (hS.rd' (i := 1) rfl) (hS.le' (i := 1) rfl) _ ht1) ?_
  rintro _ w1 ⟨rfl, hs⟩
  replace hS := hS.grow hs
  refine OJ.pures tU_ok 1 rfl ?_
  refine OJ.nil (EJ.next ?_)
  refine CJ.ret (?_)
  obtain rfl := Option.some.inj H
  exact EJ.fin rfl (.tmp rfl .nil) ⟨rfl, hS.ext⟩

def impl_GrassBehind.f (k : Nat) (a0 : List Meadow) (a1 : Int) (a2 : List Int) : Option (List Meadow × Int) := (impl_planCode.f k a0 a1 a2).bind fun t1 => if t1 ≠ 0 then (some ([], t1)) else ((impl_follow.f k a0 a1 a2).bind fun t2 => if t2.1 < (a2.length : Int) then (some ([], 4)) else ((slices_Clone_impl_Meadow_impl_Meadow.f t2.2).bind fun t5 => some (t5, 0)))
theorem impl_GrassBehind.c (k : Nat) (w : World) (Aa0 : Option Addr) (ca0 : Nat) (a0 : List Meadow) (hr0 : Rd cMeadow w Aa0 a0) (hc0 : a0.length ≤ ca0) (a1 : Int) (Aa2 : Option Addr) (ca2 : Nat) (a2 : List Int) (hr2 : Rd (ci .i64) w Aa2 a2) (hc2 : a2.length ≤ ca2) (r : List Meadow × Int) (H : impl_GrassBehind.f k a0 a1 a2 = some r) :
    CV Try.prog 22 [.slice Aa0 a0.length ca0, .int .i64 a1, .slice Aa2 a2.length ca2].toArray w fun v w' => ∃ (A0 : Option Addr) (c0 : Nat), v = .tuple #[.slice A0 r.1.length c0, .int .i64 r.2] ∧ St w no w' [rowC cMeadow A0 c0 47 r.1] [] := by
  have hS := (((St.init w no).param cMeadow Aa0 ca0 a0 hr0 hc0).param (ci .i64) Aa2 ca2 a2 hr2 hc2)
  unfold impl_GrassBehind.f at H
  refine CV.body Try.func22 rfl Try.ntmps22 rfl ?_
  refine CJ.seq ?_
  refine CJ.region ?_
  refine OJ.pures tU_ok 2 rfl ?_
  refine OJ.nil (EJ.next ?_)
  refine CJ.seq ?_
  refine CJ.seq ?_
  refine CJ.region ?_
  refine OJ.pures tU_ok 3 rfl ?_
  obtain ⟨t1, ht1, H⟩ := pbind H
  refine OJ.callF rfl rfl rfl rfl rfl hb45 rfl (impl_planCode.c k _ Aa0 ca0 a0 (hS.rd' (i := 0) rfl) (hS.le' (i := 0) rfl) a1 Aa2 ca2 a2 (hS.rd' (i := 1) rfl) (hS.le' (i := 1) rfl) _ ht1) ?_
  rintro _ w1 ⟨rfl, hs⟩
  replace hS := hS.grow hs
  refine OJ.pures tU_ok 1 rfl ?_
  refine OJ.nil (EJ.next ?_)
  refine CJ.seq ?_
  refine CJ.region ?_
  refine OJ.pures tU_ok 2 rfl ?_
  refine OJ.nil (EJ.next ?_)
  refine CJ.cond rfl (fun hb => ?_) (fun hb => ?_)
  · replace H := pif_t (of_decide_eq_true hb) H
    refine CJ.seq ?_
    refine CJ.region ?_
    refine OJ.pures tU_ok 3 rfl ?_
    refine OJ.nil (EJ.next ?_)
    refine CJ.ret (EJ.skR (?_))
    replace hS := hS.addNil cMeadow 47 none
    obtain rfl := Option.some.inj H
    exact EJ.fin rfl (.tmp rfl (.tmp rfl .nil)) ⟨none, 0, rfl, hS.pick [0] [] rfl⟩
  · replace H := pif_f (of_decide_eq_false hb) H
    refine CJ.skip (EJ.next ?_)
    refine CJ.seq ?_
    refine CJ.region ?_
    refine OJ.pures tU_ok 3 rfl ?_
    obtain ⟨t2, ht2, H⟩ := pbind H
    refine OJ.callF rfl rfl rfl rfl rfl hb46 rfl (impl_follow.c k _ Aa0 ca0 a0 (hS.rd' (i := 0) rfl) (hS.le' (i := 0) rfl) a1 Aa2 ca2 a2 (hS.rd' (i := 1) rfl) (hS.le' (i := 1) rfl) _ ht2) ?_
    rintro _ w1 ⟨A3, c4, rfl, hx, hr0⟩
    replace hS := hS.addRos hx [roC cMeadow A3 c4 t2.2] (by intro c hc; simp only [List.mem_cons, List.not_mem_nil, or_false] at hc; rcases hc with rfl; exact ⟨hr0.1, fun b hb => (by have hb := hr0.2 b hb; rcases hb with hb | hb | hb | hb; exact .inl hb; exact .inr ⟨_, List.mem_of_getElem? (i := 0) rfl, hb⟩; exact .inr ⟨_, List.mem_of_getElem? (i := 1) rfl, hb⟩; exact hb.elim)⟩)
    refine OJ.pures tU_ok 5 rfl ?_
    refine OJ.nil (EJ.next ?_)
    refine CJ.seq ?_
    refine CJ.seq ?_
    refine CJ.region ?_
    refine OJ.pures tU_ok 4 rfl ?_
    refine OJ.nil (EJ.next ?_)
    refine CJ.cond rfl (fun hb => ?_) (fun hb => ?_)
    · replace H := pif_t (of_decide_eq_true hb) H
      refine CJ.seq ?_
      refine CJ.region ?_
      refine OJ.pures tU_ok 2 rfl ?_
      refine OJ.nil (EJ.next ?_)
      refine CJ.ret (EJ.skR (?_))
      replace hS := hS.addNil cMeadow 47 none
      obtain rfl := Option.some.inj H
      exact EJ.fin rfl (.tmp rfl (.tmp rfl .nil)) ⟨none, 0, rfl, hS.pick [0] [] rfl⟩
    · replace H := pif_f (of_decide_eq_false hb) H
      refine CJ.skip (EJ.next ?_)
      refine CJ.seq ?_
      refine CJ.region ?_
      refine OJ.pures tU_ok 1 rfl ?_
      obtain ⟨t5, ht5, H⟩ := pbind H
      refine OJ.callF rfl rfl rfl rfl rfl hb51 rfl (slices_Clone_impl_Meadow_impl_Meadow.c _ A3 c4 t2.2 (hS.rd' (i := 2) rfl) (hS.le' (i := 2) rfl) _ ht5) ?_
      rintro _ w1 ⟨A6, c7, rfl, hs⟩
      replace hS := hS.addN hs
      refine OJ.pures tU_ok 2 rfl ?_
      refine OJ.nil (EJ.next ?_)
      refine CJ.ret (?_)
      obtain rfl := Option.some.inj H
      exact EJ.fin rfl (.tmp rfl (.tmp rfl .nil)) ⟨A6, c7, rfl, hS.pick [0] [] rfl⟩
end Go.Proofs.Ytnjeddecmccdcaa
