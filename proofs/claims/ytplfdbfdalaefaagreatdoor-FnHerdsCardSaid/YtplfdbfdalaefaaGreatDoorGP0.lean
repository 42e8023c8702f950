/-
  What the functions come to.
-/
import Derived.Test.YtplfdbfdalaefaaGreatDoorHK
namespace Go.Proofs.YtplfdbfdalaefaaGreatDoor
open G
set_option linter.unusedVariables false
set_option linter.unusedSimpArgs false
set_option maxRecDepth 100000
set_option maxHeartbeats 4000000
abbrev q1_ : List ByteArray := [(⟨#[97, 100, 97]⟩ : ByteArray), (⟨#[98, 101, 108]⟩ : ByteArray), (⟨#[99, 121, 100]⟩ : ByteArray), (⟨#[100, 111, 116]⟩ : ByteArray), (⟨#[101, 118, 97]⟩ : ByteArray), (⟨#[102, 97, 121]⟩ : ByteArray), (⟨#[103, 105, 108]⟩ : ByteArray), (⟨#[104, 111, 98]⟩ : ByteArray), (⟨#[105, 118, 111]⟩ : ByteArray), (⟨#[106, 97, 110]⟩ : ByteArray), (⟨#[107, 105, 116]⟩ : ByteArray), (⟨#[108, 111, 117]⟩ : ByteArray), (⟨#[109, 97, 120]⟩ : ByteArray), (⟨#[110, 97, 110]⟩ : ByteArray)]
def laws_a2Long.f (a0 : List Int) (a1 : List Int) : Option Bool := if 3000 < (a0.length : Int) then (some true) else (some (decide (3000 < (a1.length : Int))))
theorem laws_a2Long.c {w Aa0 ca0} {a0 : List Int} (hr0 : Rd (ci .u8) w Aa0 a0) (hc0 : a0.length ≤ ca0) {Aa1 ca1} {a1 : List Int} (hr1 : Rd (ci .u8) w Aa1 a1) (hc1 : a1.length ≤ ca1) (r : Bool) (H : laws_a2Long.f a0 a1 = some r) :
 CV Tryz.prog 5 [sl Aa0 a0 ca0, sl Aa1 a1 ca1].toArray w fun v w' => v = .bool r ∧ Ext w w' := by
 have hS := (((St.init w no).param (ci .u8) Aa0 ca0 a0 hr0 hc0).param (ci .u8) Aa1 ca1 a1 hr1 hc1)
 unfold laws_a2Long.f at H
 refine CV.body Tryz.func5 Z Tryz.ntmps5 Z ?_
 refine GO ?_
 refine OJ.split (t := 8) Z (fun hb => ?_) (fun hb => ?_)
 replace H := pif_t (of_decide_eq_true hb) H
 exact FE H hS
 replace H := pif_f (of_decide_eq_false hb) H
 exact FE H hS

def spec_l00From.f (a0 : List Int) : Option l00Src := some (⟨a0, 0, 0⟩ : l00Src)
theorem spec_l00From.c {w Aa0 ca0} {a0 : List Int} (hr0 : Rd (ci .u8) w Aa0 a0) (hc0 : a0.length ≤ ca0) (r : l00Src) (H : spec_l00From.f a0 = some r) :
 CV Tryz.prog 36 [sl Aa0 a0 ca0].toArray w fun v w' => ∃ (bn : Nat), v = pt bn ∧ St w no w' [box bn ([sl Aa0 a0 ca0, i6 r.at_, .int .u64 r.seed]) 145] [] := by
 have hS := ((St.init w no).param (ci .u8) Aa0 ca0 a0 hr0 hc0)
 unfold spec_l00From.f at H
 refine CV.body Tryz.func36 Z Tryz.ntmps36 Z ?_
 refine GO ?_
 refine OJ.st Z Z Z (SR.build' oU oI Z Z Z (zs := [.slice none 0 0, i6 0, .int .u64 0]) Z Z Z ([sl Aa0 a0 ca0, i6 0, .int .u64 0]) Z) ?_
 refine oX hS ([sl Aa0 a0 ca0, i6 0, .int .u64 0]) fun b1 w1 hS => ?_
 obtain rfl := Option.some.inj H
 exact FT ⟨b1, Z, hS.pick [0] [] Z⟩

def spec_l00Src_next.f (a0 : l00Src) : Option (Int × l00Src) := if a0.at_ < (a0.code.length : Int) then ((getI a0.code a0.at_).bind fun t1 => if (IntKind.i64.wrap (a0.at_ + 1)) ≤ (a0.code.length : Int) then (some (IntKind.i64.wrap t1, (⟨a0.code, IntKind.i64.wrap (a0.at_ + 1), IntKind.u64.wrap ((IntKind.u64.wrap ((IntKind.u64.wrap (a0.seed * 6364136223846793005)) + (IntKind.u64.wrap (IntKind.i64.wrap t1)))) + 1442695040888963407)⟩ : l00Src))) else (some (IntKind.i64.wrap (andI .u64 (shrI .u64 (IntKind.u64.wrap ((IntKind.u64.wrap ((IntKind.u64.wrap (a0.seed * 6364136223846793005)) + (IntKind.u64.wrap (IntKind.i64.wrap t1)))) + 1442695040888963407)) 40) 255), (⟨a0.code, IntKind.i64.wrap (a0.at_ + 1), IntKind.u64.wrap ((IntKind.u64.wrap ((IntKind.u64.wrap (a0.seed * 6364136223846793005)) + (IntKind.u64.wrap (IntKind.i64.wrap t1)))) + 1442695040888963407)⟩ : l00Src)))) else (if (IntKind.i64.wrap (a0.at_ + 1)) ≤ (a0.code.length : Int) then (some (0, (⟨a0.code, IntKind.i64.wrap (a0.at_ + 1), IntKind.u64.wrap ((IntKind.u64.wrap ((IntKind.u64.wrap (a0.seed * 6364136223846793005)) + (IntKind.u64.wrap 0))) + 1442695040888963407)⟩ : l00Src))) else (some (IntKind.i64.wrap (andI .u64 (shrI .u64 (IntKind.u64.wrap ((IntKind.u64.wrap ((IntKind.u64.wrap (a0.seed * 6364136223846793005)) + (IntKind.u64.wrap 0))) + 1442695040888963407)) 40) 255), (⟨a0.code, IntKind.i64.wrap (a0.at_ + 1), IntKind.u64.wrap ((IntKind.u64.wrap ((IntKind.u64.wrap (a0.seed * 6364136223846793005)) + (IntKind.u64.wrap 0))) + 1442695040888963407)⟩ : l00Src))))
theorem spec_l00Src_next.c {w Aa0_0 ca0_0} (a0 : l00Src) (ba0 : Nat) (hin : St w (fpU [box ba0 ([sl Aa0_0 a0.code ca0_0, i6 a0.at_, .int .u64 a0.seed]) 145]) w [box ba0 ([sl Aa0_0 a0.code ca0_0, i6 a0.at_, .int .u64 a0.seed]) 145] [roC (ci .u8) Aa0_0 ca0_0 a0.code]) (r : Int × l00Src) (H : spec_l00Src_next.f a0 = some r) :
 CV Tryz.prog 127 [pt ba0].toArray w fun v w' => v = .int .i64 r.1 ∧ St w (fpU [box ba0 ([sl Aa0_0 a0.code ca0_0, i6 a0.at_, .int .u64 a0.seed]) 145]) w' [box ba0 ([sl Aa0_0 a0.code ca0_0, i6 r.2.at_, .int .u64 r.2.seed]) 145] [] := by
 have hS := hin
 unfold spec_l00Src_next.f at H
 refine CV.body Tryz.func127 Z Tryz.ntmps127 Z ?_
 refine GO ?_
 refine CJ.draw [] [0, 1, 2, 3, 4, 5, 6, 7, 8, 9] mixed (by kernel_rfl) hS fun w1 hS => ?_
 refine GO ?_
 refine dS (SL (cf hS 0 1)) ?_
 refine dS (SL (cf hS 0 0)) ?_
 refine CP H (fun H => ?_) (fun H => ?_)
 refine CJ.draw [] [0, 1, 2, 3, 4, 5, 6, 7, 8, 9, 10, 11] mixed (by kernel_rfl) hS fun w1 hS => ?_
 refine GO ?_
 refine dS (SL (cf hS 0 0)) ?_
 refine DS (SL (cf hS 0 1)) ?_
 refine xD H (rA hS 0 Z) fun t1 ad1 ht1 H => ?_
 refine oS (SL (cf hS 0 1)) ?_
 refine oE (WS hS 0 [.int .i64 (IntKind.i64.wrap (a0.at_ + 1))] [sl Aa0_0 a0.code ca0_0, i6 (IntKind.i64.wrap (a0.at_ + 1)), .int .u64 a0.seed]) fun w1 hS => ?_
 refine oS (SL (cf hS 0 2)) ?_
 refine oE (WS hS 0 [.int .u64 (IntKind.u64.wrap ((IntKind.u64.wrap ((IntKind.u64.wrap (a0.seed * 6364136223846793005)) + (IntKind.u64.wrap (IntKind.i64.wrap t1)))) + 1442695040888963407))] [sl Aa0_0 a0.code ca0_0, i6 (IntKind.i64.wrap (a0.at_ + 1)), .int .u64 (IntKind.u64.wrap ((IntKind.u64.wrap ((IntKind.u64.wrap (a0.seed * 6364136223846793005)) + (IntKind.u64.wrap (IntKind.i64.wrap t1)))) + 1442695040888963407))]) fun w1 hS => ?_
 refine CJ.draw [] [0, 1, 2, 3, 4, 5, 6, 7, 8, 9] mixed (by kernel_rfl) hS fun w1 hS => ?_
 refine GO ?_
 refine dS (SL (cf hS 0 1)) ?_
 refine dS (SL (cf hS 0 0)) ?_
 refine CP H (fun H => GO ?_) (fun H => ?_)
 obtain rfl := Option.some.inj H
 exact FT ⟨Z, hS.pick [0] [] Z⟩
 refine GO ?_
 refine OS (SL (cf hS 0 2)) ?_
 refine OJ.st rfl rfl rfl (SR.shr rfl rfl rfl (by decide)) ?_
 refine GO ?_
 obtain rfl := Option.some.inj H
 exact FT ⟨Z, hS.pick [0] [] Z⟩
 refine GO ?_
 refine oS (SL (cf hS 0 1)) ?_
 refine oE (WS hS 0 [.int .i64 (IntKind.i64.wrap (a0.at_ + 1))] [sl Aa0_0 a0.code ca0_0, i6 (IntKind.i64.wrap (a0.at_ + 1)), .int .u64 a0.seed]) fun w1 hS => ?_
 refine oS (SL (cf hS 0 2)) ?_
 refine oE (WS hS 0 [.int .u64 (IntKind.u64.wrap ((IntKind.u64.wrap ((IntKind.u64.wrap (a0.seed * 6364136223846793005)) + (IntKind.u64.wrap 0))) + 1442695040888963407))] [sl Aa0_0 a0.code ca0_0, i6 (IntKind.i64.wrap (a0.at_ + 1)), .int .u64 (IntKind.u64.wrap ((IntKind.u64.wrap ((IntKind.u64.wrap (a0.seed * 6364136223846793005)) + (IntKind.u64.wrap 0))) + 1442695040888963407))]) fun w1 hS => ?_
 refine CJ.draw [] [0, 1, 2, 3, 4, 5, 6, 7, 8, 9] mixed (by kernel_rfl) hS fun w1 hS => ?_
 refine GO ?_
 refine dS (SL (cf hS 0 1)) ?_
 refine dS (SL (cf hS 0 0)) ?_
 refine CP H (fun H => GO ?_) (fun H => ?_)
 obtain rfl := Option.some.inj H
 exact FT ⟨Z, hS.pick [0] [] Z⟩
 refine GO ?_
 refine OS (SL (cf hS 0 2)) ?_
 refine OJ.st rfl rfl rfl (SR.shr rfl rfl rfl (by decide)) ?_
 refine GO ?_
 obtain rfl := Option.some.inj H
 exact FT ⟨Z, hS.pick [0] [] Z⟩

def spec_l00Src_pick.f (a0 : l00Src) (a1 : Int) : Option (Int × l00Src) := if a1 ≤ 1 then (some (0, a0)) else ((spec_l00Src_next.f a0).bind fun t1 => if 200 < a1 then ((spec_l00Src_next.f (⟨a0.code, t1.2.at_, t1.2.seed⟩ : l00Src)).bind fun t2 => (chk (a1 ≠ 0)).bind fun u3 => some (Int.tmod (IntKind.i64.wrap ((IntKind.i64.wrap (t1.1 * 256)) + t2.1)) a1, (⟨a0.code, t2.2.at_, t2.2.seed⟩ : l00Src))) else ((chk (a1 ≠ 0)).bind fun u4 => some (Int.tmod t1.1 a1, (⟨a0.code, t1.2.at_, t1.2.seed⟩ : l00Src))))
theorem spec_l00Src_pick.c {w Aa0_0 ca0_0} (a0 : l00Src) (ba0 : Nat) {a1 : Int} (hin : St w (fpU [box ba0 ([sl Aa0_0 a0.code ca0_0, i6 a0.at_, .int .u64 a0.seed]) 145]) w [box ba0 ([sl Aa0_0 a0.code ca0_0, i6 a0.at_, .int .u64 a0.seed]) 145] [roC (ci .u8) Aa0_0 ca0_0 a0.code]) (r : Int × l00Src) (H : spec_l00Src_pick.f a0 a1 = some r) :
 CV Tryz.prog 78 [pt ba0, i6 a1].toArray w fun v w' => v = .int .i64 r.1 ∧ St w (fpU [box ba0 ([sl Aa0_0 a0.code ca0_0, i6 a0.at_, .int .u64 a0.seed]) 145]) w' [box ba0 ([sl Aa0_0 a0.code ca0_0, i6 r.2.at_, .int .u64 r.2.seed]) 145] [] := by
 have hS := hin
 unfold spec_l00Src_pick.f at H
 refine CV.body Tryz.func78 Z Tryz.ntmps78 Z ?_
 refine GO ?_
 refine CP H (fun H => GO ?_) (fun H => ?_)
 obtain rfl := Option.some.inj H
 exact FT ⟨Z, hS.pick [0] [] Z⟩
 refine GO ?_
 obtain ⟨t1, ht1, H⟩ := pbind H
 refine OC hb127 (spec_l00Src_next.c a0 ba0 ((hS.subs [0] [0] [] Z).pick [0] [0] Z) _ ht1) ?_
 rintro _ w1 ⟨rfl, hs⟩
 replace hS := hS.back [0] Z Z [box ba0 ([sl Aa0_0 a0.code ca0_0, i6 t1.2.at_, .int .u64 t1.2.seed]) 145] [] hs ⟨fun _ => Iff.rfl, trivial⟩
 refine GO ?_
 refine CP H (fun H => GO ?_) (fun H => ?_)
 obtain ⟨t2, ht2, H⟩ := pbind H
 refine OC hb127 (spec_l00Src_next.c (⟨a0.code, t1.2.at_, t1.2.seed⟩ : l00Src) ba0 ((hS.subs [0] [0] [] Z).pick [0] [0] Z) _ ht2) ?_
 rintro _ w1 ⟨rfl, hs⟩
 replace hS := hS.back [0] Z Z [box ba0 ([sl Aa0_0 a0.code ca0_0, i6 t2.2.at_, .int .u64 t2.2.seed]) 145] [] hs ⟨fun _ => Iff.rfl, trivial⟩
 refine GO ?_
 obtain ⟨u3, hu3, H⟩ := pbind H
 refine OJ.st Z Z Z (SR.rem Z Z Z (chk_some hu3)) ?_
 refine GO ?_
 obtain rfl := Option.some.inj H
 exact FT ⟨Z, hS.pick [0] [] Z⟩
 refine GO ?_
 obtain ⟨u4, hu4, H⟩ := pbind H
 refine OJ.st Z Z Z (SR.rem Z Z Z (chk_some hu4)) ?_
 refine GO ?_
 obtain rfl := Option.some.inj H
 exact FT ⟨Z, hS.pick [0] [] Z⟩

def spec_l00Src_among.f (a0 : l00Src) (a1 : List Int) : Option (Int × l00Src) := (spec_l00Src_pick.f a0 (a1.length : Int)).bind fun t1 => (getI a1 t1.1).bind fun t2 => some (t2, (⟨a0.code, t1.2.at_, t1.2.seed⟩ : l00Src))
theorem spec_l00Src_among.c {w Aa0_0 ca0_0} (a0 : l00Src) (ba0 : Nat) {Aa1 ca1} {a1 : List Int} (hin : St w (fpU [box ba0 ([sl Aa0_0 a0.code ca0_0, i6 a0.at_, .int .u64 a0.seed]) 145]) w [box ba0 ([sl Aa0_0 a0.code ca0_0, i6 a0.at_, .int .u64 a0.seed]) 145] [roC (ci .u8) Aa0_0 ca0_0 a0.code, roC (ci .i64) Aa1 ca1 a1]) (r : Int × l00Src) (H : spec_l00Src_among.f a0 a1 = some r) :
 CV Tryz.prog 95 [pt ba0, sl Aa1 a1 ca1].toArray w fun v w' => v = .int .i64 r.1 ∧ St w (fpU [box ba0 ([sl Aa0_0 a0.code ca0_0, i6 a0.at_, .int .u64 a0.seed]) 145]) w' [box ba0 ([sl Aa0_0 a0.code ca0_0, i6 r.2.at_, .int .u64 r.2.seed]) 145] [] := by
 have hS := hin
 unfold spec_l00Src_among.f at H
 refine CV.body Tryz.func95 Z Tryz.ntmps95 Z ?_
 refine GO ?_
 obtain ⟨t1, ht1, H⟩ := pbind H
 refine OC hb78 (spec_l00Src_pick.c a0 ba0 ((hS.subs [0] [0] [] Z).pick [0] [0] Z) _ ht1) ?_
 rintro _ w1 ⟨rfl, hs⟩
 replace hS := hS.back [0] Z Z [box ba0 ([sl Aa0_0 a0.code ca0_0, i6 t1.2.at_, .int .u64 t1.2.seed]) 145] [] hs ⟨fun _ => Iff.rfl, trivial⟩
 refine xI H (rA hS 1 Z) fun t2 ad2 ht2 H => ?_
 obtain rfl := Option.some.inj H
 exact FT ⟨Z, hS.pick [0] [] Z⟩

def spec_l00Src_one.f (a0 : l00Src) (a1 : Int) : Option (Bool × l00Src) := (spec_l00Src_pick.f a0 a1).bind fun t1 => some (decide (t1.1 = 0), (⟨a0.code, t1.2.at_, t1.2.seed⟩ : l00Src))
theorem spec_l00Src_one.c {w Aa0_0 ca0_0} (a0 : l00Src) (ba0 : Nat) {a1 : Int} (hin : St w (fpU [box ba0 ([sl Aa0_0 a0.code ca0_0, i6 a0.at_, .int .u64 a0.seed]) 145]) w [box ba0 ([sl Aa0_0 a0.code ca0_0, i6 a0.at_, .int .u64 a0.seed]) 145] [roC (ci .u8) Aa0_0 ca0_0 a0.code]) (r : Bool × l00Src) (H : spec_l00Src_one.f a0 a1 = some r) :
 CV Tryz.prog 97 [pt ba0, i6 a1].toArray w fun v w' => v = .bool r.1 ∧ St w (fpU [box ba0 ([sl Aa0_0 a0.code ca0_0, i6 a0.at_, .int .u64 a0.seed]) 145]) w' [box ba0 ([sl Aa0_0 a0.code ca0_0, i6 r.2.at_, .int .u64 r.2.seed]) 145] [] := by
 have hS := hin
 unfold spec_l00Src_one.f at H
 refine CV.body Tryz.func97 Z Tryz.ntmps97 Z ?_
 refine GO ?_
 obtain ⟨t1, ht1, H⟩ := pbind H
 refine OC hb78 (spec_l00Src_pick.c a0 ba0 ((hS.subs [0] [0] [] Z).pick [0] [0] Z) _ ht1) ?_
 rintro _ w1 ⟨rfl, hs⟩
 replace hS := hS.back [0] Z Z [box ba0 ([sl Aa0_0 a0.code ca0_0, i6 t1.2.at_, .int .u64 t1.2.seed]) 145] [] hs ⟨fun _ => Iff.rfl, trivial⟩
 refine GO ?_
 obtain rfl := Option.some.inj H
 exact FT ⟨Z, hS.pick [0] [] Z⟩

def spec_l06Put.f (a0 : Herd) (a1 : Int) (a2 : Int) (a3 : Bool) : Option (List Int) := (getI a0.Foes a1).bind fun t1 => (chk (0 ≤ (IntKind.u64.wrap a2))).bind fun u2 => (getI a0.Foes a1).bind fun t3 => (getI (a0.Foes.set a1.toNat (andNotI .u16 t1 (shlI .u16 1 (IntKind.u64.wrap a2)))) a2).bind fun t4 => (chk (0 ≤ (IntKind.u64.wrap a1))).bind fun u5 => (getI (a0.Foes.set a1.toNat (andNotI .u16 t1 (shlI .u16 1 (IntKind.u64.wrap a2)))) a2).bind fun t6 => if a3 = true then ((getI ((a0.Foes.set a1.toNat (andNotI .u16 t1 (shlI .u16 1 (IntKind.u64.wrap a2)))).set a2.toNat (andNotI .u16 t4 (shlI .u16 1 (IntKind.u64.wrap a1)))) a1).bind fun t7 => (chk (0 ≤ (IntKind.u64.wrap a2))).bind fun u8 => (getI ((a0.Foes.set a1.toNat (andNotI .u16 t1 (shlI .u16 1 (IntKind.u64.wrap a2)))).set a2.toNat (andNotI .u16 t4 (shlI .u16 1 (IntKind.u64.wrap a1)))) a1).bind fun t9 => (getI (((a0.Foes.set a1.toNat (andNotI .u16 t1 (shlI .u16 1 (IntKind.u64.wrap a2)))).set a2.toNat (andNotI .u16 t4 (shlI .u16 1 (IntKind.u64.wrap a1)))).set a1.toNat (orI .u16 t7 (shlI .u16 1 (IntKind.u64.wrap a2)))) a2).bind fun t10 => (chk (0 ≤ (IntKind.u64.wrap a1))).bind fun u11 => (getI (((a0.Foes.set a1.toNat (andNotI .u16 t1 (shlI .u16 1 (IntKind.u64.wrap a2)))).set a2.toNat (andNotI .u16 t4 (shlI .u16 1 (IntKind.u64.wrap a1)))).set a1.toNat (orI .u16 t7 (shlI .u16 1 (IntKind.u64.wrap a2)))) a2).bind fun t12 => some ((((a0.Foes.set a1.toNat (andNotI .u16 t1 (shlI .u16 1 (IntKind.u64.wrap a2)))).set a2.toNat (andNotI .u16 t4 (shlI .u16 1 (IntKind.u64.wrap a1)))).set a1.toNat (orI .u16 t7 (shlI .u16 1 (IntKind.u64.wrap a2)))).set a2.toNat (orI .u16 t10 (shlI .u16 1 (IntKind.u64.wrap a1))))) else (some ((a0.Foes.set a1.toNat (andNotI .u16 t1 (shlI .u16 1 (IntKind.u64.wrap a2)))).set a2.toNat (andNotI .u16 t4 (shlI .u16 1 (IntKind.u64.wrap a1)))))
theorem spec_l06Put.c {w Aa0_0 ca0_0 Aa0_1 ca0_1 Aa0_2 ca0_2} (a0 : Herd) (pa0 : Addr) {a1 : Int} {a2 : Int} {a3 : Bool} (hin : St w (fpU [rowC (ci .u16) Aa0_2 ca0_2 55 a0.Foes]) w [rowC (ci .u16) Aa0_2 ca0_2 55 a0.Foes] [roP pa0 (hv Aa0_0 Aa0_1 Aa0_2 ca0_0 ca0_1 ca0_2 a0)]) (r : List Int) (H : spec_l06Put.f a0 a1 a2 a3 = some r) :
 CV Tryz.prog 96 [.pointer (some pa0), .int .i64 a1, i6 a2, .bool a3].toArray w fun v w' => v = .tuple #[] ∧ St w (fpU [rowC (ci .u16) Aa0_2 ca0_2 55 a0.Foes]) w' [rowC (ci .u16) Aa0_2 ca0_2 55 r] [] ∧ r.length = a0.Foes.length := by
 have hS := hin
 unfold spec_l06Put.f at H
 refine CV.body Tryz.func96 Z Tryz.ntmps96 Z ?_
 have hl0 : a0.Foes.length = a0.Foes.length := rfl
 refine GO ?_
 refine CJ.draw [] [0, 1, 2, 3, 4, 5, 6, 7, 8, 9, 10, 11, 12, 13, 14, 15, 16, 17] mixed (by kernel_rfl) hS fun w1 hS => ?_
 refine GO ?_
 refine dS (SL (CA.sub (hS.ca (i := 0) Z) 2)) ?_
 refine dS (SL (CA.sub (hS.ca (i := 0) Z) 2)) ?_
 obtain ⟨t1, ht1, H⟩ := pbind H
 obtain ⟨ad1, e1⟩ := (rC hS 0 Z).some' ht1
 refine DS (SI e1 (by have hg := (getI_some ht1).1; (first | rw [hl0] at hg | (simp only [List.length_set] at hg; rw [hl0] at hg)); exact hg)) ?_
 refine dS (SL ((rC hS 0 Z).at_ e1 ht1)) ?_
 obtain ⟨u2, hu2, H⟩ := pbind H
 refine DJ.st Z Z Z Z Z (SR.shl Z Z Z (chk_some hu2)) ?_
 refine GO ?_
 obtain ⟨t3, ht3, H⟩ := pbind H
 obtain ⟨ad3, e3⟩ := (rC hS 0 Z).some' ht3
 refine DS (SI e3 (by have hg := (getI_some ht3).1; (first | rw [hl0] at hg | (simp only [List.length_set] at hg; rw [hl0] at hg)); exact hg)) ?_
 refine DJ.es Z Z Z Z (Es.storeR oI hS (i := 0) (off := 0) Z Z ht3 e3 Z Z Z Z (vs := (ci .u16).enc (andNotI .u16 t1 (shlI .u16 1 (IntKind.u64.wrap a2)))) Z Z (one1 Z) (Nat.le_of_ble_eq_true Z) (andNotI .u16 t1 (shlI .u16 1 (IntKind.u64.wrap a2))) Z) ?_
 intro w1 hS
 refine GO ?_
 refine CJ.draw [] [0, 1, 2, 3, 4, 5, 6, 7, 8, 9, 10, 11, 12, 13, 14, 15, 16, 17] mixed (by kernel_rfl) hS fun w1 hS => ?_
 refine GO ?_
 refine dS (SL (CA.sub (hS.ca (i := 0) Z) 2)) ?_
 refine dS (SL (CA.sub (hS.ca (i := 0) Z) 2)) ?_
 obtain ⟨t4, ht4, H⟩ := pbind H
 obtain ⟨ad4, e4⟩ := (rC hS 0 Z).some' ht4
 refine DS (SI e4 (by have hg := (getI_some ht4).1; (first | rw [hl0] at hg | (simp only [List.length_set] at hg; rw [hl0] at hg)); exact hg)) ?_
 refine dS (SL ((rC hS 0 Z).at_ e4 ht4)) ?_
 obtain ⟨u5, hu5, H⟩ := pbind H
 refine DJ.st Z Z Z Z Z (SR.shl Z Z Z (chk_some hu5)) ?_
 refine GO ?_
 obtain ⟨t6, ht6, H⟩ := pbind H
 obtain ⟨ad6, e6⟩ := (rC hS 0 Z).some' ht6
 refine DS (SI e6 (by have hg := (getI_some ht6).1; (first | rw [hl0] at hg | (simp only [List.length_set] at hg; rw [hl0] at hg)); exact hg)) ?_
 refine DJ.es Z Z Z Z (Es.storeR oI hS (i := 0) (off := 0) Z Z ht6 e6 Z Z Z Z (vs := (ci .u16).enc (andNotI .u16 t4 (shlI .u16 1 (IntKind.u64.wrap a1)))) Z Z (one1 Z) (Nat.le_of_ble_eq_true Z) (andNotI .u16 t4 (shlI .u16 1 (IntKind.u64.wrap a1))) Z) ?_
 intro w1 hS
 refine GO ?_
 refine CB H (fun H => GO ?_) (fun H => ?_)
 refine CJ.draw [] [0, 1, 2, 3, 4, 5, 6, 7, 8, 9, 10, 11, 12, 13, 14, 15, 16, 17] mixed (by kernel_rfl) hS fun w1 hS => ?_
 refine GO ?_
 refine dS (SL (CA.sub (hS.ca (i := 0) Z) 2)) ?_
 refine dS (SL (CA.sub (hS.ca (i := 0) Z) 2)) ?_
 obtain ⟨t7, ht7, H⟩ := pbind H
 obtain ⟨ad7, e7⟩ := (rC hS 0 Z).some' ht7
 refine DS (SI e7 (by have hg := (getI_some ht7).1; (first | rw [hl0] at hg | (simp only [List.length_set] at hg; rw [hl0] at hg)); exact hg)) ?_
 refine dS (SL ((rC hS 0 Z).at_ e7 ht7)) ?_
 obtain ⟨u8, hu8, H⟩ := pbind H
 refine DJ.st Z Z Z Z Z (SR.shl Z Z Z (chk_some hu8)) ?_
 refine GO ?_
 obtain ⟨t9, ht9, H⟩ := pbind H
 obtain ⟨ad9, e9⟩ := (rC hS 0 Z).some' ht9
 refine DS (SI e9 (by have hg := (getI_some ht9).1; (first | rw [hl0] at hg | (simp only [List.length_set] at hg; rw [hl0] at hg)); exact hg)) ?_
 refine DJ.es Z Z Z Z (Es.storeR oI hS (i := 0) (off := 0) Z Z ht9 e9 Z Z Z Z (vs := (ci .u16).enc (orI .u16 t7 (shlI .u16 1 (IntKind.u64.wrap a2)))) Z Z (one1 Z) (Nat.le_of_ble_eq_true Z) (orI .u16 t7 (shlI .u16 1 (IntKind.u64.wrap a2))) Z) ?_
 intro w1 hS
 refine GO ?_
 refine CJ.draw [] [0, 1, 2, 3, 4, 5, 6, 7, 8, 9, 10, 11, 12, 13, 14, 15, 16, 17] mixed (by kernel_rfl) hS fun w1 hS => ?_
 refine GO ?_
 refine dS (SL (CA.sub (hS.ca (i := 0) Z) 2)) ?_
 refine dS (SL (CA.sub (hS.ca (i := 0) Z) 2)) ?_
 obtain ⟨t10, ht10, H⟩ := pbind H
 obtain ⟨ad10, e10⟩ := (rC hS 0 Z).some' ht10
 refine DS (SI e10 (by have hg := (getI_some ht10).1; (first | rw [hl0] at hg | (simp only [List.length_set] at hg; rw [hl0] at hg)); exact hg)) ?_
 refine dS (SL ((rC hS 0 Z).at_ e10 ht10)) ?_
 obtain ⟨u11, hu11, H⟩ := pbind H
 refine DJ.st Z Z Z Z Z (SR.shl Z Z Z (chk_some hu11)) ?_
 refine GO ?_
 obtain ⟨t12, ht12, H⟩ := pbind H
 obtain ⟨ad12, e12⟩ := (rC hS 0 Z).some' ht12
 refine DS (SI e12 (by have hg := (getI_some ht12).1; (first | rw [hl0] at hg | (simp only [List.length_set] at hg; rw [hl0] at hg)); exact hg)) ?_
 refine DJ.es Z Z Z Z (Es.storeR oI hS (i := 0) (off := 0) Z Z ht12 e12 Z Z Z Z (vs := (ci .u16).enc (orI .u16 t10 (shlI .u16 1 (IntKind.u64.wrap a1)))) Z Z (one1 Z) (Nat.le_of_ble_eq_true Z) (orI .u16 t10 (shlI .u16 1 (IntKind.u64.wrap a1))) Z) ?_
 intro w1 hS
 refine GO ?_
 obtain rfl := Option.some.inj H
 exact EJ.fin' rfl .nil ⟨rfl, hS.pick [0] [] rfl, (by first | exact hl0 | (simp only [List.length_set]; exact hl0) | (simp only [List.length_set]; done))⟩
 refine GO ?_
 obtain rfl := Option.some.inj H
 exact EJ.fin' rfl .nil ⟨rfl, hS.pick [0] [] rfl, (by first | exact hl0 | (simp only [List.length_set]; exact hl0) | (simp only [List.length_set]; done))⟩

def spec_l06Drawn.l2 (a0 : l00Src) (t4 : Int × l00Src) (y18 : Int) (y21 : List ByteArray) (y24 : List Int) (t41 : ByteArray) (t47 : Int × l00Src) : Nat → (List Int) → Int → Int → Int → Option ((List Int) × Int × Int)
  | 0, _, _, _, _ => none
  | k + 1, y63, y64, y65, y66 => if y64 < y18 then ((spec_l00Src_one.f (⟨a0.code, y65, y66⟩ : l00Src) (IntKind.i64.wrap (1 + t4.1))).bind fun t67 => (spec_l06Put.f (⟨y21 ++ ([t41] : List ByteArray), y24 ++ ([IntKind.i16.wrap t47.1] : List Int), y63⟩ : Herd) y18 y64 t67.1).bind fun t68 => spec_l06Drawn.l2 a0 t4 y18 y21 y24 t41 t47 k t68 (IntKind.i64.wrap (y64 + 1)) t67.2.at_ t67.2.seed) else (some (y63, y65, y66))
def spec_l06Drawn.l1 (a0 : l00Src) (t4 : Int × l00Src) (t5 : Int × l00Src) (t6 : Int × l00Src) : Nat → Int → Int → Int → (List ByteArray) → (List Int) → (List Int) → Option ((List ByteArray) × (List Int) × (List Int) × Int × Int)
  | 0, _, _, _, _, _, _ => none
  | k + 1, y18, y19, y20, y21, y24, y27 => if y18 < t6.1 then (((getI ([(⟨#[97, 100, 97]⟩ : ByteArray), (⟨#[98, 101, 108]⟩ : ByteArray), (⟨#[99, 121, 100]⟩ : ByteArray), (⟨#[100, 111, 116]⟩ : ByteArray), (⟨#[101, 118, 97]⟩ : ByteArray), (⟨#[102, 97, 121]⟩ : ByteArray), (⟨#[103, 105, 108]⟩ : ByteArray), (⟨#[104, 111, 98]⟩ : ByteArray), (⟨#[105, 118, 111]⟩ : ByteArray), (⟨#[106, 97, 110]⟩ : ByteArray), (⟨#[107, 105, 116]⟩ : ByteArray), (⟨#[108, 111, 117]⟩ : ByteArray), (⟨#[109, 97, 120]⟩ : ByteArray), (⟨#[110, 97, 110]⟩ : ByteArray)] : List ByteArray) (Int.tmod (IntKind.i64.wrap (t5.1 + y18)) 14)).bind fun t41 => (chk (y21.length + ([t41] : List ByteArray).length ≤ 4294967296)).bind fun u43 => (spec_l00Src_among.f (⟨a0.code, y19, y20⟩ : l00Src) ([0, 3, 5, 7, 100] : List Int)).bind fun t47 => (chk (y24.length + ([IntKind.i16.wrap t47.1] : List Int).length ≤ 4294967296)).bind fun u49 => (chk (y27.length + ([0] : List Int).length ≤ 4294967296)).bind fun u57 => (spec_l06Drawn.l2 a0 t4 y18 y21 y24 t41 t47 k (y27 ++ ([0] : List Int)) 0 t47.2.at_ t47.2.seed).bind fun (y60, y61, y62) => some (y21 ++ ([t41] : List ByteArray), y24 ++ ([IntKind.i16.wrap t47.1] : List Int), y60, y61, y62)).bind fun (y30, y33, y36, y39, y40) => spec_l06Drawn.l1 a0 t4 t5 t6 k (IntKind.i64.wrap (y18 + 1)) y39 y40 y30 y33 y36) else (some (y21, y24, y27, y19, y20))
def spec_l06Drawn.f (k : Nat) (a0 : l00Src) (a1 : Int) : Option (Herd × l00Src) := (spec_l00Src_pick.f a0 5).bind fun t4 => (spec_l00Src_pick.f (⟨a0.code, t4.2.at_, t4.2.seed⟩ : l00Src) 14).bind fun t5 => (spec_l00Src_pick.f (⟨a0.code, t5.2.at_, t5.2.seed⟩ : l00Src) (IntKind.i64.wrap (a1 + 1))).bind fun t6 => (spec_l06Drawn.l1 a0 t4 t5 t6 k 0 t6.2.at_ t6.2.seed ([] : List ByteArray) ([] : List Int) ([] : List Int)).bind fun (y7, y10, y13, y16, y17) => some ((⟨y7, y10, y13⟩ : Herd), (⟨a0.code, y16, y17⟩ : l00Src))
theorem spec_l06Drawn.c {k w Aa0_0 ca0_0} (a0 : l00Src) (ba0 : Nat) {a1 : Int} (hin : St w (fpU [box ba0 ([sl Aa0_0 a0.code ca0_0, i6 a0.at_, .int .u64 a0.seed]) 145]) w [box ba0 ([sl Aa0_0 a0.code ca0_0, i6 a0.at_, .int .u64 a0.seed]) 145] [roC (ci .u8) Aa0_0 ca0_0 a0.code]) (r : Herd × l00Src) (H : spec_l06Drawn.f k a0 a1 = some r) :
 CV Tryz.prog 35 [pt ba0, i6 a1].toArray w fun v w' => ∃ (A0_0 : Option Addr) (c0_0 : Nat) (A0_1 : Option Addr) (c0_1 : Nat) (A0_2 : Option Addr) (c0_2 : Nat), v = .agg (hv A0_0 A0_1 A0_2 c0_0 c0_1 c0_2 r.1).toArray ∧ St w (fpU [box ba0 ([sl Aa0_0 a0.code ca0_0, i6 a0.at_, .int .u64 a0.seed]) 145]) w' [box ba0 ([sl Aa0_0 a0.code ca0_0, i6 r.2.at_, .int .u64 r.2.seed]) 145, rowC G.cs A0_0 c0_0 9 r.1.Names, rowC (ci .i16) A0_1 c0_1 49 r.1.Eats, rowC (ci .u16) A0_2 c0_2 55 r.1.Foes] [] := by
 have hS := hin
 unfold spec_l06Drawn.f at H
 refine CV.body Tryz.func35 Z Tryz.ntmps35 Z ?_
 refine GO ?_
 refine oA hS ([.slice none 0 0, .slice none 0 0, .slice none 0 0]) fun b1 w1 hS => ?_
 refine OF (EL hS G.cs q1_) ?_
 rintro _ w1 ⟨A2, rfl, hS⟩
 refine GO ?_
 refine OJ.st Z Z Z (SR.build' oU oI Z Z Z (zs := [.slice none 0 0, .slice none 0 0, .slice none 0 0]) Z Z Z ([.slice none 0 0, .slice none 0 0, .slice none 0 0]) Z) ?_
 refine OF (EA hS ([.slice none 0 0, .slice none 0 0, .slice none 0 0])) ?_
 rintro _ w1 ⟨b3, rfl, hS⟩
 refine oE (WV hS 3 [.slice none 0 0, .slice none 0 0, .slice none 0 0]) fun w1 hS => ?_
 obtain ⟨t4, ht4, H⟩ := pbind H
 refine OC hb78 (spec_l00Src_pick.c a0 ba0 ((hS.subs [0] [0] [] Z).pick [0] [0] Z) _ ht4) ?_
 rintro _ w1 ⟨rfl, hs⟩
 replace hS := hS.back [0] Z Z [box ba0 ([sl Aa0_0 a0.code ca0_0, i6 t4.2.at_, .int .u64 t4.2.seed]) 145] [] hs ⟨fun _ => Iff.rfl, trivial⟩
 refine GO ?_
 obtain ⟨t5, ht5, H⟩ := pbind H
 refine OC hb78 (spec_l00Src_pick.c (⟨a0.code, t4.2.at_, t4.2.seed⟩ : l00Src) ba0 ((hS.subs [0] [0] [] Z).pick [0] [0] Z) _ ht5) ?_
 rintro _ w1 ⟨rfl, hs⟩
 replace hS := hS.back [0] Z Z [box ba0 ([sl Aa0_0 a0.code ca0_0, i6 t5.2.at_, .int .u64 t5.2.seed]) 145] [] hs ⟨fun _ => Iff.rfl, trivial⟩
 refine GO ?_
 obtain ⟨t6, ht6, H⟩ := pbind H
 refine OC hb78 (spec_l00Src_pick.c (⟨a0.code, t5.2.at_, t5.2.seed⟩ : l00Src) ba0 ((hS.subs [0] [0] [] Z).pick [0] [0] Z) _ ht6) ?_
 rintro _ w1 ⟨rfl, hs⟩
 replace hS := hS.back [0] Z Z [box ba0 ([sl Aa0_0 a0.code ca0_0, i6 t6.2.at_, .int .u64 t6.2.seed]) 145] [] hs ⟨fun _ => Iff.rfl, trivial⟩
 refine GO ?_
 obtain ⟨j1, H, K1⟩ := pbind H
 refine CJ.cut1 (fun F w1 => ∃ y7 y10 y13 y16 y17 A8 c9 A11 c12 A14 c15, some j1 = some (y7, y10, y13, y16, y17) ∧ F = [(4, pt b1), (6, pt b3)] ∧ St w (fpU [box ba0 ([sl Aa0_0 a0.code ca0_0, i6 a0.at_, .int .u64 a0.seed]) 145]) w1 [box ba0 ([sl Aa0_0 a0.code ca0_0, i6 y16, .int .u64 y17]) 145, box b1 ([.slice none 0 0, .slice none 0 0, .slice none 0 0]) 28, box b3 ([sl A8 y7 c9, sl A11 y10 c12, sl A14 y13 c15]) 28, rowC G.cs A8 c9 9 y7, rowC (ci .i16) A11 c12 49 y10, rowC (ci .u16) A14 c15 55 y13] [roC (ci .u8) Aa0_0 ca0_0 a0.code]) ?_ ?_
 refine CJ.block ?_
 replace hS := hS.addNil G.cs 9 none
 replace hS := hS.addNil (ci .i16) 49 none
 replace hS := hS.addNil (ci .u16) 55 none
 refine LQ (fun k F w1 => ∃ (y18 : Int) (y19 : Int) (y20 : Int) (y21 : List ByteArray) (y24 : List Int) (y27 : List Int) (A22 c23 A25 c26 A28 c29 : _), F = [(0, pt ba0), (4, pt b1), (5, .slice A2 q1_.length (q1_.length)), (6, pt b3), (7, i6 (IntKind.i64.wrap (1 + t4.1))), (8, i6 t5.1), (9, i6 t6.1), (10, i6 y18)] ∧ St w (fpU [box ba0 ([sl Aa0_0 a0.code ca0_0, i6 a0.at_, .int .u64 a0.seed]) 145]) w1 [box ba0 ([sl Aa0_0 a0.code ca0_0, i6 y19, .int .u64 y20]) 145, box b1 ([.slice none 0 0, .slice none 0 0, .slice none 0 0]) 28, rowC G.cs A2 (q1_.length) 9 q1_, box b3 ([sl A22 y21 c23, sl A25 y24 c26, sl A28 y27 c29]) 28, rowC G.cs A22 c23 9 y21, rowC (ci .i16) A25 c26 49 y24, rowC (ci .u16) A28 c29 55 y27] [roC (ci .u8) Aa0_0 ca0_0 a0.code] ∧ spec_l06Drawn.l1 a0 t4 t5 t6 k y18 y19 y20 y21 y24 y27 = some j1) k H hS ?_
 rintro k F w1 ⟨y18, y19, y20, y21, y24, y27, A22, c23, A25, c26, A28, c29, rfl, hS, H⟩
 rw [spec_l06Drawn.l1] at H
 refine GO ?_
 refine CP H (fun H => ?_) (fun H => ?_)
 refine CJ.skip (EJ.next ?_)
 obtain ⟨j8, H, K8⟩ := pbind H
 refine CJ.cut (fun F w1 => ∃ y30 y33 y36 y39 y40 A31 c32 A34 c35 A37 c38, some j8 = some (y30, y33, y36, y39, y40) ∧ F = [(0, pt ba0), (4, pt b1), (5, .slice A2 q1_.length (q1_.length)), (6, pt b3), (7, i6 (IntKind.i64.wrap (1 + t4.1))), (8, i6 t5.1), (9, i6 t6.1), (10, i6 y18)] ∧ St w (fpU [box ba0 ([sl Aa0_0 a0.code ca0_0, i6 a0.at_, .int .u64 a0.seed]) 145]) w1 [box ba0 ([sl Aa0_0 a0.code ca0_0, i6 y39, .int .u64 y40]) 145, box b1 ([.slice none 0 0, .slice none 0 0, .slice none 0 0]) 28, rowC G.cs A2 (q1_.length) 9 q1_, box b3 ([sl A31 y30 c32, sl A34 y33 c35, sl A37 y36 c38]) 28, rowC G.cs A31 c32 9 y30, rowC (ci .i16) A34 c35 49 y33, rowC (ci .u16) A37 c38 55 y36] [roC (ci .u8) Aa0_0 ca0_0 a0.code]) ?_ ?_
 refine CJ.block ?_
 refine GO ?_
 refine CJ.draw [] [0, 1, 2, 3, 4, 5, 6, 7, 8, 9, 10, 11, 12] mixed (by kernel_rfl) hS fun w1 hS => ?_
 refine GO ?_
 refine dS (SL (cf hS 3 0)) ?_
 refine DJ.st rfl rfl rfl rfl rfl (SR.rem rfl rfl rfl (by decide)) ?_
 obtain ⟨t41, ht41, H⟩ := pbind H
 obtain ⟨ad41, e41⟩ := (rC hS 2 Z).some' ht41
 refine DS (SI e41 (getI_some ht41).1) ?_
 refine DS (SL ((rC hS 2 Z).at_ e41 ht41)) ?_
 refine DF (EL hS G.cs ([t41] : List ByteArray)) ?_
 rintro _ w1 ⟨A42, rfl, hS⟩
 obtain ⟨u43, hu43, H⟩ := pbind H
 refine DW (AP hS 4 (rC hS 7 Z) (chk_some hu43)) ?_
 rintro _ w1 ⟨A44, c45, rfl, hS⟩
 refine GO ?_
 refine dE (WS hS 3 [sl A44 (y21 ++ ([t41] : List ByteArray)) c45] [sl A44 (y21 ++ ([t41] : List ByteArray)) c45, sl A25 y24 c26, sl A28 y27 c29]) fun w1 hS => ?_
 obtain ⟨t47, ht47, H⟩ := pbind H
 obtain ⟨u49, hu49, H⟩ := pbind H
 refine CJ.cut1 (fun F w1 => ∃ (A46 A48 A50 c51 : _), F = [(0, pt ba0), (4, pt b1), (5, .slice A2 q1_.length (q1_.length)), (6, pt b3), (7, i6 (IntKind.i64.wrap (1 + t4.1))), (8, i6 t5.1), (9, i6 t6.1), (10, i6 y18)] ∧ St w (fpU [box ba0 ([sl Aa0_0 a0.code ca0_0, i6 a0.at_, .int .u64 a0.seed]) 145]) w1 [box ba0 ([sl Aa0_0 a0.code ca0_0, i6 t47.2.at_, .int .u64 t47.2.seed]) 145, box b1 ([.slice none 0 0, .slice none 0 0, .slice none 0 0]) 28, rowC G.cs A2 (q1_.length) 9 q1_, box b3 ([sl A44 (y21 ++ ([t41] : List ByteArray)) c45, sl A50 (y24 ++ ([IntKind.i16.wrap t47.1] : List Int)) c51, sl A28 y27 c29]) 28, rowC G.cs A44 c45 9 (y21 ++ ([t41] : List ByteArray)), rowC (ci .i16) A50 c51 49 (y24 ++ ([IntKind.i16.wrap t47.1] : List Int)), rowC (ci .u16) A28 c29 55 y27, rowC G.cs A42 (([t41] : List ByteArray).length) 9 ([t41] : List ByteArray), rowC (ci .i64) A46 (([0, 3, 5, 7, 100] : List Int).length) 2 ([0, 3, 5, 7, 100] : List Int), rowC (ci .i16) A48 (([IntKind.i16.wrap t47.1] : List Int).length) 49 ([IntKind.i16.wrap t47.1] : List Int)] [roC (ci .u8) Aa0_0 ca0_0 a0.code]) ?_ ?_
 refine CJ.drawT [9] [3, 4, 6, 7] (.one 0 (.one 1 (.one 2 (.one 3 (.one 4 (.one 5 (.one 6 (.one 7 (.one 8 (.one 9 (.fin))))))))))) mixed (by kernel_rfl) hS [3] fun w1 hS hY hV => ?_
 refine TP (fun _ => SF) ?_
 refine TL hY (fun w2 hY => SL (CA.sub ((hV w2 hY).cellsR (i := 1) Z) 1)) ?_
 refine GO ?_
 refine TF hY (EL hS (ci .i64) ([0, 3, 5, 7, 100] : List Int)) ?_
 rintro _ w1 hY ⟨A52, rfl, hS⟩
 refine TJ.callFw rfl rfl rfl rfl rfl rfl rfl hb95 rfl (spec_l00Src_among.c (⟨a0.code, y19, y20⟩ : l00Src) ba0 (((hS.subs [0] [0] [8] rfl).rToRo (i := 1) rfl).pick [0] [0, 1] rfl) _ ht47) (by rintro _ w1 ⟨rfl, hs⟩; exact hY.wr (hS.inP [3] 1 rfl rfl [0] rfl) hs.chg) ?_
 rintro _ w1 hY ⟨rfl, hs⟩
 replace hS := hS.back [0] Z Z [box ba0 ([sl Aa0_0 a0.code ca0_0, i6 t47.2.at_, .int .u64 t47.2.seed]) 145] [] hs ⟨fun _ => Iff.rfl, trivial⟩
 have hS : St _ _ _ [_, _, _, _, _, _, _, _, _] _ := hS
 have hS : St _ _ _ [_, _, _, _, _, _, _, _, _] _ := hS
 refine GO ?_
 refine TF hY (EL hS (ci .i16) ([IntKind.i16.wrap t47.1] : List Int)) ?_
 rintro _ w1 hY ⟨A53, rfl, hS⟩
 refine tW [3] 5 1 hY hS (rC hS 9 Z) (chk_some hu49) fun A54 c55 w1 hY (hS : St _ _ _ [_, _, _, _, _, _, _, _, _, _] _) => ?_
 refine TP (fun _ => SF) ?_
 refine TB (WS hS 3 [sl A54 (y24 ++ ([IntKind.i16.wrap t47.1] : List Int)) c55] [sl A44 (y21 ++ ([t41] : List ByteArray)) c45, sl A54 (y24 ++ ([IntKind.i16.wrap t47.1] : List Int)) c55, sl A28 y27 c29]) ?_
 intro w1 hS
 exact MD H hS
 rintro F w1 ⟨A46, A48, A50, c51, rfl, hS⟩
 refine EJ.next ?_
 refine GO ?_
 refine OS (SL (cf hS 3 2)) ?_
 refine OF (EL hS (ci .u16) ([0] : List Int)) ?_
 rintro _ w1 ⟨A56, rfl, hS⟩
 obtain ⟨u57, hu57, H⟩ := pbind H
 refine OW (AP hS 6 (rC hS 10 Z) (chk_some hu57)) ?_
 rintro _ w1 ⟨A58, c59, rfl, hS⟩
 refine GO ?_
 refine oE (WS hS 3 [sl A58 (y27 ++ ([0] : List Int)) c59] [sl A44 (y21 ++ ([t41] : List ByteArray)) c45, sl A50 (y24 ++ ([IntKind.i16.wrap t47.1] : List Int)) c51, sl A58 (y27 ++ ([0] : List Int)) c59]) fun w1 hS => ?_
 obtain ⟨j10, H, K10⟩ := pbind H
 refine CJ.cut1 (fun F w1 => ∃ y60 y61 y62, some j10 = some (y60, y61, y62) ∧ F = [(0, pt ba0), (4, pt b1), (5, .slice A2 q1_.length (q1_.length)), (6, pt b3), (7, i6 (IntKind.i64.wrap (1 + t4.1))), (8, i6 t5.1), (9, i6 t6.1), (10, i6 y18)] ∧ St w (fpU [box ba0 ([sl Aa0_0 a0.code ca0_0, i6 a0.at_, .int .u64 a0.seed]) 145]) w1 [box ba0 ([sl Aa0_0 a0.code ca0_0, i6 y61, .int .u64 y62]) 145, box b1 ([.slice none 0 0, .slice none 0 0, .slice none 0 0]) 28, rowC G.cs A2 (q1_.length) 9 q1_, box b3 ([sl A44 (y21 ++ ([t41] : List ByteArray)) c45, sl A50 (y24 ++ ([IntKind.i16.wrap t47.1] : List Int)) c51, sl A58 y60 c59]) 28, rowC G.cs A44 c45 9 (y21 ++ ([t41] : List ByteArray)), rowC (ci .i16) A50 c51 49 (y24 ++ ([IntKind.i16.wrap t47.1] : List Int)), rowC (ci .u16) A58 c59 55 y60] [roC (ci .u8) Aa0_0 ca0_0 a0.code]) ?_ ?_
 refine CJ.block ?_
 refine LQ (fun k F w1 => ∃ (y63 : List Int) (y64 : Int) (y65 : Int) (y66 : Int), F = [(0, pt ba0), (4, pt b1), (5, .slice A2 q1_.length (q1_.length)), (6, pt b3), (7, i6 (IntKind.i64.wrap (1 + t4.1))), (8, i6 t5.1), (9, i6 t6.1), (10, i6 y18), (11, i6 y64)] ∧ St w (fpU [box ba0 ([sl Aa0_0 a0.code ca0_0, i6 a0.at_, .int .u64 a0.seed]) 145]) w1 [box ba0 ([sl Aa0_0 a0.code ca0_0, i6 y65, .int .u64 y66]) 145, box b1 ([.slice none 0 0, .slice none 0 0, .slice none 0 0]) 28, rowC G.cs A2 (q1_.length) 9 q1_, box b3 ([sl A44 (y21 ++ ([t41] : List ByteArray)) c45, sl A50 (y24 ++ ([IntKind.i16.wrap t47.1] : List Int)) c51, sl A58 y63 c59]) 28, rowC G.cs A44 c45 9 (y21 ++ ([t41] : List ByteArray)), rowC (ci .i16) A50 c51 49 (y24 ++ ([IntKind.i16.wrap t47.1] : List Int)), rowC (ci .u16) A58 c59 55 y63] [roC (ci .u8) Aa0_0 ca0_0 a0.code] ∧ spec_l06Drawn.l2 a0 t4 y18 y21 y24 t41 t47 k y63 y64 y65 y66 = some j10) k H hS ?_
 rintro k F w1 ⟨y63, y64, y65, y66, rfl, hS, H⟩
 rw [spec_l06Drawn.l2] at H
 refine GO ?_
 refine CP H (fun H => GO ?_) (fun H => ?_)
 refine CJ.block ?_
 refine GO ?_
 obtain ⟨t67, ht67, H⟩ := pbind H
 refine OC hb97 (spec_l00Src_one.c (⟨a0.code, y65, y66⟩ : l00Src) ba0 ((hS.subs [0] [0] [] Z).pick [0] [0] Z) _ ht67) ?_
 rintro _ w1 ⟨rfl, hs⟩
 replace hS := hS.back [0] Z Z [box ba0 ([sl Aa0_0 a0.code ca0_0, i6 t67.2.at_, .int .u64 t67.2.seed]) 145] [] hs ⟨fun _ => Iff.rfl, trivial⟩
 have hS : St _ _ _ [_, _, _, _, _, _, _] _ := hS
 have hS : St _ _ _ [_, _, _, _, _, _, _] _ := hS
 obtain ⟨t68, ht68, H⟩ := pbind H
 refine OC hb96 (spec_l06Put.c (⟨y21 ++ ([t41] : List ByteArray), y24 ++ ([IntKind.i16.wrap t47.1] : List Int), y63⟩ : Herd) ⟨b3, 0, none⟩ (((hS.subs [6] [] [3] Z).rToRoP (i := 0) Z).pick [0] [0] Z) _ ht68) ?_
 rintro _ w1 ⟨rfl, hs, hlc0⟩
 replace hS := hS.back [6] Z Z [rowC (ci .u16) A58 c59 55 t68] [] hs ⟨fun _ => Iff.rfl, trivial⟩
 have hS : St _ _ _ [_, _, _, _, _, _, _] _ := hS
 replace hS := hS.boxAs (i := 3) rfl (show _ = ([.slice A44 (y21 ++ ([t41] : List ByteArray)).length c45, .slice A50 (y24 ++ ([IntKind.i16.wrap t47.1] : List Int)).length c51, .slice A58 t68.length c59] : List Value) by simp only [hlc0])
 have hS : St _ _ _ [_, _, _, _, _, _, _] _ := hS
 exact MD H hS
 exact MD H hS
 rintro F w1 ⟨y60, y61, y62, ⟨⟩, rfl, hS⟩
 have H := K10
 refine EJ.blk (?_)
 exact MD H hS
 rintro F w1 ⟨y30, y33, y36, y39, y40, A31, c32, A34, c35, A37, c38, ⟨⟩, rfl, hS⟩
 have H := K8
 exact MD H hS
 exact MD H hS
 rintro F w1 ⟨y7, y10, y13, y16, y17, A8, c9, A11, c12, A14, c15, ⟨⟩, rfl, hS⟩
 have H := K1
 refine EJ.next ?_
 refine GO ?_
 refine OS (SN [sl A8 y7 c9, sl A11 y10 c12, sl A14 y13 c15] (ce hS 2)) ?_
 refine oE (WV hS 1 [sl A8 y7 c9, sl A11 y10 c12, sl A14 y13 c15]) fun w1 hS => ?_
 obtain rfl := Option.some.inj H
 exact EJ.fin Z (.cell Z (ldN oU oI Z Z Z (hS.cells (i := 1) Z) (ds := [sl A8 y7 c9, sl A11 y10 c12, sl A14 y13 c15]) Z Z) .nil) ⟨A8, c9, A11, c12, A14, c15, Z, hS.pick [0, 3, 4, 5] [] Z⟩

def spec_A2Herd.f (k : Nat) (a0 : List Int) : Option Herd := (spec_l00From.f a0).bind fun t2 => (spec_l06Drawn.f k (⟨a0, t2.at_, t2.seed⟩ : l00Src) 7).bind fun t4 => some t4.1
theorem spec_A2Herd.c {k w Aa0 ca0} {a0 : List Int} (hr0 : Rd (ci .u8) w Aa0 a0) (hc0 : a0.length ≤ ca0) (r : Herd) (H : spec_A2Herd.f k a0 = some r) :
 CV Tryz.prog 6 [sl Aa0 a0 ca0].toArray w fun v w' => ∃ (A0_0 : Option Addr) (c0_0 : Nat) (A0_1 : Option Addr) (c0_1 : Nat) (A0_2 : Option Addr) (c0_2 : Nat), v = .agg (hv A0_0 A0_1 A0_2 c0_0 c0_1 c0_2 r).toArray ∧ St w no w' [rowC G.cs A0_0 c0_0 9 r.Names, rowC (ci .i16) A0_1 c0_1 49 r.Eats, rowC (ci .u16) A0_2 c0_2 55 r.Foes] [] := by
 have hS := ((St.init w no).param (ci .u8) Aa0 ca0 a0 hr0 hc0)
 unfold spec_A2Herd.f at H
 refine CV.body Tryz.func6 Z Tryz.ntmps6 Z ?_
 refine GO ?_
 refine oA hS ([.slice none 0 0, .slice none 0 0, .slice none 0 0]) fun b1 w1 hS => ?_
 obtain ⟨t2, ht2, H⟩ := pbind H
 refine OC hb36 (spec_l00From.c (rA hS 0 Z) (rB hS 0 Z) _ ht2) ?_
 rintro _ w1 ⟨b3, rfl, hs⟩
 replace hS := hS.addN hs
 obtain ⟨t4, ht4, H⟩ := pbind H
 refine OC hb35 (spec_l06Drawn.c (⟨a0, t2.at_, t2.seed⟩ : l00Src) b3 ((hS.subs [1] [0] [] Z).pick [0] [0] Z) _ ht4) ?_
 rintro _ w1 ⟨A5, c6, A7, c8, A9, c10, rfl, hs⟩
 replace hS := hS.back [1] Z Z [box b3 ([sl Aa0 a0 ca0, i6 t4.2.at_, .int .u64 t4.2.seed]) 145] [rowC G.cs A5 c6 9 t4.1.Names, rowC (ci .i16) A7 c8 49 t4.1.Eats, rowC (ci .u16) A9 c10 55 t4.1.Foes] hs ⟨fun _ => Iff.rfl, trivial⟩
 refine oE (WV hS 0 [sl A5 t4.1.Names c6, sl A7 t4.1.Eats c8, sl A9 t4.1.Foes c10]) fun w1 hS => ?_
 obtain rfl := Option.some.inj H
 exact EJ.fin Z (.cell Z (ldN oU oI Z Z Z (hS.cells (i := 0) Z) (ds := [sl A5 t4.1.Names c6, sl A7 t4.1.Eats c8, sl A9 t4.1.Foes c10]) Z Z) .nil) ⟨A5, c6, A7, c8, A9, c10, Z, hS.pick [2, 3, 4] [] Z⟩

def impl_within.f (a0 : Int) (a1 : Int) (a2 : Int) : Option Bool := if a1 ≤ a0 then (some (decide (a0 ≤ a2))) else (some false)
theorem impl_within.c {w} {a0 : Int} {a1 : Int} {a2 : Int} (r : Bool) (H : impl_within.f a0 a1 a2 = some r) :
 CV Tryz.prog 53 [.int .i64 a0, i6 a1, i6 a2].toArray w fun v w' => v = .bool r ∧ Ext w w' := by
 have hS := (St.init w no)
 unfold impl_within.f at H
 refine CV.body Tryz.func53 Z Tryz.ntmps53 Z ?_
 refine GO ?_
 refine OJ.split (t := 10) Z (fun hb => ?_) (fun hb => ?_)
 replace H := pif_t (of_decide_eq_true hb) H
 exact FE H hS
 replace H := pif_f (of_decide_eq_false hb) H
 exact FE H hS

def strings_trimRightByte.l1 (a1 : Int) : Nat → ByteArray → Option ByteArray
  | 0, _ => none
  | k + 1, y2 => if 0 < (y2.size : Int) then ((getB y2 (IntKind.i64.wrap ((y2.size : Int) - 1))).bind fun t3 => if t3 = a1 then ((chk ((0 : Int) ≤ 0 ∧ 0 ≤ (IntKind.i64.wrap ((y2.size : Int) - 1)) ∧ (IntKind.i64.wrap ((y2.size : Int) - 1)) ≤ (y2.size : Int))).bind fun u4 => strings_trimRightByte.l1 a1 k (y2.extract 0 ((IntKind.i64.wrap ((y2.size : Int) - 1)).toNat))) else (some y2)) else (some y2)
def strings_trimRightByte.f (k : Nat) (a0 : ByteArray) (a1 : Int) : Option ByteArray := (strings_trimRightByte.l1 a1 k a0).bind fun y1 => some y1
theorem strings_trimRightByte.c {k w} {a0 : ByteArray} {a1 : Int} (r : ByteArray) (H : strings_trimRightByte.f k a0 a1 = some r) :
 CV Tryz.prog 149 [.string a0, .int .u8 a1].toArray w fun v w' => v = .string r ∧ Ext w w' := by
 have hS := (St.init w no)
 unfold strings_trimRightByte.f at H
 refine CV.body Tryz.func149 Z Tryz.ntmps149 Z ?_
 refine SG ?_
 refine PX 1 ?_
 obtain ⟨j17, H, K17⟩ := pbind H
 refine CJ.cut (fun F w1 => ∃ y1, some y1 = some j17 ∧ F = [(0, .string y1)] ∧ St w no w1 [] []) ?_ ?_
 refine CJ.block ?_
 refine LQ (fun k F w1 => ∃ (y2 : ByteArray), F = [(0, .string y2), (1, .int .u8 a1)] ∧ St w no w1 [] [] ∧ strings_trimRightByte.l1 a1 k y2 = some j17) k H hS ?_
 rintro k F w1 ⟨y2, rfl, hS, H⟩
 rw [strings_trimRightByte.l1] at H
 refine GO ?_
 refine OJ.split (t := 8) Z (fun hb => ?_) (fun hb => ?_)
 replace H := pif_t (of_decide_eq_true hb) H
 refine GO ?_
 obtain ⟨t3, ht3, H⟩ := pbind H
 refine OJ.st Z Z Z (SR.idxStr oU Z Z Z Z ht3) ?_
 refine GO ?_
 refine CP H (fun H => GO ?_) (fun H => ?_)
 refine CJ.block ?_
 refine GO ?_
 obtain ⟨u4, hu4, H⟩ := pbind H
 refine OJ.st rfl rfl rfl (SR.cutStr oU (0) ((IntKind.i64.wrap ((y2.size : Int) - 1)).toNat) rfl rfl rfl rfl rfl (.inl ⟨rfl, rfl⟩) (.inr ⟨_, _, rfl, (by have := (chk_some hu4); omega), rfl⟩) (by have := (chk_some hu4); omega) (by have := (chk_some hu4); omega)) ?_
 exact MD H hS
 exact MD H hS
 replace H := pif_f (of_decide_eq_false hb) H
 refine GO ?_
 refine CJ.condF Z ?_
 exact MD H hS
 rintro F w1 ⟨y1, he, rfl, hS⟩
 obtain rfl := Option.some.inj he
 have H := K17
 exact FE H hS

def strings_trimLeftByte.l1 (a1 : Int) : Nat → ByteArray → Option ByteArray
  | 0, _ => none
  | k + 1, y2 => if 0 < (y2.size : Int) then ((getB y2 0).bind fun t3 => if t3 = a1 then ((chk ((0 : Int) ≤ 1 ∧ 1 ≤ (y2.size : Int) ∧ (y2.size : Int) ≤ (y2.size : Int))).bind fun u4 => strings_trimLeftByte.l1 a1 k (y2.extract ((1 : Int).toNat) y2.size)) else (some y2)) else (some y2)
def strings_trimLeftByte.f (k : Nat) (a0 : ByteArray) (a1 : Int) : Option ByteArray := (strings_trimLeftByte.l1 a1 k a0).bind fun y1 => some y1
theorem strings_trimLeftByte.c {k w} {a0 : ByteArray} {a1 : Int} (r : ByteArray) (H : strings_trimLeftByte.f k a0 a1 = some r) :
 CV Tryz.prog 148 [.string a0, .int .u8 a1].toArray w fun v w' => v = .string r ∧ Ext w w' := by
 have hS := (St.init w no)
 unfold strings_trimLeftByte.f at H
 refine CV.body Tryz.func148 Z Tryz.ntmps148 Z ?_
 refine SG ?_
 refine PX 1 ?_
 obtain ⟨j18, H, K18⟩ := pbind H
 refine CJ.cut (fun F w1 => ∃ y1, some y1 = some j18 ∧ F = [(0, .string y1)] ∧ St w no w1 [] []) ?_ ?_
 refine CJ.block ?_
 refine LQ (fun k F w1 => ∃ (y2 : ByteArray), F = [(0, .string y2), (1, .int .u8 a1)] ∧ St w no w1 [] [] ∧ strings_trimLeftByte.l1 a1 k y2 = some j18) k H hS ?_
 rintro k F w1 ⟨y2, rfl, hS, H⟩
 rw [strings_trimLeftByte.l1] at H
 refine GO ?_
 refine OJ.split (t := 8) Z (fun hb => ?_) (fun hb => ?_)
 replace H := pif_t (of_decide_eq_true hb) H
 refine GO ?_
 obtain ⟨t3, ht3, H⟩ := pbind H
 refine OJ.st Z Z Z (SR.idxStr oU Z Z Z Z ht3) ?_
 refine GO ?_
 refine CP H (fun H => GO ?_) (fun H => ?_)
 refine CJ.block ?_
 refine GO ?_
 obtain ⟨u4, hu4, H⟩ := pbind H
 refine OJ.st rfl rfl rfl (SR.cutStr oU ((1 : Int).toNat) (y2.size) rfl rfl rfl rfl rfl (.inr ⟨_, _, rfl, (chk_some hu4).1, rfl⟩) (.inl ⟨rfl, rfl⟩) (by have := (chk_some hu4); omega) (by have := (chk_some hu4); omega)) ?_
 exact MD H hS
 exact MD H hS
 replace H := pif_f (of_decide_eq_false hb) H
 refine GO ?_
 refine CJ.condF Z ?_
 exact MD H hS
 rintro F w1 ⟨y1, he, rfl, hS⟩
 obtain rfl := Option.some.inj he
 have H := K18
 exact FE H hS

def strings_makeASCIISet.l1 (a0 : ByteArray) : Nat → (Arr 256 Bool) → Int → Option ((Arr 256 Bool × Bool) ⊕ (Arr 256 Bool))
  | 0, _, _ => none
  | k + 1, y3, y4 => if y4 < (a0.size : Int) then ((getB a0 y4).bind fun t5 => if 128 ≤ t5 then (some (Sum.inl (y3, false))) else ((getI y3.l t5).bind fun t6 => strings_makeASCIISet.l1 a0 k (aset y3 t5.toNat true) (IntKind.i64.wrap (y4 + 1)))) else (some (Sum.inr y3))
def strings_makeASCIISet.f (k : Nat) (a0 : ByteArray) : Option (Arr 256 Bool × Bool) := (strings_makeASCIISet.l1 a0 k (Arr.mk' false : Arr 256 Bool) 0).bind fun s19 => match s19 with | .inl r => some r | .inr y2 => some (y2, true)
theorem strings_makeASCIISet.c {k w} {a0 : ByteArray} (r : Arr 256 Bool × Bool) (H : strings_makeASCIISet.f k a0 = some r) :
 CV Tryz.prog 150 [.string a0].toArray w fun v w' => v = .tuple #[.agg ((carr 256 cb).enc r.1).toArray, .bool r.2] ∧ Ext w w' := by
 have hS := (St.init w no)
 unfold strings_makeASCIISet.f at H
 refine CV.body Tryz.func150 Z Tryz.ntmps150 Z ?_
 refine GO ?_
 refine OJ.ef rfl rfl rfl (Ef.alloc hS oI rfl rfl ((carr 256 cb).enc (Arr.mk' false : Arr 256 Bool)) (by kernel_rfl)) ?_
 rintro _ w1 ⟨b1, rfl, hS⟩
 refine GO ?_
 obtain ⟨j19, H, K19⟩ := pbind H
 refine CJ.cut1 (fun F w1 => ∃ y2, some j19 = some (Sum.inr y2) ∧ F = [(2, pt b1)] ∧ St w no w1 [box b1 ((carr 256 cb).enc y2) 182] []) ?_ ?_
 refine CJ.block ?_
 refine LQ (fun k F w1 => ∃ (y3 : Arr 256 Bool) (y4 : Int), F = [(0, .string a0), (2, pt b1), (4, i6 y4)] ∧ St w no w1 [box b1 ((carr 256 cb).enc y3) 182] [] ∧ strings_makeASCIISet.l1 a0 k y3 y4 = some j19) k H hS ?_
 rintro k F w1 ⟨y3, y4, rfl, hS, H⟩
 rw [strings_makeASCIISet.l1] at H
 refine GO ?_
 refine CP H (fun H => GO ?_) (fun H => ?_)
 refine CJ.block ?_
 refine GO ?_
 obtain ⟨t5, ht5, H⟩ := pbind H
 refine OJ.st Z Z Z (SR.idxStr oU Z Z Z Z ht5) ?_
 refine GO ?_
 refine CP H (fun H => GO ?_) (fun H => ?_)
 refine OS (SE (ce hS 0)) ?_
 refine OJ.es rfl rfl (Es.put oI hS (i := 0) rfl rfl rfl rfl rfl (vs := (carr 256 cb).enc y3) rfl ((carr 256 cb).len _) ((carr 256 cb).one _) (Put.all (carr 256 cb) y3 y3) (by (try simp only [add_lit, Nat.add_assoc, Nat.zero_add, Nat.add_zero]) <;> rfl)) ?_
 intro w1 hS
 refine GO ?_
 obtain rfl := Option.some.inj H; have H := K19
 obtain rfl := Option.some.inj H
 exact EJ.fin Z (.cell Z (ldE oU oI Z Z Z (hS.cells (i := 0) Z) Z) (.tmp Z .nil)) ⟨Z, hS.ext⟩
 refine GO ?_
 obtain ⟨t6, ht6, H⟩ := pbind H
 refine OJ.st Z Z Z (SR.idxA oU oI Z Z Z Z Z (Arr.lt ht6)) ?_
 refine OJ.es rfl rfl (Es.put oI hS (i := 0) rfl rfl rfl rfl rfl (vs := cb.enc true) rfl rfl (one1 rfl) (Put.idx (Put.all cb t6 true) ht6) (by (try simp only [add_lit, Nat.add_assoc, Nat.zero_add, Nat.add_zero]) <;> rfl)) ?_
 intro w1 hS
 exact MD H hS
 exact MD H hS
 rintro F w1 ⟨y2, ⟨⟩, rfl, hS⟩
 have H := K19
 refine EJ.next ?_
 refine GO ?_
 refine OS (SE (ce hS 0)) ?_
 refine OJ.es rfl rfl (Es.put oI hS (i := 0) rfl rfl rfl rfl rfl (vs := (carr 256 cb).enc y2) rfl ((carr 256 cb).len _) ((carr 256 cb).one _) (Put.all (carr 256 cb) y2 y2) (by (try simp only [add_lit, Nat.add_assoc, Nat.zero_add, Nat.add_zero]) <;> rfl)) ?_
 intro w1 hS
 refine GO ?_
 obtain rfl := Option.some.inj H
 exact EJ.fin Z (.cell Z (ldE oU oI Z Z Z (hS.cells (i := 0) Z) Z) (.tmp Z .nil)) ⟨Z, hS.ext⟩

def strings_asciiSet_contains.f (a0 : Arr 256 Bool) (a1 : Int) : Option Bool := (getI a0.l a1).bind fun t1 => some t1
theorem strings_asciiSet_contains.c {w} (pa0 : Addr) (a0 : Arr 256 Bool) (hp0 : CA w pa0 ((carr 256 cb).enc a0)) {a1 : Int} (r : Bool) (H : strings_asciiSet_contains.f a0 a1 = some r) :
 CV Tryz.prog 179 [.pointer (some pa0), .int .u8 a1].toArray w fun v w' => v = .bool r ∧ Ext w w' := by
 have hS := ((St.init w no).paramP pa0 ((carr 256 cb).enc a0) hp0)
 unfold strings_asciiSet_contains.f at H
 refine CV.body Tryz.func179 Z Tryz.ntmps179 Z ?_
 refine GO ?_
 obtain ⟨t1, ht1, H⟩ := pbind H
 refine OJ.st Z Z Z (SR.idxA oU oI Z Z Z Z Z (Arr.lt ht1)) ?_
 refine OS (SL (CA.idx (hS.ca (i := 0) Z) ht1)) ?_
 exact FE H hS

def strings_trimRightASCII.l1 (a1 : Arr 256 Bool) : Nat → ByteArray → Option ByteArray
  | 0, _ => none
  | k + 1, y2 => if 0 < (y2.size : Int) then ((getB y2 (IntKind.i64.wrap ((y2.size : Int) - 1))).bind fun t3 => (strings_asciiSet_contains.f a1 t3).bind fun t4 => if (!t4) = true then (some y2) else ((chk ((0 : Int) ≤ 0 ∧ 0 ≤ (IntKind.i64.wrap ((y2.size : Int) - 1)) ∧ (IntKind.i64.wrap ((y2.size : Int) - 1)) ≤ (y2.size : Int))).bind fun u5 => strings_trimRightASCII.l1 a1 k (y2.extract 0 ((IntKind.i64.wrap ((y2.size : Int) - 1)).toNat)))) else (some y2)
def strings_trimRightASCII.f (k : Nat) (a0 : ByteArray) (a1 : Arr 256 Bool) : Option ByteArray := (strings_trimRightASCII.l1 a1 k a0).bind fun y1 => some y1
theorem strings_trimRightASCII.c {k w} {a0 : ByteArray} (pa1 : Addr) (a1 : Arr 256 Bool) (hp1 : CA w pa1 ((carr 256 cb).enc a1)) (r : ByteArray) (H : strings_trimRightASCII.f k a0 a1 = some r) :
 CV Tryz.prog 152 [.string a0, .pointer (some pa1)].toArray w fun v w' => v = .string r ∧ Ext w w' := by
 have hS := ((St.init w no).paramP pa1 ((carr 256 cb).enc a1) hp1)
 unfold strings_trimRightASCII.f at H
 refine CV.body Tryz.func152 Z Tryz.ntmps152 Z ?_
 refine SG ?_
 refine PX 1 ?_
 obtain ⟨j20, H, K20⟩ := pbind H
 refine CJ.cut (fun F w1 => ∃ y1, some y1 = some j20 ∧ F = [(0, .string y1)] ∧ St w no w1 [] [roP pa1 ((carr 256 cb).enc a1)]) ?_ ?_
 refine CJ.block ?_
 refine LQ (fun k F w1 => ∃ (y2 : ByteArray), F = [(0, .string y2), (1, .pointer (some pa1))] ∧ St w no w1 [] [roP pa1 ((carr 256 cb).enc a1)] ∧ strings_trimRightASCII.l1 a1 k y2 = some j20) k H hS ?_
 rintro k F w1 ⟨y2, rfl, hS, H⟩
 rw [strings_trimRightASCII.l1] at H
 refine GO ?_
 refine CP H (fun H => GO ?_) (fun H => ?_)
 refine CJ.block ?_
 refine GO ?_
 obtain ⟨t3, ht3, H⟩ := pbind H
 refine OJ.st Z Z Z (SR.idxStr oU Z Z Z Z ht3) ?_
 refine oB H hS hb179 (strings_asciiSet_contains.c _ a1 (hS.ca (i := 0) Z)) fun t4 w1 H hS => ?_
 refine CB H (fun H => ?_) (fun H => ?_)
 refine CJ.exit (EJ.skE (EJ.bkE Z (EJ.skE (EJ.hit (?_)))))
 exact MD H hS
 refine GO ?_
 obtain ⟨u5, hu5, H⟩ := pbind H
 refine OJ.st rfl rfl rfl (SR.cutStr oU (0) ((IntKind.i64.wrap ((y2.size : Int) - 1)).toNat) rfl rfl rfl rfl rfl (.inl ⟨rfl, rfl⟩) (.inr ⟨_, _, rfl, (by have := (chk_some hu5); omega), rfl⟩) (by have := (chk_some hu5); omega) (by have := (chk_some hu5); omega)) ?_
 exact MD H hS
 exact MD H hS
 rintro F w1 ⟨y1, he, rfl, hS⟩
 obtain rfl := Option.some.inj he
 have H := K20
 exact FE H hS

def strings_trimLeftASCII.l1 (a1 : Arr 256 Bool) : Nat → ByteArray → Option ByteArray
  | 0, _ => none
  | k + 1, y2 => if 0 < (y2.size : Int) then ((getB y2 0).bind fun t3 => (strings_asciiSet_contains.f a1 t3).bind fun t4 => if (!t4) = true then (some y2) else ((chk ((0 : Int) ≤ 1 ∧ 1 ≤ (y2.size : Int) ∧ (y2.size : Int) ≤ (y2.size : Int))).bind fun u5 => strings_trimLeftASCII.l1 a1 k (y2.extract ((1 : Int).toNat) y2.size))) else (some y2)
def strings_trimLeftASCII.f (k : Nat) (a0 : ByteArray) (a1 : Arr 256 Bool) : Option ByteArray := (strings_trimLeftASCII.l1 a1 k a0).bind fun y1 => some y1
theorem strings_trimLeftASCII.c {k w} {a0 : ByteArray} (pa1 : Addr) (a1 : Arr 256 Bool) (hp1 : CA w pa1 ((carr 256 cb).enc a1)) (r : ByteArray) (H : strings_trimLeftASCII.f k a0 a1 = some r) :
 CV Tryz.prog 151 [.string a0, .pointer (some pa1)].toArray w fun v w' => v = .string r ∧ Ext w w' := by
 have hS := ((St.init w no).paramP pa1 ((carr 256 cb).enc a1) hp1)
 unfold strings_trimLeftASCII.f at H
 refine CV.body Tryz.func151 Z Tryz.ntmps151 Z ?_
 refine SG ?_
 refine PX 1 ?_
 obtain ⟨j21, H, K21⟩ := pbind H
 refine CJ.cut (fun F w1 => ∃ y1, some y1 = some j21 ∧ F = [(0, .string y1)] ∧ St w no w1 [] [roP pa1 ((carr 256 cb).enc a1)]) ?_ ?_
 refine CJ.block ?_
 refine LQ (fun k F w1 => ∃ (y2 : ByteArray), F = [(0, .string y2), (1, .pointer (some pa1))] ∧ St w no w1 [] [roP pa1 ((carr 256 cb).enc a1)] ∧ strings_trimLeftASCII.l1 a1 k y2 = some j21) k H hS ?_
 rintro k F w1 ⟨y2, rfl, hS, H⟩
 rw [strings_trimLeftASCII.l1] at H
 refine GO ?_
 refine CP H (fun H => GO ?_) (fun H => ?_)
 refine CJ.block ?_
 refine GO ?_
 obtain ⟨t3, ht3, H⟩ := pbind H
 refine OJ.st Z Z Z (SR.idxStr oU Z Z Z Z ht3) ?_
 refine oB H hS hb179 (strings_asciiSet_contains.c _ a1 (hS.ca (i := 0) Z)) fun t4 w1 H hS => ?_
 refine CB H (fun H => ?_) (fun H => ?_)
 refine CJ.exit (EJ.skE (EJ.bkE Z (EJ.skE (EJ.hit (?_)))))
 exact MD H hS
 refine GO ?_
 obtain ⟨u5, hu5, H⟩ := pbind H
 refine OJ.st rfl rfl rfl (SR.cutStr oU ((1 : Int).toNat) (y2.size) rfl rfl rfl rfl rfl (.inr ⟨_, _, rfl, (chk_some hu5).1, rfl⟩) (.inl ⟨rfl, rfl⟩) (by have := (chk_some hu5); omega) (by have := (chk_some hu5); omega)) ?_
 exact MD H hS
 exact MD H hS
 rintro F w1 ⟨y1, he, rfl, hS⟩
 obtain rfl := Option.some.inj he
 have H := K21
 exact FE H hS

def unicode_utf8_RuneStart.f (a0 : Int) : Option Bool := some (decide ((andI .u8 a0 192) ≠ 128))
theorem unicode_utf8_RuneStart.c {w} {a0 : Int} (r : Bool) (H : unicode_utf8_RuneStart.f a0 = some r) :
 CV Tryz.prog 210 [.int .u8 a0].toArray w fun v w' => v = .bool r ∧ Ext w w' := by
 have hS := (St.init w no)
 unfold unicode_utf8_RuneStart.f at H
 refine CV.body Tryz.func210 Z Tryz.ntmps210 Z ?_
 exact FE H hS

def unicode_utf8_decodeRuneInStringSlow.f (a0 : ByteArray) : Option (Int × Int) := if (a0.size : Int) < 1 then (some (65533, 0)) else none
theorem unicode_utf8_decodeRuneInStringSlow.c {w} {a0 : ByteArray} (r : Int × Int) (H : unicode_utf8_decodeRuneInStringSlow.f a0 = some r) :
 CV Tryz.prog 196 [.string a0].toArray w fun v w' => v = .tuple #[.int .i32 r.1, i6 r.2] ∧ Ext w w' := by
 have hS := (St.init w no)
 unfold unicode_utf8_decodeRuneInStringSlow.f at H
 refine CV.body Tryz.func196 Z Tryz.ntmps196 Z ?_
 refine GO ?_
 refine CP H (fun H => ?_) (fun H => ?_)
 exact FE H hS
 cases H

def unicode_utf8_DecodeRuneInString.f (a0 : ByteArray) : Option (Int × Int) := (if a0 ≠ ByteArray.empty then ((getB a0 0).bind fun t2 => some (decide (t2 < 128))) else (some false)).bind fun y1 => if y1 = true then ((getB a0 0).bind fun t3 => some (IntKind.i32.wrap t3, 1)) else ((unicode_utf8_decodeRuneInStringSlow.f a0).bind fun t4 => some (t4.1, t4.2))
theorem unicode_utf8_DecodeRuneInString.c {w} {a0 : ByteArray} (r : Int × Int) (H : unicode_utf8_DecodeRuneInString.f a0 = some r) :
 CV Tryz.prog 166 [.string a0].toArray w fun v w' => v = .tuple #[.int .i32 r.1, i6 r.2] ∧ Ext w w' := by
 have hS := (St.init w no)
 unfold unicode_utf8_DecodeRuneInString.f at H
 refine CV.body Tryz.func166 Z Tryz.ntmps166 Z ?_
 refine SG ?_
 refine PX 2 ?_
 refine CJ.seq ?_
 obtain ⟨j24, H, K24⟩ := pbind H
 refine CJ.cut (fun F w1 => ∃ y1, some y1 = some j24 ∧ F = [(0, .string a0), (10, .bool y1)] ∧ St w no w1 [] []) ?_ ?_
 refine GO ?_
 refine OJ.split (t := 6) Z (fun hb => ?_) (fun hb => ?_)
 replace H := pif_t (of_decide_eq_true hb) H
 refine GO ?_
 obtain ⟨t2, ht2, H⟩ := pbind H
 refine OJ.st Z Z Z (SR.idxStr oU Z Z Z Z ht2) ?_
 exact MD H hS
 replace H := pif_f (of_decide_eq_false hb) H
 exact MD H hS
 rintro F w1 ⟨y1, he, rfl, hS⟩
 obtain rfl := Option.some.inj he
 have H := K24
 refine CB H (fun H => GO ?_) (fun H => ?_)
 obtain ⟨t3, ht3, H⟩ := pbind H
 refine OJ.st Z Z Z (SR.idxStr oU Z Z Z Z ht3) ?_
 exact FE H hS
 refine GO ?_
 refine OB H hS hb196 (unicode_utf8_decodeRuneInStringSlow.c) fun t4 w1 H hS => ?_
 exact FE H hS

def unicode_utf8_DecodeLastRuneInString.l1 (a0 : ByteArray) : Nat → Int → Option Int
  | 0, _ => none
  | k + 1, y3 => if (if (IntKind.i64.wrap ((a0.size : Int) - 4)) < 0 then 0 else (IntKind.i64.wrap ((a0.size : Int) - 4))) ≤ y3 then ((getB a0 y3).bind fun t4 => (unicode_utf8_RuneStart.f t4).bind fun t5 => if t5 = true then (some y3) else (unicode_utf8_DecodeLastRuneInString.l1 a0 k (IntKind.i64.wrap (y3 - 1)))) else (some y3)
def unicode_utf8_DecodeLastRuneInString.f (k : Nat) (a0 : ByteArray) : Option (Int × Int) := if (a0.size : Int) = 0 then (some (65533, 0)) else ((getB a0 (IntKind.i64.wrap ((a0.size : Int) - 1))).bind fun t1 => if (IntKind.i32.wrap t1) < 128 then (some (IntKind.i32.wrap t1, 1)) else ((unicode_utf8_DecodeLastRuneInString.l1 a0 k (IntKind.i64.wrap ((IntKind.i64.wrap ((a0.size : Int) - 1)) - 1))).bind fun y2 => if y2 < 0 then ((chk ((0 : Int) ≤ 0 ∧ 0 ≤ (a0.size : Int) ∧ (a0.size : Int) ≤ (a0.size : Int))).bind fun u6 => (unicode_utf8_DecodeRuneInString.f (a0.extract ((0 : Int).toNat) ((a0.size : Int).toNat))).bind fun t7 => if (IntKind.i64.wrap (0 + t7.2)) ≠ (a0.size : Int) then (some (65533, 1)) else (some (t7.1, t7.2))) else ((chk ((0 : Int) ≤ y2 ∧ y2 ≤ (a0.size : Int) ∧ (a0.size : Int) ≤ (a0.size : Int))).bind fun u8 => (unicode_utf8_DecodeRuneInString.f (a0.extract y2.toNat ((a0.size : Int).toNat))).bind fun t9 => if (IntKind.i64.wrap (y2 + t9.2)) ≠ (a0.size : Int) then (some (65533, 1)) else (some (t9.1, t9.2)))))
theorem unicode_utf8_DecodeLastRuneInString.c {k w} {a0 : ByteArray} (r : Int × Int) (H : unicode_utf8_DecodeLastRuneInString.f k a0 = some r) :
 CV Tryz.prog 181 [.string a0].toArray w fun v w' => v = .tuple #[.int .i32 r.1, i6 r.2] ∧ Ext w w' := by
 have hS := (St.init w no)
 unfold unicode_utf8_DecodeLastRuneInString.f at H
 refine CV.body Tryz.func181 Z Tryz.ntmps181 Z ?_
 refine GO ?_
 refine CP H (fun H => ?_) (fun H => ?_)
 exact FE H hS
 refine GO ?_
 obtain ⟨t1, ht1, H⟩ := pbind H
 refine OJ.st Z Z Z (SR.idxStr oU Z Z Z Z ht1) ?_
 refine GO ?_
 refine CP H (fun H => ?_) (fun H => ?_)
 exact FE H hS
 refine GO ?_
 obtain ⟨j23, H, K23⟩ := pbind H
 refine CJ.cut1 (fun F w1 => ∃ y2, some y2 = some j23 ∧ F = [(0, .string a0), (4, i6 (a0.size : Int)), (5, i6 y2)] ∧ St w no w1 [] []) ?_ ?_
 refine CJ.block ?_
 refine LQ (fun k F w1 => ∃ (y3 : Int), F = [(0, .string a0), (4, i6 (a0.size : Int)), (5, i6 y3), (6, i6 (if (IntKind.i64.wrap ((a0.size : Int) - 4)) < 0 then 0 else (IntKind.i64.wrap ((a0.size : Int) - 4))))] ∧ St w no w1 [] [] ∧ unicode_utf8_DecodeLastRuneInString.l1 a0 k y3 = some j23) k H hS ?_
 rintro k F w1 ⟨y3, rfl, hS, H⟩
 rw [unicode_utf8_DecodeLastRuneInString.l1] at H
 refine GO ?_
 refine CP H (fun H => GO ?_) (fun H => ?_)
 refine CJ.block ?_
 refine GO ?_
 obtain ⟨t4, ht4, H⟩ := pbind H
 refine OJ.st Z Z Z (SR.idxStr oU Z Z Z Z ht4) ?_
 refine oB H hS hb210 (unicode_utf8_RuneStart.c) fun t5 w1 H hS => ?_
 refine CB H (fun H => ?_) (fun H => ?_)
 refine CJ.exit (EJ.bkE Z (EJ.skE (EJ.skE (EJ.hit (?_)))))
 exact MD H hS
 exact MD H hS
 exact MD H hS
 rintro F w1 ⟨y2, he, rfl, hS⟩
 obtain rfl := Option.some.inj he
 have H := K23
 refine EJ.next ?_
 refine GO ?_
 refine CP H (fun H => GO ?_) (fun H => ?_)
 obtain ⟨u6, hu6, H⟩ := pbind H
 refine OJ.st rfl rfl rfl (SR.cutStr oU ((0 : Int).toNat) ((a0.size : Int).toNat) rfl rfl rfl rfl rfl (.inr ⟨_, _, rfl, (chk_some hu6).1, rfl⟩) (.inr ⟨_, _, rfl, (by have := (chk_some hu6); omega), rfl⟩) (by have := (chk_some hu6); omega) (by have := (chk_some hu6); omega)) ?_
 refine oB H hS hb166 (unicode_utf8_DecodeRuneInString.c) fun t7 w1 H hS => ?_
 refine CP H (fun H => ?_) (fun H => ?_)
 exact FE H hS
 exact FE H hS
 refine GO ?_
 obtain ⟨u8, hu8, H⟩ := pbind H
 refine OJ.st rfl rfl rfl (SR.cutStr oU (y2.toNat) ((a0.size : Int).toNat) rfl rfl rfl rfl rfl (.inr ⟨_, _, rfl, (chk_some hu8).1, rfl⟩) (.inr ⟨_, _, rfl, (by have := (chk_some hu8); omega), rfl⟩) (by have := (chk_some hu8); omega) (by have := (chk_some hu8); omega)) ?_
 refine oB H hS hb166 (unicode_utf8_DecodeRuneInString.c) fun t9 w1 H hS => ?_
 refine CP H (fun H => ?_) (fun H => ?_)
 exact FE H hS
 exact FE H hS

def unicode_utf8_ValidRune.f (a0 : Int) : Option Bool := (if 0 ≤ a0 then (some (decide (a0 < 55296))) else (some false)).bind fun y1 => if y1 = true then (some true) else (if 57343 < a0 then (if a0 ≤ 1114111 then (some true) else (some false)) else (some false))
theorem unicode_utf8_ValidRune.c {w} {a0 : Int} (r : Bool) (H : unicode_utf8_ValidRune.f a0 = some r) :
 CV Tryz.prog 224 [.int .i32 a0].toArray w fun v w' => v = .bool r ∧ Ext w w' := by
 have hS := (St.init w no)
 unfold unicode_utf8_ValidRune.f at H
 refine CV.body Tryz.func224 Z Tryz.ntmps224 Z ?_
 refine GO ?_
 refine CJ.block ?_
 obtain ⟨j26, H, K26⟩ := pbind H
 refine CJ.cut (fun F w1 => ∃ y1, some y1 = some j26 ∧ F = [(0, .int .i32 a0), (3, .bool y1)] ∧ St w no w1 [] []) ?_ ?_
 refine GO ?_
 refine OJ.split (t := 6) Z (fun hb => ?_) (fun hb => ?_)
 replace H := pif_t (of_decide_eq_true hb) H
 exact MD H hS
 replace H := pif_f (of_decide_eq_false hb) H
 exact MD H hS
 rintro F w1 ⟨y1, he, rfl, hS⟩
 obtain rfl := Option.some.inj he
 have H := K26
 refine CB H (fun H => ?_) (fun H => ?_)
 exact FE H hS
 refine GO ?_
 refine OJ.split (t := 13) Z (fun hb => ?_) (fun hb => ?_)
 replace H := pif_t (of_decide_eq_true hb) H
 refine GO ?_
 refine CP H (fun H => ?_) (fun H => ?_)
 exact FE H hS
 exact FE H hS
 replace H := pif_f (of_decide_eq_false hb) H
 refine GO ?_
 refine CJ.condF Z ?_
 exact FE H hS

def strings_IndexRune.f (a0 : ByteArray) (a1 : Int) : Option Int := (if 0 ≤ a1 then (some (decide (a1 < 128))) else (some false)).bind fun y1 => if y1 = true then none else (if a1 = 65533 then none else ((unicode_utf8_ValidRune.f a1).bind fun t2 => if (!t2) = true then (some (-1)) else none))
theorem strings_IndexRune.c {w} {a0 : ByteArray} {a1 : Int} (r : Int) (H : strings_IndexRune.f a0 a1 = some r) :
 CV Tryz.prog 209 [.string a0, .int .i32 a1].toArray w fun v w' => v = .int .i64 r ∧ Ext w w' := by
 have hS := (St.init w no)
 unfold strings_IndexRune.f at H
 refine CV.body Tryz.func209 Z Tryz.ntmps209 Z ?_
 refine GO ?_
 refine CJ.block ?_
 obtain ⟨j25, H, K25⟩ := pbind H
 refine CJ.cut (fun F w1 => ∃ y1, some y1 = some j25 ∧ F = [(0, .string a0), (1, .int .i32 a1), (160, .bool y1)] ∧ St w no w1 [] []) ?_ ?_
 refine GO ?_
 refine OJ.split (t := 163) Z (fun hb => ?_) (fun hb => ?_)
 replace H := pif_t (of_decide_eq_true hb) H
 exact MD H hS
 replace H := pif_f (of_decide_eq_false hb) H
 exact MD H hS
 rintro F w1 ⟨y1, he, rfl, hS⟩
 obtain rfl := Option.some.inj he
 have H := K25
 refine CB H (fun H => ?_) (fun H => ?_)
 cases H
 refine GO ?_
 refine CP H (fun H => ?_) (fun H => ?_)
 cases H
 refine GO ?_
 refine oB H hS hb224 (unicode_utf8_ValidRune.c) fun t2 w1 H hS => ?_
 refine CB H (fun H => ?_) (fun H => ?_)
 exact FE H hS
 cases H

def strings_ContainsRune.f (a0 : ByteArray) (a1 : Int) : Option Bool := (strings_IndexRune.f a0 a1).bind fun t1 => some (decide (0 ≤ t1))
theorem strings_ContainsRune.c {w} {a0 : ByteArray} {a1 : Int} (r : Bool) (H : strings_ContainsRune.f a0 a1 = some r) :
 CV Tryz.prog 180 [.string a0, .int .i32 a1].toArray w fun v w' => v = .bool r ∧ Ext w w' := by
 have hS := (St.init w no)
 unfold strings_ContainsRune.f at H
 refine CV.body Tryz.func180 Z Tryz.ntmps180 Z ?_
 refine GO ?_
 refine OB H hS hb209 (strings_IndexRune.c) fun t1 w1 H hS => ?_
 exact FE H hS

def strings_trimRightUnicode.l1 (a1 : ByteArray) : Nat → ByteArray → Option ByteArray
  | 0, _ => none
  | k + 1, y2 => if 0 < (y2.size : Int) then ((getB y2 (IntKind.i64.wrap ((y2.size : Int) - 1))).bind fun t3 => if 128 ≤ (IntKind.i32.wrap t3) then ((unicode_utf8_DecodeLastRuneInString.f k y2).bind fun t4 => (strings_ContainsRune.f a1 t4.1).bind fun t5 => if (!t5) = true then (some y2) else ((chk ((0 : Int) ≤ 0 ∧ 0 ≤ (IntKind.i64.wrap ((y2.size : Int) - t4.2)) ∧ (IntKind.i64.wrap ((y2.size : Int) - t4.2)) ≤ (y2.size : Int))).bind fun u6 => strings_trimRightUnicode.l1 a1 k (y2.extract 0 ((IntKind.i64.wrap ((y2.size : Int) - t4.2)).toNat)))) else ((strings_ContainsRune.f a1 (IntKind.i32.wrap t3)).bind fun t7 => if (!t7) = true then (some y2) else ((chk ((0 : Int) ≤ 0 ∧ 0 ≤ (IntKind.i64.wrap ((y2.size : Int) - 1)) ∧ (IntKind.i64.wrap ((y2.size : Int) - 1)) ≤ (y2.size : Int))).bind fun u8 => strings_trimRightUnicode.l1 a1 k (y2.extract 0 ((IntKind.i64.wrap ((y2.size : Int) - 1)).toNat))))) else (some y2)
def strings_trimRightUnicode.f (k : Nat) (a0 : ByteArray) (a1 : ByteArray) : Option ByteArray := (strings_trimRightUnicode.l1 a1 k a0).bind fun y1 => some y1
theorem strings_trimRightUnicode.c {k w} {a0 : ByteArray} {a1 : ByteArray} (r : ByteArray) (H : strings_trimRightUnicode.f k a0 a1 = some r) :
 CV Tryz.prog 154 [.string a0, .string a1].toArray w fun v w' => v = .string r ∧ Ext w w' := by
 have hS := (St.init w no)
 unfold strings_trimRightUnicode.f at H
 refine CV.body Tryz.func154 Z Tryz.ntmps154 Z ?_
 refine SG ?_
 refine PX 1 ?_
 obtain ⟨j22, H, K22⟩ := pbind H
 refine CJ.cut (fun F w1 => ∃ y1, some y1 = some j22 ∧ F = [(0, .string y1)] ∧ St w no w1 [] []) ?_ ?_
 refine CJ.block ?_
 refine LQ (fun k F w1 => ∃ (y2 : ByteArray), F = [(0, .string y2), (1, .string a1)] ∧ St w no w1 [] [] ∧ strings_trimRightUnicode.l1 a1 k y2 = some j22) k H hS ?_
 rintro k F w1 ⟨y2, rfl, hS, H⟩
 rw [strings_trimRightUnicode.l1] at H
 refine GO ?_
 refine CP H (fun H => GO ?_) (fun H => ?_)
 refine CJ.block ?_
 refine GO ?_
 obtain ⟨t3, ht3, H⟩ := pbind H
 refine OJ.st Z Z Z (SR.idxStr oU Z Z Z Z ht3) ?_
 refine GO ?_
 refine CP H (fun H => GO ?_) (fun H => ?_)
 refine oB H hS hb181 (unicode_utf8_DecodeLastRuneInString.c) fun t4 w1 H hS => ?_
 refine oB H hS hb180 (strings_ContainsRune.c) fun t5 w1 H hS => ?_
 refine CB H (fun H => ?_) (fun H => ?_)
 refine CJ.exit (EJ.skE (EJ.bkE Z (EJ.skE (EJ.hit (?_)))))
 exact MD H hS
 refine GO ?_
 obtain ⟨u6, hu6, H⟩ := pbind H
 refine OJ.st rfl rfl rfl (SR.cutStr oU (0) ((IntKind.i64.wrap ((y2.size : Int) - t4.2)).toNat) rfl rfl rfl rfl rfl (.inl ⟨rfl, rfl⟩) (.inr ⟨_, _, rfl, (by have := (chk_some hu6); omega), rfl⟩) (by have := (chk_some hu6); omega) (by have := (chk_some hu6); omega)) ?_
 exact MD H hS
 refine GO ?_
 refine oB H hS hb180 (strings_ContainsRune.c) fun t7 w1 H hS => ?_
 refine CB H (fun H => ?_) (fun H => ?_)
 refine CJ.exit (EJ.skE (EJ.bkE Z (EJ.skE (EJ.hit (?_)))))
 exact MD H hS
 refine GO ?_
 obtain ⟨u8, hu8, H⟩ := pbind H
 refine OJ.st rfl rfl rfl (SR.cutStr oU (0) ((IntKind.i64.wrap ((y2.size : Int) - 1)).toNat) rfl rfl rfl rfl rfl (.inl ⟨rfl, rfl⟩) (.inr ⟨_, _, rfl, (by have := (chk_some hu8); omega), rfl⟩) (by have := (chk_some hu8); omega) (by have := (chk_some hu8); omega)) ?_
 exact MD H hS
 exact MD H hS
 rintro F w1 ⟨y1, he, rfl, hS⟩
 obtain rfl := Option.some.inj he
 have H := K22
 exact FE H hS

def strings_trimLeftUnicode.l1 (a1 : ByteArray) : Nat → ByteArray → Option ByteArray
  | 0, _ => none
  | k + 1, y2 => if 0 < (y2.size : Int) then ((unicode_utf8_DecodeRuneInString.f y2).bind fun t3 => (strings_ContainsRune.f a1 t3.1).bind fun t4 => if (!t4) = true then (some y2) else ((chk ((0 : Int) ≤ t3.2 ∧ t3.2 ≤ (y2.size : Int) ∧ (y2.size : Int) ≤ (y2.size : Int))).bind fun u5 => strings_trimLeftUnicode.l1 a1 k (y2.extract t3.2.toNat y2.size))) else (some y2)
def strings_trimLeftUnicode.f (k : Nat) (a0 : ByteArray) (a1 : ByteArray) : Option ByteArray := (strings_trimLeftUnicode.l1 a1 k a0).bind fun y1 => some y1
theorem strings_trimLeftUnicode.c {k w} {a0 : ByteArray} {a1 : ByteArray} (r : ByteArray) (H : strings_trimLeftUnicode.f k a0 a1 = some r) :
 CV Tryz.prog 153 [.string a0, .string a1].toArray w fun v w' => v = .string r ∧ Ext w w' := by
 have hS := (St.init w no)
 unfold strings_trimLeftUnicode.f at H
 refine CV.body Tryz.func153 Z Tryz.ntmps153 Z ?_
 refine SG ?_
 refine PX 1 ?_
 obtain ⟨j27, H, K27⟩ := pbind H
 refine CJ.cut (fun F w1 => ∃ y1, some y1 = some j27 ∧ F = [(0, .string y1)] ∧ St w no w1 [] []) ?_ ?_
 refine CJ.block ?_
 refine LQ (fun k F w1 => ∃ (y2 : ByteArray), F = [(0, .string y2), (1, .string a1)] ∧ St w no w1 [] [] ∧ strings_trimLeftUnicode.l1 a1 k y2 = some j27) k H hS ?_
 rintro k F w1 ⟨y2, rfl, hS, H⟩
 rw [strings_trimLeftUnicode.l1] at H
 refine GO ?_
 refine CP H (fun H => GO ?_) (fun H => ?_)
 refine CJ.block ?_
 refine GO ?_
 refine oB H hS hb166 (unicode_utf8_DecodeRuneInString.c) fun t3 w1 H hS => ?_
 refine oB H hS hb180 (strings_ContainsRune.c) fun t4 w1 H hS => ?_
 refine CB H (fun H => ?_) (fun H => ?_)
 refine CJ.exit (EJ.skE (EJ.bkE Z (EJ.skE (EJ.hit (?_)))))
 exact MD H hS
 refine GO ?_
 obtain ⟨u5, hu5, H⟩ := pbind H
 refine OJ.st rfl rfl rfl (SR.cutStr oU (t3.2.toNat) (y2.size) rfl rfl rfl rfl rfl (.inr ⟨_, _, rfl, (chk_some hu5).1, rfl⟩) (.inl ⟨rfl, rfl⟩) (by have := (chk_some hu5); omega) (by have := (chk_some hu5); omega)) ?_
 exact MD H hS
 exact MD H hS
 rintro F w1 ⟨y1, he, rfl, hS⟩
 obtain rfl := Option.some.inj he
 have H := K27
 exact FE H hS

def strings_Trim.f (k : Nat) (a0 : ByteArray) (a1 : ByteArray) : Option ByteArray := (if a0 = ByteArray.empty then (some true) else (some (decide (a1 = ByteArray.empty)))).bind fun y1 => if y1 = true then (some a0) else ((if (a1.size : Int) = 1 then ((getB a1 0).bind fun t3 => some (decide (t3 < 128))) else (some false)).bind fun y2 => if y2 = true then ((getB a1 0).bind fun t4 => (getB a1 0).bind fun t5 => (strings_trimRightByte.f k a0 t4).bind fun t6 => (strings_trimLeftByte.f k t6 t5).bind fun t7 => some t7) else ((strings_makeASCIISet.f k a1).bind fun t8 => if t8.2 = true then ((strings_trimRightASCII.f k a0 t8.1).bind fun t10 => (strings_trimLeftASCII.f k t10 t8.1).bind fun t11 => some t11) else ((strings_trimRightUnicode.f k a0 a1).bind fun t12 => (strings_trimLeftUnicode.f k t12 a1).bind fun t13 => some t13)))
theorem strings_Trim.c {k w} {a0 : ByteArray} {a1 : ByteArray} (r : ByteArray) (H : strings_Trim.f k a0 a1 = some r) :
 CV Tryz.prog 108 [.string a0, .string a1].toArray w fun v w' => v = .string r ∧ Ext w w' := by
 have hS := (St.init w no)
 unfold strings_Trim.f at H
 refine CV.body Tryz.func108 Z Tryz.ntmps108 Z ?_
 refine SG ?_
 refine PX 1 ?_
 refine CJ.seq ?_
 obtain ⟨j15, H, K15⟩ := pbind H
 refine CJ.cut (fun F w1 => ∃ y1, some y1 = some j15 ∧ F = [(0, .string a0), (1, .string a1), (12, .bool y1)] ∧ St w no w1 [] []) ?_ ?_
 refine GO ?_
 refine OJ.split (t := 9) Z (fun hb => ?_) (fun hb => ?_)
 replace H := pif_t (of_decide_eq_true hb) H
 exact MD H hS
 replace H := pif_f (of_decide_eq_false hb) H
 exact MD H hS
 rintro F w1 ⟨y1, he, rfl, hS⟩
 obtain rfl := Option.some.inj he
 have H := K15
 refine CB H (fun H => ?_) (fun H => ?_)
 exact FE H hS
 refine CJ.skip (EJ.next ?_)
 refine CJ.seq ?_
 obtain ⟨j16, H, K16⟩ := pbind H
 refine CJ.cut (fun F w1 => ∃ y2, some y2 = some j16 ∧ F = [(0, .string a0), (1, .string a1), (21, .bool y2)] ∧ St w no w1 [] []) ?_ ?_
 refine GO ?_
 refine OJ.split (t := 17) Z (fun hb => ?_) (fun hb => ?_)
 replace H := pif_t (of_decide_eq_true hb) H
 refine GO ?_
 obtain ⟨t3, ht3, H⟩ := pbind H
 refine OJ.st Z Z Z (SR.idxStr oU Z Z Z Z ht3) ?_
 exact MD H hS
 replace H := pif_f (of_decide_eq_false hb) H
 exact MD H hS
 rintro F w1 ⟨y2, he, rfl, hS⟩
 obtain rfl := Option.some.inj he
 have H := K16
 refine CB H (fun H => GO ?_) (fun H => ?_)
 refine CJ.draw [] [0, 1, 2, 4, 5, 3, 6, 7] mixed (by kernel_rfl) hS fun w1 hS => ?_
 refine GO ?_
 obtain ⟨t4, ht4, H⟩ := pbind H
 refine DJ.st Z Z Z Z Z (SR.idxStr oU Z Z Z Z ht4) ?_
 refine GO ?_
 obtain ⟨t5, ht5, H⟩ := pbind H
 refine DJ.st Z Z Z Z Z (SR.idxStr oU Z Z Z Z ht5) ?_
 obtain ⟨t6, ht6, H⟩ := pbind H
 refine DJ.callF rfl rfl rfl rfl rfl rfl rfl hb149 rfl (strings_trimRightByte.c _ ht6) (by rintro v w' ⟨rfl, hs⟩; exact hs) ?_
 rintro _ w1 ⟨rfl, hs⟩
 replace hS := hS.grow hs
 obtain ⟨t7, ht7, H⟩ := pbind H
 refine DJ.callF rfl rfl rfl rfl rfl rfl rfl hb148 rfl (strings_trimLeftByte.c _ ht7) (by rintro v w' ⟨rfl, hs⟩; exact hs) ?_
 rintro _ w1 ⟨rfl, hs⟩
 replace hS := hS.grow hs
 exact FE H hS
 refine GO ?_
 refine oB H hS hb150 (strings_makeASCIISet.c) fun t8 w1 H hS => ?_
 refine OJ.ef rfl rfl rfl (Ef.alloc hS oI rfl rfl ((carr 256 cb).enc (Arr.mk' false : Arr 256 Bool)) (by kernel_rfl)) ?_
 rintro _ w1 ⟨b9, rfl, hS⟩
 refine OJ.es rfl rfl (Es.put oI hS (i := 0) rfl rfl rfl rfl rfl (vs := (carr 256 cb).enc t8.1) rfl ((carr 256 cb).len _) ((carr 256 cb).one _) (Put.all (carr 256 cb) (Arr.mk' false : Arr 256 Bool) t8.1) (by (try simp only [add_lit, Nat.add_assoc, Nat.zero_add, Nat.add_zero]) <;> rfl)) ?_
 intro w1 hS
 refine GO ?_
 refine CB H (fun H => GO ?_) (fun H => ?_)
 refine OB H hS hb152 (strings_trimRightASCII.c _ t8.1 (hS.cells (i := 0) Z)) fun t10 w1 H hS => ?_
 refine OB H hS hb151 (strings_trimLeftASCII.c _ t8.1 (hS.cells (i := 0) Z)) fun t11 w1 H hS => ?_
 exact FE H hS
 refine GO ?_
 refine oB H hS hb154 (strings_trimRightUnicode.c) fun t12 w1 H hS => ?_
 refine OB H hS hb153 (strings_trimLeftUnicode.c) fun t13 w1 H hS => ?_
 exact FE H hS

def impl_isName.f (k : Nat) (a0 : ByteArray) : Option Bool := (impl_within.f (a0.size : Int) 1 8).bind fun t1 => if t1 = true then ((strings_Trim.f k a0 (⟨#[97, 98, 99, 100, 101, 102, 103, 104, 105, 106, 107, 108, 109, 110, 111, 112, 113, 114, 115, 116, 117, 118, 119, 120, 121, 122]⟩ : ByteArray)).bind fun t2 => some (decide (t2 = ByteArray.empty))) else (some false)
theorem impl_isName.c {k w} {a0 : ByteArray} (r : Bool) (H : impl_isName.f k a0 = some r) :
 CV Tryz.prog 51 [.string a0].toArray w fun v w' => v = .bool r ∧ Ext w w' := by
 have hS := (St.init w no)
 unfold impl_isName.f at H
 refine CV.body Tryz.func51 Z Tryz.ntmps51 Z ?_
 refine GO ?_
 refine oB H hS hb53 (impl_within.c) fun t1 w1 H hS => ?_
 refine OJ.split (t := 6) Z (fun hb => ?_) (fun hb => ?_)
 replace H := pif_t hb H
 refine GO ?_
 refine OB H hS hb108 (strings_Trim.c) fun t2 w1 H hS => ?_
 exact FE H hS
 replace H := pifb_f hb H
 exact FE H hS

def slices_Index_string_string.l1 (a0 : List ByteArray) (a1 : ByteArray) : Nat → Int → Option (Int ⊕ Unit)
  | 0, _ => none
  | k + 1, y1 => if y1 < (a0.length : Int) then ((getI a0 y1).bind fun t2 => if a1 = t2 then (some (Sum.inl y1)) else (slices_Index_string_string.l1 a0 a1 k (IntKind.i64.wrap (y1 + 1)))) else (some (Sum.inr ()))
def slices_Index_string_string.f (k : Nat) (a0 : List ByteArray) (a1 : ByteArray) : Option Int := (slices_Index_string_string.l1 a0 a1 k 0).bind fun s28 => match s28 with | .inl r => some r | .inr _ => some (-1)
theorem slices_Index_string_string.c {k w Aa0 ca0} {a0 : List ByteArray} (hr0 : Rd G.cs w Aa0 a0) (hc0 : a0.length ≤ ca0) {a1 : ByteArray} (r : Int) (H : slices_Index_string_string.f k a0 a1 = some r) :
 CV Tryz.prog 41 [sl Aa0 a0 ca0, .string a1].toArray w fun v w' => v = .int .i64 r ∧ Ext w w' := by
 have hS := ((St.init w no).param G.cs Aa0 ca0 a0 hr0 hc0)
 unfold slices_Index_string_string.f at H
 refine CV.body Tryz.func41 Z Tryz.ntmps41 Z ?_
 refine GO ?_
 obtain ⟨j28, H, K28⟩ := pbind H
 refine CJ.cut1 (fun F w1 => some j28 = some (Sum.inr ()) ∧ F = [] ∧ St w no w1 [] [roC G.cs Aa0 ca0 a0]) ?_ ?_
 refine CJ.block ?_
 refine LQ (fun k F w1 => ∃ (y1 : Int), F = [(0, sl Aa0 a0 ca0), (1, .string a1), (7, i6 (a0.length : Int)), (8, i6 y1)] ∧ St w no w1 [] [roC G.cs Aa0 ca0 a0] ∧ slices_Index_string_string.l1 a0 a1 k y1 = some j28) k H hS ?_
 rintro k F w1 ⟨y1, rfl, hS, H⟩
 rw [slices_Index_string_string.l1] at H
 refine GO ?_
 refine CP H (fun H => GO ?_) (fun H => ?_)
 refine CJ.block ?_
 refine GO ?_
 refine xI H (rA hS 0 Z) fun t2 ad2 ht2 H => ?_
 refine CP H (fun H => GO ?_) (fun H => ?_)
 obtain rfl := Option.some.inj H; have H := K28
 exact FE H hS
 exact MD H hS
 exact MD H hS
 rintro F w1 ⟨⟨⟩, rfl, hS⟩
 have H := K28
 refine EJ.next ?_
 exact FE H hS

def slices_Contains_string_string.f (k : Nat) (a0 : List ByteArray) (a1 : ByteArray) : Option Bool := (slices_Index_string_string.f k a0 a1).bind fun t1 => some (decide (0 ≤ t1))
theorem slices_Contains_string_string.c {k w Aa0 ca0} {a0 : List ByteArray} (hr0 : Rd G.cs w Aa0 a0) (hc0 : a0.length ≤ ca0) {a1 : ByteArray} (r : Bool) (H : slices_Contains_string_string.f k a0 a1 = some r) :
 CV Tryz.prog 52 [sl Aa0 a0 ca0, .string a1].toArray w fun v w' => v = .bool r ∧ Ext w w' := by
 have hS := ((St.init w no).param G.cs Aa0 ca0 a0 hr0 hc0)
 unfold slices_Contains_string_string.f at H
 refine CV.body Tryz.func52 Z Tryz.ntmps52 Z ?_
 refine GO ?_
 refine OB H hS hb41 (slices_Index_string_string.c (rA hS 0 Z) (rB hS 0 Z)) fun t1 w1 H hS => ?_
 exact FE H hS

def impl_Herd_areFoes.f (a0 : Herd) (a1 : Int) (a2 : Int) : Option Bool := (getI a0.Foes a1).bind fun t2 => (chk (0 ≤ a2)).bind fun u3 => some (decide ((andI .u16 (shrI .u16 t2 a2) 1) = 1))
theorem impl_Herd_areFoes.c {w Aa0_0 ca0_0 Aa0_1 ca0_1 Aa0_2 ca0_2} (a0 : Herd) (hr0_0 : Rd G.cs w Aa0_0 a0.Names) (hc0_0 : a0.Names.length ≤ ca0_0) (hr0_1 : Rd (ci .i16) w Aa0_1 a0.Eats) (hc0_1 : a0.Eats.length ≤ ca0_1) (hr0_2 : Rd (ci .u16) w Aa0_2 a0.Foes) (hc0_2 : a0.Foes.length ≤ ca0_2) {a1 : Int} {a2 : Int} (r : Bool) (H : impl_Herd_areFoes.f a0 a1 a2 = some r) :
 CV Tryz.prog 54 [.agg (hv Aa0_0 Aa0_1 Aa0_2 ca0_0 ca0_1 ca0_2 a0).toArray, .int .i64 a1, i6 a2].toArray w fun v w' => v = .bool r ∧ Ext w w' := by
 have hS := ((((St.init w no).param G.cs Aa0_0 ca0_0 a0.Names hr0_0 hc0_0).param (ci .i16) Aa0_1 ca0_1 a0.Eats hr0_1 hc0_1).param (ci .u16) Aa0_2 ca0_2 a0.Foes hr0_2 hc0_2)
 unfold impl_Herd_areFoes.f at H
 refine CV.body Tryz.func54 Z Tryz.ntmps54 Z ?_
 refine GO ?_
 refine oX hS (hv Aa0_0 Aa0_1 Aa0_2 ca0_0 ca0_1 ca0_2 a0) fun b1 w1 hS => ?_
 refine oS (SL (cf hS 0 2)) ?_
 refine xI H (rA hS 2 Z) fun t2 ad2 ht2 H => ?_
 obtain ⟨u3, hu3, H⟩ := pbind H
 refine OJ.st Z Z Z (SR.shr Z Z Z (chk_some hu3)) ?_
 exact FE H hS

def impl_ValidHerd.l2 (a0 : Herd) (y3 : Int) : Nat → Int → Option (((Bool ⊕ Unit) ⊕ Unit) ⊕ Unit)
  | 0, _ => none
  | k + 1, y14 => if y14 < y3 then ((impl_Herd_areFoes.f a0 y3 y14).bind fun t15 => (impl_Herd_areFoes.f a0 y14 y3).bind fun t16 => if t15 ≠ t16 then (some (Sum.inl (Sum.inl (Sum.inl false)))) else (impl_ValidHerd.l2 a0 y3 k (IntKind.i64.wrap (y14 + 1)))) else (some (Sum.inr ()))
def impl_ValidHerd.l1 (a0 : Herd) : Nat → Int → Option (Bool ⊕ Unit)
  | 0, _ => none
  | k + 1, y3 => if y3 < (a0.Names.length : Int) then (((getI a0.Names y3).bind fun t4 => ((impl_isName.f k t4).bind fun t6 => if (!t6) = true then (some true) else ((chk ((0 : Int) ≤ 0 ∧ 0 ≤ y3 ∧ y3 ≤ (a0.Names.length : Int))).bind fun u7 => (slices_Contains_string_string.f k ((a0.Names.drop 0).take (y3.toNat - 0)) t4).bind fun t8 => if t8 = true then (some true) else ((getI a0.Eats y3).bind fun t9 => (impl_within.f (IntKind.i64.wrap t9) 0 100).bind fun t10 => if (!t10) = true then (some true) else ((getI a0.Foes y3).bind fun t11 => (chk (0 ≤ (a0.Names.length : Int))).bind fun u12 => if (shrI .u16 t11 (a0.Names.length : Int)) ≠ 0 then (some true) else ((impl_Herd_areFoes.f a0 y3 y3).bind fun t13 => some t13))))).bind fun y5 => if y5 = true then (some (Sum.inl (Sum.inl false))) else ((impl_ValidHerd.l2 a0 y3 k 0).bind fun s41 => match s41 with | .inl r => some r | .inr _ => some (Sum.inr ()))).bind fun s37 => match s37 with | .inl r => some r | .inr _ => impl_ValidHerd.l1 a0 k (IntKind.i64.wrap (y3 + 1))) else (some (Sum.inr ()))
def impl_ValidHerd.f (k : Nat) (a0 : Herd) : Option Bool := (if 14 < (a0.Names.length : Int) then (some true) else (if (a0.Eats.length : Int) ≠ (a0.Names.length : Int) then (some true) else (some (decide ((a0.Foes.length : Int) ≠ (a0.Names.length : Int)))))).bind fun y2 => if y2 = true then (some false) else ((impl_ValidHerd.l1 a0 k 0).bind fun s12 => match s12 with | .inl r => some r | .inr _ => some true)
theorem impl_ValidHerd.c {k w Aa0_0 ca0_0 Aa0_1 ca0_1 Aa0_2 ca0_2} (a0 : Herd) (hr0_0 : Rd G.cs w Aa0_0 a0.Names) (hc0_0 : a0.Names.length ≤ ca0_0) (hr0_1 : Rd (ci .i16) w Aa0_1 a0.Eats) (hc0_1 : a0.Eats.length ≤ ca0_1) (hr0_2 : Rd (ci .u16) w Aa0_2 a0.Foes) (hc0_2 : a0.Foes.length ≤ ca0_2) (r : Bool) (H : impl_ValidHerd.f k a0 = some r) :
 CV Tryz.prog 13 [.agg (hv Aa0_0 Aa0_1 Aa0_2 ca0_0 ca0_1 ca0_2 a0).toArray].toArray w fun v w' => v = .bool r ∧ Ext w w' := by
 have hS := ((((St.init w no).param G.cs Aa0_0 ca0_0 a0.Names hr0_0 hc0_0).param (ci .i16) Aa0_1 ca0_1 a0.Eats hr0_1 hc0_1).param (ci .u16) Aa0_2 ca0_2 a0.Foes hr0_2 hc0_2)
 unfold impl_ValidHerd.f at H
 refine CV.body Tryz.func13 Z Tryz.ntmps13 Z ?_
 refine GO ?_
 refine oX hS (hv Aa0_0 Aa0_1 Aa0_2 ca0_0 ca0_1 ca0_2 a0) fun b1 w1 hS => ?_
 refine OS (SL (cf hS 0 0)) ?_
 refine PX 2 ?_
 refine CJ.seq ?_
 obtain ⟨j11, H, K11⟩ := pbind H
 refine CJ.cut (fun F w1 => ∃ y2, some y2 = some j11 ∧ F = [(1, pt b1), (3, i6 (a0.Names.length : Int)), (25, .bool y2)] ∧ St w no w1 [box b1 (hv Aa0_0 Aa0_1 Aa0_2 ca0_0 ca0_1 ca0_2 a0) 28] [roC G.cs Aa0_0 ca0_0 a0.Names, roC (ci .i16) Aa0_1 ca0_1 a0.Eats, roC (ci .u16) Aa0_2 ca0_2 a0.Foes]) ?_ ?_
 refine GO ?_
 refine OJ.split (t := 12) Z (fun hb => ?_) (fun hb => ?_)
 replace H := pif_t (of_decide_eq_true hb) H
 exact MD H hS
 replace H := pif_f (of_decide_eq_false hb) H
 refine GO ?_
 refine oS (SL (cf hS 0 1)) ?_
 refine OJ.split (t := 19) Z (fun hb => ?_) (fun hb => ?_)
 replace H := pif_t (of_decide_eq_true hb) H
 exact MD H hS
 replace H := pif_f (of_decide_eq_false hb) H
 refine GO ?_
 refine OS (SL (cf hS 0 2)) ?_
 exact MD H hS
 rintro F w1 ⟨y2, he, rfl, hS⟩
 obtain rfl := Option.some.inj he
 have H := K11
 refine CB H (fun H => ?_) (fun H => ?_)
 exact FE H hS
 refine GO ?_
 refine oS (SL (cf hS 0 0)) ?_
 obtain ⟨j12, H, K12⟩ := pbind H
 refine CJ.cut1 (fun F w1 => some j12 = some (Sum.inr ()) ∧ F = [] ∧ St w no w1 [] [roC G.cs Aa0_0 ca0_0 a0.Names, roC (ci .i16) Aa0_1 ca0_1 a0.Eats, roC (ci .u16) Aa0_2 ca0_2 a0.Foes]) ?_ ?_
 refine CJ.block ?_
 refine LQ (fun k F w1 => ∃ (y3 : Int), F = [(1, pt b1), (3, i6 (a0.Names.length : Int)), (27, sl Aa0_0 a0.Names ca0_0), (28, i6 (a0.Names.length : Int)), (29, i6 y3)] ∧ St w no w1 [box b1 (hv Aa0_0 Aa0_1 Aa0_2 ca0_0 ca0_1 ca0_2 a0) 28] [roC G.cs Aa0_0 ca0_0 a0.Names, roC (ci .i16) Aa0_1 ca0_1 a0.Eats, roC (ci .u16) Aa0_2 ca0_2 a0.Foes] ∧ impl_ValidHerd.l1 a0 k y3 = some j12) k H hS ?_
 rintro k F w1 ⟨y3, rfl, hS, H⟩
 rw [impl_ValidHerd.l1] at H
 refine GO ?_
 refine CP H (fun H => ?_) (fun H => ?_)
 refine CJ.skip (EJ.next ?_)
 obtain ⟨j37, H, K37⟩ := pbind H
 refine CJ.cut (fun F w1 => some j37 = some (Sum.inr ()) ∧ F = [(1, pt b1), (3, i6 (a0.Names.length : Int)), (27, sl Aa0_0 a0.Names ca0_0), (28, i6 (a0.Names.length : Int)), (29, i6 y3)] ∧ St w no w1 [box b1 (hv Aa0_0 Aa0_1 Aa0_2 ca0_0 ca0_1 ca0_2 a0) 28] [roC G.cs Aa0_0 ca0_0 a0.Names, roC (ci .i16) Aa0_1 ca0_1 a0.Eats, roC (ci .u16) Aa0_2 ca0_2 a0.Foes]) ?_ ?_
 refine CJ.block ?_
 refine GO ?_
 obtain ⟨t4, ht4, H⟩ := pbind H
 obtain ⟨ad4, e4⟩ := (rA hS 0 Z).some' ht4
 refine OS (SI e4 (getI_some ht4).1) ?_
 refine OS (SL ((rA hS 0 Z).at_ e4 ht4)) ?_
 refine PX 2 ?_
 refine CJ.seq ?_
 obtain ⟨j40, H, K40⟩ := pbind H
 refine CJ.cut (fun F w1 => ∃ y5, some y5 = some j40 ∧ F = [(1, pt b1), (3, i6 (a0.Names.length : Int)), (4, i6 y3), (27, sl Aa0_0 a0.Names ca0_0), (28, i6 (a0.Names.length : Int)), (29, i6 y3), (70, .bool y5)] ∧ St w no w1 [box b1 (hv Aa0_0 Aa0_1 Aa0_2 ca0_0 ca0_1 ca0_2 a0) 28] [roC G.cs Aa0_0 ca0_0 a0.Names, roC (ci .i16) Aa0_1 ca0_1 a0.Eats, roC (ci .u16) Aa0_2 ca0_2 a0.Foes]) ?_ ?_
 refine GO ?_
 refine oB H hS hb51 (impl_isName.c) fun t6 w1 H hS => ?_
 refine OJ.split (t := 37) Z (fun hb => ?_) (fun hb => ?_)
 replace H := pif_t hb H
 exact MD H hS
 replace H := pifb_f hb H
 refine GO ?_
 refine oS (SL (cf hS 0 0)) ?_
 obtain ⟨u7, hu7, H⟩ := pbind H
 refine OJ.st rfl rfl rfl (SR.cutS oU oI (0) (y3.toNat) rfl rfl rfl rfl rfl rfl (.inl ⟨rfl, rfl⟩) (.inr ⟨_, _, rfl, (by have := (chk_some hu7); omega), rfl⟩) (by have := (chk_some hu7); omega) (by have := (chk_some hu7); have := (hS.le' (i := 0) rfl : a0.Names.length ≤ ca0_0); omega)) ?_
 replace hS := hS.cutR (i := 0) (lo := 0) (hi := y3.toNat) rfl (by have := (chk_some hu7); omega) (by have := (chk_some hu7); omega)
 refine OJ.as (t := 41) rfl (show _ = (.slice (cutA Aa0_0 ca0_0 0 G.cs.sz) ((a0.Names.drop 0).take (y3.toNat - 0)).length (ca0_0 - 0) : Value) by rw [cutLen (by have := (chk_some hu7); omega) (by have := (chk_some hu7); omega)]; rfl) ?_
 refine GO ?_
 refine oB H hS hb52 (slices_Contains_string_string.c (rA hS 3 Z) (rB hS 3 Z)) fun t8 w1 H hS => ?_
 refine OJ.split (t := 45) Z (fun hb => ?_) (fun hb => ?_)
 replace H := pif_t hb H
 exact MD H hS
 replace H := pifb_f hb H
 refine GO ?_
 refine oS (SL (cf hS 0 1)) ?_
 refine xI H (rA hS 1 Z) fun t9 ad9 ht9 H => ?_
 refine oB H hS hb53 (impl_within.c) fun t10 w1 H hS => ?_
 refine OJ.split (t := 55) Z (fun hb => ?_) (fun hb => ?_)
 replace H := pif_t hb H
 exact MD H hS
 replace H := pifb_f hb H
 refine GO ?_
 refine oS (SL (cf hS 0 2)) ?_
 refine xI H (rA hS 2 Z) fun t11 ad11 ht11 H => ?_
 obtain ⟨u12, hu12, H⟩ := pbind H
 refine OJ.st Z Z Z (SR.shr Z Z Z (chk_some hu12)) ?_
 refine GO ?_
 refine OJ.split (t := 65) Z (fun hb => ?_) (fun hb => ?_)
 replace H := pif_t (of_decide_eq_true hb) H
 exact MD H hS
 replace H := pif_f (of_decide_eq_false hb) H
 refine oS (SN (hv Aa0_0 Aa0_1 Aa0_2 ca0_0 ca0_1 ca0_2 a0) (ce hS 0)) ?_
 refine OB H hS hb54 (impl_Herd_areFoes.c a0 (rA hS 0 Z) (rB hS 0 Z) (rA hS 1 Z) (rB hS 1 Z) (rA hS 2 Z) (rB hS 2 Z)) fun t13 w1 H hS => ?_
 exact MD H hS
 rintro F w1 ⟨y5, he, rfl, hS⟩
 obtain rfl := Option.some.inj he
 have H := K40
 refine CB H (fun H => GO ?_) (fun H => ?_)
 obtain rfl := Option.some.inj H; have H := K37
 obtain rfl := Option.some.inj H; have H := K12
 exact FE H hS
 refine GO ?_
 obtain ⟨j41, H, K41⟩ := pbind H
 refine CJ.cut1 (fun F w1 => some j41 = some (Sum.inr ()) ∧ F = [(1, pt b1), (3, i6 (a0.Names.length : Int)), (27, sl Aa0_0 a0.Names ca0_0), (28, i6 (a0.Names.length : Int)), (29, i6 y3)] ∧ St w no w1 [box b1 (hv Aa0_0 Aa0_1 Aa0_2 ca0_0 ca0_1 ca0_2 a0) 28] [roC G.cs Aa0_0 ca0_0 a0.Names, roC (ci .i16) Aa0_1 ca0_1 a0.Eats, roC (ci .u16) Aa0_2 ca0_2 a0.Foes]) ?_ ?_
 refine CJ.block ?_
 refine LQ (fun k F w1 => ∃ (y14 : Int), F = [(1, pt b1), (3, i6 (a0.Names.length : Int)), (4, i6 y3), (27, sl Aa0_0 a0.Names ca0_0), (28, i6 (a0.Names.length : Int)), (29, i6 y3), (71, i6 y3), (72, i6 y14)] ∧ St w no w1 [box b1 (hv Aa0_0 Aa0_1 Aa0_2 ca0_0 ca0_1 ca0_2 a0) 28] [roC G.cs Aa0_0 ca0_0 a0.Names, roC (ci .i16) Aa0_1 ca0_1 a0.Eats, roC (ci .u16) Aa0_2 ca0_2 a0.Foes] ∧ impl_ValidHerd.l2 a0 y3 k y14 = some j41) k H hS ?_
 rintro k F w1 ⟨y14, rfl, hS, H⟩
 rw [impl_ValidHerd.l2] at H
 refine GO ?_
 refine CP H (fun H => GO ?_) (fun H => ?_)
 refine CJ.block ?_
 refine GO ?_
 refine CJ.draw [] [0, 1, 2, 4, 5, 6, 3, 7, 8] mixed (by kernel_rfl) hS fun w1 hS => ?_
 refine dS (SN (hv Aa0_0 Aa0_1 Aa0_2 ca0_0 ca0_1 ca0_2 a0) (ce hS 0)) ?_
 refine dS (SN (hv Aa0_0 Aa0_1 Aa0_2 ca0_0 ca0_1 ca0_2 a0) (ce hS 0)) ?_
 obtain ⟨t15, ht15, H⟩ := pbind H
 refine DJ.callF rfl rfl rfl rfl rfl rfl rfl hb54 rfl (impl_Herd_areFoes.c a0 (rA hS 0 Z) (rB hS 0 Z) (rA hS 1 Z) (rB hS 1 Z) (rA hS 2 Z) (rB hS 2 Z) _ ht15) (by rintro v w' ⟨rfl, hs⟩; exact hs) ?_
 rintro _ w1 ⟨rfl, hs⟩
 replace hS := hS.grow hs
 obtain ⟨t16, ht16, H⟩ := pbind H
 refine DJ.callF rfl rfl rfl rfl rfl rfl rfl hb54 rfl (impl_Herd_areFoes.c a0 (rA hS 0 Z) (rB hS 0 Z) (rA hS 1 Z) (rB hS 1 Z) (rA hS 2 Z) (rB hS 2 Z) _ ht16) (by rintro v w' ⟨rfl, hs⟩; exact hs) ?_
 rintro _ w1 ⟨rfl, hs⟩
 replace hS := hS.grow hs
 refine DJ.st Z Z Z Z Z (SR.neB oU Z Z Z Z) ?_
 refine GO ?_
 refine CP H (fun H => GO ?_) (fun H => ?_)
 obtain rfl := Option.some.inj H; have H := K41
 obtain rfl := Option.some.inj H; have H := K37
 obtain rfl := Option.some.inj H; have H := K12
 exact FE H hS
 exact MD H hS
 exact MD H hS
 rintro F w1 ⟨⟨⟩, rfl, hS⟩
 have H := K41
 refine EJ.blk (?_)
 exact MD H hS
 rintro F w1 ⟨⟨⟩, rfl, hS⟩
 have H := K37
 exact MD H hS
 exact MD H hS
 rintro F w1 ⟨⟨⟩, rfl, hS⟩
 have H := K12
 refine EJ.next ?_
 exact FE H hS

def strconv_FormatInt.f (a0 : Int) (a1 : Int) : Option ByteArray := (chk (a1 = 10 ∧ -9223372036854775808 ≤ a0 ∧ a0 ≤ 9223372036854775807)).bind fun _ => some (itoaB a0)
theorem strconv_FormatInt.c {w} {a0 : Int} {a1 : Int} (hT : (envC Tryz.prog 0).holds w) (r : ByteArray) (H : strconv_FormatInt.f a0 a1 = some r) :
 CV Tryz.prog 103 [.int .i64 a0, i6 a1].toArray w fun v w' => v = .string r ∧ Ext w w' := by
 unfold strconv_FormatInt.f at H
 obtain ⟨u, hu, H⟩ := pbind H
 have h := chk_some hu
 obtain rfl := Option.some.inj H
 obtain ⟨rfl, h0, h1⟩ := h
 exact fmt_cv hT.1 h0 h1 (fun n h0 h1 w ht => Any.strconv_FormatInt_10 layFmt n h0 h1 w ht)

def impl_decimal.f (a0 : Int) : Option ByteArray := (strconv_FormatInt.f a0 10).bind fun t1 => some t1
theorem impl_decimal.c {w} {a0 : Int} (hT : (envC Tryz.prog 0).holds w) (r : ByteArray) (H : impl_decimal.f a0 = some r) :
 CV Tryz.prog 42 [.int .i64 a0].toArray w fun v w' => v = .string r ∧ Ext w w' := by
 have hS := ((St.init w no).paramT (envC Tryz.prog 0) hT)
 unfold impl_decimal.f at H
 refine CV.body Tryz.func42 Z Tryz.ntmps42 Z ?_
 refine GO ?_
 refine OB H hS hb103 (strconv_FormatInt.c (hS.ro (i := 0) Z)) fun t1 w1 H hS => ?_
 exact FE H hS

def impl_listed.l1 (a0 : Int) : Nat → (List Int) → Int → Option (List Int)
  | 0, _, _ => none
  | k + 1, y5, y8 => if y8 < 16 then ((chk (0 ≤ y8)).bind fun u9 => if (andI .u16 (shrI .u16 a0 y8) 1) = 1 then ((chk (y5.length + ([y8] : List Int).length ≤ 4294967296)).bind fun u11 => impl_listed.l1 a0 k (y5 ++ ([y8] : List Int)) (IntKind.i64.wrap (y8 + 1))) else (impl_listed.l1 a0 k y5 (IntKind.i64.wrap (y8 + 1)))) else (some y5)
def impl_listed.f (k : Nat) (a0 : Int) : Option (List Int) := (impl_listed.l1 a0 k ([] : List Int) 0).bind fun y2 => some y2
theorem impl_listed.c {k w} {a0 : Int} (r : List Int) (H : impl_listed.f k a0 = some r) :
 CV Tryz.prog 43 [.int .u16 a0].toArray w fun v w' => ∃ (A0 : Option Addr) (c0 : Nat), v = .slice A0 r.length c0 ∧ St w no w' [rowC (ci .i64) A0 c0 2 r] [] := by
 have hS := (St.init w no)
 unfold impl_listed.f at H
 refine CV.body Tryz.func43 Z Tryz.ntmps43 Z ?_
 refine GO ?_
 refine OF (EL hS (ci .i64) ([] : List Int)) ?_
 rintro _ w1 ⟨A1, rfl, hS⟩
 refine GO ?_
 obtain ⟨j46, H, K46⟩ := pbind H
 refine CJ.cut1 (fun F w1 => ∃ y2 A3 c4, some y2 = some j46 ∧ F = [(3, sl A3 y2 c4)] ∧ St w no w1 [rowC (ci .i64) A3 c4 2 y2] []) ?_ ?_
 refine CJ.block ?_
 refine LQ (fun k F w1 => ∃ (y5 : List Int) (y8 : Int) (A6 c7 : _), F = [(0, .int .u16 a0), (3, sl A6 y5 c7), (6, i6 y8)] ∧ St w no w1 [rowC (ci .i64) A6 c7 2 y5] [] ∧ impl_listed.l1 a0 k y5 y8 = some j46) k H hS ?_
 rintro k F w1 ⟨y5, y8, A6, c7, rfl, hS, H⟩
 rw [impl_listed.l1] at H
 refine GO ?_
 refine CP H (fun H => GO ?_) (fun H => ?_)
 refine CJ.block ?_
 refine GO ?_
 obtain ⟨u9, hu9, H⟩ := pbind H
 refine OJ.st Z Z Z (SR.shr Z Z Z (chk_some hu9)) ?_
 refine GO ?_
 refine CP H (fun H => GO ?_) (fun H => ?_)
 refine OF (EL hS (ci .i64) ([y8] : List Int)) ?_
 rintro _ w1 ⟨A10, rfl, hS⟩
 obtain ⟨u11, hu11, H⟩ := pbind H
 refine OW (AP hS 0 (rC hS 1 Z) (chk_some hu11)) ?_
 rintro _ w1 ⟨A12, c13, rfl, hS⟩
 exact MD H hS
 exact MD H hS
 exact MD H hS
 rintro F w1 ⟨y2, A3, c4, he, rfl, hS⟩
 obtain rfl := Option.some.inj he
 have H := K46
 refine EJ.next ?_
 refine GO ?_
 obtain rfl := Option.some.inj H
 exact FT ⟨A3, c4, Z, hS.pick [0] [] Z⟩

def strings_Join.f (a0 : List ByteArray) (a1 : ByteArray) : Option (ByteArray × List ByteArray) := (chk (a0.length ≤ 4294967296 ∧ (joinB a0 a1).size ≤ 4294967296)).bind fun _ => some (joinB a0 a1, a0)
theorem strings_Join.c {w Aa0 ca0} {a0 : List ByteArray} {a1 : ByteArray} (hin : St w (fpU [rowC G.cs Aa0 ca0 9 a0]) w [rowC G.cs Aa0 ca0 9 a0] []) (r : ByteArray × List ByteArray) (H : strings_Join.f a0 a1 = some r) :
 CV Tryz.prog 45 [sl Aa0 a0 ca0, .string a1].toArray w fun v w' => v = .string r.1 ∧ St w (fpU [rowC G.cs Aa0 ca0 9 a0]) w' [rowC G.cs Aa0 ca0 9 r.2] [] ∧ r.2.length = a0.length := by
 unfold strings_Join.f at H
 obtain ⟨u, hu, H⟩ := pbind H
 obtain rfl := Option.some.inj H
 exact join_cv hin (fun a c sep w => Any.strings_Join_none layJoin layExtra a c sep w) (fun bk o c xs sep w h1 h2 h3 h4 h5 => Any.strings_Join layJoin layExtra bk o c xs sep w h1 h2 h3 h4 h5) (chk_some hu).1 (chk_some hu).2

def impl_HerdText.l2 (a0 : Herd) (t19 : List Int) : Nat → (List ByteArray) → Int → Option (List ByteArray)
  | 0, _, _ => none
  | k + 1, y25, y28 => if y28 < (t19.length : Int) then ((getI t19 y28).bind fun t29 => (getI a0.Names t29).bind fun t30 => (chk (y25.length + ([t30] : List ByteArray).length ≤ 4294967296)).bind fun u32 => impl_HerdText.l2 a0 t19 k (y25 ++ ([t30] : List ByteArray)) (IntKind.i64.wrap (y28 + 1))) else (some y25)
def impl_HerdText.l1 (a0 : Herd) : Nat → ByteArray → Int → Option ByteArray
  | 0, _, _ => none
  | k + 1, y7, y10 => if y10 < (a0.Names.length : Int) then (((getI a0.Names y10).bind fun t14 => (getI a0.Eats y10).bind fun t15 => (impl_decimal.f (IntKind.i64.wrap t15)).bind fun t16 => (getI a0.Foes y10).bind fun t18 => (impl_listed.f k t18).bind fun t19 => (impl_HerdText.l2 a0 t19 k ([t14, t16] : List ByteArray) 0).bind fun y22 => (strings_Join.f y22 (⟨#[32]⟩ : ByteArray)).bind fun t35 => (chk (t35.1.size + (⟨#[10]⟩ : ByteArray).size ≤ 4294967296)).bind fun u36 => (chk (y7.size + (t35.1 ++ (⟨#[10]⟩ : ByteArray)).size ≤ 4294967296)).bind fun u39 => some (y7 ++ (t35.1 ++ (⟨#[10]⟩ : ByteArray)))).bind fun y11 => impl_HerdText.l1 a0 k y11 (IntKind.i64.wrap (y10 + 1))) else (some y7)
def impl_HerdText.f (k : Nat) (a0 : Herd) : Option ByteArray := (impl_ValidHerd.f k a0).bind fun t2 => if (!t2) = true then (some ByteArray.empty) else ((impl_HerdText.l1 a0 k ByteArray.empty 0).bind fun y4 => some y4)
theorem impl_HerdText.c {k w Aa0_0 ca0_0 Aa0_1 ca0_1 Aa0_2 ca0_2} (a0 : Herd) (hr0_0 : Rd G.cs w Aa0_0 a0.Names) (hc0_0 : a0.Names.length ≤ ca0_0) (hr0_1 : Rd (ci .i16) w Aa0_1 a0.Eats) (hc0_1 : a0.Eats.length ≤ ca0_1) (hr0_2 : Rd (ci .u16) w Aa0_2 a0.Foes) (hc0_2 : a0.Foes.length ≤ ca0_2) (hT : (envC Tryz.prog 0).holds w) (r : ByteArray) (H : impl_HerdText.f k a0 = some r) :
 CV Tryz.prog 8 [.agg (hv Aa0_0 Aa0_1 Aa0_2 ca0_0 ca0_1 ca0_2 a0).toArray].toArray w fun v w' => v = .string r ∧ Ext w w' := by
 have hS := (((((St.init w no).param G.cs Aa0_0 ca0_0 a0.Names hr0_0 hc0_0).param (ci .i16) Aa0_1 ca0_1 a0.Eats hr0_1 hc0_1).param (ci .u16) Aa0_2 ca0_2 a0.Foes hr0_2 hc0_2).paramT (envC Tryz.prog 0) hT)
 unfold impl_HerdText.f at H
 refine CV.body Tryz.func8 Z Tryz.ntmps8 Z ?_
 refine GO ?_
 refine oX hS (hv Aa0_0 Aa0_1 Aa0_2 ca0_0 ca0_1 ca0_2 a0) fun b1 w1 hS => ?_
 refine OS (SN (hv Aa0_0 Aa0_1 Aa0_2 ca0_0 ca0_1 ca0_2 a0) (ce hS 0)) ?_
 refine oB H hS hb13 (impl_ValidHerd.c a0 (rA hS 0 Z) (rB hS 0 Z) (rA hS 1 Z) (rB hS 1 Z) (rA hS 2 Z) (rB hS 2 Z)) fun t2 w1 H hS => ?_
 refine CB H (fun H => ?_) (fun H => ?_)
 exact FE H hS
 refine GO ?_
 refine OJ.st Z Z Z (SR.build' oU oI Z Z Z (zs := [.pointer none, .slice none 0 0]) Z Z Z [.pointer none, .slice none 0 0] Z) ?_
 refine OJ.ef Z Z Z (Ef.bld (e := 5) hS oI Z Z Z) ?_
 rintro _ w1 ⟨b3, rfl, hS, hlow⟩
 refine OJ.es Z Z (Es.bldZero oI hS (i := 1) Z Z Z Z Z Z Z) ?_
 intro w1 hS
 refine GO ?_
 refine oS (SL (cf hS 0 0)) ?_
 obtain ⟨j44, H, K44⟩ := pbind H
 refine CJ.cut1 (fun F w1 => ∃ y4 A5 c6, some y4 = some j44 ∧ F = [(3, pt b3)] ∧ St w no w1 [bldC 87 5 b3 A5 c6 y4] [roC G.cs Aa0_0 ca0_0 a0.Names, roC (ci .i16) Aa0_1 ca0_1 a0.Eats, roC (ci .u16) Aa0_2 ca0_2 a0.Foes, envC Tryz.prog 0]) ?_ ?_
 refine CJ.block ?_
 refine LQ (fun k F w1 => ∃ (y7 : ByteArray) (y10 : Int) (A8 c9 : _), F = [(1, pt b1), (3, pt b3), (14, sl Aa0_0 a0.Names ca0_0), (15, i6 (a0.Names.length : Int)), (16, i6 y10)] ∧ St w no w1 [box b1 (hv Aa0_0 Aa0_1 Aa0_2 ca0_0 ca0_1 ca0_2 a0) 28, bldC 87 5 b3 A8 c9 y7] [roC G.cs Aa0_0 ca0_0 a0.Names, roC (ci .i16) Aa0_1 ca0_1 a0.Eats, roC (ci .u16) Aa0_2 ca0_2 a0.Foes, envC Tryz.prog 0] ∧ impl_HerdText.l1 a0 k y7 y10 = some j44) k H hS ?_
 rintro k F w1 ⟨y7, y10, A8, c9, rfl, hS, H⟩
 rw [impl_HerdText.l1] at H
 refine GO ?_
 refine CP H (fun H => ?_) (fun H => ?_)
 refine CJ.skip (EJ.next ?_)
 obtain ⟨j52, H, K52⟩ := pbind H
 refine CJ.cut (fun F w1 => ∃ y11 A12 c13, some y11 = some j52 ∧ F = [(1, pt b1), (3, pt b3), (14, sl Aa0_0 a0.Names ca0_0), (15, i6 (a0.Names.length : Int)), (16, i6 y10)] ∧ St w no w1 [box b1 (hv Aa0_0 Aa0_1 Aa0_2 ca0_0 ca0_1 ca0_2 a0) 28, bldC 87 5 b3 A12 c13 y11] [roC G.cs Aa0_0 ca0_0 a0.Names, roC (ci .i16) Aa0_1 ca0_1 a0.Eats, roC (ci .u16) Aa0_2 ca0_2 a0.Foes, envC Tryz.prog 0]) ?_ ?_
 refine CJ.block ?_
 refine GO ?_
 refine xI H (rA hS 0 Z) fun t14 ad14 ht14 H => ?_
 refine oS (SL (cf hS 0 1)) ?_
 refine xI H (rA hS 1 Z) fun t15 ad15 ht15 H => ?_
 refine OB H hS hb42 (impl_decimal.c (hS.ro (i := 3) Z)) fun t16 w1 H hS => ?_
 refine OF (EL hS G.cs ([t14, t16] : List ByteArray)) ?_
 rintro _ w1 ⟨A17, rfl, hS⟩
 refine GO ?_
 refine oS (SL (cf hS 0 2)) ?_
 refine xI H (rA hS 2 Z) fun t18 ad18 ht18 H => ?_
 obtain ⟨t19, ht19, H⟩ := pbind H
 refine OC hb43 (impl_listed.c _ ht19) ?_
 rintro _ w1 ⟨A20, c21, rfl, hs⟩
 replace hS := hS.addN hs
 refine GO ?_
 obtain ⟨j54, H, K54⟩ := pbind H
 refine CJ.cut1 (fun F w1 => ∃ y22 A23 c24, some y22 = some j54 ∧ F = [(1, pt b1), (3, pt b3), (6, sl A23 y22 c24), (14, sl Aa0_0 a0.Names ca0_0), (15, i6 (a0.Names.length : Int)), (16, i6 y10)] ∧ St w no w1 [box b1 (hv Aa0_0 Aa0_1 Aa0_2 ca0_0 ca0_1 ca0_2 a0) 28, bldC 87 5 b3 A8 c9 y7, rowC G.cs A23 c24 9 y22] [roC G.cs Aa0_0 ca0_0 a0.Names, roC (ci .i16) Aa0_1 ca0_1 a0.Eats, roC (ci .u16) Aa0_2 ca0_2 a0.Foes, envC Tryz.prog 0]) ?_ ?_
 refine CJ.block ?_
 refine LQ (fun k F w1 => ∃ (y25 : List ByteArray) (y28 : Int) (A26 c27 : _), F = [(1, pt b1), (3, pt b3), (6, sl A26 y25 c27), (14, sl Aa0_0 a0.Names ca0_0), (15, i6 (a0.Names.length : Int)), (16, i6 y10), (35, sl A20 t19 c21), (36, i6 (t19.length : Int)), (37, i6 y28)] ∧ St w no w1 [box b1 (hv Aa0_0 Aa0_1 Aa0_2 ca0_0 ca0_1 ca0_2 a0) 28, bldC 87 5 b3 A8 c9 y7, rowC G.cs A26 c27 9 y25, rowC (ci .i64) A20 c21 2 t19] [roC G.cs Aa0_0 ca0_0 a0.Names, roC (ci .i16) Aa0_1 ca0_1 a0.Eats, roC (ci .u16) Aa0_2 ca0_2 a0.Foes, envC Tryz.prog 0] ∧ impl_HerdText.l2 a0 t19 k y25 y28 = some j54) k H hS ?_
 rintro k F w1 ⟨y25, y28, A26, c27, rfl, hS, H⟩
 rw [impl_HerdText.l2] at H
 refine GO ?_
 refine CP H (fun H => GO ?_) (fun H => ?_)
 refine CJ.block ?_
 refine GO ?_
 refine xI H (rC hS 3 Z) fun t29 ad29 ht29 H => ?_
 refine oS (SL (cf hS 0 0)) ?_
 refine xI H (rA hS 0 Z) fun t30 ad30 ht30 H => ?_
 refine OF (EL hS G.cs ([t30] : List ByteArray)) ?_
 rintro _ w1 ⟨A31, rfl, hS⟩
 obtain ⟨u32, hu32, H⟩ := pbind H
 refine OW (AP hS 2 (rC hS 4 Z) (chk_some hu32)) ?_
 rintro _ w1 ⟨A33, c34, rfl, hS⟩
 exact MD H hS
 exact MD H hS
 rintro F w1 ⟨y22, A23, c24, he, rfl, hS⟩
 obtain rfl := Option.some.inj he
 have H := K54
 refine EJ.next ?_
 refine GO ?_
 obtain ⟨t35, ht35, H⟩ := pbind H
 refine OC hb45 (strings_Join.c ((hS.subs [2] [] [] Z).pick [0] [] Z) _ ht35) ?_
 rintro _ w1 ⟨rfl, hs, hlc0⟩
 replace hS := hS.back [2] Z Z [rowC G.cs A23 c24 9 t35.2] [] hs ⟨fun _ => Iff.rfl, trivial⟩
 refine OJ.as (t := 6) rfl (show _ = (.slice A23 t35.2.length c24 : Value) by simp only [hlc0]) ?_
 refine OJ.as (t := 50) rfl (show _ = (.slice A23 t35.2.length c24 : Value) by simp only [hlc0]) ?_
 obtain ⟨u36, hu36, H⟩ := pbind H
 refine OJ.st Z Z Z (SR.concat Z Z Z (chk_some hu36)) ?_
 obtain ⟨u39, hu39, H⟩ := pbind H
 refine OC hb44 (bldWrite_cv hS (i := 1) rfl (NotEs.cons (notE_box (by decide)) (NotEs.cons (notE_row (by decide)) (NotEs.nil))) (NotEs.cons (notE_low (hlow _ (List.mem_of_getElem? (i := 0) rfl))) (NotEs.cons (notE_low (hlow _ (List.mem_of_getElem? (i := 1) rfl))) (NotEs.cons (notE_low (hlow _ (List.mem_of_getElem? (i := 2) rfl))) (NotEs.cons (notE_low (hlow _ (List.mem_of_getElem? (i := 3) rfl))) (NotEs.nil))))) (fun B b bs s w h1 h2 h3 => Any.Builder_WriteString_k { layJoin with } layExtra B b bs s w h1 h2 h3) (chk_some hu39)) ?_
 rintro _ w1 ⟨rfl, A37, c38, hS⟩
 exact MD H hS
 rintro F w1 ⟨y11, A12, c13, he, rfl, hS⟩
 obtain rfl := Option.some.inj he
 have H := K52
 exact MD H hS
 exact MD H hS
 rintro F w1 ⟨y4, A5, c6, he, rfl, hS⟩
 obtain rfl := Option.some.inj he
 have H := K44
 refine EJ.next ?_
 refine GO ?_
 refine OC hb46 (bldText_cv hS (i := 0) Z (NotEs.nil) (NotEs.cons (notE_low (hlow _ (List.mem_of_getElem? (i := 0) Z))) (NotEs.cons (notE_low (hlow _ (List.mem_of_getElem? (i := 1) Z))) (NotEs.cons (notE_low (hlow _ (List.mem_of_getElem? (i := 2) Z))) (NotEs.cons (notE_low (hlow _ (List.mem_of_getElem? (i := 3) Z))) (NotEs.nil))))) (fun B b l w h1 h2 => Any.Builder_String_any_k { layJoin with } layExtra B b l w h1 h2)) ?_
 rintro _ w1 ⟨rfl, A40, c41, hS⟩
 exact FE H hS

def linesF : Nat → ByteArray → List ByteArray
  | 0, _ => []
  | k + 1, s => if s.size = 0 then [] else if 0 ≤ Go.Lib.indexByte s.data.toList 10 then s.extract 0 (Go.Lib.indexByte s.data.toList 10 + 1).toNat :: linesF k (s.extract (Go.Lib.indexByte s.data.toList 10 + 1).toNat s.size) else [s]
def linesB (s : ByteArray) : List ByteArray := linesF s.size s
theorem idx_lt : ∀ (l : List UInt8) (c : UInt8), Go.Lib.indexByte l c < (l.length : Int) ∨ l = []
  | [], c => .inr rfl
  | b :: l, c => by
    left
    unfold Go.Lib.indexByte
    split
    · simp
    · split
      · rw [List.length_cons]; omega
      · rename_i h1 h2
        rcases idx_lt l c with h | h
        · rw [List.length_cons]; omega
        · subst h
          simp [Go.Lib.indexByte] at h2
theorem size_listL (s : ByteArray) : s.data.toList.length = s.size := by simp
theorem linesF_eq : ∀ (k k' : Nat) (s : ByteArray), s.size ≤ k → s.size ≤ k' → linesF k s = linesF k' s
  | 0, 0, s, _, _ => rfl
  | 0, k' + 1, s, h, _ => by rw [linesF, linesF, if_pos (by omega)]
  | k + 1, 0, s, _, h => by rw [linesF, linesF, if_pos (by omega)]
  | k + 1, k' + 1, s, h, h' => by
    rw [linesF, linesF]
    by_cases h0 : s.size = 0
    · rw [if_pos h0, if_pos h0]
    · rw [if_neg h0, if_neg h0]
      by_cases hi : 0 ≤ Go.Lib.indexByte s.data.toList 10
      · rw [if_pos hi, if_pos hi, linesF_eq k k' _ (by rw [ByteArray.size_extract]; omega) (by rw [ByteArray.size_extract]; omega)]
      · rw [if_neg hi, if_neg hi]
theorem linesB_nil {s : ByteArray} (h : s.size = 0) : linesB s = [] := by
  unfold linesB
  rw [h]; rfl
theorem linesB_hit {s : ByteArray} (h : s.size ≠ 0) (hi : 0 ≤ Go.Lib.indexByte s.data.toList 10) : linesB s = s.extract 0 (Go.Lib.indexByte s.data.toList 10 + 1).toNat :: linesB (s.extract (Go.Lib.indexByte s.data.toList 10 + 1).toNat s.size) := by
  obtain ⟨m, hm⟩ : ∃ m, s.size = m + 1 := ⟨s.size - 1, by omega⟩
  have e : linesB s = linesF (m + 1) s := by unfold linesB; rw [hm]
  rw [e, linesF, if_neg h, if_pos hi]
  congr 1
  unfold linesB
  exact linesF_eq _ _ _ (by rw [ByteArray.size_extract]; omega) (Nat.le_refl _)
theorem linesB_miss {s : ByteArray} (h : s.size ≠ 0) (hi : ¬ 0 ≤ Go.Lib.indexByte s.data.toList 10) : linesB s = s :: linesB ByteArray.empty := by
  obtain ⟨m, hm⟩ : ∃ m, s.size = m + 1 := ⟨s.size - 1, by omega⟩
  have e : linesB s = linesF (m + 1) s := by unfold linesB; rw [hm]
  rw [e, linesF, if_neg h, if_neg hi]
  rfl
theorem lines_it : LinesC Tryz.prog 98 9 linesB := by
  intro r bI Inv Out hst hy s W hsz hI hb
  refine CV.body Tryz.func98 rfl Tryz.ntmps98 rfl ?_
  refine CJ.block ?_
  refine CJ.loop (fun k F w1 => ∃ s : ByteArray, k = s.size ∧ F = [(0, .func (.yield r) #[] #[]), (1, pt bI)] ∧ s.size ≤ 9223372036854775806 ∧ Inv (linesB s) w1 ∧ w1.heap[bI]? = some (.cells #[.string s] 9 (0, 0))) s.size (F' := [(0, .func (.yield r) #[] #[]), (1, pt bI)]) ⟨rfl, rfl, trivial⟩ ⟨s, rfl, rfl, hsz, hI, hb⟩ ?_
  clear hI hb hsz s
  rintro k F w1 ⟨s, rfl, rfl, hsz, hI, hb⟩
  have hS : St w1 (fun k => k = bI) w1 [box bI [.string s] 9] [] := ⟨Chg.refl _ _, fun c hc => by rw [List.mem_singleton.1 hc]; exact hb, fun c hc b hb' => by rw [List.mem_singleton.1 hc] at hb'; exact .inr hb', List.pairwise_singleton _ _, by simp, by simp⟩
  refine CJ.seq ?_
  refine SG ?_
  refine OS (SL (ce hS 0)) ?_
  refine PX 2 ?_
  refine CJ.cond rfl (fun hb0 => ?_) (fun hb0 => ?_)
  · have h0 : s.size ≠ 0 := by
      have := of_decide_eq_true hb0
      omega
    refine CJ.skip (EJ.next ?_)
    refine CJ.block ?_
    refine SG ?_
    refine PX 1 ?_
    refine CJ.cut (fun F w2 => ∃ (line s' : ByteArray), linesB s = line :: linesB s' ∧ s'.size < s.size ∧ F = [(0, .func (.yield r) #[] #[]), (1, pt bI), (3, .string line)] ∧ St w1 (fun k => k = bI) w2 [box bI [.string s'] 9] []) ?_ ?_
    · refine SG ?_
      refine OS (SL (ce hS 0)) ?_
      have hidx : CV Tryz.prog 99 [.string s, .int .u8 10].toArray w1 fun v w' => v = .int .i64 (Go.Lib.indexByte s.data.toList 10) ∧ w' = w1 := Calls.mono (Any.strings_IndexByte layIdx s 10 w1) fun e w' ⟨h1, h2⟩ => ⟨_, h1, rfl, h2⟩
      refine OC hb99 hidx ?_
      rintro _ w2 ⟨rfl, rfl⟩
      refine PS 1 ?_
      refine PX 2 ?_
      have hlt : Go.Lib.indexByte s.data.toList 10 < (s.size : Int) := by
        rcases idx_lt s.data.toList 10 with h | h
        · rw [size_listL] at h; exact h
        · have := size_listL s
          rw [h] at this
          simp at this; omega
      refine CJ.cond rfl (fun hb1 => ?_) (fun hb1 => ?_)
      · have hi : 0 ≤ Go.Lib.indexByte s.data.toList 10 := of_decide_eq_true hb1
        have ew : IntKind.i64.wrap (Go.Lib.indexByte s.data.toList 10 + 1) = Go.Lib.indexByte s.data.toList 10 + 1 := w64 (by omega) (by omega)
        refine CJ.draw [] [0, 1, 2, 3, 4, 5, 6, 7, 8, 9] mixed (by kernel_rfl) hS fun w2 hS => ?_
        refine DS (SL (ce hS 0)) ?_
        refine DPU 2 ?_
        refine DJ.st rfl rfl rfl rfl rfl (SR.cutStr oU 0 (Go.Lib.indexByte s.data.toList 10 + 1).toNat rfl rfl rfl rfl rfl (.inl ⟨rfl, rfl⟩) (.inr ⟨_, _, rfl, by rw [ew]; omega, by rw [ew]⟩) (by omega) (by omega)) ?_
        refine DS (SL (ce hS 0)) ?_
        refine DPU 2 ?_
        refine DJ.st rfl rfl rfl rfl rfl (SR.cutStr oU (Go.Lib.indexByte s.data.toList 10 + 1).toNat s.size rfl rfl rfl rfl rfl (.inr ⟨_, _, rfl, by rw [ew]; omega, by rw [ew]⟩) (.inl ⟨rfl, rfl⟩) (by omega) (by omega)) ?_
        refine DPU 1 ?_
        refine DE (WV hS 0 [.string (s.extract (Go.Lib.indexByte s.data.toList 10 + 1).toNat s.size)]) ?_
        intro w3 hS
        refine DJ.nil ?_
        exact MT ⟨_, s.extract (Go.Lib.indexByte s.data.toList 10 + 1).toNat s.size, linesB_hit h0 hi, by rw [ByteArray.size_extract]; omega, rfl, hS⟩
      · have hi : ¬ 0 ≤ Go.Lib.indexByte s.data.toList 10 := of_decide_eq_false hb1
        refine CJ.region ?_
        refine OS (SL (ce hS 0)) ?_
        refine PU 1 ?_
        refine OE (WV hS 0 [.string ByteArray.empty]) ?_
        intro w3 hS
        refine OJ.nil ?_
        exact MT ⟨s, ByteArray.empty, linesB_miss h0 hi, by show 0 < s.size; omega, rfl, hS⟩
    · rintro F w2 ⟨line, s', he, hlt, rfl, hS⟩
      have hb2 : w2.heap[bI]? = some (.cells #[.string s'] 9 (0, 0)) := hS.at_ (i := 0) rfl
      have hI2 := hst _ _ _ s' hI hS.chg hb2
      rw [he] at hI2
      refine SG ?_
      refine PU 2 ?_
      refine OJ.yield rfl rfl rfl rfl rfl rfl rfl rfl (hy _ _ _ _ hI2 hb2) ?_
      rintro _ w3 (⟨rfl, hI3, hb3⟩ | ⟨rfl, hO⟩)
      · refine PX 1 ?_
        refine CJ.condF rfl ?_
        refine CJ.skip (EJ.blk ?_)
        exact EJ.round s'.size (F' := [(0, .func (.yield r) #[] #[]), (1, pt bI)]) ⟨rfl, rfl, trivial⟩ hlt ⟨s', rfl, rfl, by omega, hI3, by rw [hb3]; exact hb2⟩
      · refine PX 1 ?_
        refine CJ.condT rfl ?_
        refine CJ.ret (EJ.bkR (EJ.skR (EJ.bkR ?_)))
        exact EJ.fin rfl .nil (.inr hO)
  · have h0 : s.size = 0 := by
      have := of_decide_eq_false hb0
      omega
    rw [linesB_nil h0] at hI
    refine CJ.exit (EJ.skE (EJ.skE (EJ.hit ?_)))
    exact EJ.fin' rfl .nil (.inl hI)
theorem strings_Lines.c (w : World) (a0 : ByteArray) : CV Tryz.prog 37 [.string a0].toArray w fun v w' => ∃ b, v = .func (.func 98) #[] #[pt b] ∧ St w no w' [box b [.string a0] 9] [] := by
 have hS := St.init w no
 refine CV.body Tryz.func37 Z Tryz.ntmps37 Z ?_
 refine GO ?_
 refine oX hS ([.string a0]) fun b1 w1 hS => ?_
 exact EJ.fin Z (.tmp Z .nil) ⟨b1, Z, hS⟩

def internal_stringslite_HasSuffix.f (a0 : ByteArray) (a1 : ByteArray) : Option Bool := if (a1.size : Int) ≤ (a0.size : Int) then ((chk ((0 : Int) ≤ (IntKind.i64.wrap ((a0.size : Int) - (a1.size : Int))) ∧ (IntKind.i64.wrap ((a0.size : Int) - (a1.size : Int))) ≤ (a0.size : Int) ∧ (a0.size : Int) ≤ (a0.size : Int))).bind fun u1 => some (decide ((a0.extract ((IntKind.i64.wrap ((a0.size : Int) - (a1.size : Int))).toNat) a0.size) = a1))) else (some false)
theorem internal_stringslite_HasSuffix.c {w} {a0 : ByteArray} {a1 : ByteArray} (r : Bool) (H : internal_stringslite_HasSuffix.f a0 a1 = some r) :
 CV Tryz.prog 142 [.string a0, .string a1].toArray w fun v w' => v = .bool r ∧ Ext w w' := by
 have hS := (St.init w no)
 unfold internal_stringslite_HasSuffix.f at H
 refine CV.body Tryz.func142 Z Tryz.ntmps142 Z ?_
 refine GO ?_
 refine OJ.split (t := 10) Z (fun hb => ?_) (fun hb => ?_)
 replace H := pif_t (of_decide_eq_true hb) H
 refine GO ?_
 obtain ⟨u1, hu1, H⟩ := pbind H
 refine OJ.st rfl rfl rfl (SR.cutStr oU ((IntKind.i64.wrap ((a0.size : Int) - (a1.size : Int))).toNat) (a0.size) rfl rfl rfl rfl rfl (.inr ⟨_, _, rfl, (chk_some hu1).1, rfl⟩) (.inl ⟨rfl, rfl⟩) (by have := (chk_some hu1); omega) (by have := (chk_some hu1); omega)) ?_
 exact FE H hS
 replace H := pif_f (of_decide_eq_false hb) H
 exact FE H hS

def internal_stringslite_TrimSuffix.f (a0 : ByteArray) (a1 : ByteArray) : Option ByteArray := (internal_stringslite_HasSuffix.f a0 a1).bind fun t1 => if t1 = true then ((chk ((0 : Int) ≤ 0 ∧ 0 ≤ (IntKind.i64.wrap ((a0.size : Int) - (a1.size : Int))) ∧ (IntKind.i64.wrap ((a0.size : Int) - (a1.size : Int))) ≤ (a0.size : Int))).bind fun u2 => some (a0.extract 0 ((IntKind.i64.wrap ((a0.size : Int) - (a1.size : Int))).toNat))) else (some a0)
theorem internal_stringslite_TrimSuffix.c {w} {a0 : ByteArray} {a1 : ByteArray} (r : ByteArray) (H : internal_stringslite_TrimSuffix.f a0 a1 = some r) :
 CV Tryz.prog 101 [.string a0, .string a1].toArray w fun v w' => v = .string r ∧ Ext w w' := by
 have hS := (St.init w no)
 unfold internal_stringslite_TrimSuffix.f at H
 refine CV.body Tryz.func101 Z Tryz.ntmps101 Z ?_
 refine GO ?_
 refine oB H hS hb142 (internal_stringslite_HasSuffix.c) fun t1 w1 H hS => ?_
 refine CB H (fun H => GO ?_) (fun H => ?_)
 obtain ⟨u2, hu2, H⟩ := pbind H
 refine OJ.st rfl rfl rfl (SR.cutStr oU (0) ((IntKind.i64.wrap ((a0.size : Int) - (a1.size : Int))).toNat) rfl rfl rfl rfl rfl (.inl ⟨rfl, rfl⟩) (.inr ⟨_, _, rfl, (by have := (chk_some hu2); omega), rfl⟩) (by have := (chk_some hu2); omega) (by have := (chk_some hu2); omega)) ?_
 exact FE H hS
 exact FE H hS

def strings_TrimSuffix.f (a0 : ByteArray) (a1 : ByteArray) : Option ByteArray := (internal_stringslite_TrimSuffix.f a0 a1).bind fun t1 => some t1
theorem strings_TrimSuffix.c {w} {a0 : ByteArray} {a1 : ByteArray} (r : ByteArray) (H : strings_TrimSuffix.f a0 a1 = some r) :
 CV Tryz.prog 39 [.string a0, .string a1].toArray w fun v w' => v = .string r ∧ Ext w w' := by
 have hS := (St.init w no)
 unfold strings_TrimSuffix.f at H
 refine CV.body Tryz.func39 Z Tryz.ntmps39 Z ?_
 refine GO ?_
 refine OB H hS hb101 (internal_stringslite_TrimSuffix.c) fun t1 w1 H hS => ?_
 exact FE H hS

def strings_Split.f (a0 : ByteArray) (a1 : ByteArray) : Option (List ByteArray) := (chk (a0.size < 4294967281 ∧ 1 ≤ a1.size)).bind fun _ => some (splitS a0 a1)
theorem strings_Split.c {w} {a0 : ByteArray} {a1 : ByteArray} (hT : (envC Tryz.prog 0).holds w) (r : List ByteArray) (H : strings_Split.f a0 a1 = some r) :
 CV Tryz.prog 38 [.string a0, .string a1].toArray w fun v w' => ∃ (A0 : Option Addr) (c0 : Nat), v = .slice A0 r.length c0 ∧ St w no w' [rowC G.cs A0 c0 9 r] [] := by
 unfold strings_Split.f at H
 obtain ⟨u, hu, H⟩ := pbind H
 have h := chk_some hu
 obtain rfl := Option.some.inj H
 exact split_cv hT (fun s sep m w h1 h2 h3 => Any.strings_Split { laySplit with } laySplit.i9 s sep m w h1 h2 h3) h.1 h.2

def strconv_ParseInt.f (a0 : ByteArray) (a1 : Int) (a2 : Int) : Option (Int × Bool) := (chk (a0.size ≤ 4294967296 ∧ a1 = 10 ∧ a2 = 64)).bind fun _ => some (parseI a0)
theorem strconv_ParseInt.c {w} {a0 : ByteArray} {a1 : Int} {a2 : Int} (hT : (envC Tryz.prog 0).holds w) (r : Int × Bool) (H : strconv_ParseInt.f a0 a1 a2 = some r) :
 CV Tryz.prog 102 [.string a0, i6 a1, i6 a2].toArray w fun v w' => ∃ t q, v = .tuple #[.int .i64 r.1, errV r.2 t q] ∧ Ext w w' := by
 unfold strconv_ParseInt.f at H
 obtain ⟨u, hu, H⟩ := pbind H
 have h := chk_some hu
 obtain rfl := Option.some.inj H
 obtain ⟨h, rfl, rfl⟩ := h
 exact parse_cv hT (fun s h v hp w => (Any.strconv_ParseInt_10_at64_ok layParse s h v hp w).mono fun e w' ⟨he, hw⟩ => ⟨he, bytes_ext hw⟩)
  (fun s h hp tp p w hv => (Any.strconv_ParseInt_10_at64_syntax_var layParse s h hp tp p w hv).mono fun e w' ⟨N, he, _, _, hb⟩ => ⟨⟨_, _, he⟩, below_ext hb⟩)
  (fun s h hp tp p w hv => (Any.strconv_ParseInt_10_at64_range_var layParse s h hp tp p w hv).mono fun e w' ⟨N, he, _, _, hb⟩ => ⟨⟨_, _, he⟩, below_ext hb⟩) h

def impl_number.f (a0 : ByteArray) (a1 : Int) : Option (Int × Bool) := (strconv_ParseInt.f a0 10 64).bind fun t1 => if t1.2 = true then (some (0, false)) else ((impl_decimal.f t1.1).bind fun t4 => if t4 ≠ a0 then (some (0, false)) else ((impl_within.f t1.1 0 a1).bind fun t5 => if (!t5) = true then (some (0, false)) else (some (t1.1, true))))
theorem impl_number.c {w} {a0 : ByteArray} {a1 : Int} (hT : (envC Tryz.prog 0).holds w) (r : Int × Bool) (H : impl_number.f a0 a1 = some r) :
 CV Tryz.prog 40 [.string a0, i6 a1].toArray w fun v w' => v = .tuple #[.int .i64 r.1, .bool r.2] ∧ Ext w w' := by
 have hS := ((St.init w no).paramT (envC Tryz.prog 0) hT)
 unfold impl_number.f at H
 refine CV.body Tryz.func40 Z Tryz.ntmps40 Z ?_
 refine GO ?_
 obtain ⟨t1, ht1, H⟩ := pbind H
 refine OC hb102 (strconv_ParseInt.c (hS.ro (i := 0) Z) _ ht1) ?_
 rintro _ w1 ⟨t2, q3, rfl, hs⟩
 replace hS := hS.grow hs
 refine GO ?_
 refine OJ.st rfl rfl rfl (SR.neErr (by kernel_rfl) rfl rfl) ?_
 refine GO ?_
 refine OJ.split (t := 15) Z (fun hb => ?_) (fun hb => ?_)
 replace H := pif_t hb H
 refine GO ?_
 refine CJ.condT Z ?_
 exact FE H hS
 replace H := pifb_f hb H
 refine GO ?_
 refine oB H hS hb42 (impl_decimal.c (hS.ro (i := 0) Z)) fun t4 w1 H hS => ?_
 refine OJ.split (t := 21) Z (fun hb => ?_) (fun hb => ?_)
 replace H := pif_t (of_decide_eq_true hb) H
 refine GO ?_
 refine CJ.condT Z ?_
 exact FE H hS
 replace H := pif_f (of_decide_eq_false hb) H
 refine GO ?_
 refine oB H hS hb53 (impl_within.c) fun t5 w1 H hS => ?_
 refine CB H (fun H => ?_) (fun H => ?_)
 exact FE H hS
 exact FE H hS
end Go.Proofs.YtplfdbfdalaefaaGreatDoor
