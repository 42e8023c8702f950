/-
  What the functions come to.
-/
import Derived.Test.YtplfdbfdalaefaaGreatDoorGP2
namespace Go.Proofs.YtplfdbfdalaefaaGreatDoor
open G
set_option linter.unusedVariables false
set_option linter.unusedSimpArgs false
set_option maxRecDepth 100000
set_option maxHeartbeats 4000000
def impl_WithFoes.f (k : Nat) (a0 : Herd) (a1 : Int) (a2 : Int) (a3 : Bool) : Option (Herd × Int) := (impl_herdCode.f k a0 ([a1, a2] : List Int)).bind fun t4 => (impl_unless.f (decide (a1 ≠ a2)) 4).bind fun t5 => (impl_firstOf.f k ([t4, t5] : List Int)).bind fun t7 => if t7 ≠ 0 then (some ((⟨[], [], []⟩ : Herd), t7)) else ((impl_Herd_own.f a0).bind fun t8 => (impl_Herd_set.f t8 a1 a2 a3).bind fun t16 => some ((⟨t8.Names, t8.Eats, t16⟩ : Herd), 0))
theorem impl_WithFoes.c {k w Aa0_0 ca0_0 Aa0_1 ca0_1 Aa0_2 ca0_2} (a0 : Herd) (hr0_0 : Rd G.cs w Aa0_0 a0.Names) (hc0_0 : a0.Names.length ≤ ca0_0) (hr0_1 : Rd (ci .i16) w Aa0_1 a0.Eats) (hc0_1 : a0.Eats.length ≤ ca0_1) (hr0_2 : Rd (ci .u16) w Aa0_2 a0.Foes) (hc0_2 : a0.Foes.length ≤ ca0_2) {a1 : Int} {a2 : Int} {a3 : Bool} (r : Herd × Int) (H : impl_WithFoes.f k a0 a1 a2 a3 = some r) :
 CV Tryz.prog 22 [.agg (hv Aa0_0 Aa0_1 Aa0_2 ca0_0 ca0_1 ca0_2 a0).toArray, .int .i64 a1, i6 a2, .bool a3].toArray w fun v w' => ∃ (A0_0 : Option Addr) (c0_0 : Nat) (A0_1 : Option Addr) (c0_1 : Nat) (A0_2 : Option Addr) (c0_2 : Nat), v = .tuple #[.agg (hv A0_0 A0_1 A0_2 c0_0 c0_1 c0_2 r.1).toArray, .int .i64 r.2] ∧ St w no w' [rowC G.cs A0_0 c0_0 9 r.1.Names, rowC (ci .i16) A0_1 c0_1 49 r.1.Eats, rowC (ci .u16) A0_2 c0_2 55 r.1.Foes] [] := by
 have hS := ((((St.init w no).param G.cs Aa0_0 ca0_0 a0.Names hr0_0 hc0_0).param (ci .i16) Aa0_1 ca0_1 a0.Eats hr0_1 hc0_1).param (ci .u16) Aa0_2 ca0_2 a0.Foes hr0_2 hc0_2)
 unfold impl_WithFoes.f at H
 refine CV.body Tryz.func22 Z Tryz.ntmps22 Z ?_
 refine GO ?_
 refine OF (EB hS (hv Aa0_0 Aa0_1 Aa0_2 ca0_0 ca0_1 ca0_2 a0)) ?_
 rintro _ w1 ⟨b1, rfl, hS⟩
 refine oA hS ([.slice none 0 0, .slice none 0 0, .slice none 0 0]) fun b2 w1 hS => ?_
 refine oS (SN (hv Aa0_0 Aa0_1 Aa0_2 ca0_0 ca0_1 ca0_2 a0) (ce hS 0)) ?_
 refine OF (EL hS (ci .i64) ([a1, a2] : List Int)) ?_
 rintro _ w1 ⟨A3, rfl, hS⟩
 refine oB H hS hb56 (impl_herdCode.c a0 (rA hS 0 Z) (rB hS 0 Z) (rA hS 1 Z) (rB hS 1 Z) (rA hS 2 Z) (rB hS 2 Z) (rC hS 2 Z) (rD hS 2 Z)) fun t4 w1 H hS => ?_
 refine OB H hS hb59 (impl_unless.c) fun t5 w1 H hS => ?_
 refine OF (EL hS (ci .i64) ([t4, t5] : List Int)) ?_
 rintro _ w1 ⟨A6, rfl, hS⟩
 refine oB H hS hb58 (impl_firstOf.c (rC hS 3 Z) (rD hS 3 Z)) fun t7 w1 H hS => ?_
 refine CP H (fun H => GO ?_) (fun H => ?_)
 refine OJ.st Z Z Z (SR.build' oU oI Z Z Z (zs := [.slice none 0 0, .slice none 0 0, .slice none 0 0]) Z Z Z ([.slice none 0 0, .slice none 0 0, .slice none 0 0]) Z) ?_
 refine GO ?_
 refine oE (WV hS 1 [.slice none 0 0, .slice none 0 0, .slice none 0 0]) fun w1 hS => ?_
 replace hS := hS.addNil G.cs 9 none
 replace hS := hS.addNil (ci .i16) 49 none
 replace hS := hS.addNil (ci .u16) 55 none
 obtain rfl := Option.some.inj H
 exact EJ.fin Z (.cell Z (ldN oU oI Z Z Z (hS.cells (i := 1) Z) (ds := [.slice none 0 0, .slice none 0 0, .slice none 0 0]) Z Z) (.tmp Z .nil)) ⟨none, 0, none, 0, none, 0, Z, hS.pick [4, 5, 6] [] Z⟩
 refine GO ?_
 refine OS (SN (hv Aa0_0 Aa0_1 Aa0_2 ca0_0 ca0_1 ca0_2 a0) (ce hS 0)) ?_
 obtain ⟨t8, ht8, H⟩ := pbind H
 refine OC hb65 (impl_Herd_own.c a0 (rA hS 0 Z) (rB hS 0 Z) (rA hS 1 Z) (rB hS 1 Z) (rA hS 2 Z) (rB hS 2 Z) _ ht8) ?_
 rintro _ w1 ⟨A9, c10, A11, c12, A13, c14, rfl, hs⟩
 replace hS := hS.addN hs
 have hS : St _ _ _ [_, _, _, _, _, _, _] _ := hS
 refine OF (EA hS ([.slice none 0 0, .slice none 0 0, .slice none 0 0])) ?_
 rintro _ w1 ⟨b15, rfl, hS⟩
 refine oE (WV hS 7 [sl A9 t8.Names c10, sl A11 t8.Eats c12, sl A13 t8.Foes c14]) fun w1 hS => ?_
 refine oS (SN (hv A9 A11 A13 c10 c12 c14 t8) (ce hS 7)) ?_
 obtain ⟨t16, ht16, H⟩ := pbind H
 refine OC hb61 (impl_Herd_set.c A9 c10 A11 c12 t8 ((hS.subs [6] [] [] Z).pick [0] [] Z) _ ht16) ?_
 rintro _ w1 ⟨rfl, hs, hlc0⟩
 replace hS := hS.back [6] Z Z [rowC (ci .u16) A13 c14 55 t16] [] hs ⟨fun _ => Iff.rfl, trivial⟩
 have hS : St _ _ _ [_, _, _, _, _, _, _, _] _ := hS
 refine OJ.as (t := 28) rfl (show _ = (.agg [.slice A9 t8.Names.length c10, .slice A11 t8.Eats.length c12, .slice A13 t16.length c14].toArray : Value) by simp only [hlc0]) ?_
 refine OJ.as (t := 29) rfl (show _ = (.agg [.slice A9 t8.Names.length c10, .slice A11 t8.Eats.length c12, .slice A13 t16.length c14].toArray : Value) by simp only [hlc0]) ?_
 replace hS := hS.boxAs (i := 7) rfl (show _ = ([.slice A9 t8.Names.length c10, .slice A11 t8.Eats.length c12, .slice A13 t16.length c14] : List Value) by simp only [hlc0])
 have hS : St _ _ _ [_, _, _, _, _, _, _, _] _ := hS
 refine GO ?_
 refine OS (SN [sl A9 t8.Names c10, sl A11 t8.Eats c12, sl A13 t16 c14] (ce hS 7)) ?_
 refine oE (WV hS 1 [sl A9 t8.Names c10, sl A11 t8.Eats c12, sl A13 t16 c14]) fun w1 hS => ?_
 obtain rfl := Option.some.inj H
 exact EJ.fin Z (.cell Z (ldN oU oI Z Z Z (hS.cells (i := 1) Z) (ds := [sl A9 t8.Names c10, sl A11 t8.Eats c12, sl A13 t16 c14]) Z Z) (.tmp Z .nil)) ⟨A9, c10, A11, c12, A13, c14, Z, hS.pick [4, 5, 6] [] Z⟩

def impl_AddToHerd.f (k : Nat) (a0 : Herd) (a1 : ByteArray) (a2 : Int) : Option (Herd × Int) := ((impl_isName.f k a1).bind fun t4 => if t4 = true then ((slices_Contains_string_string.f k a0.Names a1).bind fun t5 => some (!t5)) else (some false)).bind fun y3 => (impl_herdCode.f k a0 []).bind fun t6 => (impl_within.f a2 0 100).bind fun t7 => (impl_unless.f t7 2).bind fun t8 => (impl_unless.f y3 4).bind fun t9 => (impl_Herd_many.f a0).bind fun t10 => (impl_unless.f (decide (t10 < 14)) 3).bind fun t11 => (impl_firstOf.f k ([t6, t8, t9, t11] : List Int)).bind fun t13 => if t13 ≠ 0 then (some ((⟨[], [], []⟩ : Herd), t13)) else ((impl_Herd_own.f a0).bind fun t14 => (chk (t14.Names.length + ([a1] : List ByteArray).length ≤ 4294967296)).bind fun u23 => (chk (t14.Eats.length + ([IntKind.i16.wrap a2] : List Int).length ≤ 4294967296)).bind fun u27 => (chk (t14.Foes.length + ([0] : List Int).length ≤ 4294967296)).bind fun u31 => some ((⟨t14.Names ++ ([a1] : List ByteArray), t14.Eats ++ ([IntKind.i16.wrap a2] : List Int), t14.Foes ++ ([0] : List Int)⟩ : Herd), 0))
theorem impl_AddToHerd.c {k w Aa0_0 ca0_0 Aa0_1 ca0_1 Aa0_2 ca0_2} (a0 : Herd) (hr0_0 : Rd G.cs w Aa0_0 a0.Names) (hc0_0 : a0.Names.length ≤ ca0_0) (hr0_1 : Rd (ci .i16) w Aa0_1 a0.Eats) (hc0_1 : a0.Eats.length ≤ ca0_1) (hr0_2 : Rd (ci .u16) w Aa0_2 a0.Foes) (hc0_2 : a0.Foes.length ≤ ca0_2) {a1 : ByteArray} {a2 : Int} (r : Herd × Int) (H : impl_AddToHerd.f k a0 a1 a2 = some r) :
 CV Tryz.prog 23 [.agg (hv Aa0_0 Aa0_1 Aa0_2 ca0_0 ca0_1 ca0_2 a0).toArray, .string a1, i6 a2].toArray w fun v w' => ∃ (A0_0 : Option Addr) (c0_0 : Nat) (A0_1 : Option Addr) (c0_1 : Nat) (A0_2 : Option Addr) (c0_2 : Nat), v = .tuple #[.agg (hv A0_0 A0_1 A0_2 c0_0 c0_1 c0_2 r.1).toArray, .int .i64 r.2] ∧ St w no w' [rowC G.cs A0_0 c0_0 9 r.1.Names, rowC (ci .i16) A0_1 c0_1 49 r.1.Eats, rowC (ci .u16) A0_2 c0_2 55 r.1.Foes] [] := by
 have hS := ((((St.init w no).param G.cs Aa0_0 ca0_0 a0.Names hr0_0 hc0_0).param (ci .i16) Aa0_1 ca0_1 a0.Eats hr0_1 hc0_1).param (ci .u16) Aa0_2 ca0_2 a0.Foes hr0_2 hc0_2)
 unfold impl_AddToHerd.f at H
 refine CV.body Tryz.func23 Z Tryz.ntmps23 Z ?_
 refine GO ?_
 refine OF (EB hS (hv Aa0_0 Aa0_1 Aa0_2 ca0_0 ca0_1 ca0_2 a0)) ?_
 rintro _ w1 ⟨b1, rfl, hS⟩
 refine OF (EA hS ([.slice none 0 0, .slice none 0 0, .slice none 0 0])) ?_
 rintro _ w1 ⟨b2, rfl, hS⟩
 refine PX 1 ?_
 obtain ⟨j263, H, K263⟩ := pbind H
 refine CJ.cut (fun F w1 => ∃ y3, some y3 = some j263 ∧ F = [(1, .string a1), (2, i6 a2), (3, pt b1), (6, pt b2), (8, .bool y3)] ∧ St w no w1 [box b1 (hv Aa0_0 Aa0_1 Aa0_2 ca0_0 ca0_1 ca0_2 a0) 28, box b2 ([.slice none 0 0, .slice none 0 0, .slice none 0 0]) 28] [roC G.cs Aa0_0 ca0_0 a0.Names, roC (ci .i16) Aa0_1 ca0_1 a0.Eats, roC (ci .u16) Aa0_2 ca0_2 a0.Foes]) ?_ ?_
 refine GO ?_
 refine oB H hS hb51 (impl_isName.c) fun t4 w1 H hS => ?_
 refine OJ.split (t := 13) Z (fun hb => ?_) (fun hb => ?_)
 replace H := pif_t hb H
 refine GO ?_
 refine oS (SL (cf hS 0 0)) ?_
 refine OB H hS hb52 (slices_Contains_string_string.c (rA hS 0 Z) (rB hS 0 Z)) fun t5 w1 H hS => ?_
 exact MD H hS
 replace H := pifb_f hb H
 exact MD H hS
 rintro F w1 ⟨y3, he, rfl, hS⟩
 obtain rfl := Option.some.inj he
 have H := K263
 refine GO ?_
 refine CJ.draw [] [0, 2, 5, 7, 1, 3, 4, 6, 8, 9, 10, 11, 12, 13] mixed (by kernel_rfl) hS fun w1 hS => ?_
 refine dS (SN (hv Aa0_0 Aa0_1 Aa0_2 ca0_0 ca0_1 ca0_2 a0) (ce hS 0)) ?_
 refine DS (SN (hv Aa0_0 Aa0_1 Aa0_2 ca0_0 ca0_1 ca0_2 a0) (ce hS 0)) ?_
 obtain ⟨t6, ht6, H⟩ := pbind H
 refine DJ.callF rfl rfl rfl rfl rfl rfl rfl hb56 rfl (impl_herdCode.c a0 (rA hS 0 Z) (rB hS 0 Z) (rA hS 1 Z) (rB hS 1 Z) (rA hS 2 Z) (rB hS 2 Z) (Rd.nil (ci .i64) _ _) (Nat.le_refl _) _ ht6) (by rintro v w' ⟨rfl, hs⟩; exact hs) ?_
 rintro _ w1 ⟨rfl, hs⟩
 replace hS := hS.grow hs
 obtain ⟨t7, ht7, H⟩ := pbind H
 refine DJ.callF rfl rfl rfl rfl rfl rfl rfl hb53 rfl (impl_within.c _ ht7) (by rintro v w' ⟨rfl, hs⟩; exact hs) ?_
 rintro _ w1 ⟨rfl, hs⟩
 replace hS := hS.grow hs
 obtain ⟨t8, ht8, H⟩ := pbind H
 refine DJ.callF rfl rfl rfl rfl rfl rfl rfl hb59 rfl (impl_unless.c _ ht8) (by rintro v w' ⟨rfl, hs⟩; exact hs) ?_
 rintro _ w1 ⟨rfl, hs⟩
 replace hS := hS.grow hs
 obtain ⟨t9, ht9, H⟩ := pbind H
 refine DJ.callF rfl rfl rfl rfl rfl rfl rfl hb59 rfl (impl_unless.c _ ht9) (by rintro v w' ⟨rfl, hs⟩; exact hs) ?_
 rintro _ w1 ⟨rfl, hs⟩
 replace hS := hS.grow hs
 obtain ⟨t10, ht10, H⟩ := pbind H
 refine DJ.callF rfl rfl rfl rfl rfl rfl rfl hb64 rfl (impl_Herd_many.c a0 (rA hS 0 Z) (rB hS 0 Z) (rA hS 1 Z) (rB hS 1 Z) (rA hS 2 Z) (rB hS 2 Z) _ ht10) (by rintro v w' ⟨rfl, hs⟩; exact hs) ?_
 rintro _ w1 ⟨rfl, hs⟩
 replace hS := hS.grow hs
 refine GO ?_
 obtain ⟨t11, ht11, H⟩ := pbind H
 refine DJ.callF rfl rfl rfl rfl rfl rfl rfl hb59 rfl (impl_unless.c _ ht11) (by rintro v w' ⟨rfl, hs⟩; exact hs) ?_
 rintro _ w1 ⟨rfl, hs⟩
 replace hS := hS.grow hs
 refine DF (EL hS (ci .i64) ([t6, t8, t9, t11] : List Int)) ?_
 rintro _ w1 ⟨A12, rfl, hS⟩
 obtain ⟨t13, ht13, H⟩ := pbind H
 refine DJ.callF rfl rfl rfl rfl rfl rfl rfl hb58 rfl (impl_firstOf.c (rC hS 2 Z) (rD hS 2 Z) _ ht13) (by rintro v w' ⟨rfl, hs⟩; exact hs) ?_
 rintro _ w1 ⟨rfl, hs⟩
 replace hS := hS.grow hs
 refine GO ?_
 refine CP H (fun H => GO ?_) (fun H => ?_)
 refine OJ.st Z Z Z (SR.build' oU oI Z Z Z (zs := [.slice none 0 0, .slice none 0 0, .slice none 0 0]) Z Z Z ([.slice none 0 0, .slice none 0 0, .slice none 0 0]) Z) ?_
 refine GO ?_
 refine oE (WV hS 1 [.slice none 0 0, .slice none 0 0, .slice none 0 0]) fun w1 hS => ?_
 replace hS := hS.addNil G.cs 9 none
 replace hS := hS.addNil (ci .i16) 49 none
 replace hS := hS.addNil (ci .u16) 55 none
 obtain rfl := Option.some.inj H
 exact EJ.fin Z (.cell Z (ldN oU oI Z Z Z (hS.cells (i := 1) Z) (ds := [.slice none 0 0, .slice none 0 0, .slice none 0 0]) Z Z) (.tmp Z .nil)) ⟨none, 0, none, 0, none, 0, Z, hS.pick [3, 4, 5] [] Z⟩
 refine GO ?_
 refine OS (SN (hv Aa0_0 Aa0_1 Aa0_2 ca0_0 ca0_1 ca0_2 a0) (ce hS 0)) ?_
 obtain ⟨t14, ht14, H⟩ := pbind H
 refine OC hb65 (impl_Herd_own.c a0 (rA hS 0 Z) (rB hS 0 Z) (rA hS 1 Z) (rB hS 1 Z) (rA hS 2 Z) (rB hS 2 Z) _ ht14) ?_
 rintro _ w1 ⟨A15, c16, A17, c18, A19, c20, rfl, hs⟩
 replace hS := hS.addN hs
 have hS : St _ _ _ [_, _, _, _, _, _] _ := hS
 refine OF (EA hS ([.slice none 0 0, .slice none 0 0, .slice none 0 0])) ?_
 rintro _ w1 ⟨b21, rfl, hS⟩
 refine oE (WV hS 6 [sl A15 t14.Names c16, sl A17 t14.Eats c18, sl A19 t14.Foes c20]) fun w1 hS => ?_
 obtain ⟨u23, hu23, H⟩ := pbind H
 obtain ⟨u27, hu27, H⟩ := pbind H
 obtain ⟨u31, hu31, H⟩ := pbind H
 refine CJ.cut1 (fun F w1 => ∃ (A22 A24 c25 A26 A28 c29 A30 A32 c33 : _), F = [(6, pt b2), (7, i6 0)] ∧ St w no w1 [box b1 (hv Aa0_0 Aa0_1 Aa0_2 ca0_0 ca0_1 ca0_2 a0) 28, box b2 ([sl A24 (t14.Names ++ ([a1] : List ByteArray)) c25, sl A28 (t14.Eats ++ ([IntKind.i16.wrap a2] : List Int)) c29, sl A32 (t14.Foes ++ ([0] : List Int)) c33]) 28, rowC (ci .i64) A12 (([t6, t8, t9, t11] : List Int).length) 2 ([t6, t8, t9, t11] : List Int), rowC G.cs A24 c25 9 (t14.Names ++ ([a1] : List ByteArray)), rowC (ci .i16) A28 c29 49 (t14.Eats ++ ([IntKind.i16.wrap a2] : List Int)), rowC (ci .u16) A32 c33 55 (t14.Foes ++ ([0] : List Int)), box b21 (hv A15 A17 A19 c16 c18 c20 t14) 28, rowC G.cs A22 (([a1] : List ByteArray).length) 9 ([a1] : List ByteArray), rowC (ci .i16) A26 (([IntKind.i16.wrap a2] : List Int).length) 49 ([IntKind.i16.wrap a2] : List Int), rowC (ci .u16) A30 (([0] : List Int).length) 55 ([0] : List Int)] [roC G.cs Aa0_0 ca0_0 a0.Names, roC (ci .i16) Aa0_1 ca0_1 a0.Eats, roC (ci .u16) Aa0_2 ca0_2 a0.Foes]) ?_ ?_
 refine CJ.drawT [] [3, 4, 9, 10, 13, 14, 15, 16] (.one 0 (.one 1 (.one 2 (.one 5 (.one 6 (.one 7 (.one 8 (.one 11 (.one 12 (.br (.alt 3 (.br (.alt 4 (.br (.alt 9 (.br (.alt 10 (.one 13 (.one 14 (.one 15 (.one 16 (.one 17 (.fin)))))) (.alt 13 (.one 10 (.one 14 (.one 15 (.one 16 (.one 17 (.fin)))))) (.stop)))) (.alt 13 (.one 9 (.one 10 (.one 14 (.one 15 (.one 16 (.one 17 (.fin))))))) (.stop)))) (.alt 9 (.br (.alt 4 (.br (.alt 10 (.one 13 (.one 14 (.one 15 (.one 16 (.one 17 (.fin)))))) (.alt 13 (.one 10 (.one 14 (.one 15 (.one 16 (.one 17 (.fin)))))) (.stop)))) (.alt 13 (.one 4 (.one 10 (.one 14 (.one 15 (.one 16 (.one 17 (.fin))))))) (.stop)))) (.alt 13 (.br (.alt 4 (.one 9 (.one 10 (.one 14 (.one 15 (.one 16 (.one 17 (.fin))))))) (.alt 9 (.one 4 (.one 10 (.one 14 (.one 15 (.one 16 (.one 17 (.fin))))))) (.stop)))) (.stop))))) (.alt 9 (.br (.alt 3 (.br (.alt 4 (.br (.alt 10 (.one 13 (.one 14 (.one 15 (.one 16 (.one 17 (.fin)))))) (.alt 13 (.one 10 (.one 14 (.one 15 (.one 16 (.one 17 (.fin)))))) (.stop)))) (.alt 13 (.one 4 (.one 10 (.one 14 (.one 15 (.one 16 (.one 17 (.fin))))))) (.stop)))) (.alt 13 (.one 3 (.one 4 (.one 10 (.one 14 (.one 15 (.one 16 (.one 17 (.fin)))))))) (.stop)))) (.alt 13 (.br (.alt 3 (.br (.alt 4 (.one 9 (.one 10 (.one 14 (.one 15 (.one 16 (.one 17 (.fin))))))) (.alt 9 (.one 4 (.one 10 (.one 14 (.one 15 (.one 16 (.one 17 (.fin))))))) (.stop)))) (.alt 9 (.one 3 (.one 4 (.one 10 (.one 14 (.one 15 (.one 16 (.one 17 (.fin)))))))) (.stop)))) (.stop)))))))))))))) mixed (by kernel_rfl) hS [6] fun w1 hS hY hV => ?_
 refine TP (fun _ => SF) ?_
 refine TL hY (fun w2 hY => SL (CA.sub ((hV w2 hY).cellsR (i := 3) Z) 0)) ?_
 refine GO ?_
 refine TP (fun _ => SF) ?_
 refine TL hY (fun w2 hY => SL (CA.sub ((hV w2 hY).cellsR (i := 3) Z) 1)) ?_
 refine GO ?_
 refine TP (fun _ => SF) ?_
 refine TL hY (fun w2 hY => SL (CA.sub ((hV w2 hY).cellsR (i := 3) Z) 2)) ?_
 refine TJ.br ?_
 refine TJ.alt ?_ ?_
 refine TF hY (EL hS G.cs ([a1] : List ByteArray)) ?_
 rintro _ w1 hY ⟨A34, rfl, hS⟩
 refine TJ.br ?_
 refine TJ.alt ?_ ?_
 refine tW [6] 3 3 hY hS (rC hS 7 Z) (chk_some hu23) fun A35 c36 w1 hY (hS : St _ _ _ [_, _, _, _, _, _, _, _] _) => ?_
 refine TJ.br ?_
 refine TJ.alt ?_ ?_
 refine TF hY (EL hS (ci .i16) ([IntKind.i16.wrap a2] : List Int)) ?_
 rintro _ w1 hY ⟨A37, rfl, hS⟩
 refine TJ.br ?_
 refine TJ.alt ?_ ?_
 refine tW [6] 4 3 hY hS (rC hS 8 Z) (chk_some hu27) fun A38 c39 w1 hY (hS : St _ _ _ [_, _, _, _, _, _, _, _, _] _) => ?_
 refine TF hY (EL hS (ci .u16) ([0] : List Int)) ?_
 rintro _ w1 hY ⟨A40, rfl, hS⟩
 refine tW [6] 5 3 hY hS (rC hS 9 Z) (chk_some hu31) fun A41 c42 w1 hY (hS : St _ _ _ [_, _, _, _, _, _, _, _, _, _] _) => ?_
 refine TJ.ef hY Z Z Z Z Z ((SR.build' oU oI Z Z Z (zs := [.slice none 0 0, .slice none 0 0, .slice none 0 0]) Z Z Z ([sl A35 (t14.Names ++ ([a1] : List ByteArray)) c36, sl A38 (t14.Eats ++ ([IntKind.i16.wrap a2] : List Int)) c39, sl A41 (t14.Foes ++ ([0] : List Int)) c42]) Z).ef) ?_
 rintro _ w1 hY ⟨rfl, hx⟩
 replace hS := hS.grow hx
 have hO := hS
 refine TE (WV (hS.inn [6]) 1 [sl A35 (t14.Names ++ ([a1] : List ByteArray)) c36, sl A38 (t14.Eats ++ ([IntKind.i16.wrap a2] : List Int)) c39, sl A41 (t14.Foes ++ ([0] : List Int)) c42]) (ws hY (hO.inY [6] 3 Z Z)) ?_
 intro w1 hY hS
 have hS : St _ _ _ [_, _, _, _, _, _, _, _, _, _] _ := hO.out [6] hS
 exact MD H hS
 refine TJ.alt ?_ ?_
 refine TF hY (EL hS (ci .u16) ([0] : List Int)) ?_
 rintro _ w1 hY ⟨A43, rfl, hS⟩
 refine tW [6] 4 3 hY hS (rC hS 8 Z) (chk_some hu27) fun A44 c45 w1 hY (hS : St _ _ _ [_, _, _, _, _, _, _, _, _, _] _) => ?_
 refine tW [6] 5 3 hY hS (rC hS 9 Z) (chk_some hu31) fun A46 c47 w1 hY (hS : St _ _ _ [_, _, _, _, _, _, _, _, _, _] _) => ?_
 refine TJ.ef hY Z Z Z Z Z ((SR.build' oU oI Z Z Z (zs := [.slice none 0 0, .slice none 0 0, .slice none 0 0]) Z Z Z ([sl A35 (t14.Names ++ ([a1] : List ByteArray)) c36, sl A44 (t14.Eats ++ ([IntKind.i16.wrap a2] : List Int)) c45, sl A46 (t14.Foes ++ ([0] : List Int)) c47]) Z).ef) ?_
 rintro _ w1 hY ⟨rfl, hx⟩
 replace hS := hS.grow hx
 have hO := hS
 refine TE (WV (hS.inn [6]) 1 [sl A35 (t14.Names ++ ([a1] : List ByteArray)) c36, sl A44 (t14.Eats ++ ([IntKind.i16.wrap a2] : List Int)) c45, sl A46 (t14.Foes ++ ([0] : List Int)) c47]) (ws hY (hO.inY [6] 3 Z Z)) ?_
 intro w1 hY hS
 have hS : St _ _ _ [_, _, _, _, _, _, _, _, _, _] _ := hO.out [6] hS
 exact MD H hS
 exact TJ.stop
 refine TJ.alt ?_ ?_
 refine TF hY (EL hS (ci .u16) ([0] : List Int)) ?_
 rintro _ w1 hY ⟨A48, rfl, hS⟩
 refine TF hY (EL hS (ci .i16) ([IntKind.i16.wrap a2] : List Int)) ?_
 rintro _ w1 hY ⟨A49, rfl, hS⟩
 refine tW [6] 4 3 hY hS (rC hS 9 Z) (chk_some hu27) fun A50 c51 w1 hY (hS : St _ _ _ [_, _, _, _, _, _, _, _, _, _] _) => ?_
 refine tW [6] 5 3 hY hS (rC hS 8 Z) (chk_some hu31) fun A52 c53 w1 hY (hS : St _ _ _ [_, _, _, _, _, _, _, _, _, _] _) => ?_
 refine TJ.ef hY Z Z Z Z Z ((SR.build' oU oI Z Z Z (zs := [.slice none 0 0, .slice none 0 0, .slice none 0 0]) Z Z Z ([sl A35 (t14.Names ++ ([a1] : List ByteArray)) c36, sl A50 (t14.Eats ++ ([IntKind.i16.wrap a2] : List Int)) c51, sl A52 (t14.Foes ++ ([0] : List Int)) c53]) Z).ef) ?_
 rintro _ w1 hY ⟨rfl, hx⟩
 replace hS := hS.grow hx
 have hO := hS
 refine TE (WV (hS.inn [6]) 1 [sl A35 (t14.Names ++ ([a1] : List ByteArray)) c36, sl A50 (t14.Eats ++ ([IntKind.i16.wrap a2] : List Int)) c51, sl A52 (t14.Foes ++ ([0] : List Int)) c53]) (ws hY (hO.inY [6] 3 Z Z)) ?_
 intro w1 hY hS
 have hS : St _ _ _ [_, _, _, _, _, _, _, _, _, _] _ := hO.out [6] hS
 refine GO ?_
 exact MT ⟨A34, A35, c36, A49, A50, c51, A48, A52, c53, Z, hS.pick [0, 1, 2, 3, 4, 5, 6, 7, 9, 8] [0, 1, 2] Z⟩
 exact TJ.stop
 refine TJ.alt ?_ ?_
 refine TF hY (EL hS (ci .i16) ([IntKind.i16.wrap a2] : List Int)) ?_
 rintro _ w1 hY ⟨A54, rfl, hS⟩
 refine TJ.br ?_
 refine TJ.alt ?_ ?_
 refine tW [6] 3 3 hY hS (rC hS 7 Z) (chk_some hu23) fun A55 c56 w1 hY (hS : St _ _ _ [_, _, _, _, _, _, _, _, _] _) => ?_
 refine TJ.br ?_
 refine TJ.alt ?_ ?_
 refine tW [6] 4 3 hY hS (rC hS 8 Z) (chk_some hu27) fun A57 c58 w1 hY (hS : St _ _ _ [_, _, _, _, _, _, _, _, _] _) => ?_
 refine TF hY (EL hS (ci .u16) ([0] : List Int)) ?_
 rintro _ w1 hY ⟨A59, rfl, hS⟩
 refine tW [6] 5 3 hY hS (rC hS 9 Z) (chk_some hu31) fun A60 c61 w1 hY (hS : St _ _ _ [_, _, _, _, _, _, _, _, _, _] _) => ?_
 refine TJ.ef hY Z Z Z Z Z ((SR.build' oU oI Z Z Z (zs := [.slice none 0 0, .slice none 0 0, .slice none 0 0]) Z Z Z ([sl A55 (t14.Names ++ ([a1] : List ByteArray)) c56, sl A57 (t14.Eats ++ ([IntKind.i16.wrap a2] : List Int)) c58, sl A60 (t14.Foes ++ ([0] : List Int)) c61]) Z).ef) ?_
 rintro _ w1 hY ⟨rfl, hx⟩
 replace hS := hS.grow hx
 have hO := hS
 refine TE (WV (hS.inn [6]) 1 [sl A55 (t14.Names ++ ([a1] : List ByteArray)) c56, sl A57 (t14.Eats ++ ([IntKind.i16.wrap a2] : List Int)) c58, sl A60 (t14.Foes ++ ([0] : List Int)) c61]) (ws hY (hO.inY [6] 3 Z Z)) ?_
 intro w1 hY hS
 have hS : St _ _ _ [_, _, _, _, _, _, _, _, _, _] _ := hO.out [6] hS
 exact MD H hS
 refine TJ.alt ?_ ?_
 refine TF hY (EL hS (ci .u16) ([0] : List Int)) ?_
 rintro _ w1 hY ⟨A62, rfl, hS⟩
 refine tW [6] 4 3 hY hS (rC hS 8 Z) (chk_some hu27) fun A63 c64 w1 hY (hS : St _ _ _ [_, _, _, _, _, _, _, _, _, _] _) => ?_
 refine tW [6] 5 3 hY hS (rC hS 9 Z) (chk_some hu31) fun A65 c66 w1 hY (hS : St _ _ _ [_, _, _, _, _, _, _, _, _, _] _) => ?_
 refine TJ.ef hY Z Z Z Z Z ((SR.build' oU oI Z Z Z (zs := [.slice none 0 0, .slice none 0 0, .slice none 0 0]) Z Z Z ([sl A55 (t14.Names ++ ([a1] : List ByteArray)) c56, sl A63 (t14.Eats ++ ([IntKind.i16.wrap a2] : List Int)) c64, sl A65 (t14.Foes ++ ([0] : List Int)) c66]) Z).ef) ?_
 rintro _ w1 hY ⟨rfl, hx⟩
 replace hS := hS.grow hx
 have hO := hS
 refine TE (WV (hS.inn [6]) 1 [sl A55 (t14.Names ++ ([a1] : List ByteArray)) c56, sl A63 (t14.Eats ++ ([IntKind.i16.wrap a2] : List Int)) c64, sl A65 (t14.Foes ++ ([0] : List Int)) c66]) (ws hY (hO.inY [6] 3 Z Z)) ?_
 intro w1 hY hS
 have hS : St _ _ _ [_, _, _, _, _, _, _, _, _, _] _ := hO.out [6] hS
 exact MD H hS
 exact TJ.stop
 refine TJ.alt ?_ ?_
 refine TF hY (EL hS (ci .u16) ([0] : List Int)) ?_
 rintro _ w1 hY ⟨A67, rfl, hS⟩
 refine tW [6] 3 3 hY hS (rC hS 7 Z) (chk_some hu23) fun A68 c69 w1 hY (hS : St _ _ _ [_, _, _, _, _, _, _, _, _, _] _) => ?_
 refine tW [6] 4 3 hY hS (rC hS 8 Z) (chk_some hu27) fun A70 c71 w1 hY (hS : St _ _ _ [_, _, _, _, _, _, _, _, _, _] _) => ?_
 refine tW [6] 5 3 hY hS (rC hS 9 Z) (chk_some hu31) fun A72 c73 w1 hY (hS : St _ _ _ [_, _, _, _, _, _, _, _, _, _] _) => ?_
 refine TJ.ef hY Z Z Z Z Z ((SR.build' oU oI Z Z Z (zs := [.slice none 0 0, .slice none 0 0, .slice none 0 0]) Z Z Z ([sl A68 (t14.Names ++ ([a1] : List ByteArray)) c69, sl A70 (t14.Eats ++ ([IntKind.i16.wrap a2] : List Int)) c71, sl A72 (t14.Foes ++ ([0] : List Int)) c73]) Z).ef) ?_
 rintro _ w1 hY ⟨rfl, hx⟩
 replace hS := hS.grow hx
 have hO := hS
 refine TE (WV (hS.inn [6]) 1 [sl A68 (t14.Names ++ ([a1] : List ByteArray)) c69, sl A70 (t14.Eats ++ ([IntKind.i16.wrap a2] : List Int)) c71, sl A72 (t14.Foes ++ ([0] : List Int)) c73]) (ws hY (hO.inY [6] 3 Z Z)) ?_
 intro w1 hY hS
 have hS : St _ _ _ [_, _, _, _, _, _, _, _, _, _] _ := hO.out [6] hS
 exact MD H hS
 exact TJ.stop
 refine TJ.alt ?_ ?_
 refine TF hY (EL hS (ci .u16) ([0] : List Int)) ?_
 rintro _ w1 hY ⟨A74, rfl, hS⟩
 refine TJ.br ?_
 refine TJ.alt ?_ ?_
 refine tW [6] 3 3 hY hS (rC hS 7 Z) (chk_some hu23) fun A75 c76 w1 hY (hS : St _ _ _ [_, _, _, _, _, _, _, _, _] _) => ?_
 refine TF hY (EL hS (ci .i16) ([IntKind.i16.wrap a2] : List Int)) ?_
 rintro _ w1 hY ⟨A77, rfl, hS⟩
 refine tW [6] 4 3 hY hS (rC hS 9 Z) (chk_some hu27) fun A78 c79 w1 hY (hS : St _ _ _ [_, _, _, _, _, _, _, _, _, _] _) => ?_
 refine tW [6] 5 3 hY hS (rC hS 8 Z) (chk_some hu31) fun A80 c81 w1 hY (hS : St _ _ _ [_, _, _, _, _, _, _, _, _, _] _) => ?_
 refine TJ.ef hY Z Z Z Z Z ((SR.build' oU oI Z Z Z (zs := [.slice none 0 0, .slice none 0 0, .slice none 0 0]) Z Z Z ([sl A75 (t14.Names ++ ([a1] : List ByteArray)) c76, sl A78 (t14.Eats ++ ([IntKind.i16.wrap a2] : List Int)) c79, sl A80 (t14.Foes ++ ([0] : List Int)) c81]) Z).ef) ?_
 rintro _ w1 hY ⟨rfl, hx⟩
 replace hS := hS.grow hx
 have hO := hS
 refine TE (WV (hS.inn [6]) 1 [sl A75 (t14.Names ++ ([a1] : List ByteArray)) c76, sl A78 (t14.Eats ++ ([IntKind.i16.wrap a2] : List Int)) c79, sl A80 (t14.Foes ++ ([0] : List Int)) c81]) (ws hY (hO.inY [6] 3 Z Z)) ?_
 intro w1 hY hS
 have hS : St _ _ _ [_, _, _, _, _, _, _, _, _, _] _ := hO.out [6] hS
 refine GO ?_
 exact MT ⟨A34, A75, c76, A77, A78, c79, A74, A80, c81, Z, hS.pick [0, 1, 2, 3, 4, 5, 6, 7, 9, 8] [0, 1, 2] Z⟩
 refine TJ.alt ?_ ?_
 refine TF hY (EL hS (ci .i16) ([IntKind.i16.wrap a2] : List Int)) ?_
 rintro _ w1 hY ⟨A82, rfl, hS⟩
 refine tW [6] 3 3 hY hS (rC hS 7 Z) (chk_some hu23) fun A83 c84 w1 hY (hS : St _ _ _ [_, _, _, _, _, _, _, _, _, _] _) => ?_
 refine tW [6] 4 3 hY hS (rC hS 9 Z) (chk_some hu27) fun A85 c86 w1 hY (hS : St _ _ _ [_, _, _, _, _, _, _, _, _, _] _) => ?_
 refine tW [6] 5 3 hY hS (rC hS 8 Z) (chk_some hu31) fun A87 c88 w1 hY (hS : St _ _ _ [_, _, _, _, _, _, _, _, _, _] _) => ?_
 refine TJ.ef hY Z Z Z Z Z ((SR.build' oU oI Z Z Z (zs := [.slice none 0 0, .slice none 0 0, .slice none 0 0]) Z Z Z ([sl A83 (t14.Names ++ ([a1] : List ByteArray)) c84, sl A85 (t14.Eats ++ ([IntKind.i16.wrap a2] : List Int)) c86, sl A87 (t14.Foes ++ ([0] : List Int)) c88]) Z).ef) ?_
 rintro _ w1 hY ⟨rfl, hx⟩
 replace hS := hS.grow hx
 have hO := hS
 refine TE (WV (hS.inn [6]) 1 [sl A83 (t14.Names ++ ([a1] : List ByteArray)) c84, sl A85 (t14.Eats ++ ([IntKind.i16.wrap a2] : List Int)) c86, sl A87 (t14.Foes ++ ([0] : List Int)) c88]) (ws hY (hO.inY [6] 3 Z Z)) ?_
 intro w1 hY hS
 have hS : St _ _ _ [_, _, _, _, _, _, _, _, _, _] _ := hO.out [6] hS
 refine GO ?_
 exact MT ⟨A34, A83, c84, A82, A85, c86, A74, A87, c88, Z, hS.pick [0, 1, 2, 3, 4, 5, 6, 7, 9, 8] [0, 1, 2] Z⟩
 exact TJ.stop
 exact TJ.stop
 refine TJ.alt ?_ ?_
 refine TF hY (EL hS (ci .i16) ([IntKind.i16.wrap a2] : List Int)) ?_
 rintro _ w1 hY ⟨A89, rfl, hS⟩
 refine TJ.br ?_
 refine TJ.alt ?_ ?_
 refine TF hY (EL hS G.cs ([a1] : List ByteArray)) ?_
 rintro _ w1 hY ⟨A90, rfl, hS⟩
 refine TJ.br ?_
 refine TJ.alt ?_ ?_
 refine tW [6] 3 3 hY hS (rC hS 8 Z) (chk_some hu23) fun A91 c92 w1 hY (hS : St _ _ _ [_, _, _, _, _, _, _, _, _] _) => ?_
 refine TJ.br ?_
 refine TJ.alt ?_ ?_
 refine tW [6] 4 3 hY hS (rC hS 7 Z) (chk_some hu27) fun A93 c94 w1 hY (hS : St _ _ _ [_, _, _, _, _, _, _, _, _] _) => ?_
 refine TF hY (EL hS (ci .u16) ([0] : List Int)) ?_
 rintro _ w1 hY ⟨A95, rfl, hS⟩
 refine tW [6] 5 3 hY hS (rC hS 9 Z) (chk_some hu31) fun A96 c97 w1 hY (hS : St _ _ _ [_, _, _, _, _, _, _, _, _, _] _) => ?_
 refine TJ.ef hY Z Z Z Z Z ((SR.build' oU oI Z Z Z (zs := [.slice none 0 0, .slice none 0 0, .slice none 0 0]) Z Z Z ([sl A91 (t14.Names ++ ([a1] : List ByteArray)) c92, sl A93 (t14.Eats ++ ([IntKind.i16.wrap a2] : List Int)) c94, sl A96 (t14.Foes ++ ([0] : List Int)) c97]) Z).ef) ?_
 rintro _ w1 hY ⟨rfl, hx⟩
 replace hS := hS.grow hx
 have hO := hS
 refine TE (WV (hS.inn [6]) 1 [sl A91 (t14.Names ++ ([a1] : List ByteArray)) c92, sl A93 (t14.Eats ++ ([IntKind.i16.wrap a2] : List Int)) c94, sl A96 (t14.Foes ++ ([0] : List Int)) c97]) (ws hY (hO.inY [6] 3 Z Z)) ?_
 intro w1 hY hS
 have hS : St _ _ _ [_, _, _, _, _, _, _, _, _, _] _ := hO.out [6] hS
 refine GO ?_
 exact MT ⟨A90, A91, c92, A89, A93, c94, A95, A96, c97, Z, hS.pick [0, 1, 2, 3, 4, 5, 6, 8, 7, 9] [0, 1, 2] Z⟩
 refine TJ.alt ?_ ?_
 refine TF hY (EL hS (ci .u16) ([0] : List Int)) ?_
 rintro _ w1 hY ⟨A98, rfl, hS⟩
 refine tW [6] 4 3 hY hS (rC hS 7 Z) (chk_some hu27) fun A99 c100 w1 hY (hS : St _ _ _ [_, _, _, _, _, _, _, _, _, _] _) => ?_
 refine tW [6] 5 3 hY hS (rC hS 9 Z) (chk_some hu31) fun A101 c102 w1 hY (hS : St _ _ _ [_, _, _, _, _, _, _, _, _, _] _) => ?_
 refine TJ.ef hY Z Z Z Z Z ((SR.build' oU oI Z Z Z (zs := [.slice none 0 0, .slice none 0 0, .slice none 0 0]) Z Z Z ([sl A91 (t14.Names ++ ([a1] : List ByteArray)) c92, sl A99 (t14.Eats ++ ([IntKind.i16.wrap a2] : List Int)) c100, sl A101 (t14.Foes ++ ([0] : List Int)) c102]) Z).ef) ?_
 rintro _ w1 hY ⟨rfl, hx⟩
 replace hS := hS.grow hx
 have hO := hS
 refine TE (WV (hS.inn [6]) 1 [sl A91 (t14.Names ++ ([a1] : List ByteArray)) c92, sl A99 (t14.Eats ++ ([IntKind.i16.wrap a2] : List Int)) c100, sl A101 (t14.Foes ++ ([0] : List Int)) c102]) (ws hY (hO.inY [6] 3 Z Z)) ?_
 intro w1 hY hS
 have hS : St _ _ _ [_, _, _, _, _, _, _, _, _, _] _ := hO.out [6] hS
 refine GO ?_
 exact MT ⟨A90, A91, c92, A89, A99, c100, A98, A101, c102, Z, hS.pick [0, 1, 2, 3, 4, 5, 6, 8, 7, 9] [0, 1, 2] Z⟩
 exact TJ.stop
 refine TJ.alt ?_ ?_
 refine TF hY (EL hS (ci .u16) ([0] : List Int)) ?_
 rintro _ w1 hY ⟨A103, rfl, hS⟩
 refine tW [6] 3 3 hY hS (rC hS 8 Z) (chk_some hu23) fun A104 c105 w1 hY (hS : St _ _ _ [_, _, _, _, _, _, _, _, _, _] _) => ?_
 refine tW [6] 4 3 hY hS (rC hS 7 Z) (chk_some hu27) fun A106 c107 w1 hY (hS : St _ _ _ [_, _, _, _, _, _, _, _, _, _] _) => ?_
 refine tW [6] 5 3 hY hS (rC hS 9 Z) (chk_some hu31) fun A108 c109 w1 hY (hS : St _ _ _ [_, _, _, _, _, _, _, _, _, _] _) => ?_
 refine TJ.ef hY Z Z Z Z Z ((SR.build' oU oI Z Z Z (zs := [.slice none 0 0, .slice none 0 0, .slice none 0 0]) Z Z Z ([sl A104 (t14.Names ++ ([a1] : List ByteArray)) c105, sl A106 (t14.Eats ++ ([IntKind.i16.wrap a2] : List Int)) c107, sl A108 (t14.Foes ++ ([0] : List Int)) c109]) Z).ef) ?_
 rintro _ w1 hY ⟨rfl, hx⟩
 replace hS := hS.grow hx
 have hO := hS
 refine TE (WV (hS.inn [6]) 1 [sl A104 (t14.Names ++ ([a1] : List ByteArray)) c105, sl A106 (t14.Eats ++ ([IntKind.i16.wrap a2] : List Int)) c107, sl A108 (t14.Foes ++ ([0] : List Int)) c109]) (ws hY (hO.inY [6] 3 Z Z)) ?_
 intro w1 hY hS
 have hS : St _ _ _ [_, _, _, _, _, _, _, _, _, _] _ := hO.out [6] hS
 refine GO ?_
 exact MT ⟨A90, A104, c105, A89, A106, c107, A103, A108, c109, Z, hS.pick [0, 1, 2, 3, 4, 5, 6, 8, 7, 9] [0, 1, 2] Z⟩
 exact TJ.stop
 refine TJ.alt ?_ ?_
 refine TF hY (EL hS (ci .u16) ([0] : List Int)) ?_
 rintro _ w1 hY ⟨A110, rfl, hS⟩
 refine TF hY (EL hS G.cs ([a1] : List ByteArray)) ?_
 rintro _ w1 hY ⟨A111, rfl, hS⟩
 refine tW [6] 3 3 hY hS (rC hS 9 Z) (chk_some hu23) fun A112 c113 w1 hY (hS : St _ _ _ [_, _, _, _, _, _, _, _, _, _] _) => ?_
 refine tW [6] 4 3 hY hS (rC hS 7 Z) (chk_some hu27) fun A114 c115 w1 hY (hS : St _ _ _ [_, _, _, _, _, _, _, _, _, _] _) => ?_
 refine tW [6] 5 3 hY hS (rC hS 8 Z) (chk_some hu31) fun A116 c117 w1 hY (hS : St _ _ _ [_, _, _, _, _, _, _, _, _, _] _) => ?_
 refine TJ.ef hY Z Z Z Z Z ((SR.build' oU oI Z Z Z (zs := [.slice none 0 0, .slice none 0 0, .slice none 0 0]) Z Z Z ([sl A112 (t14.Names ++ ([a1] : List ByteArray)) c113, sl A114 (t14.Eats ++ ([IntKind.i16.wrap a2] : List Int)) c115, sl A116 (t14.Foes ++ ([0] : List Int)) c117]) Z).ef) ?_
 rintro _ w1 hY ⟨rfl, hx⟩
 replace hS := hS.grow hx
 have hO := hS
 refine TE (WV (hS.inn [6]) 1 [sl A112 (t14.Names ++ ([a1] : List ByteArray)) c113, sl A114 (t14.Eats ++ ([IntKind.i16.wrap a2] : List Int)) c115, sl A116 (t14.Foes ++ ([0] : List Int)) c117]) (ws hY (hO.inY [6] 3 Z Z)) ?_
 intro w1 hY hS
 have hS : St _ _ _ [_, _, _, _, _, _, _, _, _, _] _ := hO.out [6] hS
 refine GO ?_
 exact MT ⟨A111, A112, c113, A89, A114, c115, A110, A116, c117, Z, hS.pick [0, 1, 2, 3, 4, 5, 6, 9, 7, 8] [0, 1, 2] Z⟩
 exact TJ.stop
 refine TJ.alt ?_ ?_
 refine TF hY (EL hS (ci .u16) ([0] : List Int)) ?_
 rintro _ w1 hY ⟨A118, rfl, hS⟩
 refine TJ.br ?_
 refine TJ.alt ?_ ?_
 refine TF hY (EL hS G.cs ([a1] : List ByteArray)) ?_
 rintro _ w1 hY ⟨A119, rfl, hS⟩
 refine TJ.br ?_
 refine TJ.alt ?_ ?_
 refine tW [6] 3 3 hY hS (rC hS 8 Z) (chk_some hu23) fun A120 c121 w1 hY (hS : St _ _ _ [_, _, _, _, _, _, _, _, _] _) => ?_
 refine TF hY (EL hS (ci .i16) ([IntKind.i16.wrap a2] : List Int)) ?_
 rintro _ w1 hY ⟨A122, rfl, hS⟩
 refine tW [6] 4 3 hY hS (rC hS 9 Z) (chk_some hu27) fun A123 c124 w1 hY (hS : St _ _ _ [_, _, _, _, _, _, _, _, _, _] _) => ?_
 refine tW [6] 5 3 hY hS (rC hS 7 Z) (chk_some hu31) fun A125 c126 w1 hY (hS : St _ _ _ [_, _, _, _, _, _, _, _, _, _] _) => ?_
 refine TJ.ef hY Z Z Z Z Z ((SR.build' oU oI Z Z Z (zs := [.slice none 0 0, .slice none 0 0, .slice none 0 0]) Z Z Z ([sl A120 (t14.Names ++ ([a1] : List ByteArray)) c121, sl A123 (t14.Eats ++ ([IntKind.i16.wrap a2] : List Int)) c124, sl A125 (t14.Foes ++ ([0] : List Int)) c126]) Z).ef) ?_
 rintro _ w1 hY ⟨rfl, hx⟩
 replace hS := hS.grow hx
 have hO := hS
 refine TE (WV (hS.inn [6]) 1 [sl A120 (t14.Names ++ ([a1] : List ByteArray)) c121, sl A123 (t14.Eats ++ ([IntKind.i16.wrap a2] : List Int)) c124, sl A125 (t14.Foes ++ ([0] : List Int)) c126]) (ws hY (hO.inY [6] 3 Z Z)) ?_
 intro w1 hY hS
 have hS : St _ _ _ [_, _, _, _, _, _, _, _, _, _] _ := hO.out [6] hS
 refine GO ?_
 exact MT ⟨A119, A120, c121, A122, A123, c124, A118, A125, c126, Z, hS.pick [0, 1, 2, 3, 4, 5, 6, 8, 9, 7] [0, 1, 2] Z⟩
 refine TJ.alt ?_ ?_
 refine TF hY (EL hS (ci .i16) ([IntKind.i16.wrap a2] : List Int)) ?_
 rintro _ w1 hY ⟨A127, rfl, hS⟩
 refine tW [6] 3 3 hY hS (rC hS 8 Z) (chk_some hu23) fun A128 c129 w1 hY (hS : St _ _ _ [_, _, _, _, _, _, _, _, _, _] _) => ?_
 refine tW [6] 4 3 hY hS (rC hS 9 Z) (chk_some hu27) fun A130 c131 w1 hY (hS : St _ _ _ [_, _, _, _, _, _, _, _, _, _] _) => ?_
 refine tW [6] 5 3 hY hS (rC hS 7 Z) (chk_some hu31) fun A132 c133 w1 hY (hS : St _ _ _ [_, _, _, _, _, _, _, _, _, _] _) => ?_
 refine TJ.ef hY Z Z Z Z Z ((SR.build' oU oI Z Z Z (zs := [.slice none 0 0, .slice none 0 0, .slice none 0 0]) Z Z Z ([sl A128 (t14.Names ++ ([a1] : List ByteArray)) c129, sl A130 (t14.Eats ++ ([IntKind.i16.wrap a2] : List Int)) c131, sl A132 (t14.Foes ++ ([0] : List Int)) c133]) Z).ef) ?_
 rintro _ w1 hY ⟨rfl, hx⟩
 replace hS := hS.grow hx
 have hO := hS
 refine TE (WV (hS.inn [6]) 1 [sl A128 (t14.Names ++ ([a1] : List ByteArray)) c129, sl A130 (t14.Eats ++ ([IntKind.i16.wrap a2] : List Int)) c131, sl A132 (t14.Foes ++ ([0] : List Int)) c133]) (ws hY (hO.inY [6] 3 Z Z)) ?_
 intro w1 hY hS
 have hS : St _ _ _ [_, _, _, _, _, _, _, _, _, _] _ := hO.out [6] hS
 refine GO ?_
 exact MT ⟨A119, A128, c129, A127, A130, c131, A118, A132, c133, Z, hS.pick [0, 1, 2, 3, 4, 5, 6, 8, 9, 7] [0, 1, 2] Z⟩
 exact TJ.stop
 refine TJ.alt ?_ ?_
 refine TF hY (EL hS (ci .i16) ([IntKind.i16.wrap a2] : List Int)) ?_
 rintro _ w1 hY ⟨A134, rfl, hS⟩
 refine TF hY (EL hS G.cs ([a1] : List ByteArray)) ?_
 rintro _ w1 hY ⟨A135, rfl, hS⟩
 refine tW [6] 3 3 hY hS (rC hS 9 Z) (chk_some hu23) fun A136 c137 w1 hY (hS : St _ _ _ [_, _, _, _, _, _, _, _, _, _] _) => ?_
 refine tW [6] 4 3 hY hS (rC hS 8 Z) (chk_some hu27) fun A138 c139 w1 hY (hS : St _ _ _ [_, _, _, _, _, _, _, _, _, _] _) => ?_
 refine tW [6] 5 3 hY hS (rC hS 7 Z) (chk_some hu31) fun A140 c141 w1 hY (hS : St _ _ _ [_, _, _, _, _, _, _, _, _, _] _) => ?_
 refine TJ.ef hY Z Z Z Z Z ((SR.build' oU oI Z Z Z (zs := [.slice none 0 0, .slice none 0 0, .slice none 0 0]) Z Z Z ([sl A136 (t14.Names ++ ([a1] : List ByteArray)) c137, sl A138 (t14.Eats ++ ([IntKind.i16.wrap a2] : List Int)) c139, sl A140 (t14.Foes ++ ([0] : List Int)) c141]) Z).ef) ?_
 rintro _ w1 hY ⟨rfl, hx⟩
 replace hS := hS.grow hx
 have hO := hS
 refine TE (WV (hS.inn [6]) 1 [sl A136 (t14.Names ++ ([a1] : List ByteArray)) c137, sl A138 (t14.Eats ++ ([IntKind.i16.wrap a2] : List Int)) c139, sl A140 (t14.Foes ++ ([0] : List Int)) c141]) (ws hY (hO.inY [6] 3 Z Z)) ?_
 intro w1 hY hS
 have hS : St _ _ _ [_, _, _, _, _, _, _, _, _, _] _ := hO.out [6] hS
 refine GO ?_
 exact MT ⟨A135, A136, c137, A134, A138, c139, A118, A140, c141, Z, hS.pick [0, 1, 2, 3, 4, 5, 6, 9, 8, 7] [0, 1, 2] Z⟩
 exact TJ.stop
 exact TJ.stop
 rintro F w1 ⟨A22, A24, c25, A26, A28, c29, A30, A32, c33, rfl, hS⟩
 refine EJ.next ?_
 refine GO ?_
 obtain rfl := Option.some.inj H
 exact EJ.fin Z (.cell Z (ldN oU oI Z Z Z (hS.cells (i := 1) Z) (ds := [sl A24 (t14.Names ++ ([a1] : List ByteArray)) c25, sl A28 (t14.Eats ++ ([IntKind.i16.wrap a2] : List Int)) c29, sl A32 (t14.Foes ++ ([0] : List Int)) c33]) Z Z) (.tmp Z .nil)) ⟨A24, c25, A28, c29, A32, c33, Z, hS.pick [3, 4, 5] [] Z⟩

def spec_l01Next.f (a0 : Spot) (a1 : Int) : Option Spot := if a1 = 0 then (some (⟨a0.X, IntKind.i8.wrap (a0.Y - 1)⟩ : Spot)) else (if a1 = 1 then (some (⟨IntKind.i8.wrap (a0.X + 1), a0.Y⟩ : Spot)) else (if a1 = 2 then (some (⟨a0.X, IntKind.i8.wrap (a0.Y + 1)⟩ : Spot)) else (some (⟨IntKind.i8.wrap (a0.X - 1), a0.Y⟩ : Spot))))
theorem spec_l01Next.c {w} (a0 : Spot) {a1 : Int} (r : Spot) (H : spec_l01Next.f a0 a1 = some r) :
 CV Tryz.prog 121 [.agg (cSpot.enc a0).toArray, .int .i64 a1].toArray w fun v w' => v = .agg (cSpot.enc r).toArray ∧ Ext w w' := by
 have hS := (St.init w no)
 unfold spec_l01Next.f at H
 refine CV.body Tryz.func121 Z Tryz.ntmps121 Z ?_
 refine GO ?_
 refine OF (EB hS (cSpot.enc a0)) ?_
 rintro _ w1 ⟨b1, rfl, hS⟩
 refine oA hS (cSpot.enc (⟨0, 0⟩ : Spot)) fun b2 w1 hS => ?_
 refine CJ.block ?_
 refine GO ?_
 refine CP H (fun H => GO ?_) (fun H => ?_)
 refine oS (SL (cf hS 0 1)) ?_
 refine oE (WS hS 0 ((ci .i8).enc (IntKind.i8.wrap (a0.Y - 1))) (cSpot.enc (⟨a0.X, IntKind.i8.wrap (a0.Y - 1)⟩ : Spot))) fun w1 hS => ?_
 refine OS (SE (ce hS 0)) ?_
 refine OJ.es Z Z (Es.store oI hS (i := 1) Z Z Z Z Z Z (vs := cSpot.enc (⟨a0.X, IntKind.i8.wrap (a0.Y - 1)⟩ : Spot)) Z (cSpot.len _) (cSpot.one _) (Nat.le_of_ble_eq_true Z) (cSpot.enc (⟨a0.X, IntKind.i8.wrap (a0.Y - 1)⟩ : Spot)) Z) ?_
 intro w1 hS
 refine GO ?_
 obtain rfl := Option.some.inj H
 exact EJ.fin Z (.cell Z (ldE oU oI Z Z Z (hS.cells (i := 1) Z) Z) .nil) ⟨Z, hS.ext⟩
 refine GO ?_
 refine CP H (fun H => GO ?_) (fun H => ?_)
 refine oS (SL (cf hS 0 0)) ?_
 refine oE (WS hS 0 ((ci .i8).enc (IntKind.i8.wrap (a0.X + 1))) (cSpot.enc (⟨IntKind.i8.wrap (a0.X + 1), a0.Y⟩ : Spot))) fun w1 hS => ?_
 refine OS (SE (ce hS 0)) ?_
 refine OJ.es Z Z (Es.store oI hS (i := 1) Z Z Z Z Z Z (vs := cSpot.enc (⟨IntKind.i8.wrap (a0.X + 1), a0.Y⟩ : Spot)) Z (cSpot.len _) (cSpot.one _) (Nat.le_of_ble_eq_true Z) (cSpot.enc (⟨IntKind.i8.wrap (a0.X + 1), a0.Y⟩ : Spot)) Z) ?_
 intro w1 hS
 refine GO ?_
 obtain rfl := Option.some.inj H
 exact EJ.fin Z (.cell Z (ldE oU oI Z Z Z (hS.cells (i := 1) Z) Z) .nil) ⟨Z, hS.ext⟩
 refine GO ?_
 refine CP H (fun H => GO ?_) (fun H => ?_)
 refine oS (SL (cf hS 0 1)) ?_
 refine oE (WS hS 0 ((ci .i8).enc (IntKind.i8.wrap (a0.Y + 1))) (cSpot.enc (⟨a0.X, IntKind.i8.wrap (a0.Y + 1)⟩ : Spot))) fun w1 hS => ?_
 refine OS (SE (ce hS 0)) ?_
 refine OJ.es Z Z (Es.store oI hS (i := 1) Z Z Z Z Z Z (vs := cSpot.enc (⟨a0.X, IntKind.i8.wrap (a0.Y + 1)⟩ : Spot)) Z (cSpot.len _) (cSpot.one _) (Nat.le_of_ble_eq_true Z) (cSpot.enc (⟨a0.X, IntKind.i8.wrap (a0.Y + 1)⟩ : Spot)) Z) ?_
 intro w1 hS
 refine GO ?_
 obtain rfl := Option.some.inj H
 exact EJ.fin Z (.cell Z (ldE oU oI Z Z Z (hS.cells (i := 1) Z) Z) .nil) ⟨Z, hS.ext⟩
 refine GO ?_
 refine oS (SL (cf hS 0 0)) ?_
 refine oE (WS hS 0 ((ci .i8).enc (IntKind.i8.wrap (a0.X - 1))) (cSpot.enc (⟨IntKind.i8.wrap (a0.X - 1), a0.Y⟩ : Spot))) fun w1 hS => ?_
 refine OS (SE (ce hS 0)) ?_
 refine OJ.es Z Z (Es.store oI hS (i := 1) Z Z Z Z Z Z (vs := cSpot.enc (⟨IntKind.i8.wrap (a0.X - 1), a0.Y⟩ : Spot)) Z (cSpot.len _) (cSpot.one _) (Nat.le_of_ble_eq_true Z) (cSpot.enc (⟨IntKind.i8.wrap (a0.X - 1), a0.Y⟩ : Spot)) Z) ?_
 intro w1 hS
 refine GO ?_
 obtain rfl := Option.some.inj H
 exact EJ.fin Z (.cell Z (ldE oU oI Z Z Z (hS.cells (i := 1) Z) Z) .nil) ⟨Z, hS.ext⟩

def spec_l01Is.f (a0 : Pasture) (a1 : Spot) : Option Bool := (spec_l00In.f (IntKind.i64.wrap a1.X) 0 (IntKind.i64.wrap ((IntKind.i64.wrap a0.Wide) - 1))).bind fun t2 => if t2 = true then ((spec_l00In.f (IntKind.i64.wrap a1.Y) 0 (IntKind.i64.wrap ((IntKind.i64.wrap a0.High) - 1))).bind fun t3 => some t3) else (some false)
theorem spec_l01Is.c {w} (pa0 : Addr) (a0 : Pasture) (hp0 : CA w pa0 (cPasture.enc a0)) (a1 : Spot) (r : Bool) (H : spec_l01Is.f a0 a1 = some r) :
 CV Tryz.prog 120 [.pointer (some pa0), .agg (cSpot.enc a1).toArray].toArray w fun v w' => v = .bool r ∧ Ext w w' := by
 have hS := ((St.init w no).paramP pa0 (cPasture.enc a0) hp0)
 unfold spec_l01Is.f at H
 refine CV.body Tryz.func120 Z Tryz.ntmps120 Z ?_
 refine GO ?_
 refine oX hS (cSpot.enc a1) fun b1 w1 hS => ?_
 refine CJ.draw [] [0, 1, 2, 3, 4, 5, 6, 7, 8, 9, 10, 11, 12, 13, 14, 15, 16, 17, 18, 19, 20, 21, 22] mixed (by kernel_rfl) hS fun w1 hS => ?_
 refine GO ?_
 refine dS (SL (cf hS 0 0)) ?_
 refine dS (SL (CA.fld (hS.ca (i := 0) Z) (mid_part (fe_Pasture_0 _) (fl_Pasture_0 _) ((ci .i8).len _)))) ?_
 obtain ⟨t2, ht2, H⟩ := pbind H
 refine DJ.callF rfl rfl rfl rfl rfl rfl rfl hb75 rfl (spec_l00In.c _ ht2) (by rintro v w' ⟨rfl, hs⟩; exact hs) ?_
 rintro _ w1 ⟨rfl, hs⟩
 replace hS := hS.grow hs
 refine GO ?_
 refine DJ.split (t := 15) Z (fun hb => ?_) (fun hb => ?_)
 replace H := pif_t hb H
 refine GO ?_
 refine dS (SL (cf hS 0 1)) ?_
 refine dS (SL (CA.fld (hS.ca (i := 0) Z) (mid_part (fe_Pasture_1 _) (fl_Pasture_1 _) ((ci .i8).len _)))) ?_
 obtain ⟨t3, ht3, H⟩ := pbind H
 refine DJ.callF rfl rfl rfl rfl rfl rfl rfl hb75 rfl (spec_l00In.c _ ht3) (by rintro v w' ⟨rfl, hs⟩; exact hs) ?_
 rintro _ w1 ⟨rfl, hs⟩
 replace hS := hS.grow hs
 exact FE H hS
 replace H := pifb_f hb H
 exact FE H hS

def spec_l01Set.f (a0 : Pasture) (a1 : Spot) (a2 : Int) (a3 : Bool) : Option Pasture := (if a2 = 0 then (some true) else (some (decide (a2 = 3)))).bind fun y2 => if y2 = true then ((spec_l01Next.f a1 a2).bind fun t3 => (chk (0 ≤ (IntKind.u64.wrap t3.X))).bind fun u4 => (if a2 = 1 then (some true) else (some (decide (a2 = 3)))).bind fun y5 => if y5 = true then ((getI a0.East.l t3.Y).bind fun t6 => (getI a0.East.l t3.Y).bind fun t7 => if a3 = true then ((getI (aset a0.East t3.Y.toNat (andNotI .u16 t6 (shlI .u16 1 (IntKind.u64.wrap t3.X)))).l t3.Y).bind fun t8 => (getI (aset a0.East t3.Y.toNat (andNotI .u16 t6 (shlI .u16 1 (IntKind.u64.wrap t3.X)))).l t3.Y).bind fun t9 => some (⟨a0.Wide, a0.High, a0.Grass, (aset (aset a0.East t3.Y.toNat (andNotI .u16 t6 (shlI .u16 1 (IntKind.u64.wrap t3.X)))) t3.Y.toNat (orI .u16 t8 (shlI .u16 1 (IntKind.u64.wrap t3.X)))), a0.South⟩ : Pasture)) else (some (⟨a0.Wide, a0.High, a0.Grass, (aset a0.East t3.Y.toNat (andNotI .u16 t6 (shlI .u16 1 (IntKind.u64.wrap t3.X)))), a0.South⟩ : Pasture))) else ((getI a0.South.l t3.Y).bind fun t10 => (getI a0.South.l t3.Y).bind fun t11 => if a3 = true then ((getI (aset a0.South t3.Y.toNat (andNotI .u16 t10 (shlI .u16 1 (IntKind.u64.wrap t3.X)))).l t3.Y).bind fun t12 => (getI (aset a0.South t3.Y.toNat (andNotI .u16 t10 (shlI .u16 1 (IntKind.u64.wrap t3.X)))).l t3.Y).bind fun t13 => some (⟨a0.Wide, a0.High, a0.Grass, a0.East, (aset (aset a0.South t3.Y.toNat (andNotI .u16 t10 (shlI .u16 1 (IntKind.u64.wrap t3.X)))) t3.Y.toNat (orI .u16 t12 (shlI .u16 1 (IntKind.u64.wrap t3.X))))⟩ : Pasture)) else (some (⟨a0.Wide, a0.High, a0.Grass, a0.East, (aset a0.South t3.Y.toNat (andNotI .u16 t10 (shlI .u16 1 (IntKind.u64.wrap t3.X))))⟩ : Pasture)))) else ((chk (0 ≤ (IntKind.u64.wrap a1.X))).bind fun u14 => (if a2 = 1 then (some true) else (some (decide (a2 = 3)))).bind fun y15 => if y15 = true then ((getI a0.East.l a1.Y).bind fun t16 => (getI a0.East.l a1.Y).bind fun t17 => if a3 = true then ((getI (aset a0.East a1.Y.toNat (andNotI .u16 t16 (shlI .u16 1 (IntKind.u64.wrap a1.X)))).l a1.Y).bind fun t18 => (getI (aset a0.East a1.Y.toNat (andNotI .u16 t16 (shlI .u16 1 (IntKind.u64.wrap a1.X)))).l a1.Y).bind fun t19 => some (⟨a0.Wide, a0.High, a0.Grass, (aset (aset a0.East a1.Y.toNat (andNotI .u16 t16 (shlI .u16 1 (IntKind.u64.wrap a1.X)))) a1.Y.toNat (orI .u16 t18 (shlI .u16 1 (IntKind.u64.wrap a1.X)))), a0.South⟩ : Pasture)) else (some (⟨a0.Wide, a0.High, a0.Grass, (aset a0.East a1.Y.toNat (andNotI .u16 t16 (shlI .u16 1 (IntKind.u64.wrap a1.X)))), a0.South⟩ : Pasture))) else ((getI a0.South.l a1.Y).bind fun t20 => (getI a0.South.l a1.Y).bind fun t21 => if a3 = true then ((getI (aset a0.South a1.Y.toNat (andNotI .u16 t20 (shlI .u16 1 (IntKind.u64.wrap a1.X)))).l a1.Y).bind fun t22 => (getI (aset a0.South a1.Y.toNat (andNotI .u16 t20 (shlI .u16 1 (IntKind.u64.wrap a1.X)))).l a1.Y).bind fun t23 => some (⟨a0.Wide, a0.High, a0.Grass, a0.East, (aset (aset a0.South a1.Y.toNat (andNotI .u16 t20 (shlI .u16 1 (IntKind.u64.wrap a1.X)))) a1.Y.toNat (orI .u16 t22 (shlI .u16 1 (IntKind.u64.wrap a1.X))))⟩ : Pasture)) else (some (⟨a0.Wide, a0.High, a0.Grass, a0.East, (aset a0.South a1.Y.toNat (andNotI .u16 t20 (shlI .u16 1 (IntKind.u64.wrap a1.X))))⟩ : Pasture))))
theorem spec_l01Set.c {w} (ba0 : Nat) (a0 : Pasture) (a1 : Spot) {a2 : Int} {a3 : Bool} (hin : St w (fpU [box ba0 (cPasture.enc a0) 58]) w [box ba0 (cPasture.enc a0) 58] []) (r : Pasture) (H : spec_l01Set.f a0 a1 a2 a3 = some r) :
 CV Tryz.prog 122 [pt ba0, .agg (cSpot.enc a1).toArray, .int .i64 a2, .bool a3].toArray w fun v w' => v = .tuple #[] ∧ St w (fpU [box ba0 (cPasture.enc a0) 58]) w' [box ba0 (cPasture.enc r) 58] [] := by
 have hS := hin
 unfold spec_l01Set.f at H
 refine CV.body Tryz.func122 Z Tryz.ntmps122 Z ?_
 refine GO ?_
 refine OF (EB hS (cSpot.enc a1)) ?_
 rintro _ w1 ⟨b1, rfl, hS⟩
 refine NX ?_
 refine CJ.seq ?_
 obtain ⟨j272, H, K272⟩ := pbind H
 refine CJ.cut (fun F w1 => ∃ y2, some y2 = some j272 ∧ F = [(0, pt ba0), (2, i6 a2), (3, .bool a3), (5, pt b1), (14, .bool y2)] ∧ St w (fpU [box ba0 (cPasture.enc a0) 58]) w1 [box ba0 (cPasture.enc a0) 58, box b1 (cSpot.enc a1) 63] []) ?_ ?_
 refine GO ?_
 refine OJ.split (t := 11) Z (fun hb => ?_) (fun hb => ?_)
 replace H := pif_t (of_decide_eq_true hb) H
 exact MD H hS
 replace H := pif_f (of_decide_eq_false hb) H
 exact MD H hS
 rintro F w1 ⟨y2, he, rfl, hS⟩
 obtain rfl := Option.some.inj he
 have H := K272
 refine CB H (fun H => GO ?_) (fun H => ?_)
 refine oS (SE (ce hS 1)) ?_
 refine OB H hS hb121 (spec_l01Next.c a1) fun t3 w1 H hS => ?_
 refine OJ.es Z Z (Es.store oI hS (i := 1) Z Z Z Z Z Z (vs := cSpot.enc t3) Z (cSpot.len _) (cSpot.one _) (Nat.le_of_ble_eq_true Z) (cSpot.enc t3) Z) ?_
 intro w1 hS
 refine GO ?_
 refine oS (SL (cf hS 1 0)) ?_
 obtain ⟨u4, hu4, H⟩ := pbind H
 refine OJ.st Z Z Z (SR.shl Z Z Z (chk_some hu4)) ?_
 refine PX 1 ?_
 refine CJ.seq ?_
 obtain ⟨j273, H, K273⟩ := pbind H
 refine CJ.cut (fun F w1 => ∃ y5, some y5 = some j273 ∧ F = [(0, pt ba0), (3, .bool a3), (5, pt b1), (8, .int .u16 (shlI .u16 1 (IntKind.u64.wrap t3.X))), (27, .bool y5)] ∧ St w (fpU [box ba0 (cPasture.enc a0) 58]) w1 [box ba0 (cPasture.enc a0) 58, box b1 (cSpot.enc t3) 63] []) ?_ ?_
 refine GO ?_
 refine OJ.split (t := 24) Z (fun hb => ?_) (fun hb => ?_)
 replace H := pif_t (of_decide_eq_true hb) H
 exact MD H hS
 replace H := pif_f (of_decide_eq_false hb) H
 exact MD H hS
 rintro F w1 ⟨y5, he, rfl, hS⟩
 obtain rfl := Option.some.inj he
 have H := K273
 refine CB H (fun H => GO ?_) (fun H => ?_)
 refine CJ.draw [] [0, 1, 2, 3, 4, 5, 6, 7, 8, 9, 10, 11, 12] mixed (by kernel_rfl) hS fun w1 hS => ?_
 refine GO ?_
 refine dS (SL (cf hS 1 1)) ?_
 obtain ⟨t6, ht6, H⟩ := pbind H
 refine DJ.st Z Z Z Z Z (SR.idxA oU oI Z Z Z Z Z (Arr.lt ht6)) ?_
 refine dS (SL (CA.idx (CA.fld (ce hS 0) (mid_part (fe_Pasture_3 _) (fl_Pasture_3 _) ((carr 10 (ci .u16)).len _))) ht6)) ?_
 obtain ⟨t7, ht7, H⟩ := pbind H
 refine DJ.st Z Z Z Z Z (SR.idxA oU oI Z Z Z Z Z (Arr.lt ht7)) ?_
 refine DJ.es rfl rfl rfl rfl (Es.put oI hS (i := 0) rfl rfl rfl rfl rfl (vs := (ci .u16).enc (andNotI .u16 t6 (shlI .u16 1 (IntKind.u64.wrap t3.X)))) rfl rfl (one1 rfl) (put_Pasture_3 (Put.idx (Put.all (ci .u16) t7 (andNotI .u16 t6 (shlI .u16 1 (IntKind.u64.wrap t3.X)))) ht7)) (by (try simp only [add_lit, Nat.add_assoc, Nat.zero_add, Nat.add_zero]) <;> rfl)) ?_
 intro w1 hS
 refine GO ?_
 refine CB H (fun H => ?_) (fun H => ?_)
 refine CJ.draw [] [0, 1, 2, 3, 4, 5, 6, 7, 8, 9, 10, 11, 12] mixed (by kernel_rfl) hS fun w1 hS => ?_
 refine GO ?_
 refine dS (SL (cf hS 1 1)) ?_
 obtain ⟨t8, ht8, H⟩ := pbind H
 refine DJ.st Z Z Z Z Z (SR.idxA oU oI Z Z Z Z Z (Arr.lt ht8)) ?_
 refine dS (SL (CA.idx (CA.fld (ce hS 0) (mid_part (fe_Pasture_3 _) (fl_Pasture_3 _) ((carr 10 (ci .u16)).len _))) ht8)) ?_
 obtain ⟨t9, ht9, H⟩ := pbind H
 refine DJ.st Z Z Z Z Z (SR.idxA oU oI Z Z Z Z Z (Arr.lt ht9)) ?_
 refine DJ.es rfl rfl rfl rfl (Es.put oI hS (i := 0) rfl rfl rfl rfl rfl (vs := (ci .u16).enc (orI .u16 t8 (shlI .u16 1 (IntKind.u64.wrap t3.X)))) rfl rfl (one1 rfl) (put_Pasture_3 (Put.idx (Put.all (ci .u16) t9 (orI .u16 t8 (shlI .u16 1 (IntKind.u64.wrap t3.X)))) ht9)) (by (try simp only [add_lit, Nat.add_assoc, Nat.zero_add, Nat.add_zero]) <;> rfl)) ?_
 intro w1 hS
 refine GO ?_
 obtain rfl := Option.some.inj H
 exact EJ.fin Z .nil ⟨Z, hS.pick [0] [] Z⟩
 refine GO ?_
 obtain rfl := Option.some.inj H
 exact EJ.fin Z .nil ⟨Z, hS.pick [0] [] Z⟩
 refine GO ?_
 refine CJ.draw [] [0, 1, 2, 3, 4, 5, 6, 7, 8, 9, 10, 11, 12] mixed (by kernel_rfl) hS fun w1 hS => ?_
 refine GO ?_
 refine dS (SL (cf hS 1 1)) ?_
 obtain ⟨t10, ht10, H⟩ := pbind H
 refine DJ.st Z Z Z Z Z (SR.idxA oU oI Z Z Z Z Z (Arr.lt ht10)) ?_
 refine dS (SL (CA.idx (CA.fld (ce hS 0) (mid_part (fe_Pasture_4 _) (fl_Pasture_4 _) ((carr 10 (ci .u16)).len _))) ht10)) ?_
 obtain ⟨t11, ht11, H⟩ := pbind H
 refine DJ.st Z Z Z Z Z (SR.idxA oU oI Z Z Z Z Z (Arr.lt ht11)) ?_
 refine DJ.es rfl rfl rfl rfl (Es.put oI hS (i := 0) rfl rfl rfl rfl rfl (vs := (ci .u16).enc (andNotI .u16 t10 (shlI .u16 1 (IntKind.u64.wrap t3.X)))) rfl rfl (one1 rfl) (put_Pasture_4 (Put.idx (Put.all (ci .u16) t11 (andNotI .u16 t10 (shlI .u16 1 (IntKind.u64.wrap t3.X)))) ht11)) (by (try simp only [add_lit, Nat.add_assoc, Nat.zero_add, Nat.add_zero]) <;> rfl)) ?_
 intro w1 hS
 refine GO ?_
 refine CB H (fun H => ?_) (fun H => ?_)
 refine CJ.draw [] [0, 1, 2, 3, 4, 5, 6, 7, 8, 9, 10, 11, 12] mixed (by kernel_rfl) hS fun w1 hS => ?_
 refine GO ?_
 refine dS (SL (cf hS 1 1)) ?_
 obtain ⟨t12, ht12, H⟩ := pbind H
 refine DJ.st Z Z Z Z Z (SR.idxA oU oI Z Z Z Z Z (Arr.lt ht12)) ?_
 refine dS (SL (CA.idx (CA.fld (ce hS 0) (mid_part (fe_Pasture_4 _) (fl_Pasture_4 _) ((carr 10 (ci .u16)).len _))) ht12)) ?_
 obtain ⟨t13, ht13, H⟩ := pbind H
 refine DJ.st Z Z Z Z Z (SR.idxA oU oI Z Z Z Z Z (Arr.lt ht13)) ?_
 refine DJ.es rfl rfl rfl rfl (Es.put oI hS (i := 0) rfl rfl rfl rfl rfl (vs := (ci .u16).enc (orI .u16 t12 (shlI .u16 1 (IntKind.u64.wrap t3.X)))) rfl rfl (one1 rfl) (put_Pasture_4 (Put.idx (Put.all (ci .u16) t13 (orI .u16 t12 (shlI .u16 1 (IntKind.u64.wrap t3.X)))) ht13)) (by (try simp only [add_lit, Nat.add_assoc, Nat.zero_add, Nat.add_zero]) <;> rfl)) ?_
 intro w1 hS
 refine GO ?_
 obtain rfl := Option.some.inj H
 exact EJ.fin' Z .nil ⟨Z, hS.pick [0] [] Z⟩
 refine GO ?_
 obtain rfl := Option.some.inj H
 exact EJ.fin' Z .nil ⟨Z, hS.pick [0] [] Z⟩
 refine GO ?_
 refine oS (SL (cf hS 1 0)) ?_
 obtain ⟨u14, hu14, H⟩ := pbind H
 refine OJ.st Z Z Z (SR.shl Z Z Z (chk_some hu14)) ?_
 refine PX 1 ?_
 refine CJ.seq ?_
 obtain ⟨j274, H, K274⟩ := pbind H
 refine CJ.cut (fun F w1 => ∃ y15, some y15 = some j274 ∧ F = [(0, pt ba0), (3, .bool a3), (5, pt b1), (8, .int .u16 (shlI .u16 1 (IntKind.u64.wrap a1.X))), (27, .bool y15)] ∧ St w (fpU [box ba0 (cPasture.enc a0) 58]) w1 [box ba0 (cPasture.enc a0) 58, box b1 (cSpot.enc a1) 63] []) ?_ ?_
 refine GO ?_
 refine OJ.split (t := 24) Z (fun hb => ?_) (fun hb => ?_)
 replace H := pif_t (of_decide_eq_true hb) H
 exact MD H hS
 replace H := pif_f (of_decide_eq_false hb) H
 exact MD H hS
 rintro F w1 ⟨y15, he, rfl, hS⟩
 obtain rfl := Option.some.inj he
 have H := K274
 refine CB H (fun H => GO ?_) (fun H => ?_)
 refine CJ.draw [] [0, 1, 2, 3, 4, 5, 6, 7, 8, 9, 10, 11, 12] mixed (by kernel_rfl) hS fun w1 hS => ?_
 refine GO ?_
 refine dS (SL (cf hS 1 1)) ?_
 obtain ⟨t16, ht16, H⟩ := pbind H
 refine DJ.st Z Z Z Z Z (SR.idxA oU oI Z Z Z Z Z (Arr.lt ht16)) ?_
 refine dS (SL (CA.idx (CA.fld (ce hS 0) (mid_part (fe_Pasture_3 _) (fl_Pasture_3 _) ((carr 10 (ci .u16)).len _))) ht16)) ?_
 obtain ⟨t17, ht17, H⟩ := pbind H
 refine DJ.st Z Z Z Z Z (SR.idxA oU oI Z Z Z Z Z (Arr.lt ht17)) ?_
 refine DJ.es rfl rfl rfl rfl (Es.put oI hS (i := 0) rfl rfl rfl rfl rfl (vs := (ci .u16).enc (andNotI .u16 t16 (shlI .u16 1 (IntKind.u64.wrap a1.X)))) rfl rfl (one1 rfl) (put_Pasture_3 (Put.idx (Put.all (ci .u16) t17 (andNotI .u16 t16 (shlI .u16 1 (IntKind.u64.wrap a1.X)))) ht17)) (by (try simp only [add_lit, Nat.add_assoc, Nat.zero_add, Nat.add_zero]) <;> rfl)) ?_
 intro w1 hS
 refine GO ?_
 refine CB H (fun H => ?_) (fun H => ?_)
 refine CJ.draw [] [0, 1, 2, 3, 4, 5, 6, 7, 8, 9, 10, 11, 12] mixed (by kernel_rfl) hS fun w1 hS => ?_
 refine GO ?_
 refine dS (SL (cf hS 1 1)) ?_
 obtain ⟨t18, ht18, H⟩ := pbind H
 refine DJ.st Z Z Z Z Z (SR.idxA oU oI Z Z Z Z Z (Arr.lt ht18)) ?_
 refine dS (SL (CA.idx (CA.fld (ce hS 0) (mid_part (fe_Pasture_3 _) (fl_Pasture_3 _) ((carr 10 (ci .u16)).len _))) ht18)) ?_
 obtain ⟨t19, ht19, H⟩ := pbind H
 refine DJ.st Z Z Z Z Z (SR.idxA oU oI Z Z Z Z Z (Arr.lt ht19)) ?_
 refine DJ.es rfl rfl rfl rfl (Es.put oI hS (i := 0) rfl rfl rfl rfl rfl (vs := (ci .u16).enc (orI .u16 t18 (shlI .u16 1 (IntKind.u64.wrap a1.X)))) rfl rfl (one1 rfl) (put_Pasture_3 (Put.idx (Put.all (ci .u16) t19 (orI .u16 t18 (shlI .u16 1 (IntKind.u64.wrap a1.X)))) ht19)) (by (try simp only [add_lit, Nat.add_assoc, Nat.zero_add, Nat.add_zero]) <;> rfl)) ?_
 intro w1 hS
 refine GO ?_
 obtain rfl := Option.some.inj H
 exact EJ.fin Z .nil ⟨Z, hS.pick [0] [] Z⟩
 refine GO ?_
 obtain rfl := Option.some.inj H
 exact EJ.fin Z .nil ⟨Z, hS.pick [0] [] Z⟩
 refine GO ?_
 refine CJ.draw [] [0, 1, 2, 3, 4, 5, 6, 7, 8, 9, 10, 11, 12] mixed (by kernel_rfl) hS fun w1 hS => ?_
 refine GO ?_
 refine dS (SL (cf hS 1 1)) ?_
 obtain ⟨t20, ht20, H⟩ := pbind H
 refine DJ.st Z Z Z Z Z (SR.idxA oU oI Z Z Z Z Z (Arr.lt ht20)) ?_
 refine dS (SL (CA.idx (CA.fld (ce hS 0) (mid_part (fe_Pasture_4 _) (fl_Pasture_4 _) ((carr 10 (ci .u16)).len _))) ht20)) ?_
 obtain ⟨t21, ht21, H⟩ := pbind H
 refine DJ.st Z Z Z Z Z (SR.idxA oU oI Z Z Z Z Z (Arr.lt ht21)) ?_
 refine DJ.es rfl rfl rfl rfl (Es.put oI hS (i := 0) rfl rfl rfl rfl rfl (vs := (ci .u16).enc (andNotI .u16 t20 (shlI .u16 1 (IntKind.u64.wrap a1.X)))) rfl rfl (one1 rfl) (put_Pasture_4 (Put.idx (Put.all (ci .u16) t21 (andNotI .u16 t20 (shlI .u16 1 (IntKind.u64.wrap a1.X)))) ht21)) (by (try simp only [add_lit, Nat.add_assoc, Nat.zero_add, Nat.add_zero]) <;> rfl)) ?_
 intro w1 hS
 refine GO ?_
 refine CB H (fun H => ?_) (fun H => ?_)
 refine CJ.draw [] [0, 1, 2, 3, 4, 5, 6, 7, 8, 9, 10, 11, 12] mixed (by kernel_rfl) hS fun w1 hS => ?_
 refine GO ?_
 refine dS (SL (cf hS 1 1)) ?_
 obtain ⟨t22, ht22, H⟩ := pbind H
 refine DJ.st Z Z Z Z Z (SR.idxA oU oI Z Z Z Z Z (Arr.lt ht22)) ?_
 refine dS (SL (CA.idx (CA.fld (ce hS 0) (mid_part (fe_Pasture_4 _) (fl_Pasture_4 _) ((carr 10 (ci .u16)).len _))) ht22)) ?_
 obtain ⟨t23, ht23, H⟩ := pbind H
 refine DJ.st Z Z Z Z Z (SR.idxA oU oI Z Z Z Z Z (Arr.lt ht23)) ?_
 refine DJ.es rfl rfl rfl rfl (Es.put oI hS (i := 0) rfl rfl rfl rfl rfl (vs := (ci .u16).enc (orI .u16 t22 (shlI .u16 1 (IntKind.u64.wrap a1.X)))) rfl rfl (one1 rfl) (put_Pasture_4 (Put.idx (Put.all (ci .u16) t23 (orI .u16 t22 (shlI .u16 1 (IntKind.u64.wrap a1.X)))) ht23)) (by (try simp only [add_lit, Nat.add_assoc, Nat.zero_add, Nat.add_zero]) <;> rfl)) ?_
 intro w1 hS
 refine GO ?_
 obtain rfl := Option.some.inj H
 exact EJ.fin' Z .nil ⟨Z, hS.pick [0] [] Z⟩
 refine GO ?_
 obtain rfl := Option.some.inj H
 exact EJ.fin' Z .nil ⟨Z, hS.pick [0] [] Z⟩

def spec_l01Drawn.l3 (a0 : l00Src) (t5 : Int × l00Src) (y10 : Int) (y20 : Int) : Nat → Pasture → Int → Int → Int → Option (Pasture × Int × Int)
  | 0, _, _, _, _ => none
  | k + 1, y32, y33, y34, y35 => if y33 ≤ 2 then ((spec_l01Next.f (⟨y20, y10⟩ : Spot) y33).bind fun t37 => (spec_l01Is.f y32 t37).bind fun t38 => if t38 = true then ((spec_l00Src_one.f (⟨a0.code, y34, y35⟩ : l00Src) (IntKind.i64.wrap (2 + t5.1))).bind fun t39 => if t39.1 = true then ((spec_l01Set.f y32 (⟨y20, y10⟩ : Spot) y33 true).bind fun t40 => spec_l01Drawn.l3 a0 t5 y10 y20 k t40 (IntKind.i64.wrap (y33 + 1)) t39.2.at_ t39.2.seed) else (spec_l01Drawn.l3 a0 t5 y10 y20 k y32 (IntKind.i64.wrap (y33 + 1)) t39.2.at_ t39.2.seed)) else (spec_l01Drawn.l3 a0 t5 y10 y20 k y32 (IntKind.i64.wrap (y33 + 1)) y34 y35)) else (some (y32, y34, y35))
def spec_l01Drawn.l2 (a0 : l00Src) (t5 : Int × l00Src) (y10 : Int) : Nat → Pasture → Int → Int → Int → Option (Pasture × Int × Int)
  | 0, _, _, _, _ => none
  | k + 1, y19, y20, y21, y22 => if y20 < y19.Wide then (((getI y19.Grass.l y10).bind fun t26 => (spec_l00Src_pick.f (⟨a0.code, y21, y22⟩ : l00Src) 12).bind fun t27 => (getI t26.l y20).bind fun t28 => (spec_l01Drawn.l3 a0 t5 y10 y20 k (⟨y19.Wide, y19.High, (aset y19.Grass y10.toNat (aset t26 y20.toNat (IntKind.i16.wrap t27.1))), y19.East, y19.South⟩ : Pasture) 1 t27.2.at_ t27.2.seed).bind fun (y29, y30, y31) => some (y29, y30, y31)).bind fun (y23, y24, y25) => spec_l01Drawn.l2 a0 t5 y10 k y23 (IntKind.i8.wrap (y20 + 1)) y24 y25) else (some (y19, y21, y22))
def spec_l01Drawn.l1 (a0 : l00Src) (t5 : Int × l00Src) : Nat → Pasture → Int → Int → Int → Option (Pasture × Int × Int)
  | 0, _, _, _, _ => none
  | k + 1, y9, y10, y11, y12 => if y10 < y9.High then (((spec_l01Drawn.l2 a0 t5 y10 k y9 0 y11 y12).bind fun (y16, y17, y18) => some (y16, y17, y18)).bind fun (y13, y14, y15) => spec_l01Drawn.l1 a0 t5 k y13 (IntKind.i8.wrap (y10 + 1)) y14 y15) else (some (y9, y11, y12))
def spec_l01Drawn.f (k : Nat) (a0 : l00Src) : Option (Pasture × l00Src) := (spec_l00Src_pick.f a0 5).bind fun t2 => (spec_l00Src_pick.f (⟨a0.code, t2.2.at_, t2.2.seed⟩ : l00Src) 5).bind fun t4 => (spec_l00Src_pick.f (⟨a0.code, t4.2.at_, t4.2.seed⟩ : l00Src) 5).bind fun t5 => (spec_l01Drawn.l1 a0 t5 k (⟨IntKind.i8.wrap (IntKind.i64.wrap (1 + t2.1)), IntKind.i8.wrap (IntKind.i64.wrap (1 + t4.1)), (Arr.mk' (Arr.mk' 0 : Arr 10 Int) : Arr 10 (Arr 10 Int)), (Arr.mk' 0 : Arr 10 Int), (Arr.mk' 0 : Arr 10 Int)⟩ : Pasture) 0 t5.2.at_ t5.2.seed).bind fun (y6, y7, y8) => some (y6, (⟨a0.code, y7, y8⟩ : l00Src))
theorem spec_l01Drawn.c {k w Aa0_0 ca0_0} (a0 : l00Src) (ba0 : Nat) (hin : St w (fpU [box ba0 ([sl Aa0_0 a0.code ca0_0, i6 a0.at_, .int .u64 a0.seed]) 145]) w [box ba0 ([sl Aa0_0 a0.code ca0_0, i6 a0.at_, .int .u64 a0.seed]) 145] [roC (ci .u8) Aa0_0 ca0_0 a0.code]) (r : Pasture × l00Src) (H : spec_l01Drawn.f k a0 = some r) :
 CV Tryz.prog 68 [pt ba0].toArray w fun v w' => v = .agg (cPasture.enc r.1).toArray ∧ St w (fpU [box ba0 ([sl Aa0_0 a0.code ca0_0, i6 a0.at_, .int .u64 a0.seed]) 145]) w' [box ba0 ([sl Aa0_0 a0.code ca0_0, i6 r.2.at_, .int .u64 r.2.seed]) 145] [] := by
 have hS := hin
 unfold spec_l01Drawn.f at H
 refine CV.body Tryz.func68 Z Tryz.ntmps68 Z ?_
 refine GO ?_
 refine OJ.ef rfl rfl rfl (Ef.alloc hS oI rfl rfl (cPasture.enc (⟨0, 0, (Arr.mk' (Arr.mk' 0 : Arr 10 Int) : Arr 10 (Arr 10 Int)), (Arr.mk' 0 : Arr 10 Int), (Arr.mk' 0 : Arr 10 Int)⟩ : Pasture)) (by kernel_rfl)) ?_
 rintro _ w1 ⟨b1, rfl, hS⟩
 refine GO ?_
 obtain ⟨t2, ht2, H⟩ := pbind H
 refine OC hb78 (spec_l00Src_pick.c a0 ba0 ((hS.subs [0] [0] [] Z).pick [0] [0] Z) _ ht2) ?_
 rintro _ w1 ⟨rfl, hs⟩
 replace hS := hS.back [0] Z Z [box ba0 ([sl Aa0_0 a0.code ca0_0, i6 t2.2.at_, .int .u64 t2.2.seed]) 145] [] hs ⟨fun _ => Iff.rfl, trivial⟩
 refine GO ?_
 refine OJ.st Z Z Z (SR.build (C := cPasture) oU oI Z Z Z (zs := [.int .i8 0, .int .i8 0, .int .i16 0, .int .i16 0, .int .i16 0, .int .i16 0, .int .i16 0, .int .i16 0, .int .i16 0, .int .i16 0, .int .i16 0, .int .i16 0, .int .i16 0, .int .i16 0, .int .i16 0, .int .i16 0, .int .i16 0, .int .i16 0, .int .i16 0, .int .i16 0, .int .i16 0, .int .i16 0, .int .i16 0, .int .i16 0, .int .i16 0, .int .i16 0, .int .i16 0, .int .i16 0, .int .i16 0, .int .i16 0, .int .i16 0, .int .i16 0, .int .i16 0, .int .i16 0, .int .i16 0, .int .i16 0, .int .i16 0, .int .i16 0, .int .i16 0, .int .i16 0, .int .i16 0, .int .i16 0, .int .i16 0, .int .i16 0, .int .i16 0, .int .i16 0, .int .i16 0, .int .i16 0, .int .i16 0, .int .i16 0, .int .i16 0, .int .i16 0, .int .i16 0, .int .i16 0, .int .i16 0, .int .i16 0, .int .i16 0, .int .i16 0, .int .i16 0, .int .i16 0, .int .i16 0, .int .i16 0, .int .i16 0, .int .i16 0, .int .i16 0, .int .i16 0, .int .i16 0, .int .i16 0, .int .i16 0, .int .i16 0, .int .i16 0, .int .i16 0, .int .i16 0, .int .i16 0, .int .i16 0, .int .i16 0, .int .i16 0, .int .i16 0, .int .i16 0, .int .i16 0, .int .i16 0, .int .i16 0, .int .i16 0, .int .i16 0, .int .i16 0, .int .i16 0, .int .i16 0, .int .i16 0, .int .i16 0, .int .i16 0, .int .i16 0, .int .i16 0, .int .i16 0, .int .i16 0, .int .i16 0, .int .i16 0, .int .i16 0, .int .i16 0, .int .i16 0, .int .i16 0, .int .i16 0, .int .i16 0, .int .u16 0, .int .u16 0, .int .u16 0, .int .u16 0, .int .u16 0, .int .u16 0, .int .u16 0, .int .u16 0, .int .u16 0, .int .u16 0, .int .u16 0, .int .u16 0, .int .u16 0, .int .u16 0, .int .u16 0, .int .u16 0, .int .u16 0, .int .u16 0, .int .u16 0, .int .u16 0]) Z Z Z (⟨IntKind.i8.wrap (IntKind.i64.wrap (1 + t2.1)), 0, (Arr.mk' (Arr.mk' 0 : Arr 10 Int) : Arr 10 (Arr 10 Int)), (Arr.mk' 0 : Arr 10 Int), (Arr.mk' 0 : Arr 10 Int)⟩ : Pasture) Z) ?_
 refine OJ.ef rfl rfl rfl (Ef.alloc hS oI rfl rfl (cPasture.enc (⟨0, 0, (Arr.mk' (Arr.mk' 0 : Arr 10 Int) : Arr 10 (Arr 10 Int)), (Arr.mk' 0 : Arr 10 Int), (Arr.mk' 0 : Arr 10 Int)⟩ : Pasture)) (by kernel_rfl)) ?_
 rintro _ w1 ⟨b3, rfl, hS⟩
 refine OJ.es rfl rfl (Es.put oI hS (i := 2) rfl rfl rfl rfl rfl (vs := cPasture.enc (⟨IntKind.i8.wrap (IntKind.i64.wrap (1 + t2.1)), 0, (Arr.mk' (Arr.mk' 0 : Arr 10 Int) : Arr 10 (Arr 10 Int)), (Arr.mk' 0 : Arr 10 Int), (Arr.mk' 0 : Arr 10 Int)⟩ : Pasture)) rfl (cPasture.len _) (cPasture.one _) (Put.all cPasture (⟨0, 0, (Arr.mk' (Arr.mk' 0 : Arr 10 Int) : Arr 10 (Arr 10 Int)), (Arr.mk' 0 : Arr 10 Int), (Arr.mk' 0 : Arr 10 Int)⟩ : Pasture) (⟨IntKind.i8.wrap (IntKind.i64.wrap (1 + t2.1)), 0, (Arr.mk' (Arr.mk' 0 : Arr 10 Int) : Arr 10 (Arr 10 Int)), (Arr.mk' 0 : Arr 10 Int), (Arr.mk' 0 : Arr 10 Int)⟩ : Pasture)) (by (try simp only [add_lit, Nat.add_assoc, Nat.zero_add, Nat.add_zero]) <;> rfl)) ?_
 intro w1 hS
 refine GO ?_
 obtain ⟨t4, ht4, H⟩ := pbind H
 refine OC hb78 (spec_l00Src_pick.c (⟨a0.code, t2.2.at_, t2.2.seed⟩ : l00Src) ba0 ((hS.subs [0] [0] [] Z).pick [0] [0] Z) _ ht4) ?_
 rintro _ w1 ⟨rfl, hs⟩
 replace hS := hS.back [0] Z Z [box ba0 ([sl Aa0_0 a0.code ca0_0, i6 t4.2.at_, .int .u64 t4.2.seed]) 145] [] hs ⟨fun _ => Iff.rfl, trivial⟩
 refine GO ?_
 refine OJ.es rfl rfl (Es.put oI hS (i := 2) rfl rfl rfl rfl rfl (vs := (ci .i8).enc (IntKind.i8.wrap (IntKind.i64.wrap (1 + t4.1)))) rfl rfl (one1 rfl) (put_Pasture_1 (Put.all (ci .i8) 0 (IntKind.i8.wrap (IntKind.i64.wrap (1 + t4.1))))) (by (try simp only [add_lit, Nat.add_assoc, Nat.zero_add, Nat.add_zero]) <;> rfl)) ?_
 intro w1 hS
 refine GO ?_
 obtain ⟨t5, ht5, H⟩ := pbind H
 refine OC hb78 (spec_l00Src_pick.c (⟨a0.code, t4.2.at_, t4.2.seed⟩ : l00Src) ba0 ((hS.subs [0] [0] [] Z).pick [0] [0] Z) _ ht5) ?_
 rintro _ w1 ⟨rfl, hs⟩
 replace hS := hS.back [0] Z Z [box ba0 ([sl Aa0_0 a0.code ca0_0, i6 t5.2.at_, .int .u64 t5.2.seed]) 145] [] hs ⟨fun _ => Iff.rfl, trivial⟩
 refine GO ?_
 obtain ⟨j265, H, K265⟩ := pbind H
 refine CJ.cut1 (fun F w1 => ∃ y6 y7 y8, some j265 = some (y6, y7, y8) ∧ F = [(2, pt b1), (3, pt b3)] ∧ St w (fpU [box ba0 ([sl Aa0_0 a0.code ca0_0, i6 a0.at_, .int .u64 a0.seed]) 145]) w1 [box ba0 ([sl Aa0_0 a0.code ca0_0, i6 y7, .int .u64 y8]) 145, box b1 (cPasture.enc (⟨0, 0, (Arr.mk' (Arr.mk' 0 : Arr 10 Int) : Arr 10 (Arr 10 Int)), (Arr.mk' 0 : Arr 10 Int), (Arr.mk' 0 : Arr 10 Int)⟩ : Pasture)) 58, box b3 (cPasture.enc y6) 58] [roC (ci .u8) Aa0_0 ca0_0 a0.code]) ?_ ?_
 refine CJ.block ?_
 refine LQ (fun k F w1 => ∃ (y9 : Pasture) (y10 : Int) (y11 : Int) (y12 : Int), F = [(0, pt ba0), (2, pt b1), (3, pt b3), (4, i6 (IntKind.i64.wrap (2 + t5.1))), (5, .int .i8 y10)] ∧ St w (fpU [box ba0 ([sl Aa0_0 a0.code ca0_0, i6 a0.at_, .int .u64 a0.seed]) 145]) w1 [box ba0 ([sl Aa0_0 a0.code ca0_0, i6 y11, .int .u64 y12]) 145, box b1 (cPasture.enc (⟨0, 0, (Arr.mk' (Arr.mk' 0 : Arr 10 Int) : Arr 10 (Arr 10 Int)), (Arr.mk' 0 : Arr 10 Int), (Arr.mk' 0 : Arr 10 Int)⟩ : Pasture)) 58, box b3 (cPasture.enc y9) 58] [roC (ci .u8) Aa0_0 ca0_0 a0.code] ∧ spec_l01Drawn.l1 a0 t5 k y9 y10 y11 y12 = some j265) k H hS ?_
 rintro k F w1 ⟨y9, y10, y11, y12, rfl, hS, H⟩
 rw [spec_l01Drawn.l1] at H
 refine GO ?_
 refine oS (SL (CA.fld (ce hS 2) (mid_part (fe_Pasture_1 _) (fl_Pasture_1 _) ((ci .i8).len _)))) ?_
 refine CP H (fun H => ?_) (fun H => ?_)
 refine CJ.skip (EJ.next ?_)
 obtain ⟨j313, H, K313⟩ := pbind H
 refine CJ.cut (fun F w1 => ∃ y13 y14 y15, some j313 = some (y13, y14, y15) ∧ F = [(0, pt ba0), (2, pt b1), (3, pt b3), (4, i6 (IntKind.i64.wrap (2 + t5.1))), (5, .int .i8 y10)] ∧ St w (fpU [box ba0 ([sl Aa0_0 a0.code ca0_0, i6 a0.at_, .int .u64 a0.seed]) 145]) w1 [box ba0 ([sl Aa0_0 a0.code ca0_0, i6 y14, .int .u64 y15]) 145, box b1 (cPasture.enc (⟨0, 0, (Arr.mk' (Arr.mk' 0 : Arr 10 Int) : Arr 10 (Arr 10 Int)), (Arr.mk' 0 : Arr 10 Int), (Arr.mk' 0 : Arr 10 Int)⟩ : Pasture)) 58, box b3 (cPasture.enc y13) 58] [roC (ci .u8) Aa0_0 ca0_0 a0.code]) ?_ ?_
 refine CJ.block ?_
 refine GO ?_
 obtain ⟨j324, H, K324⟩ := pbind H
 refine CJ.cut1 (fun F w1 => ∃ y16 y17 y18, some j324 = some (y16, y17, y18) ∧ F = [(0, pt ba0), (2, pt b1), (3, pt b3), (4, i6 (IntKind.i64.wrap (2 + t5.1))), (5, .int .i8 y10)] ∧ St w (fpU [box ba0 ([sl Aa0_0 a0.code ca0_0, i6 a0.at_, .int .u64 a0.seed]) 145]) w1 [box ba0 ([sl Aa0_0 a0.code ca0_0, i6 y17, .int .u64 y18]) 145, box b1 (cPasture.enc (⟨0, 0, (Arr.mk' (Arr.mk' 0 : Arr 10 Int) : Arr 10 (Arr 10 Int)), (Arr.mk' 0 : Arr 10 Int), (Arr.mk' 0 : Arr 10 Int)⟩ : Pasture)) 58, box b3 (cPasture.enc y16) 58] [roC (ci .u8) Aa0_0 ca0_0 a0.code]) ?_ ?_
 refine CJ.block ?_
 refine LQ (fun k F w1 => ∃ (y19 : Pasture) (y20 : Int) (y21 : Int) (y22 : Int), F = [(0, pt ba0), (2, pt b1), (3, pt b3), (4, i6 (IntKind.i64.wrap (2 + t5.1))), (5, .int .i8 y10), (6, .int .i8 y20)] ∧ St w (fpU [box ba0 ([sl Aa0_0 a0.code ca0_0, i6 a0.at_, .int .u64 a0.seed]) 145]) w1 [box ba0 ([sl Aa0_0 a0.code ca0_0, i6 y21, .int .u64 y22]) 145, box b1 (cPasture.enc (⟨0, 0, (Arr.mk' (Arr.mk' 0 : Arr 10 Int) : Arr 10 (Arr 10 Int)), (Arr.mk' 0 : Arr 10 Int), (Arr.mk' 0 : Arr 10 Int)⟩ : Pasture)) 58, box b3 (cPasture.enc y19) 58] [roC (ci .u8) Aa0_0 ca0_0 a0.code] ∧ spec_l01Drawn.l2 a0 t5 y10 k y19 y20 y21 y22 = some j324) k H hS ?_
 rintro k F w1 ⟨y19, y20, y21, y22, rfl, hS, H⟩
 rw [spec_l01Drawn.l2] at H
 refine GO ?_
 refine oS (SL (CA.fld (ce hS 2) (mid_part (fe_Pasture_0 _) (fl_Pasture_0 _) ((ci .i8).len _)))) ?_
 refine CP H (fun H => ?_) (fun H => ?_)
 refine CJ.skip (EJ.next ?_)
 obtain ⟨j331, H, K331⟩ := pbind H
 refine CJ.cut (fun F w1 => ∃ y23 y24 y25, some j331 = some (y23, y24, y25) ∧ F = [(0, pt ba0), (2, pt b1), (3, pt b3), (4, i6 (IntKind.i64.wrap (2 + t5.1))), (5, .int .i8 y10), (6, .int .i8 y20)] ∧ St w (fpU [box ba0 ([sl Aa0_0 a0.code ca0_0, i6 a0.at_, .int .u64 a0.seed]) 145]) w1 [box ba0 ([sl Aa0_0 a0.code ca0_0, i6 y24, .int .u64 y25]) 145, box b1 (cPasture.enc (⟨0, 0, (Arr.mk' (Arr.mk' 0 : Arr 10 Int) : Arr 10 (Arr 10 Int)), (Arr.mk' 0 : Arr 10 Int), (Arr.mk' 0 : Arr 10 Int)⟩ : Pasture)) 58, box b3 (cPasture.enc y23) 58] [roC (ci .u8) Aa0_0 ca0_0 a0.code]) ?_ ?_
 refine CJ.block ?_
 refine GO ?_
 obtain ⟨t26, ht26, H⟩ := pbind H
 obtain ⟨t27, ht27, H⟩ := pbind H
 obtain ⟨t28, ht28, H⟩ := pbind H
 refine CJ.cut1 (fun F w1 => F = [(0, pt ba0), (2, pt b1), (3, pt b3), (4, i6 (IntKind.i64.wrap (2 + t5.1))), (5, .int .i8 y10), (6, .int .i8 y20)] ∧ St w (fpU [box ba0 ([sl Aa0_0 a0.code ca0_0, i6 a0.at_, .int .u64 a0.seed]) 145]) w1 [box ba0 ([sl Aa0_0 a0.code ca0_0, i6 t27.2.at_, .int .u64 t27.2.seed]) 145, box b1 (cPasture.enc (⟨0, 0, (Arr.mk' (Arr.mk' 0 : Arr 10 Int) : Arr 10 (Arr 10 Int)), (Arr.mk' 0 : Arr 10 Int), (Arr.mk' 0 : Arr 10 Int)⟩ : Pasture)) 58, box b3 (cPasture.enc (⟨y19.Wide, y19.High, (aset y19.Grass y10.toNat (aset t26 y20.toNat (IntKind.i16.wrap t27.1))), y19.East, y19.South⟩ : Pasture)) 58] [roC (ci .u8) Aa0_0 ca0_0 a0.code]) ?_ ?_
 refine CJ.drawT [] [3, 8] (.one 0 (.one 1 (.one 2 (.one 5 (.one 6 (.one 3 (.one 4 (.one 7 (.one 8 (.fin)))))))))) mixed (by kernel_rfl) hS [] fun w1 hS hY hV => ?_
 refine GO ?_
 refine TP (fun _ => SF) ?_
 refine TJ.sp Z Z Z Z Z (fun w2 => SR.idxA oU oI Z Z Z Z Z (Arr.lt ht26)) ?_
 refine TJ.callFw rfl rfl rfl rfl rfl rfl rfl hb78 rfl (spec_l00Src_pick.c (⟨a0.code, y21, y22⟩ : l00Src) ba0 ((hS.subs [0] [0] [] rfl).pick [0] [0] rfl) _ ht27) (by rintro _ w1 ⟨rfl, hs⟩; exact hY.wr (hS.inP [] 1 rfl rfl [0] rfl) hs.chg) ?_
 rintro _ w1 hY ⟨rfl, hs⟩
 replace hS := hS.back [0] Z Z [box ba0 ([sl Aa0_0 a0.code ca0_0, i6 t27.2.at_, .int .u64 t27.2.seed]) 145] [] hs ⟨fun _ => Iff.rfl, trivial⟩
 refine GO ?_
 refine TJ.sp Z Z Z Z Z (fun w2 => SR.idxA oU oI Z Z Z Z Z (Arr.lt ht28)) ?_
 have hO := hS
 refine TJ.es rfl rfl rfl rfl (Es.put oI (hS.inn []) (i := 2) rfl rfl rfl rfl rfl (vs := (ci .i16).enc (IntKind.i16.wrap t27.1)) rfl rfl (one1 rfl) (put_Pasture_2 (Put.idx (Put.idx (Put.all (ci .i16) t28 (IntKind.i16.wrap t27.1)) ht28) ht26)) (by (try simp only [add_lit, Nat.add_assoc, Nat.zero_add, Nat.add_zero]) <;> rfl)) (by intro w1 hS; exact hY.wr (hO.inY [] 1 rfl rfl) hS.chg) ?_
 intro w1 hY hS
 have hS : St _ _ _ [_, _, _] _ := hO.out [] hS
 exact MD H hS
 rintro F w1 ⟨rfl, hS⟩
 refine EJ.next ?_
 refine GO ?_
 obtain ⟨j333, H, K333⟩ := pbind H
 refine CJ.cut1 (fun F w1 => ∃ y29 y30 y31, some j333 = some (y29, y30, y31) ∧ F = [(0, pt ba0), (2, pt b1), (3, pt b3), (4, i6 (IntKind.i64.wrap (2 + t5.1))), (5, .int .i8 y10), (6, .int .i8 y20)] ∧ St w (fpU [box ba0 ([sl Aa0_0 a0.code ca0_0, i6 a0.at_, .int .u64 a0.seed]) 145]) w1 [box ba0 ([sl Aa0_0 a0.code ca0_0, i6 y30, .int .u64 y31]) 145, box b1 (cPasture.enc (⟨0, 0, (Arr.mk' (Arr.mk' 0 : Arr 10 Int) : Arr 10 (Arr 10 Int)), (Arr.mk' 0 : Arr 10 Int), (Arr.mk' 0 : Arr 10 Int)⟩ : Pasture)) 58, box b3 (cPasture.enc y29) 58] [roC (ci .u8) Aa0_0 ca0_0 a0.code]) ?_ ?_
 refine CJ.block ?_
 refine LQ (fun k F w1 => ∃ (y32 : Pasture) (y33 : Int) (y34 : Int) (y35 : Int), F = [(0, pt ba0), (2, pt b1), (3, pt b3), (4, i6 (IntKind.i64.wrap (2 + t5.1))), (5, .int .i8 y10), (6, .int .i8 y20), (7, i6 y33)] ∧ St w (fpU [box ba0 ([sl Aa0_0 a0.code ca0_0, i6 a0.at_, .int .u64 a0.seed]) 145]) w1 [box ba0 ([sl Aa0_0 a0.code ca0_0, i6 y34, .int .u64 y35]) 145, box b1 (cPasture.enc (⟨0, 0, (Arr.mk' (Arr.mk' 0 : Arr 10 Int) : Arr 10 (Arr 10 Int)), (Arr.mk' 0 : Arr 10 Int), (Arr.mk' 0 : Arr 10 Int)⟩ : Pasture)) 58, box b3 (cPasture.enc y32) 58] [roC (ci .u8) Aa0_0 ca0_0 a0.code] ∧ spec_l01Drawn.l3 a0 t5 y10 y20 k y32 y33 y34 y35 = some j333) k H hS ?_
 rintro k F w1 ⟨y32, y33, y34, y35, rfl, hS, H⟩
 rw [spec_l01Drawn.l3] at H
 refine GO ?_
 refine CP H (fun H => GO ?_) (fun H => ?_)
 refine CJ.block ?_
 refine GO ?_
 refine OJ.st Z Z Z (SR.build (C := cSpot) oU oI Z Z Z (zs := [.int .i8 0, .int .i8 0]) Z Z Z (⟨y20, y10⟩ : Spot) Z) ?_
 refine OF (EA hS (cSpot.enc (⟨0, 0⟩ : Spot))) ?_
 rintro _ w1 ⟨b36, rfl, hS⟩
 refine OJ.es Z Z (Es.store oI hS (i := 3) Z Z Z Z Z Z (vs := cSpot.enc (⟨y20, y10⟩ : Spot)) Z (cSpot.len _) (cSpot.one _) (Nat.le_of_ble_eq_true Z) (cSpot.enc (⟨y20, y10⟩ : Spot)) Z) ?_
 intro w1 hS
 refine GO ?_
 refine oS (SE (ce hS 3)) ?_
 refine OB H hS hb121 (spec_l01Next.c (⟨y20, y10⟩ : Spot)) fun t37 w1 H hS => ?_
 refine oB H hS hb120 (spec_l01Is.c _ y32 (hS.cells (i := 2) Z) t37) fun t38 w1 H hS => ?_
 refine OJ.split (t := 53) Z (fun hb => ?_) (fun hb => ?_)
 replace H := pif_t hb H
 refine GO ?_
 obtain ⟨t39, ht39, H⟩ := pbind H
 refine OC hb97 (spec_l00Src_one.c (⟨a0.code, y34, y35⟩ : l00Src) ba0 ((hS.subs [0] [0] [] Z).pick [0] [0] Z) _ ht39) ?_
 rintro _ w1 ⟨rfl, hs⟩
 replace hS := hS.back [0] Z Z [box ba0 ([sl Aa0_0 a0.code ca0_0, i6 t39.2.at_, .int .u64 t39.2.seed]) 145] [] hs ⟨fun _ => Iff.rfl, trivial⟩
 refine GO ?_
 refine CB H (fun H => GO ?_) (fun H => ?_)
 refine oS (SE (ce hS 3)) ?_
 obtain ⟨t40, ht40, H⟩ := pbind H
 refine OC hb122 (spec_l01Set.c b3 y32 (⟨y20, y10⟩ : Spot) ((hS.subs [2] [] [] Z).pick [0] [] Z) _ ht40) ?_
 rintro _ w1 ⟨rfl, hs⟩
 replace hS := hS.back [2] Z Z [box b3 (cPasture.enc t40) 58] [] hs ⟨fun _ => Iff.rfl, trivial⟩
 exact MD H hS
 exact MD H hS
 replace H := pifb_f hb H
 refine GO ?_
 refine CJ.condF Z ?_
 exact MD H hS
 exact MD H hS
 rintro F w1 ⟨y29, y30, y31, ⟨⟩, rfl, hS⟩
 have H := K333
 refine EJ.blk (?_)
 exact MD H hS
 rintro F w1 ⟨y23, y24, y25, ⟨⟩, rfl, hS⟩
 have H := K331
 exact MD H hS
 exact MD H hS
 rintro F w1 ⟨y16, y17, y18, ⟨⟩, rfl, hS⟩
 have H := K324
 refine EJ.blk (?_)
 exact MD H hS
 rintro F w1 ⟨y13, y14, y15, ⟨⟩, rfl, hS⟩
 have H := K313
 exact MD H hS
 exact MD H hS
 rintro F w1 ⟨y6, y7, y8, ⟨⟩, rfl, hS⟩
 have H := K265
 refine EJ.next ?_
 refine GO ?_
 refine OS (SE (ce hS 2)) ?_
 refine OJ.es rfl rfl (Es.put oI hS (i := 1) rfl rfl rfl rfl rfl (vs := cPasture.enc y6) rfl (cPasture.len _) (cPasture.one _) (Put.all cPasture (⟨0, 0, (Arr.mk' (Arr.mk' 0 : Arr 10 Int) : Arr 10 (Arr 10 Int)), (Arr.mk' 0 : Arr 10 Int), (Arr.mk' 0 : Arr 10 Int)⟩ : Pasture) y6) (by (try simp only [add_lit, Nat.add_assoc, Nat.zero_add, Nat.add_zero]) <;> rfl)) ?_
 intro w1 hS
 refine GO ?_
 obtain rfl := Option.some.inj H
 exact EJ.fin Z (.cell Z (ldE oU oI Z Z Z (hS.cells (i := 1) Z) Z) .nil) ⟨Z, hS.pick [0] [] Z⟩

def spec_A2Pasture.f (k : Nat) (a0 : List Int) : Option Pasture := (spec_l00From.f a0).bind fun t2 => (spec_l01Drawn.f k (⟨a0, t2.at_, t2.seed⟩ : l00Src)).bind fun t4 => some t4.1
theorem spec_A2Pasture.c {k w Aa0 ca0} {a0 : List Int} (hr0 : Rd (ci .u8) w Aa0 a0) (hc0 : a0.length ≤ ca0) (r : Pasture) (H : spec_A2Pasture.f k a0 = some r) :
 CV Tryz.prog 24 [sl Aa0 a0 ca0].toArray w fun v w' => v = .agg (cPasture.enc r).toArray ∧ Ext w w' := by
 have hS := ((St.init w no).param (ci .u8) Aa0 ca0 a0 hr0 hc0)
 unfold spec_A2Pasture.f at H
 refine CV.body Tryz.func24 Z Tryz.ntmps24 Z ?_
 refine GO ?_
 refine OJ.ef rfl rfl rfl (Ef.alloc hS oI rfl rfl (cPasture.enc (⟨0, 0, (Arr.mk' (Arr.mk' 0 : Arr 10 Int) : Arr 10 (Arr 10 Int)), (Arr.mk' 0 : Arr 10 Int), (Arr.mk' 0 : Arr 10 Int)⟩ : Pasture)) (by kernel_rfl)) ?_
 rintro _ w1 ⟨b1, rfl, hS⟩
 refine GO ?_
 obtain ⟨t2, ht2, H⟩ := pbind H
 refine OC hb36 (spec_l00From.c (rA hS 0 Z) (rB hS 0 Z) _ ht2) ?_
 rintro _ w1 ⟨b3, rfl, hs⟩
 replace hS := hS.addN hs
 obtain ⟨t4, ht4, H⟩ := pbind H
 refine OC hb68 (spec_l01Drawn.c (⟨a0, t2.at_, t2.seed⟩ : l00Src) b3 ((hS.subs [1] [0] [] Z).pick [0] [0] Z) _ ht4) ?_
 rintro _ w1 ⟨rfl, hs⟩
 replace hS := hS.back [1] Z Z [box b3 ([sl Aa0 a0 ca0, i6 t4.2.at_, .int .u64 t4.2.seed]) 145] [] hs ⟨fun _ => Iff.rfl, trivial⟩
 refine OJ.es rfl rfl (Es.put oI hS (i := 0) rfl rfl rfl rfl rfl (vs := cPasture.enc t4.1) rfl (cPasture.len _) (cPasture.one _) (Put.all cPasture (⟨0, 0, (Arr.mk' (Arr.mk' 0 : Arr 10 Int) : Arr 10 (Arr 10 Int)), (Arr.mk' 0 : Arr 10 Int), (Arr.mk' 0 : Arr 10 Int)⟩ : Pasture) t4.1) (by (try simp only [add_lit, Nat.add_assoc, Nat.zero_add, Nat.add_zero]) <;> rfl)) ?_
 intro w1 hS
 refine GO ?_
 obtain rfl := Option.some.inj H
 exact EJ.fin Z (.cell Z (ldE oU oI Z Z Z (hS.cells (i := 0) Z) Z) .nil) ⟨Z, hS.ext⟩

def impl_Pasture_isCell.f (a0 : Pasture) (a1 : Spot) : Option Bool := (impl_within.f (IntKind.i64.wrap a1.X) 0 (IntKind.i64.wrap ((if 10 < (IntKind.i64.wrap a0.Wide) then 10 else (IntKind.i64.wrap a0.Wide)) - 1))).bind fun t3 => if t3 = true then ((impl_within.f (IntKind.i64.wrap a1.Y) 0 (IntKind.i64.wrap ((if 10 < (IntKind.i64.wrap a0.High) then 10 else (IntKind.i64.wrap a0.High)) - 1))).bind fun t4 => some t4) else (some false)
theorem impl_Pasture_isCell.c {w} (a0 : Pasture) (a1 : Spot) (r : Bool) (H : impl_Pasture_isCell.f a0 a1 = some r) :
 CV Tryz.prog 123 [.agg (cPasture.enc a0).toArray, .agg (cSpot.enc a1).toArray].toArray w fun v w' => v = .bool r ∧ Ext w w' := by
 have hS := (St.init w no)
 unfold impl_Pasture_isCell.f at H
 refine CV.body Tryz.func123 Z Tryz.ntmps123 Z ?_
 refine GO ?_
 refine OF (EB hS (cPasture.enc a0)) ?_
 rintro _ w1 ⟨b1, rfl, hS⟩
 refine oX hS (cSpot.enc a1) fun b2 w1 hS => ?_
 refine oS (SL (cf hS 1 0)) ?_
 refine oS (SL (CA.fld (ce hS 0) (mid_part (fe_Pasture_0 _) (fl_Pasture_0 _) ((ci .i8).len _)))) ?_
 refine oB H hS hb53 (impl_within.c) fun t3 w1 H hS => ?_
 refine OJ.split (t := 14) Z (fun hb => ?_) (fun hb => ?_)
 replace H := pif_t hb H
 refine GO ?_
 refine oS (SL (cf hS 1 1)) ?_
 refine oS (SL (CA.fld (ce hS 0) (mid_part (fe_Pasture_1 _) (fl_Pasture_1 _) ((ci .i8).len _)))) ?_
 refine OB H hS hb53 (impl_within.c) fun t4 w1 H hS => ?_
 exact FE H hS
 replace H := pifb_f hb H
 exact FE H hS

def impl_ValidPasture.l2 (a0 : Pasture) (y5 : Int) : Nat → Int → Int → Int → Option (((Bool ⊕ Unit) ⊕ Unit) ⊕ (Int × Int))
  | 0, _, _, _ => none
  | k + 1, y8, y9, y10 => if y10 < 10 then ((impl_Pasture_isCell.f a0 (⟨IntKind.i8.wrap y10, IntKind.i8.wrap y5⟩ : Spot)).bind fun t11 => if t11 = true then ((impl_Pasture_isCell.f a0 (⟨IntKind.i8.wrap (IntKind.i64.wrap (y10 + 1)), IntKind.i8.wrap y5⟩ : Spot)).bind fun t12 => (impl_bit.f t12).bind fun t13 => (chk (0 ≤ y10)).bind fun u14 => (impl_Pasture_isCell.f a0 (⟨IntKind.i8.wrap y10, IntKind.i8.wrap (IntKind.i64.wrap (y5 + 1))⟩ : Spot)).bind fun t15 => (impl_bit.f t15).bind fun t16 => (chk (0 ≤ y10)).bind fun u17 => (getI a0.Grass.l y5).bind fun t18 => (getI t18.l y10).bind fun t19 => (impl_within.f (IntKind.i64.wrap t19) 0 1000).bind fun t20 => if (!t20) = true then (some (Sum.inl (Sum.inl (Sum.inl false)))) else (impl_ValidPasture.l2 a0 y5 k (orI .u16 y8 (shlI .u16 (IntKind.u16.wrap t13) y10)) (orI .u16 y9 (shlI .u16 (IntKind.u16.wrap t16) y10)) (IntKind.i64.wrap (y10 + 1)))) else ((getI a0.Grass.l y5).bind fun t21 => (getI t21.l y10).bind fun t22 => (impl_within.f (IntKind.i64.wrap t22) 0 0).bind fun t23 => if (!t23) = true then (some (Sum.inl (Sum.inl (Sum.inl false)))) else (impl_ValidPasture.l2 a0 y5 k y8 y9 (IntKind.i64.wrap (y10 + 1))))) else (some (Sum.inr (y8, y9)))
def impl_ValidPasture.l1 (a0 : Pasture) : Nat → Int → Option (Bool ⊕ Unit)
  | 0, _ => none
  | k + 1, y5 => if y5 < 10 then (((impl_ValidPasture.l2 a0 y5 k 0 0 0).bind fun s344 => match s344 with | .inl r => some r | .inr (y6, y7) => (getI a0.East.l y5).bind fun t24 => if (andNotI .u16 t24 y6) ≠ 0 then (some (Sum.inl (Sum.inl false))) else ((getI a0.South.l y5).bind fun t25 => if (andNotI .u16 t25 y7) ≠ 0 then (some (Sum.inl (Sum.inl false))) else (some (Sum.inr ())))).bind fun s342 => match s342 with | .inl r => some r | .inr _ => impl_ValidPasture.l1 a0 k (IntKind.i64.wrap (y5 + 1))) else (some (Sum.inr ()))
def impl_ValidPasture.f (k : Nat) (a0 : Pasture) : Option Bool := ((impl_within.f (IntKind.i64.wrap a0.Wide) 1 10).bind fun t3 => if (!t3) = true then (some true) else ((impl_within.f (IntKind.i64.wrap a0.High) 1 10).bind fun t4 => some (!t4))).bind fun y2 => if y2 = true then (some false) else ((impl_ValidPasture.l1 a0 k 0).bind fun s335 => match s335 with | .inl r => some r | .inr _ => some true)
theorem impl_ValidPasture.c {k w} (a0 : Pasture) (r : Bool) (H : impl_ValidPasture.f k a0 = some r) :
 CV Tryz.prog 69 [.agg (cPasture.enc a0).toArray].toArray w fun v w' => v = .bool r ∧ Ext w w' := by
 have hS := (St.init w no)
 unfold impl_ValidPasture.f at H
 refine CV.body Tryz.func69 Z Tryz.ntmps69 Z ?_
 refine GO ?_
 refine OF (EB hS (cPasture.enc a0)) ?_
 rintro _ w1 ⟨b1, rfl, hS⟩
 refine PX 1 ?_
 refine CJ.seq ?_
 obtain ⟨j334, H, K334⟩ := pbind H
 refine CJ.cut (fun F w1 => ∃ y2, some y2 = some j334 ∧ F = [(1, pt b1), (19, .bool y2)] ∧ St w no w1 [box b1 (cPasture.enc a0) 58] []) ?_ ?_
 refine GO ?_
 refine oS (SL (CA.fld (ce hS 0) (mid_part (fe_Pasture_0 _) (fl_Pasture_0 _) ((ci .i8).len _)))) ?_
 refine oB H hS hb53 (impl_within.c) fun t3 w1 H hS => ?_
 refine OJ.split (t := 13) Z (fun hb => ?_) (fun hb => ?_)
 replace H := pif_t hb H
 exact MD H hS
 replace H := pifb_f hb H
 refine GO ?_
 refine oS (SL (CA.fld (ce hS 0) (mid_part (fe_Pasture_1 _) (fl_Pasture_1 _) ((ci .i8).len _)))) ?_
 refine OB H hS hb53 (impl_within.c) fun t4 w1 H hS => ?_
 exact MD H hS
 rintro F w1 ⟨y2, he, rfl, hS⟩
 obtain rfl := Option.some.inj he
 have H := K334
 refine CB H (fun H => ?_) (fun H => ?_)
 exact FE H hS
 refine GO ?_
 obtain ⟨j335, H, K335⟩ := pbind H
 refine CJ.cut1 (fun F w1 => some j335 = some (Sum.inr ()) ∧ F = [] ∧ St w no w1 [] []) ?_ ?_
 refine CJ.block ?_
 refine LQ (fun k F w1 => ∃ (y5 : Int), F = [(1, pt b1), (20, i6 y5)] ∧ St w no w1 [box b1 (cPasture.enc a0) 58] [] ∧ impl_ValidPasture.l1 a0 k y5 = some j335) k H hS ?_
 rintro k F w1 ⟨y5, rfl, hS, H⟩
 rw [impl_ValidPasture.l1] at H
 refine GO ?_
 refine CP H (fun H => ?_) (fun H => ?_)
 refine CJ.skip (EJ.next ?_)
 obtain ⟨j342, H, K342⟩ := pbind H
 refine CJ.cut (fun F w1 => some j342 = some (Sum.inr ()) ∧ F = [(1, pt b1), (20, i6 y5)] ∧ St w no w1 [box b1 (cPasture.enc a0) 58] []) ?_ ?_
 refine CJ.block ?_
 refine GO ?_
 obtain ⟨j344, H, K344⟩ := pbind H
 refine CJ.cut1 (fun F w1 => ∃ y6 y7, some j344 = some (Sum.inr (y6, y7)) ∧ F = [(1, pt b1), (3, i6 y5), (4, .int .u16 y6), (5, .int .u16 y7), (20, i6 y5)] ∧ St w no w1 [box b1 (cPasture.enc a0) 58] []) ?_ ?_
 refine CJ.block ?_
 refine LQ (fun k F w1 => ∃ (y8 : Int) (y9 : Int) (y10 : Int), F = [(1, pt b1), (3, i6 y5), (4, .int .u16 y8), (5, .int .u16 y9), (20, i6 y5), (23, i6 y10)] ∧ St w no w1 [box b1 (cPasture.enc a0) 58] [] ∧ impl_ValidPasture.l2 a0 y5 k y8 y9 y10 = some j344) k H hS ?_
 rintro k F w1 ⟨y8, y9, y10, rfl, hS, H⟩
 rw [impl_ValidPasture.l2] at H
 refine GO ?_
 refine CP H (fun H => GO ?_) (fun H => ?_)
 refine CJ.block ?_
 refine GO ?_
 refine oS (SE (ce hS 0)) ?_
 refine OJ.st Z Z Z (SR.build (C := cSpot) oU oI Z Z Z (zs := [.int .i8 0, .int .i8 0]) Z Z Z (⟨IntKind.i8.wrap y10, IntKind.i8.wrap y5⟩ : Spot) Z) ?_
 refine oB H hS hb123 (impl_Pasture_isCell.c a0 (⟨IntKind.i8.wrap y10, IntKind.i8.wrap y5⟩ : Spot)) fun t11 w1 H hS => ?_
 refine CB H (fun H => GO ?_) (fun H => ?_)
 refine oS (SE (ce hS 0)) ?_
 refine OJ.st Z Z Z (SR.build (C := cSpot) oU oI Z Z Z (zs := [.int .i8 0, .int .i8 0]) Z Z Z (⟨IntKind.i8.wrap (IntKind.i64.wrap (y10 + 1)), IntKind.i8.wrap y5⟩ : Spot) Z) ?_
 refine OB H hS hb123 (impl_Pasture_isCell.c a0 (⟨IntKind.i8.wrap (IntKind.i64.wrap (y10 + 1)), IntKind.i8.wrap y5⟩ : Spot)) fun t12 w1 H hS => ?_
 refine oB H hS hb114 (impl_bit.c) fun t13 w1 H hS => ?_
 obtain ⟨u14, hu14, H⟩ := pbind H
 refine OJ.st Z Z Z (SR.shl Z Z Z (chk_some hu14)) ?_
 refine GO ?_
 refine oS (SE (ce hS 0)) ?_
 refine OJ.st Z Z Z (SR.build (C := cSpot) oU oI Z Z Z (zs := [.int .i8 0, .int .i8 0]) Z Z Z (⟨IntKind.i8.wrap y10, IntKind.i8.wrap (IntKind.i64.wrap (y5 + 1))⟩ : Spot) Z) ?_
 refine OB H hS hb123 (impl_Pasture_isCell.c a0 (⟨IntKind.i8.wrap y10, IntKind.i8.wrap (IntKind.i64.wrap (y5 + 1))⟩ : Spot)) fun t15 w1 H hS => ?_
 refine oB H hS hb114 (impl_bit.c) fun t16 w1 H hS => ?_
 obtain ⟨u17, hu17, H⟩ := pbind H
 refine OJ.st Z Z Z (SR.shl Z Z Z (chk_some hu17)) ?_
 refine GO ?_
 obtain ⟨t18, ht18, H⟩ := pbind H
 refine OJ.st Z Z Z (SR.idxA oU oI Z Z Z Z Z (Arr.lt ht18)) ?_
 obtain ⟨t19, ht19, H⟩ := pbind H
 refine OJ.st Z Z Z (SR.idxA oU oI Z Z Z Z Z (Arr.lt ht19)) ?_
 refine oS (SL (CA.idx (CA.idx (CA.fld (ce hS 0) (mid_part (fe_Pasture_2 _) (fl_Pasture_2 _) ((carr 10 (carr 10 (ci .i16))).len _))) ht18) ht19)) ?_
 refine oB H hS hb53 (impl_within.c) fun t20 w1 H hS => ?_
 refine CB H (fun H => GO ?_) (fun H => ?_)
 obtain rfl := Option.some.inj H; have H := K344
 obtain rfl := Option.some.inj H; have H := K342
 obtain rfl := Option.some.inj H; have H := K335
 exact FE H hS
 exact MD H hS
 refine GO ?_
 obtain ⟨t21, ht21, H⟩ := pbind H
 refine OJ.st Z Z Z (SR.idxA oU oI Z Z Z Z Z (Arr.lt ht21)) ?_
 obtain ⟨t22, ht22, H⟩ := pbind H
 refine OJ.st Z Z Z (SR.idxA oU oI Z Z Z Z Z (Arr.lt ht22)) ?_
 refine oS (SL (CA.idx (CA.idx (CA.fld (ce hS 0) (mid_part (fe_Pasture_2 _) (fl_Pasture_2 _) ((carr 10 (carr 10 (ci .i16))).len _))) ht21) ht22)) ?_
 refine oB H hS hb53 (impl_within.c) fun t23 w1 H hS => ?_
 refine CB H (fun H => GO ?_) (fun H => ?_)
 obtain rfl := Option.some.inj H; have H := K344
 obtain rfl := Option.some.inj H; have H := K342
 obtain rfl := Option.some.inj H; have H := K335
 exact FE H hS
 exact MD H hS
 exact MD H hS
 rintro F w1 ⟨y6, y7, ⟨⟩, rfl, hS⟩
 have H := K344
 refine EJ.next ?_
 refine GO ?_
 obtain ⟨t24, ht24, H⟩ := pbind H
 refine OJ.st Z Z Z (SR.idxA oU oI Z Z Z Z Z (Arr.lt ht24)) ?_
 refine oS (SL (CA.idx (CA.fld (ce hS 0) (mid_part (fe_Pasture_3 _) (fl_Pasture_3 _) ((carr 10 (ci .u16)).len _))) ht24)) ?_
 refine OJ.split (t := 79) Z (fun hb => ?_) (fun hb => ?_)
 replace H := pif_t (of_decide_eq_true hb) H
 refine GO ?_
 refine CJ.condT Z ?_
 refine GO ?_
 obtain rfl := Option.some.inj H; have H := K342
 obtain rfl := Option.some.inj H; have H := K335
 exact FE H hS
 replace H := pif_f (of_decide_eq_false hb) H
 refine GO ?_
 obtain ⟨t25, ht25, H⟩ := pbind H
 refine OJ.st Z Z Z (SR.idxA oU oI Z Z Z Z Z (Arr.lt ht25)) ?_
 refine oS (SL (CA.idx (CA.fld (ce hS 0) (mid_part (fe_Pasture_4 _) (fl_Pasture_4 _) ((carr 10 (ci .u16)).len _))) ht25)) ?_
 refine CP H (fun H => GO ?_) (fun H => ?_)
 obtain rfl := Option.some.inj H; have H := K342
 obtain rfl := Option.some.inj H; have H := K335
 exact FE H hS
 exact MD H hS
 rintro F w1 ⟨⟨⟩, rfl, hS⟩
 have H := K342
 exact MD H hS
 exact MD H hS
 rintro F w1 ⟨⟨⟩, rfl, hS⟩
 have H := K335
 refine EJ.next ?_
 exact FE H hS

def impl_Pasture_cells.l2 (a0 : Pasture) (a1 : Spot → Option Bool) (y9 : Int) : Nat → (List Spot) → Int → Option (List Spot)
  | 0, _, _ => none
  | k + 1, y16, y19 => if y19 < a0.Wide then ((a1 (⟨y19, y9⟩ : Spot)).bind fun t21 => if t21 = true then ((chk (y16.length + ([(⟨y19, y9⟩ : Spot)] : List Spot).length ≤ 4294967296)).bind fun u23 => impl_Pasture_cells.l2 a0 a1 y9 k (y16 ++ ([(⟨y19, y9⟩ : Spot)] : List Spot)) (IntKind.i8.wrap (y19 + 1))) else (impl_Pasture_cells.l2 a0 a1 y9 k y16 (IntKind.i8.wrap (y19 + 1)))) else (some y16)
def impl_Pasture_cells.l1 (a0 : Pasture) (a1 : Spot → Option Bool) : Nat → (List Spot) → Int → Option (List Spot)
  | 0, _, _ => none
  | k + 1, y6, y9 => if y9 < a0.High then (((impl_Pasture_cells.l2 a0 a1 y9 k y6 0).bind fun y13 => some y13).bind fun y10 => impl_Pasture_cells.l1 a0 a1 k y10 (IntKind.i8.wrap (y9 + 1))) else (some y6)
def impl_Pasture_cells.f (k : Nat) (a0 : Pasture) (a1 : Spot → Option Bool) : Option (List Spot) := (impl_Pasture_cells.l1 a0 a1 k ([] : List Spot) 0).bind fun y3 => some y3
theorem impl_Pasture_cells.c {k w} (a0 : Pasture) (na1 : Nat) (fsa1 : Array Value) (capa1 : Array Value) (hb1 : hasBody Tryz.prog na1) (a1 : Spot → Option Bool) (hf1 : ∀ (z0 : Spot) (r : Bool), a1 z0 = some r → ∀ w', Chg no w w' → CV Tryz.prog na1 (fsa1 ++ [.agg (cSpot.enc z0).toArray].toArray ++ capa1) w' fun v w'' => v = .bool r ∧ Ext w' w'') (r : List Spot) (H : impl_Pasture_cells.f k a0 a1 = some r) :
 CV Tryz.prog 72 [.agg (cPasture.enc a0).toArray, .func (.func na1) fsa1 capa1].toArray w fun v w' => ∃ (A0 : Option Addr) (c0 : Nat), v = .slice A0 r.length c0 ∧ St w no w' [rowC cSpot A0 c0 63 r] [] := by
 have hS := (St.init w no)
 unfold impl_Pasture_cells.f at H
 refine CV.body Tryz.func72 Z Tryz.ntmps72 Z ?_
 refine GO ?_
 refine oX hS (cPasture.enc a0) fun b1 w1 hS => ?_
 refine OF (EL hS cSpot ([] : List Spot)) ?_
 rintro _ w1 ⟨A2, rfl, hS⟩
 refine GO ?_
 refine oS (SL (CA.fld (ce hS 0) (mid_part (fe_Pasture_1 _) (fl_Pasture_1 _) ((ci .i8).len _)))) ?_
 obtain ⟨j347, H, K347⟩ := pbind H
 refine CJ.cut1 (fun F w1 => ∃ y3 A4 c5, some y3 = some j347 ∧ F = [(5, sl A4 y3 c5)] ∧ St w no w1 [rowC cSpot A4 c5 63 y3] []) ?_ ?_
 refine CJ.block ?_
 refine LQ (fun k F w1 => ∃ (y6 : List Spot) (y9 : Int) (A7 c8 : _), F = [(1, .func (.func na1) fsa1 capa1), (2, pt b1), (5, sl A7 y6 c8), (11, .int .i8 a0.High), (12, .int .i8 y9)] ∧ St w no w1 [box b1 (cPasture.enc a0) 58, rowC cSpot A7 c8 63 y6] [] ∧ impl_Pasture_cells.l1 a0 a1 k y6 y9 = some j347) k H hS ?_
 rintro k F w1 ⟨y6, y9, A7, c8, rfl, hS, H⟩
 rw [impl_Pasture_cells.l1] at H
 refine GO ?_
 refine CP H (fun H => ?_) (fun H => ?_)
 refine CJ.skip (EJ.next ?_)
 obtain ⟨j354, H, K354⟩ := pbind H
 refine CJ.cut (fun F w1 => ∃ y10 A11 c12, some y10 = some j354 ∧ F = [(1, .func (.func na1) fsa1 capa1), (2, pt b1), (5, sl A11 y10 c12), (11, .int .i8 a0.High), (12, .int .i8 y9)] ∧ St w no w1 [box b1 (cPasture.enc a0) 58, rowC cSpot A11 c12 63 y10] []) ?_ ?_
 refine CJ.block ?_
 refine GO ?_
 refine oS (SL (CA.fld (ce hS 0) (mid_part (fe_Pasture_0 _) (fl_Pasture_0 _) ((ci .i8).len _)))) ?_
 obtain ⟨j356, H, K356⟩ := pbind H
 refine CJ.cut1 (fun F w1 => ∃ y13 A14 c15, some y13 = some j356 ∧ F = [(1, .func (.func na1) fsa1 capa1), (2, pt b1), (5, sl A14 y13 c15), (11, .int .i8 a0.High), (12, .int .i8 y9)] ∧ St w no w1 [box b1 (cPasture.enc a0) 58, rowC cSpot A14 c15 63 y13] []) ?_ ?_
 refine CJ.block ?_
 refine LQ (fun k F w1 => ∃ (y16 : List Spot) (y19 : Int) (A17 c18 : _), F = [(1, .func (.func na1) fsa1 capa1), (2, pt b1), (5, sl A17 y16 c18), (6, .int .i8 y9), (11, .int .i8 a0.High), (12, .int .i8 y9), (16, .int .i8 a0.Wide), (17, .int .i8 y19)] ∧ St w no w1 [box b1 (cPasture.enc a0) 58, rowC cSpot A17 c18 63 y16] [] ∧ impl_Pasture_cells.l2 a0 a1 y9 k y16 y19 = some j356) k H hS ?_
 rintro k F w1 ⟨y16, y19, A17, c18, rfl, hS, H⟩
 rw [impl_Pasture_cells.l2] at H
 refine GO ?_
 refine CP H (fun H => GO ?_) (fun H => ?_)
 refine CJ.block ?_
 refine GO ?_
 refine OJ.st Z Z Z (SR.build (C := cSpot) oU oI Z Z Z (zs := [.int .i8 0, .int .i8 0]) Z Z Z (⟨y19, y9⟩ : Spot) Z) ?_
 refine OF (EA hS (cSpot.enc (⟨0, 0⟩ : Spot))) ?_
 rintro _ w1 ⟨b20, rfl, hS⟩
 refine OJ.es Z Z (Es.store oI hS (i := 2) Z Z Z Z Z Z (vs := cSpot.enc (⟨y19, y9⟩ : Spot)) Z (cSpot.len _) (cSpot.one _) (Nat.le_of_ble_eq_true Z) (cSpot.enc (⟨y19, y9⟩ : Spot)) Z) ?_
 intro w1 hS
 refine GO ?_
 refine OS (SE (ce hS 2)) ?_
 obtain ⟨t21, ht21, H⟩ := pbind H
 refine OJ.call Z Z (Nat.le_of_ble_eq_true Z) Z Z Z hb1 Z (hf1 (⟨y19, y9⟩ : Spot) _ ht21 _ hS.chg) ?_
 rintro _ w1 ⟨rfl, hs⟩
 replace hS := hS.grow hs
 refine GO ?_
 refine CB H (fun H => GO ?_) (fun H => ?_)
 refine OS (SE (ce hS 2)) ?_
 refine OF (EL hS cSpot ([(⟨y19, y9⟩ : Spot)] : List Spot)) ?_
 rintro _ w1 ⟨A22, rfl, hS⟩
 obtain ⟨u23, hu23, H⟩ := pbind H
 refine OW (AP hS 1 (rC hS 3 Z) (chk_some hu23)) ?_
 rintro _ w1 ⟨A24, c25, rfl, hS⟩
 exact MD H hS
 exact MD H hS
 exact MD H hS
 rintro F w1 ⟨y13, A14, c15, he, rfl, hS⟩
 obtain rfl := Option.some.inj he
 have H := K356
 refine EJ.blk (?_)
 exact MD H hS
 rintro F w1 ⟨y10, A11, c12, he, rfl, hS⟩
 obtain rfl := Option.some.inj he
 have H := K354
 exact MD H hS
 exact MD H hS
 rintro F w1 ⟨y3, A4, c5, he, rfl, hS⟩
 obtain rfl := Option.some.inj he
 have H := K347
 refine EJ.next ?_
 refine GO ?_
 obtain rfl := Option.some.inj H
 exact FT ⟨A4, c5, Z, hS.pick [0] [] Z⟩

def impl_Pasture_all_1.f (a0 : Spot) : Option Bool := some true
theorem impl_Pasture_all_1.c {w} (a0 : Spot) (r : Bool) (H : impl_Pasture_all_1.f a0 = some r) :
 CV Tryz.prog 125 [.agg (cSpot.enc a0).toArray].toArray w fun v w' => v = .bool r ∧ Ext w w' := by
 have hS := (St.init w no)
 unfold impl_Pasture_all_1.f at H
 refine CV.body Tryz.func125 Z Tryz.ntmps125 Z ?_
 refine GO ?_
 refine OF (EB hS (cSpot.enc a0)) ?_
 rintro _ w1 ⟨b1, rfl, hS⟩
 exact FE H hS

def impl_Pasture_all.f (k : Nat) (a0 : Pasture) : Option (List Spot) := (impl_Pasture_cells.f k a0 impl_Pasture_all_1.f).bind fun t2 => some t2
theorem impl_Pasture_all.c {k w} (a0 : Pasture) (r : List Spot) (H : impl_Pasture_all.f k a0 = some r) :
 CV Tryz.prog 71 [.agg (cPasture.enc a0).toArray].toArray w fun v w' => ∃ (A0 : Option Addr) (c0 : Nat), v = .slice A0 r.length c0 ∧ St w no w' [rowC cSpot A0 c0 63 r] [] := by
 have hS := (St.init w no)
 unfold impl_Pasture_all.f at H
 refine CV.body Tryz.func71 Z Tryz.ntmps71 Z ?_
 refine GO ?_
 refine oX hS (cPasture.enc a0) fun b1 w1 hS => ?_
 refine OS (SE (ce hS 0)) ?_
 obtain ⟨t2, ht2, H⟩ := pbind H
 refine OC hb72 (impl_Pasture_cells.c a0 125 #[] #[] hb125 impl_Pasture_all_1.f (fun z0 r h w' hx => CV.cast (impl_Pasture_all_1.c z0 r h) (by simp)) _ ht2) ?_
 rintro _ w1 ⟨A3, c4, rfl, hs⟩
 replace hS := hS.addN hs
 refine GO ?_
 obtain rfl := Option.some.inj H
 exact FT ⟨A3, c4, Z, hS.pick [1] [] Z⟩

def impl_Pasture_grass.f (a0 : Pasture) (a1 : Spot) : Option Int := (getI a0.Grass.l a1.Y).bind fun t3 => (getI t3.l a1.X).bind fun t4 => some (IntKind.i64.wrap t4)
theorem impl_Pasture_grass.c {w} (a0 : Pasture) (a1 : Spot) (r : Int) (H : impl_Pasture_grass.f a0 a1 = some r) :
 CV Tryz.prog 124 [.agg (cPasture.enc a0).toArray, .agg (cSpot.enc a1).toArray].toArray w fun v w' => v = .int .i64 r ∧ Ext w w' := by
 have hS := (St.init w no)
 unfold impl_Pasture_grass.f at H
 refine CV.body Tryz.func124 Z Tryz.ntmps124 Z ?_
 refine GO ?_
 refine OF (EB hS (cPasture.enc a0)) ?_
 rintro _ w1 ⟨b1, rfl, hS⟩
 refine oX hS (cSpot.enc a1) fun b2 w1 hS => ?_
 refine CJ.draw [] [0, 1, 2, 3, 4, 5, 6, 7, 8, 9] mixed (by kernel_rfl) hS fun w1 hS => ?_
 refine GO ?_
 refine dS (SL (cf hS 1 1)) ?_
 refine dS (SL (cf hS 1 0)) ?_
 obtain ⟨t3, ht3, H⟩ := pbind H
 refine DJ.st Z Z Z Z Z (SR.idxA oU oI Z Z Z Z Z (Arr.lt ht3)) ?_
 obtain ⟨t4, ht4, H⟩ := pbind H
 refine DJ.st Z Z Z Z Z (SR.idxA oU oI Z Z Z Z Z (Arr.lt ht4)) ?_
 refine DS (SL (CA.idx (CA.idx (CA.fld (ce hS 0) (mid_part (fe_Pasture_2 _) (fl_Pasture_2 _) ((carr 10 (carr 10 (ci .i16))).len _))) ht3) ht4)) ?_
 exact FE H hS

def impl_Pasture_sumOf.l1 (a0 : Pasture) (a1 : List Spot) : Nat → Int → Int → Option Int
  | 0, _, _ => none
  | k + 1, y3, y4 => if y4 < (a1.length : Int) then ((getI a1 y4).bind fun t5 => (impl_Pasture_grass.f a0 t5).bind fun t7 => impl_Pasture_sumOf.l1 a0 a1 k (IntKind.i64.wrap (y3 + t7)) (IntKind.i64.wrap (y4 + 1))) else (some y3)
def impl_Pasture_sumOf.f (k : Nat) (a0 : Pasture) (a1 : List Spot) : Option Int := (impl_Pasture_sumOf.l1 a0 a1 k 0 0).bind fun y2 => some y2
theorem impl_Pasture_sumOf.c {k w} (a0 : Pasture) {Aa1 ca1} {a1 : List Spot} (hr1 : Rd cSpot w Aa1 a1) (hc1 : a1.length ≤ ca1) (r : Int) (H : impl_Pasture_sumOf.f k a0 a1 = some r) :
 CV Tryz.prog 70 [.agg (cPasture.enc a0).toArray, sl Aa1 a1 ca1].toArray w fun v w' => v = .int .i64 r ∧ Ext w w' := by
 have hS := ((St.init w no).param cSpot Aa1 ca1 a1 hr1 hc1)
 unfold impl_Pasture_sumOf.f at H
 refine CV.body Tryz.func70 Z Tryz.ntmps70 Z ?_
 refine GO ?_
 refine oX hS (cPasture.enc a0) fun b1 w1 hS => ?_
 obtain ⟨j357, H, K357⟩ := pbind H
 refine CJ.cut1 (fun F w1 => ∃ y2, some y2 = some j357 ∧ F = [(5, i6 y2)] ∧ St w no w1 [] [roC cSpot Aa1 ca1 a1]) ?_ ?_
 refine CJ.block ?_
 refine LQ (fun k F w1 => ∃ (y3 : Int) (y4 : Int), F = [(2, pt b1), (5, i6 y3), (8, sl Aa1 a1 ca1), (9, i6 (a1.length : Int)), (10, i6 y4)] ∧ St w no w1 [box b1 (cPasture.enc a0) 58] [roC cSpot Aa1 ca1 a1] ∧ impl_Pasture_sumOf.l1 a0 a1 k y3 y4 = some j357) k H hS ?_
 rintro k F w1 ⟨y3, y4, rfl, hS, H⟩
 rw [impl_Pasture_sumOf.l1] at H
 refine GO ?_
 refine CP H (fun H => GO ?_) (fun H => ?_)
 refine CJ.block ?_
 refine GO ?_
 obtain ⟨t5, ht5, H⟩ := pbind H
 obtain ⟨ad5, e5⟩ := (rA hS 0 Z).some' ht5
 refine OS (SI e5 (getI_some ht5).1) ?_
 refine OS (SE ((rA hS 0 Z).at_ e5 ht5)) ?_
 refine OF (EA hS (cSpot.enc (⟨0, 0⟩ : Spot))) ?_
 rintro _ w1 ⟨b6, rfl, hS⟩
 refine OJ.es Z Z (Es.store oI hS (i := 1) Z Z Z Z Z Z (vs := cSpot.enc t5) Z (cSpot.len _) (cSpot.one _) (Nat.le_of_ble_eq_true Z) (cSpot.enc t5) Z) ?_
 intro w1 hS
 refine GO ?_
 refine OS (SE (ce hS 0)) ?_
 refine OS (SE (ce hS 1)) ?_
 refine OB H hS hb124 (impl_Pasture_grass.c a0 t5) fun t7 w1 H hS => ?_
 exact MD H hS
 exact MD H hS
 rintro F w1 ⟨y2, he, rfl, hS⟩
 obtain rfl := Option.some.inj he
 have H := K357
 refine EJ.next ?_
 exact FE H hS

def impl_CutColumn_1.f (a1 : Int) (a0 : Spot) : Option Bool := some (decide (a0.X < a1))
theorem impl_CutColumn_1.c {w} (pa1 : Addr) {a1 : Int} (hp1 : CA w pa1 ((ci .i8).enc a1)) (a0 : Spot) (r : Bool) (H : impl_CutColumn_1.f a1 a0 = some r) :
 CV Tryz.prog 73 [.agg (cSpot.enc a0).toArray, .pointer (some pa1)].toArray w fun v w' => v = .bool r ∧ Ext w w' := by
 have hS := ((St.init w no).paramP pa1 ((ci .i8).enc a1) hp1)
 unfold impl_CutColumn_1.f at H
 refine CV.body Tryz.func73 Z Tryz.ntmps73 Z ?_
 refine GO ?_
 refine oX hS (cSpot.enc a0) fun b1 w1 hS => ?_
 refine OS (SL (cf hS 0 0)) ?_
 refine OS (SL (hS.ca (i := 0) Z)) ?_
 exact FE H hS

def impl_CutColumn.l1 (a0 : Pasture) (a1 : Int) (a2 : Int) (t10 : Int) : Nat → Int → Int → Int → Option Int
  | 0, _, _, _ => none
  | k + 1, y12, y13, y14 => if y14 < (IntKind.i8.wrap (a0.Wide + 1)) then ((impl_Pasture_cells.f k a0 (impl_CutColumn_1.f y14)).bind fun t16 => (impl_Pasture_sumOf.f k a0 t16).bind fun t19 => if y13 < 0 then (impl_CutColumn.l1 a0 a1 a2 t10 k (IntKind.i64.wrap y14) (if (IntKind.i64.wrap ((IntKind.i64.wrap (t19 * a2)) - (IntKind.i64.wrap ((IntKind.i64.wrap (t10 - t19)) * a1)))) < (IntKind.i64.wrap (0 - (IntKind.i64.wrap ((IntKind.i64.wrap (t19 * a2)) - (IntKind.i64.wrap ((IntKind.i64.wrap (t10 - t19)) * a1)))))) then (IntKind.i64.wrap (0 - (IntKind.i64.wrap ((IntKind.i64.wrap (t19 * a2)) - (IntKind.i64.wrap ((IntKind.i64.wrap (t10 - t19)) * a1)))))) else (IntKind.i64.wrap ((IntKind.i64.wrap (t19 * a2)) - (IntKind.i64.wrap ((IntKind.i64.wrap (t10 - t19)) * a1))))) (IntKind.i8.wrap (y14 + 1))) else (if (if (IntKind.i64.wrap ((IntKind.i64.wrap (t19 * a2)) - (IntKind.i64.wrap ((IntKind.i64.wrap (t10 - t19)) * a1)))) < (IntKind.i64.wrap (0 - (IntKind.i64.wrap ((IntKind.i64.wrap (t19 * a2)) - (IntKind.i64.wrap ((IntKind.i64.wrap (t10 - t19)) * a1)))))) then (IntKind.i64.wrap (0 - (IntKind.i64.wrap ((IntKind.i64.wrap (t19 * a2)) - (IntKind.i64.wrap ((IntKind.i64.wrap (t10 - t19)) * a1)))))) else (IntKind.i64.wrap ((IntKind.i64.wrap (t19 * a2)) - (IntKind.i64.wrap ((IntKind.i64.wrap (t10 - t19)) * a1))))) < y13 then (impl_CutColumn.l1 a0 a1 a2 t10 k (IntKind.i64.wrap y14) (if (IntKind.i64.wrap ((IntKind.i64.wrap (t19 * a2)) - (IntKind.i64.wrap ((IntKind.i64.wrap (t10 - t19)) * a1)))) < (IntKind.i64.wrap (0 - (IntKind.i64.wrap ((IntKind.i64.wrap (t19 * a2)) - (IntKind.i64.wrap ((IntKind.i64.wrap (t10 - t19)) * a1)))))) then (IntKind.i64.wrap (0 - (IntKind.i64.wrap ((IntKind.i64.wrap (t19 * a2)) - (IntKind.i64.wrap ((IntKind.i64.wrap (t10 - t19)) * a1)))))) else (IntKind.i64.wrap ((IntKind.i64.wrap (t19 * a2)) - (IntKind.i64.wrap ((IntKind.i64.wrap (t10 - t19)) * a1))))) (IntKind.i8.wrap (y14 + 1))) else (impl_CutColumn.l1 a0 a1 a2 t10 k y12 y13 (IntKind.i8.wrap (y14 + 1))))) else (some y12)
def impl_CutColumn.f (k : Nat) (a0 : Pasture) (a1 : Int) (a2 : Int) : Option (Int × Int) := (impl_ValidPasture.f k a0).bind fun t2 => if (!t2) = true then (some (0, 1)) else (((impl_within.f a1 0 1000000).bind fun t4 => if (!t4) = true then (some true) else ((impl_within.f a2 0 1000000).bind fun t5 => some (!t5))).bind fun y3 => if y3 = true then (some (0, 2)) else ((if a1 = 0 then (some (decide (a2 = 0))) else (some false)).bind fun y6 => if y6 = true then (some (0, 4)) else ((impl_Pasture_all.f k a0).bind fun t7 => (impl_Pasture_sumOf.f k a0 t7).bind fun t10 => (impl_CutColumn.l1 a0 a1 a2 t10 k 0 (-1) 0).bind fun y11 => some (y11, 0))))
theorem impl_CutColumn.c {k w} (a0 : Pasture) {a1 : Int} {a2 : Int} (r : Int × Int) (H : impl_CutColumn.f k a0 a1 a2 = some r) :
 CV Tryz.prog 25 [.agg (cPasture.enc a0).toArray, .int .i64 a1, i6 a2].toArray w fun v w' => v = .tuple #[.int .i64 r.1, i6 r.2] ∧ Ext w w' := by
 have hS := (St.init w no)
 unfold impl_CutColumn.f at H
 refine CV.body Tryz.func25 Z Tryz.ntmps25 Z ?_
 refine GO ?_
 refine oX hS (cPasture.enc a0) fun b1 w1 hS => ?_
 refine CJ.block ?_
 refine GO ?_
 refine OS (SE (ce hS 0)) ?_
 refine oB H hS hb69 (impl_ValidPasture.c a0) fun t2 w1 H hS => ?_
 refine CB H (fun H => ?_) (fun H => ?_)
 exact FE H hS
 obtain ⟨j345, H, K345⟩ := pbind H
 refine CJ.cut (fun F w1 => ∃ y3, some y3 = some j345 ∧ F = [(1, i6 a1), (2, i6 a2), (3, pt b1), (18, .bool y3)] ∧ St w no w1 [box b1 (cPasture.enc a0) 58] []) ?_ ?_
 refine GO ?_
 refine oB H hS hb53 (impl_within.c) fun t4 w1 H hS => ?_
 refine OJ.split (t := 22) Z (fun hb => ?_) (fun hb => ?_)
 replace H := pif_t hb H
 exact MD H hS
 replace H := pifb_f hb H
 refine GO ?_
 refine OB H hS hb53 (impl_within.c) fun t5 w1 H hS => ?_
 exact MD H hS
 rintro F w1 ⟨y3, he, rfl, hS⟩
 obtain rfl := Option.some.inj he
 have H := K345
 refine CB H (fun H => ?_) (fun H => ?_)
 exact FE H hS
 obtain ⟨j346, H, K346⟩ := pbind H
 refine CJ.cut (fun F w1 => ∃ y6, some y6 = some j346 ∧ F = [(1, i6 a1), (2, i6 a2), (3, pt b1), (27, .bool y6)] ∧ St w no w1 [box b1 (cPasture.enc a0) 58] []) ?_ ?_
 refine GO ?_
 refine OJ.split (t := 30) Z (fun hb => ?_) (fun hb => ?_)
 replace H := pif_t (of_decide_eq_true hb) H
 exact MD H hS
 replace H := pif_f (of_decide_eq_false hb) H
 exact MD H hS
 rintro F w1 ⟨y6, he, rfl, hS⟩
 obtain rfl := Option.some.inj he
 have H := K346
 refine CB H (fun H => ?_) (fun H => ?_)
 exact FE H hS
 refine GO ?_
 refine CJ.draw [] [0, 1, 2, 3, 4, 5, 6] mixed (by kernel_rfl) hS fun w1 hS => ?_
 refine DS (SE (ce hS 0)) ?_
 refine DS (SE (ce hS 0)) ?_
 obtain ⟨t7, ht7, H⟩ := pbind H
 refine DJ.callF rfl rfl rfl rfl rfl rfl rfl hb71 rfl (impl_Pasture_all.c a0 _ ht7) (by rintro v w' ⟨A8, c9, rfl, hs⟩; exact hs.ext) ?_
 rintro _ w1 ⟨A8, c9, rfl, hs⟩
 replace hS := hS.addN hs
 obtain ⟨t10, ht10, H⟩ := pbind H
 refine DJ.callF rfl rfl rfl rfl rfl rfl rfl hb70 rfl (impl_Pasture_sumOf.c a0 (rC hS 1 Z) (rD hS 1 Z) _ ht10) (by rintro v w' ⟨rfl, hs⟩; exact hs) ?_
 rintro _ w1 ⟨rfl, hs⟩
 replace hS := hS.grow hs
 refine GO ?_
 refine oS (SL (CA.fld (ce hS 0) (mid_part (fe_Pasture_0 _) (fl_Pasture_0 _) ((ci .i8).len _)))) ?_
 obtain ⟨j358, H, K358⟩ := pbind H
 refine CJ.cut1 (fun F w1 => ∃ y11, some y11 = some j358 ∧ F = [(9, i6 y11)] ∧ St w no w1 [] []) ?_ ?_
 refine CJ.block ?_
 refine LQ (fun k F w1 => ∃ (y12 : Int) (y13 : Int) (y14 : Int), F = [(1, i6 a1), (2, i6 a2), (3, pt b1), (8, i6 t10), (9, i6 y12), (10, i6 y13), (40, .int .i8 (IntKind.i8.wrap (a0.Wide + 1))), (41, .int .i8 y14)] ∧ St w no w1 [box b1 (cPasture.enc a0) 58] [] ∧ impl_CutColumn.l1 a0 a1 a2 t10 k y12 y13 y14 = some j358) k H hS ?_
 rintro k F w1 ⟨y12, y13, y14, rfl, hS, H⟩
 rw [impl_CutColumn.l1] at H
 refine GO ?_
 refine CP H (fun H => GO ?_) (fun H => ?_)
 refine CJ.block ?_
 refine GO ?_
 refine OF (EA hS ((ci .i8).enc 0)) ?_
 rintro _ w1 ⟨b15, rfl, hS⟩
 refine oE (WV hS 1 ((ci .i8).enc y14)) fun w1 hS => ?_
 refine CJ.draw [] [0, 1, 2, 3, 4, 5] mixed (by kernel_rfl) hS fun w1 hS => ?_
 refine DS (SE (ce hS 0)) ?_
 refine dS (SE (ce hS 0)) ?_
 obtain ⟨t16, ht16, H⟩ := pbind H
 refine DJ.callF rfl rfl rfl rfl rfl rfl rfl hb72 rfl (impl_Pasture_cells.c a0 73 #[] #[.pointer (some ⟨b15, 0, none⟩)] hb73 (impl_CutColumn_1.f y14) (fun z0 r h w' hx => CV.cast (impl_CutColumn_1.c ⟨b15, 0, none⟩ (CA.ext (hS.cells (i := 1) rfl) hx) z0 r h) (by simp)) _ ht16) (by rintro v w' ⟨A17, c18, rfl, hs⟩; exact hs.ext) ?_
 rintro _ w1 ⟨A17, c18, rfl, hs⟩
 replace hS := hS.addN hs
 obtain ⟨t19, ht19, H⟩ := pbind H
 refine DJ.callF rfl rfl rfl rfl rfl rfl rfl hb70 rfl (impl_Pasture_sumOf.c a0 (rC hS 2 Z) (rD hS 2 Z) _ ht19) (by rintro v w' ⟨rfl, hs⟩; exact hs) ?_
 rintro _ w1 ⟨rfl, hs⟩
 replace hS := hS.grow hs
 refine GO ?_
 refine OJ.split (t := 64) Z (fun hb => ?_) (fun hb => ?_)
 replace H := pif_t (of_decide_eq_true hb) H
 refine GO ?_
 refine CJ.condT Z ?_
 refine GO ?_
 refine OS (SL (ce hS 1)) ?_
 exact MD H hS
 replace H := pif_f (of_decide_eq_false hb) H
 refine GO ?_
 refine CP H (fun H => GO ?_) (fun H => ?_)
 refine OS (SL (ce hS 1)) ?_
 exact MD H hS
 exact MD H hS
 exact MD H hS
 rintro F w1 ⟨y11, he, rfl, hS⟩
 obtain rfl := Option.some.inj he
 have H := K358
 refine EJ.next ?_
 exact FE H hS

def spec_l01Grass.f (a0 : Int) : Option Bool := (spec_l00In.f a0 0 1000).bind fun t1 => some t1
theorem spec_l01Grass.c {w} {a0 : Int} (r : Bool) (H : spec_l01Grass.f a0 = some r) :
 CV Tryz.prog 126 [.int .i64 a0].toArray w fun v w' => v = .bool r ∧ Ext w w' := by
 have hS := (St.init w no)
 unfold spec_l01Grass.f at H
 refine CV.body Tryz.func126 Z Tryz.ntmps126 Z ?_
 refine GO ?_
 refine OB H hS hb75 (spec_l00In.c) fun t1 w1 H hS => ?_
 exact FE H hS
end Go.Proofs.YtplfdbfdalaefaaGreatDoor
