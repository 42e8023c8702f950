/-
  What the functions come to.
-/
import Derived.Test.YtonpnkppaflcbaaGreatDoorGP2
namespace Go.Proofs.YtonpnkppaflcbaaGreatDoor
open G
set_option linter.unusedVariables false
set_option linter.unusedSimpArgs false
set_option maxRecDepth 100000
set_option maxHeartbeats 4000000
def laws_FnGroups.l1 (t2 : Herd) (t16 : List Int × Int × Int) (t22 : List Int × Int) : Nat → Int → Int → Int → Option (Int × Int)
  | 0, _, _, _ => none
  | k + 1, y47, y48, y49 => if y49 < (t2.Names.length : Int) then ((getI t16.1 y49).bind fun t50 => (getI t22.1 y49).bind fun t51 => laws_FnGroups.l1 t2 t16 t22 k (if y47 < t50 then t50 else y47) (if y48 < t51 then t51 else y48) (IntKind.i64.wrap (y49 + 1))) else (some (y47, y48))
def laws_FnGroups.l3 (t2 : Herd) (t28 : List Int × Int) (y53 : Int) : Nat → Int → Option (((Bool ⊕ Unit) ⊕ Unit) ⊕ Unit)
  | 0, _ => none
  | k + 1, y54 => if y54 < y53 then ((getI t28.1 y53).bind fun t55 => (getI t28.1 y54).bind fun t56 => (impl_AreFoes.f k t2 t55 t56).bind fun t57 => if t57.2 ≠ 0 then (some (Sum.inl (Sum.inl (Sum.inl false)))) else (if (!t57.1) = true then (some (Sum.inl (Sum.inl (Sum.inl false)))) else (laws_FnGroups.l3 t2 t28 y53 k (IntKind.i64.wrap (y54 + 1))))) else (some (Sum.inr ()))
def laws_FnGroups.l2 (t2 : Herd) (t28 : List Int × Int) : Nat → Int → Option (Bool ⊕ Unit)
  | 0, _ => none
  | k + 1, y53 => if y53 < (t28.1.length : Int) then (((laws_FnGroups.l3 t2 t28 y53 k 0).bind fun s249 => match s249 with | .inl r => some r | .inr _ => some (Sum.inr ())).bind fun s247 => match s247 with | .inl r => some r | .inr _ => laws_FnGroups.l2 t2 t28 k (IntKind.i64.wrap (y53 + 1))) else (some (Sum.inr ()))
def laws_FnGroups.l5 (t2 : Herd) (t34 : List Int × Int) (y58 : Int) : Nat → Int → Option (((Bool ⊕ Unit) ⊕ Unit) ⊕ Unit)
  | 0, _ => none
  | k + 1, y59 => if y59 < y58 then ((getI t34.1 y58).bind fun t60 => (getI t34.1 y59).bind fun t61 => (impl_AreFoes.f k t2 t60 t61).bind fun t62 => if t62.2 ≠ 0 then (some (Sum.inl (Sum.inl (Sum.inl false)))) else (if t62.1 = true then (some (Sum.inl (Sum.inl (Sum.inl false)))) else (laws_FnGroups.l5 t2 t34 y58 k (IntKind.i64.wrap (y59 + 1))))) else (some (Sum.inr ()))
def laws_FnGroups.l4 (t2 : Herd) (t34 : List Int × Int) : Nat → Int → Option (Bool ⊕ Unit)
  | 0, _ => none
  | k + 1, y58 => if y58 < (t34.1.length : Int) then (((laws_FnGroups.l5 t2 t34 y58 k 0).bind fun s259 => match s259 with | .inl r => some r | .inr _ => some (Sum.inr ())).bind fun s257 => match s257 with | .inl r => some r | .inr _ => laws_FnGroups.l4 t2 t34 k (IntKind.i64.wrap (y58 + 1))) else (some (Sum.inr ()))
def laws_FnGroups.l6 (a1 : List Int) (t16 : List Int × Int × Int) : Nat → (List Int) → Int → Option (List Int)
  | 0, _, _ => none
  | k + 1, y71, y74 => if y74 < (IntKind.i64.wrap (t16.2.1 + 1)) then ((laws_a2At.f a1 y74 40).bind fun t75 => (chk (y71.length + ([IntKind.i64.wrap (4 * t75)] : List Int).length ≤ 4294967296)).bind fun u77 => laws_FnGroups.l6 a1 t16 k (y71 ++ ([IntKind.i64.wrap (4 * t75)] : List Int)) (IntKind.i64.wrap (y74 + 1))) else (some y71)
def laws_FnGroups.l7 (t2 : Herd) : Nat → Int → Int → Option Int
  | 0, _, _ => none
  | k + 1, y89, y90 => if y90 < (t2.Names.length : Int) then ((getI t2.Eats y90).bind fun t91 => laws_FnGroups.l7 t2 k (IntKind.i64.wrap (y89 + (IntKind.i64.wrap t91))) (IntKind.i64.wrap (y90 + 1))) else (some y89)
def laws_FnGroups.l9 (t83 : List Int × Int) (y94 : Int) : Nat → Int → Option (((Bool ⊕ Int) ⊕ Int) ⊕ Unit)
  | 0, _ => none
  | k + 1, y103 => if y103 < y94 then ((getI t83.1 y103).bind fun t104 => (getI t83.1 y94).bind fun t105 => if t104 = t105 then (some (Sum.inl (Sum.inl (Sum.inl false)))) else (laws_FnGroups.l9 t83 y94 k (IntKind.i64.wrap (y103 + 1)))) else (some (Sum.inr ()))
def laws_FnGroups.l8 (t16 : List Int × Int × Int) (t63 : List Int × Int) (y68 : List Int) (t80 : List Int × Int) (t83 : List Int × Int) : Nat → Int → Int → Option (Bool ⊕ Int)
  | 0, _, _ => none
  | k + 1, y93, y94 => if y94 < (t63.1.length : Int) then (((getI t63.1 y94).bind fun t96 => if t80.2 ≠ 0 then (some (Sum.inr (IntKind.i64.wrap (y93 - t96)))) else ((if (t83.1.length : Int) ≠ (t63.1.length : Int) then (some true) else ((getI t83.1 y94).bind fun t98 => if t98 < 0 then (some true) else ((getI t83.1 y94).bind fun t99 => if t16.2.1 < t99 then (some true) else ((getI t83.1 y94).bind fun t100 => (getI y68 t100).bind fun t101 => (getI t63.1 y94).bind fun t102 => some (decide (t101 < t102)))))).bind fun y97 => if y97 = true then (some (Sum.inl (Sum.inl false))) else ((laws_FnGroups.l9 t83 y94 k 0).bind fun s454 => match s454 with | .inl r => some r | .inr _ => some (Sum.inr (IntKind.i64.wrap (y93 - t96)))))).bind fun s450 => match s450 with | .inl r => some r | .inr y95 => laws_FnGroups.l8 t16 t63 y68 t80 t83 k y95 (IntKind.i64.wrap (y94 + 1))) else (some (Sum.inr y93))
def laws_FnGroups.f (k : Nat) (a0 : List Int) (a1 : List Int) : Option Bool := (laws_a2Long.f a0 a1).bind fun t1 => if t1 = true then (some true) else ((spec_A2Herd.f k a0).bind fun t2 => (spec_A2Order.f k a1 (t2.Names.length : Int)).bind fun t10 => (impl_FewestGroups.f k t2).bind fun t13 => (spec_FewestGroups.f k t2).bind fun t16 => (impl_GreedyGroups.f k t2 t10).bind fun t19 => (spec_GreedyGroups.f k t2 t10).bind fun t22 => (impl_AllFoes.f k t2).bind fun t25 => (spec_AllFoes.f k t2).bind fun t28 => (impl_MostPeaceful.f k t2).bind fun t31 => (spec_MostPeaceful.f k t2).bind fun t34 => (impl_CheckGroups.f k t2 t16.1).bind fun t37 => (impl_CheckGroups.f k t2 t22.1).bind fun t38 => (impl_FirstQuarrel.f k t2 t16.1).bind fun t39 => (if t13.2.2 ≠ t16.2.2 then (some true) else (if t13.2.2 ≠ 0 then (some true) else ((spec_A2Same.f k t13.1 t16.1).bind fun t41 => if (!t41) = true then (some true) else (if t13.2.1 ≠ t16.2.1 then (some true) else (if (t16.1.length : Int) ≠ (t2.Names.length : Int) then (some true) else (if t19.2 ≠ t22.2 then (some true) else (if t19.2 ≠ 0 then (some true) else ((spec_A2Same.f k t19.1 t22.1).bind fun t42 => if (!t42) = true then (some true) else (if (t22.1.length : Int) ≠ (t2.Names.length : Int) then (some true) else (if t25.2 ≠ t28.2 then (some true) else (if t25.2 ≠ 0 then (some true) else ((spec_A2Same.f k t25.1 t28.1).bind fun t43 => if (!t43) = true then (some true) else (if t31.2 ≠ t34.2 then (some true) else (if t31.2 ≠ 0 then (some true) else ((spec_A2Same.f k t31.1 t34.1).bind fun t44 => if (!t44) = true then (some true) else (if t37.2 ≠ 0 then (some true) else (if (!t37.1) = true then (some true) else (if t38.2 ≠ 0 then (some true) else (if (!t38.1) = true then (some true) else (some (decide (t39.2.2 ≠ 6)))))))))))))))))))))).bind fun y40 => if y40 = true then (some false) else ((laws_FnGroups.l1 t2 t16 t22 k (-1) (-1) 0).bind fun (y45, y46) => (if (IntKind.i64.wrap (y45 + 1)) ≠ t16.2.1 then (some true) else (if (IntKind.i64.wrap (y46 + 1)) < t16.2.1 then (some true) else (if t16.2.1 < (t28.1.length : Int) then (some true) else (if 0 < (t2.Names.length : Int) then (if (t28.1.length : Int) < 1 then (some true) else (if (IntKind.i64.wrap ((t34.1.length : Int) * t16.2.1)) < (t2.Names.length : Int) then (some true) else (some (decide ((t2.Names.length : Int) < (t34.1.length : Int)))))) else (if (IntKind.i64.wrap ((t34.1.length : Int) * t16.2.1)) < (t2.Names.length : Int) then (some true) else (some (decide ((t2.Names.length : Int) < (t34.1.length : Int))))))))).bind fun y52 => if y52 = true then (some false) else ((laws_FnGroups.l2 t2 t28 k 0).bind fun s240 => match s240 with | .inl r => some r | .inr _ => (laws_FnGroups.l4 t2 t34 k 0).bind fun s250 => match s250 with | .inl r => some r | .inr _ => (impl_NeedsOf.f k t2 t16.1).bind fun t63 => (if t63.2 ≠ 0 then (some true) else (some (decide ((t63.1.length : Int) ≠ t16.2.1)))).bind fun y66 => if y66 = true then (some false) else ((laws_FnGroups.l6 a1 t16 k ([] : List Int) 0).bind fun y68 => (impl_FitGroups.f k t2 t16.1 y68).bind fun t80 => (spec_FitGroups.f k t2 t16.1 y68).bind fun t83 => (if t80.2 ≠ t83.2 then (some true) else ((spec_A2Same.f k t80.1 t83.1).bind fun t87 => if (!t87) = true then (some true) else (if t80.2 ≠ 0 then (some (decide (t80.2 ≠ 6))) else (some false)))).bind fun y86 => if y86 = true then (some false) else ((laws_FnGroups.l7 t2 k 0 0).bind fun y88 => (laws_FnGroups.l8 t16 t63 y68 t80 t83 k y88 0).bind fun s439 => match s439 with | .inl r => some r | .inr y92 => some (decide (y92 = 0)))))))
theorem laws_FnGroups.c (k : Nat) (w : World) (Aa0 : Option Addr) (ca0 : Nat) (a0 : List Int) (hr0 : Rd (ci .u8) w Aa0 a0) (hc0 : a0.length ≤ ca0) (Aa1 : Option Addr) (ca1 : Nat) (a1 : List Int) (hr1 : Rd (ci .u8) w Aa1 a1) (hc1 : a1.length ≤ ca1) (r : Bool) (H : laws_FnGroups.f k a0 a1 = some r) :
    CV Tryz.prog 3 [.slice Aa0 a0.length ca0, .slice Aa1 a1.length ca1].toArray w fun v w' => v = .bool r ∧ Ext w w' := by
  have hS := (((St.init w no).param (ci .u8) Aa0 ca0 a0 hr0 hc0).param (ci .u8) Aa1 ca1 a1 hr1 hc1)
  unfold laws_FnGroups.f at H
  refine CV.body Tryz.func3 rfl Tryz.ntmps3 rfl ?_
  refine CJ.seq ?_
  refine CJ.region ?_
  refine OJ.pures tU_ok 1 rfl ?_
  refine OJ.nil (EJ.next ?_)
  refine CJ.seq ?_
  refine CJ.seq ?_
  refine CJ.region ?_
  refine OJ.pures tU_ok 2 rfl ?_
  obtain ⟨t1, ht1, H⟩ := pbind H
  refine OJ.callF rfl rfl rfl rfl rfl hb4 rfl (laws_a2Long.c _ Aa0 ca0 a0 (hS.rd' (i := 0) rfl) (hS.le' (i := 0) rfl) Aa1 ca1 a1 (hS.rd' (i := 1) rfl) (hS.le' (i := 1) rfl) _ ht1) ?_
  rintro _ w1 ⟨rfl, hs⟩
  replace hS := hS.grow hs
  refine OJ.nil (EJ.next ?_)
  refine CJ.cond rfl (fun hb => ?_) (fun hb => ?_)
  · replace H := pif_t hb H
    refine CJ.seq ?_
    refine CJ.region ?_
    refine OJ.pures tU_ok 1 rfl ?_
    refine OJ.nil (EJ.next ?_)
    refine CJ.ret (EJ.skR (?_))
    obtain rfl := Option.some.inj H
    exact EJ.fin rfl (.tmp rfl .nil) ⟨rfl, hS.ext⟩
  · replace H := pifb_f hb H
    refine CJ.skip (EJ.next ?_)
    refine CJ.seq ?_
    refine CJ.region ?_
    refine OJ.pures tU_ok 1 rfl ?_
    obtain ⟨t2, ht2, H⟩ := pbind H
    refine OJ.callF rfl rfl rfl rfl rfl hb5 rfl (spec_A2Herd.c k _ Aa0 ca0 a0 (hS.rd' (i := 0) rfl) (hS.le' (i := 0) rfl) _ ht2) ?_
    rintro _ w1 ⟨A3, c4, A5, c6, A7, c8, rfl, hs⟩
    replace hS := hS.addN hs
    refine OJ.ef rfl rfl rfl (Ef.alloc hS tI_ok rfl rfl ([.slice none 0 0, .slice none 0 0, .slice none 0 0]) rfl) ?_
    rintro _ w1 ⟨b9, rfl, hS⟩
    refine OJ.es rfl rfl (Es.store tI_ok hS (i := 3) (vs := [.slice A3 t2.Names.length c4, .slice A5 t2.Eats.length c6, .slice A7 t2.Foes.length c8]) rfl rfl rfl rfl rfl rfl rfl rfl (by intro u hu; simp only [List.mem_cons, List.not_mem_nil, or_false] at hu; rcases hu with rfl | rfl | rfl <;> rfl) (Nat.le_of_ble_eq_true rfl) ([.slice A3 t2.Names.length c4, .slice A5 t2.Eats.length c6, .slice A7 t2.Foes.length c8]) rfl) ?_
    intro w1 hS
    refine OJ.nil (EJ.next ?_)
    refine CJ.seq ?_
    refine CJ.region ?_
    refine OJ.st rfl rfl rfl (SR.fieldAddr tU_ok tI_ok rfl rfl rfl rfl rfl rfl) ?_
    refine OJ.st rfl rfl rfl (SR.load rfl rfl (fun w' hx => ld1 tU_ok rfl rfl (CA.ext (CA.sub (hS.cells (i := 3) rfl) 0) hx) rfl)) ?_
    refine OJ.pures tU_ok 2 rfl ?_
    refine OJ.nil (EJ.next ?_)
    refine CJ.seq ?_
    refine CJ.region ?_
    refine OJ.pures tU_ok 2 rfl ?_
    obtain ⟨t10, ht10, H⟩ := pbind H
    refine OJ.callF rfl rfl rfl rfl rfl hb6 rfl (spec_A2Order.c k _ Aa1 ca1 a1 (hS.rd' (i := 1) rfl) (hS.le' (i := 1) rfl) (t2.Names.length : Int) _ ht10) ?_
    rintro _ w1 ⟨A11, c12, rfl, hs⟩
    replace hS := hS.addN hs
    refine OJ.pures tU_ok 1 rfl ?_
    refine OJ.nil (EJ.next ?_)
    refine CJ.seq ?_
    refine CJ.region ?_
    refine OJ.st rfl rfl rfl (SR.load rfl rfl (fun w' hx => ldN tU_ok tI_ok rfl rfl rfl (CA.ext (hS.cells (i := 3) rfl) hx) (ds := [.slice A3 t2.Names.length c4, .slice A5 t2.Eats.length c6, .slice A7 t2.Foes.length c8]) rfl rfl)) ?_
    obtain ⟨t13, ht13, H⟩ := pbind H
    refine OJ.callF rfl rfl rfl rfl rfl hb7 rfl (impl_FewestGroups.c k _ A3 c4 A5 c6 A7 c8 t2 (hS.rd (i := 0) rfl) (hS.le (i := 0) rfl) (hS.rd (i := 1) rfl) (hS.le (i := 1) rfl) (hS.rd (i := 2) rfl) (hS.le (i := 2) rfl) _ ht13) ?_
    rintro _ w1 ⟨A14, c15, rfl, hs⟩
    replace hS := hS.addN hs
    have hS : St w no w1 [rowC G.cs A3 c4 9 t2.Names, rowC (ci .i16) A5 c6 45 t2.Eats, rowC (ci .u16) A7 c8 64 t2.Foes, box b9 ([.slice A3 t2.Names.length c4, .slice A5 t2.Eats.length c6, .slice A7 t2.Foes.length c8]) 28, rowC (ci .i64) A11 c12 2 t10, rowC (ci .i64) A14 c15 2 t13.1] [roC (ci .u8) Aa0 ca0 a0, roC (ci .u8) Aa1 ca1 a1] := hS
    refine OJ.pures tU_ok 7 rfl ?_
    refine OJ.nil (EJ.next ?_)
    refine CJ.seq ?_
    refine CJ.region ?_
    refine OJ.st rfl rfl rfl (SR.load rfl rfl (fun w' hx => ldN tU_ok tI_ok rfl rfl rfl (CA.ext (hS.cells (i := 3) rfl) hx) (ds := [.slice A3 t2.Names.length c4, .slice A5 t2.Eats.length c6, .slice A7 t2.Foes.length c8]) rfl rfl)) ?_
    obtain ⟨t16, ht16, H⟩ := pbind H
    refine OJ.callF rfl rfl rfl rfl rfl hb8 rfl (spec_FewestGroups.c k _ A3 c4 A5 c6 A7 c8 t2 (hS.rd (i := 0) rfl) (hS.le (i := 0) rfl) (hS.rd (i := 1) rfl) (hS.le (i := 1) rfl) (hS.rd (i := 2) rfl) (hS.le (i := 2) rfl) _ ht16) ?_
    rintro _ w1 ⟨A17, c18, rfl, hs⟩
    replace hS := hS.addN hs
    have hS : St w no w1 [rowC G.cs A3 c4 9 t2.Names, rowC (ci .i16) A5 c6 45 t2.Eats, rowC (ci .u16) A7 c8 64 t2.Foes, box b9 ([.slice A3 t2.Names.length c4, .slice A5 t2.Eats.length c6, .slice A7 t2.Foes.length c8]) 28, rowC (ci .i64) A11 c12 2 t10, rowC (ci .i64) A14 c15 2 t13.1, rowC (ci .i64) A17 c18 2 t16.1] [roC (ci .u8) Aa0 ca0 a0, roC (ci .u8) Aa1 ca1 a1] := hS
    refine OJ.pures tU_ok 7 rfl ?_
    refine OJ.nil (EJ.next ?_)
    refine CJ.seq ?_
    refine CJ.region ?_
    refine OJ.st rfl rfl rfl (SR.load rfl rfl (fun w' hx => ldN tU_ok tI_ok rfl rfl rfl (CA.ext (hS.cells (i := 3) rfl) hx) (ds := [.slice A3 t2.Names.length c4, .slice A5 t2.Eats.length c6, .slice A7 t2.Foes.length c8]) rfl rfl)) ?_
    refine OJ.pures tU_ok 1 rfl ?_
    obtain ⟨t19, ht19, H⟩ := pbind H
    refine OJ.callF rfl rfl rfl rfl rfl hb9 rfl (impl_GreedyGroups.c k _ A3 c4 A5 c6 A7 c8 t2 (hS.rd (i := 0) rfl) (hS.le (i := 0) rfl) (hS.rd (i := 1) rfl) (hS.le (i := 1) rfl) (hS.rd (i := 2) rfl) (hS.le (i := 2) rfl) A11 c12 t10 (hS.rd (i := 4) rfl) (hS.le (i := 4) rfl) _ ht19) ?_
    rintro _ w1 ⟨A20, c21, rfl, hs⟩
    replace hS := hS.addN hs
    have hS : St w no w1 [rowC G.cs A3 c4 9 t2.Names, rowC (ci .i16) A5 c6 45 t2.Eats, rowC (ci .u16) A7 c8 64 t2.Foes, box b9 ([.slice A3 t2.Names.length c4, .slice A5 t2.Eats.length c6, .slice A7 t2.Foes.length c8]) 28, rowC (ci .i64) A11 c12 2 t10, rowC (ci .i64) A14 c15 2 t13.1, rowC (ci .i64) A17 c18 2 t16.1, rowC (ci .i64) A20 c21 2 t19.1] [roC (ci .u8) Aa0 ca0 a0, roC (ci .u8) Aa1 ca1 a1] := hS
    refine OJ.pures tU_ok 5 rfl ?_
    refine OJ.nil (EJ.next ?_)
    refine CJ.seq ?_
    refine CJ.region ?_
    refine OJ.st rfl rfl rfl (SR.load rfl rfl (fun w' hx => ldN tU_ok tI_ok rfl rfl rfl (CA.ext (hS.cells (i := 3) rfl) hx) (ds := [.slice A3 t2.Names.length c4, .slice A5 t2.Eats.length c6, .slice A7 t2.Foes.length c8]) rfl rfl)) ?_
    refine OJ.pures tU_ok 1 rfl ?_
    obtain ⟨t22, ht22, H⟩ := pbind H
    refine OJ.callF rfl rfl rfl rfl rfl hb10 rfl (spec_GreedyGroups.c k _ A3 c4 A5 c6 A7 c8 t2 (hS.rd (i := 0) rfl) (hS.le (i := 0) rfl) (hS.rd (i := 1) rfl) (hS.le (i := 1) rfl) (hS.rd (i := 2) rfl) (hS.le (i := 2) rfl) A11 c12 t10 (hS.rd (i := 4) rfl) (hS.le (i := 4) rfl) _ ht22) ?_
    rintro _ w1 ⟨A23, c24, rfl, hs⟩
    replace hS := hS.addN hs
    have hS : St w no w1 [rowC G.cs A3 c4 9 t2.Names, rowC (ci .i16) A5 c6 45 t2.Eats, rowC (ci .u16) A7 c8 64 t2.Foes, box b9 ([.slice A3 t2.Names.length c4, .slice A5 t2.Eats.length c6, .slice A7 t2.Foes.length c8]) 28, rowC (ci .i64) A11 c12 2 t10, rowC (ci .i64) A14 c15 2 t13.1, rowC (ci .i64) A17 c18 2 t16.1, rowC (ci .i64) A20 c21 2 t19.1, rowC (ci .i64) A23 c24 2 t22.1] [roC (ci .u8) Aa0 ca0 a0, roC (ci .u8) Aa1 ca1 a1] := hS
    refine OJ.pures tU_ok 5 rfl ?_
    refine OJ.nil (EJ.next ?_)
    refine CJ.seq ?_
    refine CJ.region ?_
    refine OJ.st rfl rfl rfl (SR.load rfl rfl (fun w' hx => ldN tU_ok tI_ok rfl rfl rfl (CA.ext (hS.cells (i := 3) rfl) hx) (ds := [.slice A3 t2.Names.length c4, .slice A5 t2.Eats.length c6, .slice A7 t2.Foes.length c8]) rfl rfl)) ?_
    obtain ⟨t25, ht25, H⟩ := pbind H
    refine OJ.callF rfl rfl rfl rfl rfl hb11 rfl (impl_AllFoes.c k _ A3 c4 A5 c6 A7 c8 t2 (hS.rd (i := 0) rfl) (hS.le (i := 0) rfl) (hS.rd (i := 1) rfl) (hS.le (i := 1) rfl) (hS.rd (i := 2) rfl) (hS.le (i := 2) rfl) _ ht25) ?_
    rintro _ w1 ⟨A26, c27, rfl, hs⟩
    replace hS := hS.addN hs
    have hS : St w no w1 [rowC G.cs A3 c4 9 t2.Names, rowC (ci .i16) A5 c6 45 t2.Eats, rowC (ci .u16) A7 c8 64 t2.Foes, box b9 ([.slice A3 t2.Names.length c4, .slice A5 t2.Eats.length c6, .slice A7 t2.Foes.length c8]) 28, rowC (ci .i64) A11 c12 2 t10, rowC (ci .i64) A14 c15 2 t13.1, rowC (ci .i64) A17 c18 2 t16.1, rowC (ci .i64) A20 c21 2 t19.1, rowC (ci .i64) A23 c24 2 t22.1, rowC (ci .i64) A26 c27 2 t25.1] [roC (ci .u8) Aa0 ca0 a0, roC (ci .u8) Aa1 ca1 a1] := hS
    refine OJ.pures tU_ok 5 rfl ?_
    refine OJ.nil (EJ.next ?_)
    refine CJ.seq ?_
    refine CJ.region ?_
    refine OJ.st rfl rfl rfl (SR.load rfl rfl (fun w' hx => ldN tU_ok tI_ok rfl rfl rfl (CA.ext (hS.cells (i := 3) rfl) hx) (ds := [.slice A3 t2.Names.length c4, .slice A5 t2.Eats.length c6, .slice A7 t2.Foes.length c8]) rfl rfl)) ?_
    obtain ⟨t28, ht28, H⟩ := pbind H
    refine OJ.callF rfl rfl rfl rfl rfl hb12 rfl (spec_AllFoes.c k _ A3 c4 A5 c6 A7 c8 t2 (hS.rd (i := 0) rfl) (hS.le (i := 0) rfl) (hS.rd (i := 1) rfl) (hS.le (i := 1) rfl) (hS.rd (i := 2) rfl) (hS.le (i := 2) rfl) _ ht28) ?_
    rintro _ w1 ⟨A29, c30, rfl, hs⟩
    replace hS := hS.addN hs
    have hS : St w no w1 [rowC G.cs A3 c4 9 t2.Names, rowC (ci .i16) A5 c6 45 t2.Eats, rowC (ci .u16) A7 c8 64 t2.Foes, box b9 ([.slice A3 t2.Names.length c4, .slice A5 t2.Eats.length c6, .slice A7 t2.Foes.length c8]) 28, rowC (ci .i64) A11 c12 2 t10, rowC (ci .i64) A14 c15 2 t13.1, rowC (ci .i64) A17 c18 2 t16.1, rowC (ci .i64) A20 c21 2 t19.1, rowC (ci .i64) A23 c24 2 t22.1, rowC (ci .i64) A26 c27 2 t25.1, rowC (ci .i64) A29 c30 2 t28.1] [roC (ci .u8) Aa0 ca0 a0, roC (ci .u8) Aa1 ca1 a1] := hS
    refine OJ.pures tU_ok 5 rfl ?_
    refine OJ.nil (EJ.next ?_)
    refine CJ.seq ?_
    refine CJ.region ?_
    refine OJ.st rfl rfl rfl (SR.load rfl rfl (fun w' hx => ldN tU_ok tI_ok rfl rfl rfl (CA.ext (hS.cells (i := 3) rfl) hx) (ds := [.slice A3 t2.Names.length c4, .slice A5 t2.Eats.length c6, .slice A7 t2.Foes.length c8]) rfl rfl)) ?_
    obtain ⟨t31, ht31, H⟩ := pbind H
    refine OJ.callF rfl rfl rfl rfl rfl hb13 rfl (impl_MostPeaceful.c k _ A3 c4 A5 c6 A7 c8 t2 (hS.rd (i := 0) rfl) (hS.le (i := 0) rfl) (hS.rd (i := 1) rfl) (hS.le (i := 1) rfl) (hS.rd (i := 2) rfl) (hS.le (i := 2) rfl) _ ht31) ?_
    rintro _ w1 ⟨A32, c33, rfl, hs⟩
    replace hS := hS.addN hs
    have hS : St w no w1 [rowC G.cs A3 c4 9 t2.Names, rowC (ci .i16) A5 c6 45 t2.Eats, rowC (ci .u16) A7 c8 64 t2.Foes, box b9 ([.slice A3 t2.Names.length c4, .slice A5 t2.Eats.length c6, .slice A7 t2.Foes.length c8]) 28, rowC (ci .i64) A11 c12 2 t10, rowC (ci .i64) A14 c15 2 t13.1, rowC (ci .i64) A17 c18 2 t16.1, rowC (ci .i64) A20 c21 2 t19.1, rowC (ci .i64) A23 c24 2 t22.1, rowC (ci .i64) A26 c27 2 t25.1, rowC (ci .i64) A29 c30 2 t28.1, rowC (ci .i64) A32 c33 2 t31.1] [roC (ci .u8) Aa0 ca0 a0, roC (ci .u8) Aa1 ca1 a1] := hS
    refine OJ.pures tU_ok 5 rfl ?_
    refine OJ.nil (EJ.next ?_)
    refine CJ.seq ?_
    refine CJ.region ?_
    refine OJ.st rfl rfl rfl (SR.load rfl rfl (fun w' hx => ldN tU_ok tI_ok rfl rfl rfl (CA.ext (hS.cells (i := 3) rfl) hx) (ds := [.slice A3 t2.Names.length c4, .slice A5 t2.Eats.length c6, .slice A7 t2.Foes.length c8]) rfl rfl)) ?_
    obtain ⟨t34, ht34, H⟩ := pbind H
    refine OJ.callF rfl rfl rfl rfl rfl hb14 rfl (spec_MostPeaceful.c k _ A3 c4 A5 c6 A7 c8 t2 (hS.rd (i := 0) rfl) (hS.le (i := 0) rfl) (hS.rd (i := 1) rfl) (hS.le (i := 1) rfl) (hS.rd (i := 2) rfl) (hS.le (i := 2) rfl) _ ht34) ?_
    rintro _ w1 ⟨A35, c36, rfl, hs⟩
    replace hS := hS.addN hs
    have hS : St w no w1 [rowC G.cs A3 c4 9 t2.Names, rowC (ci .i16) A5 c6 45 t2.Eats, rowC (ci .u16) A7 c8 64 t2.Foes, box b9 ([.slice A3 t2.Names.length c4, .slice A5 t2.Eats.length c6, .slice A7 t2.Foes.length c8]) 28, rowC (ci .i64) A11 c12 2 t10, rowC (ci .i64) A14 c15 2 t13.1, rowC (ci .i64) A17 c18 2 t16.1, rowC (ci .i64) A20 c21 2 t19.1, rowC (ci .i64) A23 c24 2 t22.1, rowC (ci .i64) A26 c27 2 t25.1, rowC (ci .i64) A29 c30 2 t28.1, rowC (ci .i64) A32 c33 2 t31.1, rowC (ci .i64) A35 c36 2 t34.1] [roC (ci .u8) Aa0 ca0 a0, roC (ci .u8) Aa1 ca1 a1] := hS
    refine OJ.pures tU_ok 5 rfl ?_
    refine OJ.nil (EJ.next ?_)
    refine CJ.seq ?_
    refine CJ.region ?_
    refine OJ.st rfl rfl rfl (SR.load rfl rfl (fun w' hx => ldN tU_ok tI_ok rfl rfl rfl (CA.ext (hS.cells (i := 3) rfl) hx) (ds := [.slice A3 t2.Names.length c4, .slice A5 t2.Eats.length c6, .slice A7 t2.Foes.length c8]) rfl rfl)) ?_
    refine OJ.pures tU_ok 1 rfl ?_
    obtain ⟨t37, ht37, H⟩ := pbind H
    refine OJ.callF rfl rfl rfl rfl rfl hb15 rfl (impl_CheckGroups.c k _ A3 c4 A5 c6 A7 c8 t2 (hS.rd (i := 0) rfl) (hS.le (i := 0) rfl) (hS.rd (i := 1) rfl) (hS.le (i := 1) rfl) (hS.rd (i := 2) rfl) (hS.le (i := 2) rfl) A17 c18 t16.1 (hS.rd (i := 6) rfl) (hS.le (i := 6) rfl) _ ht37) ?_
    rintro _ w1 ⟨rfl, hs⟩
    replace hS := hS.grow hs
    refine OJ.pures tU_ok 5 rfl ?_
    refine OJ.nil (EJ.next ?_)
    refine CJ.seq ?_
    refine CJ.region ?_
    refine OJ.st rfl rfl rfl (SR.load rfl rfl (fun w' hx => ldN tU_ok tI_ok rfl rfl rfl (CA.ext (hS.cells (i := 3) rfl) hx) (ds := [.slice A3 t2.Names.length c4, .slice A5 t2.Eats.length c6, .slice A7 t2.Foes.length c8]) rfl rfl)) ?_
    refine OJ.pures tU_ok 1 rfl ?_
    obtain ⟨t38, ht38, H⟩ := pbind H
    refine OJ.callF rfl rfl rfl rfl rfl hb15 rfl (impl_CheckGroups.c k _ A3 c4 A5 c6 A7 c8 t2 (hS.rd (i := 0) rfl) (hS.le (i := 0) rfl) (hS.rd (i := 1) rfl) (hS.le (i := 1) rfl) (hS.rd (i := 2) rfl) (hS.le (i := 2) rfl) A23 c24 t22.1 (hS.rd (i := 8) rfl) (hS.le (i := 8) rfl) _ ht38) ?_
    rintro _ w1 ⟨rfl, hs⟩
    replace hS := hS.grow hs
    refine OJ.pures tU_ok 5 rfl ?_
    refine OJ.nil (EJ.next ?_)
    refine CJ.seq ?_
    refine CJ.region ?_
    refine OJ.st rfl rfl rfl (SR.load rfl rfl (fun w' hx => ldN tU_ok tI_ok rfl rfl rfl (CA.ext (hS.cells (i := 3) rfl) hx) (ds := [.slice A3 t2.Names.length c4, .slice A5 t2.Eats.length c6, .slice A7 t2.Foes.length c8]) rfl rfl)) ?_
    refine OJ.pures tU_ok 1 rfl ?_
    obtain ⟨t39, ht39, H⟩ := pbind H
    refine OJ.callF rfl rfl rfl rfl rfl hb16 rfl (impl_FirstQuarrel.c k _ A3 c4 A5 c6 A7 c8 t2 (hS.rd (i := 0) rfl) (hS.le (i := 0) rfl) (hS.rd (i := 1) rfl) (hS.le (i := 1) rfl) (hS.rd (i := 2) rfl) (hS.le (i := 2) rfl) A17 c18 t16.1 (hS.rd (i := 6) rfl) (hS.le (i := 6) rfl) _ ht39) ?_
    rintro _ w1 ⟨rfl, hs⟩
    replace hS := hS.grow hs
    refine OJ.pures tU_ok 7 rfl ?_
    refine OJ.nil (EJ.next ?_)
    refine CJ.seq ?_
    obtain ⟨j236, H, K236⟩ := pbind H
    refine CJ.cut (fun F w1 => ∃ (y40 : Bool) , (some y40 : Option Bool) = some j236 ∧ F = [(1, .slice Aa1 a1.length ca1), (5, .pointer (some ⟨b9, 0, none⟩)), (6, .int .i64 (t2.Names.length : Int)), (11, .slice A17 t16.1.length c18), (12, .int .i64 t16.2.1), (16, .slice A23 t22.1.length c24), (20, .slice A29 t28.1.length c30), (24, .slice A35 t34.1.length c36), (224, .bool y40)] ∧ St w no w1 [rowC G.cs A3 c4 9 t2.Names, rowC (ci .i16) A5 c6 45 t2.Eats, rowC (ci .u16) A7 c8 64 t2.Foes, box b9 ([.slice A3 t2.Names.length c4, .slice A5 t2.Eats.length c6, .slice A7 t2.Foes.length c8]) 28, rowC (ci .i64) A17 c18 2 t16.1, rowC (ci .i64) A23 c24 2 t22.1, rowC (ci .i64) A29 c30 2 t28.1, rowC (ci .i64) A35 c36 2 t34.1] [roC (ci .u8) Aa0 ca0 a0, roC (ci .u8) Aa1 ca1 a1]) ?_ ?_
    · skip
      refine CJ.region ?_
      refine OJ.pures tU_ok 4 rfl ?_
      refine OJ.split (t := 133) rfl (fun hb => ?_) (fun hb => ?_)
      · replace H := pif_t (of_decide_eq_true hb) H
        refine OJ.pures tU_ok 91 rfl ?_
        refine OJ.nil ?_
        exact EJ.meet (F' := [(1, .slice Aa1 a1.length ca1), (5, .pointer (some ⟨b9, 0, none⟩)), (6, .int .i64 (t2.Names.length : Int)), (11, .slice A17 t16.1.length c18), (12, .int .i64 t16.2.1), (16, .slice A23 t22.1.length c24), (20, .slice A29 t28.1.length c30), (24, .slice A35 t34.1.length c36), (224, .bool true)]) ⟨rfl, rfl, rfl, rfl, rfl, rfl, rfl, rfl, rfl, trivial⟩ ⟨true, H, rfl, hS.pick [0, 1, 2, 3, 6, 8, 10, 12] [0, 1] rfl⟩
      · replace H := pif_f (of_decide_eq_false hb) H
        refine OJ.pures tU_ok 4 rfl ?_
        refine OJ.split (t := 137) rfl (fun hb => ?_) (fun hb => ?_)
        · replace H := pif_t (of_decide_eq_true hb) H
          refine OJ.pures tU_ok 87 rfl ?_
          refine OJ.nil ?_
          exact EJ.meet (F' := [(1, .slice Aa1 a1.length ca1), (5, .pointer (some ⟨b9, 0, none⟩)), (6, .int .i64 (t2.Names.length : Int)), (11, .slice A17 t16.1.length c18), (12, .int .i64 t16.2.1), (16, .slice A23 t22.1.length c24), (20, .slice A29 t28.1.length c30), (24, .slice A35 t34.1.length c36), (224, .bool true)]) ⟨rfl, rfl, rfl, rfl, rfl, rfl, rfl, rfl, rfl, trivial⟩ ⟨true, H, rfl, hS.pick [0, 1, 2, 3, 6, 8, 10, 12] [0, 1] rfl⟩
        · replace H := pif_f (of_decide_eq_false hb) H
          refine OJ.pures tU_ok 2 rfl ?_
          obtain ⟨t41, ht41, H⟩ := pbind H
          refine OJ.callF rfl rfl rfl rfl rfl hb17 rfl (spec_A2Same.c k _ A14 c15 t13.1 (hS.rd (i := 5) rfl) (hS.le (i := 5) rfl) A17 c18 t16.1 (hS.rd (i := 6) rfl) (hS.le (i := 6) rfl) _ ht41) ?_
          rintro _ w1 ⟨rfl, hs⟩
          replace hS := hS.grow hs
          refine OJ.pures tU_ok 3 rfl ?_
          refine OJ.split (t := 143) rfl (fun hb => ?_) (fun hb => ?_)
          · replace H := pif_t hb H
            refine OJ.pures tU_ok 81 rfl ?_
            refine OJ.nil ?_
            exact EJ.meet (F' := [(1, .slice Aa1 a1.length ca1), (5, .pointer (some ⟨b9, 0, none⟩)), (6, .int .i64 (t2.Names.length : Int)), (11, .slice A17 t16.1.length c18), (12, .int .i64 t16.2.1), (16, .slice A23 t22.1.length c24), (20, .slice A29 t28.1.length c30), (24, .slice A35 t34.1.length c36), (224, .bool true)]) ⟨rfl, rfl, rfl, rfl, rfl, rfl, rfl, rfl, rfl, trivial⟩ ⟨true, H, rfl, hS.pick [0, 1, 2, 3, 6, 8, 10, 12] [0, 1] rfl⟩
          · replace H := pifb_f hb H
            refine OJ.pures tU_ok 5 rfl ?_
            refine OJ.split (t := 148) rfl (fun hb => ?_) (fun hb => ?_)
            · replace H := pif_t (of_decide_eq_true hb) H
              refine OJ.pures tU_ok 76 rfl ?_
              refine OJ.nil ?_
              exact EJ.meet (F' := [(1, .slice Aa1 a1.length ca1), (5, .pointer (some ⟨b9, 0, none⟩)), (6, .int .i64 (t2.Names.length : Int)), (11, .slice A17 t16.1.length c18), (12, .int .i64 t16.2.1), (16, .slice A23 t22.1.length c24), (20, .slice A29 t28.1.length c30), (24, .slice A35 t34.1.length c36), (224, .bool true)]) ⟨rfl, rfl, rfl, rfl, rfl, rfl, rfl, rfl, rfl, trivial⟩ ⟨true, H, rfl, hS.pick [0, 1, 2, 3, 6, 8, 10, 12] [0, 1] rfl⟩
            · replace H := pif_f (of_decide_eq_false hb) H
              refine OJ.pures tU_ok 6 rfl ?_
              refine OJ.split (t := 154) rfl (fun hb => ?_) (fun hb => ?_)
              · replace H := pif_t (of_decide_eq_true hb) H
                refine OJ.pures tU_ok 70 rfl ?_
                refine OJ.nil ?_
                exact EJ.meet (F' := [(1, .slice Aa1 a1.length ca1), (5, .pointer (some ⟨b9, 0, none⟩)), (6, .int .i64 (t2.Names.length : Int)), (11, .slice A17 t16.1.length c18), (12, .int .i64 t16.2.1), (16, .slice A23 t22.1.length c24), (20, .slice A29 t28.1.length c30), (24, .slice A35 t34.1.length c36), (224, .bool true)]) ⟨rfl, rfl, rfl, rfl, rfl, rfl, rfl, rfl, rfl, trivial⟩ ⟨true, H, rfl, hS.pick [0, 1, 2, 3, 6, 8, 10, 12] [0, 1] rfl⟩
              · replace H := pif_f (of_decide_eq_false hb) H
                refine OJ.pures tU_ok 5 rfl ?_
                refine OJ.split (t := 159) rfl (fun hb => ?_) (fun hb => ?_)
                · replace H := pif_t (of_decide_eq_true hb) H
                  refine OJ.pures tU_ok 65 rfl ?_
                  refine OJ.nil ?_
                  exact EJ.meet (F' := [(1, .slice Aa1 a1.length ca1), (5, .pointer (some ⟨b9, 0, none⟩)), (6, .int .i64 (t2.Names.length : Int)), (11, .slice A17 t16.1.length c18), (12, .int .i64 t16.2.1), (16, .slice A23 t22.1.length c24), (20, .slice A29 t28.1.length c30), (24, .slice A35 t34.1.length c36), (224, .bool true)]) ⟨rfl, rfl, rfl, rfl, rfl, rfl, rfl, rfl, rfl, trivial⟩ ⟨true, H, rfl, hS.pick [0, 1, 2, 3, 6, 8, 10, 12] [0, 1] rfl⟩
                · replace H := pif_f (of_decide_eq_false hb) H
                  refine OJ.pures tU_ok 4 rfl ?_
                  refine OJ.split (t := 163) rfl (fun hb => ?_) (fun hb => ?_)
                  · replace H := pif_t (of_decide_eq_true hb) H
                    refine OJ.pures tU_ok 61 rfl ?_
                    refine OJ.nil ?_
                    exact EJ.meet (F' := [(1, .slice Aa1 a1.length ca1), (5, .pointer (some ⟨b9, 0, none⟩)), (6, .int .i64 (t2.Names.length : Int)), (11, .slice A17 t16.1.length c18), (12, .int .i64 t16.2.1), (16, .slice A23 t22.1.length c24), (20, .slice A29 t28.1.length c30), (24, .slice A35 t34.1.length c36), (224, .bool true)]) ⟨rfl, rfl, rfl, rfl, rfl, rfl, rfl, rfl, rfl, trivial⟩ ⟨true, H, rfl, hS.pick [0, 1, 2, 3, 6, 8, 10, 12] [0, 1] rfl⟩
                  · replace H := pif_f (of_decide_eq_false hb) H
                    refine OJ.pures tU_ok 2 rfl ?_
                    obtain ⟨t42, ht42, H⟩ := pbind H
                    refine OJ.callF rfl rfl rfl rfl rfl hb17 rfl (spec_A2Same.c k _ A20 c21 t19.1 (hS.rd (i := 7) rfl) (hS.le (i := 7) rfl) A23 c24 t22.1 (hS.rd (i := 8) rfl) (hS.le (i := 8) rfl) _ ht42) ?_
                    rintro _ w1 ⟨rfl, hs⟩
                    replace hS := hS.grow hs
                    refine OJ.pures tU_ok 3 rfl ?_
                    refine OJ.split (t := 169) rfl (fun hb => ?_) (fun hb => ?_)
                    · replace H := pif_t hb H
                      refine OJ.pures tU_ok 55 rfl ?_
                      refine OJ.nil ?_
                      exact EJ.meet (F' := [(1, .slice Aa1 a1.length ca1), (5, .pointer (some ⟨b9, 0, none⟩)), (6, .int .i64 (t2.Names.length : Int)), (11, .slice A17 t16.1.length c18), (12, .int .i64 t16.2.1), (16, .slice A23 t22.1.length c24), (20, .slice A29 t28.1.length c30), (24, .slice A35 t34.1.length c36), (224, .bool true)]) ⟨rfl, rfl, rfl, rfl, rfl, rfl, rfl, rfl, rfl, trivial⟩ ⟨true, H, rfl, hS.pick [0, 1, 2, 3, 6, 8, 10, 12] [0, 1] rfl⟩
                    · replace H := pifb_f hb H
                      refine OJ.pures tU_ok 6 rfl ?_
                      refine OJ.split (t := 175) rfl (fun hb => ?_) (fun hb => ?_)
                      · replace H := pif_t (of_decide_eq_true hb) H
                        refine OJ.pures tU_ok 49 rfl ?_
                        refine OJ.nil ?_
                        exact EJ.meet (F' := [(1, .slice Aa1 a1.length ca1), (5, .pointer (some ⟨b9, 0, none⟩)), (6, .int .i64 (t2.Names.length : Int)), (11, .slice A17 t16.1.length c18), (12, .int .i64 t16.2.1), (16, .slice A23 t22.1.length c24), (20, .slice A29 t28.1.length c30), (24, .slice A35 t34.1.length c36), (224, .bool true)]) ⟨rfl, rfl, rfl, rfl, rfl, rfl, rfl, rfl, rfl, trivial⟩ ⟨true, H, rfl, hS.pick [0, 1, 2, 3, 6, 8, 10, 12] [0, 1] rfl⟩
                      · replace H := pif_f (of_decide_eq_false hb) H
                        refine OJ.pures tU_ok 5 rfl ?_
                        refine OJ.split (t := 180) rfl (fun hb => ?_) (fun hb => ?_)
                        · replace H := pif_t (of_decide_eq_true hb) H
                          refine OJ.pures tU_ok 44 rfl ?_
                          refine OJ.nil ?_
                          exact EJ.meet (F' := [(1, .slice Aa1 a1.length ca1), (5, .pointer (some ⟨b9, 0, none⟩)), (6, .int .i64 (t2.Names.length : Int)), (11, .slice A17 t16.1.length c18), (12, .int .i64 t16.2.1), (16, .slice A23 t22.1.length c24), (20, .slice A29 t28.1.length c30), (24, .slice A35 t34.1.length c36), (224, .bool true)]) ⟨rfl, rfl, rfl, rfl, rfl, rfl, rfl, rfl, rfl, trivial⟩ ⟨true, H, rfl, hS.pick [0, 1, 2, 3, 6, 8, 10, 12] [0, 1] rfl⟩
                        · replace H := pif_f (of_decide_eq_false hb) H
                          refine OJ.pures tU_ok 4 rfl ?_
                          refine OJ.split (t := 184) rfl (fun hb => ?_) (fun hb => ?_)
                          · replace H := pif_t (of_decide_eq_true hb) H
                            refine OJ.pures tU_ok 40 rfl ?_
                            refine OJ.nil ?_
                            exact EJ.meet (F' := [(1, .slice Aa1 a1.length ca1), (5, .pointer (some ⟨b9, 0, none⟩)), (6, .int .i64 (t2.Names.length : Int)), (11, .slice A17 t16.1.length c18), (12, .int .i64 t16.2.1), (16, .slice A23 t22.1.length c24), (20, .slice A29 t28.1.length c30), (24, .slice A35 t34.1.length c36), (224, .bool true)]) ⟨rfl, rfl, rfl, rfl, rfl, rfl, rfl, rfl, rfl, trivial⟩ ⟨true, H, rfl, hS.pick [0, 1, 2, 3, 6, 8, 10, 12] [0, 1] rfl⟩
                          · replace H := pif_f (of_decide_eq_false hb) H
                            refine OJ.pures tU_ok 2 rfl ?_
                            obtain ⟨t43, ht43, H⟩ := pbind H
                            refine OJ.callF rfl rfl rfl rfl rfl hb17 rfl (spec_A2Same.c k _ A26 c27 t25.1 (hS.rd (i := 9) rfl) (hS.le (i := 9) rfl) A29 c30 t28.1 (hS.rd (i := 10) rfl) (hS.le (i := 10) rfl) _ ht43) ?_
                            rintro _ w1 ⟨rfl, hs⟩
                            replace hS := hS.grow hs
                            refine OJ.pures tU_ok 3 rfl ?_
                            refine OJ.split (t := 190) rfl (fun hb => ?_) (fun hb => ?_)
                            · replace H := pif_t hb H
                              refine OJ.pures tU_ok 34 rfl ?_
                              refine OJ.nil ?_
                              exact EJ.meet (F' := [(1, .slice Aa1 a1.length ca1), (5, .pointer (some ⟨b9, 0, none⟩)), (6, .int .i64 (t2.Names.length : Int)), (11, .slice A17 t16.1.length c18), (12, .int .i64 t16.2.1), (16, .slice A23 t22.1.length c24), (20, .slice A29 t28.1.length c30), (24, .slice A35 t34.1.length c36), (224, .bool true)]) ⟨rfl, rfl, rfl, rfl, rfl, rfl, rfl, rfl, rfl, trivial⟩ ⟨true, H, rfl, hS.pick [0, 1, 2, 3, 6, 8, 10, 12] [0, 1] rfl⟩
                            · replace H := pifb_f hb H
                              refine OJ.pures tU_ok 5 rfl ?_
                              refine OJ.split (t := 195) rfl (fun hb => ?_) (fun hb => ?_)
                              · replace H := pif_t (of_decide_eq_true hb) H
                                refine OJ.pures tU_ok 29 rfl ?_
                                refine OJ.nil ?_
                                exact EJ.meet (F' := [(1, .slice Aa1 a1.length ca1), (5, .pointer (some ⟨b9, 0, none⟩)), (6, .int .i64 (t2.Names.length : Int)), (11, .slice A17 t16.1.length c18), (12, .int .i64 t16.2.1), (16, .slice A23 t22.1.length c24), (20, .slice A29 t28.1.length c30), (24, .slice A35 t34.1.length c36), (224, .bool true)]) ⟨rfl, rfl, rfl, rfl, rfl, rfl, rfl, rfl, rfl, trivial⟩ ⟨true, H, rfl, hS.pick [0, 1, 2, 3, 6, 8, 10, 12] [0, 1] rfl⟩
                              · replace H := pif_f (of_decide_eq_false hb) H
                                refine OJ.pures tU_ok 4 rfl ?_
                                refine OJ.split (t := 199) rfl (fun hb => ?_) (fun hb => ?_)
                                · replace H := pif_t (of_decide_eq_true hb) H
                                  refine OJ.pures tU_ok 25 rfl ?_
                                  refine OJ.nil ?_
                                  exact EJ.meet (F' := [(1, .slice Aa1 a1.length ca1), (5, .pointer (some ⟨b9, 0, none⟩)), (6, .int .i64 (t2.Names.length : Int)), (11, .slice A17 t16.1.length c18), (12, .int .i64 t16.2.1), (16, .slice A23 t22.1.length c24), (20, .slice A29 t28.1.length c30), (24, .slice A35 t34.1.length c36), (224, .bool true)]) ⟨rfl, rfl, rfl, rfl, rfl, rfl, rfl, rfl, rfl, trivial⟩ ⟨true, H, rfl, hS.pick [0, 1, 2, 3, 6, 8, 10, 12] [0, 1] rfl⟩
                                · replace H := pif_f (of_decide_eq_false hb) H
                                  refine OJ.pures tU_ok 2 rfl ?_
                                  obtain ⟨t44, ht44, H⟩ := pbind H
                                  refine OJ.callF rfl rfl rfl rfl rfl hb17 rfl (spec_A2Same.c k _ A32 c33 t31.1 (hS.rd (i := 11) rfl) (hS.le (i := 11) rfl) A35 c36 t34.1 (hS.rd (i := 12) rfl) (hS.le (i := 12) rfl) _ ht44) ?_
                                  rintro _ w1 ⟨rfl, hs⟩
                                  replace hS := hS.grow hs
                                  refine OJ.pures tU_ok 3 rfl ?_
                                  refine OJ.split (t := 205) rfl (fun hb => ?_) (fun hb => ?_)
                                  · replace H := pif_t hb H
                                    refine OJ.pures tU_ok 19 rfl ?_
                                    refine OJ.nil ?_
                                    exact EJ.meet (F' := [(1, .slice Aa1 a1.length ca1), (5, .pointer (some ⟨b9, 0, none⟩)), (6, .int .i64 (t2.Names.length : Int)), (11, .slice A17 t16.1.length c18), (12, .int .i64 t16.2.1), (16, .slice A23 t22.1.length c24), (20, .slice A29 t28.1.length c30), (24, .slice A35 t34.1.length c36), (224, .bool true)]) ⟨rfl, rfl, rfl, rfl, rfl, rfl, rfl, rfl, rfl, trivial⟩ ⟨true, H, rfl, hS.pick [0, 1, 2, 3, 6, 8, 10, 12] [0, 1] rfl⟩
                                  · replace H := pifb_f hb H
                                    refine OJ.pures tU_ok 4 rfl ?_
                                    refine OJ.split (t := 209) rfl (fun hb => ?_) (fun hb => ?_)
                                    · replace H := pif_t (of_decide_eq_true hb) H
                                      refine OJ.pures tU_ok 15 rfl ?_
                                      refine OJ.nil ?_
                                      exact EJ.meet (F' := [(1, .slice Aa1 a1.length ca1), (5, .pointer (some ⟨b9, 0, none⟩)), (6, .int .i64 (t2.Names.length : Int)), (11, .slice A17 t16.1.length c18), (12, .int .i64 t16.2.1), (16, .slice A23 t22.1.length c24), (20, .slice A29 t28.1.length c30), (24, .slice A35 t34.1.length c36), (224, .bool true)]) ⟨rfl, rfl, rfl, rfl, rfl, rfl, rfl, rfl, rfl, trivial⟩ ⟨true, H, rfl, hS.pick [0, 1, 2, 3, 6, 8, 10, 12] [0, 1] rfl⟩
                                    · replace H := pif_f (of_decide_eq_false hb) H
                                      refine OJ.pures tU_ok 4 rfl ?_
                                      refine OJ.split (t := 213) rfl (fun hb => ?_) (fun hb => ?_)
                                      · replace H := pif_t hb H
                                        refine OJ.pures tU_ok 11 rfl ?_
                                        refine OJ.nil ?_
                                        exact EJ.meet (F' := [(1, .slice Aa1 a1.length ca1), (5, .pointer (some ⟨b9, 0, none⟩)), (6, .int .i64 (t2.Names.length : Int)), (11, .slice A17 t16.1.length c18), (12, .int .i64 t16.2.1), (16, .slice A23 t22.1.length c24), (20, .slice A29 t28.1.length c30), (24, .slice A35 t34.1.length c36), (224, .bool true)]) ⟨rfl, rfl, rfl, rfl, rfl, rfl, rfl, rfl, rfl, trivial⟩ ⟨true, H, rfl, hS.pick [0, 1, 2, 3, 6, 8, 10, 12] [0, 1] rfl⟩
                                      · replace H := pifb_f hb H
                                        refine OJ.pures tU_ok 4 rfl ?_
                                        refine OJ.split (t := 217) rfl (fun hb => ?_) (fun hb => ?_)
                                        · replace H := pif_t (of_decide_eq_true hb) H
                                          refine OJ.pures tU_ok 7 rfl ?_
                                          refine OJ.nil ?_
                                          exact EJ.meet (F' := [(1, .slice Aa1 a1.length ca1), (5, .pointer (some ⟨b9, 0, none⟩)), (6, .int .i64 (t2.Names.length : Int)), (11, .slice A17 t16.1.length c18), (12, .int .i64 t16.2.1), (16, .slice A23 t22.1.length c24), (20, .slice A29 t28.1.length c30), (24, .slice A35 t34.1.length c36), (224, .bool true)]) ⟨rfl, rfl, rfl, rfl, rfl, rfl, rfl, rfl, rfl, trivial⟩ ⟨true, H, rfl, hS.pick [0, 1, 2, 3, 6, 8, 10, 12] [0, 1] rfl⟩
                                        · replace H := pif_f (of_decide_eq_false hb) H
                                          refine OJ.pures tU_ok 4 rfl ?_
                                          refine OJ.split (t := 221) rfl (fun hb => ?_) (fun hb => ?_)
                                          · replace H := pif_t hb H
                                            refine OJ.pures tU_ok 3 rfl ?_
                                            refine OJ.nil ?_
                                            exact EJ.meet (F' := [(1, .slice Aa1 a1.length ca1), (5, .pointer (some ⟨b9, 0, none⟩)), (6, .int .i64 (t2.Names.length : Int)), (11, .slice A17 t16.1.length c18), (12, .int .i64 t16.2.1), (16, .slice A23 t22.1.length c24), (20, .slice A29 t28.1.length c30), (24, .slice A35 t34.1.length c36), (224, .bool true)]) ⟨rfl, rfl, rfl, rfl, rfl, rfl, rfl, rfl, rfl, trivial⟩ ⟨true, H, rfl, hS.pick [0, 1, 2, 3, 6, 8, 10, 12] [0, 1] rfl⟩
                                          · replace H := pifb_f hb H
                                            refine OJ.pures tU_ok 3 rfl ?_
                                            refine OJ.nil ?_
                                            exact EJ.meet (F' := [(1, .slice Aa1 a1.length ca1), (5, .pointer (some ⟨b9, 0, none⟩)), (6, .int .i64 (t2.Names.length : Int)), (11, .slice A17 t16.1.length c18), (12, .int .i64 t16.2.1), (16, .slice A23 t22.1.length c24), (20, .slice A29 t28.1.length c30), (24, .slice A35 t34.1.length c36), (224, .bool (decide (t39.2.2 ≠ 6)))]) ⟨rfl, rfl, rfl, rfl, rfl, rfl, rfl, rfl, rfl, trivial⟩ ⟨(decide (t39.2.2 ≠ 6)), H, rfl, hS.pick [0, 1, 2, 3, 6, 8, 10, 12] [0, 1] rfl⟩
    · rintro F w1 ⟨y40, he, rfl, hS⟩
      obtain rfl := Option.some.inj he
      have H := K236
      refine CJ.cond rfl (fun hb => ?_) (fun hb => ?_)
      · replace H := pif_t hb H
        refine CJ.seq ?_
        refine CJ.region ?_
        refine OJ.pures tU_ok 1 rfl ?_
        refine OJ.nil (EJ.next ?_)
        refine CJ.ret (EJ.skR (?_))
        obtain rfl := Option.some.inj H
        exact EJ.fin rfl (.tmp rfl .nil) ⟨rfl, hS.ext⟩
      · replace H := pifb_f hb H
        refine CJ.skip (EJ.next ?_)
        refine CJ.seq ?_
        refine CJ.region ?_
        refine OJ.pures tU_ok 1 rfl ?_
        refine OJ.nil (EJ.next ?_)
        refine CJ.seq ?_
        refine CJ.region ?_
        refine OJ.pures tU_ok 1 rfl ?_
        refine OJ.nil (EJ.next ?_)
        refine CJ.seq ?_
        refine CJ.seq ?_
        refine CJ.region ?_
        refine OJ.pures tU_ok 1 rfl ?_
        refine OJ.nil (EJ.next ?_)
        obtain ⟨j238, H, K238⟩ := pbind H
        refine CJ.cut1 (fun F w1 => ∃ (y45 : Int) (y46 : Int) , (some (y45, y46) : Option (Int × Int)) = some j238 ∧ F = [(1, .slice Aa1 a1.length ca1), (5, .pointer (some ⟨b9, 0, none⟩)), (6, .int .i64 (t2.Names.length : Int)), (11, .slice A17 t16.1.length c18), (12, .int .i64 t16.2.1), (20, .slice A29 t28.1.length c30), (24, .slice A35 t34.1.length c36), (33, .int .i64 y45), (34, .int .i64 y46)] ∧ St w no w1 [rowC G.cs A3 c4 9 t2.Names, rowC (ci .i16) A5 c6 45 t2.Eats, rowC (ci .u16) A7 c8 64 t2.Foes, box b9 ([.slice A3 t2.Names.length c4, .slice A5 t2.Eats.length c6, .slice A7 t2.Foes.length c8]) 28, rowC (ci .i64) A17 c18 2 t16.1, rowC (ci .i64) A29 c30 2 t28.1, rowC (ci .i64) A35 c36 2 t34.1] [roC (ci .u8) Aa0 ca0 a0, roC (ci .u8) Aa1 ca1 a1]) ?_ ?_
        · skip
          refine CJ.block ?_
          refine CJ.loop (fun k F w1 => ∃ (y47 : Int) (y48 : Int) (y49 : Int), F = [(1, .slice Aa1 a1.length ca1), (5, .pointer (some ⟨b9, 0, none⟩)), (6, .int .i64 (t2.Names.length : Int)), (11, .slice A17 t16.1.length c18), (12, .int .i64 t16.2.1), (16, .slice A23 t22.1.length c24), (20, .slice A29 t28.1.length c30), (24, .slice A35 t34.1.length c36), (33, .int .i64 y47), (34, .int .i64 y48), (35, .int .i64 y49)] ∧ St w no w1 [rowC G.cs A3 c4 9 t2.Names, rowC (ci .i16) A5 c6 45 t2.Eats, rowC (ci .u16) A7 c8 64 t2.Foes, box b9 ([.slice A3 t2.Names.length c4, .slice A5 t2.Eats.length c6, .slice A7 t2.Foes.length c8]) 28, rowC (ci .i64) A17 c18 2 t16.1, rowC (ci .i64) A23 c24 2 t22.1, rowC (ci .i64) A29 c30 2 t28.1, rowC (ci .i64) A35 c36 2 t34.1] [roC (ci .u8) Aa0 ca0 a0, roC (ci .u8) Aa1 ca1 a1] ∧ laws_FnGroups.l1 t2 t16 t22 k y47 y48 y49 = some j238) k (F' := [(1, .slice Aa1 a1.length ca1), (5, .pointer (some ⟨b9, 0, none⟩)), (6, .int .i64 (t2.Names.length : Int)), (11, .slice A17 t16.1.length c18), (12, .int .i64 t16.2.1), (16, .slice A23 t22.1.length c24), (20, .slice A29 t28.1.length c30), (24, .slice A35 t34.1.length c36), (33, .int .i64 (-1)), (34, .int .i64 (-1)), (35, .int .i64 0)]) ⟨rfl, rfl, rfl, rfl, rfl, rfl, rfl, rfl, rfl, rfl, rfl, trivial⟩ ⟨(-1), (-1), 0, rfl, hS.pick [0, 1, 2, 3, 4, 5, 6, 7] [0, 1] rfl, H⟩ ?_
          rintro k F w1 ⟨y47, y48, y49, rfl, hS, H⟩
          cases k with
          | zero => rw [laws_FnGroups.l1] at H; cases H
          | succ k =>
            rw [laws_FnGroups.l1] at H
            refine CJ.seq ?_
            refine CJ.seq ?_
            refine CJ.region ?_
            refine OJ.pures tU_ok 3 rfl ?_
            refine OJ.nil (EJ.next ?_)
            refine CJ.cond rfl (fun hb => ?_) (fun hb => ?_)
            · replace H := pif_t (of_decide_eq_true hb) H
              refine CJ.skip (EJ.next ?_)
              refine CJ.seq ?_
              refine CJ.block ?_
              refine CJ.seq ?_
              refine CJ.region ?_
              refine OJ.pures tU_ok 3 rfl ?_
              obtain ⟨t50, ht50, H⟩ := pbind H
              obtain ⟨ad50, e50⟩ := (hS.rd (i := 4) rfl).some' ht50
              refine OJ.st rfl rfl rfl (SR.idxS tU_ok tI_ok rfl rfl rfl rfl e50 rfl (getI_some ht50).1) ?_
              refine OJ.st rfl rfl rfl (SR.load rfl rfl (fun w' hx => ld1 tU_ok rfl rfl (CA.ext ((hS.rd (i := 4) rfl).at_ e50 ht50) hx) rfl)) ?_
              refine OJ.pures tU_ok 2 rfl ?_
              refine OJ.nil (EJ.next ?_)
              refine CJ.region ?_
              refine OJ.pures tU_ok 3 rfl ?_
              obtain ⟨t51, ht51, H⟩ := pbind H
              obtain ⟨ad51, e51⟩ := (hS.rd (i := 5) rfl).some' ht51
              refine OJ.st rfl rfl rfl (SR.idxS tU_ok tI_ok rfl rfl rfl rfl e51 rfl (getI_some ht51).1) ?_
              refine OJ.st rfl rfl rfl (SR.load rfl rfl (fun w' hx => ld1 tU_ok rfl rfl (CA.ext ((hS.rd (i := 5) rfl).at_ e51 ht51) hx) rfl)) ?_
              refine OJ.pures tU_ok 2 rfl ?_
              refine OJ.nil (EJ.blk (EJ.next ?_))
              refine CJ.region ?_
              refine OJ.pures tU_ok 3 rfl ?_
              refine OJ.nil ?_
              exact EJ.round k (F' := [(1, .slice Aa1 a1.length ca1), (5, .pointer (some ⟨b9, 0, none⟩)), (6, .int .i64 (t2.Names.length : Int)), (11, .slice A17 t16.1.length c18), (12, .int .i64 t16.2.1), (16, .slice A23 t22.1.length c24), (20, .slice A29 t28.1.length c30), (24, .slice A35 t34.1.length c36), (33, .int .i64 (if y47 < t50 then t50 else y47)), (34, .int .i64 (if y48 < t51 then t51 else y48)), (35, .int .i64 (IntKind.i64.wrap (y49 + 1)))]) ⟨rfl, rfl, rfl, rfl, rfl, rfl, rfl, rfl, rfl, rfl, rfl, trivial⟩ (Nat.lt_succ_self _) ⟨(if y47 < t50 then t50 else y47), (if y48 < t51 then t51 else y48), (IntKind.i64.wrap (y49 + 1)), rfl, hS.pick [0, 1, 2, 3, 4, 5, 6, 7] [0, 1] rfl, H⟩
            · replace H := pif_f (of_decide_eq_false hb) H
              refine CJ.exit (EJ.skE (EJ.skE (EJ.hit (?_))))
              exact EJ.meet (F' := [(1, .slice Aa1 a1.length ca1), (5, .pointer (some ⟨b9, 0, none⟩)), (6, .int .i64 (t2.Names.length : Int)), (11, .slice A17 t16.1.length c18), (12, .int .i64 t16.2.1), (20, .slice A29 t28.1.length c30), (24, .slice A35 t34.1.length c36), (33, .int .i64 y47), (34, .int .i64 y48)]) ⟨rfl, rfl, rfl, rfl, rfl, rfl, rfl, rfl, rfl, trivial⟩ ⟨y47, y48, H, rfl, hS.pick [0, 1, 2, 3, 4, 6, 7] [0, 1] rfl⟩
        · rintro F w1 ⟨y45, y46, he, rfl, hS⟩
          obtain rfl := Option.some.inj he
          have H := K238
          refine EJ.next ?_
          refine CJ.seq ?_
          obtain ⟨j239, H, K239⟩ := pbind H
          refine CJ.cut (fun F w1 => ∃ (y52 : Bool) , (some y52 : Option Bool) = some j239 ∧ F = [(1, .slice Aa1 a1.length ca1), (5, .pointer (some ⟨b9, 0, none⟩)), (6, .int .i64 (t2.Names.length : Int)), (11, .slice A17 t16.1.length c18), (12, .int .i64 t16.2.1), (20, .slice A29 t28.1.length c30), (24, .slice A35 t34.1.length c36), (280, .bool y52)] ∧ St w no w1 [rowC G.cs A3 c4 9 t2.Names, rowC (ci .i16) A5 c6 45 t2.Eats, rowC (ci .u16) A7 c8 64 t2.Foes, box b9 ([.slice A3 t2.Names.length c4, .slice A5 t2.Eats.length c6, .slice A7 t2.Foes.length c8]) 28, rowC (ci .i64) A17 c18 2 t16.1, rowC (ci .i64) A29 c30 2 t28.1, rowC (ci .i64) A35 c36 2 t34.1] [roC (ci .u8) Aa0 ca0 a0, roC (ci .u8) Aa1 ca1 a1]) ?_ ?_
          · skip
            refine CJ.region ?_
            refine OJ.pures tU_ok 5 rfl ?_
            refine OJ.split (t := 246) rfl (fun hb => ?_) (fun hb => ?_)
            · replace H := pif_t (of_decide_eq_true hb) H
              refine OJ.pures tU_ok 34 rfl ?_
              refine OJ.nil ?_
              exact EJ.meet (F' := [(1, .slice Aa1 a1.length ca1), (5, .pointer (some ⟨b9, 0, none⟩)), (6, .int .i64 (t2.Names.length : Int)), (11, .slice A17 t16.1.length c18), (12, .int .i64 t16.2.1), (20, .slice A29 t28.1.length c30), (24, .slice A35 t34.1.length c36), (280, .bool true)]) ⟨rfl, rfl, rfl, rfl, rfl, rfl, rfl, rfl, trivial⟩ ⟨true, H, rfl, hS.pick [0, 1, 2, 3, 4, 5, 6] [0, 1] rfl⟩
            · replace H := pif_f (of_decide_eq_false hb) H
              refine OJ.pures tU_ok 6 rfl ?_
              refine OJ.split (t := 252) rfl (fun hb => ?_) (fun hb => ?_)
              · replace H := pif_t (of_decide_eq_true hb) H
                refine OJ.pures tU_ok 28 rfl ?_
                refine OJ.nil ?_
                exact EJ.meet (F' := [(1, .slice Aa1 a1.length ca1), (5, .pointer (some ⟨b9, 0, none⟩)), (6, .int .i64 (t2.Names.length : Int)), (11, .slice A17 t16.1.length c18), (12, .int .i64 t16.2.1), (20, .slice A29 t28.1.length c30), (24, .slice A35 t34.1.length c36), (280, .bool true)]) ⟨rfl, rfl, rfl, rfl, rfl, rfl, rfl, rfl, trivial⟩ ⟨true, H, rfl, hS.pick [0, 1, 2, 3, 4, 5, 6] [0, 1] rfl⟩
              · replace H := pif_f (of_decide_eq_false hb) H
                refine OJ.pures tU_ok 6 rfl ?_
                refine OJ.split (t := 258) rfl (fun hb => ?_) (fun hb => ?_)
                · replace H := pif_t (of_decide_eq_true hb) H
                  refine OJ.pures tU_ok 22 rfl ?_
                  refine OJ.nil ?_
                  exact EJ.meet (F' := [(1, .slice Aa1 a1.length ca1), (5, .pointer (some ⟨b9, 0, none⟩)), (6, .int .i64 (t2.Names.length : Int)), (11, .slice A17 t16.1.length c18), (12, .int .i64 t16.2.1), (20, .slice A29 t28.1.length c30), (24, .slice A35 t34.1.length c36), (280, .bool true)]) ⟨rfl, rfl, rfl, rfl, rfl, rfl, rfl, rfl, trivial⟩ ⟨true, H, rfl, hS.pick [0, 1, 2, 3, 4, 5, 6] [0, 1] rfl⟩
                · replace H := pif_f (of_decide_eq_false hb) H
                  refine OJ.pures tU_ok 3 rfl ?_
                  refine OJ.split (t := 261) rfl (fun hb => ?_) (fun hb => ?_)
                  · replace H := pif_t (of_decide_eq_true hb) H
                    refine OJ.pures tU_ok 6 rfl ?_
                    refine OJ.split (t := 267) rfl (fun hb => ?_) (fun hb => ?_)
                    · replace H := pif_t (of_decide_eq_true hb) H
                      refine OJ.pures tU_ok 13 rfl ?_
                      refine OJ.nil ?_
                      exact EJ.meet (F' := [(1, .slice Aa1 a1.length ca1), (5, .pointer (some ⟨b9, 0, none⟩)), (6, .int .i64 (t2.Names.length : Int)), (11, .slice A17 t16.1.length c18), (12, .int .i64 t16.2.1), (20, .slice A29 t28.1.length c30), (24, .slice A35 t34.1.length c36), (280, .bool true)]) ⟨rfl, rfl, rfl, rfl, rfl, rfl, rfl, rfl, trivial⟩ ⟨true, H, rfl, hS.pick [0, 1, 2, 3, 4, 5, 6] [0, 1] rfl⟩
                    · replace H := pif_f (of_decide_eq_false hb) H
                      refine OJ.pures tU_ok 8 rfl ?_
                      refine OJ.split (t := 275) rfl (fun hb => ?_) (fun hb => ?_)
                      · replace H := pif_t (of_decide_eq_true hb) H
                        refine OJ.pures tU_ok 5 rfl ?_
                        refine OJ.nil ?_
                        exact EJ.meet (F' := [(1, .slice Aa1 a1.length ca1), (5, .pointer (some ⟨b9, 0, none⟩)), (6, .int .i64 (t2.Names.length : Int)), (11, .slice A17 t16.1.length c18), (12, .int .i64 t16.2.1), (20, .slice A29 t28.1.length c30), (24, .slice A35 t34.1.length c36), (280, .bool true)]) ⟨rfl, rfl, rfl, rfl, rfl, rfl, rfl, rfl, trivial⟩ ⟨true, H, rfl, hS.pick [0, 1, 2, 3, 4, 5, 6] [0, 1] rfl⟩
                      · replace H := pif_f (of_decide_eq_false hb) H
                        refine OJ.pures tU_ok 5 rfl ?_
                        refine OJ.nil ?_
                        exact EJ.meet (F' := [(1, .slice Aa1 a1.length ca1), (5, .pointer (some ⟨b9, 0, none⟩)), (6, .int .i64 (t2.Names.length : Int)), (11, .slice A17 t16.1.length c18), (12, .int .i64 t16.2.1), (20, .slice A29 t28.1.length c30), (24, .slice A35 t34.1.length c36), (280, .bool (decide ((t2.Names.length : Int) < (t34.1.length : Int))))]) ⟨rfl, rfl, rfl, rfl, rfl, rfl, rfl, rfl, trivial⟩ ⟨(decide ((t2.Names.length : Int) < (t34.1.length : Int))), H, rfl, hS.pick [0, 1, 2, 3, 4, 5, 6] [0, 1] rfl⟩
                  · replace H := pif_f (of_decide_eq_false hb) H
                    refine OJ.pures tU_ok 14 rfl ?_
                    refine OJ.split (t := 275) rfl (fun hb => ?_) (fun hb => ?_)
                    · replace H := pif_t (of_decide_eq_true hb) H
                      refine OJ.pures tU_ok 5 rfl ?_
                      refine OJ.nil ?_
                      exact EJ.meet (F' := [(1, .slice Aa1 a1.length ca1), (5, .pointer (some ⟨b9, 0, none⟩)), (6, .int .i64 (t2.Names.length : Int)), (11, .slice A17 t16.1.length c18), (12, .int .i64 t16.2.1), (20, .slice A29 t28.1.length c30), (24, .slice A35 t34.1.length c36), (280, .bool true)]) ⟨rfl, rfl, rfl, rfl, rfl, rfl, rfl, rfl, trivial⟩ ⟨true, H, rfl, hS.pick [0, 1, 2, 3, 4, 5, 6] [0, 1] rfl⟩
                    · replace H := pif_f (of_decide_eq_false hb) H
                      refine OJ.pures tU_ok 5 rfl ?_
                      refine OJ.nil ?_
                      exact EJ.meet (F' := [(1, .slice Aa1 a1.length ca1), (5, .pointer (some ⟨b9, 0, none⟩)), (6, .int .i64 (t2.Names.length : Int)), (11, .slice A17 t16.1.length c18), (12, .int .i64 t16.2.1), (20, .slice A29 t28.1.length c30), (24, .slice A35 t34.1.length c36), (280, .bool (decide ((t2.Names.length : Int) < (t34.1.length : Int))))]) ⟨rfl, rfl, rfl, rfl, rfl, rfl, rfl, rfl, trivial⟩ ⟨(decide ((t2.Names.length : Int) < (t34.1.length : Int))), H, rfl, hS.pick [0, 1, 2, 3, 4, 5, 6] [0, 1] rfl⟩
          · rintro F w1 ⟨y52, he, rfl, hS⟩
            obtain rfl := Option.some.inj he
            have H := K239
            refine CJ.cond rfl (fun hb => ?_) (fun hb => ?_)
            · replace H := pif_t hb H
              refine CJ.seq ?_
              refine CJ.region ?_
              refine OJ.pures tU_ok 1 rfl ?_
              refine OJ.nil (EJ.next ?_)
              refine CJ.ret (EJ.skR (?_))
              obtain rfl := Option.some.inj H
              exact EJ.fin rfl (.tmp rfl .nil) ⟨rfl, hS.ext⟩
            · replace H := pifb_f hb H
              refine CJ.skip (EJ.next ?_)
              refine CJ.seq ?_
              refine CJ.seq ?_
              refine CJ.region ?_
              refine OJ.pures tU_ok 1 rfl ?_
              refine OJ.nil (EJ.next ?_)
              obtain ⟨j240, H, K240⟩ := pbind H
              refine CJ.cut1 (fun F w1 => (some (Sum.inr ()) : Option (Bool ⊕ Unit)) = some j240 ∧ F = [(1, .slice Aa1 a1.length ca1), (5, .pointer (some ⟨b9, 0, none⟩)), (6, .int .i64 (t2.Names.length : Int)), (11, .slice A17 t16.1.length c18), (12, .int .i64 t16.2.1), (24, .slice A35 t34.1.length c36)] ∧ St w no w1 [rowC G.cs A3 c4 9 t2.Names, rowC (ci .i16) A5 c6 45 t2.Eats, rowC (ci .u16) A7 c8 64 t2.Foes, box b9 ([.slice A3 t2.Names.length c4, .slice A5 t2.Eats.length c6, .slice A7 t2.Foes.length c8]) 28, rowC (ci .i64) A17 c18 2 t16.1, rowC (ci .i64) A35 c36 2 t34.1] [roC (ci .u8) Aa0 ca0 a0, roC (ci .u8) Aa1 ca1 a1]) ?_ ?_
              · skip
                refine CJ.block ?_
                refine CJ.loop (fun k F w1 => ∃ (y53 : Int), F = [(1, .slice Aa1 a1.length ca1), (5, .pointer (some ⟨b9, 0, none⟩)), (6, .int .i64 (t2.Names.length : Int)), (11, .slice A17 t16.1.length c18), (12, .int .i64 t16.2.1), (20, .slice A29 t28.1.length c30), (24, .slice A35 t34.1.length c36), (36, .int .i64 y53)] ∧ St w no w1 [rowC G.cs A3 c4 9 t2.Names, rowC (ci .i16) A5 c6 45 t2.Eats, rowC (ci .u16) A7 c8 64 t2.Foes, box b9 ([.slice A3 t2.Names.length c4, .slice A5 t2.Eats.length c6, .slice A7 t2.Foes.length c8]) 28, rowC (ci .i64) A17 c18 2 t16.1, rowC (ci .i64) A29 c30 2 t28.1, rowC (ci .i64) A35 c36 2 t34.1] [roC (ci .u8) Aa0 ca0 a0, roC (ci .u8) Aa1 ca1 a1] ∧ laws_FnGroups.l2 t2 t28 k y53 = some j240) k (F' := [(1, .slice Aa1 a1.length ca1), (5, .pointer (some ⟨b9, 0, none⟩)), (6, .int .i64 (t2.Names.length : Int)), (11, .slice A17 t16.1.length c18), (12, .int .i64 t16.2.1), (20, .slice A29 t28.1.length c30), (24, .slice A35 t34.1.length c36), (36, .int .i64 0)]) ⟨rfl, rfl, rfl, rfl, rfl, rfl, rfl, rfl, trivial⟩ ⟨0, rfl, hS.pick [0, 1, 2, 3, 4, 5, 6] [0, 1] rfl, H⟩ ?_
                rintro k F w1 ⟨y53, rfl, hS, H⟩
                cases k with
                | zero => rw [laws_FnGroups.l2] at H; cases H
                | succ k =>
                  rw [laws_FnGroups.l2] at H
                  refine CJ.seq ?_
                  refine CJ.seq ?_
                  refine CJ.region ?_
                  refine OJ.pures tU_ok 4 rfl ?_
                  refine OJ.nil (EJ.next ?_)
                  refine CJ.cond rfl (fun hb => ?_) (fun hb => ?_)
                  · replace H := pif_t (of_decide_eq_true hb) H
                    refine CJ.skip (EJ.next ?_)
                    obtain ⟨j247, H, K247⟩ := pbind H
                    refine CJ.cut (fun F w1 => (some (Sum.inr ()) : Option ((Bool ⊕ Unit) ⊕ Unit)) = some j247 ∧ F = [(1, .slice Aa1 a1.length ca1), (5, .pointer (some ⟨b9, 0, none⟩)), (6, .int .i64 (t2.Names.length : Int)), (11, .slice A17 t16.1.length c18), (12, .int .i64 t16.2.1), (20, .slice A29 t28.1.length c30), (24, .slice A35 t34.1.length c36), (36, .int .i64 y53)] ∧ St w no w1 [rowC G.cs A3 c4 9 t2.Names, rowC (ci .i16) A5 c6 45 t2.Eats, rowC (ci .u16) A7 c8 64 t2.Foes, box b9 ([.slice A3 t2.Names.length c4, .slice A5 t2.Eats.length c6, .slice A7 t2.Foes.length c8]) 28, rowC (ci .i64) A17 c18 2 t16.1, rowC (ci .i64) A29 c30 2 t28.1, rowC (ci .i64) A35 c36 2 t34.1] [roC (ci .u8) Aa0 ca0 a0, roC (ci .u8) Aa1 ca1 a1]) ?_ ?_
                    · skip
                      refine CJ.block ?_
                      refine CJ.seq ?_
                      refine CJ.region ?_
                      refine OJ.pures tU_ok 1 rfl ?_
                      refine OJ.nil (EJ.next ?_)
                      obtain ⟨j249, H, K249⟩ := pbind H
                      refine CJ.cut1 (fun F w1 => (some (Sum.inr ()) : Option (((Bool ⊕ Unit) ⊕ Unit) ⊕ Unit)) = some j249 ∧ F = [(1, .slice Aa1 a1.length ca1), (5, .pointer (some ⟨b9, 0, none⟩)), (6, .int .i64 (t2.Names.length : Int)), (11, .slice A17 t16.1.length c18), (12, .int .i64 t16.2.1), (20, .slice A29 t28.1.length c30), (24, .slice A35 t34.1.length c36), (36, .int .i64 y53)] ∧ St w no w1 [rowC G.cs A3 c4 9 t2.Names, rowC (ci .i16) A5 c6 45 t2.Eats, rowC (ci .u16) A7 c8 64 t2.Foes, box b9 ([.slice A3 t2.Names.length c4, .slice A5 t2.Eats.length c6, .slice A7 t2.Foes.length c8]) 28, rowC (ci .i64) A17 c18 2 t16.1, rowC (ci .i64) A29 c30 2 t28.1, rowC (ci .i64) A35 c36 2 t34.1] [roC (ci .u8) Aa0 ca0 a0, roC (ci .u8) Aa1 ca1 a1]) ?_ ?_
                      · skip
                        refine CJ.block ?_
                        refine CJ.loop (fun k F w1 => ∃ (y54 : Int), F = [(1, .slice Aa1 a1.length ca1), (5, .pointer (some ⟨b9, 0, none⟩)), (6, .int .i64 (t2.Names.length : Int)), (11, .slice A17 t16.1.length c18), (12, .int .i64 t16.2.1), (20, .slice A29 t28.1.length c30), (24, .slice A35 t34.1.length c36), (36, .int .i64 y53), (37, .int .i64 y54)] ∧ St w no w1 [rowC G.cs A3 c4 9 t2.Names, rowC (ci .i16) A5 c6 45 t2.Eats, rowC (ci .u16) A7 c8 64 t2.Foes, box b9 ([.slice A3 t2.Names.length c4, .slice A5 t2.Eats.length c6, .slice A7 t2.Foes.length c8]) 28, rowC (ci .i64) A17 c18 2 t16.1, rowC (ci .i64) A29 c30 2 t28.1, rowC (ci .i64) A35 c36 2 t34.1] [roC (ci .u8) Aa0 ca0 a0, roC (ci .u8) Aa1 ca1 a1] ∧ laws_FnGroups.l3 t2 t28 y53 k y54 = some j249) k (F' := [(1, .slice Aa1 a1.length ca1), (5, .pointer (some ⟨b9, 0, none⟩)), (6, .int .i64 (t2.Names.length : Int)), (11, .slice A17 t16.1.length c18), (12, .int .i64 t16.2.1), (20, .slice A29 t28.1.length c30), (24, .slice A35 t34.1.length c36), (36, .int .i64 y53), (37, .int .i64 0)]) ⟨rfl, rfl, rfl, rfl, rfl, rfl, rfl, rfl, rfl, trivial⟩ ⟨0, rfl, hS.pick [0, 1, 2, 3, 4, 5, 6] [0, 1] rfl, H⟩ ?_
                        rintro k F w1 ⟨y54, rfl, hS, H⟩
                        cases k with
                        | zero => rw [laws_FnGroups.l3] at H; cases H
                        | succ k =>
                          rw [laws_FnGroups.l3] at H
                          refine CJ.seq ?_
                          refine CJ.seq ?_
                          refine CJ.region ?_
                          refine OJ.pures tU_ok 3 rfl ?_
                          refine OJ.nil (EJ.next ?_)
                          refine CJ.cond rfl (fun hb => ?_) (fun hb => ?_)
                          · replace H := pif_t (of_decide_eq_true hb) H
                            refine CJ.skip (EJ.next ?_)
                            refine CJ.seq ?_
                            refine CJ.block ?_
                            refine CJ.seq ?_
                            refine CJ.draw [] [0, 1, 2, 3, 4, 5, 6, 7, 8, 9, 10, 11, 12, 13, 14] mixed (by kernel_rfl) hS fun w1 hS => ?_
                            refine DJ.st rfl rfl rfl rfl rfl (SR.load rfl rfl (fun w' hx => ldN tU_ok tI_ok rfl rfl rfl (CA.ext (hS.cells (i := 3) rfl) hx) (ds := [.slice A3 t2.Names.length c4, .slice A5 t2.Eats.length c6, .slice A7 t2.Foes.length c8]) rfl rfl)) ?_
                            refine DJ.pures tU_ok 2 rfl ?_
                            obtain ⟨t55, ht55, H⟩ := pbind H
                            obtain ⟨ad55, e55⟩ := (hS.rd (i := 5) rfl).some' ht55
                            refine DJ.st rfl rfl rfl rfl rfl (SR.idxS tU_ok tI_ok rfl rfl rfl rfl e55 rfl (getI_some ht55).1) ?_
                            refine DJ.st rfl rfl rfl rfl rfl (SR.load rfl rfl (fun w' hx => ld1 tU_ok rfl rfl (CA.ext ((hS.rd (i := 5) rfl).at_ e55 ht55) hx) rfl)) ?_
                            refine DJ.pures tU_ok 2 rfl ?_
                            obtain ⟨t56, ht56, H⟩ := pbind H
                            obtain ⟨ad56, e56⟩ := (hS.rd (i := 5) rfl).some' ht56
                            refine DJ.st rfl rfl rfl rfl rfl (SR.idxS tU_ok tI_ok rfl rfl rfl rfl e56 rfl (getI_some ht56).1) ?_
                            refine DJ.st rfl rfl rfl rfl rfl (SR.load rfl rfl (fun w' hx => ld1 tU_ok rfl rfl (CA.ext ((hS.rd (i := 5) rfl).at_ e56 ht56) hx) rfl)) ?_
                            obtain ⟨t57, ht57, H⟩ := pbind H
                            refine DJ.callF rfl rfl rfl rfl rfl rfl rfl hb18 rfl (impl_AreFoes.c k _ A3 c4 A5 c6 A7 c8 t2 (hS.rd (i := 0) rfl) (hS.le (i := 0) rfl) (hS.rd (i := 1) rfl) (hS.le (i := 1) rfl) (hS.rd (i := 2) rfl) (hS.le (i := 2) rfl) t55 t56 _ ht57) (by rintro v w' ⟨rfl, hs⟩; exact hs) ?_
                            rintro _ w1 ⟨rfl, hs⟩
                            replace hS := hS.grow hs
                            refine DJ.pures tU_ok 5 rfl ?_
                            refine DJ.nil (EJ.next ?_)
                            refine CJ.seq ?_
                            refine CJ.region ?_
                            refine OJ.pures tU_ok 3 rfl ?_
                            refine OJ.split (t := 307) rfl (fun hb => ?_) (fun hb => ?_)
                            · replace H := pif_t (of_decide_eq_true hb) H
                              refine OJ.pures tU_ok 3 rfl ?_
                              refine OJ.nil (EJ.next ?_)
                              refine CJ.condT rfl ?_
                              refine CJ.seq ?_
                              refine CJ.region ?_
                              refine OJ.pures tU_ok 1 rfl ?_
                              refine OJ.nil (EJ.next ?_)
                              refine CJ.ret (EJ.bkR (EJ.skR (EJ.skR (EJ.bkR (EJ.skR (EJ.bkR (EJ.skR (EJ.skR (EJ.bkR (EJ.skR (EJ.skR (?_))))))))))))
                              first | (obtain rfl := Option.some.inj H; have H := K249) | (obtain ⟨q249, H2, e249⟩ := pbind H; obtain rfl := Option.some.inj e249; obtain rfl := Option.some.inj K249; have H := H2)
                              first | (obtain rfl := Option.some.inj H; have H := K247) | (obtain ⟨q247, H2, e247⟩ := pbind H; obtain rfl := Option.some.inj e247; obtain rfl := Option.some.inj K247; have H := H2)
                              first | (obtain rfl := Option.some.inj H; have H := K240) | (obtain ⟨q240, H2, e240⟩ := pbind H; obtain rfl := Option.some.inj e240; obtain rfl := Option.some.inj K240; have H := H2)
                              obtain rfl := Option.some.inj H
                              exact EJ.fin rfl (.tmp rfl .nil) ⟨rfl, hS.ext⟩
                            · replace H := pif_f (of_decide_eq_false hb) H
                              refine OJ.pures tU_ok 3 rfl ?_
                              refine OJ.nil (EJ.next ?_)
                              refine CJ.cond rfl (fun hb => ?_) (fun hb => ?_)
                              · replace H := pif_t hb H
                                refine CJ.seq ?_
                                refine CJ.region ?_
                                refine OJ.pures tU_ok 1 rfl ?_
                                refine OJ.nil (EJ.next ?_)
                                refine CJ.ret (EJ.bkR (EJ.skR (EJ.skR (EJ.bkR (EJ.skR (EJ.bkR (EJ.skR (EJ.skR (EJ.bkR (EJ.skR (EJ.skR (?_))))))))))))
                                first | (obtain rfl := Option.some.inj H; have H := K249) | (obtain ⟨q249, H2, e249⟩ := pbind H; obtain rfl := Option.some.inj e249; obtain rfl := Option.some.inj K249; have H := H2)
                                first | (obtain rfl := Option.some.inj H; have H := K247) | (obtain ⟨q247, H2, e247⟩ := pbind H; obtain rfl := Option.some.inj e247; obtain rfl := Option.some.inj K247; have H := H2)
                                first | (obtain rfl := Option.some.inj H; have H := K240) | (obtain ⟨q240, H2, e240⟩ := pbind H; obtain rfl := Option.some.inj e240; obtain rfl := Option.some.inj K240; have H := H2)
                                obtain rfl := Option.some.inj H
                                exact EJ.fin rfl (.tmp rfl .nil) ⟨rfl, hS.ext⟩
                              · replace H := pifb_f hb H
                                refine CJ.skip (EJ.blk (EJ.next ?_))
                                refine CJ.region ?_
                                refine OJ.pures tU_ok 3 rfl ?_
                                refine OJ.nil ?_
                                exact EJ.round k (F' := [(1, .slice Aa1 a1.length ca1), (5, .pointer (some ⟨b9, 0, none⟩)), (6, .int .i64 (t2.Names.length : Int)), (11, .slice A17 t16.1.length c18), (12, .int .i64 t16.2.1), (20, .slice A29 t28.1.length c30), (24, .slice A35 t34.1.length c36), (36, .int .i64 y53), (37, .int .i64 (IntKind.i64.wrap (y54 + 1)))]) ⟨rfl, rfl, rfl, rfl, rfl, rfl, rfl, rfl, rfl, trivial⟩ (Nat.lt_succ_self _) ⟨(IntKind.i64.wrap (y54 + 1)), rfl, hS.pick [0, 1, 2, 3, 4, 5, 6] [0, 1] rfl, H⟩
                          · replace H := pif_f (of_decide_eq_false hb) H
                            refine CJ.exit (EJ.skE (EJ.skE (EJ.hit (?_))))
                            exact EJ.meet (F' := [(1, .slice Aa1 a1.length ca1), (5, .pointer (some ⟨b9, 0, none⟩)), (6, .int .i64 (t2.Names.length : Int)), (11, .slice A17 t16.1.length c18), (12, .int .i64 t16.2.1), (20, .slice A29 t28.1.length c30), (24, .slice A35 t34.1.length c36), (36, .int .i64 y53)]) ⟨rfl, rfl, rfl, rfl, rfl, rfl, rfl, rfl, trivial⟩ ⟨H, rfl, hS.pick [0, 1, 2, 3, 4, 5, 6] [0, 1] rfl⟩
                      · rintro F w1 ⟨he, rfl, hS⟩
                        obtain rfl := Option.some.inj he
                        have H := K249
                        refine EJ.blk (?_)
                        exact EJ.meet (F' := [(1, .slice Aa1 a1.length ca1), (5, .pointer (some ⟨b9, 0, none⟩)), (6, .int .i64 (t2.Names.length : Int)), (11, .slice A17 t16.1.length c18), (12, .int .i64 t16.2.1), (20, .slice A29 t28.1.length c30), (24, .slice A35 t34.1.length c36), (36, .int .i64 y53)]) ⟨rfl, rfl, rfl, rfl, rfl, rfl, rfl, rfl, trivial⟩ ⟨H, rfl, hS.pick [0, 1, 2, 3, 4, 5, 6] [0, 1] rfl⟩
                    · rintro F w1 ⟨he, rfl, hS⟩
                      obtain rfl := Option.some.inj he
                      have H := K247
                      refine CJ.region ?_
                      refine OJ.pures tU_ok 3 rfl ?_
                      refine OJ.nil ?_
                      exact EJ.round k (F' := [(1, .slice Aa1 a1.length ca1), (5, .pointer (some ⟨b9, 0, none⟩)), (6, .int .i64 (t2.Names.length : Int)), (11, .slice A17 t16.1.length c18), (12, .int .i64 t16.2.1), (20, .slice A29 t28.1.length c30), (24, .slice A35 t34.1.length c36), (36, .int .i64 (IntKind.i64.wrap (y53 + 1)))]) ⟨rfl, rfl, rfl, rfl, rfl, rfl, rfl, rfl, trivial⟩ (Nat.lt_succ_self _) ⟨(IntKind.i64.wrap (y53 + 1)), rfl, hS.pick [0, 1, 2, 3, 4, 5, 6] [0, 1] rfl, H⟩
                  · replace H := pif_f (of_decide_eq_false hb) H
                    refine CJ.exit (EJ.skE (EJ.skE (EJ.hit (?_))))
                    exact EJ.meet (F' := [(1, .slice Aa1 a1.length ca1), (5, .pointer (some ⟨b9, 0, none⟩)), (6, .int .i64 (t2.Names.length : Int)), (11, .slice A17 t16.1.length c18), (12, .int .i64 t16.2.1), (24, .slice A35 t34.1.length c36)]) ⟨rfl, rfl, rfl, rfl, rfl, rfl, trivial⟩ ⟨H, rfl, hS.pick [0, 1, 2, 3, 4, 6] [0, 1] rfl⟩
              · rintro F w1 ⟨he, rfl, hS⟩
                obtain rfl := Option.some.inj he
                have H := K240
                refine EJ.next ?_
                refine CJ.seq ?_
                refine CJ.seq ?_
                refine CJ.region ?_
                refine OJ.pures tU_ok 1 rfl ?_
                refine OJ.nil (EJ.next ?_)
                obtain ⟨j250, H, K250⟩ := pbind H
                refine CJ.cut1 (fun F w1 => (some (Sum.inr ()) : Option (Bool ⊕ Unit)) = some j250 ∧ F = [(1, .slice Aa1 a1.length ca1), (5, .pointer (some ⟨b9, 0, none⟩)), (6, .int .i64 (t2.Names.length : Int)), (11, .slice A17 t16.1.length c18), (12, .int .i64 t16.2.1)] ∧ St w no w1 [rowC G.cs A3 c4 9 t2.Names, rowC (ci .i16) A5 c6 45 t2.Eats, rowC (ci .u16) A7 c8 64 t2.Foes, box b9 ([.slice A3 t2.Names.length c4, .slice A5 t2.Eats.length c6, .slice A7 t2.Foes.length c8]) 28, rowC (ci .i64) A17 c18 2 t16.1] [roC (ci .u8) Aa0 ca0 a0, roC (ci .u8) Aa1 ca1 a1]) ?_ ?_
                · skip
                  refine CJ.block ?_
                  refine CJ.loop (fun k F w1 => ∃ (y58 : Int), F = [(1, .slice Aa1 a1.length ca1), (5, .pointer (some ⟨b9, 0, none⟩)), (6, .int .i64 (t2.Names.length : Int)), (11, .slice A17 t16.1.length c18), (12, .int .i64 t16.2.1), (24, .slice A35 t34.1.length c36), (40, .int .i64 y58)] ∧ St w no w1 [rowC G.cs A3 c4 9 t2.Names, rowC (ci .i16) A5 c6 45 t2.Eats, rowC (ci .u16) A7 c8 64 t2.Foes, box b9 ([.slice A3 t2.Names.length c4, .slice A5 t2.Eats.length c6, .slice A7 t2.Foes.length c8]) 28, rowC (ci .i64) A17 c18 2 t16.1, rowC (ci .i64) A35 c36 2 t34.1] [roC (ci .u8) Aa0 ca0 a0, roC (ci .u8) Aa1 ca1 a1] ∧ laws_FnGroups.l4 t2 t34 k y58 = some j250) k (F' := [(1, .slice Aa1 a1.length ca1), (5, .pointer (some ⟨b9, 0, none⟩)), (6, .int .i64 (t2.Names.length : Int)), (11, .slice A17 t16.1.length c18), (12, .int .i64 t16.2.1), (24, .slice A35 t34.1.length c36), (40, .int .i64 0)]) ⟨rfl, rfl, rfl, rfl, rfl, rfl, rfl, trivial⟩ ⟨0, rfl, hS.pick [0, 1, 2, 3, 4, 5] [0, 1] rfl, H⟩ ?_
                  rintro k F w1 ⟨y58, rfl, hS, H⟩
                  cases k with
                  | zero => rw [laws_FnGroups.l4] at H; cases H
                  | succ k =>
                    rw [laws_FnGroups.l4] at H
                    refine CJ.seq ?_
                    refine CJ.seq ?_
                    refine CJ.region ?_
                    refine OJ.pures tU_ok 4 rfl ?_
                    refine OJ.nil (EJ.next ?_)
                    refine CJ.cond rfl (fun hb => ?_) (fun hb => ?_)
                    · replace H := pif_t (of_decide_eq_true hb) H
                      refine CJ.skip (EJ.next ?_)
                      obtain ⟨j257, H, K257⟩ := pbind H
                      refine CJ.cut (fun F w1 => (some (Sum.inr ()) : Option ((Bool ⊕ Unit) ⊕ Unit)) = some j257 ∧ F = [(1, .slice Aa1 a1.length ca1), (5, .pointer (some ⟨b9, 0, none⟩)), (6, .int .i64 (t2.Names.length : Int)), (11, .slice A17 t16.1.length c18), (12, .int .i64 t16.2.1), (24, .slice A35 t34.1.length c36), (40, .int .i64 y58)] ∧ St w no w1 [rowC G.cs A3 c4 9 t2.Names, rowC (ci .i16) A5 c6 45 t2.Eats, rowC (ci .u16) A7 c8 64 t2.Foes, box b9 ([.slice A3 t2.Names.length c4, .slice A5 t2.Eats.length c6, .slice A7 t2.Foes.length c8]) 28, rowC (ci .i64) A17 c18 2 t16.1, rowC (ci .i64) A35 c36 2 t34.1] [roC (ci .u8) Aa0 ca0 a0, roC (ci .u8) Aa1 ca1 a1]) ?_ ?_
                      · skip
                        refine CJ.block ?_
                        refine CJ.seq ?_
                        refine CJ.region ?_
                        refine OJ.pures tU_ok 1 rfl ?_
                        refine OJ.nil (EJ.next ?_)
                        obtain ⟨j259, H, K259⟩ := pbind H
                        refine CJ.cut1 (fun F w1 => (some (Sum.inr ()) : Option (((Bool ⊕ Unit) ⊕ Unit) ⊕ Unit)) = some j259 ∧ F = [(1, .slice Aa1 a1.length ca1), (5, .pointer (some ⟨b9, 0, none⟩)), (6, .int .i64 (t2.Names.length : Int)), (11, .slice A17 t16.1.length c18), (12, .int .i64 t16.2.1), (24, .slice A35 t34.1.length c36), (40, .int .i64 y58)] ∧ St w no w1 [rowC G.cs A3 c4 9 t2.Names, rowC (ci .i16) A5 c6 45 t2.Eats, rowC (ci .u16) A7 c8 64 t2.Foes, box b9 ([.slice A3 t2.Names.length c4, .slice A5 t2.Eats.length c6, .slice A7 t2.Foes.length c8]) 28, rowC (ci .i64) A17 c18 2 t16.1, rowC (ci .i64) A35 c36 2 t34.1] [roC (ci .u8) Aa0 ca0 a0, roC (ci .u8) Aa1 ca1 a1]) ?_ ?_
                        · skip
                          refine CJ.block ?_
                          refine CJ.loop (fun k F w1 => ∃ (y59 : Int), F = [(1, .slice Aa1 a1.length ca1), (5, .pointer (some ⟨b9, 0, none⟩)), (6, .int .i64 (t2.Names.length : Int)), (11, .slice A17 t16.1.length c18), (12, .int .i64 t16.2.1), (24, .slice A35 t34.1.length c36), (40, .int .i64 y58), (41, .int .i64 y59)] ∧ St w no w1 [rowC G.cs A3 c4 9 t2.Names, rowC (ci .i16) A5 c6 45 t2.Eats, rowC (ci .u16) A7 c8 64 t2.Foes, box b9 ([.slice A3 t2.Names.length c4, .slice A5 t2.Eats.length c6, .slice A7 t2.Foes.length c8]) 28, rowC (ci .i64) A17 c18 2 t16.1, rowC (ci .i64) A35 c36 2 t34.1] [roC (ci .u8) Aa0 ca0 a0, roC (ci .u8) Aa1 ca1 a1] ∧ laws_FnGroups.l5 t2 t34 y58 k y59 = some j259) k (F' := [(1, .slice Aa1 a1.length ca1), (5, .pointer (some ⟨b9, 0, none⟩)), (6, .int .i64 (t2.Names.length : Int)), (11, .slice A17 t16.1.length c18), (12, .int .i64 t16.2.1), (24, .slice A35 t34.1.length c36), (40, .int .i64 y58), (41, .int .i64 0)]) ⟨rfl, rfl, rfl, rfl, rfl, rfl, rfl, rfl, trivial⟩ ⟨0, rfl, hS.pick [0, 1, 2, 3, 4, 5] [0, 1] rfl, H⟩ ?_
                          rintro k F w1 ⟨y59, rfl, hS, H⟩
                          cases k with
                          | zero => rw [laws_FnGroups.l5] at H; cases H
                          | succ k =>
                            rw [laws_FnGroups.l5] at H
                            refine CJ.seq ?_
                            refine CJ.seq ?_
                            refine CJ.region ?_
                            refine OJ.pures tU_ok 3 rfl ?_
                            refine OJ.nil (EJ.next ?_)
                            refine CJ.cond rfl (fun hb => ?_) (fun hb => ?_)
                            · replace H := pif_t (of_decide_eq_true hb) H
                              refine CJ.skip (EJ.next ?_)
                              refine CJ.seq ?_
                              refine CJ.block ?_
                              refine CJ.seq ?_
                              refine CJ.draw [] [0, 1, 2, 3, 4, 5, 6, 7, 8, 9, 10, 11, 12, 13, 14] mixed (by kernel_rfl) hS fun w1 hS => ?_
                              refine DJ.st rfl rfl rfl rfl rfl (SR.load rfl rfl (fun w' hx => ldN tU_ok tI_ok rfl rfl rfl (CA.ext (hS.cells (i := 3) rfl) hx) (ds := [.slice A3 t2.Names.length c4, .slice A5 t2.Eats.length c6, .slice A7 t2.Foes.length c8]) rfl rfl)) ?_
                              refine DJ.pures tU_ok 2 rfl ?_
                              obtain ⟨t60, ht60, H⟩ := pbind H
                              obtain ⟨ad60, e60⟩ := (hS.rd (i := 5) rfl).some' ht60
                              refine DJ.st rfl rfl rfl rfl rfl (SR.idxS tU_ok tI_ok rfl rfl rfl rfl e60 rfl (getI_some ht60).1) ?_
                              refine DJ.st rfl rfl rfl rfl rfl (SR.load rfl rfl (fun w' hx => ld1 tU_ok rfl rfl (CA.ext ((hS.rd (i := 5) rfl).at_ e60 ht60) hx) rfl)) ?_
                              refine DJ.pures tU_ok 2 rfl ?_
                              obtain ⟨t61, ht61, H⟩ := pbind H
                              obtain ⟨ad61, e61⟩ := (hS.rd (i := 5) rfl).some' ht61
                              refine DJ.st rfl rfl rfl rfl rfl (SR.idxS tU_ok tI_ok rfl rfl rfl rfl e61 rfl (getI_some ht61).1) ?_
                              refine DJ.st rfl rfl rfl rfl rfl (SR.load rfl rfl (fun w' hx => ld1 tU_ok rfl rfl (CA.ext ((hS.rd (i := 5) rfl).at_ e61 ht61) hx) rfl)) ?_
                              obtain ⟨t62, ht62, H⟩ := pbind H
                              refine DJ.callF rfl rfl rfl rfl rfl rfl rfl hb18 rfl (impl_AreFoes.c k _ A3 c4 A5 c6 A7 c8 t2 (hS.rd (i := 0) rfl) (hS.le (i := 0) rfl) (hS.rd (i := 1) rfl) (hS.le (i := 1) rfl) (hS.rd (i := 2) rfl) (hS.le (i := 2) rfl) t60 t61 _ ht62) (by rintro v w' ⟨rfl, hs⟩; exact hs) ?_
                              rintro _ w1 ⟨rfl, hs⟩
                              replace hS := hS.grow hs
                              refine DJ.pures tU_ok 5 rfl ?_
                              refine DJ.nil (EJ.next ?_)
                              refine CJ.seq ?_
                              refine CJ.region ?_
                              refine OJ.pures tU_ok 3 rfl ?_
                              refine OJ.split (t := 337) rfl (fun hb => ?_) (fun hb => ?_)
                              · replace H := pif_t (of_decide_eq_true hb) H
                                refine OJ.pures tU_ok 2 rfl ?_
                                refine OJ.nil (EJ.next ?_)
                                refine CJ.condT rfl ?_
                                refine CJ.seq ?_
                                refine CJ.region ?_
                                refine OJ.pures tU_ok 1 rfl ?_
                                refine OJ.nil (EJ.next ?_)
                                refine CJ.ret (EJ.bkR (EJ.skR (EJ.skR (EJ.bkR (EJ.skR (EJ.bkR (EJ.skR (EJ.skR (EJ.bkR (EJ.skR (EJ.skR (?_))))))))))))
                                first | (obtain rfl := Option.some.inj H; have H := K259) | (obtain ⟨q259, H2, e259⟩ := pbind H; obtain rfl := Option.some.inj e259; obtain rfl := Option.some.inj K259; have H := H2)
                                first | (obtain rfl := Option.some.inj H; have H := K257) | (obtain ⟨q257, H2, e257⟩ := pbind H; obtain rfl := Option.some.inj e257; obtain rfl := Option.some.inj K257; have H := H2)
                                first | (obtain rfl := Option.some.inj H; have H := K250) | (obtain ⟨q250, H2, e250⟩ := pbind H; obtain rfl := Option.some.inj e250; obtain rfl := Option.some.inj K250; have H := H2)
                                obtain rfl := Option.some.inj H
                                exact EJ.fin rfl (.tmp rfl .nil) ⟨rfl, hS.ext⟩
                              · replace H := pif_f (of_decide_eq_false hb) H
                                refine OJ.pures tU_ok 2 rfl ?_
                                refine OJ.nil (EJ.next ?_)
                                refine CJ.cond rfl (fun hb => ?_) (fun hb => ?_)
                                · replace H := pif_t hb H
                                  refine CJ.seq ?_
                                  refine CJ.region ?_
                                  refine OJ.pures tU_ok 1 rfl ?_
                                  refine OJ.nil (EJ.next ?_)
                                  refine CJ.ret (EJ.bkR (EJ.skR (EJ.skR (EJ.bkR (EJ.skR (EJ.bkR (EJ.skR (EJ.skR (EJ.bkR (EJ.skR (EJ.skR (?_))))))))))))
                                  first | (obtain rfl := Option.some.inj H; have H := K259) | (obtain ⟨q259, H2, e259⟩ := pbind H; obtain rfl := Option.some.inj e259; obtain rfl := Option.some.inj K259; have H := H2)
                                  first | (obtain rfl := Option.some.inj H; have H := K257) | (obtain ⟨q257, H2, e257⟩ := pbind H; obtain rfl := Option.some.inj e257; obtain rfl := Option.some.inj K257; have H := H2)
                                  first | (obtain rfl := Option.some.inj H; have H := K250) | (obtain ⟨q250, H2, e250⟩ := pbind H; obtain rfl := Option.some.inj e250; obtain rfl := Option.some.inj K250; have H := H2)
                                  obtain rfl := Option.some.inj H
                                  exact EJ.fin rfl (.tmp rfl .nil) ⟨rfl, hS.ext⟩
                                · replace H := pifb_f hb H
                                  refine CJ.skip (EJ.blk (EJ.next ?_))
                                  refine CJ.region ?_
                                  refine OJ.pures tU_ok 3 rfl ?_
                                  refine OJ.nil ?_
                                  exact EJ.round k (F' := [(1, .slice Aa1 a1.length ca1), (5, .pointer (some ⟨b9, 0, none⟩)), (6, .int .i64 (t2.Names.length : Int)), (11, .slice A17 t16.1.length c18), (12, .int .i64 t16.2.1), (24, .slice A35 t34.1.length c36), (40, .int .i64 y58), (41, .int .i64 (IntKind.i64.wrap (y59 + 1)))]) ⟨rfl, rfl, rfl, rfl, rfl, rfl, rfl, rfl, trivial⟩ (Nat.lt_succ_self _) ⟨(IntKind.i64.wrap (y59 + 1)), rfl, hS.pick [0, 1, 2, 3, 4, 5] [0, 1] rfl, H⟩
                            · replace H := pif_f (of_decide_eq_false hb) H
                              refine CJ.exit (EJ.skE (EJ.skE (EJ.hit (?_))))
                              exact EJ.meet (F' := [(1, .slice Aa1 a1.length ca1), (5, .pointer (some ⟨b9, 0, none⟩)), (6, .int .i64 (t2.Names.length : Int)), (11, .slice A17 t16.1.length c18), (12, .int .i64 t16.2.1), (24, .slice A35 t34.1.length c36), (40, .int .i64 y58)]) ⟨rfl, rfl, rfl, rfl, rfl, rfl, rfl, trivial⟩ ⟨H, rfl, hS.pick [0, 1, 2, 3, 4, 5] [0, 1] rfl⟩
                        · rintro F w1 ⟨he, rfl, hS⟩
                          obtain rfl := Option.some.inj he
                          have H := K259
                          refine EJ.blk (?_)
                          exact EJ.meet (F' := [(1, .slice Aa1 a1.length ca1), (5, .pointer (some ⟨b9, 0, none⟩)), (6, .int .i64 (t2.Names.length : Int)), (11, .slice A17 t16.1.length c18), (12, .int .i64 t16.2.1), (24, .slice A35 t34.1.length c36), (40, .int .i64 y58)]) ⟨rfl, rfl, rfl, rfl, rfl, rfl, rfl, trivial⟩ ⟨H, rfl, hS.pick [0, 1, 2, 3, 4, 5] [0, 1] rfl⟩
                      · rintro F w1 ⟨he, rfl, hS⟩
                        obtain rfl := Option.some.inj he
                        have H := K257
                        refine CJ.region ?_
                        refine OJ.pures tU_ok 3 rfl ?_
                        refine OJ.nil ?_
                        exact EJ.round k (F' := [(1, .slice Aa1 a1.length ca1), (5, .pointer (some ⟨b9, 0, none⟩)), (6, .int .i64 (t2.Names.length : Int)), (11, .slice A17 t16.1.length c18), (12, .int .i64 t16.2.1), (24, .slice A35 t34.1.length c36), (40, .int .i64 (IntKind.i64.wrap (y58 + 1)))]) ⟨rfl, rfl, rfl, rfl, rfl, rfl, rfl, trivial⟩ (Nat.lt_succ_self _) ⟨(IntKind.i64.wrap (y58 + 1)), rfl, hS.pick [0, 1, 2, 3, 4, 5] [0, 1] rfl, H⟩
                    · replace H := pif_f (of_decide_eq_false hb) H
                      refine CJ.exit (EJ.skE (EJ.skE (EJ.hit (?_))))
                      exact EJ.meet (F' := [(1, .slice Aa1 a1.length ca1), (5, .pointer (some ⟨b9, 0, none⟩)), (6, .int .i64 (t2.Names.length : Int)), (11, .slice A17 t16.1.length c18), (12, .int .i64 t16.2.1)]) ⟨rfl, rfl, rfl, rfl, rfl, trivial⟩ ⟨H, rfl, hS.pick [0, 1, 2, 3, 4] [0, 1] rfl⟩
                · rintro F w1 ⟨he, rfl, hS⟩
                  obtain rfl := Option.some.inj he
                  have H := K250
                  refine EJ.next ?_
                  refine CJ.seq ?_
                  refine CJ.region ?_
                  refine OJ.st rfl rfl rfl (SR.load rfl rfl (fun w' hx => ldN tU_ok tI_ok rfl rfl rfl (CA.ext (hS.cells (i := 3) rfl) hx) (ds := [.slice A3 t2.Names.length c4, .slice A5 t2.Eats.length c6, .slice A7 t2.Foes.length c8]) rfl rfl)) ?_
                  refine OJ.pures tU_ok 1 rfl ?_
                  obtain ⟨t63, ht63, H⟩ := pbind H
                  refine OJ.callF rfl rfl rfl rfl rfl hb19 rfl (impl_NeedsOf.c k _ A3 c4 A5 c6 A7 c8 t2 (hS.rd (i := 0) rfl) (hS.le (i := 0) rfl) (hS.rd (i := 1) rfl) (hS.le (i := 1) rfl) (hS.rd (i := 2) rfl) (hS.le (i := 2) rfl) A17 c18 t16.1 (hS.rd (i := 4) rfl) (hS.le (i := 4) rfl) _ ht63) ?_
                  rintro _ w1 ⟨A64, c65, rfl, hs⟩
                  replace hS := hS.addN hs
                  have hS : St w no w1 [rowC G.cs A3 c4 9 t2.Names, rowC (ci .i16) A5 c6 45 t2.Eats, rowC (ci .u16) A7 c8 64 t2.Foes, box b9 ([.slice A3 t2.Names.length c4, .slice A5 t2.Eats.length c6, .slice A7 t2.Foes.length c8]) 28, rowC (ci .i64) A17 c18 2 t16.1, rowC (ci .i64) A64 c65 2 t63.1] [roC (ci .u8) Aa0 ca0 a0, roC (ci .u8) Aa1 ca1 a1] := hS
                  refine OJ.pures tU_ok 5 rfl ?_
                  refine OJ.nil (EJ.next ?_)
                  refine CJ.seq ?_
                  obtain ⟨j262, H, K262⟩ := pbind H
                  refine CJ.cut (fun F w1 => ∃ (y66 : Bool) , (some y66 : Option Bool) = some j262 ∧ F = [(1, .slice Aa1 a1.length ca1), (5, .pointer (some ⟨b9, 0, none⟩)), (6, .int .i64 (t2.Names.length : Int)), (11, .slice A17 t16.1.length c18), (12, .int .i64 t16.2.1), (44, .slice A64 t63.1.length c65), (353, .bool y66)] ∧ St w no w1 [rowC G.cs A3 c4 9 t2.Names, rowC (ci .i16) A5 c6 45 t2.Eats, rowC (ci .u16) A7 c8 64 t2.Foes, box b9 ([.slice A3 t2.Names.length c4, .slice A5 t2.Eats.length c6, .slice A7 t2.Foes.length c8]) 28, rowC (ci .i64) A17 c18 2 t16.1, rowC (ci .i64) A64 c65 2 t63.1] [roC (ci .u8) Aa0 ca0 a0, roC (ci .u8) Aa1 ca1 a1]) ?_ ?_
                  · skip
                    refine CJ.region ?_
                    refine OJ.pures tU_ok 3 rfl ?_
                    refine OJ.split (t := 348) rfl (fun hb => ?_) (fun hb => ?_)
                    · replace H := pif_t (of_decide_eq_true hb) H
                      refine OJ.pures tU_ok 5 rfl ?_
                      refine OJ.nil ?_
                      exact EJ.meet (F' := [(1, .slice Aa1 a1.length ca1), (5, .pointer (some ⟨b9, 0, none⟩)), (6, .int .i64 (t2.Names.length : Int)), (11, .slice A17 t16.1.length c18), (12, .int .i64 t16.2.1), (44, .slice A64 t63.1.length c65), (353, .bool true)]) ⟨rfl, rfl, rfl, rfl, rfl, rfl, rfl, trivial⟩ ⟨true, H, rfl, hS.pick [0, 1, 2, 3, 4, 5] [0, 1] rfl⟩
                    · replace H := pif_f (of_decide_eq_false hb) H
                      refine OJ.pures tU_ok 5 rfl ?_
                      refine OJ.nil ?_
                      exact EJ.meet (F' := [(1, .slice Aa1 a1.length ca1), (5, .pointer (some ⟨b9, 0, none⟩)), (6, .int .i64 (t2.Names.length : Int)), (11, .slice A17 t16.1.length c18), (12, .int .i64 t16.2.1), (44, .slice A64 t63.1.length c65), (353, .bool (decide ((t63.1.length : Int) ≠ t16.2.1)))]) ⟨rfl, rfl, rfl, rfl, rfl, rfl, rfl, trivial⟩ ⟨(decide ((t63.1.length : Int) ≠ t16.2.1)), H, rfl, hS.pick [0, 1, 2, 3, 4, 5] [0, 1] rfl⟩
                  · rintro F w1 ⟨y66, he, rfl, hS⟩
                    obtain rfl := Option.some.inj he
                    have H := K262
                    refine CJ.cond rfl (fun hb => ?_) (fun hb => ?_)
                    · replace H := pif_t hb H
                      refine CJ.seq ?_
                      refine CJ.region ?_
                      refine OJ.pures tU_ok 1 rfl ?_
                      refine OJ.nil (EJ.next ?_)
                      refine CJ.ret (EJ.skR (?_))
                      obtain rfl := Option.some.inj H
                      exact EJ.fin rfl (.tmp rfl .nil) ⟨rfl, hS.ext⟩
                    · replace H := pifb_f hb H
                      refine CJ.skip (EJ.next ?_)
                      refine CJ.seq ?_
                      refine CJ.region ?_
                      refine OJ.ef rfl rfl rfl (Ef.lit tU_ok tI_ok hS (C := (ci .i64)) rfl rfl rfl rfl rfl rfl ([] : List Int) rfl rfl rfl rfl) ?_
                      rintro _ w1 ⟨A67, rfl, hS⟩
                      refine OJ.pures tU_ok 1 rfl ?_
                      refine OJ.nil (EJ.next ?_)
                      refine CJ.seq ?_
                      refine CJ.seq ?_
                      refine CJ.region ?_
                      refine OJ.pures tU_ok 1 rfl ?_
                      refine OJ.nil (EJ.next ?_)
                      obtain ⟨j263, H, K263⟩ := pbind H
                      refine CJ.cut1 (fun F w1 => ∃ (y68 : List Int) (A69 : Option Addr) (c70 : Nat), (some y68 : Option (List Int)) = some j263 ∧ F = [(5, .pointer (some ⟨b9, 0, none⟩)), (6, .int .i64 (t2.Names.length : Int)), (11, .slice A17 t16.1.length c18), (12, .int .i64 t16.2.1), (44, .slice A64 t63.1.length c65), (46, .slice A69 y68.length c70)] ∧ St w no w1 [rowC G.cs A3 c4 9 t2.Names, rowC (ci .i16) A5 c6 45 t2.Eats, rowC (ci .u16) A7 c8 64 t2.Foes, box b9 ([.slice A3 t2.Names.length c4, .slice A5 t2.Eats.length c6, .slice A7 t2.Foes.length c8]) 28, rowC (ci .i64) A17 c18 2 t16.1, rowC (ci .i64) A64 c65 2 t63.1, rowC (ci .i64) A69 c70 2 y68] [roC (ci .u8) Aa0 ca0 a0, roC (ci .u8) Aa1 ca1 a1]) ?_ ?_
                      · skip
                        refine CJ.block ?_
                        refine CJ.loop (fun k F w1 => ∃ (y71 : List Int) (y74 : Int) (A72 : Option Addr) (c73 : Nat), F = [(1, .slice Aa1 a1.length ca1), (5, .pointer (some ⟨b9, 0, none⟩)), (6, .int .i64 (t2.Names.length : Int)), (11, .slice A17 t16.1.length c18), (12, .int .i64 t16.2.1), (44, .slice A64 t63.1.length c65), (46, .slice A72 y71.length c73), (47, .int .i64 y74)] ∧ St w no w1 [rowC G.cs A3 c4 9 t2.Names, rowC (ci .i16) A5 c6 45 t2.Eats, rowC (ci .u16) A7 c8 64 t2.Foes, box b9 ([.slice A3 t2.Names.length c4, .slice A5 t2.Eats.length c6, .slice A7 t2.Foes.length c8]) 28, rowC (ci .i64) A17 c18 2 t16.1, rowC (ci .i64) A64 c65 2 t63.1, rowC (ci .i64) A72 c73 2 y71] [roC (ci .u8) Aa0 ca0 a0, roC (ci .u8) Aa1 ca1 a1] ∧ laws_FnGroups.l6 a1 t16 k y71 y74 = some j263) k (F' := [(1, .slice Aa1 a1.length ca1), (5, .pointer (some ⟨b9, 0, none⟩)), (6, .int .i64 (t2.Names.length : Int)), (11, .slice A17 t16.1.length c18), (12, .int .i64 t16.2.1), (44, .slice A64 t63.1.length c65), (46, .slice A67 ([] : List Int).length (([] : List Int).length)), (47, .int .i64 0)]) ⟨rfl, rfl, rfl, rfl, rfl, rfl, rfl, rfl, trivial⟩ ⟨([] : List Int), 0, A67, (([] : List Int).length), rfl, hS.pick [0, 1, 2, 3, 4, 5, 6] [0, 1] rfl, H⟩ ?_
                        rintro k F w1 ⟨y71, y74, A72, c73, rfl, hS, H⟩
                        cases k with
                        | zero => rw [laws_FnGroups.l6] at H; cases H
                        | succ k =>
                          rw [laws_FnGroups.l6] at H
                          refine CJ.seq ?_
                          refine CJ.seq ?_
                          refine CJ.region ?_
                          refine OJ.pures tU_ok 4 rfl ?_
                          refine OJ.nil (EJ.next ?_)
                          refine CJ.cond rfl (fun hb => ?_) (fun hb => ?_)
                          · replace H := pif_t (of_decide_eq_true hb) H
                            refine CJ.skip (EJ.next ?_)
                            refine CJ.seq ?_
                            refine CJ.block ?_
                            refine CJ.region ?_
                            refine OJ.pures tU_ok 3 rfl ?_
                            obtain ⟨t75, ht75, H⟩ := pbind H
                            refine OJ.callF rfl rfl rfl rfl rfl hb20 rfl (laws_a2At.c _ Aa1 ca1 a1 (hS.rd' (i := 1) rfl) (hS.le' (i := 1) rfl) y74 40 _ ht75) ?_
                            rintro _ w1 ⟨rfl, hs⟩
                            replace hS := hS.grow hs
                            refine OJ.pures tU_ok 1 rfl ?_
                            refine OJ.ef rfl rfl rfl (Ef.lit tU_ok tI_ok hS (C := (ci .i64)) rfl rfl rfl rfl rfl rfl ([IntKind.i64.wrap (4 * t75)] : List Int) rfl rfl rfl rfl) ?_
                            rintro _ w1 ⟨A76, rfl, hS⟩
                            obtain ⟨u77, hu77, H⟩ := pbind H
                            refine OJ.ew rfl rfl rfl (Ew.append tU_ok tI_ok (C := (ci .i64)) (xs := y71) (ys := ([IntKind.i64.wrap (4 * t75)] : List Int)) hS (i := 6) rfl rfl rfl rfl rfl rfl rfl rfl rfl rfl rfl rfl rfl (hS.rd (i := 7) rfl) (chk_some hu77)) ?_
                            rintro _ w1 ⟨A78, c79, rfl, hS⟩
                            refine OJ.pures tU_ok 1 rfl ?_
                            refine OJ.nil (EJ.blk (EJ.next ?_))
                            refine CJ.region ?_
                            refine OJ.pures tU_ok 3 rfl ?_
                            refine OJ.nil ?_
                            exact EJ.round k (F' := [(1, .slice Aa1 a1.length ca1), (5, .pointer (some ⟨b9, 0, none⟩)), (6, .int .i64 (t2.Names.length : Int)), (11, .slice A17 t16.1.length c18), (12, .int .i64 t16.2.1), (44, .slice A64 t63.1.length c65), (46, .slice A78 (y71 ++ ([IntKind.i64.wrap (4 * t75)] : List Int)).length c79), (47, .int .i64 (IntKind.i64.wrap (y74 + 1)))]) ⟨rfl, rfl, rfl, rfl, rfl, rfl, rfl, rfl, trivial⟩ (Nat.lt_succ_self _) ⟨(y71 ++ ([IntKind.i64.wrap (4 * t75)] : List Int)), (IntKind.i64.wrap (y74 + 1)), A78, c79, rfl, hS.pick [0, 1, 2, 3, 4, 5, 6] [0, 1] rfl, H⟩
                          · replace H := pif_f (of_decide_eq_false hb) H
                            refine CJ.exit (EJ.skE (EJ.skE (EJ.hit (?_))))
                            exact EJ.meet (F' := [(5, .pointer (some ⟨b9, 0, none⟩)), (6, .int .i64 (t2.Names.length : Int)), (11, .slice A17 t16.1.length c18), (12, .int .i64 t16.2.1), (44, .slice A64 t63.1.length c65), (46, .slice A72 y71.length c73)]) ⟨rfl, rfl, rfl, rfl, rfl, rfl, trivial⟩ ⟨y71, A72, c73, H, rfl, hS.pick [0, 1, 2, 3, 4, 5, 6] [0, 1] rfl⟩
                      · rintro F w1 ⟨y68, A69, c70, he, rfl, hS⟩
                        obtain rfl := Option.some.inj he
                        have H := K263
                        refine EJ.next ?_
                        refine CJ.seq ?_
                        refine CJ.region ?_
                        refine OJ.st rfl rfl rfl (SR.load rfl rfl (fun w' hx => ldN tU_ok tI_ok rfl rfl rfl (CA.ext (hS.cells (i := 3) rfl) hx) (ds := [.slice A3 t2.Names.length c4, .slice A5 t2.Eats.length c6, .slice A7 t2.Foes.length c8]) rfl rfl)) ?_
                        refine OJ.pures tU_ok 2 rfl ?_
                        obtain ⟨t80, ht80, H⟩ := pbind H
                        refine OJ.callF rfl rfl rfl rfl rfl hb21 rfl (impl_FitGroups.c k _ A3 c4 A5 c6 A7 c8 t2 (hS.rd (i := 0) rfl) (hS.le (i := 0) rfl) (hS.rd (i := 1) rfl) (hS.le (i := 1) rfl) (hS.rd (i := 2) rfl) (hS.le (i := 2) rfl) A17 c18 t16.1 (hS.rd (i := 4) rfl) (hS.le (i := 4) rfl) A69 c70 y68 (hS.rd (i := 6) rfl) (hS.le (i := 6) rfl) _ ht80) ?_
                        rintro _ w1 ⟨A81, c82, rfl, hs⟩
                        replace hS := hS.addN hs
                        have hS : St w no w1 [rowC G.cs A3 c4 9 t2.Names, rowC (ci .i16) A5 c6 45 t2.Eats, rowC (ci .u16) A7 c8 64 t2.Foes, box b9 ([.slice A3 t2.Names.length c4, .slice A5 t2.Eats.length c6, .slice A7 t2.Foes.length c8]) 28, rowC (ci .i64) A17 c18 2 t16.1, rowC (ci .i64) A64 c65 2 t63.1, rowC (ci .i64) A69 c70 2 y68, rowC (ci .i64) A81 c82 2 t80.1] [roC (ci .u8) Aa0 ca0 a0, roC (ci .u8) Aa1 ca1 a1] := hS
                        refine OJ.pures tU_ok 5 rfl ?_
                        refine OJ.nil (EJ.next ?_)
                        refine CJ.seq ?_
                        refine CJ.region ?_
                        refine OJ.st rfl rfl rfl (SR.load rfl rfl (fun w' hx => ldN tU_ok tI_ok rfl rfl rfl (CA.ext (hS.cells (i := 3) rfl) hx) (ds := [.slice A3 t2.Names.length c4, .slice A5 t2.Eats.length c6, .slice A7 t2.Foes.length c8]) rfl rfl)) ?_
                        refine OJ.pures tU_ok 2 rfl ?_
                        obtain ⟨t83, ht83, H⟩ := pbind H
                        refine OJ.callF rfl rfl rfl rfl rfl hb22 rfl (spec_FitGroups.c k _ A3 c4 A5 c6 A7 c8 t2 (hS.rd (i := 0) rfl) (hS.le (i := 0) rfl) (hS.rd (i := 1) rfl) (hS.le (i := 1) rfl) (hS.rd (i := 2) rfl) (hS.le (i := 2) rfl) A17 c18 t16.1 (hS.rd (i := 4) rfl) (hS.le (i := 4) rfl) A69 c70 y68 (hS.rd (i := 6) rfl) (hS.le (i := 6) rfl) _ ht83) ?_
                        rintro _ w1 ⟨A84, c85, rfl, hs⟩
                        replace hS := hS.addN hs
                        have hS : St w no w1 [rowC G.cs A3 c4 9 t2.Names, rowC (ci .i16) A5 c6 45 t2.Eats, rowC (ci .u16) A7 c8 64 t2.Foes, box b9 ([.slice A3 t2.Names.length c4, .slice A5 t2.Eats.length c6, .slice A7 t2.Foes.length c8]) 28, rowC (ci .i64) A17 c18 2 t16.1, rowC (ci .i64) A64 c65 2 t63.1, rowC (ci .i64) A69 c70 2 y68, rowC (ci .i64) A81 c82 2 t80.1, rowC (ci .i64) A84 c85 2 t83.1] [roC (ci .u8) Aa0 ca0 a0, roC (ci .u8) Aa1 ca1 a1] := hS
                        refine OJ.pures tU_ok 5 rfl ?_
                        refine OJ.nil (EJ.next ?_)
                        refine CJ.seq ?_
                        obtain ⟨j437, H, K437⟩ := pbind H
                        refine CJ.cut (fun F w1 => ∃ (y86 : Bool) , (some y86 : Option Bool) = some j437 ∧ F = [(5, .pointer (some ⟨b9, 0, none⟩)), (6, .int .i64 (t2.Names.length : Int)), (12, .int .i64 t16.2.1), (44, .slice A64 t63.1.length c65), (46, .slice A69 y68.length c70), (49, .int .i64 t80.2), (50, .slice A84 t83.1.length c85), (398, .bool y86)] ∧ St w no w1 [rowC G.cs A3 c4 9 t2.Names, rowC (ci .i16) A5 c6 45 t2.Eats, rowC (ci .u16) A7 c8 64 t2.Foes, box b9 ([.slice A3 t2.Names.length c4, .slice A5 t2.Eats.length c6, .slice A7 t2.Foes.length c8]) 28, rowC (ci .i64) A64 c65 2 t63.1, rowC (ci .i64) A69 c70 2 y68, rowC (ci .i64) A84 c85 2 t83.1] [roC (ci .u8) Aa0 ca0 a0, roC (ci .u8) Aa1 ca1 a1]) ?_ ?_
                        · skip
                          refine CJ.region ?_
                          refine OJ.pures tU_ok 4 rfl ?_
                          refine OJ.split (t := 385) rfl (fun hb => ?_) (fun hb => ?_)
                          · replace H := pif_t (of_decide_eq_true hb) H
                            refine OJ.pures tU_ok 13 rfl ?_
                            refine OJ.nil ?_
                            exact EJ.meet (F' := [(5, .pointer (some ⟨b9, 0, none⟩)), (6, .int .i64 (t2.Names.length : Int)), (12, .int .i64 t16.2.1), (44, .slice A64 t63.1.length c65), (46, .slice A69 y68.length c70), (49, .int .i64 t80.2), (50, .slice A84 t83.1.length c85), (398, .bool true)]) ⟨rfl, rfl, rfl, rfl, rfl, rfl, rfl, rfl, trivial⟩ ⟨true, H, rfl, hS.pick [0, 1, 2, 3, 5, 6, 8] [0, 1] rfl⟩
                          · replace H := pif_f (of_decide_eq_false hb) H
                            refine OJ.pures tU_ok 2 rfl ?_
                            obtain ⟨t87, ht87, H⟩ := pbind H
                            refine OJ.callF rfl rfl rfl rfl rfl hb17 rfl (spec_A2Same.c k _ A81 c82 t80.1 (hS.rd (i := 7) rfl) (hS.le (i := 7) rfl) A84 c85 t83.1 (hS.rd (i := 8) rfl) (hS.le (i := 8) rfl) _ ht87) ?_
                            rintro _ w1 ⟨rfl, hs⟩
                            replace hS := hS.grow hs
                            refine OJ.pures tU_ok 3 rfl ?_
                            refine OJ.split (t := 391) rfl (fun hb => ?_) (fun hb => ?_)
                            · replace H := pif_t hb H
                              refine OJ.pures tU_ok 7 rfl ?_
                              refine OJ.nil ?_
                              exact EJ.meet (F' := [(5, .pointer (some ⟨b9, 0, none⟩)), (6, .int .i64 (t2.Names.length : Int)), (12, .int .i64 t16.2.1), (44, .slice A64 t63.1.length c65), (46, .slice A69 y68.length c70), (49, .int .i64 t80.2), (50, .slice A84 t83.1.length c85), (398, .bool true)]) ⟨rfl, rfl, rfl, rfl, rfl, rfl, rfl, rfl, trivial⟩ ⟨true, H, rfl, hS.pick [0, 1, 2, 3, 5, 6, 8] [0, 1] rfl⟩
                            · replace H := pifb_f hb H
                              refine OJ.pures tU_ok 3 rfl ?_
                              refine OJ.split (t := 394) rfl (fun hb => ?_) (fun hb => ?_)
                              · replace H := pif_t (of_decide_eq_true hb) H
                                refine OJ.pures tU_ok 4 rfl ?_
                                refine OJ.nil ?_
                                exact EJ.meet (F' := [(5, .pointer (some ⟨b9, 0, none⟩)), (6, .int .i64 (t2.Names.length : Int)), (12, .int .i64 t16.2.1), (44, .slice A64 t63.1.length c65), (46, .slice A69 y68.length c70), (49, .int .i64 t80.2), (50, .slice A84 t83.1.length c85), (398, .bool (decide (t80.2 ≠ 6)))]) ⟨rfl, rfl, rfl, rfl, rfl, rfl, rfl, rfl, trivial⟩ ⟨(decide (t80.2 ≠ 6)), H, rfl, hS.pick [0, 1, 2, 3, 5, 6, 8] [0, 1] rfl⟩
                              · replace H := pif_f (of_decide_eq_false hb) H
                                refine OJ.pures tU_ok 4 rfl ?_
                                refine OJ.nil ?_
                                exact EJ.meet (F' := [(5, .pointer (some ⟨b9, 0, none⟩)), (6, .int .i64 (t2.Names.length : Int)), (12, .int .i64 t16.2.1), (44, .slice A64 t63.1.length c65), (46, .slice A69 y68.length c70), (49, .int .i64 t80.2), (50, .slice A84 t83.1.length c85), (398, .bool false)]) ⟨rfl, rfl, rfl, rfl, rfl, rfl, rfl, rfl, trivial⟩ ⟨false, H, rfl, hS.pick [0, 1, 2, 3, 5, 6, 8] [0, 1] rfl⟩
                        · rintro F w1 ⟨y86, he, rfl, hS⟩
                          obtain rfl := Option.some.inj he
                          have H := K437
                          refine CJ.cond rfl (fun hb => ?_) (fun hb => ?_)
                          · replace H := pif_t hb H
                            refine CJ.seq ?_
                            refine CJ.region ?_
                            refine OJ.pures tU_ok 1 rfl ?_
                            refine OJ.nil (EJ.next ?_)
                            refine CJ.ret (EJ.skR (?_))
                            obtain rfl := Option.some.inj H
                            exact EJ.fin rfl (.tmp rfl .nil) ⟨rfl, hS.ext⟩
                          · replace H := pifb_f hb H
                            refine CJ.skip (EJ.next ?_)
                            refine CJ.seq ?_
                            refine CJ.region ?_
                            refine OJ.pures tU_ok 1 rfl ?_
                            refine OJ.nil (EJ.next ?_)
                            refine CJ.seq ?_
                            refine CJ.seq ?_
                            refine CJ.region ?_
                            refine OJ.pures tU_ok 1 rfl ?_
                            refine OJ.nil (EJ.next ?_)
                            obtain ⟨j438, H, K438⟩ := pbind H
                            refine CJ.cut1 (fun F w1 => ∃ (y88 : Int) , (some y88 : Option Int) = some j438 ∧ F = [(12, .int .i64 t16.2.1), (44, .slice A64 t63.1.length c65), (46, .slice A69 y68.length c70), (49, .int .i64 t80.2), (50, .slice A84 t83.1.length c85), (52, .int .i64 y88)] ∧ St w no w1 [rowC (ci .i64) A64 c65 2 t63.1, rowC (ci .i64) A69 c70 2 y68, rowC (ci .i64) A84 c85 2 t83.1] [roC (ci .u8) Aa0 ca0 a0, roC (ci .u8) Aa1 ca1 a1]) ?_ ?_
                            · skip
                              refine CJ.block ?_
                              refine CJ.loop (fun k F w1 => ∃ (y89 : Int) (y90 : Int), F = [(5, .pointer (some ⟨b9, 0, none⟩)), (6, .int .i64 (t2.Names.length : Int)), (12, .int .i64 t16.2.1), (44, .slice A64 t63.1.length c65), (46, .slice A69 y68.length c70), (49, .int .i64 t80.2), (50, .slice A84 t83.1.length c85), (52, .int .i64 y89), (53, .int .i64 y90)] ∧ St w no w1 [rowC G.cs A3 c4 9 t2.Names, rowC (ci .i16) A5 c6 45 t2.Eats, rowC (ci .u16) A7 c8 64 t2.Foes, box b9 ([.slice A3 t2.Names.length c4, .slice A5 t2.Eats.length c6, .slice A7 t2.Foes.length c8]) 28, rowC (ci .i64) A64 c65 2 t63.1, rowC (ci .i64) A69 c70 2 y68, rowC (ci .i64) A84 c85 2 t83.1] [roC (ci .u8) Aa0 ca0 a0, roC (ci .u8) Aa1 ca1 a1] ∧ laws_FnGroups.l7 t2 k y89 y90 = some j438) k (F' := [(5, .pointer (some ⟨b9, 0, none⟩)), (6, .int .i64 (t2.Names.length : Int)), (12, .int .i64 t16.2.1), (44, .slice A64 t63.1.length c65), (46, .slice A69 y68.length c70), (49, .int .i64 t80.2), (50, .slice A84 t83.1.length c85), (52, .int .i64 0), (53, .int .i64 0)]) ⟨rfl, rfl, rfl, rfl, rfl, rfl, rfl, rfl, rfl, trivial⟩ ⟨0, 0, rfl, hS.pick [0, 1, 2, 3, 4, 5, 6] [0, 1] rfl, H⟩ ?_
                              rintro k F w1 ⟨y89, y90, rfl, hS, H⟩
                              cases k with
                              | zero => rw [laws_FnGroups.l7] at H; cases H
                              | succ k =>
                                rw [laws_FnGroups.l7] at H
                                refine CJ.seq ?_
                                refine CJ.seq ?_
                                refine CJ.region ?_
                                refine OJ.pures tU_ok 3 rfl ?_
                                refine OJ.nil (EJ.next ?_)
                                refine CJ.cond rfl (fun hb => ?_) (fun hb => ?_)
                                · replace H := pif_t (of_decide_eq_true hb) H
                                  refine CJ.skip (EJ.next ?_)
                                  refine CJ.seq ?_
                                  refine CJ.block ?_
                                  refine CJ.region ?_
                                  refine OJ.pures tU_ok 1 rfl ?_
                                  refine OJ.st rfl rfl rfl (SR.fieldAddr tU_ok tI_ok rfl rfl rfl rfl rfl rfl) ?_
                                  refine OJ.st rfl rfl rfl (SR.load rfl rfl (fun w' hx => ld1 tU_ok rfl rfl (CA.ext (CA.sub (hS.cells (i := 3) rfl) 1) hx) rfl)) ?_
                                  refine OJ.pures tU_ok 1 rfl ?_
                                  obtain ⟨t91, ht91, H⟩ := pbind H
                                  obtain ⟨ad91, e91⟩ := (hS.rd (i := 1) rfl).some' ht91
                                  refine OJ.st rfl rfl rfl (SR.idxS tU_ok tI_ok rfl rfl rfl rfl e91 rfl (getI_some ht91).1) ?_
                                  refine OJ.st rfl rfl rfl (SR.load rfl rfl (fun w' hx => ld1 tU_ok rfl rfl (CA.ext ((hS.rd (i := 1) rfl).at_ e91 ht91) hx) rfl)) ?_
                                  refine OJ.pures tU_ok 3 rfl ?_
                                  refine OJ.nil (EJ.blk (EJ.next ?_))
                                  refine CJ.region ?_
                                  refine OJ.pures tU_ok 3 rfl ?_
                                  refine OJ.nil ?_
                                  exact EJ.round k (F' := [(5, .pointer (some ⟨b9, 0, none⟩)), (6, .int .i64 (t2.Names.length : Int)), (12, .int .i64 t16.2.1), (44, .slice A64 t63.1.length c65), (46, .slice A69 y68.length c70), (49, .int .i64 t80.2), (50, .slice A84 t83.1.length c85), (52, .int .i64 (IntKind.i64.wrap (y89 + (IntKind.i64.wrap t91)))), (53, .int .i64 (IntKind.i64.wrap (y90 + 1)))]) ⟨rfl, rfl, rfl, rfl, rfl, rfl, rfl, rfl, rfl, trivial⟩ (Nat.lt_succ_self _) ⟨(IntKind.i64.wrap (y89 + (IntKind.i64.wrap t91))), (IntKind.i64.wrap (y90 + 1)), rfl, hS.pick [0, 1, 2, 3, 4, 5, 6] [0, 1] rfl, H⟩
                                · replace H := pif_f (of_decide_eq_false hb) H
                                  refine CJ.exit (EJ.skE (EJ.skE (EJ.hit (?_))))
                                  exact EJ.meet (F' := [(12, .int .i64 t16.2.1), (44, .slice A64 t63.1.length c65), (46, .slice A69 y68.length c70), (49, .int .i64 t80.2), (50, .slice A84 t83.1.length c85), (52, .int .i64 y89)]) ⟨rfl, rfl, rfl, rfl, rfl, rfl, trivial⟩ ⟨y89, H, rfl, hS.pick [4, 5, 6] [0, 1] rfl⟩
                            · rintro F w1 ⟨y88, he, rfl, hS⟩
                              obtain rfl := Option.some.inj he
                              have H := K438
                              refine EJ.next ?_
                              refine CJ.seq ?_
                              refine CJ.seq ?_
                              refine CJ.region ?_
                              refine OJ.pures tU_ok 1 rfl ?_
                              refine OJ.nil (EJ.next ?_)
                              obtain ⟨j439, H, K439⟩ := pbind H
                              refine CJ.cut1 (fun F w1 => ∃ (y92 : Int) , (some (Sum.inr y92) : Option (Bool ⊕ Int)) = some j439 ∧ F = [(52, .int .i64 y92)] ∧ St w no w1 [] [roC (ci .u8) Aa0 ca0 a0, roC (ci .u8) Aa1 ca1 a1]) ?_ ?_
                              · skip
                                refine CJ.block ?_
                                refine CJ.loop (fun k F w1 => ∃ (y93 : Int) (y94 : Int), F = [(12, .int .i64 t16.2.1), (44, .slice A64 t63.1.length c65), (46, .slice A69 y68.length c70), (49, .int .i64 t80.2), (50, .slice A84 t83.1.length c85), (52, .int .i64 y93), (54, .int .i64 y94)] ∧ St w no w1 [rowC (ci .i64) A64 c65 2 t63.1, rowC (ci .i64) A69 c70 2 y68, rowC (ci .i64) A84 c85 2 t83.1] [roC (ci .u8) Aa0 ca0 a0, roC (ci .u8) Aa1 ca1 a1] ∧ laws_FnGroups.l8 t16 t63 y68 t80 t83 k y93 y94 = some j439) k (F' := [(12, .int .i64 t16.2.1), (44, .slice A64 t63.1.length c65), (46, .slice A69 y68.length c70), (49, .int .i64 t80.2), (50, .slice A84 t83.1.length c85), (52, .int .i64 y88), (54, .int .i64 0)]) ⟨rfl, rfl, rfl, rfl, rfl, rfl, rfl, trivial⟩ ⟨y88, 0, rfl, hS.pick [0, 1, 2] [0, 1] rfl, H⟩ ?_
                                rintro k F w1 ⟨y93, y94, rfl, hS, H⟩
                                cases k with
                                | zero => rw [laws_FnGroups.l8] at H; cases H
                                | succ k =>
                                  rw [laws_FnGroups.l8] at H
                                  refine CJ.seq ?_
                                  refine CJ.seq ?_
                                  refine CJ.region ?_
                                  refine OJ.pures tU_ok 4 rfl ?_
                                  refine OJ.nil (EJ.next ?_)
                                  refine CJ.cond rfl (fun hb => ?_) (fun hb => ?_)
                                  · replace H := pif_t (of_decide_eq_true hb) H
                                    refine CJ.skip (EJ.next ?_)
                                    obtain ⟨j450, H, K450⟩ := pbind H
                                    refine CJ.cut (fun F w1 => ∃ (y95 : Int) , (some (Sum.inr y95) : Option ((Bool ⊕ Int) ⊕ Int)) = some j450 ∧ F = [(12, .int .i64 t16.2.1), (44, .slice A64 t63.1.length c65), (46, .slice A69 y68.length c70), (49, .int .i64 t80.2), (50, .slice A84 t83.1.length c85), (52, .int .i64 y95), (54, .int .i64 y94)] ∧ St w no w1 [rowC (ci .i64) A64 c65 2 t63.1, rowC (ci .i64) A69 c70 2 y68, rowC (ci .i64) A84 c85 2 t83.1] [roC (ci .u8) Aa0 ca0 a0, roC (ci .u8) Aa1 ca1 a1]) ?_ ?_
                                    · skip
                                      refine CJ.block ?_
                                      refine CJ.seq ?_
                                      refine CJ.region ?_
                                      refine OJ.pures tU_ok 3 rfl ?_
                                      obtain ⟨t96, ht96, H⟩ := pbind H
                                      obtain ⟨ad96, e96⟩ := (hS.rd (i := 0) rfl).some' ht96
                                      refine OJ.st rfl rfl rfl (SR.idxS tU_ok tI_ok rfl rfl rfl rfl e96 rfl (getI_some ht96).1) ?_
                                      refine OJ.st rfl rfl rfl (SR.load rfl rfl (fun w' hx => ld1 tU_ok rfl rfl (CA.ext ((hS.rd (i := 0) rfl).at_ e96 ht96) hx) rfl)) ?_
                                      refine OJ.pures tU_ok 2 rfl ?_
                                      refine OJ.nil (EJ.next ?_)
                                      refine CJ.seq ?_
                                      refine CJ.seq ?_
                                      refine CJ.region ?_
                                      refine OJ.pures tU_ok 2 rfl ?_
                                      refine OJ.nil (EJ.next ?_)
                                      refine CJ.cond rfl (fun hb => ?_) (fun hb => ?_)
                                      · replace H := pif_t (of_decide_eq_true hb) H
                                        refine CJ.exit (EJ.skE (EJ.hit (?_)))
                                        exact EJ.meet (F' := [(12, .int .i64 t16.2.1), (44, .slice A64 t63.1.length c65), (46, .slice A69 y68.length c70), (49, .int .i64 t80.2), (50, .slice A84 t83.1.length c85), (52, .int .i64 (IntKind.i64.wrap (y93 - t96))), (54, .int .i64 y94)]) ⟨rfl, rfl, rfl, rfl, rfl, rfl, rfl, trivial⟩ ⟨(IntKind.i64.wrap (y93 - t96)), H, rfl, hS.pick [0, 1, 2] [0, 1] rfl⟩
                                      · replace H := pif_f (of_decide_eq_false hb) H
                                        refine CJ.skip (EJ.next ?_)
                                        refine CJ.seq ?_
                                        obtain ⟨j453, H, K453⟩ := pbind H
                                        refine CJ.cut (fun F w1 => ∃ (y97 : Bool) , (some y97 : Option Bool) = some j453 ∧ F = [(12, .int .i64 t16.2.1), (44, .slice A64 t63.1.length c65), (46, .slice A69 y68.length c70), (49, .int .i64 t80.2), (50, .slice A84 t83.1.length c85), (52, .int .i64 (IntKind.i64.wrap (y93 - t96))), (54, .int .i64 y94), (459, .bool y97)] ∧ St w no w1 [rowC (ci .i64) A64 c65 2 t63.1, rowC (ci .i64) A69 c70 2 y68, rowC (ci .i64) A84 c85 2 t83.1] [roC (ci .u8) Aa0 ca0 a0, roC (ci .u8) Aa1 ca1 a1]) ?_ ?_
                                        · skip
                                          refine CJ.draw [] [0, 1, 2, 3, 4, 5, 6, 7, 8, 9, 10, 11, 12, 13, 14, 15, 16, 17, 18, 19, 20, 21, 22, 23, 24, 25, 26, 27, 28, 29, 30, 31, 32, 33] mixed (by kernel_rfl) hS fun w1 hS => ?_
                                          refine DJ.pures tU_ok 6 rfl ?_
                                          refine DJ.split (t := 431) rfl (fun hb => ?_) (fun hb => ?_)
                                          · replace H := pif_t (of_decide_eq_true hb) H
                                            refine DJ.pures tU_ok 28 rfl ?_
                                            refine DJ.nil ?_
                                            exact EJ.meet (F' := [(12, .int .i64 t16.2.1), (44, .slice A64 t63.1.length c65), (46, .slice A69 y68.length c70), (49, .int .i64 t80.2), (50, .slice A84 t83.1.length c85), (52, .int .i64 (IntKind.i64.wrap (y93 - t96))), (54, .int .i64 y94), (459, .bool true)]) ⟨rfl, rfl, rfl, rfl, rfl, rfl, rfl, rfl, trivial⟩ ⟨true, H, rfl, hS.pick [0, 1, 2] [0, 1] rfl⟩
                                          · replace H := pif_f (of_decide_eq_false hb) H
                                            refine DJ.pures tU_ok 2 rfl ?_
                                            obtain ⟨t98, ht98, H⟩ := pbind H
                                            obtain ⟨ad98, e98⟩ := (hS.rd (i := 2) rfl).some' ht98
                                            refine DJ.st rfl rfl rfl rfl rfl (SR.idxS tU_ok tI_ok rfl rfl rfl rfl e98 rfl (getI_some ht98).1) ?_
                                            refine DJ.st rfl rfl rfl rfl rfl (SR.load rfl rfl (fun w' hx => ld1 tU_ok rfl rfl (CA.ext ((hS.rd (i := 2) rfl).at_ e98 ht98) hx) rfl)) ?_
                                            refine DJ.pures tU_ok 3 rfl ?_
                                            refine DJ.split (t := 438) rfl (fun hb => ?_) (fun hb => ?_)
                                            · replace H := pif_t (of_decide_eq_true hb) H
                                              refine DJ.pures tU_ok 21 rfl ?_
                                              refine DJ.nil ?_
                                              exact EJ.meet (F' := [(12, .int .i64 t16.2.1), (44, .slice A64 t63.1.length c65), (46, .slice A69 y68.length c70), (49, .int .i64 t80.2), (50, .slice A84 t83.1.length c85), (52, .int .i64 (IntKind.i64.wrap (y93 - t96))), (54, .int .i64 y94), (459, .bool true)]) ⟨rfl, rfl, rfl, rfl, rfl, rfl, rfl, rfl, trivial⟩ ⟨true, H, rfl, hS.pick [0, 1, 2] [0, 1] rfl⟩
                                            · replace H := pif_f (of_decide_eq_false hb) H
                                              refine DJ.pures tU_ok 2 rfl ?_
                                              obtain ⟨t99, ht99, H⟩ := pbind H
                                              obtain ⟨ad99, e99⟩ := (hS.rd (i := 2) rfl).some' ht99
                                              refine DJ.st rfl rfl rfl rfl rfl (SR.idxS tU_ok tI_ok rfl rfl rfl rfl e99 rfl (getI_some ht99).1) ?_
                                              refine DJ.st rfl rfl rfl rfl rfl (SR.load rfl rfl (fun w' hx => ld1 tU_ok rfl rfl (CA.ext ((hS.rd (i := 2) rfl).at_ e99 ht99) hx) rfl)) ?_
                                              refine DJ.pures tU_ok 4 rfl ?_
                                              refine DJ.split (t := 446) rfl (fun hb => ?_) (fun hb => ?_)
                                              · replace H := pif_t (of_decide_eq_true hb) H
                                                refine DJ.pures tU_ok 13 rfl ?_
                                                refine DJ.nil ?_
                                                exact EJ.meet (F' := [(12, .int .i64 t16.2.1), (44, .slice A64 t63.1.length c65), (46, .slice A69 y68.length c70), (49, .int .i64 t80.2), (50, .slice A84 t83.1.length c85), (52, .int .i64 (IntKind.i64.wrap (y93 - t96))), (54, .int .i64 y94), (459, .bool true)]) ⟨rfl, rfl, rfl, rfl, rfl, rfl, rfl, rfl, trivial⟩ ⟨true, H, rfl, hS.pick [0, 1, 2] [0, 1] rfl⟩
                                              · replace H := pif_f (of_decide_eq_false hb) H
                                                refine DJ.pures tU_ok 3 rfl ?_
                                                obtain ⟨t100, ht100, H⟩ := pbind H
                                                obtain ⟨ad100, e100⟩ := (hS.rd (i := 2) rfl).some' ht100
                                                refine DJ.st rfl rfl rfl rfl rfl (SR.idxS tU_ok tI_ok rfl rfl rfl rfl e100 rfl (getI_some ht100).1) ?_
                                                refine DJ.st rfl rfl rfl rfl rfl (SR.load rfl rfl (fun w' hx => ld1 tU_ok rfl rfl (CA.ext ((hS.rd (i := 2) rfl).at_ e100 ht100) hx) rfl)) ?_
                                                obtain ⟨t101, ht101, H⟩ := pbind H
                                                obtain ⟨ad101, e101⟩ := (hS.rd (i := 1) rfl).some' ht101
                                                refine DJ.st rfl rfl rfl rfl rfl (SR.idxS tU_ok tI_ok rfl rfl rfl rfl e101 rfl (getI_some ht101).1) ?_
                                                refine DJ.st rfl rfl rfl rfl rfl (SR.load rfl rfl (fun w' hx => ld1 tU_ok rfl rfl (CA.ext ((hS.rd (i := 1) rfl).at_ e101 ht101) hx) rfl)) ?_
                                                refine DJ.pures tU_ok 2 rfl ?_
                                                obtain ⟨t102, ht102, H⟩ := pbind H
                                                obtain ⟨ad102, e102⟩ := (hS.rd (i := 0) rfl).some' ht102
                                                refine DJ.st rfl rfl rfl rfl rfl (SR.idxS tU_ok tI_ok rfl rfl rfl rfl e102 rfl (getI_some ht102).1) ?_
                                                refine DJ.st rfl rfl rfl rfl rfl (SR.load rfl rfl (fun w' hx => ld1 tU_ok rfl rfl (CA.ext ((hS.rd (i := 0) rfl).at_ e102 ht102) hx) rfl)) ?_
                                                refine DJ.pures tU_ok 2 rfl ?_
                                                refine DJ.nil ?_
                                                exact EJ.meet (F' := [(12, .int .i64 t16.2.1), (44, .slice A64 t63.1.length c65), (46, .slice A69 y68.length c70), (49, .int .i64 t80.2), (50, .slice A84 t83.1.length c85), (52, .int .i64 (IntKind.i64.wrap (y93 - t96))), (54, .int .i64 y94), (459, .bool (decide (t101 < t102)))]) ⟨rfl, rfl, rfl, rfl, rfl, rfl, rfl, rfl, trivial⟩ ⟨(decide (t101 < t102)), H, rfl, hS.pick [0, 1, 2] [0, 1] rfl⟩
                                        · rintro F w1 ⟨y97, he, rfl, hS⟩
                                          obtain rfl := Option.some.inj he
                                          have H := K453
                                          refine CJ.cond rfl (fun hb => ?_) (fun hb => ?_)
                                          · replace H := pif_t hb H
                                            refine CJ.seq ?_
                                            refine CJ.region ?_
                                            refine OJ.pures tU_ok 1 rfl ?_
                                            refine OJ.nil (EJ.next ?_)
                                            refine CJ.ret (EJ.skR (EJ.bkR (EJ.skR (EJ.skR (EJ.bkR (EJ.skR (EJ.skR (?_))))))))
                                            first | (obtain rfl := Option.some.inj H; have H := K450) | (obtain ⟨q450, H2, e450⟩ := pbind H; obtain rfl := Option.some.inj e450; obtain rfl := Option.some.inj K450; have H := H2)
                                            first | (obtain rfl := Option.some.inj H; have H := K439) | (obtain ⟨q439, H2, e439⟩ := pbind H; obtain rfl := Option.some.inj e439; obtain rfl := Option.some.inj K439; have H := H2)
                                            obtain rfl := Option.some.inj H
                                            exact EJ.fin rfl (.tmp rfl .nil) ⟨rfl, hS.ext⟩
                                          · replace H := pifb_f hb H
                                            refine CJ.skip (EJ.next ?_)
                                            refine CJ.seq ?_
                                            refine CJ.region ?_
                                            refine OJ.pures tU_ok 1 rfl ?_
                                            refine OJ.nil (EJ.next ?_)
                                            obtain ⟨j454, H, K454⟩ := pbind H
                                            refine CJ.cut1 (fun F w1 => (some (Sum.inr ()) : Option (((Bool ⊕ Int) ⊕ Int) ⊕ Unit)) = some j454 ∧ F = [(12, .int .i64 t16.2.1), (44, .slice A64 t63.1.length c65), (46, .slice A69 y68.length c70), (49, .int .i64 t80.2), (50, .slice A84 t83.1.length c85), (52, .int .i64 (IntKind.i64.wrap (y93 - t96))), (54, .int .i64 y94)] ∧ St w no w1 [rowC (ci .i64) A64 c65 2 t63.1, rowC (ci .i64) A69 c70 2 y68, rowC (ci .i64) A84 c85 2 t83.1] [roC (ci .u8) Aa0 ca0 a0, roC (ci .u8) Aa1 ca1 a1]) ?_ ?_
                                            · skip
                                              refine CJ.block ?_
                                              refine CJ.loop (fun k F w1 => ∃ (y103 : Int), F = [(12, .int .i64 t16.2.1), (44, .slice A64 t63.1.length c65), (46, .slice A69 y68.length c70), (49, .int .i64 t80.2), (50, .slice A84 t83.1.length c85), (52, .int .i64 (IntKind.i64.wrap (y93 - t96))), (54, .int .i64 y94), (55, .int .i64 y103)] ∧ St w no w1 [rowC (ci .i64) A64 c65 2 t63.1, rowC (ci .i64) A69 c70 2 y68, rowC (ci .i64) A84 c85 2 t83.1] [roC (ci .u8) Aa0 ca0 a0, roC (ci .u8) Aa1 ca1 a1] ∧ laws_FnGroups.l9 t83 y94 k y103 = some j454) k (F' := [(12, .int .i64 t16.2.1), (44, .slice A64 t63.1.length c65), (46, .slice A69 y68.length c70), (49, .int .i64 t80.2), (50, .slice A84 t83.1.length c85), (52, .int .i64 (IntKind.i64.wrap (y93 - t96))), (54, .int .i64 y94), (55, .int .i64 0)]) ⟨rfl, rfl, rfl, rfl, rfl, rfl, rfl, rfl, trivial⟩ ⟨0, rfl, hS.pick [0, 1, 2] [0, 1] rfl, H⟩ ?_
                                              rintro k F w1 ⟨y103, rfl, hS, H⟩
                                              cases k with
                                              | zero => rw [laws_FnGroups.l9] at H; cases H
                                              | succ k =>
                                                rw [laws_FnGroups.l9] at H
                                                refine CJ.seq ?_
                                                refine CJ.seq ?_
                                                refine CJ.region ?_
                                                refine OJ.pures tU_ok 3 rfl ?_
                                                refine OJ.nil (EJ.next ?_)
                                                refine CJ.cond rfl (fun hb => ?_) (fun hb => ?_)
                                                · replace H := pif_t (of_decide_eq_true hb) H
                                                  refine CJ.skip (EJ.next ?_)
                                                  refine CJ.seq ?_
                                                  refine CJ.block ?_
                                                  refine CJ.seq ?_
                                                  refine CJ.draw [] [0, 1, 2, 3, 4, 5, 6, 7, 8] mixed (by kernel_rfl) hS fun w1 hS => ?_
                                                  refine DJ.pures tU_ok 2 rfl ?_
                                                  obtain ⟨t104, ht104, H⟩ := pbind H
                                                  obtain ⟨ad104, e104⟩ := (hS.rd (i := 2) rfl).some' ht104
                                                  refine DJ.st rfl rfl rfl rfl rfl (SR.idxS tU_ok tI_ok rfl rfl rfl rfl e104 rfl (getI_some ht104).1) ?_
                                                  refine DJ.st rfl rfl rfl rfl rfl (SR.load rfl rfl (fun w' hx => ld1 tU_ok rfl rfl (CA.ext ((hS.rd (i := 2) rfl).at_ e104 ht104) hx) rfl)) ?_
                                                  refine DJ.pures tU_ok 2 rfl ?_
                                                  obtain ⟨t105, ht105, H⟩ := pbind H
                                                  obtain ⟨ad105, e105⟩ := (hS.rd (i := 2) rfl).some' ht105
                                                  refine DJ.st rfl rfl rfl rfl rfl (SR.idxS tU_ok tI_ok rfl rfl rfl rfl e105 rfl (getI_some ht105).1) ?_
                                                  refine DJ.st rfl rfl rfl rfl rfl (SR.load rfl rfl (fun w' hx => ld1 tU_ok rfl rfl (CA.ext ((hS.rd (i := 2) rfl).at_ e105 ht105) hx) rfl)) ?_
                                                  refine DJ.pures tU_ok 1 rfl ?_
                                                  refine DJ.nil (EJ.next ?_)
                                                  refine CJ.cond rfl (fun hb => ?_) (fun hb => ?_)
                                                  · replace H := pif_t (of_decide_eq_true hb) H
                                                    refine CJ.seq ?_
                                                    refine CJ.region ?_
                                                    refine OJ.pures tU_ok 1 rfl ?_
                                                    refine OJ.nil (EJ.next ?_)
                                                    refine CJ.ret (EJ.bkR (EJ.skR (EJ.skR (EJ.bkR (EJ.skR (EJ.bkR (EJ.skR (EJ.skR (EJ.bkR (EJ.skR (EJ.skR (?_))))))))))))
                                                    first | (obtain rfl := Option.some.inj H; have H := K454) | (obtain ⟨q454, H2, e454⟩ := pbind H; obtain rfl := Option.some.inj e454; obtain rfl := Option.some.inj K454; have H := H2)
                                                    first | (obtain rfl := Option.some.inj H; have H := K450) | (obtain ⟨q450, H2, e450⟩ := pbind H; obtain rfl := Option.some.inj e450; obtain rfl := Option.some.inj K450; have H := H2)
                                                    first | (obtain rfl := Option.some.inj H; have H := K439) | (obtain ⟨q439, H2, e439⟩ := pbind H; obtain rfl := Option.some.inj e439; obtain rfl := Option.some.inj K439; have H := H2)
                                                    obtain rfl := Option.some.inj H
                                                    exact EJ.fin rfl (.tmp rfl .nil) ⟨rfl, hS.ext⟩
                                                  · replace H := pif_f (of_decide_eq_false hb) H
                                                    refine CJ.skip (EJ.blk (EJ.next ?_))
                                                    refine CJ.region ?_
                                                    refine OJ.pures tU_ok 3 rfl ?_
                                                    refine OJ.nil ?_
                                                    exact EJ.round k (F' := [(12, .int .i64 t16.2.1), (44, .slice A64 t63.1.length c65), (46, .slice A69 y68.length c70), (49, .int .i64 t80.2), (50, .slice A84 t83.1.length c85), (52, .int .i64 (IntKind.i64.wrap (y93 - t96))), (54, .int .i64 y94), (55, .int .i64 (IntKind.i64.wrap (y103 + 1)))]) ⟨rfl, rfl, rfl, rfl, rfl, rfl, rfl, rfl, trivial⟩ (Nat.lt_succ_self _) ⟨(IntKind.i64.wrap (y103 + 1)), rfl, hS.pick [0, 1, 2] [0, 1] rfl, H⟩
                                                · replace H := pif_f (of_decide_eq_false hb) H
                                                  refine CJ.exit (EJ.skE (EJ.skE (EJ.hit (?_))))
                                                  exact EJ.meet (F' := [(12, .int .i64 t16.2.1), (44, .slice A64 t63.1.length c65), (46, .slice A69 y68.length c70), (49, .int .i64 t80.2), (50, .slice A84 t83.1.length c85), (52, .int .i64 (IntKind.i64.wrap (y93 - t96))), (54, .int .i64 y94)]) ⟨rfl, rfl, rfl, rfl, rfl, rfl, rfl, trivial⟩ ⟨H, rfl, hS.pick [0, 1, 2] [0, 1] rfl⟩
                                            · rintro F w1 ⟨he, rfl, hS⟩
                                              obtain rfl := Option.some.inj he
                                              have H := K454
                                              refine EJ.blk (?_)
                                              exact EJ.meet (F' := [(12, .int .i64 t16.2.1), (44, .slice A64 t63.1.length c65), (46, .slice A69 y68.length c70), (49, .int .i64 t80.2), (50, .slice A84 t83.1.length c85), (52, .int .i64 (IntKind.i64.wrap (y93 - t96))), (54, .int .i64 y94)]) ⟨rfl, rfl, rfl, rfl, rfl, rfl, rfl, trivial⟩ ⟨(IntKind.i64.wrap (y93 - t96)), H, rfl, hS.pick [0, 1, 2] [0, 1] rfl⟩
                                    · rintro F w1 ⟨y95, he, rfl, hS⟩
                                      obtain rfl := Option.some.inj he
                                      have H := K450
                                      refine CJ.region ?_
                                      refine OJ.pures tU_ok 3 rfl ?_
                                      refine OJ.nil ?_
                                      exact EJ.round k (F' := [(12, .int .i64 t16.2.1), (44, .slice A64 t63.1.length c65), (46, .slice A69 y68.length c70), (49, .int .i64 t80.2), (50, .slice A84 t83.1.length c85), (52, .int .i64 y95), (54, .int .i64 (IntKind.i64.wrap (y94 + 1)))]) ⟨rfl, rfl, rfl, rfl, rfl, rfl, rfl, trivial⟩ (Nat.lt_succ_self _) ⟨y95, (IntKind.i64.wrap (y94 + 1)), rfl, hS.pick [0, 1, 2] [0, 1] rfl, H⟩
                                  · replace H := pif_f (of_decide_eq_false hb) H
                                    refine CJ.exit (EJ.skE (EJ.skE (EJ.hit (?_))))
                                    exact EJ.meet (F' := [(52, .int .i64 y93)]) ⟨rfl, trivial⟩ ⟨y93, H, rfl, hS.pick [] [0, 1] rfl⟩
                              · rintro F w1 ⟨y92, he, rfl, hS⟩
                                obtain rfl := Option.some.inj he
                                have H := K439
                                refine EJ.next ?_
                                refine CJ.seq ?_
                                refine CJ.region ?_
                                refine OJ.pures tU_ok 3 rfl ?_
                                refine OJ.nil (EJ.next ?_)
                                refine CJ.ret (?_)
                                obtain rfl := Option.some.inj H
                                exact EJ.fin rfl (.tmp rfl .nil) ⟨rfl, hS.ext⟩
end Go.Proofs.YtonpnkppaflcbaaGreatDoor
