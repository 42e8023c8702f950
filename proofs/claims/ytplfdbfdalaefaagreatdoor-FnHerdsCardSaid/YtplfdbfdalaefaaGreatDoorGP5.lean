/-
  What the functions come to.
-/
import Derived.Test.YtplfdbfdalaefaaGreatDoorGP4
namespace Go.Proofs.YtplfdbfdalaefaaGreatDoor
open G
set_option linter.unusedVariables false
set_option linter.unusedSimpArgs false
set_option maxRecDepth 100000
set_option maxHeartbeats 4000000
def laws_FnHerds.l2 (t2 : Herd) (t23 : List (List Int) × Int) (y38 : Int) : Nat → (List Int) → Int → Int → Option (((Bool ⊕ ((List Int) × Int)) ⊕ ((List Int) × Int)) ⊕ ((List Int) × Int))
  | 0, _, _, _ => none
  | k + 1, y43, y44, y45 => (getI t23.1 y38).bind fun t46 => if y45 < (t46.length : Int) then ((getI t23.1 y38).bind fun t47 => (getI t47 y45).bind fun t48 => (if t48 < 0 then (some true) else (if (t2.Names.length : Int) ≤ t48 then (some true) else ((getI y43 t48).bind fun t50 => some (decide (t50 ≠ 0))))).bind fun y49 => if y49 = true then (some (Sum.inl (Sum.inl (Sum.inl false)))) else ((getI y43 t48).bind fun t51 => laws_FnHerds.l2 t2 t23 y38 k (y43.set t48.toNat (IntKind.i64.wrap (y38 + 1))) (IntKind.i64.wrap (y44 + 1)) (IntKind.i64.wrap (y45 + 1)))) else (some (Sum.inr (y43, y44)))
def laws_FnHerds.l1 (t2 : Herd) (t23 : List (List Int) × Int) : Nat → (List Int) → Int → Int → Option (Bool ⊕ ((List Int) × Int))
  | 0, _, _, _ => none
  | k + 1, y36, y37, y38 => if y38 < (t23.1.length : Int) then (((laws_FnHerds.l2 t2 t23 y38 k y36 y37 0).bind fun s221 => match s221 with | .inl r => some r | .inr (y41, y42) => some (Sum.inr (y41, y42))).bind fun s216 => match s216 with | .inl r => some r | .inr (y39, y40) => laws_FnHerds.l1 t2 t23 k y39 y40 (IntKind.i64.wrap (y38 + 1))) else (some (Sum.inr (y36, y37)))
def laws_FnHerds.l4 (t2 : Herd) (y34 : List Int) (y52 : Int) (t53 : List Int × Int) : Nat → Int → Option (((Bool ⊕ Unit) ⊕ Unit) ⊕ Unit)
  | 0, _ => none
  | k + 1, y56 => if y56 < (t2.Names.length : Int) then ((impl_AreFoes.f k t2 y52 y56).bind fun t57 => (impl_AreFoes.f k t2 y56 y52).bind fun t58 => if t57.2 ≠ 0 then (some (Sum.inl (Sum.inl (Sum.inl false)))) else (if t58.2 ≠ 0 then (some (Sum.inl (Sum.inl (Sum.inl false)))) else (if t57.1 ≠ t58.1 then (some (Sum.inl (Sum.inl (Sum.inl false)))) else ((spec_A2Has.f k t53.1 y56).bind fun t59 => if t57.1 ≠ t59 then (some (Sum.inl (Sum.inl (Sum.inl false)))) else (if t57.1 = true then ((getI y34 y52).bind fun t60 => (getI y34 y56).bind fun t61 => if t60 ≠ t61 then (some (Sum.inl (Sum.inl (Sum.inl false)))) else (if y52 = y56 then (if t57.1 = true then (some (Sum.inl (Sum.inl (Sum.inl false)))) else (laws_FnHerds.l4 t2 y34 y52 t53 k (IntKind.i64.wrap (y56 + 1)))) else (laws_FnHerds.l4 t2 y34 y52 t53 k (IntKind.i64.wrap (y56 + 1))))) else (if y52 = y56 then (if t57.1 = true then (some (Sum.inl (Sum.inl (Sum.inl false)))) else (laws_FnHerds.l4 t2 y34 y52 t53 k (IntKind.i64.wrap (y56 + 1)))) else (laws_FnHerds.l4 t2 y34 y52 t53 k (IntKind.i64.wrap (y56 + 1))))))))) else (some (Sum.inr ()))
def laws_FnHerds.l3 (t2 : Herd) (y34 : List Int) : Nat → Int → Option (Bool ⊕ Unit)
  | 0, _ => none
  | k + 1, y52 => if y52 < (t2.Names.length : Int) then (((impl_FoesOf.f k t2 y52).bind fun t53 => if t53.2 ≠ 0 then (some (Sum.inl (Sum.inl false))) else ((laws_FnHerds.l4 t2 y34 y52 t53 k 0).bind fun s236 => match s236 with | .inl r => some r | .inr _ => some (Sum.inr ()))).bind fun s234 => match s234 with | .inl r => some r | .inr _ => laws_FnHerds.l3 t2 y34 k (IntKind.i64.wrap (y52 + 1))) else (some (Sum.inr ()))
def laws_FnHerds.l5 (a1 : List Int) (t2 : Herd) : Nat → (List Int) → (List Int) → Int → Option ((List Int) × (List Int))
  | 0, _, _, _ => none
  | k + 1, y70, y73, y76 => if y76 < (t2.Names.length : Int) then ((laws_a2At.f a1 y76 2).bind fun t77 => if t77 = 0 then ((chk (y70.length + ([y76] : List Int).length ≤ 4294967296)).bind fun u79 => laws_FnHerds.l5 a1 t2 k (y70 ++ ([y76] : List Int)) y73 (IntKind.i64.wrap (y76 + 1))) else ((chk (y73.length + ([y76] : List Int).length ≤ 4294967296)).bind fun u83 => laws_FnHerds.l5 a1 t2 k y70 (y73 ++ ([y76] : List Int)) (IntKind.i64.wrap (y76 + 1)))) else (some (y70, y73))
def laws_FnHerds.l6 (t2 : Herd) (y64 : List Int) (y67 : List Int) (t110 : Herd × Int) : Nat → Int → Option (Bool ⊕ Unit)
  | 0, _ => none
  | k + 1, y121 => if y121 < (t110.1.Names.length : Int) then ((if y121 < (y64.length : Int) then ((getI y64 y121).bind fun t123 => some t123) else ((getI y67 (IntKind.i64.wrap (y121 - (y64.length : Int)))).bind fun t124 => some t124)).bind fun y122 => (getI t110.1.Names y121).bind fun t125 => (getI t2.Names y122).bind fun t126 => if t125 ≠ t126 then (some (Sum.inl false)) else ((getI t110.1.Eats y121).bind fun t127 => (getI t2.Eats y122).bind fun t128 => if t127 ≠ t128 then (some (Sum.inl false)) else (laws_FnHerds.l6 t2 y64 y67 t110 k (IntKind.i64.wrap (y121 + 1))))) else (some (Sum.inr ()))
def laws_FnHerds.l9 (t161 : Pasture) (y175 : Int) (y183 : Int) : Nat → Int → Int → Int → Option (Int × Int)
  | 0, _, _, _ => none
  | k + 1, y188, y189, y190 => if y190 < t161.Wide then (if (IntKind.i64.wrap y190) < y175 then ((getI t161.Grass.l y183).bind fun t191 => (getI t191.l y190).bind fun t192 => laws_FnHerds.l9 t161 y175 y183 k (IntKind.i64.wrap (y188 + (IntKind.i64.wrap t192))) y189 (IntKind.i8.wrap (y190 + 1))) else ((getI t161.Grass.l y183).bind fun t193 => (getI t193.l y190).bind fun t194 => laws_FnHerds.l9 t161 y175 y183 k y188 (IntKind.i64.wrap (y189 + (IntKind.i64.wrap t194))) (IntKind.i8.wrap (y190 + 1)))) else (some (y188, y189))
def laws_FnHerds.l8 (t161 : Pasture) (y175 : Int) : Nat → Int → Int → Int → Option (Int × Int)
  | 0, _, _, _ => none
  | k + 1, y181, y182, y183 => if y183 < t161.High then (((laws_FnHerds.l9 t161 y175 y183 k y181 y182 0).bind fun (y186, y187) => some (y186, y187)).bind fun (y184, y185) => laws_FnHerds.l8 t161 y175 k y184 y185 (IntKind.i8.wrap (y183 + 1))) else (some (y181, y182))
def laws_FnHerds.l7 (t161 : Pasture) (t163 : Int) (t164 : Int) : Nat → (List Int) → Int → Option (List Int)
  | 0, _, _ => none
  | k + 1, y172, y175 => if y175 ≤ (IntKind.i64.wrap t161.Wide) then (((laws_FnHerds.l8 t161 y175 k 0 0 0).bind fun (y179, y180) => (chk (y172.length + ([(if (IntKind.i64.wrap ((IntKind.i64.wrap (y179 * (IntKind.i64.wrap (1 + t164)))) - (IntKind.i64.wrap (y180 * t163)))) < (IntKind.i64.wrap ((IntKind.i64.wrap (y180 * t163)) - (IntKind.i64.wrap (y179 * (IntKind.i64.wrap (1 + t164)))))) then (IntKind.i64.wrap ((IntKind.i64.wrap (y180 * t163)) - (IntKind.i64.wrap (y179 * (IntKind.i64.wrap (1 + t164)))))) else (IntKind.i64.wrap ((IntKind.i64.wrap (y179 * (IntKind.i64.wrap (1 + t164)))) - (IntKind.i64.wrap (y180 * t163)))))] : List Int).length ≤ 4294967296)).bind fun u196 => some (y172 ++ ([(if (IntKind.i64.wrap ((IntKind.i64.wrap (y179 * (IntKind.i64.wrap (1 + t164)))) - (IntKind.i64.wrap (y180 * t163)))) < (IntKind.i64.wrap ((IntKind.i64.wrap (y180 * t163)) - (IntKind.i64.wrap (y179 * (IntKind.i64.wrap (1 + t164)))))) then (IntKind.i64.wrap ((IntKind.i64.wrap (y180 * t163)) - (IntKind.i64.wrap (y179 * (IntKind.i64.wrap (1 + t164)))))) else (IntKind.i64.wrap ((IntKind.i64.wrap (y179 * (IntKind.i64.wrap (1 + t164)))) - (IntKind.i64.wrap (y180 * t163)))))] : List Int))).bind fun y176 => laws_FnHerds.l7 t161 t163 t164 k y176 (IntKind.i64.wrap (y175 + 1))) else (some y172)
def laws_FnHerds.l10 (t166 : Int × Int) (y169 : List Int) : Nat → Int → Option (Bool ⊕ Unit)
  | 0, _ => none
  | k + 1, y199 => if y199 < (y169.length : Int) then ((getI y169 y199).bind fun t200 => (getI y169 t166.1).bind fun t201 => if t200 < t201 then (some (Sum.inl false)) else (if y199 < t166.1 then ((getI y169 y199).bind fun t202 => (getI y169 t166.1).bind fun t203 => if t202 ≤ t203 then (some (Sum.inl false)) else (laws_FnHerds.l10 t166 y169 k (IntKind.i64.wrap (y199 + 1)))) else (laws_FnHerds.l10 t166 y169 k (IntKind.i64.wrap (y199 + 1))))) else (some (Sum.inr ()))
def laws_FnHerds.f (k : Nat) (a0 : List Int) (a1 : List Int) : Option Bool := (laws_a2Long.f a0 a1).bind fun t1 => if t1 = true then (some true) else ((spec_A2Herd.f k a0).bind fun t2 => (impl_HerdText.f k t2).bind fun t10 => (impl_ReadHerd.f k t10).bind fun t11 => (impl_PeaceGroups.f k t2).bind fun t19 => (spec_PeaceGroups.f k t2).bind fun t23 => (if t11.2 ≠ 0 then (some true) else (if (t11.1.Names.length : Int) ≠ (t2.Names.length : Int) then (some true) else ((spec_SameHerd.f k t11.1 t2).bind fun t28 => if (!t28) = true then (some true) else ((impl_SameHerd.f k t11.1 t2).bind fun t29 => if (!t29) = true then (some true) else ((impl_ValidHerd.f k t2).bind fun t30 => if (!t30) = true then (some true) else (if t19.2 ≠ t23.2 then (some true) else (if t19.2 ≠ 0 then (some true) else ((spec_A2SameGroups.f k t19.1 t23.1).bind fun t31 => some (!t31))))))))).bind fun y27 => if y27 = true then (some false) else ((chk (0 ≤ (t2.Names.length : Int) ∧ (t2.Names.length : Int) ≤ 4294967296)).bind fun u32 => (laws_FnHerds.l1 t2 t23 k (List.replicate ((t2.Names.length : Int).toNat) 0 : List Int) 0 0).bind fun s197 => match s197 with | .inl r => some r | .inr (y34, y35) => if y35 ≠ (t2.Names.length : Int) then (some false) else ((laws_FnHerds.l3 t2 y34 k 0).bind fun s225 => match s225 with | .inl r => some r | .inr _ => (laws_FnHerds.l5 a1 t2 k ([] : List Int) ([] : List Int) 0).bind fun (y64, y67) => (impl_PickHerd.f k t2 y64).bind fun t86 => (impl_PickHerd.f k t2 y67).bind fun t94 => (impl_JoinHerds.f k t86.1 t94.1).bind fun t102 => (spec_JoinHerds.f k t86.1 t94.1).bind fun t110 => (if t86.2 ≠ 0 then (some true) else (if t94.2 ≠ 0 then (some true) else (if t102.2 ≠ t110.2 then (some true) else (if t102.2 ≠ 0 then (some true) else ((spec_SameHerd.f k t102.1 t110.1).bind fun t119 => if (!t119) = true then (some true) else (if (t110.1.Names.length : Int) ≠ (t2.Names.length : Int) then (some true) else ((impl_ValidHerd.f k t110.1).bind fun t120 => some (!t120)))))))).bind fun y118 => if y118 = true then (some false) else ((laws_FnHerds.l6 t2 y64 y67 t110 k 0).bind fun s258 => match s258 with | .inl r => some r | .inr _ => (if 1 < (t2.Names.length : Int) then ((laws_a2At.f a1 0 (t2.Names.length : Int)).bind fun t129 => (chk ((t2.Names.length : Int) ≠ 0)).bind fun u130 => (impl_WithFoes.f k t2 t129 (Int.tmod (IntKind.i64.wrap (t129 + 1)) (t2.Names.length : Int)) true).bind fun t131 => (impl_AreFoes.f k t131.1 t129 (Int.tmod (IntKind.i64.wrap (t129 + 1)) (t2.Names.length : Int))).bind fun t139 => (impl_WithFoes.f k t131.1 t129 (Int.tmod (IntKind.i64.wrap (t129 + 1)) (t2.Names.length : Int)) false).bind fun t140 => (impl_AreFoes.f k t140.1 (Int.tmod (IntKind.i64.wrap (t129 + 1)) (t2.Names.length : Int)) t129).bind fun t148 => if t131.2 ≠ 0 then (some (Sum.inl false)) else (if t139.2 ≠ 0 then (some (Sum.inl false)) else (if (!t139.1) = true then (some (Sum.inl false)) else (if t140.2 ≠ 0 then (some (Sum.inl false)) else (if t148.2 ≠ 0 then (some (Sum.inl false)) else (if t148.1 = true then (some (Sum.inl false)) else ((impl_ValidHerd.f k t131.1).bind fun t149 => if (!t149) = true then (some (Sum.inl false)) else ((impl_ValidHerd.f k t140.1).bind fun t150 => if (!t150) = true then (some (Sum.inl false)) else (if (t140.1.Names.length : Int) ≠ (t2.Names.length : Int) then (some (Sum.inl false)) else (some (Sum.inr ()))))))))))) else (some (Sum.inr ()))).bind fun s262 => match s262 with | .inl r => some r | .inr _ => (impl_AddToHerd.f k t2 (⟨#[122, 111, 101]⟩ : ByteArray) 9).bind fun t151 => (if t151.2 ≠ 0 then (some true) else (if (t151.1.Names.length : Int) ≠ (IntKind.i64.wrap ((t2.Names.length : Int) + 1)) then (some true) else ((impl_ValidHerd.f k t151.1).bind fun t160 => some (!t160)))).bind fun y159 => if y159 = true then (some false) else ((spec_A2Pasture.f k a1).bind fun t161 => (laws_a2At.f a1 1 20).bind fun t163 => (laws_a2At.f a1 2 20).bind fun t164 => (impl_CutColumn.f k t161 t163 (IntKind.i64.wrap (1 + t164))).bind fun t165 => (spec_CutColumn.f k t161 t163 (IntKind.i64.wrap (1 + t164))).bind fun t166 => (if t165.2 ≠ t166.2 then (some true) else (if t165.2 ≠ 0 then (some true) else (if t165.1 ≠ t166.1 then (some true) else (if t166.1 < 0 then (some true) else (some (decide ((IntKind.i64.wrap t161.Wide) < t166.1))))))).bind fun y167 => if y167 = true then (some false) else ((laws_FnHerds.l7 t161 t163 t164 k ([] : List Int) 0).bind fun y169 => (laws_FnHerds.l10 t166 y169 k 0).bind fun s457 => match s457 with | .inl r => some r | .inr _ => (spec_A2Spot.f a1 t161).bind fun t204 => (impl_WateredYards.f k t161 ([t204, t204] : List Spot)).bind fun t207 => (spec_YardsOf.f k t161).bind fun t210 => if t207.2 = 0 then (if t210.2 = 0 then (if (t207.1.length : Int) = 1 then ((getI t207.1 0).bind fun t214 => if 0 ≤ t214 then ((getI t207.1 0).bind fun t215 => if t215 < (t210.1.length : Int) then ((getI t207.1 0).bind fun t216 => (getI t210.1 t216).bind fun t217 => (spec_A2HasSpot.f k t217 t204).bind fun t218 => some t218) else (some false)) else (some false)) else (some false)) else (some false)) else (some false)))))))
theorem laws_FnHerds.c (k : Nat) (w : World) (Aa0 : Option Addr) (ca0 : Nat) (a0 : List Int) (hr0 : Rd (ci .u8) w Aa0 a0) (hc0 : a0.length ≤ ca0) (Aa1 : Option Addr) (ca1 : Nat) (a1 : List Int) (hr1 : Rd (ci .u8) w Aa1 a1) (hc1 : a1.length ≤ ca1) (hT : (envC Tryz.prog 0).holds w) (r : Bool) (H : laws_FnHerds.f k a0 a1 = some r) :
 CV Tryz.prog 3 [sl Aa0 a0 ca0, sl Aa1 a1 ca1].toArray w fun v w' => v = .bool r ∧ Ext w w' := by
 have hS := ((((St.init w no).param (ci .u8) Aa0 ca0 a0 hr0 hc0).param (ci .u8) Aa1 ca1 a1 hr1 hc1).paramT (envC Tryz.prog 0) hT)
 unfold laws_FnHerds.f at H
 refine CV.body Tryz.func3 Z Tryz.ntmps3 Z ?_
 refine GO ?_
 refine oB H hS hb5 (laws_a2Long.c (rA hS 0 Z) (rB hS 0 Z) (rA hS 1 Z) (rB hS 1 Z)) fun t1 w1 H hS => ?_
 refine CB H (fun H => ?_) (fun H => ?_)
 exact FE H hS
 refine GO ?_
 obtain ⟨t2, ht2, H⟩ := pbind H
 refine OC hb6 (spec_A2Herd.c (rA hS 0 Z) (rB hS 0 Z) _ ht2) ?_
 rintro _ w1 ⟨A3, c4, A5, c6, A7, c8, rfl, hs⟩
 replace hS := hS.addN hs
 refine OF (EA hS ([.slice none 0 0, .slice none 0 0, .slice none 0 0])) ?_
 rintro _ w1 ⟨b9, rfl, hS⟩
 refine oE (WV hS 3 [sl A3 t2.Names c4, sl A5 t2.Eats c6, sl A7 t2.Foes c8]) fun w1 hS => ?_
 refine oS (SL (cf hS 3 0)) ?_
 refine OS (SN (hv A3 A5 A7 c4 c6 c8 t2) (ce hS 3)) ?_
 refine OB H hS hb8 (impl_HerdText.c t2 (rC hS 0 Z) (rD hS 0 Z) (rC hS 1 Z) (rD hS 1 Z) (rC hS 2 Z) (rD hS 2 Z) (hS.ro (i := 2) Z)) fun t10 w1 H hS => ?_
 obtain ⟨t11, ht11, H⟩ := pbind H
 refine OC hb7 (impl_ReadHerd.c (hS.ro (i := 2) Z) _ ht11) ?_
 rintro _ w1 ⟨A12, c13, A14, c15, A16, c17, rfl, hs⟩
 replace hS := hS.addN hs
 have hS : St _ _ _ [_, _, _, _, _, _, _] _ := hS
 refine GO ?_
 refine OF (EA hS ([.slice none 0 0, .slice none 0 0, .slice none 0 0])) ?_
 rintro _ w1 ⟨b18, rfl, hS⟩
 refine oE (WV hS 7 [sl A12 t11.1.Names c13, sl A14 t11.1.Eats c15, sl A16 t11.1.Foes c17]) fun w1 hS => ?_
 refine OS (SN (hv A3 A5 A7 c4 c6 c8 t2) (ce hS 3)) ?_
 obtain ⟨t19, ht19, H⟩ := pbind H
 refine OC hb9 (impl_PeaceGroups.c t2 (rC hS 0 Z) (rD hS 0 Z) (rC hS 1 Z) (rD hS 1 Z) (rC hS 2 Z) (rD hS 2 Z) _ ht19) ?_
 rintro _ w1 ⟨A20, c21, D22, rfl, hs⟩
 replace hS := hS.addN hs
 have hS : St _ _ _ [_, _, _, _, _, _, _, _, _] _ := hS
 refine GO ?_
 refine OS (SN (hv A3 A5 A7 c4 c6 c8 t2) (ce hS 3)) ?_
 obtain ⟨t23, ht23, H⟩ := pbind H
 refine OC hb10 (spec_PeaceGroups.c t2 (rC hS 0 Z) (rD hS 0 Z) (rC hS 1 Z) (rD hS 1 Z) (rC hS 2 Z) (rD hS 2 Z) _ ht23) ?_
 rintro _ w1 ⟨A24, c25, D26, rfl, hs⟩
 replace hS := hS.addN hs
 have hS : St _ _ _ [_, _, _, _, _, _, _, _, _, _] _ := hS
 refine PX 5 ?_
 refine CJ.seq ?_
 obtain ⟨j187, H, K187⟩ := pbind H
 refine CJ.cut (fun F w1 => ∃ y27, some y27 = some j187 ∧ F = [(1, sl Aa1 a1 ca1), (5, pt b9), (6, i6 (t2.Names.length : Int)), (11, sl A24 t23.1 c25), (136, .bool y27)] ∧ St w no w1 [rowC G.cs A3 c4 9 t2.Names, rowC (ci .i16) A5 c6 49 t2.Eats, rowC (ci .u16) A7 c8 55 t2.Foes, box b9 (hv A3 A5 A7 c4 c6 c8 t2) 28, rowsC (ci .i64) A24 c25 40 2 D26 t23.1] [roC (ci .u8) Aa0 ca0 a0, roC (ci .u8) Aa1 ca1 a1, envC Tryz.prog 0]) ?_ ?_
 refine GO ?_
 refine OJ.split (t := 96) Z (fun hb => ?_) (fun hb => ?_)
 replace H := pif_t (of_decide_eq_true hb) H
 exact MD H hS
 replace H := pif_f (of_decide_eq_false hb) H
 refine GO ?_
 refine oS (SL (cf hS 7 0)) ?_
 refine oS (SL (cf hS 3 0)) ?_
 refine OJ.split (t := 105) Z (fun hb => ?_) (fun hb => ?_)
 replace H := pif_t (of_decide_eq_true hb) H
 exact MD H hS
 replace H := pif_f (of_decide_eq_false hb) H
 refine OS (SN (hv A12 A14 A16 c13 c15 c17 t11.1) (ce hS 7)) ?_
 refine OS (SN (hv A3 A5 A7 c4 c6 c8 t2) (ce hS 3)) ?_
 refine oB H hS hb11 (spec_SameHerd.c t11.1 (rC hS 4 Z) (rD hS 4 Z) (rC hS 5 Z) (rD hS 5 Z) (rC hS 6 Z) (rD hS 6 Z) t2 (rC hS 0 Z) (rD hS 0 Z) (rC hS 1 Z) (rD hS 1 Z) (rC hS 2 Z) (rD hS 2 Z)) fun t28 w1 H hS => ?_
 refine OJ.split (t := 111) Z (fun hb => ?_) (fun hb => ?_)
 replace H := pif_t hb H
 exact MD H hS
 replace H := pifb_f hb H
 refine OS (SN (hv A12 A14 A16 c13 c15 c17 t11.1) (ce hS 7)) ?_
 refine OS (SN (hv A3 A5 A7 c4 c6 c8 t2) (ce hS 3)) ?_
 refine oB H hS hb12 (impl_SameHerd.c t11.1 (rC hS 4 Z) (rD hS 4 Z) (rC hS 5 Z) (rD hS 5 Z) (rC hS 6 Z) (rD hS 6 Z) t2 (rC hS 0 Z) (rD hS 0 Z) (rC hS 1 Z) (rD hS 1 Z) (rC hS 2 Z) (rD hS 2 Z)) fun t29 w1 H hS => ?_
 refine OJ.split (t := 117) Z (fun hb => ?_) (fun hb => ?_)
 replace H := pif_t hb H
 exact MD H hS
 replace H := pifb_f hb H
 refine OS (SN (hv A3 A5 A7 c4 c6 c8 t2) (ce hS 3)) ?_
 refine oB H hS hb13 (impl_ValidHerd.c t2 (rC hS 0 Z) (rD hS 0 Z) (rC hS 1 Z) (rD hS 1 Z) (rC hS 2 Z) (rD hS 2 Z)) fun t30 w1 H hS => ?_
 refine OJ.split (t := 122) Z (fun hb => ?_) (fun hb => ?_)
 replace H := pif_t hb H
 exact MD H hS
 replace H := pifb_f hb H
 refine GO ?_
 refine OJ.split (t := 127) Z (fun hb => ?_) (fun hb => ?_)
 replace H := pif_t (of_decide_eq_true hb) H
 exact MD H hS
 replace H := pif_f (of_decide_eq_false hb) H
 refine GO ?_
 refine OJ.split (t := 131) Z (fun hb => ?_) (fun hb => ?_)
 replace H := pif_t (of_decide_eq_true hb) H
 exact MD H hS
 replace H := pif_f (of_decide_eq_false hb) H
 refine GO ?_
 refine OB H hS hb14 (spec_A2SameGroups.c D22 (hS.rowsRo (i := 8) Z) D26 (hS.rowsRo (i := 9) Z)) fun t31 w1 H hS => ?_
 exact MD H hS
 rintro F w1 ⟨y27, he, rfl, hS⟩
 obtain rfl := Option.some.inj he
 have H := K187
 refine CB H (fun H => ?_) (fun H => ?_)
 exact FE H hS
 refine GO ?_
 obtain ⟨u32, hu32, H⟩ := pbind H
 refine OJ.ef Z Z Z (Ef.make oU oI hS (C := (ci .i64)) Z Z Z Z Z Z Z Z (chk_some hu32) 0 Z) ?_
 rintro _ w1 ⟨A33, rfl, hS⟩
 refine GO ?_
 obtain ⟨j197, H, K197⟩ := pbind H
 refine CJ.cut1 (fun F w1 => ∃ y34 y35, some j197 = some (Sum.inr (y34, y35)) ∧ F = [(1, sl Aa1 a1 ca1), (5, pt b9), (6, i6 (t2.Names.length : Int)), (13, .slice A33 y34.length ((t2.Names.length : Int).toNat)), (14, i6 y35)] ∧ St w no w1 [rowC G.cs A3 c4 9 t2.Names, rowC (ci .i16) A5 c6 49 t2.Eats, rowC (ci .u16) A7 c8 55 t2.Foes, box b9 (hv A3 A5 A7 c4 c6 c8 t2) 28, rowC (ci .i64) A33 ((t2.Names.length : Int).toNat) 3 y34] [roC (ci .u8) Aa0 ca0 a0, roC (ci .u8) Aa1 ca1 a1, envC Tryz.prog 0]) ?_ ?_
 refine CJ.block ?_
 refine LQ (fun k F w1 => ∃ (y36 : List Int) (y37 : Int) (y38 : Int), F = [(1, sl Aa1 a1 ca1), (5, pt b9), (6, i6 (t2.Names.length : Int)), (11, sl A24 t23.1 c25), (13, .slice A33 y36.length ((t2.Names.length : Int).toNat)), (14, i6 y37), (15, i6 y38)] ∧ St w no w1 [rowC G.cs A3 c4 9 t2.Names, rowC (ci .i16) A5 c6 49 t2.Eats, rowC (ci .u16) A7 c8 55 t2.Foes, box b9 (hv A3 A5 A7 c4 c6 c8 t2) 28, rowsC (ci .i64) A24 c25 40 2 D26 t23.1, rowC (ci .i64) A33 ((t2.Names.length : Int).toNat) 3 y36] [roC (ci .u8) Aa0 ca0 a0, roC (ci .u8) Aa1 ca1 a1, envC Tryz.prog 0] ∧ laws_FnHerds.l1 t2 t23 k y36 y37 y38 = some j197) k H hS ?_
 rintro k F w1 ⟨y36, y37, y38, rfl, hS, H⟩
 rw [laws_FnHerds.l1] at H
 refine GO ?_
 refine CP H (fun H => ?_) (fun H => ?_)
 refine CJ.skip (EJ.next ?_)
 obtain ⟨j216, H, K216⟩ := pbind H
 refine CJ.cut (fun F w1 => ∃ y39 y40, some j216 = some (Sum.inr (y39, y40)) ∧ F = [(1, sl Aa1 a1 ca1), (5, pt b9), (6, i6 (t2.Names.length : Int)), (11, sl A24 t23.1 c25), (13, .slice A33 y39.length ((t2.Names.length : Int).toNat)), (14, i6 y40), (15, i6 y38)] ∧ St w no w1 [rowC G.cs A3 c4 9 t2.Names, rowC (ci .i16) A5 c6 49 t2.Eats, rowC (ci .u16) A7 c8 55 t2.Foes, box b9 (hv A3 A5 A7 c4 c6 c8 t2) 28, rowsC (ci .i64) A24 c25 40 2 D26 t23.1, rowC (ci .i64) A33 ((t2.Names.length : Int).toNat) 3 y39] [roC (ci .u8) Aa0 ca0 a0, roC (ci .u8) Aa1 ca1 a1, envC Tryz.prog 0]) ?_ ?_
 refine CJ.block ?_
 refine GO ?_
 obtain ⟨j221, H, K221⟩ := pbind H
 refine CJ.cut1 (fun F w1 => ∃ y41 y42, some j221 = some (Sum.inr (y41, y42)) ∧ F = [(1, sl Aa1 a1 ca1), (5, pt b9), (6, i6 (t2.Names.length : Int)), (11, sl A24 t23.1 c25), (13, .slice A33 y41.length ((t2.Names.length : Int).toNat)), (14, i6 y42), (15, i6 y38)] ∧ St w no w1 [rowC G.cs A3 c4 9 t2.Names, rowC (ci .i16) A5 c6 49 t2.Eats, rowC (ci .u16) A7 c8 55 t2.Foes, box b9 (hv A3 A5 A7 c4 c6 c8 t2) 28, rowsC (ci .i64) A24 c25 40 2 D26 t23.1, rowC (ci .i64) A33 ((t2.Names.length : Int).toNat) 3 y41] [roC (ci .u8) Aa0 ca0 a0, roC (ci .u8) Aa1 ca1 a1, envC Tryz.prog 0]) ?_ ?_
 refine CJ.block ?_
 refine LQ (fun k F w1 => ∃ (y43 : List Int) (y44 : Int) (y45 : Int), F = [(1, sl Aa1 a1 ca1), (5, pt b9), (6, i6 (t2.Names.length : Int)), (11, sl A24 t23.1 c25), (13, .slice A33 y43.length ((t2.Names.length : Int).toNat)), (14, i6 y44), (15, i6 y38), (16, i6 y45)] ∧ St w no w1 [rowC G.cs A3 c4 9 t2.Names, rowC (ci .i16) A5 c6 49 t2.Eats, rowC (ci .u16) A7 c8 55 t2.Foes, box b9 (hv A3 A5 A7 c4 c6 c8 t2) 28, rowsC (ci .i64) A24 c25 40 2 D26 t23.1, rowC (ci .i64) A33 ((t2.Names.length : Int).toNat) 3 y43] [roC (ci .u8) Aa0 ca0 a0, roC (ci .u8) Aa1 ca1 a1, envC Tryz.prog 0] ∧ laws_FnHerds.l2 t2 t23 y38 k y43 y44 y45 = some j221) k H hS ?_
 rintro k F w1 ⟨y43, y44, y45, rfl, hS, H⟩
 rw [laws_FnHerds.l2] at H
 refine GO ?_
 obtain ⟨t46, ht46, H⟩ := pbind H
 obtain ⟨Ae46, ce46, g46, d46, hx46⟩ := ros_el (hS.rowsRo (i := 4) rfl) ht46
 obtain ⟨ad46, e46⟩ := (ros_rd (hS.rowsRo (i := 4) rfl)).some' g46
 refine OS (SI e46 (getI_some ht46).1) ?_
 refine oS (SL ((ros_rd (hS.rowsRo (i := 4) Z)).at_ e46 g46)) ?_
 refine CP H (fun H => GO ?_) (fun H => ?_)
 refine CJ.block ?_
 refine GO ?_
 obtain ⟨t47, ht47, H⟩ := pbind H
 obtain ⟨Ae47, ce47, g47, d47, hx47⟩ := ros_el (hS.rowsRo (i := 4) rfl) ht47
 obtain ⟨ad47, e47⟩ := (ros_rd (hS.rowsRo (i := 4) rfl)).some' g47
 refine OS (SI e47 (getI_some ht47).1) ?_
 refine oS (SL ((ros_rd (hS.rowsRo (i := 4) Z)).at_ e47 g47)) ?_
 obtain ⟨t48, ht48, H⟩ := pbind H
 obtain ⟨ad48, e48⟩ := ((ros_sub (hS.rowsRo (i := 4) rfl) d47 hx47)).some' ht48
 refine OS (SI e48 (getI_some ht48).1) ?_
 refine OS (SL ((ros_sub (hS.rowsRo (i := 4) Z) d47 hx47).at_ e48 ht48)) ?_
 refine PX 1 ?_
 refine CJ.seq ?_
 obtain ⟨j224, H, K224⟩ := pbind H
 refine CJ.cut (fun F w1 => ∃ y49, some y49 = some j224 ∧ F = [(1, sl Aa1 a1 ca1), (5, pt b9), (6, i6 (t2.Names.length : Int)), (11, sl A24 t23.1 c25), (13, .slice A33 y43.length ((t2.Names.length : Int).toNat)), (14, i6 y44), (15, i6 y38), (16, i6 y45), (17, i6 t48), (174, .bool y49)] ∧ St w no w1 [rowC G.cs A3 c4 9 t2.Names, rowC (ci .i16) A5 c6 49 t2.Eats, rowC (ci .u16) A7 c8 55 t2.Foes, box b9 (hv A3 A5 A7 c4 c6 c8 t2) 28, rowsC (ci .i64) A24 c25 40 2 D26 t23.1, rowC (ci .i64) A33 ((t2.Names.length : Int).toNat) 3 y43] [roC (ci .u8) Aa0 ca0 a0, roC (ci .u8) Aa1 ca1 a1, envC Tryz.prog 0]) ?_ ?_
 refine GO ?_
 refine OJ.split (t := 163) Z (fun hb => ?_) (fun hb => ?_)
 replace H := pif_t (of_decide_eq_true hb) H
 exact MD H hS
 replace H := pif_f (of_decide_eq_false hb) H
 refine GO ?_
 refine OJ.split (t := 168) Z (fun hb => ?_) (fun hb => ?_)
 replace H := pif_t (of_decide_eq_true hb) H
 exact MD H hS
 replace H := pif_f (of_decide_eq_false hb) H
 refine GO ?_
 obtain ⟨t50, ht50, H⟩ := pbind H
 obtain ⟨ad50, e50⟩ := (rC hS 5 Z).some' ht50
 refine OS (SI e50 (getI_some ht50).1) ?_
 refine OS (SL ((rC hS 5 Z).at_ e50 ht50)) ?_
 exact MD H hS
 rintro F w1 ⟨y49, he, rfl, hS⟩
 obtain rfl := Option.some.inj he
 have H := K224
 refine CB H (fun H => GO ?_) (fun H => ?_)
 obtain rfl := Option.some.inj H; have H := K221
 obtain rfl := Option.some.inj H; have H := K216
 obtain rfl := Option.some.inj H; have H := K197
 exact FE H hS
 refine GO ?_
 obtain ⟨t51, ht51, H⟩ := pbind H
 obtain ⟨ad51, e51⟩ := (rC hS 5 Z).some' ht51
 refine OS (SI e51 (getI_some ht51).1) ?_
 refine OJ.es Z Z (Es.storeR oI hS (i := 5) (off := 0) Z Z ht51 e51 Z Z Z Z (vs := (ci .i64).enc (IntKind.i64.wrap (y38 + 1))) Z Z (one1 Z) (Nat.le_of_ble_eq_true Z) (IntKind.i64.wrap (y38 + 1)) Z) ?_
 intro w1 hS
 refine OJ.as (t := 13) rfl (show _ = (.slice A33 (y43.set t48.toNat (IntKind.i64.wrap (y38 + 1))).length ((t2.Names.length : Int).toNat) : Value) by simp only [List.length_set]) ?_
 refine OJ.as (t := 175) rfl (show _ = (.slice A33 (y43.set t48.toNat (IntKind.i64.wrap (y38 + 1))).length ((t2.Names.length : Int).toNat) : Value) by simp only [List.length_set]) ?_
 exact MD H hS
 exact MD H hS
 rintro F w1 ⟨y41, y42, ⟨⟩, rfl, hS⟩
 have H := K221
 refine EJ.blk (?_)
 exact MD H hS
 rintro F w1 ⟨y39, y40, ⟨⟩, rfl, hS⟩
 have H := K216
 exact MD H hS
 exact MD H hS
 rintro F w1 ⟨y34, y35, ⟨⟩, rfl, hS⟩
 have H := K197
 refine EJ.next ?_
 refine GO ?_
 refine CP H (fun H => ?_) (fun H => ?_)
 exact FE H hS
 refine GO ?_
 obtain ⟨j225, H, K225⟩ := pbind H
 refine CJ.cut1 (fun F w1 => some j225 = some (Sum.inr ()) ∧ F = [(1, sl Aa1 a1 ca1), (5, pt b9), (6, i6 (t2.Names.length : Int))] ∧ St w no w1 [rowC G.cs A3 c4 9 t2.Names, rowC (ci .i16) A5 c6 49 t2.Eats, rowC (ci .u16) A7 c8 55 t2.Foes, box b9 (hv A3 A5 A7 c4 c6 c8 t2) 28] [roC (ci .u8) Aa0 ca0 a0, roC (ci .u8) Aa1 ca1 a1, envC Tryz.prog 0]) ?_ ?_
 refine CJ.block ?_
 refine LQ (fun k F w1 => ∃ (y52 : Int), F = [(1, sl Aa1 a1 ca1), (5, pt b9), (6, i6 (t2.Names.length : Int)), (13, .slice A33 y34.length ((t2.Names.length : Int).toNat)), (18, i6 y52)] ∧ St w no w1 [rowC G.cs A3 c4 9 t2.Names, rowC (ci .i16) A5 c6 49 t2.Eats, rowC (ci .u16) A7 c8 55 t2.Foes, box b9 (hv A3 A5 A7 c4 c6 c8 t2) 28, rowC (ci .i64) A33 ((t2.Names.length : Int).toNat) 3 y34] [roC (ci .u8) Aa0 ca0 a0, roC (ci .u8) Aa1 ca1 a1, envC Tryz.prog 0] ∧ laws_FnHerds.l3 t2 y34 k y52 = some j225) k H hS ?_
 rintro k F w1 ⟨y52, rfl, hS, H⟩
 rw [laws_FnHerds.l3] at H
 refine GO ?_
 refine CP H (fun H => ?_) (fun H => ?_)
 refine CJ.skip (EJ.next ?_)
 obtain ⟨j234, H, K234⟩ := pbind H
 refine CJ.cut (fun F w1 => some j234 = some (Sum.inr ()) ∧ F = [(1, sl Aa1 a1 ca1), (5, pt b9), (6, i6 (t2.Names.length : Int)), (13, .slice A33 y34.length ((t2.Names.length : Int).toNat)), (18, i6 y52)] ∧ St w no w1 [rowC G.cs A3 c4 9 t2.Names, rowC (ci .i16) A5 c6 49 t2.Eats, rowC (ci .u16) A7 c8 55 t2.Foes, box b9 (hv A3 A5 A7 c4 c6 c8 t2) 28, rowC (ci .i64) A33 ((t2.Names.length : Int).toNat) 3 y34] [roC (ci .u8) Aa0 ca0 a0, roC (ci .u8) Aa1 ca1 a1, envC Tryz.prog 0]) ?_ ?_
 refine CJ.block ?_
 refine GO ?_
 refine oS (SN (hv A3 A5 A7 c4 c6 c8 t2) (ce hS 3)) ?_
 obtain ⟨t53, ht53, H⟩ := pbind H
 refine OC hb15 (impl_FoesOf.c t2 (rC hS 0 Z) (rD hS 0 Z) (rC hS 1 Z) (rD hS 1 Z) (rC hS 2 Z) (rD hS 2 Z) _ ht53) ?_
 rintro _ w1 ⟨A54, c55, rfl, hs⟩
 replace hS := hS.addN hs
 have hS : St _ _ _ [_, _, _, _, _, _] _ := hS
 refine GO ?_
 refine CP H (fun H => GO ?_) (fun H => ?_)
 obtain rfl := Option.some.inj H; have H := K234
 obtain rfl := Option.some.inj H; have H := K225
 exact FE H hS
 refine GO ?_
 obtain ⟨j236, H, K236⟩ := pbind H
 refine CJ.cut1 (fun F w1 => some j236 = some (Sum.inr ()) ∧ F = [(1, sl Aa1 a1 ca1), (5, pt b9), (6, i6 (t2.Names.length : Int)), (13, .slice A33 y34.length ((t2.Names.length : Int).toNat)), (18, i6 y52)] ∧ St w no w1 [rowC G.cs A3 c4 9 t2.Names, rowC (ci .i16) A5 c6 49 t2.Eats, rowC (ci .u16) A7 c8 55 t2.Foes, box b9 (hv A3 A5 A7 c4 c6 c8 t2) 28, rowC (ci .i64) A33 ((t2.Names.length : Int).toNat) 3 y34] [roC (ci .u8) Aa0 ca0 a0, roC (ci .u8) Aa1 ca1 a1, envC Tryz.prog 0]) ?_ ?_
 refine CJ.block ?_
 refine LQ (fun k F w1 => ∃ (y56 : Int), F = [(1, sl Aa1 a1 ca1), (5, pt b9), (6, i6 (t2.Names.length : Int)), (13, .slice A33 y34.length ((t2.Names.length : Int).toNat)), (18, i6 y52), (19, sl A54 t53.1 c55), (21, i6 y56)] ∧ St w no w1 [rowC G.cs A3 c4 9 t2.Names, rowC (ci .i16) A5 c6 49 t2.Eats, rowC (ci .u16) A7 c8 55 t2.Foes, box b9 (hv A3 A5 A7 c4 c6 c8 t2) 28, rowC (ci .i64) A33 ((t2.Names.length : Int).toNat) 3 y34, rowC (ci .i64) A54 c55 2 t53.1] [roC (ci .u8) Aa0 ca0 a0, roC (ci .u8) Aa1 ca1 a1, envC Tryz.prog 0] ∧ laws_FnHerds.l4 t2 y34 y52 t53 k y56 = some j236) k H hS ?_
 rintro k F w1 ⟨y56, rfl, hS, H⟩
 rw [laws_FnHerds.l4] at H
 refine GO ?_
 refine CP H (fun H => GO ?_) (fun H => ?_)
 refine CJ.block ?_
 refine GO ?_
 refine oS (SN (hv A3 A5 A7 c4 c6 c8 t2) (ce hS 3)) ?_
 refine oB H hS hb16 (impl_AreFoes.c t2 (rC hS 0 Z) (rD hS 0 Z) (rC hS 1 Z) (rD hS 1 Z) (rC hS 2 Z) (rD hS 2 Z)) fun t57 w1 H hS => ?_
 refine oS (SN (hv A3 A5 A7 c4 c6 c8 t2) (ce hS 3)) ?_
 refine oB H hS hb16 (impl_AreFoes.c t2 (rC hS 0 Z) (rD hS 0 Z) (rC hS 1 Z) (rD hS 1 Z) (rC hS 2 Z) (rD hS 2 Z)) fun t58 w1 H hS => ?_
 refine CJ.draw [] [0, 1, 2, 3, 4, 5, 6, 7, 8, 9, 10, 11, 12, 13, 14, 15, 16, 17, 18, 19, 20, 21, 22, 23, 24, 25, 26, 27, 28, 29, 30, 31, 32, 33, 34, 35, 36, 37, 38, 39] mixed (by kernel_rfl) hS fun w1 hS => ?_
 refine GO ?_
 refine DJ.split (t := 219) Z (fun hb => ?_) (fun hb => ?_)
 replace H := pif_t (of_decide_eq_true hb) H
 refine GO ?_
 refine CJ.condT Z ?_
 refine GO ?_
 obtain rfl := Option.some.inj H; have H := K236
 obtain rfl := Option.some.inj H; have H := K234
 obtain rfl := Option.some.inj H; have H := K225
 exact FE H hS
 replace H := pif_f (of_decide_eq_false hb) H
 refine GO ?_
 refine DJ.split (t := 223) Z (fun hb => ?_) (fun hb => ?_)
 replace H := pif_t (of_decide_eq_true hb) H
 refine GO ?_
 refine CJ.condT Z ?_
 refine GO ?_
 obtain rfl := Option.some.inj H; have H := K236
 obtain rfl := Option.some.inj H; have H := K234
 obtain rfl := Option.some.inj H; have H := K225
 exact FE H hS
 replace H := pif_f (of_decide_eq_false hb) H
 refine GO ?_
 refine DJ.st Z Z Z Z Z (SR.neB oU Z Z Z Z) ?_
 refine GO ?_
 refine DJ.split (t := 228) Z (fun hb => ?_) (fun hb => ?_)
 replace H := pif_t (of_decide_eq_true hb) H
 refine GO ?_
 refine CJ.condT Z ?_
 refine GO ?_
 obtain rfl := Option.some.inj H; have H := K236
 obtain rfl := Option.some.inj H; have H := K234
 obtain rfl := Option.some.inj H; have H := K225
 exact FE H hS
 replace H := pif_f (of_decide_eq_false hb) H
 refine GO ?_
 obtain ⟨t59, ht59, H⟩ := pbind H
 refine DJ.callF rfl rfl rfl rfl rfl rfl rfl hb17 rfl (spec_A2Has.c (rC hS 5 Z) (rD hS 5 Z) _ ht59) (by rintro v w' ⟨rfl, hs⟩; exact hs) ?_
 rintro _ w1 ⟨rfl, hs⟩
 replace hS := hS.grow hs
 refine DJ.st Z Z Z Z Z (SR.neB oU Z Z Z Z) ?_
 refine GO ?_
 refine DJ.split (t := 235) Z (fun hb => ?_) (fun hb => ?_)
 replace H := pif_t (of_decide_eq_true hb) H
 refine GO ?_
 refine CJ.condT Z ?_
 refine GO ?_
 obtain rfl := Option.some.inj H; have H := K236
 obtain rfl := Option.some.inj H; have H := K234
 obtain rfl := Option.some.inj H; have H := K225
 exact FE H hS
 replace H := pif_f (of_decide_eq_false hb) H
 refine GO ?_
 refine DJ.split (t := 237) Z (fun hb => ?_) (fun hb => ?_)
 replace H := pif_t hb H
 refine GO ?_
 refine xD H (rC hS 4 Z) fun t60 ad60 ht60 H => ?_
 refine xD H (rC hS 4 Z) fun t61 ad61 ht61 H => ?_
 refine DJ.split (t := 249) Z (fun hb => ?_) (fun hb => ?_)
 replace H := pif_t (of_decide_eq_true hb) H
 refine GO ?_
 refine CJ.condT Z ?_
 refine GO ?_
 obtain rfl := Option.some.inj H; have H := K236
 obtain rfl := Option.some.inj H; have H := K234
 obtain rfl := Option.some.inj H; have H := K225
 exact FE H hS
 replace H := pif_f (of_decide_eq_false hb) H
 refine GO ?_
 refine DJ.split (t := 253) Z (fun hb => ?_) (fun hb => ?_)
 replace H := pif_t (of_decide_eq_true hb) H
 refine GO ?_
 refine CB H (fun H => GO ?_) (fun H => ?_)
 obtain rfl := Option.some.inj H; have H := K236
 obtain rfl := Option.some.inj H; have H := K234
 obtain rfl := Option.some.inj H; have H := K225
 exact FE H hS
 exact MD H hS
 replace H := pif_f (of_decide_eq_false hb) H
 refine GO ?_
 refine CJ.condF Z ?_
 exact MD H hS
 replace H := pifb_f hb H
 refine GO ?_
 refine DJ.split (t := 253) Z (fun hb => ?_) (fun hb => ?_)
 replace H := pif_t (of_decide_eq_true hb) H
 refine GO ?_
 refine CB H (fun H => GO ?_) (fun H => ?_)
 obtain rfl := Option.some.inj H; have H := K236
 obtain rfl := Option.some.inj H; have H := K234
 obtain rfl := Option.some.inj H; have H := K225
 exact FE H hS
 exact MD H hS
 replace H := pif_f (of_decide_eq_false hb) H
 refine GO ?_
 refine CJ.condF Z ?_
 exact MD H hS
 exact MD H hS
 rintro F w1 ⟨⟨⟩, rfl, hS⟩
 have H := K236
 refine EJ.blk (?_)
 exact MD H hS
 rintro F w1 ⟨⟨⟩, rfl, hS⟩
 have H := K234
 exact MD H hS
 exact MD H hS
 rintro F w1 ⟨⟨⟩, rfl, hS⟩
 have H := K225
 refine EJ.next ?_
 refine GO ?_
 refine OF (EL hS (ci .i64) ([] : List Int)) ?_
 rintro _ w1 ⟨A62, rfl, hS⟩
 refine GO ?_
 refine OF (EL hS (ci .i64) ([] : List Int)) ?_
 rintro _ w1 ⟨A63, rfl, hS⟩
 refine GO ?_
 obtain ⟨j237, H, K237⟩ := pbind H
 refine CJ.cut1 (fun F w1 => ∃ y64 y67 A65 c66 A68 c69, some j237 = some (y64, y67) ∧ F = [(1, sl Aa1 a1 ca1), (5, pt b9), (6, i6 (t2.Names.length : Int)), (26, sl A65 y64 c66), (27, sl A68 y67 c69)] ∧ St w no w1 [rowC G.cs A3 c4 9 t2.Names, rowC (ci .i16) A5 c6 49 t2.Eats, rowC (ci .u16) A7 c8 55 t2.Foes, box b9 (hv A3 A5 A7 c4 c6 c8 t2) 28, rowC (ci .i64) A65 c66 2 y64, rowC (ci .i64) A68 c69 2 y67] [roC (ci .u8) Aa0 ca0 a0, roC (ci .u8) Aa1 ca1 a1, envC Tryz.prog 0]) ?_ ?_
 refine CJ.block ?_
 refine LQ (fun k F w1 => ∃ (y70 : List Int) (y73 : List Int) (y76 : Int) (A71 c72 A74 c75 : _), F = [(1, sl Aa1 a1 ca1), (5, pt b9), (6, i6 (t2.Names.length : Int)), (26, sl A71 y70 c72), (27, sl A74 y73 c75), (28, i6 y76)] ∧ St w no w1 [rowC G.cs A3 c4 9 t2.Names, rowC (ci .i16) A5 c6 49 t2.Eats, rowC (ci .u16) A7 c8 55 t2.Foes, box b9 (hv A3 A5 A7 c4 c6 c8 t2) 28, rowC (ci .i64) A71 c72 2 y70, rowC (ci .i64) A74 c75 2 y73] [roC (ci .u8) Aa0 ca0 a0, roC (ci .u8) Aa1 ca1 a1, envC Tryz.prog 0] ∧ laws_FnHerds.l5 a1 t2 k y70 y73 y76 = some j237) k H hS ?_
 rintro k F w1 ⟨y70, y73, y76, A71, c72, A74, c75, rfl, hS, H⟩
 rw [laws_FnHerds.l5] at H
 refine GO ?_
 refine CP H (fun H => GO ?_) (fun H => ?_)
 refine CJ.block ?_
 refine GO ?_
 refine oB H hS hb18 (laws_a2At.c (rA hS 1 Z) (rB hS 1 Z)) fun t77 w1 H hS => ?_
 refine CP H (fun H => GO ?_) (fun H => ?_)
 refine OF (EL hS (ci .i64) ([y76] : List Int)) ?_
 rintro _ w1 ⟨A78, rfl, hS⟩
 obtain ⟨u79, hu79, H⟩ := pbind H
 refine OW (AP hS 4 (rC hS 6 Z) (chk_some hu79)) ?_
 rintro _ w1 ⟨A80, c81, rfl, hS⟩
 exact MD H hS
 refine GO ?_
 refine OF (EL hS (ci .i64) ([y76] : List Int)) ?_
 rintro _ w1 ⟨A82, rfl, hS⟩
 obtain ⟨u83, hu83, H⟩ := pbind H
 refine OW (AP hS 5 (rC hS 6 Z) (chk_some hu83)) ?_
 rintro _ w1 ⟨A84, c85, rfl, hS⟩
 exact MD H hS
 exact MD H hS
 rintro F w1 ⟨y64, y67, A65, c66, A68, c69, ⟨⟩, rfl, hS⟩
 have H := K237
 refine EJ.next ?_
 refine GO ?_
 refine oS (SN (hv A3 A5 A7 c4 c6 c8 t2) (ce hS 3)) ?_
 obtain ⟨t86, ht86, H⟩ := pbind H
 refine OC hb19 (impl_PickHerd.c t2 (rC hS 0 Z) (rD hS 0 Z) (rC hS 1 Z) (rD hS 1 Z) (rC hS 2 Z) (rD hS 2 Z) (rC hS 4 Z) (rD hS 4 Z) _ ht86) ?_
 rintro _ w1 ⟨A87, c88, A89, c90, A91, c92, rfl, hs⟩
 replace hS := hS.addN hs
 have hS : St _ _ _ [_, _, _, _, _, _, _, _, _] _ := hS
 refine GO ?_
 refine OF (EA hS ([.slice none 0 0, .slice none 0 0, .slice none 0 0])) ?_
 rintro _ w1 ⟨b93, rfl, hS⟩
 refine oE (WV hS 9 [sl A87 t86.1.Names c88, sl A89 t86.1.Eats c90, sl A91 t86.1.Foes c92]) fun w1 hS => ?_
 refine oS (SN (hv A3 A5 A7 c4 c6 c8 t2) (ce hS 3)) ?_
 obtain ⟨t94, ht94, H⟩ := pbind H
 refine OC hb19 (impl_PickHerd.c t2 (rC hS 0 Z) (rD hS 0 Z) (rC hS 1 Z) (rD hS 1 Z) (rC hS 2 Z) (rD hS 2 Z) (rC hS 5 Z) (rD hS 5 Z) _ ht94) ?_
 rintro _ w1 ⟨A95, c96, A97, c98, A99, c100, rfl, hs⟩
 replace hS := hS.addN hs
 have hS : St _ _ _ [_, _, _, _, _, _, _, _, _, _, _, _, _] _ := hS
 refine GO ?_
 refine OF (EA hS ([.slice none 0 0, .slice none 0 0, .slice none 0 0])) ?_
 rintro _ w1 ⟨b101, rfl, hS⟩
 refine oE (WV hS 13 [sl A95 t94.1.Names c96, sl A97 t94.1.Eats c98, sl A99 t94.1.Foes c100]) fun w1 hS => ?_
 refine OS (SN (hv A87 A89 A91 c88 c90 c92 t86.1) (ce hS 9)) ?_
 refine OS (SN (hv A95 A97 A99 c96 c98 c100 t94.1) (ce hS 13)) ?_
 obtain ⟨t102, ht102, H⟩ := pbind H
 refine OC hb20 (impl_JoinHerds.c t86.1 (rC hS 6 Z) (rD hS 6 Z) (rC hS 7 Z) (rD hS 7 Z) (rC hS 8 Z) (rD hS 8 Z) t94.1 (rC hS 10 Z) (rD hS 10 Z) (rC hS 11 Z) (rD hS 11 Z) (rC hS 12 Z) (rD hS 12 Z) _ ht102) ?_
 rintro _ w1 ⟨A103, c104, A105, c106, A107, c108, rfl, hs⟩
 replace hS := hS.addN hs
 have hS : St _ _ _ [_, _, _, _, _, _, _, _, _, _, _, _, _, _, _, _, _] _ := hS
 refine GO ?_
 refine OF (EA hS ([.slice none 0 0, .slice none 0 0, .slice none 0 0])) ?_
 rintro _ w1 ⟨b109, rfl, hS⟩
 refine oE (WV hS 17 [sl A103 t102.1.Names c104, sl A105 t102.1.Eats c106, sl A107 t102.1.Foes c108]) fun w1 hS => ?_
 refine OS (SN (hv A87 A89 A91 c88 c90 c92 t86.1) (ce hS 9)) ?_
 refine OS (SN (hv A95 A97 A99 c96 c98 c100 t94.1) (ce hS 13)) ?_
 obtain ⟨t110, ht110, H⟩ := pbind H
 refine OC hb21 (spec_JoinHerds.c t86.1 (rC hS 6 Z) (rD hS 6 Z) (rC hS 7 Z) (rD hS 7 Z) (rC hS 8 Z) (rD hS 8 Z) t94.1 (rC hS 10 Z) (rD hS 10 Z) (rC hS 11 Z) (rD hS 11 Z) (rC hS 12 Z) (rD hS 12 Z) _ ht110) ?_
 rintro _ w1 ⟨A111, c112, A113, c114, A115, c116, rfl, hs⟩
 replace hS := hS.addN hs
 have hS : St _ _ _ [_, _, _, _, _, _, _, _, _, _, _, _, _, _, _, _, _, _, _, _, _] _ := hS
 refine GO ?_
 refine OF (EA hS ([.slice none 0 0, .slice none 0 0, .slice none 0 0])) ?_
 rintro _ w1 ⟨b117, rfl, hS⟩
 refine OE (WV hS 21 [sl A111 t110.1.Names c112, sl A113 t110.1.Eats c114, sl A115 t110.1.Foes c116]) fun w1 hS => ?_
 refine PX 1 ?_
 refine CJ.seq ?_
 obtain ⟨j257, H, K257⟩ := pbind H
 refine CJ.cut (fun F w1 => ∃ y118, some y118 = some j257 ∧ F = [(1, sl Aa1 a1 ca1), (5, pt b9), (6, i6 (t2.Names.length : Int)), (26, sl A65 y64 c66), (27, sl A68 y67 c69), (35, pt b117), (332, .bool y118)] ∧ St w no w1 [rowC G.cs A3 c4 9 t2.Names, rowC (ci .i16) A5 c6 49 t2.Eats, rowC (ci .u16) A7 c8 55 t2.Foes, box b9 (hv A3 A5 A7 c4 c6 c8 t2) 28, rowC (ci .i64) A65 c66 2 y64, rowC (ci .i64) A68 c69 2 y67, rowC G.cs A111 c112 9 t110.1.Names, rowC (ci .i16) A113 c114 49 t110.1.Eats, rowC (ci .u16) A115 c116 55 t110.1.Foes, box b117 (hv A111 A113 A115 c112 c114 c116 t110.1) 28] [roC (ci .u8) Aa0 ca0 a0, roC (ci .u8) Aa1 ca1 a1, envC Tryz.prog 0]) ?_ ?_
 refine GO ?_
 refine OJ.split (t := 302) Z (fun hb => ?_) (fun hb => ?_)
 replace H := pif_t (of_decide_eq_true hb) H
 exact MD H hS
 replace H := pif_f (of_decide_eq_false hb) H
 refine GO ?_
 refine OJ.split (t := 306) Z (fun hb => ?_) (fun hb => ?_)
 replace H := pif_t (of_decide_eq_true hb) H
 exact MD H hS
 replace H := pif_f (of_decide_eq_false hb) H
 refine GO ?_
 refine OJ.split (t := 311) Z (fun hb => ?_) (fun hb => ?_)
 replace H := pif_t (of_decide_eq_true hb) H
 exact MD H hS
 replace H := pif_f (of_decide_eq_false hb) H
 refine GO ?_
 refine OJ.split (t := 315) Z (fun hb => ?_) (fun hb => ?_)
 replace H := pif_t (of_decide_eq_true hb) H
 exact MD H hS
 replace H := pif_f (of_decide_eq_false hb) H
 refine OS (SN (hv A103 A105 A107 c104 c106 c108 t102.1) (ce hS 17)) ?_
 refine OS (SN (hv A111 A113 A115 c112 c114 c116 t110.1) (ce hS 21)) ?_
 refine oB H hS hb11 (spec_SameHerd.c t102.1 (rC hS 14 Z) (rD hS 14 Z) (rC hS 15 Z) (rD hS 15 Z) (rC hS 16 Z) (rD hS 16 Z) t110.1 (rC hS 18 Z) (rD hS 18 Z) (rC hS 19 Z) (rD hS 19 Z) (rC hS 20 Z) (rD hS 20 Z)) fun t119 w1 H hS => ?_
 refine OJ.split (t := 321) Z (fun hb => ?_) (fun hb => ?_)
 replace H := pif_t hb H
 exact MD H hS
 replace H := pifb_f hb H
 refine GO ?_
 refine oS (SL (cf hS 21 0)) ?_
 refine OJ.split (t := 328) Z (fun hb => ?_) (fun hb => ?_)
 replace H := pif_t (of_decide_eq_true hb) H
 exact MD H hS
 replace H := pif_f (of_decide_eq_false hb) H
 refine OS (SN (hv A111 A113 A115 c112 c114 c116 t110.1) (ce hS 21)) ?_
 refine OB H hS hb13 (impl_ValidHerd.c t110.1 (rC hS 18 Z) (rD hS 18 Z) (rC hS 19 Z) (rD hS 19 Z) (rC hS 20 Z) (rD hS 20 Z)) fun t120 w1 H hS => ?_
 exact MD H hS
 rintro F w1 ⟨y118, he, rfl, hS⟩
 obtain rfl := Option.some.inj he
 have H := K257
 refine CB H (fun H => ?_) (fun H => ?_)
 exact FE H hS
 refine GO ?_
 obtain ⟨j258, H, K258⟩ := pbind H
 refine CJ.cut1 (fun F w1 => some j258 = some (Sum.inr ()) ∧ F = [(1, sl Aa1 a1 ca1), (5, pt b9), (6, i6 (t2.Names.length : Int))] ∧ St w no w1 [rowC G.cs A3 c4 9 t2.Names, rowC (ci .i16) A5 c6 49 t2.Eats, rowC (ci .u16) A7 c8 55 t2.Foes, box b9 (hv A3 A5 A7 c4 c6 c8 t2) 28] [roC (ci .u8) Aa0 ca0 a0, roC (ci .u8) Aa1 ca1 a1, envC Tryz.prog 0]) ?_ ?_
 refine CJ.block ?_
 refine LQ (fun k F w1 => ∃ (y121 : Int), F = [(1, sl Aa1 a1 ca1), (5, pt b9), (6, i6 (t2.Names.length : Int)), (26, sl A65 y64 c66), (27, sl A68 y67 c69), (35, pt b117), (37, i6 y121)] ∧ St w no w1 [rowC G.cs A3 c4 9 t2.Names, rowC (ci .i16) A5 c6 49 t2.Eats, rowC (ci .u16) A7 c8 55 t2.Foes, box b9 (hv A3 A5 A7 c4 c6 c8 t2) 28, rowC (ci .i64) A65 c66 2 y64, rowC (ci .i64) A68 c69 2 y67, rowC G.cs A111 c112 9 t110.1.Names, rowC (ci .i16) A113 c114 49 t110.1.Eats, rowC (ci .u16) A115 c116 55 t110.1.Foes, box b117 (hv A111 A113 A115 c112 c114 c116 t110.1) 28] [roC (ci .u8) Aa0 ca0 a0, roC (ci .u8) Aa1 ca1 a1, envC Tryz.prog 0] ∧ laws_FnHerds.l6 t2 y64 y67 t110 k y121 = some j258) k H hS ?_
 rintro k F w1 ⟨y121, rfl, hS, H⟩
 rw [laws_FnHerds.l6] at H
 refine GO ?_
 refine oS (SL (cf hS 9 0)) ?_
 refine CP H (fun H => GO ?_) (fun H => ?_)
 refine CJ.block ?_
 refine SG ?_
 refine PX 1 ?_
 obtain ⟨j261, H, K261⟩ := pbind H
 refine CJ.cut (fun F w1 => ∃ y122, some y122 = some j261 ∧ F = [(1, sl Aa1 a1 ca1), (5, pt b9), (6, i6 (t2.Names.length : Int)), (26, sl A65 y64 c66), (27, sl A68 y67 c69), (35, pt b117), (37, i6 y121), (38, i6 y122)] ∧ St w no w1 [rowC G.cs A3 c4 9 t2.Names, rowC (ci .i16) A5 c6 49 t2.Eats, rowC (ci .u16) A7 c8 55 t2.Foes, box b9 (hv A3 A5 A7 c4 c6 c8 t2) 28, rowC (ci .i64) A65 c66 2 y64, rowC (ci .i64) A68 c69 2 y67, rowC G.cs A111 c112 9 t110.1.Names, rowC (ci .i16) A113 c114 49 t110.1.Eats, rowC (ci .u16) A115 c116 55 t110.1.Foes, box b117 (hv A111 A113 A115 c112 c114 c116 t110.1) 28] [roC (ci .u8) Aa0 ca0 a0, roC (ci .u8) Aa1 ca1 a1, envC Tryz.prog 0]) ?_ ?_
 refine GO ?_
 refine CP H (fun H => GO ?_) (fun H => ?_)
 obtain ⟨t123, ht123, H⟩ := pbind H
 obtain ⟨ad123, e123⟩ := (rC hS 4 Z).some' ht123
 refine OS (SI e123 (getI_some ht123).1) ?_
 refine OS (SL ((rC hS 4 Z).at_ e123 ht123)) ?_
 exact MD H hS
 refine GO ?_
 obtain ⟨t124, ht124, H⟩ := pbind H
 obtain ⟨ad124, e124⟩ := (rC hS 5 Z).some' ht124
 refine OS (SI e124 (getI_some ht124).1) ?_
 refine OS (SL ((rC hS 5 Z).at_ e124 ht124)) ?_
 exact MD H hS
 rintro F w1 ⟨y122, he, rfl, hS⟩
 obtain rfl := Option.some.inj he
 have H := K261
 refine GO ?_
 refine CJ.draw [] [0, 1, 2, 3, 4, 5, 6, 7, 8, 9, 10, 11, 12, 13, 14, 15, 16, 17, 18, 19, 20, 21, 22, 23] mixed (by kernel_rfl) hS fun w1 hS => ?_
 refine GO ?_
 refine dS (SL (cf hS 9 0)) ?_
 refine xD H (rC hS 6 Z) fun t125 ad125 ht125 H => ?_
 refine dS (SL (cf hS 3 0)) ?_
 refine xD H (rC hS 0 Z) fun t126 ad126 ht126 H => ?_
 refine DJ.split (t := 366) Z (fun hb => ?_) (fun hb => ?_)
 replace H := pif_t (of_decide_eq_true hb) H
 refine GO ?_
 refine CJ.condT Z ?_
 refine GO ?_
 obtain rfl := Option.some.inj H; have H := K258
 exact FE H hS
 replace H := pif_f (of_decide_eq_false hb) H
 refine GO ?_
 refine dS (SL (cf hS 9 1)) ?_
 refine xD H (rC hS 7 Z) fun t127 ad127 ht127 H => ?_
 refine dS (SL (cf hS 3 1)) ?_
 refine xD H (rC hS 1 Z) fun t128 ad128 ht128 H => ?_
 refine CP H (fun H => GO ?_) (fun H => ?_)
 obtain rfl := Option.some.inj H; have H := K258
 exact FE H hS
 exact MD H hS
 exact MD H hS
 rintro F w1 ⟨⟨⟩, rfl, hS⟩
 have H := K258
 refine EJ.next ?_
 obtain ⟨j262, H, K262⟩ := pbind H
 refine CJ.cut (fun F w1 => some j262 = some (Sum.inr ()) ∧ F = [(1, sl Aa1 a1 ca1), (5, pt b9), (6, i6 (t2.Names.length : Int))] ∧ St w no w1 [rowC G.cs A3 c4 9 t2.Names, rowC (ci .i16) A5 c6 49 t2.Eats, rowC (ci .u16) A7 c8 55 t2.Foes, box b9 (hv A3 A5 A7 c4 c6 c8 t2) 28] [roC (ci .u8) Aa0 ca0 a0, roC (ci .u8) Aa1 ca1 a1, envC Tryz.prog 0]) ?_ ?_
 refine GO ?_
 refine CP H (fun H => GO ?_) (fun H => ?_)
 refine oB H hS hb18 (laws_a2At.c (rA hS 1 Z) (rB hS 1 Z)) fun t129 w1 H hS => ?_
 obtain ⟨u130, hu130, H⟩ := pbind H
 refine OJ.st Z Z Z (SR.rem Z Z Z (chk_some hu130)) ?_
 refine GO ?_
 refine oS (SN (hv A3 A5 A7 c4 c6 c8 t2) (ce hS 3)) ?_
 obtain ⟨t131, ht131, H⟩ := pbind H
 refine OC hb22 (impl_WithFoes.c t2 (rC hS 0 Z) (rD hS 0 Z) (rC hS 1 Z) (rD hS 1 Z) (rC hS 2 Z) (rD hS 2 Z) _ ht131) ?_
 rintro _ w1 ⟨A132, c133, A134, c135, A136, c137, rfl, hs⟩
 replace hS := hS.addN hs
 have hS : St _ _ _ [_, _, _, _, _, _, _] _ := hS
 refine GO ?_
 refine OF (EA hS ([.slice none 0 0, .slice none 0 0, .slice none 0 0])) ?_
 rintro _ w1 ⟨b138, rfl, hS⟩
 refine oE (WV hS 7 [sl A132 t131.1.Names c133, sl A134 t131.1.Eats c135, sl A136 t131.1.Foes c137]) fun w1 hS => ?_
 refine oS (SN (hv A132 A134 A136 c133 c135 c137 t131.1) (ce hS 7)) ?_
 refine oB H hS hb16 (impl_AreFoes.c t131.1 (rC hS 4 Z) (rD hS 4 Z) (rC hS 5 Z) (rD hS 5 Z) (rC hS 6 Z) (rD hS 6 Z)) fun t139 w1 H hS => ?_
 refine oS (SN (hv A132 A134 A136 c133 c135 c137 t131.1) (ce hS 7)) ?_
 obtain ⟨t140, ht140, H⟩ := pbind H
 refine OC hb22 (impl_WithFoes.c t131.1 (rC hS 4 Z) (rD hS 4 Z) (rC hS 5 Z) (rD hS 5 Z) (rC hS 6 Z) (rD hS 6 Z) _ ht140) ?_
 rintro _ w1 ⟨A141, c142, A143, c144, A145, c146, rfl, hs⟩
 replace hS := hS.addN hs
 have hS : St _ _ _ [_, _, _, _, _, _, _, _, _, _, _] _ := hS
 refine GO ?_
 refine OF (EA hS ([.slice none 0 0, .slice none 0 0, .slice none 0 0])) ?_
 rintro _ w1 ⟨b147, rfl, hS⟩
 refine oE (WV hS 11 [sl A141 t140.1.Names c142, sl A143 t140.1.Eats c144, sl A145 t140.1.Foes c146]) fun w1 hS => ?_
 refine oS (SN (hv A141 A143 A145 c142 c144 c146 t140.1) (ce hS 11)) ?_
 refine oB H hS hb16 (impl_AreFoes.c t140.1 (rC hS 8 Z) (rD hS 8 Z) (rC hS 9 Z) (rD hS 9 Z) (rC hS 10 Z) (rD hS 10 Z)) fun t148 w1 H hS => ?_
 refine OJ.split (t := 418) Z (fun hb => ?_) (fun hb => ?_)
 replace H := pif_t (of_decide_eq_true hb) H
 refine GO ?_
 refine CJ.condT Z ?_
 refine GO ?_
 obtain rfl := Option.some.inj H; have H := K262
 exact FE H hS
 replace H := pif_f (of_decide_eq_false hb) H
 refine GO ?_
 refine OJ.split (t := 422) Z (fun hb => ?_) (fun hb => ?_)
 replace H := pif_t (of_decide_eq_true hb) H
 refine GO ?_
 refine CJ.condT Z ?_
 refine GO ?_
 obtain rfl := Option.some.inj H; have H := K262
 exact FE H hS
 replace H := pif_f (of_decide_eq_false hb) H
 refine GO ?_
 refine OJ.split (t := 426) Z (fun hb => ?_) (fun hb => ?_)
 replace H := pif_t hb H
 refine GO ?_
 refine CJ.condT Z ?_
 refine GO ?_
 obtain rfl := Option.some.inj H; have H := K262
 exact FE H hS
 replace H := pifb_f hb H
 refine GO ?_
 refine OJ.split (t := 430) Z (fun hb => ?_) (fun hb => ?_)
 replace H := pif_t (of_decide_eq_true hb) H
 refine GO ?_
 refine CJ.condT Z ?_
 refine GO ?_
 obtain rfl := Option.some.inj H; have H := K262
 exact FE H hS
 replace H := pif_f (of_decide_eq_false hb) H
 refine GO ?_
 refine OJ.split (t := 434) Z (fun hb => ?_) (fun hb => ?_)
 replace H := pif_t (of_decide_eq_true hb) H
 refine GO ?_
 refine CJ.condT Z ?_
 refine GO ?_
 obtain rfl := Option.some.inj H; have H := K262
 exact FE H hS
 replace H := pif_f (of_decide_eq_false hb) H
 refine GO ?_
 refine OJ.split (t := 437) Z (fun hb => ?_) (fun hb => ?_)
 replace H := pif_t hb H
 refine GO ?_
 refine CJ.condT Z ?_
 refine GO ?_
 obtain rfl := Option.some.inj H; have H := K262
 exact FE H hS
 replace H := pifb_f hb H
 refine OS (SN (hv A132 A134 A136 c133 c135 c137 t131.1) (ce hS 7)) ?_
 refine oB H hS hb13 (impl_ValidHerd.c t131.1 (rC hS 4 Z) (rD hS 4 Z) (rC hS 5 Z) (rD hS 5 Z) (rC hS 6 Z) (rD hS 6 Z)) fun t149 w1 H hS => ?_
 refine OJ.split (t := 442) Z (fun hb => ?_) (fun hb => ?_)
 replace H := pif_t hb H
 refine GO ?_
 refine CJ.condT Z ?_
 refine GO ?_
 obtain rfl := Option.some.inj H; have H := K262
 exact FE H hS
 replace H := pifb_f hb H
 refine OS (SN (hv A141 A143 A145 c142 c144 c146 t140.1) (ce hS 11)) ?_
 refine oB H hS hb13 (impl_ValidHerd.c t140.1 (rC hS 8 Z) (rD hS 8 Z) (rC hS 9 Z) (rD hS 9 Z) (rC hS 10 Z) (rD hS 10 Z)) fun t150 w1 H hS => ?_
 refine OJ.split (t := 447) Z (fun hb => ?_) (fun hb => ?_)
 replace H := pif_t hb H
 refine GO ?_
 refine CJ.condT Z ?_
 refine GO ?_
 obtain rfl := Option.some.inj H; have H := K262
 exact FE H hS
 replace H := pifb_f hb H
 refine GO ?_
 refine oS (SL (cf hS 11 0)) ?_
 refine CP H (fun H => GO ?_) (fun H => ?_)
 obtain rfl := Option.some.inj H; have H := K262
 exact FE H hS
 exact MD H hS
 exact MD H hS
 rintro F w1 ⟨⟨⟩, rfl, hS⟩
 have H := K262
 refine GO ?_
 refine OS (SN (hv A3 A5 A7 c4 c6 c8 t2) (ce hS 3)) ?_
 obtain ⟨t151, ht151, H⟩ := pbind H
 refine OC hb23 (impl_AddToHerd.c t2 (rC hS 0 Z) (rD hS 0 Z) (rC hS 1 Z) (rD hS 1 Z) (rC hS 2 Z) (rD hS 2 Z) _ ht151) ?_
 rintro _ w1 ⟨A152, c153, A154, c155, A156, c157, rfl, hs⟩
 replace hS := hS.addN hs
 have hS : St _ _ _ [_, _, _, _, _, _, _] _ := hS
 refine GO ?_
 refine OF (EA hS ([.slice none 0 0, .slice none 0 0, .slice none 0 0])) ?_
 rintro _ w1 ⟨b158, rfl, hS⟩
 refine OE (WV hS 7 [sl A152 t151.1.Names c153, sl A154 t151.1.Eats c155, sl A156 t151.1.Foes c157]) fun w1 hS => ?_
 refine PX 1 ?_
 refine CJ.seq ?_
 obtain ⟨j264, H, K264⟩ := pbind H
 refine CJ.cut (fun F w1 => ∃ y159, some y159 = some j264 ∧ F = [(1, sl Aa1 a1 ca1), (473, .bool y159)] ∧ St w no w1 [] [roC (ci .u8) Aa0 ca0 a0, roC (ci .u8) Aa1 ca1 a1, envC Tryz.prog 0]) ?_ ?_
 refine GO ?_
 refine OJ.split (t := 461) Z (fun hb => ?_) (fun hb => ?_)
 replace H := pif_t (of_decide_eq_true hb) H
 exact MD H hS
 replace H := pif_f (of_decide_eq_false hb) H
 refine GO ?_
 refine oS (SL (cf hS 7 0)) ?_
 refine OJ.split (t := 469) Z (fun hb => ?_) (fun hb => ?_)
 replace H := pif_t (of_decide_eq_true hb) H
 exact MD H hS
 replace H := pif_f (of_decide_eq_false hb) H
 refine OS (SN (hv A152 A154 A156 c153 c155 c157 t151.1) (ce hS 7)) ?_
 refine OB H hS hb13 (impl_ValidHerd.c t151.1 (rC hS 4 Z) (rD hS 4 Z) (rC hS 5 Z) (rD hS 5 Z) (rC hS 6 Z) (rD hS 6 Z)) fun t160 w1 H hS => ?_
 exact MD H hS
 rintro F w1 ⟨y159, he, rfl, hS⟩
 obtain rfl := Option.some.inj he
 have H := K264
 refine CB H (fun H => ?_) (fun H => ?_)
 exact FE H hS
 refine GO ?_
 refine OB H hS hb24 (spec_A2Pasture.c (rA hS 1 Z) (rB hS 1 Z)) fun t161 w1 H hS => ?_
 refine OJ.ef rfl rfl rfl (Ef.alloc hS oI rfl rfl (cPasture.enc (⟨0, 0, (Arr.mk' (Arr.mk' 0 : Arr 10 Int) : Arr 10 (Arr 10 Int)), (Arr.mk' 0 : Arr 10 Int), (Arr.mk' 0 : Arr 10 Int)⟩ : Pasture)) (by kernel_rfl)) ?_
 rintro _ w1 ⟨b162, rfl, hS⟩
 refine OJ.es rfl rfl (Es.put oI hS (i := 0) rfl rfl rfl rfl rfl (vs := cPasture.enc t161) rfl (cPasture.len _) (cPasture.one _) (Put.all cPasture (⟨0, 0, (Arr.mk' (Arr.mk' 0 : Arr 10 Int) : Arr 10 (Arr 10 Int)), (Arr.mk' 0 : Arr 10 Int), (Arr.mk' 0 : Arr 10 Int)⟩ : Pasture) t161) (by (try simp only [add_lit, Nat.add_assoc, Nat.zero_add, Nat.add_zero]) <;> rfl)) ?_
 intro w1 hS
 refine GO ?_
 refine oB H hS hb18 (laws_a2At.c (rA hS 1 Z) (rB hS 1 Z)) fun t163 w1 H hS => ?_
 refine oB H hS hb18 (laws_a2At.c (rA hS 1 Z) (rB hS 1 Z)) fun t164 w1 H hS => ?_
 refine oS (SE (ce hS 0)) ?_
 refine oB H hS hb25 (impl_CutColumn.c t161) fun t165 w1 H hS => ?_
 refine oS (SE (ce hS 0)) ?_
 refine OB H hS hb26 (spec_CutColumn.c t161) fun t166 w1 H hS => ?_
 refine PX 5 ?_
 refine CJ.seq ?_
 obtain ⟨j392, H, K392⟩ := pbind H
 refine CJ.cut (fun F w1 => ∃ y167, some y167 = some j392 ∧ F = [(1, sl Aa1 a1 ca1), (51, pt b162), (52, i6 t163), (53, i6 (IntKind.i64.wrap (1 + t164))), (56, i6 t166.1), (517, .bool y167)] ∧ St w no w1 [box b162 (cPasture.enc t161) 58] [roC (ci .u8) Aa0 ca0 a0, roC (ci .u8) Aa1 ca1 a1, envC Tryz.prog 0]) ?_ ?_
 refine GO ?_
 refine OJ.split (t := 498) Z (fun hb => ?_) (fun hb => ?_)
 replace H := pif_t (of_decide_eq_true hb) H
 exact MD H hS
 replace H := pif_f (of_decide_eq_false hb) H
 refine GO ?_
 refine OJ.split (t := 502) Z (fun hb => ?_) (fun hb => ?_)
 replace H := pif_t (of_decide_eq_true hb) H
 exact MD H hS
 replace H := pif_f (of_decide_eq_false hb) H
 refine GO ?_
 refine OJ.split (t := 507) Z (fun hb => ?_) (fun hb => ?_)
 replace H := pif_t (of_decide_eq_true hb) H
 exact MD H hS
 replace H := pif_f (of_decide_eq_false hb) H
 refine GO ?_
 refine OJ.split (t := 511) Z (fun hb => ?_) (fun hb => ?_)
 replace H := pif_t (of_decide_eq_true hb) H
 exact MD H hS
 replace H := pif_f (of_decide_eq_false hb) H
 refine GO ?_
 refine OS (SL (CA.fld (ce hS 0) (mid_part (fe_Pasture_0 _) (fl_Pasture_0 _) ((ci .i8).len _)))) ?_
 exact MD H hS
 rintro F w1 ⟨y167, he, rfl, hS⟩
 obtain rfl := Option.some.inj he
 have H := K392
 refine CB H (fun H => ?_) (fun H => ?_)
 exact FE H hS
 refine GO ?_
 refine OF (EL hS (ci .i64) ([] : List Int)) ?_
 rintro _ w1 ⟨A168, rfl, hS⟩
 refine GO ?_
 obtain ⟨j393, H, K393⟩ := pbind H
 refine CJ.cut1 (fun F w1 => ∃ y169 A170 c171, some y169 = some j393 ∧ F = [(1, sl Aa1 a1 ca1), (51, pt b162), (56, i6 t166.1), (58, sl A170 y169 c171)] ∧ St w no w1 [box b162 (cPasture.enc t161) 58, rowC (ci .i64) A170 c171 2 y169] [roC (ci .u8) Aa0 ca0 a0, roC (ci .u8) Aa1 ca1 a1, envC Tryz.prog 0]) ?_ ?_
 refine CJ.block ?_
 refine LQ (fun k F w1 => ∃ (y172 : List Int) (y175 : Int) (A173 c174 : _), F = [(1, sl Aa1 a1 ca1), (51, pt b162), (52, i6 t163), (53, i6 (IntKind.i64.wrap (1 + t164))), (56, i6 t166.1), (58, sl A173 y172 c174), (59, i6 y175)] ∧ St w no w1 [box b162 (cPasture.enc t161) 58, rowC (ci .i64) A173 c174 2 y172] [roC (ci .u8) Aa0 ca0 a0, roC (ci .u8) Aa1 ca1 a1, envC Tryz.prog 0] ∧ laws_FnHerds.l7 t161 t163 t164 k y172 y175 = some j393) k H hS ?_
 rintro k F w1 ⟨y172, y175, A173, c174, rfl, hS, H⟩
 rw [laws_FnHerds.l7] at H
 refine GO ?_
 refine oS (SL (CA.fld (ce hS 0) (mid_part (fe_Pasture_0 _) (fl_Pasture_0 _) ((ci .i8).len _)))) ?_
 refine CP H (fun H => ?_) (fun H => ?_)
 refine CJ.skip (EJ.next ?_)
 obtain ⟨j436, H, K436⟩ := pbind H
 refine CJ.cut (fun F w1 => ∃ y176 A177 c178, some y176 = some j436 ∧ F = [(1, sl Aa1 a1 ca1), (51, pt b162), (52, i6 t163), (53, i6 (IntKind.i64.wrap (1 + t164))), (56, i6 t166.1), (58, sl A177 y176 c178), (59, i6 y175)] ∧ St w no w1 [box b162 (cPasture.enc t161) 58, rowC (ci .i64) A177 c178 2 y176] [roC (ci .u8) Aa0 ca0 a0, roC (ci .u8) Aa1 ca1 a1, envC Tryz.prog 0]) ?_ ?_
 refine CJ.block ?_
 refine GO ?_
 obtain ⟨j447, H, K447⟩ := pbind H
 refine CJ.cut1 (fun F w1 => ∃ y179 y180, some j447 = some (y179, y180) ∧ F = [(1, sl Aa1 a1 ca1), (51, pt b162), (52, i6 t163), (53, i6 (IntKind.i64.wrap (1 + t164))), (56, i6 t166.1), (58, sl A173 y172 c174), (59, i6 y175), (60, i6 y179), (61, i6 y180)] ∧ St w no w1 [box b162 (cPasture.enc t161) 58, rowC (ci .i64) A173 c174 2 y172] [roC (ci .u8) Aa0 ca0 a0, roC (ci .u8) Aa1 ca1 a1, envC Tryz.prog 0]) ?_ ?_
 refine CJ.block ?_
 refine LQ (fun k F w1 => ∃ (y181 : Int) (y182 : Int) (y183 : Int), F = [(1, sl Aa1 a1 ca1), (51, pt b162), (52, i6 t163), (53, i6 (IntKind.i64.wrap (1 + t164))), (56, i6 t166.1), (58, sl A173 y172 c174), (59, i6 y175), (60, i6 y181), (61, i6 y182), (62, .int .i8 y183)] ∧ St w no w1 [box b162 (cPasture.enc t161) 58, rowC (ci .i64) A173 c174 2 y172] [roC (ci .u8) Aa0 ca0 a0, roC (ci .u8) Aa1 ca1 a1, envC Tryz.prog 0] ∧ laws_FnHerds.l8 t161 y175 k y181 y182 y183 = some j447) k H hS ?_
 rintro k F w1 ⟨y181, y182, y183, rfl, hS, H⟩
 rw [laws_FnHerds.l8] at H
 refine GO ?_
 refine oS (SL (CA.fld (ce hS 0) (mid_part (fe_Pasture_1 _) (fl_Pasture_1 _) ((ci .i8).len _)))) ?_
 refine CP H (fun H => ?_) (fun H => ?_)
 refine CJ.skip (EJ.next ?_)
 obtain ⟨j454, H, K454⟩ := pbind H
 refine CJ.cut (fun F w1 => ∃ y184 y185, some j454 = some (y184, y185) ∧ F = [(1, sl Aa1 a1 ca1), (51, pt b162), (52, i6 t163), (53, i6 (IntKind.i64.wrap (1 + t164))), (56, i6 t166.1), (58, sl A173 y172 c174), (59, i6 y175), (60, i6 y184), (61, i6 y185), (62, .int .i8 y183)] ∧ St w no w1 [box b162 (cPasture.enc t161) 58, rowC (ci .i64) A173 c174 2 y172] [roC (ci .u8) Aa0 ca0 a0, roC (ci .u8) Aa1 ca1 a1, envC Tryz.prog 0]) ?_ ?_
 refine CJ.block ?_
 refine GO ?_
 obtain ⟨j456, H, K456⟩ := pbind H
 refine CJ.cut1 (fun F w1 => ∃ y186 y187, some j456 = some (y186, y187) ∧ F = [(1, sl Aa1 a1 ca1), (51, pt b162), (52, i6 t163), (53, i6 (IntKind.i64.wrap (1 + t164))), (56, i6 t166.1), (58, sl A173 y172 c174), (59, i6 y175), (60, i6 y186), (61, i6 y187), (62, .int .i8 y183)] ∧ St w no w1 [box b162 (cPasture.enc t161) 58, rowC (ci .i64) A173 c174 2 y172] [roC (ci .u8) Aa0 ca0 a0, roC (ci .u8) Aa1 ca1 a1, envC Tryz.prog 0]) ?_ ?_
 refine CJ.block ?_
 refine LQ (fun k F w1 => ∃ (y188 : Int) (y189 : Int) (y190 : Int), F = [(1, sl Aa1 a1 ca1), (51, pt b162), (52, i6 t163), (53, i6 (IntKind.i64.wrap (1 + t164))), (56, i6 t166.1), (58, sl A173 y172 c174), (59, i6 y175), (60, i6 y188), (61, i6 y189), (62, .int .i8 y183), (63, .int .i8 y190)] ∧ St w no w1 [box b162 (cPasture.enc t161) 58, rowC (ci .i64) A173 c174 2 y172] [roC (ci .u8) Aa0 ca0 a0, roC (ci .u8) Aa1 ca1 a1, envC Tryz.prog 0] ∧ laws_FnHerds.l9 t161 y175 y183 k y188 y189 y190 = some j456) k H hS ?_
 rintro k F w1 ⟨y188, y189, y190, rfl, hS, H⟩
 rw [laws_FnHerds.l9] at H
 refine GO ?_
 refine oS (SL (CA.fld (ce hS 0) (mid_part (fe_Pasture_0 _) (fl_Pasture_0 _) ((ci .i8).len _)))) ?_
 refine CP H (fun H => GO ?_) (fun H => ?_)
 refine CJ.block ?_
 refine GO ?_
 refine CP H (fun H => GO ?_) (fun H => ?_)
 obtain ⟨t191, ht191, H⟩ := pbind H
 refine OJ.st Z Z Z (SR.idxA oU oI Z Z Z Z Z (Arr.lt ht191)) ?_
 obtain ⟨t192, ht192, H⟩ := pbind H
 refine OJ.st Z Z Z (SR.idxA oU oI Z Z Z Z Z (Arr.lt ht192)) ?_
 refine OS (SL (CA.idx (CA.idx (CA.fld (ce hS 0) (mid_part (fe_Pasture_2 _) (fl_Pasture_2 _) ((carr 10 (carr 10 (ci .i16))).len _))) ht191) ht192)) ?_
 exact MD H hS
 refine GO ?_
 obtain ⟨t193, ht193, H⟩ := pbind H
 refine OJ.st Z Z Z (SR.idxA oU oI Z Z Z Z Z (Arr.lt ht193)) ?_
 obtain ⟨t194, ht194, H⟩ := pbind H
 refine OJ.st Z Z Z (SR.idxA oU oI Z Z Z Z Z (Arr.lt ht194)) ?_
 refine OS (SL (CA.idx (CA.idx (CA.fld (ce hS 0) (mid_part (fe_Pasture_2 _) (fl_Pasture_2 _) ((carr 10 (carr 10 (ci .i16))).len _))) ht193) ht194)) ?_
 exact MD H hS
 exact MD H hS
 rintro F w1 ⟨y186, y187, ⟨⟩, rfl, hS⟩
 have H := K456
 refine EJ.blk (?_)
 exact MD H hS
 rintro F w1 ⟨y184, y185, ⟨⟩, rfl, hS⟩
 have H := K454
 exact MD H hS
 exact MD H hS
 rintro F w1 ⟨y179, y180, ⟨⟩, rfl, hS⟩
 have H := K447
 refine EJ.next ?_
 refine GO ?_
 refine OF (EL hS (ci .i64) ([(if (IntKind.i64.wrap ((IntKind.i64.wrap (y179 * (IntKind.i64.wrap (1 + t164)))) - (IntKind.i64.wrap (y180 * t163)))) < (IntKind.i64.wrap ((IntKind.i64.wrap (y180 * t163)) - (IntKind.i64.wrap (y179 * (IntKind.i64.wrap (1 + t164)))))) then (IntKind.i64.wrap ((IntKind.i64.wrap (y180 * t163)) - (IntKind.i64.wrap (y179 * (IntKind.i64.wrap (1 + t164)))))) else (IntKind.i64.wrap ((IntKind.i64.wrap (y179 * (IntKind.i64.wrap (1 + t164)))) - (IntKind.i64.wrap (y180 * t163)))))] : List Int)) ?_
 rintro _ w1 ⟨A195, rfl, hS⟩
 obtain ⟨u196, hu196, H⟩ := pbind H
 refine OW (AP hS 1 (rC hS 2 Z) (chk_some hu196)) ?_
 rintro _ w1 ⟨A197, c198, rfl, hS⟩
 exact MD H hS
 rintro F w1 ⟨y176, A177, c178, he, rfl, hS⟩
 obtain rfl := Option.some.inj he
 have H := K436
 exact MD H hS
 exact MD H hS
 rintro F w1 ⟨y169, A170, c171, he, rfl, hS⟩
 obtain rfl := Option.some.inj he
 have H := K393
 refine EJ.next ?_
 refine GO ?_
 obtain ⟨j457, H, K457⟩ := pbind H
 refine CJ.cut1 (fun F w1 => some j457 = some (Sum.inr ()) ∧ F = [(1, sl Aa1 a1 ca1), (51, pt b162)] ∧ St w no w1 [box b162 (cPasture.enc t161) 58] [roC (ci .u8) Aa0 ca0 a0, roC (ci .u8) Aa1 ca1 a1, envC Tryz.prog 0]) ?_ ?_
 refine CJ.block ?_
 refine LQ (fun k F w1 => ∃ (y199 : Int), F = [(1, sl Aa1 a1 ca1), (51, pt b162), (56, i6 t166.1), (58, sl A170 y169 c171), (64, i6 y199)] ∧ St w no w1 [box b162 (cPasture.enc t161) 58, rowC (ci .i64) A170 c171 2 y169] [roC (ci .u8) Aa0 ca0 a0, roC (ci .u8) Aa1 ca1 a1, envC Tryz.prog 0] ∧ laws_FnHerds.l10 t166 y169 k y199 = some j457) k H hS ?_
 rintro k F w1 ⟨y199, rfl, hS, H⟩
 rw [laws_FnHerds.l10] at H
 refine GO ?_
 refine CP H (fun H => GO ?_) (fun H => ?_)
 refine CJ.block ?_
 refine GO ?_
 refine CJ.draw [] [0, 1, 2, 3, 4, 5, 6, 7, 8, 9, 10, 11, 12, 13, 14, 15, 16, 17, 18, 19, 20, 21, 22, 23, 24] mixed (by kernel_rfl) hS fun w1 hS => ?_
 refine GO ?_
 refine xD H (rC hS 1 Z) fun t200 ad200 ht200 H => ?_
 refine xD H (rC hS 1 Z) fun t201 ad201 ht201 H => ?_
 refine DJ.split (t := 593) Z (fun hb => ?_) (fun hb => ?_)
 replace H := pif_t (of_decide_eq_true hb) H
 refine GO ?_
 refine CJ.condT Z ?_
 refine GO ?_
 obtain rfl := Option.some.inj H; have H := K457
 exact FE H hS
 replace H := pif_f (of_decide_eq_false hb) H
 refine GO ?_
 refine DJ.split (t := 597) Z (fun hb => ?_) (fun hb => ?_)
 replace H := pif_t (of_decide_eq_true hb) H
 refine GO ?_
 refine xD H (rC hS 1 Z) fun t202 ad202 ht202 H => ?_
 refine xD H (rC hS 1 Z) fun t203 ad203 ht203 H => ?_
 refine CP H (fun H => GO ?_) (fun H => ?_)
 obtain rfl := Option.some.inj H; have H := K457
 exact FE H hS
 exact MD H hS
 replace H := pif_f (of_decide_eq_false hb) H
 refine GO ?_
 refine CJ.condF Z ?_
 exact MD H hS
 exact MD H hS
 rintro F w1 ⟨⟨⟩, rfl, hS⟩
 have H := K457
 refine EJ.next ?_
 refine GO ?_
 refine OS (SE (ce hS 0)) ?_
 refine OB H hS hb27 (spec_A2Spot.c (rA hS 1 Z) (rB hS 1 Z) t161) fun t204 w1 H hS => ?_
 refine OF (EA hS (cSpot.enc (⟨0, 0⟩ : Spot))) ?_
 rintro _ w1 ⟨b205, rfl, hS⟩
 refine OJ.es Z Z (Es.store oI hS (i := 1) Z Z Z Z Z Z (vs := cSpot.enc t204) Z (cSpot.len _) (cSpot.one _) (Nat.le_of_ble_eq_true Z) (cSpot.enc t204) Z) ?_
 intro w1 hS
 refine GO ?_
 refine OS (SE (ce hS 0)) ?_
 refine OS (SE (ce hS 1)) ?_
 refine OS (SE (ce hS 1)) ?_
 refine OF (EL hS cSpot ([t204, t204] : List Spot)) ?_
 rintro _ w1 ⟨A206, rfl, hS⟩
 obtain ⟨t207, ht207, H⟩ := pbind H
 refine OC hb28 (impl_WateredYards.c t161 (rC hS 2 Z) (rD hS 2 Z) _ ht207) ?_
 rintro _ w1 ⟨A208, c209, rfl, hs⟩
 replace hS := hS.addN hs
 refine GO ?_
 refine OS (SE (ce hS 0)) ?_
 obtain ⟨t210, ht210, H⟩ := pbind H
 refine OC hb29 (spec_YardsOf.c t161 _ ht210) ?_
 rintro _ w1 ⟨A211, c212, D213, rfl, hs⟩
 replace hS := hS.addN hs
 refine GO ?_
 refine CJ.draw [] [0, 1, 2, 3, 4, 5, 6, 7, 8, 9, 10, 11, 12, 13, 14, 15, 16, 17, 18, 19, 20, 21, 22, 23, 24, 25, 26, 27, 28, 29, 30, 31, 32, 33, 34, 35] mixed (by kernel_rfl) hS fun w1 hS => ?_
 refine GO ?_
 refine DJ.split (t := 627) Z (fun hb => ?_) (fun hb => ?_)
 replace H := pif_t (of_decide_eq_true hb) H
 refine GO ?_
 refine DJ.split (t := 631) Z (fun hb => ?_) (fun hb => ?_)
 replace H := pif_t (of_decide_eq_true hb) H
 refine GO ?_
 refine DJ.split (t := 636) Z (fun hb => ?_) (fun hb => ?_)
 replace H := pif_t (of_decide_eq_true hb) H
 refine GO ?_
 refine xD H (rC hS 3 Z) fun t214 ad214 ht214 H => ?_
 refine DJ.split (t := 642) Z (fun hb => ?_) (fun hb => ?_)
 replace H := pif_t (of_decide_eq_true hb) H
 refine GO ?_
 refine xD H (rC hS 3 Z) fun t215 ad215 ht215 H => ?_
 refine DJ.split (t := 650) Z (fun hb => ?_) (fun hb => ?_)
 replace H := pif_t (of_decide_eq_true hb) H
 refine GO ?_
 refine xD H (rC hS 3 Z) fun t216 ad216 ht216 H => ?_
 obtain ⟨t217, ht217, H⟩ := pbind H
 obtain ⟨Ae217, ce217, g217, d217, hx217⟩ := ros_el (hS.rowsRo (i := 4) rfl) ht217
 obtain ⟨ad217, e217⟩ := (ros_rd (hS.rowsRo (i := 4) rfl)).some' g217
 refine DS (SI e217 (getI_some ht217).1) ?_
 refine DS (SL ((ros_rd (hS.rowsRo (i := 4) Z)).at_ e217 g217)) ?_
 refine DS (SE (ce hS 1)) ?_
 obtain ⟨t218, ht218, H⟩ := pbind H
 refine DJ.callF rfl rfl rfl rfl rfl rfl rfl hb30 rfl (spec_A2HasSpot.c (ros_sub (hS.rowsRo (i := 4) rfl) d217 hx217) (ros_subLe (hS.rowsRo (i := 4) rfl) d217 hx217) t204 _ ht218) (by rintro v w' ⟨rfl, hs⟩; exact hs) ?_
 rintro _ w1 ⟨rfl, hs⟩
 replace hS := hS.grow hs
 exact FE H hS
 replace H := pif_f (of_decide_eq_false hb) H
 exact FE H hS
 replace H := pif_f (of_decide_eq_false hb) H
 exact FE H hS
 replace H := pif_f (of_decide_eq_false hb) H
 exact FE H hS
 replace H := pif_f (of_decide_eq_false hb) H
 exact FE H hS
 replace H := pif_f (of_decide_eq_false hb) H
 exact FE H hS
end Go.Proofs.YtplfdbfdalaefaaGreatDoor
