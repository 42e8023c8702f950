/-
  What the functions come to.
-/
import Derived.Test.YtplfdbfdalaefaaGreatDoorGP1
namespace Go.Proofs.YtplfdbfdalaefaaGreatDoor
open G
set_option linter.unusedVariables false
set_option linter.unusedSimpArgs false
set_option maxRecDepth 100000
set_option maxHeartbeats 4000000
def slices_IndexFunc_int64_int64.l1 (a0 : List Int) (a1 : Int → Option Bool) : Nat → Int → Option (Int ⊕ Unit)
  | 0, _ => none
  | k + 1, y1 => if y1 < (a0.length : Int) then ((getI a0 y1).bind fun t2 => (a1 t2).bind fun t3 => if t3 = true then (some (Sum.inl y1)) else (slices_IndexFunc_int64_int64.l1 a0 a1 k (IntKind.i64.wrap (y1 + 1)))) else (some (Sum.inr ()))
def slices_IndexFunc_int64_int64.f (k : Nat) (a0 : List Int) (a1 : Int → Option Bool) : Option Int := (slices_IndexFunc_int64_int64.l1 a0 a1 k 0).bind fun s227 => match s227 with | .inl r => some r | .inr _ => some (-1)
theorem slices_IndexFunc_int64_int64.c {k w Aa0 ca0} {a0 : List Int} (hr0 : Rd (ci .i64) w Aa0 a0) (hc0 : a0.length ≤ ca0) (na1 : Nat) (fsa1 : Array Value) (capa1 : Array Value) (hb1 : hasBody Tryz.prog na1) (a1 : Int → Option Bool) (hf1 : ∀ (z0 : Int) (r : Bool), a1 z0 = some r → ∀ w', Chg no w w' → CV Tryz.prog na1 (fsa1 ++ [.int .i64 z0].toArray ++ capa1) w' fun v w'' => v = .bool r ∧ Ext w' w'') (r : Int) (H : slices_IndexFunc_int64_int64.f k a0 a1 = some r) :
 CV Tryz.prog 155 [sl Aa0 a0 ca0, .func (.func na1) fsa1 capa1].toArray w fun v w' => v = .int .i64 r ∧ Ext w w' := by
 have hS := ((St.init w no).param (ci .i64) Aa0 ca0 a0 hr0 hc0)
 unfold slices_IndexFunc_int64_int64.f at H
 refine CV.body Tryz.func155 Z Tryz.ntmps155 Z ?_
 refine GO ?_
 obtain ⟨j227, H, K227⟩ := pbind H
 refine CJ.cut1 (fun F w1 => some j227 = some (Sum.inr ()) ∧ F = [] ∧ St w no w1 [] [roC (ci .i64) Aa0 ca0 a0]) ?_ ?_
 refine CJ.block ?_
 refine LQ (fun k F w1 => ∃ (y1 : Int), F = [(0, sl Aa0 a0 ca0), (1, .func (.func na1) fsa1 capa1), (7, i6 (a0.length : Int)), (8, i6 y1)] ∧ St w no w1 [] [roC (ci .i64) Aa0 ca0 a0] ∧ slices_IndexFunc_int64_int64.l1 a0 a1 k y1 = some j227) k H hS ?_
 rintro k F w1 ⟨y1, rfl, hS, H⟩
 rw [slices_IndexFunc_int64_int64.l1] at H
 refine GO ?_
 refine CP H (fun H => GO ?_) (fun H => ?_)
 refine CJ.block ?_
 refine GO ?_
 refine xI H (rA hS 0 Z) fun t2 ad2 ht2 H => ?_
 obtain ⟨t3, ht3, H⟩ := pbind H
 refine OJ.call Z Z (Nat.le_of_ble_eq_true Z) Z Z Z hb1 Z (hf1 t2 _ ht3 _ hS.chg) ?_
 rintro _ w1 ⟨rfl, hs⟩
 replace hS := hS.grow hs
 refine GO ?_
 refine CB H (fun H => GO ?_) (fun H => ?_)
 obtain rfl := Option.some.inj H; have H := K227
 exact FE H hS
 exact MD H hS
 exact MD H hS
 rintro F w1 ⟨⟨⟩, rfl, hS⟩
 have H := K227
 refine EJ.next ?_
 exact FE H hS

def slices_ContainsFunc_int64_int64.f (k : Nat) (a0 : List Int) (a1 : Int → Option Bool) : Option Bool := (slices_IndexFunc_int64_int64.f k a0 a1).bind fun t1 => some (decide (0 ≤ t1))
theorem slices_ContainsFunc_int64_int64.c {k w Aa0 ca0} {a0 : List Int} (hr0 : Rd (ci .i64) w Aa0 a0) (hc0 : a0.length ≤ ca0) (na1 : Nat) (fsa1 : Array Value) (capa1 : Array Value) (hb1 : hasBody Tryz.prog na1) (a1 : Int → Option Bool) (hf1 : ∀ (z0 : Int) (r : Bool), a1 z0 = some r → ∀ w', Chg no w w' → CV Tryz.prog na1 (fsa1 ++ [.int .i64 z0].toArray ++ capa1) w' fun v w'' => v = .bool r ∧ Ext w' w'') (r : Bool) (H : slices_ContainsFunc_int64_int64.f k a0 a1 = some r) :
 CV Tryz.prog 109 [sl Aa0 a0 ca0, .func (.func na1) fsa1 capa1].toArray w fun v w' => v = .bool r ∧ Ext w w' := by
 have hS := ((St.init w no).param (ci .i64) Aa0 ca0 a0 hr0 hc0)
 unfold slices_ContainsFunc_int64_int64.f at H
 refine CV.body Tryz.func109 Z Tryz.ntmps109 Z ?_
 refine GO ?_
 refine OB H hS hb155 (slices_IndexFunc_int64_int64.c (rA hS 0 Z) (rB hS 0 Z) na1 fsa1 capa1 hb1 a1 (fun z0 r h w' hx => hf1 z0 r h w' (hS.chg.then hx (fun _ _ e => e.elim)))) fun t1 w1 H hS => ?_
 exact FE H hS

def impl_size_string.f (a0 : List ByteArray) : Option Int := some (a0.length : Int)
theorem impl_size_string.c {w Aa0 ca0} {a0 : List ByteArray} (hr0 : Rd G.cs w Aa0 a0) (hc0 : a0.length ≤ ca0) (r : Int) (H : impl_size_string.f a0 = some r) :
 CV Tryz.prog 116 [sl Aa0 a0 ca0].toArray w fun v w' => v = .int .i64 r ∧ Ext w w' := by
 have hS := ((St.init w no).param G.cs Aa0 ca0 a0 hr0 hc0)
 unfold impl_size_string.f at H
 refine CV.body Tryz.func116 Z Tryz.ntmps116 Z ?_
 exact FE H hS

def impl_Herd_many.f (a0 : Herd) : Option Int := (impl_size_string.f a0.Names).bind fun t2 => some t2
theorem impl_Herd_many.c {w Aa0_0 ca0_0 Aa0_1 ca0_1 Aa0_2 ca0_2} (a0 : Herd) (hr0_0 : Rd G.cs w Aa0_0 a0.Names) (hc0_0 : a0.Names.length ≤ ca0_0) (hr0_1 : Rd (ci .i16) w Aa0_1 a0.Eats) (hc0_1 : a0.Eats.length ≤ ca0_1) (hr0_2 : Rd (ci .u16) w Aa0_2 a0.Foes) (hc0_2 : a0.Foes.length ≤ ca0_2) (r : Int) (H : impl_Herd_many.f a0 = some r) :
 CV Tryz.prog 64 [.agg (hv Aa0_0 Aa0_1 Aa0_2 ca0_0 ca0_1 ca0_2 a0).toArray].toArray w fun v w' => v = .int .i64 r ∧ Ext w w' := by
 have hS := ((((St.init w no).param G.cs Aa0_0 ca0_0 a0.Names hr0_0 hc0_0).param (ci .i16) Aa0_1 ca0_1 a0.Eats hr0_1 hc0_1).param (ci .u16) Aa0_2 ca0_2 a0.Foes hr0_2 hc0_2)
 unfold impl_Herd_many.f at H
 refine CV.body Tryz.func64 Z Tryz.ntmps64 Z ?_
 refine GO ?_
 refine oX hS (hv Aa0_0 Aa0_1 Aa0_2 ca0_0 ca0_1 ca0_2 a0) fun b1 w1 hS => ?_
 refine OS (SL (cf hS 0 0)) ?_
 refine OB H hS hb116 (impl_size_string.c (rA hS 0 Z) (rB hS 0 Z)) fun t2 w1 H hS => ?_
 exact FE H hS

def impl_herdCode_1.f (a1 : Herd) (a0 : Int) : Option Bool := (impl_Herd_many.f a1).bind fun t1 => (impl_within.f a0 0 (IntKind.i64.wrap (t1 - 1))).bind fun t2 => some (!t2)
theorem impl_herdCode_1.c {w Aa1_0 ca1_0 Aa1_1 ca1_1 Aa1_2 ca1_2} (a1 : Herd) (hr1_0 : Rd G.cs w Aa1_0 a1.Names) (hc1_0 : a1.Names.length ≤ ca1_0) (hr1_1 : Rd (ci .i16) w Aa1_1 a1.Eats) (hc1_1 : a1.Eats.length ≤ ca1_1) (hr1_2 : Rd (ci .u16) w Aa1_2 a1.Foes) (hc1_2 : a1.Foes.length ≤ ca1_2) (pa1 : Addr) (hp1 : CA w pa1 (hv Aa1_0 Aa1_1 Aa1_2 ca1_0 ca1_1 ca1_2 a1)) {a0 : Int} (r : Bool) (H : impl_herdCode_1.f a1 a0 = some r) :
 CV Tryz.prog 110 [.int .i64 a0, .pointer (some pa1)].toArray w fun v w' => v = .bool r ∧ Ext w w' := by
 have hS := (((((St.init w no).param G.cs Aa1_0 ca1_0 a1.Names hr1_0 hc1_0).param (ci .i16) Aa1_1 ca1_1 a1.Eats hr1_1 hc1_1).param (ci .u16) Aa1_2 ca1_2 a1.Foes hr1_2 hc1_2).paramP pa1 (hv Aa1_0 Aa1_1 Aa1_2 ca1_0 ca1_1 ca1_2 a1) hp1)
 unfold impl_herdCode_1.f at H
 refine CV.body Tryz.func110 Z Tryz.ntmps110 Z ?_
 refine GO ?_
 refine OS (SN (hv Aa1_0 Aa1_1 Aa1_2 ca1_0 ca1_1 ca1_2 a1) (hS.ca (i := 3) Z)) ?_
 refine oB H hS hb64 (impl_Herd_many.c a1 (rA hS 0 Z) (rB hS 0 Z) (rA hS 1 Z) (rB hS 1 Z) (rA hS 2 Z) (rB hS 2 Z)) fun t1 w1 H hS => ?_
 refine OB H hS hb53 (impl_within.c) fun t2 w1 H hS => ?_
 exact FE H hS

def impl_unless.f (a0 : Bool) (a1 : Int) : Option Int := if a0 = true then (some 0) else (some a1)
theorem impl_unless.c {w} {a0 : Bool} {a1 : Int} (r : Int) (H : impl_unless.f a0 a1 = some r) :
 CV Tryz.prog 59 [.bool a0, i6 a1].toArray w fun v w' => v = .int .i64 r ∧ Ext w w' := by
 have hS := (St.init w no)
 unfold impl_unless.f at H
 refine CV.body Tryz.func59 Z Tryz.ntmps59 Z ?_
 refine GO ?_
 refine CB H (fun H => ?_) (fun H => ?_)
 exact FE H hS
 exact FE H hS

def impl_herdCode.f (k : Nat) (a0 : Herd) (a1 : List Int) : Option Int := (impl_ValidHerd.f k a0).bind fun t2 => if (!t2) = true then (some 1) else ((slices_ContainsFunc_int64_int64.f k a1 (impl_herdCode_1.f a0)).bind fun t3 => (impl_unless.f (!t3) 2).bind fun t4 => some t4)
theorem impl_herdCode.c {k w Aa0_0 ca0_0 Aa0_1 ca0_1 Aa0_2 ca0_2} (a0 : Herd) (hr0_0 : Rd G.cs w Aa0_0 a0.Names) (hc0_0 : a0.Names.length ≤ ca0_0) (hr0_1 : Rd (ci .i16) w Aa0_1 a0.Eats) (hc0_1 : a0.Eats.length ≤ ca0_1) (hr0_2 : Rd (ci .u16) w Aa0_2 a0.Foes) (hc0_2 : a0.Foes.length ≤ ca0_2) {Aa1 ca1} {a1 : List Int} (hr1 : Rd (ci .i64) w Aa1 a1) (hc1 : a1.length ≤ ca1) (r : Int) (H : impl_herdCode.f k a0 a1 = some r) :
 CV Tryz.prog 56 [.agg (hv Aa0_0 Aa0_1 Aa0_2 ca0_0 ca0_1 ca0_2 a0).toArray, sl Aa1 a1 ca1].toArray w fun v w' => v = .int .i64 r ∧ Ext w w' := by
 have hS := (((((St.init w no).param G.cs Aa0_0 ca0_0 a0.Names hr0_0 hc0_0).param (ci .i16) Aa0_1 ca0_1 a0.Eats hr0_1 hc0_1).param (ci .u16) Aa0_2 ca0_2 a0.Foes hr0_2 hc0_2).param (ci .i64) Aa1 ca1 a1 hr1 hc1)
 unfold impl_herdCode.f at H
 refine CV.body Tryz.func56 Z Tryz.ntmps56 Z ?_
 refine GO ?_
 refine oX hS (hv Aa0_0 Aa0_1 Aa0_2 ca0_0 ca0_1 ca0_2 a0) fun b1 w1 hS => ?_
 refine OS (SN (hv Aa0_0 Aa0_1 Aa0_2 ca0_0 ca0_1 ca0_2 a0) (ce hS 0)) ?_
 refine oB H hS hb13 (impl_ValidHerd.c a0 (rA hS 0 Z) (rB hS 0 Z) (rA hS 1 Z) (rB hS 1 Z) (rA hS 2 Z) (rB hS 2 Z)) fun t2 w1 H hS => ?_
 refine CB H (fun H => ?_) (fun H => ?_)
 exact FE H hS
 refine GO ?_
 refine oB H hS hb109 (slices_ContainsFunc_int64_int64.c (rA hS 3 Z) (rB hS 3 Z) 110 #[] #[.pointer (some ⟨b1, 0, none⟩)] hb110 (impl_herdCode_1.f a0) (fun z0 r h w' hx => CV.cast (impl_herdCode_1.c a0 ((rA hS 0 Z).ext hx) (rB hS 0 Z) ((rA hS 1 Z).ext hx) (rB hS 1 Z) ((rA hS 2 Z).ext hx) (rB hS 2 Z) ⟨b1, 0, none⟩ (CA.ext (hS.cells (i := 0) rfl) hx) r h) (by simp))) fun t3 w1 H hS => ?_
 refine OB H hS hb59 (impl_unless.c) fun t4 w1 H hS => ?_
 exact FE H hS

def impl_FoesOf.f (k : Nat) (a0 : Herd) (a1 : Int) : Option (List Int × Int) := (impl_herdCode.f k a0 ([a1] : List Int)).bind fun t3 => if t3 ≠ 0 then (some ([], t3)) else ((getI a0.Foes a1).bind fun t4 => (impl_listed.f k t4).bind fun t5 => some (t5, 0))
theorem impl_FoesOf.c {k w Aa0_0 ca0_0 Aa0_1 ca0_1 Aa0_2 ca0_2} (a0 : Herd) (hr0_0 : Rd G.cs w Aa0_0 a0.Names) (hc0_0 : a0.Names.length ≤ ca0_0) (hr0_1 : Rd (ci .i16) w Aa0_1 a0.Eats) (hc0_1 : a0.Eats.length ≤ ca0_1) (hr0_2 : Rd (ci .u16) w Aa0_2 a0.Foes) (hc0_2 : a0.Foes.length ≤ ca0_2) {a1 : Int} (r : List Int × Int) (H : impl_FoesOf.f k a0 a1 = some r) :
 CV Tryz.prog 15 [.agg (hv Aa0_0 Aa0_1 Aa0_2 ca0_0 ca0_1 ca0_2 a0).toArray, .int .i64 a1].toArray w fun v w' => ∃ (A0 : Option Addr) (c0 : Nat), v = .tuple #[sl A0 r.1 c0, i6 r.2] ∧ St w no w' [rowC (ci .i64) A0 c0 2 r.1] [] := by
 have hS := ((((St.init w no).param G.cs Aa0_0 ca0_0 a0.Names hr0_0 hc0_0).param (ci .i16) Aa0_1 ca0_1 a0.Eats hr0_1 hc0_1).param (ci .u16) Aa0_2 ca0_2 a0.Foes hr0_2 hc0_2)
 unfold impl_FoesOf.f at H
 refine CV.body Tryz.func15 Z Tryz.ntmps15 Z ?_
 refine GO ?_
 refine oX hS (hv Aa0_0 Aa0_1 Aa0_2 ca0_0 ca0_1 ca0_2 a0) fun b1 w1 hS => ?_
 refine oS (SN (hv Aa0_0 Aa0_1 Aa0_2 ca0_0 ca0_1 ca0_2 a0) (ce hS 0)) ?_
 refine OF (EL hS (ci .i64) ([a1] : List Int)) ?_
 rintro _ w1 ⟨A2, rfl, hS⟩
 refine oB H hS hb56 (impl_herdCode.c a0 (rA hS 0 Z) (rB hS 0 Z) (rA hS 1 Z) (rB hS 1 Z) (rA hS 2 Z) (rB hS 2 Z) (rC hS 1 Z) (rD hS 1 Z)) fun t3 w1 H hS => ?_
 refine CP H (fun H => GO ?_) (fun H => ?_)
 replace hS := hS.addNil (ci .i64) 2 none
 obtain rfl := Option.some.inj H
 exact EJ.fin Z (.tmp Z (.tmp Z .nil)) ⟨none, 0, Z, hS.pick [2] [] Z⟩
 refine GO ?_
 refine oS (SL (cf hS 0 2)) ?_
 refine xI H (rA hS 2 Z) fun t4 ad4 ht4 H => ?_
 obtain ⟨t5, ht5, H⟩ := pbind H
 refine OC hb43 (impl_listed.c _ ht5) ?_
 rintro _ w1 ⟨A6, c7, rfl, hs⟩
 replace hS := hS.addN hs
 refine GO ?_
 obtain rfl := Option.some.inj H
 exact EJ.fin Z (.tmp Z (.tmp Z .nil)) ⟨A6, c7, Z, hS.pick [2] [] Z⟩

def impl_AreFoes.f (k : Nat) (a0 : Herd) (a1 : Int) (a2 : Int) : Option (Bool × Int) := (impl_herdCode.f k a0 ([a1, a2] : List Int)).bind fun t3 => if t3 ≠ 0 then (some (false, t3)) else ((impl_Herd_areFoes.f a0 a1 a2).bind fun t4 => some (t4, 0))
theorem impl_AreFoes.c {k w Aa0_0 ca0_0 Aa0_1 ca0_1 Aa0_2 ca0_2} (a0 : Herd) (hr0_0 : Rd G.cs w Aa0_0 a0.Names) (hc0_0 : a0.Names.length ≤ ca0_0) (hr0_1 : Rd (ci .i16) w Aa0_1 a0.Eats) (hc0_1 : a0.Eats.length ≤ ca0_1) (hr0_2 : Rd (ci .u16) w Aa0_2 a0.Foes) (hc0_2 : a0.Foes.length ≤ ca0_2) {a1 : Int} {a2 : Int} (r : Bool × Int) (H : impl_AreFoes.f k a0 a1 a2 = some r) :
 CV Tryz.prog 16 [.agg (hv Aa0_0 Aa0_1 Aa0_2 ca0_0 ca0_1 ca0_2 a0).toArray, .int .i64 a1, i6 a2].toArray w fun v w' => v = .tuple #[.bool r.1, i6 r.2] ∧ Ext w w' := by
 have hS := ((((St.init w no).param G.cs Aa0_0 ca0_0 a0.Names hr0_0 hc0_0).param (ci .i16) Aa0_1 ca0_1 a0.Eats hr0_1 hc0_1).param (ci .u16) Aa0_2 ca0_2 a0.Foes hr0_2 hc0_2)
 unfold impl_AreFoes.f at H
 refine CV.body Tryz.func16 Z Tryz.ntmps16 Z ?_
 refine GO ?_
 refine oX hS (hv Aa0_0 Aa0_1 Aa0_2 ca0_0 ca0_1 ca0_2 a0) fun b1 w1 hS => ?_
 refine oS (SN (hv Aa0_0 Aa0_1 Aa0_2 ca0_0 ca0_1 ca0_2 a0) (ce hS 0)) ?_
 refine OF (EL hS (ci .i64) ([a1, a2] : List Int)) ?_
 rintro _ w1 ⟨A2, rfl, hS⟩
 refine oB H hS hb56 (impl_herdCode.c a0 (rA hS 0 Z) (rB hS 0 Z) (rA hS 1 Z) (rB hS 1 Z) (rA hS 2 Z) (rB hS 2 Z) (rC hS 1 Z) (rD hS 1 Z)) fun t3 w1 H hS => ?_
 refine CP H (fun H => ?_) (fun H => ?_)
 exact FE H hS
 refine GO ?_
 refine oS (SN (hv Aa0_0 Aa0_1 Aa0_2 ca0_0 ca0_1 ca0_2 a0) (ce hS 0)) ?_
 refine OB H hS hb54 (impl_Herd_areFoes.c a0 (rA hS 0 Z) (rB hS 0 Z) (rA hS 1 Z) (rB hS 1 Z) (rA hS 2 Z) (rB hS 2 Z)) fun t4 w1 H hS => ?_
 exact FE H hS

def spec_l00Has.l1 (a0 : List Int) (a1 : Int) : Nat → Int → Option (Bool ⊕ Unit)
  | 0, _ => none
  | k + 1, y1 => if y1 < (a0.length : Int) then ((getI a0 y1).bind fun t2 => if t2 = a1 then (some (Sum.inl true)) else (spec_l00Has.l1 a0 a1 k (IntKind.i64.wrap (y1 + 1)))) else (some (Sum.inr ()))
def spec_l00Has.f (k : Nat) (a0 : List Int) (a1 : Int) : Option Bool := (spec_l00Has.l1 a0 a1 k 0).bind fun s229 => match s229 with | .inl r => some r | .inr _ => some false
theorem spec_l00Has.c {k w Aa0 ca0} {a0 : List Int} (hr0 : Rd (ci .i64) w Aa0 a0) (hc0 : a0.length ≤ ca0) {a1 : Int} (r : Bool) (H : spec_l00Has.f k a0 a1 = some r) :
 CV Tryz.prog 57 [sl Aa0 a0 ca0, i6 a1].toArray w fun v w' => v = .bool r ∧ Ext w w' := by
 have hS := ((St.init w no).param (ci .i64) Aa0 ca0 a0 hr0 hc0)
 unfold spec_l00Has.f at H
 refine CV.body Tryz.func57 Z Tryz.ntmps57 Z ?_
 refine GO ?_
 obtain ⟨j229, H, K229⟩ := pbind H
 refine CJ.cut1 (fun F w1 => some j229 = some (Sum.inr ()) ∧ F = [] ∧ St w no w1 [] [roC (ci .i64) Aa0 ca0 a0]) ?_ ?_
 refine CJ.block ?_
 refine LQ (fun k F w1 => ∃ (y1 : Int), F = [(0, sl Aa0 a0 ca0), (1, i6 a1), (5, i6 y1)] ∧ St w no w1 [] [roC (ci .i64) Aa0 ca0 a0] ∧ spec_l00Has.l1 a0 a1 k y1 = some j229) k H hS ?_
 rintro k F w1 ⟨y1, rfl, hS, H⟩
 rw [spec_l00Has.l1] at H
 refine GO ?_
 refine CP H (fun H => GO ?_) (fun H => ?_)
 refine CJ.block ?_
 refine GO ?_
 refine xI H (rA hS 0 Z) fun t2 ad2 ht2 H => ?_
 refine CP H (fun H => GO ?_) (fun H => ?_)
 obtain rfl := Option.some.inj H; have H := K229
 exact FE H hS
 exact MD H hS
 exact MD H hS
 rintro F w1 ⟨⟨⟩, rfl, hS⟩
 have H := K229
 refine EJ.next ?_
 exact FE H hS

def spec_A2Has.f (k : Nat) (a0 : List Int) (a1 : Int) : Option Bool := (spec_l00Has.f k a0 a1).bind fun t1 => some t1
theorem spec_A2Has.c {k w Aa0 ca0} {a0 : List Int} (hr0 : Rd (ci .i64) w Aa0 a0) (hc0 : a0.length ≤ ca0) {a1 : Int} (r : Bool) (H : spec_A2Has.f k a0 a1 = some r) :
 CV Tryz.prog 17 [sl Aa0 a0 ca0, i6 a1].toArray w fun v w' => v = .bool r ∧ Ext w w' := by
 have hS := ((St.init w no).param (ci .i64) Aa0 ca0 a0 hr0 hc0)
 unfold spec_A2Has.f at H
 refine CV.body Tryz.func17 Z Tryz.ntmps17 Z ?_
 refine GO ?_
 refine OB H hS hb57 (spec_l00Has.c (rA hS 0 Z) (rB hS 0 Z)) fun t1 w1 H hS => ?_
 exact FE H hS

def laws_a2At.f (a0 : List Int) (a1 : Int) (a2 : Int) : Option Int := (if (a0.length : Int) ≤ a1 then (some true) else (some (decide (a2 < 1)))).bind fun y1 => if y1 = true then (some 0) else ((getI a0 a1).bind fun t2 => (chk (a2 ≠ 0)).bind fun u3 => some (Int.tmod (IntKind.i64.wrap t2) a2))
theorem laws_a2At.c {w Aa0 ca0} {a0 : List Int} (hr0 : Rd (ci .u8) w Aa0 a0) (hc0 : a0.length ≤ ca0) {a1 : Int} {a2 : Int} (r : Int) (H : laws_a2At.f a0 a1 a2 = some r) :
 CV Tryz.prog 18 [sl Aa0 a0 ca0, i6 a1, i6 a2].toArray w fun v w' => v = .int .i64 r ∧ Ext w w' := by
 have hS := ((St.init w no).param (ci .u8) Aa0 ca0 a0 hr0 hc0)
 unfold laws_a2At.f at H
 refine CV.body Tryz.func18 Z Tryz.ntmps18 Z ?_
 refine SG ?_
 refine PX 1 ?_
 refine CJ.seq ?_
 obtain ⟨j238, H, K238⟩ := pbind H
 refine CJ.cut (fun F w1 => ∃ y1, some y1 = some j238 ∧ F = [(0, sl Aa0 a0 ca0), (1, i6 a1), (2, i6 a2), (14, .bool y1)] ∧ St w no w1 [] [roC (ci .u8) Aa0 ca0 a0]) ?_ ?_
 refine GO ?_
 refine OJ.split (t := 11) Z (fun hb => ?_) (fun hb => ?_)
 replace H := pif_t (of_decide_eq_true hb) H
 exact MD H hS
 replace H := pif_f (of_decide_eq_false hb) H
 exact MD H hS
 rintro F w1 ⟨y1, he, rfl, hS⟩
 obtain rfl := Option.some.inj he
 have H := K238
 refine CB H (fun H => ?_) (fun H => ?_)
 exact FE H hS
 refine GO ?_
 refine xI H (rA hS 0 Z) fun t2 ad2 ht2 H => ?_
 obtain ⟨u3, hu3, H⟩ := pbind H
 refine OJ.st Z Z Z (SR.rem Z Z Z (chk_some hu3)) ?_
 exact FE H hS

def slices_Clone_int64_int64.f (a0 : List Int) : Option (List Int) := (chk (([] : List Int).length + a0.length ≤ 4294967296)).bind fun _ => some a0
theorem slices_Clone_int64_int64.c {w} (A : Option Addr) (c : Nat) {a0 : List Int} (hr0 : Rd (ci .i64) w A a0) (hc0 : a0.length ≤ c) (r : List Int) (H : slices_Clone_int64_int64.f a0 = some r) :
 CV Tryz.prog 111 [sl A a0 c].toArray w fun v w' => ∃ (A0 : Option Addr) (c0 : Nat), v = .slice A0 r.length c0 ∧ St w no w' [rowC (ci .i64) A0 c0 2 r] [] := by
 have hS := ((St.init w no).param (ci .i64) A c a0 hr0 hc0)
 obtain ⟨u, hu, H⟩ := pbind H
 obtain rfl := Option.some.inj H
 refine CV.body Tryz.func111 Z Tryz.ntmps111 Z ?_
 refine GO ?_
 refine OJ.st Z Z Z (SR.eqNil oU Z Z Z Z) ?_
 refine GO ?_
 refine CJ.cond Z (fun hb => ?_) (fun hb => ?_)
 obtain rfl := hr0.isNone hb
 refine GO ?_
 replace hS := hS.addNil (ci .i64) 2 none
 exact FT ⟨none, 0, Z, hS.pick [0] [] Z⟩
 refine GO ?_
 refine OF (EL hS (ci .i64) ([] : List Int)) ?_
 rintro _ w1 ⟨A1, rfl, hS⟩
 refine GO ?_
 refine OW (AP hS 0 (rA hS 0 Z) (chk_some hu)) ?_
 rintro _ w1 ⟨A2, c2, rfl, hS⟩
 refine GO ?_
 exact EJ.fin Z (.tmp Z .nil) ⟨A2, c2, Z, hS.pick [0] [] Z⟩

def slices_Sort_int64_int64.f (a0 : List Int) : Option (List Int) := (chk (a0.length ≤ 4294967296)).bind fun _ => some (sortI a0)
theorem slices_Sort_int64_int64.c {w Aa0 ca0} {a0 : List Int} (hin : St w (fpU [rowC (ci .i64) Aa0 ca0 2 a0]) w [rowC (ci .i64) Aa0 ca0 2 a0] []) (r : List Int) (H : slices_Sort_int64_int64.f a0 = some r) :
 CV Tryz.prog 112 [sl Aa0 a0 ca0].toArray w fun v w' => v = .tuple #[] ∧ St w (fpU [rowC (ci .i64) Aa0 ca0 2 a0]) w' [rowC (ci .i64) Aa0 ca0 2 r] [] ∧ r.length = a0.length := by
 unfold slices_Sort_int64_int64.f at H
 obtain ⟨u, hu, H⟩ := pbind H
 obtain rfl := Option.some.inj H
 exact sort_cv hin (fun blk off cap zs w h1 h2 h3 => AnyM.slices_Sort_int laySort blk off cap zs w h1 h2 h3) (fun p cap w => AnyM.slices_Sort_int_none laySort p cap w) (chk_some hu)

def slices_Compact_int64_int64.f (a0 : List Int) : Option (List Int) := (chk (a0.length ≤ 4294967296)).bind fun _ => some (cmpI a0)
theorem slices_Compact_int64_int64.c {w Aa0 ca0} {a0 : List Int} (hin : St w (fpU [rowC (ci .i64) Aa0 ca0 2 a0]) w [rowC (ci .i64) Aa0 ca0 2 a0] []) (r : List Int) (H : slices_Compact_int64_int64.f a0 = some r) :
 CV Tryz.prog 113 [sl Aa0 a0 ca0].toArray w fun v w' => ∃ (A0 : Option Addr) (c0 : Nat), v = .slice A0 r.length c0 ∧ St w (fpU [rowC (ci .i64) Aa0 ca0 2 a0]) w' [rowC (ci .i64) A0 c0 2 r] [] := by
 unfold slices_Compact_int64_int64.f at H
 obtain ⟨u, hu, H⟩ := pbind H
 obtain rfl := Option.some.inj H
 exact compact_cv hin (fun blk off cap zs w h1 h2 h3 => AnyG.slices_Compact_int layCompact blk off cap zs w h1 h2 h3) (fun p cap w => AnyG.slices_Compact_int_empty layCompact p cap w) (chk_some hu)

def impl_isEach.f (a0 : List Int) : Option Bool := (slices_Clone_int64_int64.f a0).bind fun t1 => (slices_Sort_int64_int64.f t1).bind fun t4 => (slices_Compact_int64_int64.f t4).bind fun t5 => some (decide ((t5.length : Int) = (a0.length : Int)))
theorem impl_isEach.c {w Aa0 ca0} {a0 : List Int} (hr0 : Rd (ci .i64) w Aa0 a0) (hc0 : a0.length ≤ ca0) (r : Bool) (H : impl_isEach.f a0 = some r) :
 CV Tryz.prog 60 [sl Aa0 a0 ca0].toArray w fun v w' => v = .bool r ∧ Ext w w' := by
 have hS := ((St.init w no).param (ci .i64) Aa0 ca0 a0 hr0 hc0)
 unfold impl_isEach.f at H
 refine CV.body Tryz.func60 Z Tryz.ntmps60 Z ?_
 refine GO ?_
 obtain ⟨t1, ht1, H⟩ := pbind H
 refine OC hb111 (slices_Clone_int64_int64.c Aa0 ca0 (rA hS 0 Z) (rB hS 0 Z) _ ht1) ?_
 rintro _ w1 ⟨A2, c3, rfl, hs⟩
 replace hS := hS.addN hs
 refine GO ?_
 obtain ⟨t4, ht4, H⟩ := pbind H
 refine OC hb112 (slices_Sort_int64_int64.c ((hS.subs [0] [] [] Z).pick [0] [] Z) _ ht4) ?_
 rintro _ w1 ⟨rfl, hs, hlc0⟩
 replace hS := hS.back [0] Z Z [rowC (ci .i64) A2 c3 2 t4] [] hs ⟨fun _ => Iff.rfl, trivial⟩
 refine OJ.as (t := 5) rfl (show _ = (.slice A2 t4.length c3 : Value) by simp only [hlc0]) ?_
 refine OJ.as (t := 3) rfl (show _ = (.slice A2 t4.length c3 : Value) by simp only [hlc0]) ?_
 refine OJ.as (t := 6) rfl (show _ = (.slice A2 t4.length c3 : Value) by simp only [hlc0]) ?_
 refine GO ?_
 obtain ⟨t5, ht5, H⟩ := pbind H
 refine OC hb113 (slices_Compact_int64_int64.c ((hS.subs [0] [] [] Z).pick [0] [] Z) _ ht5) ?_
 rintro _ w1 ⟨A6, c7, rfl, hs⟩
 replace hS := hS.back' [] [0] rfl rfl [] [rowC (ci .i64) A6 c7 2 t5] [] hs trivial (fun _ h => by cases h) (.inr rfl)
 exact FE H hS

def impl_firstOf.l1 (a0 : List Int) : Nat → Int → Option (Int ⊕ Unit)
  | 0, _ => none
  | k + 1, y1 => if y1 < (a0.length : Int) then ((getI a0 y1).bind fun t2 => if t2 ≠ 0 then (some (Sum.inl t2)) else (impl_firstOf.l1 a0 k (IntKind.i64.wrap (y1 + 1)))) else (some (Sum.inr ()))
def impl_firstOf.f (k : Nat) (a0 : List Int) : Option Int := (impl_firstOf.l1 a0 k 0).bind fun s239 => match s239 with | .inl r => some r | .inr _ => some 0
theorem impl_firstOf.c {k w Aa0 ca0} {a0 : List Int} (hr0 : Rd (ci .i64) w Aa0 a0) (hc0 : a0.length ≤ ca0) (r : Int) (H : impl_firstOf.f k a0 = some r) :
 CV Tryz.prog 58 [sl Aa0 a0 ca0].toArray w fun v w' => v = .int .i64 r ∧ Ext w w' := by
 have hS := ((St.init w no).param (ci .i64) Aa0 ca0 a0 hr0 hc0)
 unfold impl_firstOf.f at H
 refine CV.body Tryz.func58 Z Tryz.ntmps58 Z ?_
 refine GO ?_
 obtain ⟨j239, H, K239⟩ := pbind H
 refine CJ.cut1 (fun F w1 => some j239 = some (Sum.inr ()) ∧ F = [] ∧ St w no w1 [] [roC (ci .i64) Aa0 ca0 a0]) ?_ ?_
 refine CJ.block ?_
 refine LQ (fun k F w1 => ∃ (y1 : Int), F = [(5, sl Aa0 a0 ca0), (6, i6 (a0.length : Int)), (7, i6 y1)] ∧ St w no w1 [] [roC (ci .i64) Aa0 ca0 a0] ∧ impl_firstOf.l1 a0 k y1 = some j239) k H hS ?_
 rintro k F w1 ⟨y1, rfl, hS, H⟩
 rw [impl_firstOf.l1] at H
 refine GO ?_
 refine CP H (fun H => GO ?_) (fun H => ?_)
 refine CJ.block ?_
 refine GO ?_
 refine xI H (rA hS 0 Z) fun t2 ad2 ht2 H => ?_
 refine CP H (fun H => GO ?_) (fun H => ?_)
 obtain rfl := Option.some.inj H; have H := K239
 exact FE H hS
 exact MD H hS
 exact MD H hS
 rintro F w1 ⟨⟨⟩, rfl, hS⟩
 have H := K239
 refine EJ.next ?_
 exact FE H hS

def impl_bit.f (a0 : Bool) : Option Int := if a0 = true then (some 1) else (some 0)
theorem impl_bit.c {w} {a0 : Bool} (r : Int) (H : impl_bit.f a0 = some r) :
 CV Tryz.prog 114 [.bool a0].toArray w fun v w' => v = .int .i64 r ∧ Ext w w' := by
 have hS := (St.init w no)
 unfold impl_bit.f at H
 refine CV.body Tryz.func114 Z Tryz.ntmps114 Z ?_
 refine GO ?_
 refine CB H (fun H => ?_) (fun H => ?_)
 exact FE H hS
 exact FE H hS

def impl_Herd_set.f (a0 : Herd) (a1 : Int) (a2 : Int) (a3 : Bool) : Option (List Int) := (getI a0.Foes a1).bind fun t2 => (chk (0 ≤ a2)).bind fun u3 => (impl_bit.f a3).bind fun t4 => (chk (0 ≤ a2)).bind fun u5 => (getI a0.Foes a1).bind fun t6 => (getI (a0.Foes.set a1.toNat (orI .u16 (andNotI .u16 t2 (shlI .u16 1 a2)) (shlI .u16 (IntKind.u16.wrap t4) a2))) a2).bind fun t7 => (chk (0 ≤ a1)).bind fun u8 => (impl_bit.f a3).bind fun t9 => (chk (0 ≤ a1)).bind fun u10 => (getI (a0.Foes.set a1.toNat (orI .u16 (andNotI .u16 t2 (shlI .u16 1 a2)) (shlI .u16 (IntKind.u16.wrap t4) a2))) a2).bind fun t11 => some ((a0.Foes.set a1.toNat (orI .u16 (andNotI .u16 t2 (shlI .u16 1 a2)) (shlI .u16 (IntKind.u16.wrap t4) a2))).set a2.toNat (orI .u16 (andNotI .u16 t7 (shlI .u16 1 a1)) (shlI .u16 (IntKind.u16.wrap t9) a1)))
theorem impl_Herd_set.c {w} (Aa0_0 : Option Addr) (ca0_0 : Nat) (Aa0_1 : Option Addr) (ca0_1 : Nat) {Aa0_2 ca0_2} (a0 : Herd) {a1 : Int} {a2 : Int} {a3 : Bool} (hin : St w (fpU [rowC (ci .u16) Aa0_2 ca0_2 55 a0.Foes]) w [rowC (ci .u16) Aa0_2 ca0_2 55 a0.Foes] []) (r : List Int) (H : impl_Herd_set.f a0 a1 a2 a3 = some r) :
 CV Tryz.prog 61 [.agg (hv Aa0_0 Aa0_1 Aa0_2 ca0_0 ca0_1 ca0_2 a0).toArray, .int .i64 a1, i6 a2, .bool a3].toArray w fun v w' => v = .tuple #[] ∧ St w (fpU [rowC (ci .u16) Aa0_2 ca0_2 55 a0.Foes]) w' [rowC (ci .u16) Aa0_2 ca0_2 55 r] [] ∧ r.length = a0.Foes.length := by
 have hS := hin
 unfold impl_Herd_set.f at H
 refine CV.body Tryz.func61 Z Tryz.ntmps61 Z ?_
 have hl0 : a0.Foes.length = a0.Foes.length := rfl
 refine GO ?_
 refine oX hS (hv Aa0_0 Aa0_1 Aa0_2 ca0_0 ca0_1 ca0_2 a0) fun b1 w1 hS => ?_
 refine CJ.draw [] [0, 1, 2, 3, 4, 5, 6, 7, 8, 9, 10, 11, 14, 12, 13, 15, 16, 17, 18] mixed (by kernel_rfl) hS fun w1 hS => ?_
 refine GO ?_
 refine dS (SL (cf hS 1 2)) ?_
 refine dS (SL (cf hS 1 2)) ?_
 obtain ⟨t2, ht2, H⟩ := pbind H
 obtain ⟨ad2, e2⟩ := (rC hS 0 Z).some' ht2
 refine DS (SI e2 (by have hg := (getI_some ht2).1; (first | rw [hl0] at hg | (simp only [List.length_set] at hg; rw [hl0] at hg)); exact hg)) ?_
 refine dS (SL ((rC hS 0 Z).at_ e2 ht2)) ?_
 obtain ⟨u3, hu3, H⟩ := pbind H
 refine DJ.st Z Z Z Z Z (SR.shl Z Z Z (chk_some hu3)) ?_
 refine GO ?_
 obtain ⟨t4, ht4, H⟩ := pbind H
 refine DJ.callF rfl rfl rfl rfl rfl rfl rfl hb114 rfl (impl_bit.c _ ht4) (by rintro v w' ⟨rfl, hs⟩; exact hs) ?_
 rintro _ w1 ⟨rfl, hs⟩
 replace hS := hS.grow hs
 refine GO ?_
 obtain ⟨u5, hu5, H⟩ := pbind H
 refine DJ.st Z Z Z Z Z (SR.shl Z Z Z (chk_some hu5)) ?_
 refine GO ?_
 obtain ⟨t6, ht6, H⟩ := pbind H
 obtain ⟨ad6, e6⟩ := (rC hS 0 Z).some' ht6
 refine DS (SI e6 (by have hg := (getI_some ht6).1; (first | rw [hl0] at hg | (simp only [List.length_set] at hg; rw [hl0] at hg)); exact hg)) ?_
 refine DJ.es Z Z Z Z (Es.storeR oI hS (i := 0) (off := 0) Z Z ht6 e6 Z Z Z Z (vs := (ci .u16).enc (orI .u16 (andNotI .u16 t2 (shlI .u16 1 a2)) (shlI .u16 (IntKind.u16.wrap t4) a2))) Z Z (one1 Z) (Nat.le_of_ble_eq_true Z) (orI .u16 (andNotI .u16 t2 (shlI .u16 1 a2)) (shlI .u16 (IntKind.u16.wrap t4) a2)) Z) ?_
 intro w1 hS
 refine GO ?_
 refine CJ.draw [] [0, 1, 2, 3, 4, 5, 6, 7, 8, 9, 10, 11, 14, 12, 13, 15, 16, 17, 18] mixed (by kernel_rfl) hS fun w1 hS => ?_
 refine GO ?_
 refine dS (SL (cf hS 1 2)) ?_
 refine dS (SL (cf hS 1 2)) ?_
 obtain ⟨t7, ht7, H⟩ := pbind H
 obtain ⟨ad7, e7⟩ := (rC hS 0 Z).some' ht7
 refine DS (SI e7 (by have hg := (getI_some ht7).1; (first | rw [hl0] at hg | (simp only [List.length_set] at hg; rw [hl0] at hg)); exact hg)) ?_
 refine dS (SL ((rC hS 0 Z).at_ e7 ht7)) ?_
 obtain ⟨u8, hu8, H⟩ := pbind H
 refine DJ.st Z Z Z Z Z (SR.shl Z Z Z (chk_some hu8)) ?_
 refine GO ?_
 obtain ⟨t9, ht9, H⟩ := pbind H
 refine DJ.callF rfl rfl rfl rfl rfl rfl rfl hb114 rfl (impl_bit.c _ ht9) (by rintro v w' ⟨rfl, hs⟩; exact hs) ?_
 rintro _ w1 ⟨rfl, hs⟩
 replace hS := hS.grow hs
 refine GO ?_
 obtain ⟨u10, hu10, H⟩ := pbind H
 refine DJ.st Z Z Z Z Z (SR.shl Z Z Z (chk_some hu10)) ?_
 refine GO ?_
 obtain ⟨t11, ht11, H⟩ := pbind H
 obtain ⟨ad11, e11⟩ := (rC hS 0 Z).some' ht11
 refine DS (SI e11 (by have hg := (getI_some ht11).1; (first | rw [hl0] at hg | (simp only [List.length_set] at hg; rw [hl0] at hg)); exact hg)) ?_
 refine DJ.es Z Z Z Z (Es.storeR oI hS (i := 0) (off := 0) Z Z ht11 e11 Z Z Z Z (vs := (ci .u16).enc (orI .u16 (andNotI .u16 t7 (shlI .u16 1 a1)) (shlI .u16 (IntKind.u16.wrap t9) a1))) Z Z (one1 Z) (Nat.le_of_ble_eq_true Z) (orI .u16 (andNotI .u16 t7 (shlI .u16 1 a1)) (shlI .u16 (IntKind.u16.wrap t9) a1)) Z) ?_
 intro w1 hS
 refine GO ?_
 obtain rfl := Option.some.inj H
 exact EJ.fin' rfl .nil ⟨rfl, hS.pick [0] [] rfl, (by first | exact hl0 | (simp only [List.length_set]; exact hl0) | (simp only [List.length_set]; done))⟩

def impl_PickHerd.l2 (a0 : Herd) (a1 : List Int) (y19 : Int) (y20 : List ByteArray) (y23 : List Int) (t33 : Int) (t34 : ByteArray) (t35 : Int) : Nat → (List Int) → Int → Option (List Int)
  | 0, _, _ => none
  | k + 1, y63, y64 => if y64 < (((a1.drop 0).take (y19.toNat - 0)).length : Int) then ((getI ((a1.drop 0).take (y19.toNat - 0)) y64).bind fun t65 => (impl_Herd_areFoes.f a0 t33 t65).bind fun t66 => (impl_Herd_set.f (⟨y20 ++ ([t34] : List ByteArray), y23 ++ ([t35] : List Int), y63⟩ : Herd) y19 y64 t66).bind fun t67 => impl_PickHerd.l2 a0 a1 y19 y20 y23 t33 t34 t35 k t67 (IntKind.i64.wrap (y64 + 1))) else (some y63)
def impl_PickHerd.l1 (a0 : Herd) (a1 : List Int) : Nat → (List Int) → Int → (List ByteArray) → (List Int) → Option ((List Int) × (List ByteArray) × (List Int))
  | 0, _, _, _, _ => none
  | k + 1, y18, y19, y20, y23 => if y19 < (a1.length : Int) then (((getI a1 y19).bind fun t33 => (getI a0.Names t33).bind fun t34 => (getI a0.Eats t33).bind fun t35 => (chk (y20.length + ([t34] : List ByteArray).length ≤ 4294967296)).bind fun u37 => (chk (y23.length + ([t35] : List Int).length ≤ 4294967296)).bind fun u41 => (chk ((0 : Int) ≤ 0 ∧ 0 ≤ y19 ∧ y19 ≤ (a1.length : Int))).bind fun u61 => (impl_PickHerd.l2 a0 a1 y19 y20 y23 t33 t34 t35 k y18 0).bind fun y62 => some (y62, y20 ++ ([t34] : List ByteArray), y23 ++ ([t35] : List Int))).bind fun (y26, y27, y30) => impl_PickHerd.l1 a0 a1 k y26 (IntKind.i64.wrap (y19 + 1)) y27 y30) else (some (y18, y20, y23))
def impl_PickHerd.f (k : Nat) (a0 : Herd) (a1 : List Int) : Option (Herd × Int) := (impl_herdCode.f k a0 a1).bind fun t3 => (impl_isEach.f a1).bind fun t4 => (impl_unless.f t4 4).bind fun t5 => (impl_firstOf.f k ([t3, t5] : List Int)).bind fun t7 => if t7 ≠ 0 then (some ((⟨[], [], []⟩ : Herd), t7)) else ((chk (0 ≤ (a1.length : Int) ∧ (a1.length : Int) ≤ 4294967296)).bind fun u8 => (impl_PickHerd.l1 a0 a1 k (List.replicate ((a1.length : Int).toNat) 0 : List Int) 0 ([] : List ByteArray) ([] : List Int)).bind fun (y11, y12, y15) => some ((⟨y12, y15, y11⟩ : Herd), 0))
theorem impl_PickHerd.c {k w Aa0_0 ca0_0 Aa0_1 ca0_1 Aa0_2 ca0_2} (a0 : Herd) (hr0_0 : Rd G.cs w Aa0_0 a0.Names) (hc0_0 : a0.Names.length ≤ ca0_0) (hr0_1 : Rd (ci .i16) w Aa0_1 a0.Eats) (hc0_1 : a0.Eats.length ≤ ca0_1) (hr0_2 : Rd (ci .u16) w Aa0_2 a0.Foes) (hc0_2 : a0.Foes.length ≤ ca0_2) {Aa1 ca1} {a1 : List Int} (hr1 : Rd (ci .i64) w Aa1 a1) (hc1 : a1.length ≤ ca1) (r : Herd × Int) (H : impl_PickHerd.f k a0 a1 = some r) :
 CV Tryz.prog 19 [.agg (hv Aa0_0 Aa0_1 Aa0_2 ca0_0 ca0_1 ca0_2 a0).toArray, sl Aa1 a1 ca1].toArray w fun v w' => ∃ (A0_0 : Option Addr) (c0_0 : Nat) (A0_1 : Option Addr) (c0_1 : Nat) (A0_2 : Option Addr) (c0_2 : Nat), v = .tuple #[.agg (hv A0_0 A0_1 A0_2 c0_0 c0_1 c0_2 r.1).toArray, .int .i64 r.2] ∧ St w no w' [rowC G.cs A0_0 c0_0 9 r.1.Names, rowC (ci .i16) A0_1 c0_1 49 r.1.Eats, rowC (ci .u16) A0_2 c0_2 55 r.1.Foes] [] := by
 have hS := (((((St.init w no).param G.cs Aa0_0 ca0_0 a0.Names hr0_0 hc0_0).param (ci .i16) Aa0_1 ca0_1 a0.Eats hr0_1 hc0_1).param (ci .u16) Aa0_2 ca0_2 a0.Foes hr0_2 hc0_2).param (ci .i64) Aa1 ca1 a1 hr1 hc1)
 unfold impl_PickHerd.f at H
 refine CV.body Tryz.func19 Z Tryz.ntmps19 Z ?_
 refine GO ?_
 refine OF (EB hS (hv Aa0_0 Aa0_1 Aa0_2 ca0_0 ca0_1 ca0_2 a0)) ?_
 rintro _ w1 ⟨b1, rfl, hS⟩
 refine oA hS ([.slice none 0 0, .slice none 0 0, .slice none 0 0]) fun b2 w1 hS => ?_
 refine oS (SN (hv Aa0_0 Aa0_1 Aa0_2 ca0_0 ca0_1 ca0_2 a0) (ce hS 0)) ?_
 refine oB H hS hb56 (impl_herdCode.c a0 (rA hS 0 Z) (rB hS 0 Z) (rA hS 1 Z) (rB hS 1 Z) (rA hS 2 Z) (rB hS 2 Z) (rA hS 3 Z) (rB hS 3 Z)) fun t3 w1 H hS => ?_
 refine OB H hS hb60 (impl_isEach.c (rA hS 3 Z) (rB hS 3 Z)) fun t4 w1 H hS => ?_
 refine OB H hS hb59 (impl_unless.c) fun t5 w1 H hS => ?_
 refine OF (EL hS (ci .i64) ([t3, t5] : List Int)) ?_
 rintro _ w1 ⟨A6, rfl, hS⟩
 refine oB H hS hb58 (impl_firstOf.c (rC hS 2 Z) (rD hS 2 Z)) fun t7 w1 H hS => ?_
 refine CP H (fun H => GO ?_) (fun H => ?_)
 refine OJ.st Z Z Z (SR.build' oU oI Z Z Z (zs := [.slice none 0 0, .slice none 0 0, .slice none 0 0]) Z Z Z ([.slice none 0 0, .slice none 0 0, .slice none 0 0]) Z) ?_
 refine GO ?_
 refine oE (WV hS 1 [.slice none 0 0, .slice none 0 0, .slice none 0 0]) fun w1 hS => ?_
 replace hS := hS.addNil G.cs 9 none
 replace hS := hS.addNil (ci .i16) 49 none
 replace hS := hS.addNil (ci .u16) 55 none
 obtain rfl := Option.some.inj H
 exact EJ.fin Z (.cell Z (ldN oU oI Z Z Z (hS.cells (i := 1) Z) (ds := [.slice none 0 0, .slice none 0 0, .slice none 0 0]) Z Z) (.tmp Z .nil)) ⟨none, 0, none, 0, none, 0, Z, hS.pick [3, 4, 5] [] Z⟩
 refine GO ?_
 obtain ⟨u8, hu8, H⟩ := pbind H
 refine OJ.ef Z Z Z (Ef.make oU oI hS (C := (ci .u16)) Z Z Z Z Z Z Z Z (chk_some hu8) 0 Z) ?_
 rintro _ w1 ⟨A9, rfl, hS⟩
 refine OJ.st Z Z Z (SR.build' oU oI Z Z Z (zs := [.slice none 0 0, .slice none 0 0, .slice none 0 0]) Z Z Z ([.slice none 0 0, .slice none 0 0, .slice A9 (List.replicate ((a1.length : Int).toNat) 0 : List Int).length ((a1.length : Int).toNat)]) Z) ?_
 refine OF (EA hS ([.slice none 0 0, .slice none 0 0, .slice none 0 0])) ?_
 rintro _ w1 ⟨b10, rfl, hS⟩
 refine oE (WV hS 4 [.slice none 0 0, .slice none 0 0, .slice A9 (List.replicate ((a1.length : Int).toNat) 0 : List Int).length ((a1.length : Int).toNat)]) fun w1 hS => ?_
 obtain ⟨j240, H, K240⟩ := pbind H
 refine CJ.cut1 (fun F w1 => ∃ y11 y12 y15 A13 c14 A16 c17, some j240 = some (y11, y12, y15) ∧ F = [(4, pt b2), (7, pt b10)] ∧ St w no w1 [box b2 ([.slice none 0 0, .slice none 0 0, .slice none 0 0]) 28, rowC (ci .u16) A9 ((a1.length : Int).toNat) 55 y11, box b10 ([sl A13 y12 c14, sl A16 y15 c17, .slice A9 y11.length ((a1.length : Int).toNat)]) 28, rowC G.cs A13 c14 9 y12, rowC (ci .i16) A16 c17 49 y15] [roC G.cs Aa0_0 ca0_0 a0.Names, roC (ci .i16) Aa0_1 ca0_1 a0.Eats, roC (ci .u16) Aa0_2 ca0_2 a0.Foes, roC (ci .i64) Aa1 ca1 a1]) ?_ ?_
 refine CJ.block ?_
 replace hS := hS.addNil G.cs 9 none
 replace hS := hS.addNil (ci .i16) 49 none
 refine LQ (fun k F w1 => ∃ (y18 : List Int) (y19 : Int) (y20 : List ByteArray) (y23 : List Int) (A21 c22 A24 c25 : _), F = [(1, sl Aa1 a1 ca1), (2, pt b1), (4, pt b2), (7, pt b10), (28, sl Aa1 a1 ca1), (29, i6 (a1.length : Int)), (30, i6 y19)] ∧ St w no w1 [box b1 (hv Aa0_0 Aa0_1 Aa0_2 ca0_0 ca0_1 ca0_2 a0) 28, box b2 ([.slice none 0 0, .slice none 0 0, .slice none 0 0]) 28, rowC (ci .u16) A9 ((a1.length : Int).toNat) 55 y18, box b10 ([sl A21 y20 c22, sl A24 y23 c25, .slice A9 y18.length ((a1.length : Int).toNat)]) 28, rowC G.cs A21 c22 9 y20, rowC (ci .i16) A24 c25 49 y23] [roC G.cs Aa0_0 ca0_0 a0.Names, roC (ci .i16) Aa0_1 ca0_1 a0.Eats, roC (ci .u16) Aa0_2 ca0_2 a0.Foes, roC (ci .i64) Aa1 ca1 a1] ∧ impl_PickHerd.l1 a0 a1 k y18 y19 y20 y23 = some j240) k H hS ?_
 rintro k F w1 ⟨y18, y19, y20, y23, A21, c22, A24, c25, rfl, hS, H⟩
 rw [impl_PickHerd.l1] at H
 refine GO ?_
 refine CP H (fun H => ?_) (fun H => ?_)
 refine CJ.skip (EJ.next ?_)
 obtain ⟨j247, H, K247⟩ := pbind H
 refine CJ.cut (fun F w1 => ∃ y26 y27 y30 A28 c29 A31 c32, some j247 = some (y26, y27, y30) ∧ F = [(1, sl Aa1 a1 ca1), (2, pt b1), (4, pt b2), (7, pt b10), (28, sl Aa1 a1 ca1), (29, i6 (a1.length : Int)), (30, i6 y19)] ∧ St w no w1 [box b1 (hv Aa0_0 Aa0_1 Aa0_2 ca0_0 ca0_1 ca0_2 a0) 28, box b2 ([.slice none 0 0, .slice none 0 0, .slice none 0 0]) 28, rowC (ci .u16) A9 ((a1.length : Int).toNat) 55 y26, box b10 ([sl A28 y27 c29, sl A31 y30 c32, .slice A9 y26.length ((a1.length : Int).toNat)]) 28, rowC G.cs A28 c29 9 y27, rowC (ci .i16) A31 c32 49 y30] [roC G.cs Aa0_0 ca0_0 a0.Names, roC (ci .i16) Aa0_1 ca0_1 a0.Eats, roC (ci .u16) Aa0_2 ca0_2 a0.Foes, roC (ci .i64) Aa1 ca1 a1]) ?_ ?_
 refine CJ.block ?_
 refine GO ?_
 refine xI H (rA hS 3 Z) fun t33 ad33 ht33 H => ?_
 obtain ⟨t34, ht34, H⟩ := pbind H
 obtain ⟨t35, ht35, H⟩ := pbind H
 obtain ⟨u37, hu37, H⟩ := pbind H
 obtain ⟨u41, hu41, H⟩ := pbind H
 refine CJ.cut1 (fun F w1 => ∃ (A36 A38 c39 A40 A42 c43 : _), F = [(1, sl Aa1 a1 ca1), (2, pt b1), (4, pt b2), (7, pt b10), (8, i6 y19), (9, i6 t33), (28, sl Aa1 a1 ca1), (29, i6 (a1.length : Int)), (30, i6 y19)] ∧ St w no w1 [box b1 (hv Aa0_0 Aa0_1 Aa0_2 ca0_0 ca0_1 ca0_2 a0) 28, box b2 ([.slice none 0 0, .slice none 0 0, .slice none 0 0]) 28, rowC (ci .u16) A9 ((a1.length : Int).toNat) 55 y18, box b10 ([sl A38 (y20 ++ ([t34] : List ByteArray)) c39, sl A42 (y23 ++ ([t35] : List Int)) c43, .slice A9 y18.length ((a1.length : Int).toNat)]) 28, rowC G.cs A38 c39 9 (y20 ++ ([t34] : List ByteArray)), rowC (ci .i16) A42 c43 49 (y23 ++ ([t35] : List Int)), rowC G.cs A36 (([t34] : List ByteArray).length) 9 ([t34] : List ByteArray), rowC (ci .i16) A40 (([t35] : List Int).length) 49 ([t35] : List Int)] [roC G.cs Aa0_0 ca0_0 a0.Names, roC (ci .i16) Aa0_1 ca0_1 a0.Eats, roC (ci .u16) Aa0_2 ca0_2 a0.Foes, roC (ci .i64) Aa1 ca1 a1]) ?_ ?_
 refine CJ.drawT [19, 21] [7, 8, 16, 17] (.one 0 (.one 1 (.one 2 (.one 3 (.one 4 (.one 5 (.one 6 (.one 9 (.one 10 (.one 11 (.one 12 (.one 13 (.one 14 (.one 15 (.br (.alt 7 (.br (.alt 8 (.one 18 (.one 16 (.one 17 (.one 19 (.one 20 (.one 21 (.fin))))))) (.alt 16 (.one 8 (.one 18 (.one 17 (.one 19 (.one 20 (.one 21 (.fin))))))) (.stop)))) (.alt 16 (.one 7 (.one 8 (.one 18 (.one 17 (.one 19 (.one 20 (.one 21 (.fin)))))))) (.stop)))))))))))))))))) mixed (by kernel_rfl) hS [0, 3] fun w1 hS hY hV => ?_
 refine TP (fun _ => SF) ?_
 refine TL hY (fun w2 hY => SL (CA.sub ((hV w2 hY).cellsR (i := 5) Z) 0)) ?_
 refine TP (fun _ => SF) ?_
 refine TL hY (fun w2 hY => SL (CA.sub ((hV w2 hY).cellsR (i := 4) Z) 0)) ?_
 refine GO ?_
 obtain ⟨ad34, e34⟩ := (rA hS 0 Z).some' ht34
 refine TP (fun _ => SI e34 (getI_some ht34).1) ?_
 refine TL hY (fun w2 hY => SL (((hV w2 hY).rd' (i := 0) Z).at_ e34 ht34)) ?_
 refine TP (fun _ => SF) ?_
 refine TL hY (fun w2 hY => SL (CA.sub ((hV w2 hY).cellsR (i := 5) Z) 1)) ?_
 refine TP (fun _ => SF) ?_
 refine TL hY (fun w2 hY => SL (CA.sub ((hV w2 hY).cellsR (i := 4) Z) 1)) ?_
 refine GO ?_
 obtain ⟨ad35, e35⟩ := (rA hS 1 Z).some' ht35
 refine TP (fun _ => SI e35 (getI_some ht35).1) ?_
 refine TL hY (fun w2 hY => SL (((hV w2 hY).rd' (i := 1) Z).at_ e35 ht35)) ?_
 refine TJ.br ?_
 refine TJ.alt ?_ ?_
 refine TF hY (EL hS G.cs ([t34] : List ByteArray)) ?_
 rintro _ w1 hY ⟨A44, rfl, hS⟩
 refine TJ.br ?_
 refine TJ.alt ?_ ?_
 refine tW [0, 3] 4 4 hY hS (rC hS 6 Z) (chk_some hu37) fun A45 c46 w1 hY (hS : St _ _ _ [_, _, _, _, _, _, _] _) => ?_
 refine TP (fun _ => SF) ?_
 refine TF hY (EL hS (ci .i16) ([t35] : List Int)) ?_
 rintro _ w1 hY ⟨A47, rfl, hS⟩
 refine tW [0, 3] 5 4 hY hS (rC hS 7 Z) (chk_some hu41) fun A48 c49 w1 hY (hS : St _ _ _ [_, _, _, _, _, _, _, _] _) => ?_
 refine TB (WS hS 3 [sl A45 (y20 ++ ([t34] : List ByteArray)) c46] [sl A45 (y20 ++ ([t34] : List ByteArray)) c46, sl A24 y23 c25, .slice A9 y18.length ((a1.length : Int).toNat)]) ?_
 intro w1 hS
 refine TP (fun _ => SF) ?_
 refine TB (WS hS 3 [sl A48 (y23 ++ ([t35] : List Int)) c49] [sl A45 (y20 ++ ([t34] : List ByteArray)) c46, sl A48 (y23 ++ ([t35] : List Int)) c49, .slice A9 y18.length ((a1.length : Int).toNat)]) ?_
 intro w1 hS
 exact MD H hS
 refine TJ.alt ?_ ?_
 refine TF hY (EL hS (ci .i16) ([t35] : List Int)) ?_
 rintro _ w1 hY ⟨A50, rfl, hS⟩
 refine tW [0, 3] 4 4 hY hS (rC hS 6 Z) (chk_some hu37) fun A51 c52 w1 hY (hS : St _ _ _ [_, _, _, _, _, _, _, _] _) => ?_
 refine TP (fun _ => SF) ?_
 refine tW [0, 3] 5 4 hY hS (rC hS 7 Z) (chk_some hu41) fun A53 c54 w1 hY (hS : St _ _ _ [_, _, _, _, _, _, _, _] _) => ?_
 refine TB (WS hS 3 [sl A51 (y20 ++ ([t34] : List ByteArray)) c52] [sl A51 (y20 ++ ([t34] : List ByteArray)) c52, sl A24 y23 c25, .slice A9 y18.length ((a1.length : Int).toNat)]) ?_
 intro w1 hS
 refine TP (fun _ => SF) ?_
 refine TB (WS hS 3 [sl A53 (y23 ++ ([t35] : List Int)) c54] [sl A51 (y20 ++ ([t34] : List ByteArray)) c52, sl A53 (y23 ++ ([t35] : List Int)) c54, .slice A9 y18.length ((a1.length : Int).toNat)]) ?_
 intro w1 hS
 exact MD H hS
 exact TJ.stop
 refine TJ.alt ?_ ?_
 refine TF hY (EL hS (ci .i16) ([t35] : List Int)) ?_
 rintro _ w1 hY ⟨A55, rfl, hS⟩
 refine TF hY (EL hS G.cs ([t34] : List ByteArray)) ?_
 rintro _ w1 hY ⟨A56, rfl, hS⟩
 refine tW [0, 3] 4 4 hY hS (rC hS 7 Z) (chk_some hu37) fun A57 c58 w1 hY (hS : St _ _ _ [_, _, _, _, _, _, _, _] _) => ?_
 refine TP (fun _ => SF) ?_
 refine tW [0, 3] 5 4 hY hS (rC hS 6 Z) (chk_some hu41) fun A59 c60 w1 hY (hS : St _ _ _ [_, _, _, _, _, _, _, _] _) => ?_
 refine TB (WS hS 3 [sl A57 (y20 ++ ([t34] : List ByteArray)) c58] [sl A57 (y20 ++ ([t34] : List ByteArray)) c58, sl A24 y23 c25, .slice A9 y18.length ((a1.length : Int).toNat)]) ?_
 intro w1 hS
 refine TP (fun _ => SF) ?_
 refine TB (WS hS 3 [sl A59 (y23 ++ ([t35] : List Int)) c60] [sl A57 (y20 ++ ([t34] : List ByteArray)) c58, sl A59 (y23 ++ ([t35] : List Int)) c60, .slice A9 y18.length ((a1.length : Int).toNat)]) ?_
 intro w1 hS
 refine GO ?_
 exact MT ⟨A56, A57, c58, A55, A59, c60, Z, hS.pick [0, 1, 2, 3, 4, 5, 7, 6] [0, 1, 2, 3] Z⟩
 exact TJ.stop
 rintro F w1 ⟨A36, A38, c39, A40, A42, c43, rfl, hS⟩
 refine EJ.next ?_
 refine GO ?_
 obtain ⟨u61, hu61, H⟩ := pbind H
 refine OJ.st rfl rfl rfl (SR.cutS oU oI (0) (y19.toNat) rfl rfl rfl rfl rfl rfl (.inl ⟨rfl, rfl⟩) (.inr ⟨_, _, rfl, (by have := (chk_some hu61); omega), rfl⟩) (by have := (chk_some hu61); omega) (by have := (chk_some hu61); have := (hS.le' (i := 3) rfl : a1.length ≤ ca1); omega)) ?_
 replace hS := hS.cutR (i := 3) (lo := 0) (hi := y19.toNat) rfl (by have := (chk_some hu61); omega) (by have := (chk_some hu61); omega)
 refine OJ.as (t := 57) rfl (show _ = (.slice (cutA Aa1 ca1 0 (ci .i64).sz) ((a1.drop 0).take (y19.toNat - 0)).length (ca1 - 0) : Value) by rw [cutLen (by have := (chk_some hu61); omega) (by have := (chk_some hu61); omega)]; rfl) ?_
 refine GO ?_
 obtain ⟨j249, H, K249⟩ := pbind H
 refine CJ.cut1 (fun F w1 => ∃ y62, some y62 = some j249 ∧ F = [(1, sl Aa1 a1 ca1), (2, pt b1), (4, pt b2), (7, pt b10), (28, sl Aa1 a1 ca1), (29, i6 (a1.length : Int)), (30, i6 y19)] ∧ St w no w1 [box b1 (hv Aa0_0 Aa0_1 Aa0_2 ca0_0 ca0_1 ca0_2 a0) 28, box b2 ([.slice none 0 0, .slice none 0 0, .slice none 0 0]) 28, rowC (ci .u16) A9 ((a1.length : Int).toNat) 55 y62, box b10 ([sl A38 (y20 ++ ([t34] : List ByteArray)) c39, sl A42 (y23 ++ ([t35] : List Int)) c43, .slice A9 y62.length ((a1.length : Int).toNat)]) 28, rowC G.cs A38 c39 9 (y20 ++ ([t34] : List ByteArray)), rowC (ci .i16) A42 c43 49 (y23 ++ ([t35] : List Int))] [roC G.cs Aa0_0 ca0_0 a0.Names, roC (ci .i16) Aa0_1 ca0_1 a0.Eats, roC (ci .u16) Aa0_2 ca0_2 a0.Foes, roC (ci .i64) Aa1 ca1 a1, roC (ci .i64) (cutA Aa1 ca1 0 (ci .i64).sz) (ca1 - 0) ((a1.drop 0).take (y19.toNat - 0))]) ?_ ?_
 refine CJ.block ?_
 refine LQ (fun k F w1 => ∃ (y63 : List Int) (y64 : Int), F = [(1, sl Aa1 a1 ca1), (2, pt b1), (4, pt b2), (7, pt b10), (8, i6 y19), (9, i6 t33), (28, sl Aa1 a1 ca1), (29, i6 (a1.length : Int)), (30, i6 y19), (57, .slice (cutA Aa1 ca1 0 (ci .i64).sz) ((a1.drop 0).take (y19.toNat - 0)).length (ca1 - 0)), (58, i6 (((a1.drop 0).take (y19.toNat - 0)).length : Int)), (59, i6 y64)] ∧ St w no w1 [box b1 (hv Aa0_0 Aa0_1 Aa0_2 ca0_0 ca0_1 ca0_2 a0) 28, box b2 ([.slice none 0 0, .slice none 0 0, .slice none 0 0]) 28, rowC (ci .u16) A9 ((a1.length : Int).toNat) 55 y63, box b10 ([sl A38 (y20 ++ ([t34] : List ByteArray)) c39, sl A42 (y23 ++ ([t35] : List Int)) c43, .slice A9 y63.length ((a1.length : Int).toNat)]) 28, rowC G.cs A38 c39 9 (y20 ++ ([t34] : List ByteArray)), rowC (ci .i16) A42 c43 49 (y23 ++ ([t35] : List Int))] [roC G.cs Aa0_0 ca0_0 a0.Names, roC (ci .i16) Aa0_1 ca0_1 a0.Eats, roC (ci .u16) Aa0_2 ca0_2 a0.Foes, roC (ci .i64) Aa1 ca1 a1, roC (ci .i64) (cutA Aa1 ca1 0 (ci .i64).sz) (ca1 - 0) ((a1.drop 0).take (y19.toNat - 0))] ∧ impl_PickHerd.l2 a0 a1 y19 y20 y23 t33 t34 t35 k y63 y64 = some j249) k H hS ?_
 rintro k F w1 ⟨y63, y64, rfl, hS, H⟩
 rw [impl_PickHerd.l2] at H
 refine GO ?_
 refine CP H (fun H => GO ?_) (fun H => ?_)
 refine CJ.block ?_
 refine GO ?_
 refine xI H (rA hS 4 Z) fun t65 ad65 ht65 H => ?_
 refine CJ.draw [7] [0, 1, 2, 3, 4, 5, 6, 7] mixed (by kernel_rfl) hS fun w1 hS => ?_
 refine dS (SN [sl A38 (y20 ++ ([t34] : List ByteArray)) c39, sl A42 (y23 ++ ([t35] : List Int)) c43, .slice A9 y63.length ((a1.length : Int).toNat)] (ce hS 3)) ?_
 refine dS (SN (hv Aa0_0 Aa0_1 Aa0_2 ca0_0 ca0_1 ca0_2 a0) (ce hS 0)) ?_
 obtain ⟨t66, ht66, H⟩ := pbind H
 refine DJ.callF rfl rfl rfl rfl rfl rfl rfl hb54 rfl (impl_Herd_areFoes.c a0 (rA hS 0 Z) (rB hS 0 Z) (rA hS 1 Z) (rB hS 1 Z) (rA hS 2 Z) (rB hS 2 Z) _ ht66) (by rintro v w' ⟨rfl, hs⟩; exact hs) ?_
 rintro _ w1 ⟨rfl, hs⟩
 replace hS := hS.grow hs
 obtain ⟨t67, ht67, H⟩ := pbind H
 refine DJ.callFw Z Z Z Z Z Z Z hb61 Z (impl_Herd_set.c A38 c39 A42 c43 (⟨y20 ++ ([t34] : List ByteArray), y23 ++ ([t35] : List Int), y63⟩ : Herd) ((hS.subs [2] [] [] Z).pick [0] [] Z) _ ht67) ?_
 rintro _ w1 ⟨rfl, hs, hlc0⟩
 replace hS := hS.back [2] Z Z [rowC (ci .u16) A9 ((a1.length : Int).toNat) 55 t67] [] hs ⟨fun _ => Iff.rfl, trivial⟩
 have hS : St _ _ _ [_, _, _, _, _, _] _ := hS
 refine DJ.as (t := 64) rfl (show _ = (.agg [.slice A38 (y20 ++ ([t34] : List ByteArray)).length c39, .slice A42 (y23 ++ ([t35] : List Int)).length c43, .slice A9 t67.length ((a1.length : Int).toNat)].toArray : Value) by simp only [hlc0]) ?_
 replace hS := hS.boxAs (i := 3) rfl (show _ = ([.slice A38 (y20 ++ ([t34] : List ByteArray)).length c39, .slice A42 (y23 ++ ([t35] : List Int)).length c43, .slice A9 t67.length ((a1.length : Int).toNat)] : List Value) by simp only [hlc0])
 have hS : St _ _ _ [_, _, _, _, _, _] _ := hS
 exact MD H hS
 exact MD H hS
 rintro F w1 ⟨y62, he, rfl, hS⟩
 obtain rfl := Option.some.inj he
 have H := K249
 refine EJ.blk (?_)
 exact MD H hS
 rintro F w1 ⟨y26, y27, y30, A28, c29, A31, c32, ⟨⟩, rfl, hS⟩
 have H := K247
 exact MD H hS
 exact MD H hS
 rintro F w1 ⟨y11, y12, y15, A13, c14, A16, c17, ⟨⟩, rfl, hS⟩
 have H := K240
 refine EJ.next ?_
 refine GO ?_
 refine OS (SN [sl A13 y12 c14, sl A16 y15 c17, .slice A9 y11.length ((a1.length : Int).toNat)] (ce hS 2)) ?_
 refine oE (WV hS 0 [sl A13 y12 c14, sl A16 y15 c17, .slice A9 y11.length ((a1.length : Int).toNat)]) fun w1 hS => ?_
 obtain rfl := Option.some.inj H
 exact EJ.fin Z (.cell Z (ldN oU oI Z Z Z (hS.cells (i := 0) Z) (ds := [sl A13 y12 c14, sl A16 y15 c17, .slice A9 y11.length ((a1.length : Int).toNat)]) Z Z) (.tmp Z .nil)) ⟨A13, c14, A16, c17, A9, ((a1.length : Int).toNat), Z, hS.pick [3, 4, 1] [] Z⟩

def slices_IndexFunc_string_string.l1 (a0 : List ByteArray) (a1 : ByteArray → Option Bool) : Nat → Int → Option (Int ⊕ Unit)
  | 0, _ => none
  | k + 1, y1 => if y1 < (a0.length : Int) then ((getI a0 y1).bind fun t2 => (a1 t2).bind fun t3 => if t3 = true then (some (Sum.inl y1)) else (slices_IndexFunc_string_string.l1 a0 a1 k (IntKind.i64.wrap (y1 + 1)))) else (some (Sum.inr ()))
def slices_IndexFunc_string_string.f (k : Nat) (a0 : List ByteArray) (a1 : ByteArray → Option Bool) : Option Int := (slices_IndexFunc_string_string.l1 a0 a1 k 0).bind fun s251 => match s251 with | .inl r => some r | .inr _ => some (-1)
theorem slices_IndexFunc_string_string.c {k w Aa0 ca0} {a0 : List ByteArray} (hr0 : Rd G.cs w Aa0 a0) (hc0 : a0.length ≤ ca0) (na1 : Nat) (fsa1 : Array Value) (capa1 : Array Value) (hb1 : hasBody Tryz.prog na1) (a1 : ByteArray → Option Bool) (hf1 : ∀ (z0 : ByteArray) (r : Bool), a1 z0 = some r → ∀ w', Chg no w w' → CV Tryz.prog na1 (fsa1 ++ [.string z0].toArray ++ capa1) w' fun v w'' => v = .bool r ∧ Ext w' w'') (r : Int) (H : slices_IndexFunc_string_string.f k a0 a1 = some r) :
 CV Tryz.prog 115 [sl Aa0 a0 ca0, .func (.func na1) fsa1 capa1].toArray w fun v w' => v = .int .i64 r ∧ Ext w w' := by
 have hS := ((St.init w no).param G.cs Aa0 ca0 a0 hr0 hc0)
 unfold slices_IndexFunc_string_string.f at H
 refine CV.body Tryz.func115 Z Tryz.ntmps115 Z ?_
 refine GO ?_
 obtain ⟨j251, H, K251⟩ := pbind H
 refine CJ.cut1 (fun F w1 => some j251 = some (Sum.inr ()) ∧ F = [] ∧ St w no w1 [] [roC G.cs Aa0 ca0 a0]) ?_ ?_
 refine CJ.block ?_
 refine LQ (fun k F w1 => ∃ (y1 : Int), F = [(0, sl Aa0 a0 ca0), (1, .func (.func na1) fsa1 capa1), (7, i6 (a0.length : Int)), (8, i6 y1)] ∧ St w no w1 [] [roC G.cs Aa0 ca0 a0] ∧ slices_IndexFunc_string_string.l1 a0 a1 k y1 = some j251) k H hS ?_
 rintro k F w1 ⟨y1, rfl, hS, H⟩
 rw [slices_IndexFunc_string_string.l1] at H
 refine GO ?_
 refine CP H (fun H => GO ?_) (fun H => ?_)
 refine CJ.block ?_
 refine GO ?_
 refine xI H (rA hS 0 Z) fun t2 ad2 ht2 H => ?_
 obtain ⟨t3, ht3, H⟩ := pbind H
 refine OJ.call Z Z (Nat.le_of_ble_eq_true Z) Z Z Z hb1 Z (hf1 t2 _ ht3 _ hS.chg) ?_
 rintro _ w1 ⟨rfl, hs⟩
 replace hS := hS.grow hs
 refine GO ?_
 refine CB H (fun H => GO ?_) (fun H => ?_)
 obtain rfl := Option.some.inj H; have H := K251
 exact FE H hS
 exact MD H hS
 exact MD H hS
 rintro F w1 ⟨⟨⟩, rfl, hS⟩
 have H := K251
 refine EJ.next ?_
 exact FE H hS

def slices_ContainsFunc_string_string.f (k : Nat) (a0 : List ByteArray) (a1 : ByteArray → Option Bool) : Option Bool := (slices_IndexFunc_string_string.f k a0 a1).bind fun t1 => some (decide (0 ≤ t1))
theorem slices_ContainsFunc_string_string.c {k w Aa0 ca0} {a0 : List ByteArray} (hr0 : Rd G.cs w Aa0 a0) (hc0 : a0.length ≤ ca0) (na1 : Nat) (fsa1 : Array Value) (capa1 : Array Value) (hb1 : hasBody Tryz.prog na1) (a1 : ByteArray → Option Bool) (hf1 : ∀ (z0 : ByteArray) (r : Bool), a1 z0 = some r → ∀ w', Chg no w w' → CV Tryz.prog na1 (fsa1 ++ [.string z0].toArray ++ capa1) w' fun v w'' => v = .bool r ∧ Ext w' w'') (r : Bool) (H : slices_ContainsFunc_string_string.f k a0 a1 = some r) :
 CV Tryz.prog 62 [sl Aa0 a0 ca0, .func (.func na1) fsa1 capa1].toArray w fun v w' => v = .bool r ∧ Ext w w' := by
 have hS := ((St.init w no).param G.cs Aa0 ca0 a0 hr0 hc0)
 unfold slices_ContainsFunc_string_string.f at H
 refine CV.body Tryz.func62 Z Tryz.ntmps62 Z ?_
 refine GO ?_
 refine OB H hS hb115 (slices_IndexFunc_string_string.c (rA hS 0 Z) (rB hS 0 Z) na1 fsa1 capa1 hb1 a1 (fun z0 r h w' hx => hf1 z0 r h w' (hS.chg.then hx (fun _ _ e => e.elim)))) fun t1 w1 H hS => ?_
 exact FE H hS

def impl_JoinHerds_1.f (k : Nat) (a1 : Herd) (a0 : ByteArray) : Option Bool := (slices_Contains_string_string.f k a1.Names a0).bind fun t1 => some t1
theorem impl_JoinHerds_1.c {k w Aa1_0 ca1_0 Aa1_1 ca1_1 Aa1_2 ca1_2} (a1 : Herd) (hr1_0 : Rd G.cs w Aa1_0 a1.Names) (hc1_0 : a1.Names.length ≤ ca1_0) (hr1_1 : Rd (ci .i16) w Aa1_1 a1.Eats) (hc1_1 : a1.Eats.length ≤ ca1_1) (hr1_2 : Rd (ci .u16) w Aa1_2 a1.Foes) (hc1_2 : a1.Foes.length ≤ ca1_2) (pa1 : Addr) (hp1 : CA w pa1 (hv Aa1_0 Aa1_1 Aa1_2 ca1_0 ca1_1 ca1_2 a1)) {a0 : ByteArray} (r : Bool) (H : impl_JoinHerds_1.f k a1 a0 = some r) :
 CV Tryz.prog 63 [.string a0, .pointer (some pa1)].toArray w fun v w' => v = .bool r ∧ Ext w w' := by
 have hS := (((((St.init w no).param G.cs Aa1_0 ca1_0 a1.Names hr1_0 hc1_0).param (ci .i16) Aa1_1 ca1_1 a1.Eats hr1_1 hc1_1).param (ci .u16) Aa1_2 ca1_2 a1.Foes hr1_2 hc1_2).paramP pa1 (hv Aa1_0 Aa1_1 Aa1_2 ca1_0 ca1_1 ca1_2 a1) hp1)
 unfold impl_JoinHerds_1.f at H
 refine CV.body Tryz.func63 Z Tryz.ntmps63 Z ?_
 refine GO ?_
 refine oS (SL (CA.sub (hS.ca (i := 3) Z) 0)) ?_
 refine OB H hS hb52 (slices_Contains_string_string.c (rA hS 0 Z) (rB hS 0 Z)) fun t1 w1 H hS => ?_
 exact FE H hS

def slices_Clone_string_string.f (a0 : List ByteArray) : Option (List ByteArray) := (chk (([] : List ByteArray).length + a0.length ≤ 4294967296)).bind fun _ => some a0
theorem slices_Clone_string_string.c {w} (A : Option Addr) (c : Nat) {a0 : List ByteArray} (hr0 : Rd G.cs w A a0) (hc0 : a0.length ≤ c) (r : List ByteArray) (H : slices_Clone_string_string.f a0 = some r) :
 CV Tryz.prog 117 [sl A a0 c].toArray w fun v w' => ∃ (A0 : Option Addr) (c0 : Nat), v = .slice A0 r.length c0 ∧ St w no w' [rowC G.cs A0 c0 9 r] [] := by
 have hS := ((St.init w no).param G.cs A c a0 hr0 hc0)
 obtain ⟨u, hu, H⟩ := pbind H
 obtain rfl := Option.some.inj H
 refine CV.body Tryz.func117 Z Tryz.ntmps117 Z ?_
 refine GO ?_
 refine OJ.st Z Z Z (SR.eqNil oU Z Z Z Z) ?_
 refine GO ?_
 refine CJ.cond Z (fun hb => ?_) (fun hb => ?_)
 obtain rfl := hr0.isNone hb
 refine GO ?_
 replace hS := hS.addNil G.cs 9 none
 exact FT ⟨none, 0, Z, hS.pick [0] [] Z⟩
 refine GO ?_
 refine OF (EL hS G.cs ([] : List ByteArray)) ?_
 rintro _ w1 ⟨A1, rfl, hS⟩
 refine GO ?_
 refine OW (AP hS 0 (rA hS 0 Z) (chk_some hu)) ?_
 rintro _ w1 ⟨A2, c2, rfl, hS⟩
 refine GO ?_
 exact EJ.fin Z (.tmp Z .nil) ⟨A2, c2, Z, hS.pick [0] [] Z⟩

def slices_Clone_int16_int16.f (a0 : List Int) : Option (List Int) := (chk (([] : List Int).length + a0.length ≤ 4294967296)).bind fun _ => some a0
theorem slices_Clone_int16_int16.c {w} (A : Option Addr) (c : Nat) {a0 : List Int} (hr0 : Rd (ci .i16) w A a0) (hc0 : a0.length ≤ c) (r : List Int) (H : slices_Clone_int16_int16.f a0 = some r) :
 CV Tryz.prog 118 [sl A a0 c].toArray w fun v w' => ∃ (A0 : Option Addr) (c0 : Nat), v = .slice A0 r.length c0 ∧ St w no w' [rowC (ci .i16) A0 c0 49 r] [] := by
 have hS := ((St.init w no).param (ci .i16) A c a0 hr0 hc0)
 obtain ⟨u, hu, H⟩ := pbind H
 obtain rfl := Option.some.inj H
 refine CV.body Tryz.func118 Z Tryz.ntmps118 Z ?_
 refine GO ?_
 refine OJ.st Z Z Z (SR.eqNil oU Z Z Z Z) ?_
 refine GO ?_
 refine CJ.cond Z (fun hb => ?_) (fun hb => ?_)
 obtain rfl := hr0.isNone hb
 refine GO ?_
 replace hS := hS.addNil (ci .i16) 49 none
 exact FT ⟨none, 0, Z, hS.pick [0] [] Z⟩
 refine GO ?_
 refine OF (EL hS (ci .i16) ([] : List Int)) ?_
 rintro _ w1 ⟨A1, rfl, hS⟩
 refine GO ?_
 refine OW (AP hS 0 (rA hS 0 Z) (chk_some hu)) ?_
 rintro _ w1 ⟨A2, c2, rfl, hS⟩
 refine GO ?_
 exact EJ.fin Z (.tmp Z .nil) ⟨A2, c2, Z, hS.pick [0] [] Z⟩

def slices_Clone_uint16_uint16.f (a0 : List Int) : Option (List Int) := (chk (([] : List Int).length + a0.length ≤ 4294967296)).bind fun _ => some a0
theorem slices_Clone_uint16_uint16.c {w} (A : Option Addr) (c : Nat) {a0 : List Int} (hr0 : Rd (ci .u16) w A a0) (hc0 : a0.length ≤ c) (r : List Int) (H : slices_Clone_uint16_uint16.f a0 = some r) :
 CV Tryz.prog 119 [sl A a0 c].toArray w fun v w' => ∃ (A0 : Option Addr) (c0 : Nat), v = .slice A0 r.length c0 ∧ St w no w' [rowC (ci .u16) A0 c0 55 r] [] := by
 have hS := ((St.init w no).param (ci .u16) A c a0 hr0 hc0)
 obtain ⟨u, hu, H⟩ := pbind H
 obtain rfl := Option.some.inj H
 refine CV.body Tryz.func119 Z Tryz.ntmps119 Z ?_
 refine GO ?_
 refine OJ.st Z Z Z (SR.eqNil oU Z Z Z Z) ?_
 refine GO ?_
 refine CJ.cond Z (fun hb => ?_) (fun hb => ?_)
 obtain rfl := hr0.isNone hb
 refine GO ?_
 replace hS := hS.addNil (ci .u16) 55 none
 exact FT ⟨none, 0, Z, hS.pick [0] [] Z⟩
 refine GO ?_
 refine OF (EL hS (ci .u16) ([] : List Int)) ?_
 rintro _ w1 ⟨A1, rfl, hS⟩
 refine GO ?_
 refine OW (AP hS 0 (rA hS 0 Z) (chk_some hu)) ?_
 rintro _ w1 ⟨A2, c2, rfl, hS⟩
 refine GO ?_
 exact EJ.fin Z (.tmp Z .nil) ⟨A2, c2, Z, hS.pick [0] [] Z⟩

def impl_Herd_own.f (a0 : Herd) : Option Herd := (slices_Clone_string_string.f a0.Names).bind fun t3 => (slices_Clone_int16_int16.f a0.Eats).bind fun t6 => (slices_Clone_uint16_uint16.f a0.Foes).bind fun t9 => some (⟨t3, t6, t9⟩ : Herd)
theorem impl_Herd_own.c {w Aa0_0 ca0_0 Aa0_1 ca0_1 Aa0_2 ca0_2} (a0 : Herd) (hr0_0 : Rd G.cs w Aa0_0 a0.Names) (hc0_0 : a0.Names.length ≤ ca0_0) (hr0_1 : Rd (ci .i16) w Aa0_1 a0.Eats) (hc0_1 : a0.Eats.length ≤ ca0_1) (hr0_2 : Rd (ci .u16) w Aa0_2 a0.Foes) (hc0_2 : a0.Foes.length ≤ ca0_2) (r : Herd) (H : impl_Herd_own.f a0 = some r) :
 CV Tryz.prog 65 [.agg (hv Aa0_0 Aa0_1 Aa0_2 ca0_0 ca0_1 ca0_2 a0).toArray].toArray w fun v w' => ∃ (A0_0 : Option Addr) (c0_0 : Nat) (A0_1 : Option Addr) (c0_1 : Nat) (A0_2 : Option Addr) (c0_2 : Nat), v = .agg (hv A0_0 A0_1 A0_2 c0_0 c0_1 c0_2 r).toArray ∧ St w no w' [rowC G.cs A0_0 c0_0 9 r.Names, rowC (ci .i16) A0_1 c0_1 49 r.Eats, rowC (ci .u16) A0_2 c0_2 55 r.Foes] [] := by
 have hS := ((((St.init w no).param G.cs Aa0_0 ca0_0 a0.Names hr0_0 hc0_0).param (ci .i16) Aa0_1 ca0_1 a0.Eats hr0_1 hc0_1).param (ci .u16) Aa0_2 ca0_2 a0.Foes hr0_2 hc0_2)
 unfold impl_Herd_own.f at H
 refine CV.body Tryz.func65 Z Tryz.ntmps65 Z ?_
 refine GO ?_
 refine OF (EB hS (hv Aa0_0 Aa0_1 Aa0_2 ca0_0 ca0_1 ca0_2 a0)) ?_
 rintro _ w1 ⟨b1, rfl, hS⟩
 refine oA hS ([.slice none 0 0, .slice none 0 0, .slice none 0 0]) fun b2 w1 hS => ?_
 refine CJ.draw [] [0, 1, 3, 4, 6, 7, 2, 5, 8, 9, 10] mixed (by kernel_rfl) hS fun w1 hS => ?_
 refine GO ?_
 refine dS (SL (cf hS 0 0)) ?_
 refine dS (SL (cf hS 0 1)) ?_
 refine DS (SL (cf hS 0 2)) ?_
 obtain ⟨t3, ht3, H⟩ := pbind H
 refine DJ.callF rfl rfl rfl rfl rfl rfl rfl hb117 rfl (slices_Clone_string_string.c Aa0_0 ca0_0 (rA hS 0 Z) (rB hS 0 Z) _ ht3) (by rintro v w' ⟨A4, c5, rfl, hs⟩; exact hs.ext) ?_
 rintro _ w1 ⟨A4, c5, rfl, hs⟩
 replace hS := hS.addN hs
 obtain ⟨t6, ht6, H⟩ := pbind H
 refine DJ.callF rfl rfl rfl rfl rfl rfl rfl hb118 rfl (slices_Clone_int16_int16.c Aa0_1 ca0_1 (rA hS 1 Z) (rB hS 1 Z) _ ht6) (by rintro v w' ⟨A7, c8, rfl, hs⟩; exact hs.ext) ?_
 rintro _ w1 ⟨A7, c8, rfl, hs⟩
 replace hS := hS.addN hs
 obtain ⟨t9, ht9, H⟩ := pbind H
 refine DJ.callF rfl rfl rfl rfl rfl rfl rfl hb119 rfl (slices_Clone_uint16_uint16.c Aa0_2 ca0_2 (rA hS 2 Z) (rB hS 2 Z) _ ht9) (by rintro v w' ⟨A10, c11, rfl, hs⟩; exact hs.ext) ?_
 rintro _ w1 ⟨A10, c11, rfl, hs⟩
 replace hS := hS.addN hs
 refine DJ.ef Z Z Z Z Z ((SR.build' oU oI Z Z Z (zs := [.slice none 0 0, .slice none 0 0, .slice none 0 0]) Z Z Z ([sl A4 t3 c5, sl A7 t6 c8, sl A10 t9 c11]) Z).ef) ?_
 rintro _ w1 ⟨rfl, hx⟩
 replace hS := hS.grow hx
 refine dE (WV hS 1 [sl A4 t3 c5, sl A7 t6 c8, sl A10 t9 c11]) fun w1 hS => ?_
 obtain rfl := Option.some.inj H
 exact EJ.fin Z (.cell Z (ldN oU oI Z Z Z (hS.cells (i := 1) Z) (ds := [sl A4 t3 c5, sl A7 t6 c8, sl A10 t9 c11]) Z Z) .nil) ⟨A4, c5, A7, c8, A10, c11, Z, hS.pick [2, 3, 4] [] Z⟩

def impl_JoinHerds.l1 (a0 : Herd) (a1 : Herd) : Nat → (List ByteArray) → (List Int) → (List Int) → Int → Option ((List ByteArray) × (List Int) × (List Int))
  | 0, _, _, _, _ => none
  | k + 1, y27, y30, y33, y36 => if y36 < (a1.Names.length : Int) then ((getI a1.Names y36).bind fun t37 => (getI a1.Eats y36).bind fun t38 => (chk (y27.length + ([t37] : List ByteArray).length ≤ 4294967296)).bind fun u40 => (chk (y30.length + ([t38] : List Int).length ≤ 4294967296)).bind fun u44 => (getI a1.Foes y36).bind fun t64 => (chk (0 ≤ (a0.Names.length : Int))).bind fun u65 => (chk (y33.length + ([shlI .u16 t64 (a0.Names.length : Int)] : List Int).length ≤ 4294967296)).bind fun u67 => impl_JoinHerds.l1 a0 a1 k (y27 ++ ([t37] : List ByteArray)) (y30 ++ ([t38] : List Int)) (y33 ++ ([shlI .u16 t64 (a0.Names.length : Int)] : List Int)) (IntKind.i64.wrap (y36 + 1))) else (some (y27, y30, y33))
def impl_JoinHerds.f (k : Nat) (a0 : Herd) (a1 : Herd) : Option (Herd × Int) := ((impl_ValidHerd.f k a0).bind fun t5 => if (!t5) = true then (some true) else ((impl_ValidHerd.f k a1).bind fun t6 => some (!t6))).bind fun y4 => if y4 = true then (some ((⟨[], [], []⟩ : Herd), 1)) else ((slices_ContainsFunc_string_string.f k a0.Names (impl_JoinHerds_1.f k a1)).bind fun t7 => if t7 = true then (some ((⟨[], [], []⟩ : Herd), 4)) else ((impl_Herd_many.f a0).bind fun t8 => (impl_Herd_many.f a1).bind fun t9 => if 14 < (IntKind.i64.wrap (t8 + t9)) then (some ((⟨[], [], []⟩ : Herd), 3)) else ((impl_Herd_own.f a0).bind fun t10 => (impl_JoinHerds.l1 a0 a1 k t10.Names t10.Eats t10.Foes 0).bind fun (y18, y21, y24) => some ((⟨y18, y21, y24⟩ : Herd), 0))))
theorem impl_JoinHerds.c {k w Aa0_0 ca0_0 Aa0_1 ca0_1 Aa0_2 ca0_2} (a0 : Herd) (hr0_0 : Rd G.cs w Aa0_0 a0.Names) (hc0_0 : a0.Names.length ≤ ca0_0) (hr0_1 : Rd (ci .i16) w Aa0_1 a0.Eats) (hc0_1 : a0.Eats.length ≤ ca0_1) (hr0_2 : Rd (ci .u16) w Aa0_2 a0.Foes) (hc0_2 : a0.Foes.length ≤ ca0_2) {Aa1_0 ca1_0 Aa1_1 ca1_1 Aa1_2 ca1_2} (a1 : Herd) (hr1_0 : Rd G.cs w Aa1_0 a1.Names) (hc1_0 : a1.Names.length ≤ ca1_0) (hr1_1 : Rd (ci .i16) w Aa1_1 a1.Eats) (hc1_1 : a1.Eats.length ≤ ca1_1) (hr1_2 : Rd (ci .u16) w Aa1_2 a1.Foes) (hc1_2 : a1.Foes.length ≤ ca1_2) (r : Herd × Int) (H : impl_JoinHerds.f k a0 a1 = some r) :
 CV Tryz.prog 20 [.agg (hv Aa0_0 Aa0_1 Aa0_2 ca0_0 ca0_1 ca0_2 a0).toArray, .agg (hv Aa1_0 Aa1_1 Aa1_2 ca1_0 ca1_1 ca1_2 a1).toArray].toArray w fun v w' => ∃ (A0_0 : Option Addr) (c0_0 : Nat) (A0_1 : Option Addr) (c0_1 : Nat) (A0_2 : Option Addr) (c0_2 : Nat), v = .tuple #[.agg (hv A0_0 A0_1 A0_2 c0_0 c0_1 c0_2 r.1).toArray, .int .i64 r.2] ∧ St w no w' [rowC G.cs A0_0 c0_0 9 r.1.Names, rowC (ci .i16) A0_1 c0_1 49 r.1.Eats, rowC (ci .u16) A0_2 c0_2 55 r.1.Foes] [] := by
 have hS := (((((((St.init w no).param G.cs Aa0_0 ca0_0 a0.Names hr0_0 hc0_0).param (ci .i16) Aa0_1 ca0_1 a0.Eats hr0_1 hc0_1).param (ci .u16) Aa0_2 ca0_2 a0.Foes hr0_2 hc0_2).param G.cs Aa1_0 ca1_0 a1.Names hr1_0 hc1_0).param (ci .i16) Aa1_1 ca1_1 a1.Eats hr1_1 hc1_1).param (ci .u16) Aa1_2 ca1_2 a1.Foes hr1_2 hc1_2)
 unfold impl_JoinHerds.f at H
 refine CV.body Tryz.func20 Z Tryz.ntmps20 Z ?_
 refine GO ?_
 refine OF (EB hS (hv Aa0_0 Aa0_1 Aa0_2 ca0_0 ca0_1 ca0_2 a0)) ?_
 rintro _ w1 ⟨b1, rfl, hS⟩
 refine OF (EB hS (hv Aa1_0 Aa1_1 Aa1_2 ca1_0 ca1_1 ca1_2 a1)) ?_
 rintro _ w1 ⟨b2, rfl, hS⟩
 refine oA hS ([.slice none 0 0, .slice none 0 0, .slice none 0 0]) fun b3 w1 hS => ?_
 refine CJ.block ?_
 obtain ⟨j250, H, K250⟩ := pbind H
 refine CJ.cut (fun F w1 => ∃ y4, some y4 = some j250 ∧ F = [(2, pt b1), (3, pt b2), (4, pt b3), (9, .bool y4)] ∧ St w no w1 [box b1 (hv Aa0_0 Aa0_1 Aa0_2 ca0_0 ca0_1 ca0_2 a0) 28, box b2 (hv Aa1_0 Aa1_1 Aa1_2 ca1_0 ca1_1 ca1_2 a1) 28, box b3 ([.slice none 0 0, .slice none 0 0, .slice none 0 0]) 28] [roC G.cs Aa0_0 ca0_0 a0.Names, roC (ci .i16) Aa0_1 ca0_1 a0.Eats, roC (ci .u16) Aa0_2 ca0_2 a0.Foes, roC G.cs Aa1_0 ca1_0 a1.Names, roC (ci .i16) Aa1_1 ca1_1 a1.Eats, roC (ci .u16) Aa1_2 ca1_2 a1.Foes]) ?_ ?_
 refine GO ?_
 refine OS (SN (hv Aa0_0 Aa0_1 Aa0_2 ca0_0 ca0_1 ca0_2 a0) (ce hS 0)) ?_
 refine oB H hS hb13 (impl_ValidHerd.c a0 (rA hS 0 Z) (rB hS 0 Z) (rA hS 1 Z) (rB hS 1 Z) (rA hS 2 Z) (rB hS 2 Z)) fun t5 w1 H hS => ?_
 refine OJ.split (t := 13) Z (fun hb => ?_) (fun hb => ?_)
 replace H := pif_t hb H
 exact MD H hS
 replace H := pifb_f hb H
 refine OS (SN (hv Aa1_0 Aa1_1 Aa1_2 ca1_0 ca1_1 ca1_2 a1) (ce hS 1)) ?_
 refine OB H hS hb13 (impl_ValidHerd.c a1 (rA hS 3 Z) (rB hS 3 Z) (rA hS 4 Z) (rB hS 4 Z) (rA hS 5 Z) (rB hS 5 Z)) fun t6 w1 H hS => ?_
 exact MD H hS
 rintro F w1 ⟨y4, he, rfl, hS⟩
 obtain rfl := Option.some.inj he
 have H := K250
 refine CB H (fun H => GO ?_) (fun H => ?_)
 refine OJ.st Z Z Z (SR.build' oU oI Z Z Z (zs := [.slice none 0 0, .slice none 0 0, .slice none 0 0]) Z Z Z ([.slice none 0 0, .slice none 0 0, .slice none 0 0]) Z) ?_
 refine oE (WV hS 2 [.slice none 0 0, .slice none 0 0, .slice none 0 0]) fun w1 hS => ?_
 replace hS := hS.addNil G.cs 9 none
 replace hS := hS.addNil (ci .i16) 49 none
 replace hS := hS.addNil (ci .u16) 55 none
 obtain rfl := Option.some.inj H
 exact EJ.fin Z (.cell Z (ldN oU oI Z Z Z (hS.cells (i := 2) Z) (ds := [.slice none 0 0, .slice none 0 0, .slice none 0 0]) Z Z) (.tmp Z .nil)) ⟨none, 0, none, 0, none, 0, Z, hS.pick [3, 4, 5] [] Z⟩
 refine GO ?_
 refine oS (SL (cf hS 0 0)) ?_
 refine oB H hS hb62 (slices_ContainsFunc_string_string.c (rA hS 0 Z) (rB hS 0 Z) 63 #[] #[.pointer (some ⟨b2, 0, none⟩)] hb63 (impl_JoinHerds_1.f k a1) (fun z0 r h w' hx => CV.cast (impl_JoinHerds_1.c a1 ((rA hS 3 Z).ext hx) (rB hS 3 Z) ((rA hS 4 Z).ext hx) (rB hS 4 Z) ((rA hS 5 Z).ext hx) (rB hS 5 Z) ⟨b2, 0, none⟩ (CA.ext (hS.cells (i := 1) rfl) hx) r h) (by simp))) fun t7 w1 H hS => ?_
 refine CB H (fun H => GO ?_) (fun H => ?_)
 refine OJ.st Z Z Z (SR.build' oU oI Z Z Z (zs := [.slice none 0 0, .slice none 0 0, .slice none 0 0]) Z Z Z ([.slice none 0 0, .slice none 0 0, .slice none 0 0]) Z) ?_
 refine oE (WV hS 2 [.slice none 0 0, .slice none 0 0, .slice none 0 0]) fun w1 hS => ?_
 replace hS := hS.addNil G.cs 9 none
 replace hS := hS.addNil (ci .i16) 49 none
 replace hS := hS.addNil (ci .u16) 55 none
 obtain rfl := Option.some.inj H
 exact EJ.fin Z (.cell Z (ldN oU oI Z Z Z (hS.cells (i := 2) Z) (ds := [.slice none 0 0, .slice none 0 0, .slice none 0 0]) Z Z) (.tmp Z .nil)) ⟨none, 0, none, 0, none, 0, Z, hS.pick [3, 4, 5] [] Z⟩
 refine GO ?_
 refine CJ.draw [] [0, 2, 1, 3, 4, 5, 6] mixed (by kernel_rfl) hS fun w1 hS => ?_
 refine DS (SN (hv Aa0_0 Aa0_1 Aa0_2 ca0_0 ca0_1 ca0_2 a0) (ce hS 0)) ?_
 refine DS (SN (hv Aa1_0 Aa1_1 Aa1_2 ca1_0 ca1_1 ca1_2 a1) (ce hS 1)) ?_
 obtain ⟨t8, ht8, H⟩ := pbind H
 refine DJ.callF rfl rfl rfl rfl rfl rfl rfl hb64 rfl (impl_Herd_many.c a0 (rA hS 0 Z) (rB hS 0 Z) (rA hS 1 Z) (rB hS 1 Z) (rA hS 2 Z) (rB hS 2 Z) _ ht8) (by rintro v w' ⟨rfl, hs⟩; exact hs) ?_
 rintro _ w1 ⟨rfl, hs⟩
 replace hS := hS.grow hs
 obtain ⟨t9, ht9, H⟩ := pbind H
 refine DJ.callF rfl rfl rfl rfl rfl rfl rfl hb64 rfl (impl_Herd_many.c a1 (rA hS 3 Z) (rB hS 3 Z) (rA hS 4 Z) (rB hS 4 Z) (rA hS 5 Z) (rB hS 5 Z) _ ht9) (by rintro v w' ⟨rfl, hs⟩; exact hs) ?_
 rintro _ w1 ⟨rfl, hs⟩
 replace hS := hS.grow hs
 refine GO ?_
 refine CP H (fun H => GO ?_) (fun H => ?_)
 refine OJ.st Z Z Z (SR.build' oU oI Z Z Z (zs := [.slice none 0 0, .slice none 0 0, .slice none 0 0]) Z Z Z ([.slice none 0 0, .slice none 0 0, .slice none 0 0]) Z) ?_
 refine oE (WV hS 2 [.slice none 0 0, .slice none 0 0, .slice none 0 0]) fun w1 hS => ?_
 replace hS := hS.addNil G.cs 9 none
 replace hS := hS.addNil (ci .i16) 49 none
 replace hS := hS.addNil (ci .u16) 55 none
 obtain rfl := Option.some.inj H
 exact EJ.fin Z (.cell Z (ldN oU oI Z Z Z (hS.cells (i := 2) Z) (ds := [.slice none 0 0, .slice none 0 0, .slice none 0 0]) Z Z) (.tmp Z .nil)) ⟨none, 0, none, 0, none, 0, Z, hS.pick [3, 4, 5] [] Z⟩
 refine GO ?_
 refine OS (SN (hv Aa0_0 Aa0_1 Aa0_2 ca0_0 ca0_1 ca0_2 a0) (ce hS 0)) ?_
 obtain ⟨t10, ht10, H⟩ := pbind H
 refine OC hb65 (impl_Herd_own.c a0 (rA hS 0 Z) (rB hS 0 Z) (rA hS 1 Z) (rB hS 1 Z) (rA hS 2 Z) (rB hS 2 Z) _ ht10) ?_
 rintro _ w1 ⟨A11, c12, A13, c14, A15, c16, rfl, hs⟩
 replace hS := hS.addN hs
 have hS : St _ _ _ [_, _, _, _, _, _] _ := hS
 refine OF (EA hS ([.slice none 0 0, .slice none 0 0, .slice none 0 0])) ?_
 rintro _ w1 ⟨b17, rfl, hS⟩
 refine oE (WV hS 6 [sl A11 t10.Names c12, sl A13 t10.Eats c14, sl A15 t10.Foes c16]) fun w1 hS => ?_
 refine oS (SL (cf hS 1 0)) ?_
 obtain ⟨j252, H, K252⟩ := pbind H
 refine CJ.cut1 (fun F w1 => ∃ y18 y21 y24 A19 c20 A22 c23 A25 c26, some j252 = some (y18, y21, y24) ∧ F = [(4, pt b3), (6, pt b17)] ∧ St w no w1 [box b3 ([.slice none 0 0, .slice none 0 0, .slice none 0 0]) 28, rowC G.cs A19 c20 9 y18, rowC (ci .i16) A22 c23 49 y21, rowC (ci .u16) A25 c26 55 y24, box b17 ([sl A19 y18 c20, sl A22 y21 c23, sl A25 y24 c26]) 28] [roC G.cs Aa0_0 ca0_0 a0.Names, roC (ci .i16) Aa0_1 ca0_1 a0.Eats, roC (ci .u16) Aa0_2 ca0_2 a0.Foes, roC G.cs Aa1_0 ca1_0 a1.Names, roC (ci .i16) Aa1_1 ca1_1 a1.Eats, roC (ci .u16) Aa1_2 ca1_2 a1.Foes]) ?_ ?_
 refine CJ.block ?_
 refine LQ (fun k F w1 => ∃ (y27 : List ByteArray) (y30 : List Int) (y33 : List Int) (y36 : Int) (A28 c29 A31 c32 A34 c35 : _), F = [(2, pt b1), (3, pt b2), (4, pt b3), (6, pt b17), (36, sl Aa1_0 a1.Names ca1_0), (37, i6 (a1.Names.length : Int)), (38, i6 y36)] ∧ St w no w1 [box b1 (hv Aa0_0 Aa0_1 Aa0_2 ca0_0 ca0_1 ca0_2 a0) 28, box b2 (hv Aa1_0 Aa1_1 Aa1_2 ca1_0 ca1_1 ca1_2 a1) 28, box b3 ([.slice none 0 0, .slice none 0 0, .slice none 0 0]) 28, rowC G.cs A28 c29 9 y27, rowC (ci .i16) A31 c32 49 y30, rowC (ci .u16) A34 c35 55 y33, box b17 ([sl A28 y27 c29, sl A31 y30 c32, sl A34 y33 c35]) 28] [roC G.cs Aa0_0 ca0_0 a0.Names, roC (ci .i16) Aa0_1 ca0_1 a0.Eats, roC (ci .u16) Aa0_2 ca0_2 a0.Foes, roC G.cs Aa1_0 ca1_0 a1.Names, roC (ci .i16) Aa1_1 ca1_1 a1.Eats, roC (ci .u16) Aa1_2 ca1_2 a1.Foes] ∧ impl_JoinHerds.l1 a0 a1 k y27 y30 y33 y36 = some j252) k H hS ?_
 rintro k F w1 ⟨y27, y30, y33, y36, A28, c29, A31, c32, A34, c35, rfl, hS, H⟩
 rw [impl_JoinHerds.l1] at H
 refine GO ?_
 refine CP H (fun H => GO ?_) (fun H => ?_)
 refine CJ.block ?_
 refine GO ?_
 refine xI H (rA hS 3 Z) fun t37 ad37 ht37 H => ?_
 obtain ⟨t38, ht38, H⟩ := pbind H
 obtain ⟨u40, hu40, H⟩ := pbind H
 obtain ⟨u44, hu44, H⟩ := pbind H
 refine CJ.cut1 (fun F w1 => ∃ (A39 A41 c42 A43 A45 c46 : _), F = [(2, pt b1), (3, pt b2), (4, pt b3), (6, pt b17), (7, i6 y36), (36, sl Aa1_0 a1.Names ca1_0), (37, i6 (a1.Names.length : Int)), (38, i6 y36)] ∧ St w no w1 [box b1 (hv Aa0_0 Aa0_1 Aa0_2 ca0_0 ca0_1 ca0_2 a0) 28, box b2 (hv Aa1_0 Aa1_1 Aa1_2 ca1_0 ca1_1 ca1_2 a1) 28, box b3 ([.slice none 0 0, .slice none 0 0, .slice none 0 0]) 28, rowC G.cs A41 c42 9 (y27 ++ ([t37] : List ByteArray)), rowC (ci .i16) A45 c46 49 (y30 ++ ([t38] : List Int)), rowC (ci .u16) A34 c35 55 y33, box b17 ([sl A41 (y27 ++ ([t37] : List ByteArray)) c42, sl A45 (y30 ++ ([t38] : List Int)) c46, sl A34 y33 c35]) 28, rowC G.cs A39 (([t37] : List ByteArray).length) 9 ([t37] : List ByteArray), rowC (ci .i16) A43 (([t38] : List Int).length) 49 ([t38] : List Int)] [roC G.cs Aa0_0 ca0_0 a0.Names, roC (ci .i16) Aa0_1 ca0_1 a0.Eats, roC (ci .u16) Aa0_2 ca0_2 a0.Foes, roC G.cs Aa1_0 ca1_0 a1.Names, roC (ci .i16) Aa1_1 ca1_1 a1.Eats, roC (ci .u16) Aa1_2 ca1_2 a1.Foes]) ?_ ?_
 refine CJ.drawT [15, 17] [3, 4, 12, 13] (.one 0 (.one 1 (.one 2 (.one 5 (.one 6 (.one 7 (.one 8 (.one 9 (.one 10 (.one 11 (.br (.alt 3 (.br (.alt 4 (.one 14 (.one 12 (.one 13 (.one 15 (.one 16 (.one 17 (.fin))))))) (.alt 12 (.one 4 (.one 14 (.one 13 (.one 15 (.one 16 (.one 17 (.fin))))))) (.stop)))) (.alt 12 (.one 3 (.one 4 (.one 14 (.one 13 (.one 15 (.one 16 (.one 17 (.fin)))))))) (.stop)))))))))))))) mixed (by kernel_rfl) hS [1, 6] fun w1 hS hY hV => ?_
 refine TP (fun _ => SF) ?_
 refine TL hY (fun w2 hY => SL (CA.sub ((hV w2 hY).cellsR (i := 7) Z) 0)) ?_
 refine GO ?_
 refine TP (fun _ => SF) ?_
 refine TL hY (fun w2 hY => SL (CA.sub ((hV w2 hY).cellsR (i := 7) Z) 1)) ?_
 refine TP (fun _ => SF) ?_
 refine TL hY (fun w2 hY => SL (CA.sub ((hV w2 hY).cellsR (i := 6) Z) 1)) ?_
 refine GO ?_
 obtain ⟨ad38, e38⟩ := (rA hS 4 Z).some' ht38
 refine TP (fun _ => SI e38 (getI_some ht38).1) ?_
 refine TL hY (fun w2 hY => SL (((hV w2 hY).rd' (i := 4) Z).at_ e38 ht38)) ?_
 refine TJ.br ?_
 refine TJ.alt ?_ ?_
 refine TF hY (EL hS G.cs ([t37] : List ByteArray)) ?_
 rintro _ w1 hY ⟨A47, rfl, hS⟩
 refine TJ.br ?_
 refine TJ.alt ?_ ?_
 refine tW [1, 6] 3 6 hY hS (rC hS 7 Z) (chk_some hu40) fun A48 c49 w1 hY (hS : St _ _ _ [_, _, _, _, _, _, _, _] _) => ?_
 refine TP (fun _ => SF) ?_
 refine TF hY (EL hS (ci .i16) ([t38] : List Int)) ?_
 rintro _ w1 hY ⟨A50, rfl, hS⟩
 refine tW [1, 6] 4 6 hY hS (rC hS 8 Z) (chk_some hu44) fun A51 c52 w1 hY (hS : St _ _ _ [_, _, _, _, _, _, _, _, _] _) => ?_
 refine TB (WS hS 6 [sl A48 (y27 ++ ([t37] : List ByteArray)) c49] [sl A48 (y27 ++ ([t37] : List ByteArray)) c49, sl A31 y30 c32, sl A34 y33 c35]) ?_
 intro w1 hS
 refine TP (fun _ => SF) ?_
 refine TB (WS hS 6 [sl A51 (y30 ++ ([t38] : List Int)) c52] [sl A48 (y27 ++ ([t37] : List ByteArray)) c49, sl A51 (y30 ++ ([t38] : List Int)) c52, sl A34 y33 c35]) ?_
 intro w1 hS
 exact MD H hS
 refine TJ.alt ?_ ?_
 refine TF hY (EL hS (ci .i16) ([t38] : List Int)) ?_
 rintro _ w1 hY ⟨A53, rfl, hS⟩
 refine tW [1, 6] 3 6 hY hS (rC hS 7 Z) (chk_some hu40) fun A54 c55 w1 hY (hS : St _ _ _ [_, _, _, _, _, _, _, _, _] _) => ?_
 refine TP (fun _ => SF) ?_
 refine tW [1, 6] 4 6 hY hS (rC hS 8 Z) (chk_some hu44) fun A56 c57 w1 hY (hS : St _ _ _ [_, _, _, _, _, _, _, _, _] _) => ?_
 refine TB (WS hS 6 [sl A54 (y27 ++ ([t37] : List ByteArray)) c55] [sl A54 (y27 ++ ([t37] : List ByteArray)) c55, sl A31 y30 c32, sl A34 y33 c35]) ?_
 intro w1 hS
 refine TP (fun _ => SF) ?_
 refine TB (WS hS 6 [sl A56 (y30 ++ ([t38] : List Int)) c57] [sl A54 (y27 ++ ([t37] : List ByteArray)) c55, sl A56 (y30 ++ ([t38] : List Int)) c57, sl A34 y33 c35]) ?_
 intro w1 hS
 exact MD H hS
 exact TJ.stop
 refine TJ.alt ?_ ?_
 refine TF hY (EL hS (ci .i16) ([t38] : List Int)) ?_
 rintro _ w1 hY ⟨A58, rfl, hS⟩
 refine TF hY (EL hS G.cs ([t37] : List ByteArray)) ?_
 rintro _ w1 hY ⟨A59, rfl, hS⟩
 refine tW [1, 6] 3 6 hY hS (rC hS 8 Z) (chk_some hu40) fun A60 c61 w1 hY (hS : St _ _ _ [_, _, _, _, _, _, _, _, _] _) => ?_
 refine TP (fun _ => SF) ?_
 refine tW [1, 6] 4 6 hY hS (rC hS 7 Z) (chk_some hu44) fun A62 c63 w1 hY (hS : St _ _ _ [_, _, _, _, _, _, _, _, _] _) => ?_
 refine TB (WS hS 6 [sl A60 (y27 ++ ([t37] : List ByteArray)) c61] [sl A60 (y27 ++ ([t37] : List ByteArray)) c61, sl A31 y30 c32, sl A34 y33 c35]) ?_
 intro w1 hS
 refine TP (fun _ => SF) ?_
 refine TB (WS hS 6 [sl A62 (y30 ++ ([t38] : List Int)) c63] [sl A60 (y27 ++ ([t37] : List ByteArray)) c61, sl A62 (y30 ++ ([t38] : List Int)) c63, sl A34 y33 c35]) ?_
 intro w1 hS
 refine GO ?_
 exact MT ⟨A59, A60, c61, A58, A62, c63, Z, hS.pick [0, 1, 2, 3, 4, 5, 6, 8, 7] [0, 1, 2, 3, 4, 5] Z⟩
 exact TJ.stop
 rintro F w1 ⟨A39, A41, c42, A43, A45, c46, rfl, hS⟩
 refine EJ.next ?_
 refine CJ.draw [] [0, 1, 2, 3, 4, 5, 6, 7, 8, 9, 10, 11, 12, 13, 14] mixed (by kernel_rfl) hS fun w1 hS => ?_
 refine GO ?_
 refine dS (SL (cf hS 6 2)) ?_
 refine dS (SL (cf hS 1 2)) ?_
 refine xD H (rA hS 5 Z) fun t64 ad64 ht64 H => ?_
 refine dS (SL (cf hS 0 0)) ?_
 obtain ⟨u65, hu65, H⟩ := pbind H
 refine DJ.st Z Z Z Z Z (SR.shl Z Z Z (chk_some hu65)) ?_
 refine DF (EL hS (ci .u16) ([shlI .u16 t64 (a0.Names.length : Int)] : List Int)) ?_
 rintro _ w1 ⟨A66, rfl, hS⟩
 obtain ⟨u67, hu67, H⟩ := pbind H
 refine DW (AP hS 5 (rC hS 9 Z) (chk_some hu67)) ?_
 rintro _ w1 ⟨A68, c69, rfl, hS⟩
 refine GO ?_
 refine DE (WS hS 6 [sl A68 (y33 ++ ([shlI .u16 t64 (a0.Names.length : Int)] : List Int)) c69] [sl A41 (y27 ++ ([t37] : List ByteArray)) c42, sl A45 (y30 ++ ([t38] : List Int)) c46, sl A68 (y33 ++ ([shlI .u16 t64 (a0.Names.length : Int)] : List Int)) c69]) fun w1 hS => ?_
 exact MD H hS
 exact MD H hS
 rintro F w1 ⟨y18, y21, y24, A19, c20, A22, c23, A25, c26, ⟨⟩, rfl, hS⟩
 have H := K252
 refine EJ.next ?_
 refine GO ?_
 refine OS (SN [sl A19 y18 c20, sl A22 y21 c23, sl A25 y24 c26] (ce hS 4)) ?_
 refine oE (WV hS 0 [sl A19 y18 c20, sl A22 y21 c23, sl A25 y24 c26]) fun w1 hS => ?_
 obtain rfl := Option.some.inj H
 exact EJ.fin Z (.cell Z (ldN oU oI Z Z Z (hS.cells (i := 0) Z) (ds := [sl A19 y18 c20, sl A22 y21 c23, sl A25 y24 c26]) Z Z) (.tmp Z .nil)) ⟨A19, c20, A22, c23, A25, c26, Z, hS.pick [1, 2, 3] [] Z⟩

def spec_l06Named.l1 (a0 : Herd) (a1 : ByteArray) : Nat → Int → Option (Bool ⊕ Unit)
  | 0, _ => none
  | k + 1, y1 => if y1 < (a0.Names.length : Int) then ((getI a0.Names y1).bind fun t2 => if t2 = a1 then (some (Sum.inl true)) else (spec_l06Named.l1 a0 a1 k (IntKind.i64.wrap (y1 + 1)))) else (some (Sum.inr ()))
def spec_l06Named.f (k : Nat) (a0 : Herd) (a1 : ByteArray) : Option Bool := (spec_l06Named.l1 a0 a1 k 0).bind fun s255 => match s255 with | .inl r => some r | .inr _ => some false
theorem spec_l06Named.c {k w Aa0_0 ca0_0 Aa0_1 ca0_1 Aa0_2 ca0_2} (a0 : Herd) (hr0_0 : Rd G.cs w Aa0_0 a0.Names) (hc0_0 : a0.Names.length ≤ ca0_0) (hr0_1 : Rd (ci .i16) w Aa0_1 a0.Eats) (hc0_1 : a0.Eats.length ≤ ca0_1) (hr0_2 : Rd (ci .u16) w Aa0_2 a0.Foes) (hc0_2 : a0.Foes.length ≤ ca0_2) (pa0 : Addr) (hp0 : CA w pa0 (hv Aa0_0 Aa0_1 Aa0_2 ca0_0 ca0_1 ca0_2 a0)) {a1 : ByteArray} (r : Bool) (H : spec_l06Named.f k a0 a1 = some r) :
 CV Tryz.prog 66 [.pointer (some pa0), .string a1].toArray w fun v w' => v = .bool r ∧ Ext w w' := by
 have hS := (((((St.init w no).param G.cs Aa0_0 ca0_0 a0.Names hr0_0 hc0_0).param (ci .i16) Aa0_1 ca0_1 a0.Eats hr0_1 hc0_1).param (ci .u16) Aa0_2 ca0_2 a0.Foes hr0_2 hc0_2).paramP pa0 (hv Aa0_0 Aa0_1 Aa0_2 ca0_0 ca0_1 ca0_2 a0) hp0)
 unfold spec_l06Named.f at H
 refine CV.body Tryz.func66 Z Tryz.ntmps66 Z ?_
 refine GO ?_
 obtain ⟨j255, H, K255⟩ := pbind H
 refine CJ.cut1 (fun F w1 => some j255 = some (Sum.inr ()) ∧ F = [] ∧ St w no w1 [] [roC G.cs Aa0_0 ca0_0 a0.Names, roC (ci .i16) Aa0_1 ca0_1 a0.Eats, roC (ci .u16) Aa0_2 ca0_2 a0.Foes, roP pa0 (hv Aa0_0 Aa0_1 Aa0_2 ca0_0 ca0_1 ca0_2 a0)]) ?_ ?_
 refine CJ.block ?_
 refine LQ (fun k F w1 => ∃ (y1 : Int), F = [(0, .pointer (some pa0)), (1, .string a1), (5, i6 y1)] ∧ St w no w1 [] [roC G.cs Aa0_0 ca0_0 a0.Names, roC (ci .i16) Aa0_1 ca0_1 a0.Eats, roC (ci .u16) Aa0_2 ca0_2 a0.Foes, roP pa0 (hv Aa0_0 Aa0_1 Aa0_2 ca0_0 ca0_1 ca0_2 a0)] ∧ spec_l06Named.l1 a0 a1 k y1 = some j255) k H hS ?_
 rintro k F w1 ⟨y1, rfl, hS, H⟩
 rw [spec_l06Named.l1] at H
 refine GO ?_
 refine oS (SL (CA.sub (hS.ca (i := 3) Z) 0)) ?_
 refine CP H (fun H => GO ?_) (fun H => ?_)
 refine CJ.block ?_
 refine GO ?_
 refine oS (SL (CA.sub (hS.ca (i := 3) Z) 0)) ?_
 refine xI H (rA hS 0 Z) fun t2 ad2 ht2 H => ?_
 refine CP H (fun H => GO ?_) (fun H => ?_)
 obtain rfl := Option.some.inj H; have H := K255
 exact FE H hS
 exact MD H hS
 exact MD H hS
 rintro F w1 ⟨⟨⟩, rfl, hS⟩
 have H := K255
 refine EJ.next ?_
 exact FE H hS

def spec_l06Own.f (a0 : Herd) : Option Herd := (chk (([] : List ByteArray).length + a0.Names.length ≤ 4294967296)).bind fun u3 => (chk (([] : List Int).length + a0.Eats.length ≤ 4294967296)).bind fun u7 => (chk (([] : List Int).length + a0.Foes.length ≤ 4294967296)).bind fun u11 => some (⟨([] : List ByteArray) ++ a0.Names, ([] : List Int) ++ a0.Eats, ([] : List Int) ++ a0.Foes⟩ : Herd)
theorem spec_l06Own.c {w Aa0_0 ca0_0 Aa0_1 ca0_1 Aa0_2 ca0_2} (a0 : Herd) (hr0_0 : Rd G.cs w Aa0_0 a0.Names) (hc0_0 : a0.Names.length ≤ ca0_0) (hr0_1 : Rd (ci .i16) w Aa0_1 a0.Eats) (hc0_1 : a0.Eats.length ≤ ca0_1) (hr0_2 : Rd (ci .u16) w Aa0_2 a0.Foes) (hc0_2 : a0.Foes.length ≤ ca0_2) (pa0 : Addr) (hp0 : CA w pa0 (hv Aa0_0 Aa0_1 Aa0_2 ca0_0 ca0_1 ca0_2 a0)) (r : Herd) (H : spec_l06Own.f a0 = some r) :
 CV Tryz.prog 67 [.pointer (some pa0)].toArray w fun v w' => ∃ (A0_0 : Option Addr) (c0_0 : Nat) (A0_1 : Option Addr) (c0_1 : Nat) (A0_2 : Option Addr) (c0_2 : Nat), v = .agg (hv A0_0 A0_1 A0_2 c0_0 c0_1 c0_2 r).toArray ∧ St w no w' [rowC G.cs A0_0 c0_0 9 r.Names, rowC (ci .i16) A0_1 c0_1 49 r.Eats, rowC (ci .u16) A0_2 c0_2 55 r.Foes] [] := by
 have hS := (((((St.init w no).param G.cs Aa0_0 ca0_0 a0.Names hr0_0 hc0_0).param (ci .i16) Aa0_1 ca0_1 a0.Eats hr0_1 hc0_1).param (ci .u16) Aa0_2 ca0_2 a0.Foes hr0_2 hc0_2).paramP pa0 (hv Aa0_0 Aa0_1 Aa0_2 ca0_0 ca0_1 ca0_2 a0) hp0)
 unfold spec_l06Own.f at H
 refine CV.body Tryz.func67 Z Tryz.ntmps67 Z ?_
 refine GO ?_
 refine oA hS ([.slice none 0 0, .slice none 0 0, .slice none 0 0]) fun b1 w1 hS => ?_
 obtain ⟨u3, hu3, H⟩ := pbind H
 obtain ⟨u7, hu7, H⟩ := pbind H
 obtain ⟨u11, hu11, H⟩ := pbind H
 refine CJ.cut1 (fun F w1 => ∃ (A4 c5 A8 c9 A12 c13 : _), F = [(2, pt b1)] ∧ St w no w1 [box b1 ([sl A4 (([] : List ByteArray) ++ a0.Names) c5, sl A8 (([] : List Int) ++ a0.Eats) c9, sl A12 (([] : List Int) ++ a0.Foes) c13]) 28, rowC G.cs A4 c5 9 (([] : List ByteArray) ++ a0.Names), rowC (ci .i16) A8 c9 49 (([] : List Int) ++ a0.Eats), rowC (ci .u16) A12 c13 55 (([] : List Int) ++ a0.Foes)] [roC G.cs Aa0_0 ca0_0 a0.Names, roC (ci .i16) Aa0_1 ca0_1 a0.Eats, roC (ci .u16) Aa0_2 ca0_2 a0.Foes, roP pa0 (hv Aa0_0 Aa0_1 Aa0_2 ca0_0 ca0_1 ca0_2 a0)]) ?_ ?_
 refine CJ.drawT [] [0, 5, 6, 11, 12, 17, 18, 19] (.one 1 (.one 2 (.one 3 (.one 4 (.one 7 (.one 8 (.one 9 (.one 10 (.one 13 (.one 14 (.one 15 (.one 16 (.br (.alt 0 (.br (.alt 5 (.br (.alt 6 (.br (.alt 11 (.one 12 (.one 17 (.one 18 (.one 19 (.fin))))) (.alt 12 (.one 11 (.one 17 (.one 18 (.one 19 (.fin))))) (.stop)))) (.alt 12 (.one 6 (.one 11 (.one 17 (.one 18 (.one 19 (.fin)))))) (.stop)))) (.alt 6 (.br (.alt 5 (.br (.alt 11 (.one 12 (.one 17 (.one 18 (.one 19 (.fin))))) (.alt 12 (.one 11 (.one 17 (.one 18 (.one 19 (.fin))))) (.stop)))) (.alt 12 (.one 5 (.one 11 (.one 17 (.one 18 (.one 19 (.fin)))))) (.stop)))) (.alt 12 (.br (.alt 5 (.one 6 (.one 11 (.one 17 (.one 18 (.one 19 (.fin)))))) (.alt 6 (.one 5 (.one 11 (.one 17 (.one 18 (.one 19 (.fin)))))) (.stop)))) (.stop))))) (.alt 6 (.br (.alt 0 (.br (.alt 5 (.br (.alt 11 (.one 12 (.one 17 (.one 18 (.one 19 (.fin))))) (.alt 12 (.one 11 (.one 17 (.one 18 (.one 19 (.fin))))) (.stop)))) (.alt 12 (.one 5 (.one 11 (.one 17 (.one 18 (.one 19 (.fin)))))) (.stop)))) (.alt 12 (.one 0 (.one 5 (.one 11 (.one 17 (.one 18 (.one 19 (.fin))))))) (.stop)))) (.alt 12 (.br (.alt 0 (.br (.alt 5 (.one 6 (.one 11 (.one 17 (.one 18 (.one 19 (.fin)))))) (.alt 6 (.one 5 (.one 11 (.one 17 (.one 18 (.one 19 (.fin)))))) (.stop)))) (.alt 6 (.one 0 (.one 5 (.one 11 (.one 17 (.one 18 (.one 19 (.fin))))))) (.stop)))) (.stop))))))))))))))))) mixed (by kernel_rfl) hS [] fun w1 hS hY hV => ?_
 refine GO ?_
 refine TP (fun _ => SF) ?_
 refine TL hY (fun w2 hY => SL (CA.sub ((hV w2 hY).ca (i := 3) Z) 0)) ?_
 refine GO ?_
 refine TP (fun _ => SF) ?_
 refine TL hY (fun w2 hY => SL (CA.sub ((hV w2 hY).ca (i := 3) Z) 1)) ?_
 refine GO ?_
 refine TP (fun _ => SF) ?_
 refine TL hY (fun w2 hY => SL (CA.sub ((hV w2 hY).ca (i := 3) Z) 2)) ?_
 refine TJ.br ?_
 refine TJ.alt ?_ ?_
 refine TF hY (EL hS G.cs ([] : List ByteArray)) ?_
 rintro _ w1 hY ⟨A14, rfl, hS⟩
 refine TJ.br ?_
 refine TJ.alt ?_ ?_
 refine tW [] 1 4 hY hS (rA hS 0 Z) (chk_some hu3) fun A15 c16 w1 hY (hS : St _ _ _ [_, _] _) => ?_
 refine TJ.br ?_
 refine TJ.alt ?_ ?_
 refine TF hY (EL hS (ci .i16) ([] : List Int)) ?_
 rintro _ w1 hY ⟨A17, rfl, hS⟩
 refine TJ.br ?_
 refine TJ.alt ?_ ?_
 refine tW [] 2 4 hY hS (rA hS 1 Z) (chk_some hu7) fun A18 c19 w1 hY (hS : St _ _ _ [_, _, _] _) => ?_
 refine TF hY (EL hS (ci .u16) ([] : List Int)) ?_
 rintro _ w1 hY ⟨A20, rfl, hS⟩
 refine tW [] 3 4 hY hS (rA hS 2 Z) (chk_some hu11) fun A21 c22 w1 hY (hS : St _ _ _ [_, _, _, _] _) => ?_
 refine TJ.ef hY Z Z Z Z Z ((SR.build' oU oI Z Z Z (zs := [.slice none 0 0, .slice none 0 0, .slice none 0 0]) Z Z Z ([sl A15 (([] : List ByteArray) ++ a0.Names) c16, sl A18 (([] : List Int) ++ a0.Eats) c19, sl A21 (([] : List Int) ++ a0.Foes) c22]) Z).ef) ?_
 rintro _ w1 hY ⟨rfl, hx⟩
 replace hS := hS.grow hx
 have hO := hS
 refine TE (WV (hS.inn []) 0 [sl A15 (([] : List ByteArray) ++ a0.Names) c16, sl A18 (([] : List Int) ++ a0.Eats) c19, sl A21 (([] : List Int) ++ a0.Foes) c22]) (ws hY (hO.inY [] 4 Z Z)) ?_
 intro w1 hY hS
 have hS : St _ _ _ [_, _, _, _] _ := hO.out [] hS
 exact MD H hS
 refine TJ.alt ?_ ?_
 refine TF hY (EL hS (ci .u16) ([] : List Int)) ?_
 rintro _ w1 hY ⟨A23, rfl, hS⟩
 refine tW [] 2 4 hY hS (rA hS 1 Z) (chk_some hu7) fun A24 c25 w1 hY (hS : St _ _ _ [_, _, _, _] _) => ?_
 refine tW [] 3 4 hY hS (rA hS 2 Z) (chk_some hu11) fun A26 c27 w1 hY (hS : St _ _ _ [_, _, _, _] _) => ?_
 refine TJ.ef hY Z Z Z Z Z ((SR.build' oU oI Z Z Z (zs := [.slice none 0 0, .slice none 0 0, .slice none 0 0]) Z Z Z ([sl A15 (([] : List ByteArray) ++ a0.Names) c16, sl A24 (([] : List Int) ++ a0.Eats) c25, sl A26 (([] : List Int) ++ a0.Foes) c27]) Z).ef) ?_
 rintro _ w1 hY ⟨rfl, hx⟩
 replace hS := hS.grow hx
 have hO := hS
 refine TE (WV (hS.inn []) 0 [sl A15 (([] : List ByteArray) ++ a0.Names) c16, sl A24 (([] : List Int) ++ a0.Eats) c25, sl A26 (([] : List Int) ++ a0.Foes) c27]) (ws hY (hO.inY [] 4 Z Z)) ?_
 intro w1 hY hS
 have hS : St _ _ _ [_, _, _, _] _ := hO.out [] hS
 exact MD H hS
 exact TJ.stop
 refine TJ.alt ?_ ?_
 refine TF hY (EL hS (ci .u16) ([] : List Int)) ?_
 rintro _ w1 hY ⟨A28, rfl, hS⟩
 refine TF hY (EL hS (ci .i16) ([] : List Int)) ?_
 rintro _ w1 hY ⟨A29, rfl, hS⟩
 refine tW [] 3 4 hY hS (rA hS 1 Z) (chk_some hu7) fun A30 c31 w1 hY (hS : St _ _ _ [_, _, _, _] _) => ?_
 refine tW [] 2 4 hY hS (rA hS 2 Z) (chk_some hu11) fun A32 c33 w1 hY (hS : St _ _ _ [_, _, _, _] _) => ?_
 refine TJ.ef hY Z Z Z Z Z ((SR.build' oU oI Z Z Z (zs := [.slice none 0 0, .slice none 0 0, .slice none 0 0]) Z Z Z ([sl A15 (([] : List ByteArray) ++ a0.Names) c16, sl A30 (([] : List Int) ++ a0.Eats) c31, sl A32 (([] : List Int) ++ a0.Foes) c33]) Z).ef) ?_
 rintro _ w1 hY ⟨rfl, hx⟩
 replace hS := hS.grow hx
 have hO := hS
 refine TE (WV (hS.inn []) 0 [sl A15 (([] : List ByteArray) ++ a0.Names) c16, sl A30 (([] : List Int) ++ a0.Eats) c31, sl A32 (([] : List Int) ++ a0.Foes) c33]) (ws hY (hO.inY [] 4 Z Z)) ?_
 intro w1 hY hS
 have hS : St _ _ _ [_, _, _, _] _ := hO.out [] hS
 refine GO ?_
 exact MT ⟨A15, c16, A30, c31, A32, c33, Z, hS.pick [0, 1, 3, 2] [0, 1, 2, 3] Z⟩
 exact TJ.stop
 refine TJ.alt ?_ ?_
 refine TF hY (EL hS (ci .i16) ([] : List Int)) ?_
 rintro _ w1 hY ⟨A34, rfl, hS⟩
 refine TJ.br ?_
 refine TJ.alt ?_ ?_
 refine tW [] 1 4 hY hS (rA hS 0 Z) (chk_some hu3) fun A35 c36 w1 hY (hS : St _ _ _ [_, _, _] _) => ?_
 refine TJ.br ?_
 refine TJ.alt ?_ ?_
 refine tW [] 2 4 hY hS (rA hS 1 Z) (chk_some hu7) fun A37 c38 w1 hY (hS : St _ _ _ [_, _, _] _) => ?_
 refine TF hY (EL hS (ci .u16) ([] : List Int)) ?_
 rintro _ w1 hY ⟨A39, rfl, hS⟩
 refine tW [] 3 4 hY hS (rA hS 2 Z) (chk_some hu11) fun A40 c41 w1 hY (hS : St _ _ _ [_, _, _, _] _) => ?_
 refine TJ.ef hY Z Z Z Z Z ((SR.build' oU oI Z Z Z (zs := [.slice none 0 0, .slice none 0 0, .slice none 0 0]) Z Z Z ([sl A35 (([] : List ByteArray) ++ a0.Names) c36, sl A37 (([] : List Int) ++ a0.Eats) c38, sl A40 (([] : List Int) ++ a0.Foes) c41]) Z).ef) ?_
 rintro _ w1 hY ⟨rfl, hx⟩
 replace hS := hS.grow hx
 have hO := hS
 refine TE (WV (hS.inn []) 0 [sl A35 (([] : List ByteArray) ++ a0.Names) c36, sl A37 (([] : List Int) ++ a0.Eats) c38, sl A40 (([] : List Int) ++ a0.Foes) c41]) (ws hY (hO.inY [] 4 Z Z)) ?_
 intro w1 hY hS
 have hS : St _ _ _ [_, _, _, _] _ := hO.out [] hS
 exact MD H hS
 refine TJ.alt ?_ ?_
 refine TF hY (EL hS (ci .u16) ([] : List Int)) ?_
 rintro _ w1 hY ⟨A42, rfl, hS⟩
 refine tW [] 2 4 hY hS (rA hS 1 Z) (chk_some hu7) fun A43 c44 w1 hY (hS : St _ _ _ [_, _, _, _] _) => ?_
 refine tW [] 3 4 hY hS (rA hS 2 Z) (chk_some hu11) fun A45 c46 w1 hY (hS : St _ _ _ [_, _, _, _] _) => ?_
 refine TJ.ef hY Z Z Z Z Z ((SR.build' oU oI Z Z Z (zs := [.slice none 0 0, .slice none 0 0, .slice none 0 0]) Z Z Z ([sl A35 (([] : List ByteArray) ++ a0.Names) c36, sl A43 (([] : List Int) ++ a0.Eats) c44, sl A45 (([] : List Int) ++ a0.Foes) c46]) Z).ef) ?_
 rintro _ w1 hY ⟨rfl, hx⟩
 replace hS := hS.grow hx
 have hO := hS
 refine TE (WV (hS.inn []) 0 [sl A35 (([] : List ByteArray) ++ a0.Names) c36, sl A43 (([] : List Int) ++ a0.Eats) c44, sl A45 (([] : List Int) ++ a0.Foes) c46]) (ws hY (hO.inY [] 4 Z Z)) ?_
 intro w1 hY hS
 have hS : St _ _ _ [_, _, _, _] _ := hO.out [] hS
 exact MD H hS
 exact TJ.stop
 refine TJ.alt ?_ ?_
 refine TF hY (EL hS (ci .u16) ([] : List Int)) ?_
 rintro _ w1 hY ⟨A47, rfl, hS⟩
 refine tW [] 1 4 hY hS (rA hS 0 Z) (chk_some hu3) fun A48 c49 w1 hY (hS : St _ _ _ [_, _, _, _] _) => ?_
 refine tW [] 2 4 hY hS (rA hS 1 Z) (chk_some hu7) fun A50 c51 w1 hY (hS : St _ _ _ [_, _, _, _] _) => ?_
 refine tW [] 3 4 hY hS (rA hS 2 Z) (chk_some hu11) fun A52 c53 w1 hY (hS : St _ _ _ [_, _, _, _] _) => ?_
 refine TJ.ef hY Z Z Z Z Z ((SR.build' oU oI Z Z Z (zs := [.slice none 0 0, .slice none 0 0, .slice none 0 0]) Z Z Z ([sl A48 (([] : List ByteArray) ++ a0.Names) c49, sl A50 (([] : List Int) ++ a0.Eats) c51, sl A52 (([] : List Int) ++ a0.Foes) c53]) Z).ef) ?_
 rintro _ w1 hY ⟨rfl, hx⟩
 replace hS := hS.grow hx
 have hO := hS
 refine TE (WV (hS.inn []) 0 [sl A48 (([] : List ByteArray) ++ a0.Names) c49, sl A50 (([] : List Int) ++ a0.Eats) c51, sl A52 (([] : List Int) ++ a0.Foes) c53]) (ws hY (hO.inY [] 4 Z Z)) ?_
 intro w1 hY hS
 have hS : St _ _ _ [_, _, _, _] _ := hO.out [] hS
 exact MD H hS
 exact TJ.stop
 refine TJ.alt ?_ ?_
 refine TF hY (EL hS (ci .u16) ([] : List Int)) ?_
 rintro _ w1 hY ⟨A54, rfl, hS⟩
 refine TJ.br ?_
 refine TJ.alt ?_ ?_
 refine tW [] 1 4 hY hS (rA hS 0 Z) (chk_some hu3) fun A55 c56 w1 hY (hS : St _ _ _ [_, _, _] _) => ?_
 refine TF hY (EL hS (ci .i16) ([] : List Int)) ?_
 rintro _ w1 hY ⟨A57, rfl, hS⟩
 refine tW [] 3 4 hY hS (rA hS 1 Z) (chk_some hu7) fun A58 c59 w1 hY (hS : St _ _ _ [_, _, _, _] _) => ?_
 refine tW [] 2 4 hY hS (rA hS 2 Z) (chk_some hu11) fun A60 c61 w1 hY (hS : St _ _ _ [_, _, _, _] _) => ?_
 refine TJ.ef hY Z Z Z Z Z ((SR.build' oU oI Z Z Z (zs := [.slice none 0 0, .slice none 0 0, .slice none 0 0]) Z Z Z ([sl A55 (([] : List ByteArray) ++ a0.Names) c56, sl A58 (([] : List Int) ++ a0.Eats) c59, sl A60 (([] : List Int) ++ a0.Foes) c61]) Z).ef) ?_
 rintro _ w1 hY ⟨rfl, hx⟩
 replace hS := hS.grow hx
 have hO := hS
 refine TE (WV (hS.inn []) 0 [sl A55 (([] : List ByteArray) ++ a0.Names) c56, sl A58 (([] : List Int) ++ a0.Eats) c59, sl A60 (([] : List Int) ++ a0.Foes) c61]) (ws hY (hO.inY [] 4 Z Z)) ?_
 intro w1 hY hS
 have hS : St _ _ _ [_, _, _, _] _ := hO.out [] hS
 refine GO ?_
 exact MT ⟨A55, c56, A58, c59, A60, c61, Z, hS.pick [0, 1, 3, 2] [0, 1, 2, 3] Z⟩
 refine TJ.alt ?_ ?_
 refine TF hY (EL hS (ci .i16) ([] : List Int)) ?_
 rintro _ w1 hY ⟨A62, rfl, hS⟩
 refine tW [] 1 4 hY hS (rA hS 0 Z) (chk_some hu3) fun A63 c64 w1 hY (hS : St _ _ _ [_, _, _, _] _) => ?_
 refine tW [] 3 4 hY hS (rA hS 1 Z) (chk_some hu7) fun A65 c66 w1 hY (hS : St _ _ _ [_, _, _, _] _) => ?_
 refine tW [] 2 4 hY hS (rA hS 2 Z) (chk_some hu11) fun A67 c68 w1 hY (hS : St _ _ _ [_, _, _, _] _) => ?_
 refine TJ.ef hY Z Z Z Z Z ((SR.build' oU oI Z Z Z (zs := [.slice none 0 0, .slice none 0 0, .slice none 0 0]) Z Z Z ([sl A63 (([] : List ByteArray) ++ a0.Names) c64, sl A65 (([] : List Int) ++ a0.Eats) c66, sl A67 (([] : List Int) ++ a0.Foes) c68]) Z).ef) ?_
 rintro _ w1 hY ⟨rfl, hx⟩
 replace hS := hS.grow hx
 have hO := hS
 refine TE (WV (hS.inn []) 0 [sl A63 (([] : List ByteArray) ++ a0.Names) c64, sl A65 (([] : List Int) ++ a0.Eats) c66, sl A67 (([] : List Int) ++ a0.Foes) c68]) (ws hY (hO.inY [] 4 Z Z)) ?_
 intro w1 hY hS
 have hS : St _ _ _ [_, _, _, _] _ := hO.out [] hS
 refine GO ?_
 exact MT ⟨A63, c64, A65, c66, A67, c68, Z, hS.pick [0, 1, 3, 2] [0, 1, 2, 3] Z⟩
 exact TJ.stop
 exact TJ.stop
 refine TJ.alt ?_ ?_
 refine TF hY (EL hS (ci .i16) ([] : List Int)) ?_
 rintro _ w1 hY ⟨A69, rfl, hS⟩
 refine TJ.br ?_
 refine TJ.alt ?_ ?_
 refine TF hY (EL hS G.cs ([] : List ByteArray)) ?_
 rintro _ w1 hY ⟨A70, rfl, hS⟩
 refine TJ.br ?_
 refine TJ.alt ?_ ?_
 refine tW [] 2 4 hY hS (rA hS 0 Z) (chk_some hu3) fun A71 c72 w1 hY (hS : St _ _ _ [_, _, _] _) => ?_
 refine TJ.br ?_
 refine TJ.alt ?_ ?_
 refine tW [] 1 4 hY hS (rA hS 1 Z) (chk_some hu7) fun A73 c74 w1 hY (hS : St _ _ _ [_, _, _] _) => ?_
 refine TF hY (EL hS (ci .u16) ([] : List Int)) ?_
 rintro _ w1 hY ⟨A75, rfl, hS⟩
 refine tW [] 3 4 hY hS (rA hS 2 Z) (chk_some hu11) fun A76 c77 w1 hY (hS : St _ _ _ [_, _, _, _] _) => ?_
 refine TJ.ef hY Z Z Z Z Z ((SR.build' oU oI Z Z Z (zs := [.slice none 0 0, .slice none 0 0, .slice none 0 0]) Z Z Z ([sl A71 (([] : List ByteArray) ++ a0.Names) c72, sl A73 (([] : List Int) ++ a0.Eats) c74, sl A76 (([] : List Int) ++ a0.Foes) c77]) Z).ef) ?_
 rintro _ w1 hY ⟨rfl, hx⟩
 replace hS := hS.grow hx
 have hO := hS
 refine TE (WV (hS.inn []) 0 [sl A71 (([] : List ByteArray) ++ a0.Names) c72, sl A73 (([] : List Int) ++ a0.Eats) c74, sl A76 (([] : List Int) ++ a0.Foes) c77]) (ws hY (hO.inY [] 4 Z Z)) ?_
 intro w1 hY hS
 have hS : St _ _ _ [_, _, _, _] _ := hO.out [] hS
 refine GO ?_
 exact MT ⟨A71, c72, A73, c74, A76, c77, Z, hS.pick [0, 2, 1, 3] [0, 1, 2, 3] Z⟩
 refine TJ.alt ?_ ?_
 refine TF hY (EL hS (ci .u16) ([] : List Int)) ?_
 rintro _ w1 hY ⟨A78, rfl, hS⟩
 refine tW [] 1 4 hY hS (rA hS 1 Z) (chk_some hu7) fun A79 c80 w1 hY (hS : St _ _ _ [_, _, _, _] _) => ?_
 refine tW [] 3 4 hY hS (rA hS 2 Z) (chk_some hu11) fun A81 c82 w1 hY (hS : St _ _ _ [_, _, _, _] _) => ?_
 refine TJ.ef hY Z Z Z Z Z ((SR.build' oU oI Z Z Z (zs := [.slice none 0 0, .slice none 0 0, .slice none 0 0]) Z Z Z ([sl A71 (([] : List ByteArray) ++ a0.Names) c72, sl A79 (([] : List Int) ++ a0.Eats) c80, sl A81 (([] : List Int) ++ a0.Foes) c82]) Z).ef) ?_
 rintro _ w1 hY ⟨rfl, hx⟩
 replace hS := hS.grow hx
 have hO := hS
 refine TE (WV (hS.inn []) 0 [sl A71 (([] : List ByteArray) ++ a0.Names) c72, sl A79 (([] : List Int) ++ a0.Eats) c80, sl A81 (([] : List Int) ++ a0.Foes) c82]) (ws hY (hO.inY [] 4 Z Z)) ?_
 intro w1 hY hS
 have hS : St _ _ _ [_, _, _, _] _ := hO.out [] hS
 refine GO ?_
 exact MT ⟨A71, c72, A79, c80, A81, c82, Z, hS.pick [0, 2, 1, 3] [0, 1, 2, 3] Z⟩
 exact TJ.stop
 refine TJ.alt ?_ ?_
 refine TF hY (EL hS (ci .u16) ([] : List Int)) ?_
 rintro _ w1 hY ⟨A83, rfl, hS⟩
 refine tW [] 2 4 hY hS (rA hS 0 Z) (chk_some hu3) fun A84 c85 w1 hY (hS : St _ _ _ [_, _, _, _] _) => ?_
 refine tW [] 1 4 hY hS (rA hS 1 Z) (chk_some hu7) fun A86 c87 w1 hY (hS : St _ _ _ [_, _, _, _] _) => ?_
 refine tW [] 3 4 hY hS (rA hS 2 Z) (chk_some hu11) fun A88 c89 w1 hY (hS : St _ _ _ [_, _, _, _] _) => ?_
 refine TJ.ef hY Z Z Z Z Z ((SR.build' oU oI Z Z Z (zs := [.slice none 0 0, .slice none 0 0, .slice none 0 0]) Z Z Z ([sl A84 (([] : List ByteArray) ++ a0.Names) c85, sl A86 (([] : List Int) ++ a0.Eats) c87, sl A88 (([] : List Int) ++ a0.Foes) c89]) Z).ef) ?_
 rintro _ w1 hY ⟨rfl, hx⟩
 replace hS := hS.grow hx
 have hO := hS
 refine TE (WV (hS.inn []) 0 [sl A84 (([] : List ByteArray) ++ a0.Names) c85, sl A86 (([] : List Int) ++ a0.Eats) c87, sl A88 (([] : List Int) ++ a0.Foes) c89]) (ws hY (hO.inY [] 4 Z Z)) ?_
 intro w1 hY hS
 have hS : St _ _ _ [_, _, _, _] _ := hO.out [] hS
 refine GO ?_
 exact MT ⟨A84, c85, A86, c87, A88, c89, Z, hS.pick [0, 2, 1, 3] [0, 1, 2, 3] Z⟩
 exact TJ.stop
 refine TJ.alt ?_ ?_
 refine TF hY (EL hS (ci .u16) ([] : List Int)) ?_
 rintro _ w1 hY ⟨A90, rfl, hS⟩
 refine TF hY (EL hS G.cs ([] : List ByteArray)) ?_
 rintro _ w1 hY ⟨A91, rfl, hS⟩
 refine tW [] 3 4 hY hS (rA hS 0 Z) (chk_some hu3) fun A92 c93 w1 hY (hS : St _ _ _ [_, _, _, _] _) => ?_
 refine tW [] 1 4 hY hS (rA hS 1 Z) (chk_some hu7) fun A94 c95 w1 hY (hS : St _ _ _ [_, _, _, _] _) => ?_
 refine tW [] 2 4 hY hS (rA hS 2 Z) (chk_some hu11) fun A96 c97 w1 hY (hS : St _ _ _ [_, _, _, _] _) => ?_
 refine TJ.ef hY Z Z Z Z Z ((SR.build' oU oI Z Z Z (zs := [.slice none 0 0, .slice none 0 0, .slice none 0 0]) Z Z Z ([sl A92 (([] : List ByteArray) ++ a0.Names) c93, sl A94 (([] : List Int) ++ a0.Eats) c95, sl A96 (([] : List Int) ++ a0.Foes) c97]) Z).ef) ?_
 rintro _ w1 hY ⟨rfl, hx⟩
 replace hS := hS.grow hx
 have hO := hS
 refine TE (WV (hS.inn []) 0 [sl A92 (([] : List ByteArray) ++ a0.Names) c93, sl A94 (([] : List Int) ++ a0.Eats) c95, sl A96 (([] : List Int) ++ a0.Foes) c97]) (ws hY (hO.inY [] 4 Z Z)) ?_
 intro w1 hY hS
 have hS : St _ _ _ [_, _, _, _] _ := hO.out [] hS
 refine GO ?_
 exact MT ⟨A92, c93, A94, c95, A96, c97, Z, hS.pick [0, 3, 1, 2] [0, 1, 2, 3] Z⟩
 exact TJ.stop
 refine TJ.alt ?_ ?_
 refine TF hY (EL hS (ci .u16) ([] : List Int)) ?_
 rintro _ w1 hY ⟨A98, rfl, hS⟩
 refine TJ.br ?_
 refine TJ.alt ?_ ?_
 refine TF hY (EL hS G.cs ([] : List ByteArray)) ?_
 rintro _ w1 hY ⟨A99, rfl, hS⟩
 refine TJ.br ?_
 refine TJ.alt ?_ ?_
 refine tW [] 2 4 hY hS (rA hS 0 Z) (chk_some hu3) fun A100 c101 w1 hY (hS : St _ _ _ [_, _, _] _) => ?_
 refine TF hY (EL hS (ci .i16) ([] : List Int)) ?_
 rintro _ w1 hY ⟨A102, rfl, hS⟩
 refine tW [] 3 4 hY hS (rA hS 1 Z) (chk_some hu7) fun A103 c104 w1 hY (hS : St _ _ _ [_, _, _, _] _) => ?_
 refine tW [] 1 4 hY hS (rA hS 2 Z) (chk_some hu11) fun A105 c106 w1 hY (hS : St _ _ _ [_, _, _, _] _) => ?_
 refine TJ.ef hY Z Z Z Z Z ((SR.build' oU oI Z Z Z (zs := [.slice none 0 0, .slice none 0 0, .slice none 0 0]) Z Z Z ([sl A100 (([] : List ByteArray) ++ a0.Names) c101, sl A103 (([] : List Int) ++ a0.Eats) c104, sl A105 (([] : List Int) ++ a0.Foes) c106]) Z).ef) ?_
 rintro _ w1 hY ⟨rfl, hx⟩
 replace hS := hS.grow hx
 have hO := hS
 refine TE (WV (hS.inn []) 0 [sl A100 (([] : List ByteArray) ++ a0.Names) c101, sl A103 (([] : List Int) ++ a0.Eats) c104, sl A105 (([] : List Int) ++ a0.Foes) c106]) (ws hY (hO.inY [] 4 Z Z)) ?_
 intro w1 hY hS
 have hS : St _ _ _ [_, _, _, _] _ := hO.out [] hS
 refine GO ?_
 exact MT ⟨A100, c101, A103, c104, A105, c106, Z, hS.pick [0, 2, 3, 1] [0, 1, 2, 3] Z⟩
 refine TJ.alt ?_ ?_
 refine TF hY (EL hS (ci .i16) ([] : List Int)) ?_
 rintro _ w1 hY ⟨A107, rfl, hS⟩
 refine tW [] 2 4 hY hS (rA hS 0 Z) (chk_some hu3) fun A108 c109 w1 hY (hS : St _ _ _ [_, _, _, _] _) => ?_
 refine tW [] 3 4 hY hS (rA hS 1 Z) (chk_some hu7) fun A110 c111 w1 hY (hS : St _ _ _ [_, _, _, _] _) => ?_
 refine tW [] 1 4 hY hS (rA hS 2 Z) (chk_some hu11) fun A112 c113 w1 hY (hS : St _ _ _ [_, _, _, _] _) => ?_
 refine TJ.ef hY Z Z Z Z Z ((SR.build' oU oI Z Z Z (zs := [.slice none 0 0, .slice none 0 0, .slice none 0 0]) Z Z Z ([sl A108 (([] : List ByteArray) ++ a0.Names) c109, sl A110 (([] : List Int) ++ a0.Eats) c111, sl A112 (([] : List Int) ++ a0.Foes) c113]) Z).ef) ?_
 rintro _ w1 hY ⟨rfl, hx⟩
 replace hS := hS.grow hx
 have hO := hS
 refine TE (WV (hS.inn []) 0 [sl A108 (([] : List ByteArray) ++ a0.Names) c109, sl A110 (([] : List Int) ++ a0.Eats) c111, sl A112 (([] : List Int) ++ a0.Foes) c113]) (ws hY (hO.inY [] 4 Z Z)) ?_
 intro w1 hY hS
 have hS : St _ _ _ [_, _, _, _] _ := hO.out [] hS
 refine GO ?_
 exact MT ⟨A108, c109, A110, c111, A112, c113, Z, hS.pick [0, 2, 3, 1] [0, 1, 2, 3] Z⟩
 exact TJ.stop
 refine TJ.alt ?_ ?_
 refine TF hY (EL hS (ci .i16) ([] : List Int)) ?_
 rintro _ w1 hY ⟨A114, rfl, hS⟩
 refine TF hY (EL hS G.cs ([] : List ByteArray)) ?_
 rintro _ w1 hY ⟨A115, rfl, hS⟩
 refine tW [] 3 4 hY hS (rA hS 0 Z) (chk_some hu3) fun A116 c117 w1 hY (hS : St _ _ _ [_, _, _, _] _) => ?_
 refine tW [] 2 4 hY hS (rA hS 1 Z) (chk_some hu7) fun A118 c119 w1 hY (hS : St _ _ _ [_, _, _, _] _) => ?_
 refine tW [] 1 4 hY hS (rA hS 2 Z) (chk_some hu11) fun A120 c121 w1 hY (hS : St _ _ _ [_, _, _, _] _) => ?_
 refine TJ.ef hY Z Z Z Z Z ((SR.build' oU oI Z Z Z (zs := [.slice none 0 0, .slice none 0 0, .slice none 0 0]) Z Z Z ([sl A116 (([] : List ByteArray) ++ a0.Names) c117, sl A118 (([] : List Int) ++ a0.Eats) c119, sl A120 (([] : List Int) ++ a0.Foes) c121]) Z).ef) ?_
 rintro _ w1 hY ⟨rfl, hx⟩
 replace hS := hS.grow hx
 have hO := hS
 refine TE (WV (hS.inn []) 0 [sl A116 (([] : List ByteArray) ++ a0.Names) c117, sl A118 (([] : List Int) ++ a0.Eats) c119, sl A120 (([] : List Int) ++ a0.Foes) c121]) (ws hY (hO.inY [] 4 Z Z)) ?_
 intro w1 hY hS
 have hS : St _ _ _ [_, _, _, _] _ := hO.out [] hS
 refine GO ?_
 exact MT ⟨A116, c117, A118, c119, A120, c121, Z, hS.pick [0, 3, 2, 1] [0, 1, 2, 3] Z⟩
 exact TJ.stop
 exact TJ.stop
 rintro F w1 ⟨A4, c5, A8, c9, A12, c13, rfl, hS⟩
 refine EJ.next ?_
 refine GO ?_
 obtain rfl := Option.some.inj H
 exact EJ.fin Z (.cell Z (ldN oU oI Z Z Z (hS.cells (i := 0) Z) (ds := [sl A4 (([] : List ByteArray) ++ a0.Names) c5, sl A8 (([] : List Int) ++ a0.Eats) c9, sl A12 (([] : List Int) ++ a0.Foes) c13]) Z Z) .nil) ⟨A4, c5, A8, c9, A12, c13, Z, hS.pick [1, 2, 3] [] Z⟩

def spec_JoinHerds.l1 (a0 : Herd) (a1 : Herd) : Nat → Int → Option ((Herd × Int) ⊕ Unit)
  | 0, _ => none
  | k + 1, y7 => if y7 < (a1.Names.length : Int) then ((getI a1.Names y7).bind fun t8 => (spec_l06Named.f k a0 t8).bind fun t9 => if t9 = true then (some (Sum.inl ((⟨[], [], []⟩ : Herd), 4))) else (spec_JoinHerds.l1 a0 a1 k (IntKind.i64.wrap (y7 + 1)))) else (some (Sum.inr ()))
def spec_JoinHerds.l2 (a0 : Herd) (a1 : Herd) : Nat → (List ByteArray) → (List Int) → (List Int) → Int → Option ((List ByteArray) × (List Int) × (List Int))
  | 0, _, _, _, _ => none
  | k + 1, y27, y30, y33, y36 => if y36 < (a1.Names.length : Int) then ((getI a1.Names y36).bind fun t37 => (chk (y27.length + ([t37] : List ByteArray).length ≤ 4294967296)).bind fun u39 => (getI a1.Eats y36).bind fun t42 => (chk (y30.length + ([t42] : List Int).length ≤ 4294967296)).bind fun u44 => (getI a1.Foes y36).bind fun t47 => (chk (0 ≤ (IntKind.u64.wrap (a0.Names.length : Int)))).bind fun u48 => (chk (y33.length + ([shlI .u16 t47 (IntKind.u64.wrap (a0.Names.length : Int))] : List Int).length ≤ 4294967296)).bind fun u50 => spec_JoinHerds.l2 a0 a1 k (y27 ++ ([t37] : List ByteArray)) (y30 ++ ([t42] : List Int)) (y33 ++ ([shlI .u16 t47 (IntKind.u64.wrap (a0.Names.length : Int))] : List Int)) (IntKind.i64.wrap (y36 + 1))) else (some (y27, y30, y33))
def spec_JoinHerds.f (k : Nat) (a0 : Herd) (a1 : Herd) : Option (Herd × Int) := ((spec_l06Ok.f k a0).bind fun t5 => if (!t5) = true then (some true) else ((spec_l06Ok.f k a1).bind fun t6 => some (!t6))).bind fun y4 => if y4 = true then (some ((⟨[], [], []⟩ : Herd), 1)) else ((spec_JoinHerds.l1 a0 a1 k 0).bind fun s254 => match s254 with | .inl r => some r | .inr _ => if 14 < (IntKind.i64.wrap ((a0.Names.length : Int) + (a1.Names.length : Int))) then (some ((⟨[], [], []⟩ : Herd), 3)) else ((spec_l06Own.f a0).bind fun t10 => (spec_JoinHerds.l2 a0 a1 k t10.Names t10.Eats t10.Foes 0).bind fun (y18, y21, y24) => some ((⟨y18, y21, y24⟩ : Herd), 0)))
theorem spec_JoinHerds.c {k w Aa0_0 ca0_0 Aa0_1 ca0_1 Aa0_2 ca0_2} (a0 : Herd) (hr0_0 : Rd G.cs w Aa0_0 a0.Names) (hc0_0 : a0.Names.length ≤ ca0_0) (hr0_1 : Rd (ci .i16) w Aa0_1 a0.Eats) (hc0_1 : a0.Eats.length ≤ ca0_1) (hr0_2 : Rd (ci .u16) w Aa0_2 a0.Foes) (hc0_2 : a0.Foes.length ≤ ca0_2) {Aa1_0 ca1_0 Aa1_1 ca1_1 Aa1_2 ca1_2} (a1 : Herd) (hr1_0 : Rd G.cs w Aa1_0 a1.Names) (hc1_0 : a1.Names.length ≤ ca1_0) (hr1_1 : Rd (ci .i16) w Aa1_1 a1.Eats) (hc1_1 : a1.Eats.length ≤ ca1_1) (hr1_2 : Rd (ci .u16) w Aa1_2 a1.Foes) (hc1_2 : a1.Foes.length ≤ ca1_2) (r : Herd × Int) (H : spec_JoinHerds.f k a0 a1 = some r) :
 CV Tryz.prog 21 [.agg (hv Aa0_0 Aa0_1 Aa0_2 ca0_0 ca0_1 ca0_2 a0).toArray, .agg (hv Aa1_0 Aa1_1 Aa1_2 ca1_0 ca1_1 ca1_2 a1).toArray].toArray w fun v w' => ∃ (A0_0 : Option Addr) (c0_0 : Nat) (A0_1 : Option Addr) (c0_1 : Nat) (A0_2 : Option Addr) (c0_2 : Nat), v = .tuple #[.agg (hv A0_0 A0_1 A0_2 c0_0 c0_1 c0_2 r.1).toArray, .int .i64 r.2] ∧ St w no w' [rowC G.cs A0_0 c0_0 9 r.1.Names, rowC (ci .i16) A0_1 c0_1 49 r.1.Eats, rowC (ci .u16) A0_2 c0_2 55 r.1.Foes] [] := by
 have hS := (((((((St.init w no).param G.cs Aa0_0 ca0_0 a0.Names hr0_0 hc0_0).param (ci .i16) Aa0_1 ca0_1 a0.Eats hr0_1 hc0_1).param (ci .u16) Aa0_2 ca0_2 a0.Foes hr0_2 hc0_2).param G.cs Aa1_0 ca1_0 a1.Names hr1_0 hc1_0).param (ci .i16) Aa1_1 ca1_1 a1.Eats hr1_1 hc1_1).param (ci .u16) Aa1_2 ca1_2 a1.Foes hr1_2 hc1_2)
 unfold spec_JoinHerds.f at H
 refine CV.body Tryz.func21 Z Tryz.ntmps21 Z ?_
 refine GO ?_
 refine OF (EB hS (hv Aa0_0 Aa0_1 Aa0_2 ca0_0 ca0_1 ca0_2 a0)) ?_
 rintro _ w1 ⟨b1, rfl, hS⟩
 refine OF (EB hS (hv Aa1_0 Aa1_1 Aa1_2 ca1_0 ca1_1 ca1_2 a1)) ?_
 rintro _ w1 ⟨b2, rfl, hS⟩
 refine OF (EA hS ([.slice none 0 0, .slice none 0 0, .slice none 0 0])) ?_
 rintro _ w1 ⟨b3, rfl, hS⟩
 refine PX 1 ?_
 refine CJ.seq ?_
 obtain ⟨j253, H, K253⟩ := pbind H
 refine CJ.cut (fun F w1 => ∃ y4, some y4 = some j253 ∧ F = [(2, pt b1), (3, pt b2), (4, pt b3), (14, .bool y4)] ∧ St w no w1 [box b1 (hv Aa0_0 Aa0_1 Aa0_2 ca0_0 ca0_1 ca0_2 a0) 28, box b2 (hv Aa1_0 Aa1_1 Aa1_2 ca1_0 ca1_1 ca1_2 a1) 28, box b3 ([.slice none 0 0, .slice none 0 0, .slice none 0 0]) 28] [roC G.cs Aa0_0 ca0_0 a0.Names, roC (ci .i16) Aa0_1 ca0_1 a0.Eats, roC (ci .u16) Aa0_2 ca0_2 a0.Foes, roC G.cs Aa1_0 ca1_0 a1.Names, roC (ci .i16) Aa1_1 ca1_1 a1.Eats, roC (ci .u16) Aa1_2 ca1_2 a1.Foes]) ?_ ?_
 refine GO ?_
 refine oB H hS hb47 (spec_l06Ok.c a0 (rA hS 0 Z) (rB hS 0 Z) (rA hS 1 Z) (rB hS 1 Z) (rA hS 2 Z) (rB hS 2 Z) ⟨b1, 0, none⟩ (hS.cells (i := 0) Z)) fun t5 w1 H hS => ?_
 refine OJ.split (t := 11) Z (fun hb => ?_) (fun hb => ?_)
 replace H := pif_t hb H
 exact MD H hS
 replace H := pifb_f hb H
 refine OB H hS hb47 (spec_l06Ok.c a1 (rA hS 3 Z) (rB hS 3 Z) (rA hS 4 Z) (rB hS 4 Z) (rA hS 5 Z) (rB hS 5 Z) ⟨b2, 0, none⟩ (hS.cells (i := 1) Z)) fun t6 w1 H hS => ?_
 exact MD H hS
 rintro F w1 ⟨y4, he, rfl, hS⟩
 obtain rfl := Option.some.inj he
 have H := K253
 refine CB H (fun H => GO ?_) (fun H => ?_)
 refine OJ.st Z Z Z (SR.build' oU oI Z Z Z (zs := [.slice none 0 0, .slice none 0 0, .slice none 0 0]) Z Z Z ([.slice none 0 0, .slice none 0 0, .slice none 0 0]) Z) ?_
 refine oE (WV hS 2 [.slice none 0 0, .slice none 0 0, .slice none 0 0]) fun w1 hS => ?_
 replace hS := hS.addNil G.cs 9 none
 replace hS := hS.addNil (ci .i16) 49 none
 replace hS := hS.addNil (ci .u16) 55 none
 obtain rfl := Option.some.inj H
 exact EJ.fin Z (.cell Z (ldN oU oI Z Z Z (hS.cells (i := 2) Z) (ds := [.slice none 0 0, .slice none 0 0, .slice none 0 0]) Z Z) (.tmp Z .nil)) ⟨none, 0, none, 0, none, 0, Z, hS.pick [3, 4, 5] [] Z⟩
 refine GO ?_
 obtain ⟨j254, H, K254⟩ := pbind H
 refine CJ.cut1 (fun F w1 => some j254 = some (Sum.inr ()) ∧ F = [(2, pt b1), (3, pt b2), (4, pt b3)] ∧ St w no w1 [box b1 (hv Aa0_0 Aa0_1 Aa0_2 ca0_0 ca0_1 ca0_2 a0) 28, box b2 (hv Aa1_0 Aa1_1 Aa1_2 ca1_0 ca1_1 ca1_2 a1) 28, box b3 ([.slice none 0 0, .slice none 0 0, .slice none 0 0]) 28] [roC G.cs Aa0_0 ca0_0 a0.Names, roC (ci .i16) Aa0_1 ca0_1 a0.Eats, roC (ci .u16) Aa0_2 ca0_2 a0.Foes, roC G.cs Aa1_0 ca1_0 a1.Names, roC (ci .i16) Aa1_1 ca1_1 a1.Eats, roC (ci .u16) Aa1_2 ca1_2 a1.Foes]) ?_ ?_
 refine CJ.block ?_
 refine LQ (fun k F w1 => ∃ (y7 : Int), F = [(2, pt b1), (3, pt b2), (4, pt b3), (6, i6 y7)] ∧ St w no w1 [box b1 (hv Aa0_0 Aa0_1 Aa0_2 ca0_0 ca0_1 ca0_2 a0) 28, box b2 (hv Aa1_0 Aa1_1 Aa1_2 ca1_0 ca1_1 ca1_2 a1) 28, box b3 ([.slice none 0 0, .slice none 0 0, .slice none 0 0]) 28] [roC G.cs Aa0_0 ca0_0 a0.Names, roC (ci .i16) Aa0_1 ca0_1 a0.Eats, roC (ci .u16) Aa0_2 ca0_2 a0.Foes, roC G.cs Aa1_0 ca1_0 a1.Names, roC (ci .i16) Aa1_1 ca1_1 a1.Eats, roC (ci .u16) Aa1_2 ca1_2 a1.Foes] ∧ spec_JoinHerds.l1 a0 a1 k y7 = some j254) k H hS ?_
 rintro k F w1 ⟨y7, rfl, hS, H⟩
 rw [spec_JoinHerds.l1] at H
 refine GO ?_
 refine oS (SL (cf hS 1 0)) ?_
 refine CP H (fun H => GO ?_) (fun H => ?_)
 refine CJ.block ?_
 refine GO ?_
 refine oS (SL (cf hS 1 0)) ?_
 refine xI H (rA hS 3 Z) fun t8 ad8 ht8 H => ?_
 refine oB H hS hb66 (spec_l06Named.c a0 (rA hS 0 Z) (rB hS 0 Z) (rA hS 1 Z) (rB hS 1 Z) (rA hS 2 Z) (rB hS 2 Z) ⟨b1, 0, none⟩ (hS.cells (i := 0) Z)) fun t9 w1 H hS => ?_
 refine CB H (fun H => GO ?_) (fun H => ?_)
 refine OJ.st Z Z Z (SR.build' oU oI Z Z Z (zs := [.slice none 0 0, .slice none 0 0, .slice none 0 0]) Z Z Z ([.slice none 0 0, .slice none 0 0, .slice none 0 0]) Z) ?_
 refine oE (WV hS 2 [.slice none 0 0, .slice none 0 0, .slice none 0 0]) fun w1 hS => ?_
 obtain rfl := Option.some.inj H; have H := K254
 replace hS := hS.addNil G.cs 9 none
 replace hS := hS.addNil (ci .i16) 49 none
 replace hS := hS.addNil (ci .u16) 55 none
 obtain rfl := Option.some.inj H
 exact EJ.fin Z (.cell Z (ldN oU oI Z Z Z (hS.cells (i := 2) Z) (ds := [.slice none 0 0, .slice none 0 0, .slice none 0 0]) Z Z) (.tmp Z .nil)) ⟨none, 0, none, 0, none, 0, Z, hS.pick [3, 4, 5] [] Z⟩
 exact MD H hS
 exact MD H hS
 rintro F w1 ⟨⟨⟩, rfl, hS⟩
 have H := K254
 refine EJ.next ?_
 refine GO ?_
 refine oS (SL (cf hS 0 0)) ?_
 refine oS (SL (cf hS 1 0)) ?_
 refine CP H (fun H => GO ?_) (fun H => ?_)
 refine OJ.st Z Z Z (SR.build' oU oI Z Z Z (zs := [.slice none 0 0, .slice none 0 0, .slice none 0 0]) Z Z Z ([.slice none 0 0, .slice none 0 0, .slice none 0 0]) Z) ?_
 refine oE (WV hS 2 [.slice none 0 0, .slice none 0 0, .slice none 0 0]) fun w1 hS => ?_
 replace hS := hS.addNil G.cs 9 none
 replace hS := hS.addNil (ci .i16) 49 none
 replace hS := hS.addNil (ci .u16) 55 none
 obtain rfl := Option.some.inj H
 exact EJ.fin Z (.cell Z (ldN oU oI Z Z Z (hS.cells (i := 2) Z) (ds := [.slice none 0 0, .slice none 0 0, .slice none 0 0]) Z Z) (.tmp Z .nil)) ⟨none, 0, none, 0, none, 0, Z, hS.pick [3, 4, 5] [] Z⟩
 refine GO ?_
 obtain ⟨t10, ht10, H⟩ := pbind H
 refine OC hb67 (spec_l06Own.c a0 (rA hS 0 Z) (rB hS 0 Z) (rA hS 1 Z) (rB hS 1 Z) (rA hS 2 Z) (rB hS 2 Z) ⟨b1, 0, none⟩ (hS.cells (i := 0) Z) _ ht10) ?_
 rintro _ w1 ⟨A11, c12, A13, c14, A15, c16, rfl, hs⟩
 replace hS := hS.addN hs
 have hS : St _ _ _ [_, _, _, _, _, _] _ := hS
 refine OF (EA hS ([.slice none 0 0, .slice none 0 0, .slice none 0 0])) ?_
 rintro _ w1 ⟨b17, rfl, hS⟩
 refine oE (WV hS 6 [sl A11 t10.Names c12, sl A13 t10.Eats c14, sl A15 t10.Foes c16]) fun w1 hS => ?_
 obtain ⟨j256, H, K256⟩ := pbind H
 refine CJ.cut1 (fun F w1 => ∃ y18 y21 y24 A19 c20 A22 c23 A25 c26, some j256 = some (y18, y21, y24) ∧ F = [(4, pt b3), (7, pt b17)] ∧ St w no w1 [box b3 ([.slice none 0 0, .slice none 0 0, .slice none 0 0]) 28, rowC G.cs A19 c20 9 y18, rowC (ci .i16) A22 c23 49 y21, rowC (ci .u16) A25 c26 55 y24, box b17 ([sl A19 y18 c20, sl A22 y21 c23, sl A25 y24 c26]) 28] [roC G.cs Aa0_0 ca0_0 a0.Names, roC (ci .i16) Aa0_1 ca0_1 a0.Eats, roC (ci .u16) Aa0_2 ca0_2 a0.Foes, roC G.cs Aa1_0 ca1_0 a1.Names, roC (ci .i16) Aa1_1 ca1_1 a1.Eats, roC (ci .u16) Aa1_2 ca1_2 a1.Foes]) ?_ ?_
 refine CJ.block ?_
 refine LQ (fun k F w1 => ∃ (y27 : List ByteArray) (y30 : List Int) (y33 : List Int) (y36 : Int) (A28 c29 A31 c32 A34 c35 : _), F = [(2, pt b1), (3, pt b2), (4, pt b3), (7, pt b17), (8, i6 y36)] ∧ St w no w1 [box b1 (hv Aa0_0 Aa0_1 Aa0_2 ca0_0 ca0_1 ca0_2 a0) 28, box b2 (hv Aa1_0 Aa1_1 Aa1_2 ca1_0 ca1_1 ca1_2 a1) 28, box b3 ([.slice none 0 0, .slice none 0 0, .slice none 0 0]) 28, rowC G.cs A28 c29 9 y27, rowC (ci .i16) A31 c32 49 y30, rowC (ci .u16) A34 c35 55 y33, box b17 ([sl A28 y27 c29, sl A31 y30 c32, sl A34 y33 c35]) 28] [roC G.cs Aa0_0 ca0_0 a0.Names, roC (ci .i16) Aa0_1 ca0_1 a0.Eats, roC (ci .u16) Aa0_2 ca0_2 a0.Foes, roC G.cs Aa1_0 ca1_0 a1.Names, roC (ci .i16) Aa1_1 ca1_1 a1.Eats, roC (ci .u16) Aa1_2 ca1_2 a1.Foes] ∧ spec_JoinHerds.l2 a0 a1 k y27 y30 y33 y36 = some j256) k H hS ?_
 rintro k F w1 ⟨y27, y30, y33, y36, A28, c29, A31, c32, A34, c35, rfl, hS, H⟩
 rw [spec_JoinHerds.l2] at H
 refine GO ?_
 refine oS (SL (cf hS 1 0)) ?_
 refine CP H (fun H => GO ?_) (fun H => ?_)
 refine CJ.block ?_
 refine GO ?_
 refine CJ.draw [] [0, 1, 2, 3, 4, 5, 6, 7, 8, 9, 10] mixed (by kernel_rfl) hS fun w1 hS => ?_
 refine GO ?_
 refine dS (SL (cf hS 6 0)) ?_
 refine dS (SL (cf hS 1 0)) ?_
 obtain ⟨t37, ht37, H⟩ := pbind H
 obtain ⟨ad37, e37⟩ := (rA hS 3 Z).some' ht37
 refine DS (SI e37 (getI_some ht37).1) ?_
 refine DS (SL ((rA hS 3 Z).at_ e37 ht37)) ?_
 refine DF (EL hS G.cs ([t37] : List ByteArray)) ?_
 rintro _ w1 ⟨A38, rfl, hS⟩
 obtain ⟨u39, hu39, H⟩ := pbind H
 refine DW (AP hS 3 (rC hS 7 Z) (chk_some hu39)) ?_
 rintro _ w1 ⟨A40, c41, rfl, hS⟩
 refine GO ?_
 refine dE (WS hS 6 [sl A40 (y27 ++ ([t37] : List ByteArray)) c41] [sl A40 (y27 ++ ([t37] : List ByteArray)) c41, sl A31 y30 c32, sl A34 y33 c35]) fun w1 hS => ?_
 refine CJ.draw [] [0, 1, 2, 3, 4, 5, 6, 7, 8, 9, 10] mixed (by kernel_rfl) hS fun w1 hS => ?_
 refine GO ?_
 refine dS (SL (cf hS 6 1)) ?_
 refine dS (SL (cf hS 1 1)) ?_
 obtain ⟨t42, ht42, H⟩ := pbind H
 obtain ⟨ad42, e42⟩ := (rA hS 4 Z).some' ht42
 refine DS (SI e42 (getI_some ht42).1) ?_
 refine DS (SL ((rA hS 4 Z).at_ e42 ht42)) ?_
 refine DF (EL hS (ci .i16) ([t42] : List Int)) ?_
 rintro _ w1 ⟨A43, rfl, hS⟩
 obtain ⟨u44, hu44, H⟩ := pbind H
 refine DW (AP hS 4 (rC hS 8 Z) (chk_some hu44)) ?_
 rintro _ w1 ⟨A45, c46, rfl, hS⟩
 refine GO ?_
 refine dE (WS hS 6 [sl A45 (y30 ++ ([t42] : List Int)) c46] [sl A40 (y27 ++ ([t37] : List ByteArray)) c41, sl A45 (y30 ++ ([t42] : List Int)) c46, sl A34 y33 c35]) fun w1 hS => ?_
 refine CJ.draw [] [0, 1, 2, 3, 4, 5, 6, 7, 8, 9, 10, 11, 12, 13, 14, 15] mixed (by kernel_rfl) hS fun w1 hS => ?_
 refine GO ?_
 refine dS (SL (cf hS 6 2)) ?_
 refine dS (SL (cf hS 1 2)) ?_
 refine xD H (rA hS 5 Z) fun t47 ad47 ht47 H => ?_
 refine dS (SL (cf hS 0 0)) ?_
 obtain ⟨u48, hu48, H⟩ := pbind H
 refine DJ.st Z Z Z Z Z (SR.shl Z Z Z (chk_some hu48)) ?_
 refine DF (EL hS (ci .u16) ([shlI .u16 t47 (IntKind.u64.wrap (a0.Names.length : Int))] : List Int)) ?_
 rintro _ w1 ⟨A49, rfl, hS⟩
 obtain ⟨u50, hu50, H⟩ := pbind H
 refine DW (AP hS 5 (rC hS 9 Z) (chk_some hu50)) ?_
 rintro _ w1 ⟨A51, c52, rfl, hS⟩
 refine GO ?_
 refine DE (WS hS 6 [sl A51 (y33 ++ ([shlI .u16 t47 (IntKind.u64.wrap (a0.Names.length : Int))] : List Int)) c52] [sl A40 (y27 ++ ([t37] : List ByteArray)) c41, sl A45 (y30 ++ ([t42] : List Int)) c46, sl A51 (y33 ++ ([shlI .u16 t47 (IntKind.u64.wrap (a0.Names.length : Int))] : List Int)) c52]) fun w1 hS => ?_
 exact MD H hS
 exact MD H hS
 rintro F w1 ⟨y18, y21, y24, A19, c20, A22, c23, A25, c26, ⟨⟩, rfl, hS⟩
 have H := K256
 refine EJ.next ?_
 refine GO ?_
 refine OS (SN [sl A19 y18 c20, sl A22 y21 c23, sl A25 y24 c26] (ce hS 4)) ?_
 refine oE (WV hS 0 [sl A19 y18 c20, sl A22 y21 c23, sl A25 y24 c26]) fun w1 hS => ?_
 obtain rfl := Option.some.inj H
 exact EJ.fin Z (.cell Z (ldN oU oI Z Z Z (hS.cells (i := 0) Z) (ds := [sl A19 y18 c20, sl A22 y21 c23, sl A25 y24 c26]) Z Z) (.tmp Z .nil)) ⟨A19, c20, A22, c23, A25, c26, Z, hS.pick [1, 2, 3] [] Z⟩
end Go.Proofs.YtplfdbfdalaefaaGreatDoor
