/-
  What the functions come to.
-/
import Derived.Test.YtnnclbomoeigcaaDoorGP1
namespace Go.Proofs.YtnnclbomoeigcaaDoor
open G
set_option linter.unusedVariables false
set_option linter.unusedSimpArgs false
set_option maxRecDepth 100000
set_option maxHeartbeats 4000000
def laws_FnExactWithFoes.f (k : Nat) (a0 : Herd) (a1 : Int) (a2 : Int) (a3 : Bool) : Option Bool := (laws_szHerd.f k a0 1048576).bind fun t2 => if t2 < 0 then (some true) else ((laws_toHerd.f k a0).bind fun t3 => (spec_WithFoes.f k t3 a1 a2 a3).bind fun t10 => (laws_toHerd.f k a0).bind fun t18 => (impl_WithFoes.f k t18 a1 a2 a3).bind fun t26 => ((laws_eqHerd.f k t26.1 t10.1).bind fun t35 => if (!t35) = true then (some true) else (some (decide (t26.2 ≠ t10.2)))).bind fun y34 => if y34 = true then (some false) else ((laws_toHerd.f k a0).bind fun t36 => (laws_eqHerd.f k t18 t36).bind fun t43 => if (!t43) = true then (some false) else ((laws_markHerd.f k t18 1).bind fun t44 => (if t44.1 < 0 then (some true) else ((laws_eqHerd.f k t26.1 t10.1).bind fun t46 => if (!t46) = true then (some true) else (some (decide (t26.2 ≠ t10.2))))).bind fun y45 => if y45 = true then (some false) else ((laws_markHerd.f k t26.1 1).bind fun t47 => (laws_heldHerd.f k (⟨t47.2.1, t47.2.2.1, t47.2.2.2⟩ : Herd) 1).bind fun t48 => if t48 < 0 then (some false) else (if t48 ≠ t47.1 then (some false) else ((laws_toHerd.f k a0).bind fun t49 => (impl_WithFoes.f k t49 a1 a2 a3).bind fun t56 => ((laws_eqHerd.f k t56.1 t10.1).bind fun t65 => if (!t65) = true then (some true) else (some (decide (t56.2 ≠ t10.2)))).bind fun y64 => if y64 = true then (some false) else ((laws_heldHerd.f k (⟨t47.2.1, t47.2.2.1, t47.2.2.2⟩ : Herd) 1).bind fun t66 => if t66 < 0 then (some false) else (if t66 ≠ t47.1 then (some false) else (some true)))))))))
theorem laws_FnExactWithFoes.c (k : Nat) (w : World) (Aa0_0 : Option Addr) (ca0_0 : Nat) (Aa0_1 : Option Addr) (ca0_1 : Nat) (Aa0_2 : Option Addr) (ca0_2 : Nat) (a0 : Herd) (hr0_0 : Rd G.cs w Aa0_0 a0.Names) (hc0_0 : a0.Names.length ≤ ca0_0) (hr0_1 : Rd (ci .i16) w Aa0_1 a0.Eats) (hc0_1 : a0.Eats.length ≤ ca0_1) (hr0_2 : Rd (ci .u16) w Aa0_2 a0.Foes) (hc0_2 : a0.Foes.length ≤ ca0_2) (a1 : Int) (a2 : Int) (a3 : Bool) (r : Bool) (H : laws_FnExactWithFoes.f k a0 a1 a2 a3 = some r) :
    CV Tryd.prog 4 [.agg [.slice Aa0_0 a0.Names.length ca0_0, .slice Aa0_1 a0.Eats.length ca0_1, .slice Aa0_2 a0.Foes.length ca0_2].toArray, .int .i64 a1, .int .i64 a2, .bool a3].toArray w fun v w' => v = .bool r ∧ Ext w w' := by
  have hS := ((((St.init w no).param G.cs Aa0_0 ca0_0 a0.Names hr0_0 hc0_0).param (ci .i16) Aa0_1 ca0_1 a0.Eats hr0_1 hc0_1).param (ci .u16) Aa0_2 ca0_2 a0.Foes hr0_2 hc0_2)
  unfold laws_FnExactWithFoes.f at H
  refine CV.body Tryd.func4 rfl Tryd.ntmps4 rfl ?_
  refine CJ.seq ?_
  refine CJ.region ?_
  refine OJ.ef rfl rfl rfl (Ef.box hS rfl rfl ([.slice Aa0_0 a0.Names.length ca0_0, .slice Aa0_1 a0.Eats.length ca0_1, .slice Aa0_2 a0.Foes.length ca0_2]) rfl) ?_
  rintro _ w1 ⟨b1, rfl, hS⟩
  refine OJ.pures tU_ok 1 rfl ?_
  refine OJ.nil (EJ.next ?_)
  refine CJ.seq ?_
  refine CJ.region ?_
  refine OJ.pures tU_ok 1 rfl ?_
  refine OJ.nil (EJ.next ?_)
  refine CJ.seq ?_
  refine CJ.region ?_
  refine OJ.st rfl rfl rfl (SR.load rfl rfl (fun w' hx => ldN tU_ok tI_ok rfl rfl rfl (CA.ext (hS.cells (i := 0) rfl) hx) (ds := [.slice Aa0_0 a0.Names.length ca0_0, .slice Aa0_1 a0.Eats.length ca0_1, .slice Aa0_2 a0.Foes.length ca0_2]) rfl rfl)) ?_
  refine OJ.pures tU_ok 1 rfl ?_
  obtain ⟨t2, ht2, H⟩ := pbind H
  refine OJ.callF rfl rfl rfl rfl rfl hb5 rfl (laws_szHerd.c k _ Aa0_0 ca0_0 Aa0_1 ca0_1 Aa0_2 ca0_2 a0 (hS.rd' (i := 0) rfl) (hS.le' (i := 0) rfl) (hS.rd' (i := 1) rfl) (hS.le' (i := 1) rfl) (hS.rd' (i := 2) rfl) (hS.le' (i := 2) rfl) 1048576 _ ht2) ?_
  rintro _ w1 ⟨rfl, hs⟩
  replace hS := hS.grow hs
  refine OJ.pures tU_ok 1 rfl ?_
  refine OJ.nil (EJ.next ?_)
  refine CJ.seq ?_
  refine CJ.seq ?_
  refine CJ.region ?_
  refine OJ.pures tU_ok 2 rfl ?_
  refine OJ.nil (EJ.next ?_)
  refine CJ.cond rfl (fun hb => ?_) (fun hb => ?_)
  · replace H := pif_t (of_decide_eq_true hb) H
    refine CJ.seq ?_
    refine CJ.region ?_
    refine OJ.pures tU_ok 1 rfl ?_
    refine OJ.nil (EJ.next ?_)
    refine CJ.ret (EJ.skR (?_))
    obtain rfl := Option.some.inj H
    exact EJ.fin rfl (.tmp rfl .nil) ⟨rfl, hS.ext⟩
  · replace H := pif_f (of_decide_eq_false hb) H
    refine CJ.skip (EJ.next ?_)
    refine CJ.seq ?_
    refine CJ.region ?_
    refine OJ.st rfl rfl rfl (SR.load rfl rfl (fun w' hx => ldN tU_ok tI_ok rfl rfl rfl (CA.ext (hS.cells (i := 0) rfl) hx) (ds := [.slice Aa0_0 a0.Names.length ca0_0, .slice Aa0_1 a0.Eats.length ca0_1, .slice Aa0_2 a0.Foes.length ca0_2]) rfl rfl)) ?_
    obtain ⟨t3, ht3, H⟩ := pbind H
    refine OJ.callF rfl rfl rfl rfl rfl hb7 rfl (laws_toHerd.c k _ Aa0_0 ca0_0 Aa0_1 ca0_1 Aa0_2 ca0_2 a0 (hS.rd' (i := 0) rfl) (hS.le' (i := 0) rfl) (hS.rd' (i := 1) rfl) (hS.le' (i := 1) rfl) (hS.rd' (i := 2) rfl) (hS.le' (i := 2) rfl) _ ht3) ?_
    rintro _ w1 ⟨A4, c5, A6, c7, A8, c9, rfl, hs⟩
    replace hS := hS.addN hs
    refine OJ.pures tU_ok 3 rfl ?_
    obtain ⟨t10, ht10, H⟩ := pbind H
    refine OJ.callF rfl rfl rfl rfl rfl hb14 rfl (spec_WithFoes.c k _ A4 c5 A6 c7 A8 c9 t3 (hS.rd (i := 1) rfl) (hS.le (i := 1) rfl) (hS.rd (i := 2) rfl) (hS.le (i := 2) rfl) (hS.rd (i := 3) rfl) (hS.le (i := 3) rfl) a1 a2 a3 _ ht10) ?_
    rintro _ w1 ⟨A11, c12, A13, c14, A15, c16, rfl, hs⟩
    replace hS := hS.addN hs
    have hS : St w no w1 [box b1 ([.slice Aa0_0 a0.Names.length ca0_0, .slice Aa0_1 a0.Eats.length ca0_1, .slice Aa0_2 a0.Foes.length ca0_2]) 26, rowC G.cs A4 c5 9 t3.Names, rowC (ci .i16) A6 c7 65 t3.Eats, rowC (ci .u16) A8 c9 66 t3.Foes, rowC G.cs A11 c12 9 t10.1.Names, rowC (ci .i16) A13 c14 65 t10.1.Eats, rowC (ci .u16) A15 c16 66 t10.1.Foes] [roC G.cs Aa0_0 ca0_0 a0.Names, roC (ci .i16) Aa0_1 ca0_1 a0.Eats, roC (ci .u16) Aa0_2 ca0_2 a0.Foes] := hS
    refine OJ.pures tU_ok 3 rfl ?_
    refine OJ.ef rfl rfl rfl (Ef.alloc hS tI_ok rfl rfl ([.slice none 0 0, .slice none 0 0, .slice none 0 0]) rfl) ?_
    rintro _ w1 ⟨b17, rfl, hS⟩
    refine OJ.es rfl rfl (Es.store tI_ok hS (i := 7) (vs := [.slice A11 t10.1.Names.length c12, .slice A13 t10.1.Eats.length c14, .slice A15 t10.1.Foes.length c16]) rfl rfl rfl rfl rfl rfl rfl rfl (by intro u hu; simp only [List.mem_cons, List.not_mem_nil, or_false] at hu; rcases hu with rfl | rfl | rfl <;> rfl) (Nat.le_of_ble_eq_true rfl) ([.slice A11 t10.1.Names.length c12, .slice A13 t10.1.Eats.length c14, .slice A15 t10.1.Foes.length c16]) rfl) ?_
    intro w1 hS
    refine OJ.pures tU_ok 1 rfl ?_
    refine OJ.nil (EJ.next ?_)
    refine CJ.seq ?_
    refine CJ.region ?_
    refine OJ.st rfl rfl rfl (SR.load rfl rfl (fun w' hx => ldN tU_ok tI_ok rfl rfl rfl (CA.ext (hS.cells (i := 0) rfl) hx) (ds := [.slice Aa0_0 a0.Names.length ca0_0, .slice Aa0_1 a0.Eats.length ca0_1, .slice Aa0_2 a0.Foes.length ca0_2]) rfl rfl)) ?_
    obtain ⟨t18, ht18, H⟩ := pbind H
    refine OJ.callF rfl rfl rfl rfl rfl hb7 rfl (laws_toHerd.c k _ Aa0_0 ca0_0 Aa0_1 ca0_1 Aa0_2 ca0_2 a0 (hS.rd' (i := 0) rfl) (hS.le' (i := 0) rfl) (hS.rd' (i := 1) rfl) (hS.le' (i := 1) rfl) (hS.rd' (i := 2) rfl) (hS.le' (i := 2) rfl) _ ht18) ?_
    rintro _ w1 ⟨A19, c20, A21, c22, A23, c24, rfl, hs⟩
    replace hS := hS.addN hs
    have hS : St w no w1 [box b1 ([.slice Aa0_0 a0.Names.length ca0_0, .slice Aa0_1 a0.Eats.length ca0_1, .slice Aa0_2 a0.Foes.length ca0_2]) 26, rowC G.cs A4 c5 9 t3.Names, rowC (ci .i16) A6 c7 65 t3.Eats, rowC (ci .u16) A8 c9 66 t3.Foes, rowC G.cs A11 c12 9 t10.1.Names, rowC (ci .i16) A13 c14 65 t10.1.Eats, rowC (ci .u16) A15 c16 66 t10.1.Foes, box b17 ([.slice A11 t10.1.Names.length c12, .slice A13 t10.1.Eats.length c14, .slice A15 t10.1.Foes.length c16]) 31, rowC G.cs A19 c20 9 t18.Names, rowC (ci .i16) A21 c22 65 t18.Eats, rowC (ci .u16) A23 c24 66 t18.Foes] [roC G.cs Aa0_0 ca0_0 a0.Names, roC (ci .i16) Aa0_1 ca0_1 a0.Eats, roC (ci .u16) Aa0_2 ca0_2 a0.Foes] := hS
    refine OJ.ef rfl rfl rfl (Ef.alloc hS tI_ok rfl rfl ([.slice none 0 0, .slice none 0 0, .slice none 0 0]) rfl) ?_
    rintro _ w1 ⟨b25, rfl, hS⟩
    refine OJ.es rfl rfl (Es.store tI_ok hS (i := 11) (vs := [.slice A19 t18.Names.length c20, .slice A21 t18.Eats.length c22, .slice A23 t18.Foes.length c24]) rfl rfl rfl rfl rfl rfl rfl rfl (by intro u hu; simp only [List.mem_cons, List.not_mem_nil, or_false] at hu; rcases hu with rfl | rfl | rfl <;> rfl) (Nat.le_of_ble_eq_true rfl) ([.slice A19 t18.Names.length c20, .slice A21 t18.Eats.length c22, .slice A23 t18.Foes.length c24]) rfl) ?_
    intro w1 hS
    refine OJ.nil (EJ.next ?_)
    refine CJ.seq ?_
    refine CJ.region ?_
    refine OJ.st rfl rfl rfl (SR.load rfl rfl (fun w' hx => ldN tU_ok tI_ok rfl rfl rfl (CA.ext (hS.cells (i := 11) rfl) hx) (ds := [.slice A19 t18.Names.length c20, .slice A21 t18.Eats.length c22, .slice A23 t18.Foes.length c24]) rfl rfl)) ?_
    refine OJ.pures tU_ok 3 rfl ?_
    obtain ⟨t26, ht26, H⟩ := pbind H
    refine OJ.callF rfl rfl rfl rfl rfl hb15 rfl (impl_WithFoes.c k _ A19 c20 A21 c22 A23 c24 t18 (hS.rd (i := 8) rfl) (hS.le (i := 8) rfl) (hS.rd (i := 9) rfl) (hS.le (i := 9) rfl) (hS.rd (i := 10) rfl) (hS.le (i := 10) rfl) a1 a2 a3 _ ht26) ?_
    rintro _ w1 ⟨A27, c28, A29, c30, A31, c32, rfl, hs⟩
    replace hS := hS.addN hs
    have hS : St w no w1 [box b1 ([.slice Aa0_0 a0.Names.length ca0_0, .slice Aa0_1 a0.Eats.length ca0_1, .slice Aa0_2 a0.Foes.length ca0_2]) 26, rowC G.cs A4 c5 9 t3.Names, rowC (ci .i16) A6 c7 65 t3.Eats, rowC (ci .u16) A8 c9 66 t3.Foes, rowC G.cs A11 c12 9 t10.1.Names, rowC (ci .i16) A13 c14 65 t10.1.Eats, rowC (ci .u16) A15 c16 66 t10.1.Foes, box b17 ([.slice A11 t10.1.Names.length c12, .slice A13 t10.1.Eats.length c14, .slice A15 t10.1.Foes.length c16]) 31, rowC G.cs A19 c20 9 t18.Names, rowC (ci .i16) A21 c22 65 t18.Eats, rowC (ci .u16) A23 c24 66 t18.Foes, box b25 ([.slice A19 t18.Names.length c20, .slice A21 t18.Eats.length c22, .slice A23 t18.Foes.length c24]) 31, rowC G.cs A27 c28 9 t26.1.Names, rowC (ci .i16) A29 c30 65 t26.1.Eats, rowC (ci .u16) A31 c32 66 t26.1.Foes] [roC G.cs Aa0_0 ca0_0 a0.Names, roC (ci .i16) Aa0_1 ca0_1 a0.Eats, roC (ci .u16) Aa0_2 ca0_2 a0.Foes] := hS
    refine OJ.pures tU_ok 3 rfl ?_
    refine OJ.ef rfl rfl rfl (Ef.alloc hS tI_ok rfl rfl ([.slice none 0 0, .slice none 0 0, .slice none 0 0]) rfl) ?_
    rintro _ w1 ⟨b33, rfl, hS⟩
    refine OJ.es rfl rfl (Es.store tI_ok hS (i := 15) (vs := [.slice A27 t26.1.Names.length c28, .slice A29 t26.1.Eats.length c30, .slice A31 t26.1.Foes.length c32]) rfl rfl rfl rfl rfl rfl rfl rfl (by intro u hu; simp only [List.mem_cons, List.not_mem_nil, or_false] at hu; rcases hu with rfl | rfl | rfl <;> rfl) (Nat.le_of_ble_eq_true rfl) ([.slice A27 t26.1.Names.length c28, .slice A29 t26.1.Eats.length c30, .slice A31 t26.1.Foes.length c32]) rfl) ?_
    intro w1 hS
    refine OJ.pures tU_ok 1 rfl ?_
    refine OJ.nil (EJ.next ?_)
    refine CJ.seq ?_
    obtain ⟨j170, H, K170⟩ := pbind H
    refine CJ.cut (fun F w1 => ∃ (y34 : Bool) , (some y34 : Option Bool) = some j170 ∧ F = [(1, .int .i64 a1), (2, .int .i64 a2), (3, .bool a3), (4, .pointer (some ⟨b1, 0, none⟩)), (10, .pointer (some ⟨b17, 0, none⟩)), (11, .int .i64 t10.2), (12, .pointer (some ⟨b25, 0, none⟩)), (13, .pointer (some ⟨b33, 0, none⟩)), (14, .int .i64 t26.2), (52, .bool y34)] ∧ St w no w1 [box b1 ([.slice Aa0_0 a0.Names.length ca0_0, .slice Aa0_1 a0.Eats.length ca0_1, .slice Aa0_2 a0.Foes.length ca0_2]) 26, rowC G.cs A11 c12 9 t10.1.Names, rowC (ci .i16) A13 c14 65 t10.1.Eats, rowC (ci .u16) A15 c16 66 t10.1.Foes, box b17 ([.slice A11 t10.1.Names.length c12, .slice A13 t10.1.Eats.length c14, .slice A15 t10.1.Foes.length c16]) 31, rowC G.cs A19 c20 9 t18.Names, rowC (ci .i16) A21 c22 65 t18.Eats, rowC (ci .u16) A23 c24 66 t18.Foes, box b25 ([.slice A19 t18.Names.length c20, .slice A21 t18.Eats.length c22, .slice A23 t18.Foes.length c24]) 31, rowC G.cs A27 c28 9 t26.1.Names, rowC (ci .i16) A29 c30 65 t26.1.Eats, rowC (ci .u16) A31 c32 66 t26.1.Foes, box b33 ([.slice A27 t26.1.Names.length c28, .slice A29 t26.1.Eats.length c30, .slice A31 t26.1.Foes.length c32]) 31] [roC G.cs Aa0_0 ca0_0 a0.Names, roC (ci .i16) Aa0_1 ca0_1 a0.Eats, roC (ci .u16) Aa0_2 ca0_2 a0.Foes]) ?_ ?_
    · skip
      refine CJ.region ?_
      refine OJ.st rfl rfl rfl (SR.load rfl rfl (fun w' hx => ldN tU_ok tI_ok rfl rfl rfl (CA.ext (hS.cells (i := 15) rfl) hx) (ds := [.slice A27 t26.1.Names.length c28, .slice A29 t26.1.Eats.length c30, .slice A31 t26.1.Foes.length c32]) rfl rfl)) ?_
      refine OJ.st rfl rfl rfl (SR.load rfl rfl (fun w' hx => ldN tU_ok tI_ok rfl rfl rfl (CA.ext (hS.cells (i := 7) rfl) hx) (ds := [.slice A11 t10.1.Names.length c12, .slice A13 t10.1.Eats.length c14, .slice A15 t10.1.Foes.length c16]) rfl rfl)) ?_
      obtain ⟨t35, ht35, H⟩ := pbind H
      refine OJ.callF rfl rfl rfl rfl rfl hb10 rfl (laws_eqHerd.c k _ A27 c28 A29 c30 A31 c32 t26.1 (hS.rd (i := 12) rfl) (hS.le (i := 12) rfl) (hS.rd (i := 13) rfl) (hS.le (i := 13) rfl) (hS.rd (i := 14) rfl) (hS.le (i := 14) rfl) A11 c12 A13 c14 A15 c16 t10.1 (hS.rd (i := 4) rfl) (hS.le (i := 4) rfl) (hS.rd (i := 5) rfl) (hS.le (i := 5) rfl) (hS.rd (i := 6) rfl) (hS.le (i := 6) rfl) _ ht35) ?_
      rintro _ w1 ⟨rfl, hs⟩
      replace hS := hS.grow hs
      refine OJ.pures tU_ok 2 rfl ?_
      refine OJ.split (t := 48) rfl (fun hb => ?_) (fun hb => ?_)
      · replace H := pif_t hb H
        refine OJ.pures tU_ok 4 rfl ?_
        refine OJ.nil ?_
        exact EJ.meet (F' := [(1, .int .i64 a1), (2, .int .i64 a2), (3, .bool a3), (4, .pointer (some ⟨b1, 0, none⟩)), (10, .pointer (some ⟨b17, 0, none⟩)), (11, .int .i64 t10.2), (12, .pointer (some ⟨b25, 0, none⟩)), (13, .pointer (some ⟨b33, 0, none⟩)), (14, .int .i64 t26.2), (52, .bool true)]) ⟨rfl, rfl, rfl, rfl, rfl, rfl, rfl, rfl, rfl, rfl, trivial⟩ ⟨true, H, rfl, hS.pick [0, 4, 5, 6, 7, 8, 9, 10, 11, 12, 13, 14, 15] [0, 1, 2] rfl⟩
      · replace H := pifb_f hb H
        refine OJ.pures tU_ok 4 rfl ?_
        refine OJ.nil ?_
        exact EJ.meet (F' := [(1, .int .i64 a1), (2, .int .i64 a2), (3, .bool a3), (4, .pointer (some ⟨b1, 0, none⟩)), (10, .pointer (some ⟨b17, 0, none⟩)), (11, .int .i64 t10.2), (12, .pointer (some ⟨b25, 0, none⟩)), (13, .pointer (some ⟨b33, 0, none⟩)), (14, .int .i64 t26.2), (52, .bool (decide (t26.2 ≠ t10.2)))]) ⟨rfl, rfl, rfl, rfl, rfl, rfl, rfl, rfl, rfl, rfl, trivial⟩ ⟨(decide (t26.2 ≠ t10.2)), H, rfl, hS.pick [0, 4, 5, 6, 7, 8, 9, 10, 11, 12, 13, 14, 15] [0, 1, 2] rfl⟩
    · rintro F w1 ⟨y34, he, rfl, hS⟩
      obtain rfl := Option.some.inj he
      have H := K170
      refine CJ.cond rfl (fun hb => ?_) (fun hb => ?_)
      · replace H := pif_t hb H
        refine CJ.seq ?_
        refine CJ.region ?_
        refine OJ.pures tU_ok 1 rfl ?_
        refine OJ.nil (EJ.next ?_)
        refine CJ.ret (EJ.skR (?_))
        obtain rfl := Option.some.inj H
        exact EJ.fin rfl (.tmp rfl .nil) ⟨rfl, hS.ext⟩
      · replace H := pifb_f hb H
        refine CJ.skip (EJ.next ?_)
        refine CJ.seq ?_
        refine CJ.seq ?_
        refine CJ.draw [] [0, 1, 2, 3, 4] mixed (by kernel_rfl) hS fun w1 hS => ?_
        refine DJ.st rfl rfl rfl rfl rfl (SR.load rfl rfl (fun w' hx => ldN tU_ok tI_ok rfl rfl rfl (CA.ext (hS.cells (i := 8) rfl) hx) (ds := [.slice A19 t18.Names.length c20, .slice A21 t18.Eats.length c22, .slice A23 t18.Foes.length c24]) rfl rfl)) ?_
        refine DJ.st rfl rfl rfl rfl rfl (SR.load rfl rfl (fun w' hx => ldN tU_ok tI_ok rfl rfl rfl (CA.ext (hS.cells (i := 0) rfl) hx) (ds := [.slice Aa0_0 a0.Names.length ca0_0, .slice Aa0_1 a0.Eats.length ca0_1, .slice Aa0_2 a0.Foes.length ca0_2]) rfl rfl)) ?_
        obtain ⟨t36, ht36, H⟩ := pbind H
        refine DJ.callF rfl rfl rfl rfl rfl rfl rfl hb7 rfl (laws_toHerd.c k _ Aa0_0 ca0_0 Aa0_1 ca0_1 Aa0_2 ca0_2 a0 (hS.rd' (i := 0) rfl) (hS.le' (i := 0) rfl) (hS.rd' (i := 1) rfl) (hS.le' (i := 1) rfl) (hS.rd' (i := 2) rfl) (hS.le' (i := 2) rfl) _ ht36) (by rintro v w' ⟨A37, c38, A39, c40, A41, c42, rfl, hs⟩; exact hs.ext) ?_
        rintro _ w1 ⟨A37, c38, A39, c40, A41, c42, rfl, hs⟩
        replace hS := hS.addN hs
        have hS : St w no w1 [box b1 ([.slice Aa0_0 a0.Names.length ca0_0, .slice Aa0_1 a0.Eats.length ca0_1, .slice Aa0_2 a0.Foes.length ca0_2]) 26, rowC G.cs A11 c12 9 t10.1.Names, rowC (ci .i16) A13 c14 65 t10.1.Eats, rowC (ci .u16) A15 c16 66 t10.1.Foes, box b17 ([.slice A11 t10.1.Names.length c12, .slice A13 t10.1.Eats.length c14, .slice A15 t10.1.Foes.length c16]) 31, rowC G.cs A19 c20 9 t18.Names, rowC (ci .i16) A21 c22 65 t18.Eats, rowC (ci .u16) A23 c24 66 t18.Foes, box b25 ([.slice A19 t18.Names.length c20, .slice A21 t18.Eats.length c22, .slice A23 t18.Foes.length c24]) 31, rowC G.cs A27 c28 9 t26.1.Names, rowC (ci .i16) A29 c30 65 t26.1.Eats, rowC (ci .u16) A31 c32 66 t26.1.Foes, box b33 ([.slice A27 t26.1.Names.length c28, .slice A29 t26.1.Eats.length c30, .slice A31 t26.1.Foes.length c32]) 31, rowC G.cs A37 c38 9 t36.Names, rowC (ci .i16) A39 c40 65 t36.Eats, rowC (ci .u16) A41 c42 66 t36.Foes] [roC G.cs Aa0_0 ca0_0 a0.Names, roC (ci .i16) Aa0_1 ca0_1 a0.Eats, roC (ci .u16) Aa0_2 ca0_2 a0.Foes] := hS
        obtain ⟨t43, ht43, H⟩ := pbind H
        refine DJ.callF rfl rfl rfl rfl rfl rfl rfl hb10 rfl (laws_eqHerd.c k _ A19 c20 A21 c22 A23 c24 t18 (hS.rd (i := 5) rfl) (hS.le (i := 5) rfl) (hS.rd (i := 6) rfl) (hS.le (i := 6) rfl) (hS.rd (i := 7) rfl) (hS.le (i := 7) rfl) A37 c38 A39 c40 A41 c42 t36 (hS.rd (i := 13) rfl) (hS.le (i := 13) rfl) (hS.rd (i := 14) rfl) (hS.le (i := 14) rfl) (hS.rd (i := 15) rfl) (hS.le (i := 15) rfl) _ ht43) (by rintro v w' ⟨rfl, hs⟩; exact hs) ?_
        rintro _ w1 ⟨rfl, hs⟩
        replace hS := hS.grow hs
        refine DJ.pures tU_ok 1 rfl ?_
        refine DJ.nil (EJ.next ?_)
        refine CJ.cond rfl (fun hb => ?_) (fun hb => ?_)
        · replace H := pif_t hb H
          refine CJ.seq ?_
          refine CJ.region ?_
          refine OJ.pures tU_ok 1 rfl ?_
          refine OJ.nil (EJ.next ?_)
          refine CJ.ret (EJ.skR (?_))
          obtain rfl := Option.some.inj H
          exact EJ.fin rfl (.tmp rfl .nil) ⟨rfl, hS.ext⟩
        · replace H := pifb_f hb H
          refine CJ.skip (EJ.next ?_)
          refine CJ.seq ?_
          refine CJ.region ?_
          refine OJ.pures tU_ok 1 rfl ?_
          refine OJ.nil (EJ.next ?_)
          refine CJ.seq ?_
          refine CJ.region ?_
          refine OJ.st rfl rfl rfl (SR.load rfl rfl (fun w' hx => ldN tU_ok tI_ok rfl rfl rfl (CA.ext (hS.cells (i := 8) rfl) hx) (ds := [.slice A19 t18.Names.length c20, .slice A21 t18.Eats.length c22, .slice A23 t18.Foes.length c24]) rfl rfl)) ?_
          refine OJ.pures tU_ok 1 rfl ?_
          obtain ⟨t44, ht44, H⟩ := pbind H
          refine OJ.callF rfl rfl rfl rfl rfl hb11 rfl (laws_markHerd.c k _ A19 c20 A21 c22 A23 c24 t18 1 ((hS.subs [5, 6, 7] [] [] rfl).pick [0, 1, 2] [] rfl) _ ht44) ?_
          rintro _ w1 ⟨rfl, hs, hlc0, hlc1, hlc2⟩
          replace hS := hS.back [5, 6, 7] rfl rfl [rowC G.cs A19 c20 9 t44.2.1, rowC (ci .i16) A21 c22 65 t44.2.2.1, rowC (ci .u16) A23 c24 66 t44.2.2.2] [] hs ⟨fun _ => Iff.rfl, fun _ => Iff.rfl, fun _ => Iff.rfl, trivial⟩
          have hS : St w no w1 [box b1 ([.slice Aa0_0 a0.Names.length ca0_0, .slice Aa0_1 a0.Eats.length ca0_1, .slice Aa0_2 a0.Foes.length ca0_2]) 26, rowC G.cs A11 c12 9 t10.1.Names, rowC (ci .i16) A13 c14 65 t10.1.Eats, rowC (ci .u16) A15 c16 66 t10.1.Foes, box b17 ([.slice A11 t10.1.Names.length c12, .slice A13 t10.1.Eats.length c14, .slice A15 t10.1.Foes.length c16]) 31, rowC G.cs A19 c20 9 t44.2.1, rowC (ci .i16) A21 c22 65 t44.2.2.1, rowC (ci .u16) A23 c24 66 t44.2.2.2, box b25 ([.slice A19 t18.Names.length c20, .slice A21 t18.Eats.length c22, .slice A23 t18.Foes.length c24]) 31, rowC G.cs A27 c28 9 t26.1.Names, rowC (ci .i16) A29 c30 65 t26.1.Eats, rowC (ci .u16) A31 c32 66 t26.1.Foes, box b33 ([.slice A27 t26.1.Names.length c28, .slice A29 t26.1.Eats.length c30, .slice A31 t26.1.Foes.length c32]) 31, rowC G.cs A37 c38 9 t36.Names, rowC (ci .i16) A39 c40 65 t36.Eats, rowC (ci .u16) A41 c42 66 t36.Foes] [roC G.cs Aa0_0 ca0_0 a0.Names, roC (ci .i16) Aa0_1 ca0_1 a0.Eats, roC (ci .u16) Aa0_2 ca0_2 a0.Foes] := hS
          refine OJ.as (t := 53) rfl (show _ = (.agg [.slice A19 t44.2.1.length c20, .slice A21 t18.Eats.length c22, .slice A23 t18.Foes.length c24].toArray : Value) by simp only [hlc0]) ?_
          refine OJ.as (t := 58) rfl (show _ = (.agg [.slice A19 t44.2.1.length c20, .slice A21 t18.Eats.length c22, .slice A23 t18.Foes.length c24].toArray : Value) by simp only [hlc0]) ?_
          replace hS := hS.boxAs (i := 8) rfl (show _ = ([.slice A19 t44.2.1.length c20, .slice A21 t18.Eats.length c22, .slice A23 t18.Foes.length c24] : List Value) by simp only [hlc0])
          refine OJ.as (t := 53) rfl (show _ = (.agg [.slice A19 t44.2.1.length c20, .slice A21 t44.2.2.1.length c22, .slice A23 t18.Foes.length c24].toArray : Value) by simp only [hlc1]) ?_
          refine OJ.as (t := 58) rfl (show _ = (.agg [.slice A19 t44.2.1.length c20, .slice A21 t44.2.2.1.length c22, .slice A23 t18.Foes.length c24].toArray : Value) by simp only [hlc1]) ?_
          replace hS := hS.boxAs (i := 8) rfl (show _ = ([.slice A19 t44.2.1.length c20, .slice A21 t44.2.2.1.length c22, .slice A23 t18.Foes.length c24] : List Value) by simp only [hlc1])
          refine OJ.as (t := 53) rfl (show _ = (.agg [.slice A19 t44.2.1.length c20, .slice A21 t44.2.2.1.length c22, .slice A23 t44.2.2.2.length c24].toArray : Value) by simp only [hlc2]) ?_
          refine OJ.as (t := 58) rfl (show _ = (.agg [.slice A19 t44.2.1.length c20, .slice A21 t44.2.2.1.length c22, .slice A23 t44.2.2.2.length c24].toArray : Value) by simp only [hlc2]) ?_
          replace hS := hS.boxAs (i := 8) rfl (show _ = ([.slice A19 t44.2.1.length c20, .slice A21 t44.2.2.1.length c22, .slice A23 t44.2.2.2.length c24] : List Value) by simp only [hlc2])
          have hS : St w no w1 [box b1 ([.slice Aa0_0 a0.Names.length ca0_0, .slice Aa0_1 a0.Eats.length ca0_1, .slice Aa0_2 a0.Foes.length ca0_2]) 26, rowC G.cs A11 c12 9 t10.1.Names, rowC (ci .i16) A13 c14 65 t10.1.Eats, rowC (ci .u16) A15 c16 66 t10.1.Foes, box b17 ([.slice A11 t10.1.Names.length c12, .slice A13 t10.1.Eats.length c14, .slice A15 t10.1.Foes.length c16]) 31, rowC G.cs A19 c20 9 t44.2.1, rowC (ci .i16) A21 c22 65 t44.2.2.1, rowC (ci .u16) A23 c24 66 t44.2.2.2, box b25 ([.slice A19 t44.2.1.length c20, .slice A21 t44.2.2.1.length c22, .slice A23 t44.2.2.2.length c24]) 31, rowC G.cs A27 c28 9 t26.1.Names, rowC (ci .i16) A29 c30 65 t26.1.Eats, rowC (ci .u16) A31 c32 66 t26.1.Foes, box b33 ([.slice A27 t26.1.Names.length c28, .slice A29 t26.1.Eats.length c30, .slice A31 t26.1.Foes.length c32]) 31, rowC G.cs A37 c38 9 t36.Names, rowC (ci .i16) A39 c40 65 t36.Eats, rowC (ci .u16) A41 c42 66 t36.Foes] [roC G.cs Aa0_0 ca0_0 a0.Names, roC (ci .i16) Aa0_1 ca0_1 a0.Eats, roC (ci .u16) Aa0_2 ca0_2 a0.Foes] := hS
          refine OJ.pures tU_ok 1 rfl ?_
          refine OJ.nil (EJ.next ?_)
          refine CJ.seq ?_
          obtain ⟨j171, H, K171⟩ := pbind H
          refine CJ.cut (fun F w1 => ∃ (y45 : Bool) , (some y45 : Option Bool) = some j171 ∧ F = [(1, .int .i64 a1), (2, .int .i64 a2), (3, .bool a3), (4, .pointer (some ⟨b1, 0, none⟩)), (10, .pointer (some ⟨b17, 0, none⟩)), (11, .int .i64 t10.2), (13, .pointer (some ⟨b33, 0, none⟩)), (73, .bool y45)] ∧ St w no w1 [box b1 ([.slice Aa0_0 a0.Names.length ca0_0, .slice Aa0_1 a0.Eats.length ca0_1, .slice Aa0_2 a0.Foes.length ca0_2]) 26, rowC G.cs A11 c12 9 t10.1.Names, rowC (ci .i16) A13 c14 65 t10.1.Eats, rowC (ci .u16) A15 c16 66 t10.1.Foes, box b17 ([.slice A11 t10.1.Names.length c12, .slice A13 t10.1.Eats.length c14, .slice A15 t10.1.Foes.length c16]) 31, rowC G.cs A27 c28 9 t26.1.Names, rowC (ci .i16) A29 c30 65 t26.1.Eats, rowC (ci .u16) A31 c32 66 t26.1.Foes, box b33 ([.slice A27 t26.1.Names.length c28, .slice A29 t26.1.Eats.length c30, .slice A31 t26.1.Foes.length c32]) 31] [roC G.cs Aa0_0 ca0_0 a0.Names, roC (ci .i16) Aa0_1 ca0_1 a0.Eats, roC (ci .u16) Aa0_2 ca0_2 a0.Foes]) ?_ ?_
          · skip
            refine CJ.region ?_
            refine OJ.pures tU_ok 3 rfl ?_
            refine OJ.split (t := 63) rfl (fun hb => ?_) (fun hb => ?_)
            · replace H := pif_t (of_decide_eq_true hb) H
              refine OJ.pures tU_ok 10 rfl ?_
              refine OJ.nil ?_
              exact EJ.meet (F' := [(1, .int .i64 a1), (2, .int .i64 a2), (3, .bool a3), (4, .pointer (some ⟨b1, 0, none⟩)), (10, .pointer (some ⟨b17, 0, none⟩)), (11, .int .i64 t10.2), (13, .pointer (some ⟨b33, 0, none⟩)), (73, .bool true)]) ⟨rfl, rfl, rfl, rfl, rfl, rfl, rfl, rfl, trivial⟩ ⟨true, H, rfl, hS.pick [0, 1, 2, 3, 4, 9, 10, 11, 12] [0, 1, 2] rfl⟩
            · replace H := pif_f (of_decide_eq_false hb) H
              refine OJ.st rfl rfl rfl (SR.load rfl rfl (fun w' hx => ldN tU_ok tI_ok rfl rfl rfl (CA.ext (hS.cells (i := 12) rfl) hx) (ds := [.slice A27 t26.1.Names.length c28, .slice A29 t26.1.Eats.length c30, .slice A31 t26.1.Foes.length c32]) rfl rfl)) ?_
              refine OJ.st rfl rfl rfl (SR.load rfl rfl (fun w' hx => ldN tU_ok tI_ok rfl rfl rfl (CA.ext (hS.cells (i := 4) rfl) hx) (ds := [.slice A11 t10.1.Names.length c12, .slice A13 t10.1.Eats.length c14, .slice A15 t10.1.Foes.length c16]) rfl rfl)) ?_
              obtain ⟨t46, ht46, H⟩ := pbind H
              refine OJ.callF rfl rfl rfl rfl rfl hb10 rfl (laws_eqHerd.c k _ A27 c28 A29 c30 A31 c32 t26.1 (hS.rd (i := 9) rfl) (hS.le (i := 9) rfl) (hS.rd (i := 10) rfl) (hS.le (i := 10) rfl) (hS.rd (i := 11) rfl) (hS.le (i := 11) rfl) A11 c12 A13 c14 A15 c16 t10.1 (hS.rd (i := 1) rfl) (hS.le (i := 1) rfl) (hS.rd (i := 2) rfl) (hS.le (i := 2) rfl) (hS.rd (i := 3) rfl) (hS.le (i := 3) rfl) _ ht46) ?_
              rintro _ w1 ⟨rfl, hs⟩
              replace hS := hS.grow hs
              refine OJ.pures tU_ok 3 rfl ?_
              refine OJ.split (t := 69) rfl (fun hb => ?_) (fun hb => ?_)
              · replace H := pif_t hb H
                refine OJ.pures tU_ok 4 rfl ?_
                refine OJ.nil ?_
                exact EJ.meet (F' := [(1, .int .i64 a1), (2, .int .i64 a2), (3, .bool a3), (4, .pointer (some ⟨b1, 0, none⟩)), (10, .pointer (some ⟨b17, 0, none⟩)), (11, .int .i64 t10.2), (13, .pointer (some ⟨b33, 0, none⟩)), (73, .bool true)]) ⟨rfl, rfl, rfl, rfl, rfl, rfl, rfl, rfl, trivial⟩ ⟨true, H, rfl, hS.pick [0, 1, 2, 3, 4, 9, 10, 11, 12] [0, 1, 2] rfl⟩
              · replace H := pifb_f hb H
                refine OJ.pures tU_ok 4 rfl ?_
                refine OJ.nil ?_
                exact EJ.meet (F' := [(1, .int .i64 a1), (2, .int .i64 a2), (3, .bool a3), (4, .pointer (some ⟨b1, 0, none⟩)), (10, .pointer (some ⟨b17, 0, none⟩)), (11, .int .i64 t10.2), (13, .pointer (some ⟨b33, 0, none⟩)), (73, .bool (decide (t26.2 ≠ t10.2)))]) ⟨rfl, rfl, rfl, rfl, rfl, rfl, rfl, rfl, trivial⟩ ⟨(decide (t26.2 ≠ t10.2)), H, rfl, hS.pick [0, 1, 2, 3, 4, 9, 10, 11, 12] [0, 1, 2] rfl⟩
          · rintro F w1 ⟨y45, he, rfl, hS⟩
            obtain rfl := Option.some.inj he
            have H := K171
            refine CJ.cond rfl (fun hb => ?_) (fun hb => ?_)
            · replace H := pif_t hb H
              refine CJ.seq ?_
              refine CJ.region ?_
              refine OJ.pures tU_ok 1 rfl ?_
              refine OJ.nil (EJ.next ?_)
              refine CJ.ret (EJ.skR (?_))
              obtain rfl := Option.some.inj H
              exact EJ.fin rfl (.tmp rfl .nil) ⟨rfl, hS.ext⟩
            · replace H := pifb_f hb H
              refine CJ.skip (EJ.next ?_)
              refine CJ.seq ?_
              refine CJ.region ?_
              refine OJ.pures tU_ok 1 rfl ?_
              refine OJ.nil (EJ.next ?_)
              refine CJ.seq ?_
              refine CJ.region ?_
              refine OJ.st rfl rfl rfl (SR.load rfl rfl (fun w' hx => ldN tU_ok tI_ok rfl rfl rfl (CA.ext (hS.cells (i := 8) rfl) hx) (ds := [.slice A27 t26.1.Names.length c28, .slice A29 t26.1.Eats.length c30, .slice A31 t26.1.Foes.length c32]) rfl rfl)) ?_
              refine OJ.pures tU_ok 1 rfl ?_
              obtain ⟨t47, ht47, H⟩ := pbind H
              refine OJ.callF rfl rfl rfl rfl rfl hb11 rfl (laws_markHerd.c k _ A27 c28 A29 c30 A31 c32 t26.1 1 ((hS.subs [5, 6, 7] [] [] rfl).pick [0, 1, 2] [] rfl) _ ht47) ?_
              rintro _ w1 ⟨rfl, hs, hlc0, hlc1, hlc2⟩
              replace hS := hS.back [5, 6, 7] rfl rfl [rowC G.cs A27 c28 9 t47.2.1, rowC (ci .i16) A29 c30 65 t47.2.2.1, rowC (ci .u16) A31 c32 66 t47.2.2.2] [] hs ⟨fun _ => Iff.rfl, fun _ => Iff.rfl, fun _ => Iff.rfl, trivial⟩
              have hS : St w no w1 [box b1 ([.slice Aa0_0 a0.Names.length ca0_0, .slice Aa0_1 a0.Eats.length ca0_1, .slice Aa0_2 a0.Foes.length ca0_2]) 26, rowC G.cs A11 c12 9 t10.1.Names, rowC (ci .i16) A13 c14 65 t10.1.Eats, rowC (ci .u16) A15 c16 66 t10.1.Foes, box b17 ([.slice A11 t10.1.Names.length c12, .slice A13 t10.1.Eats.length c14, .slice A15 t10.1.Foes.length c16]) 31, rowC G.cs A27 c28 9 t47.2.1, rowC (ci .i16) A29 c30 65 t47.2.2.1, rowC (ci .u16) A31 c32 66 t47.2.2.2, box b33 ([.slice A27 t26.1.Names.length c28, .slice A29 t26.1.Eats.length c30, .slice A31 t26.1.Foes.length c32]) 31] [roC G.cs Aa0_0 ca0_0 a0.Names, roC (ci .i16) Aa0_1 ca0_1 a0.Eats, roC (ci .u16) Aa0_2 ca0_2 a0.Foes] := hS
              refine OJ.as (t := 74) rfl (show _ = (.agg [.slice A27 t47.2.1.length c28, .slice A29 t26.1.Eats.length c30, .slice A31 t26.1.Foes.length c32].toArray : Value) by simp only [hlc0]) ?_
              replace hS := hS.boxAs (i := 8) rfl (show _ = ([.slice A27 t47.2.1.length c28, .slice A29 t26.1.Eats.length c30, .slice A31 t26.1.Foes.length c32] : List Value) by simp only [hlc0])
              refine OJ.as (t := 74) rfl (show _ = (.agg [.slice A27 t47.2.1.length c28, .slice A29 t47.2.2.1.length c30, .slice A31 t26.1.Foes.length c32].toArray : Value) by simp only [hlc1]) ?_
              replace hS := hS.boxAs (i := 8) rfl (show _ = ([.slice A27 t47.2.1.length c28, .slice A29 t47.2.2.1.length c30, .slice A31 t26.1.Foes.length c32] : List Value) by simp only [hlc1])
              refine OJ.as (t := 74) rfl (show _ = (.agg [.slice A27 t47.2.1.length c28, .slice A29 t47.2.2.1.length c30, .slice A31 t47.2.2.2.length c32].toArray : Value) by simp only [hlc2]) ?_
              replace hS := hS.boxAs (i := 8) rfl (show _ = ([.slice A27 t47.2.1.length c28, .slice A29 t47.2.2.1.length c30, .slice A31 t47.2.2.2.length c32] : List Value) by simp only [hlc2])
              have hS : St w no w1 [box b1 ([.slice Aa0_0 a0.Names.length ca0_0, .slice Aa0_1 a0.Eats.length ca0_1, .slice Aa0_2 a0.Foes.length ca0_2]) 26, rowC G.cs A11 c12 9 t10.1.Names, rowC (ci .i16) A13 c14 65 t10.1.Eats, rowC (ci .u16) A15 c16 66 t10.1.Foes, box b17 ([.slice A11 t10.1.Names.length c12, .slice A13 t10.1.Eats.length c14, .slice A15 t10.1.Foes.length c16]) 31, rowC G.cs A27 c28 9 t47.2.1, rowC (ci .i16) A29 c30 65 t47.2.2.1, rowC (ci .u16) A31 c32 66 t47.2.2.2, box b33 ([.slice A27 t47.2.1.length c28, .slice A29 t47.2.2.1.length c30, .slice A31 t47.2.2.2.length c32]) 31] [roC G.cs Aa0_0 ca0_0 a0.Names, roC (ci .i16) Aa0_1 ca0_1 a0.Eats, roC (ci .u16) Aa0_2 ca0_2 a0.Foes] := hS
              refine OJ.pures tU_ok 1 rfl ?_
              refine OJ.nil (EJ.next ?_)
              refine CJ.seq ?_
              refine CJ.region ?_
              refine OJ.pures tU_ok 1 rfl ?_
              refine OJ.nil (EJ.next ?_)
              refine CJ.seq ?_
              refine CJ.region ?_
              refine OJ.st rfl rfl rfl (SR.load rfl rfl (fun w' hx => ldN tU_ok tI_ok rfl rfl rfl (CA.ext (hS.cells (i := 8) rfl) hx) (ds := [.slice A27 t47.2.1.length c28, .slice A29 t47.2.2.1.length c30, .slice A31 t47.2.2.2.length c32]) rfl rfl)) ?_
              refine OJ.pures tU_ok 1 rfl ?_
              obtain ⟨t48, ht48, H⟩ := pbind H
              refine OJ.callF rfl rfl rfl rfl rfl hb16 rfl (laws_heldHerd.c k _ A27 c28 A29 c30 A31 c32 (⟨t47.2.1, t47.2.2.1, t47.2.2.2⟩ : Herd) (hS.rd (i := 5) rfl) (hS.le (i := 5) rfl) (hS.rd (i := 6) rfl) (hS.le (i := 6) rfl) (hS.rd (i := 7) rfl) (hS.le (i := 7) rfl) 1 _ ht48) ?_
              rintro _ w1 ⟨rfl, hs⟩
              replace hS := hS.grow hs
              refine OJ.pures tU_ok 1 rfl ?_
              refine OJ.nil (EJ.next ?_)
              refine CJ.seq ?_
              refine CJ.seq ?_
              refine CJ.region ?_
              refine OJ.pures tU_ok 2 rfl ?_
              refine OJ.nil (EJ.next ?_)
              refine CJ.cond rfl (fun hb => ?_) (fun hb => ?_)
              · replace H := pif_t (of_decide_eq_true hb) H
                refine CJ.seq ?_
                refine CJ.region ?_
                refine OJ.pures tU_ok 1 rfl ?_
                refine OJ.nil (EJ.next ?_)
                refine CJ.ret (EJ.skR (?_))
                obtain rfl := Option.some.inj H
                exact EJ.fin rfl (.tmp rfl .nil) ⟨rfl, hS.ext⟩
              · replace H := pif_f (of_decide_eq_false hb) H
                refine CJ.skip (EJ.next ?_)
                refine CJ.seq ?_
                refine CJ.seq ?_
                refine CJ.region ?_
                refine OJ.pures tU_ok 3 rfl ?_
                refine OJ.nil (EJ.next ?_)
                refine CJ.cond rfl (fun hb => ?_) (fun hb => ?_)
                · replace H := pif_t (of_decide_eq_true hb) H
                  refine CJ.seq ?_
                  refine CJ.region ?_
                  refine OJ.pures tU_ok 1 rfl ?_
                  refine OJ.nil (EJ.next ?_)
                  refine CJ.ret (EJ.skR (?_))
                  obtain rfl := Option.some.inj H
                  exact EJ.fin rfl (.tmp rfl .nil) ⟨rfl, hS.ext⟩
                · replace H := pif_f (of_decide_eq_false hb) H
                  refine CJ.skip (EJ.next ?_)
                  refine CJ.seq ?_
                  refine CJ.region ?_
                  refine OJ.st rfl rfl rfl (SR.load rfl rfl (fun w' hx => ldN tU_ok tI_ok rfl rfl rfl (CA.ext (hS.cells (i := 0) rfl) hx) (ds := [.slice Aa0_0 a0.Names.length ca0_0, .slice Aa0_1 a0.Eats.length ca0_1, .slice Aa0_2 a0.Foes.length ca0_2]) rfl rfl)) ?_
                  obtain ⟨t49, ht49, H⟩ := pbind H
                  refine OJ.callF rfl rfl rfl rfl rfl hb7 rfl (laws_toHerd.c k _ Aa0_0 ca0_0 Aa0_1 ca0_1 Aa0_2 ca0_2 a0 (hS.rd' (i := 0) rfl) (hS.le' (i := 0) rfl) (hS.rd' (i := 1) rfl) (hS.le' (i := 1) rfl) (hS.rd' (i := 2) rfl) (hS.le' (i := 2) rfl) _ ht49) ?_
                  rintro _ w1 ⟨A50, c51, A52, c53, A54, c55, rfl, hs⟩
                  replace hS := hS.addN hs
                  have hS : St w no w1 [box b1 ([.slice Aa0_0 a0.Names.length ca0_0, .slice Aa0_1 a0.Eats.length ca0_1, .slice Aa0_2 a0.Foes.length ca0_2]) 26, rowC G.cs A11 c12 9 t10.1.Names, rowC (ci .i16) A13 c14 65 t10.1.Eats, rowC (ci .u16) A15 c16 66 t10.1.Foes, box b17 ([.slice A11 t10.1.Names.length c12, .slice A13 t10.1.Eats.length c14, .slice A15 t10.1.Foes.length c16]) 31, rowC G.cs A27 c28 9 t47.2.1, rowC (ci .i16) A29 c30 65 t47.2.2.1, rowC (ci .u16) A31 c32 66 t47.2.2.2, box b33 ([.slice A27 t47.2.1.length c28, .slice A29 t47.2.2.1.length c30, .slice A31 t47.2.2.2.length c32]) 31, rowC G.cs A50 c51 9 t49.Names, rowC (ci .i16) A52 c53 65 t49.Eats, rowC (ci .u16) A54 c55 66 t49.Foes] [roC G.cs Aa0_0 ca0_0 a0.Names, roC (ci .i16) Aa0_1 ca0_1 a0.Eats, roC (ci .u16) Aa0_2 ca0_2 a0.Foes] := hS
                  refine OJ.pures tU_ok 3 rfl ?_
                  obtain ⟨t56, ht56, H⟩ := pbind H
                  refine OJ.callF rfl rfl rfl rfl rfl hb15 rfl (impl_WithFoes.c k _ A50 c51 A52 c53 A54 c55 t49 (hS.rd (i := 9) rfl) (hS.le (i := 9) rfl) (hS.rd (i := 10) rfl) (hS.le (i := 10) rfl) (hS.rd (i := 11) rfl) (hS.le (i := 11) rfl) a1 a2 a3 _ ht56) ?_
                  rintro _ w1 ⟨A57, c58, A59, c60, A61, c62, rfl, hs⟩
                  replace hS := hS.addN hs
                  have hS : St w no w1 [box b1 ([.slice Aa0_0 a0.Names.length ca0_0, .slice Aa0_1 a0.Eats.length ca0_1, .slice Aa0_2 a0.Foes.length ca0_2]) 26, rowC G.cs A11 c12 9 t10.1.Names, rowC (ci .i16) A13 c14 65 t10.1.Eats, rowC (ci .u16) A15 c16 66 t10.1.Foes, box b17 ([.slice A11 t10.1.Names.length c12, .slice A13 t10.1.Eats.length c14, .slice A15 t10.1.Foes.length c16]) 31, rowC G.cs A27 c28 9 t47.2.1, rowC (ci .i16) A29 c30 65 t47.2.2.1, rowC (ci .u16) A31 c32 66 t47.2.2.2, box b33 ([.slice A27 t47.2.1.length c28, .slice A29 t47.2.2.1.length c30, .slice A31 t47.2.2.2.length c32]) 31, rowC G.cs A50 c51 9 t49.Names, rowC (ci .i16) A52 c53 65 t49.Eats, rowC (ci .u16) A54 c55 66 t49.Foes, rowC G.cs A57 c58 9 t56.1.Names, rowC (ci .i16) A59 c60 65 t56.1.Eats, rowC (ci .u16) A61 c62 66 t56.1.Foes] [roC G.cs Aa0_0 ca0_0 a0.Names, roC (ci .i16) Aa0_1 ca0_1 a0.Eats, roC (ci .u16) Aa0_2 ca0_2 a0.Foes] := hS
                  refine OJ.pures tU_ok 3 rfl ?_
                  refine OJ.ef rfl rfl rfl (Ef.alloc hS tI_ok rfl rfl ([.slice none 0 0, .slice none 0 0, .slice none 0 0]) rfl) ?_
                  rintro _ w1 ⟨b63, rfl, hS⟩
                  refine OJ.es rfl rfl (Es.store tI_ok hS (i := 15) (vs := [.slice A57 t56.1.Names.length c58, .slice A59 t56.1.Eats.length c60, .slice A61 t56.1.Foes.length c62]) rfl rfl rfl rfl rfl rfl rfl rfl (by intro u hu; simp only [List.mem_cons, List.not_mem_nil, or_false] at hu; rcases hu with rfl | rfl | rfl <;> rfl) (Nat.le_of_ble_eq_true rfl) ([.slice A57 t56.1.Names.length c58, .slice A59 t56.1.Eats.length c60, .slice A61 t56.1.Foes.length c62]) rfl) ?_
                  intro w1 hS
                  refine OJ.pures tU_ok 1 rfl ?_
                  refine OJ.nil (EJ.next ?_)
                  refine CJ.seq ?_
                  obtain ⟨j175, H, K175⟩ := pbind H
                  refine CJ.cut (fun F w1 => ∃ (y64 : Bool) , (some y64 : Option Bool) = some j175 ∧ F = [(13, .pointer (some ⟨b33, 0, none⟩)), (16, .int .i64 t47.1), (102, .bool y64)] ∧ St w no w1 [rowC G.cs A27 c28 9 t47.2.1, rowC (ci .i16) A29 c30 65 t47.2.2.1, rowC (ci .u16) A31 c32 66 t47.2.2.2, box b33 ([.slice A27 t47.2.1.length c28, .slice A29 t47.2.2.1.length c30, .slice A31 t47.2.2.2.length c32]) 31] [roC G.cs Aa0_0 ca0_0 a0.Names, roC (ci .i16) Aa0_1 ca0_1 a0.Eats, roC (ci .u16) Aa0_2 ca0_2 a0.Foes]) ?_ ?_
                  · skip
                    refine CJ.region ?_
                    refine OJ.st rfl rfl rfl (SR.load rfl rfl (fun w' hx => ldN tU_ok tI_ok rfl rfl rfl (CA.ext (hS.cells (i := 15) rfl) hx) (ds := [.slice A57 t56.1.Names.length c58, .slice A59 t56.1.Eats.length c60, .slice A61 t56.1.Foes.length c62]) rfl rfl)) ?_
                    refine OJ.st rfl rfl rfl (SR.load rfl rfl (fun w' hx => ldN tU_ok tI_ok rfl rfl rfl (CA.ext (hS.cells (i := 4) rfl) hx) (ds := [.slice A11 t10.1.Names.length c12, .slice A13 t10.1.Eats.length c14, .slice A15 t10.1.Foes.length c16]) rfl rfl)) ?_
                    obtain ⟨t65, ht65, H⟩ := pbind H
                    refine OJ.callF rfl rfl rfl rfl rfl hb10 rfl (laws_eqHerd.c k _ A57 c58 A59 c60 A61 c62 t56.1 (hS.rd (i := 12) rfl) (hS.le (i := 12) rfl) (hS.rd (i := 13) rfl) (hS.le (i := 13) rfl) (hS.rd (i := 14) rfl) (hS.le (i := 14) rfl) A11 c12 A13 c14 A15 c16 t10.1 (hS.rd (i := 1) rfl) (hS.le (i := 1) rfl) (hS.rd (i := 2) rfl) (hS.le (i := 2) rfl) (hS.rd (i := 3) rfl) (hS.le (i := 3) rfl) _ ht65) ?_
                    rintro _ w1 ⟨rfl, hs⟩
                    replace hS := hS.grow hs
                    refine OJ.pures tU_ok 2 rfl ?_
                    refine OJ.split (t := 98) rfl (fun hb => ?_) (fun hb => ?_)
                    · replace H := pif_t hb H
                      refine OJ.pures tU_ok 4 rfl ?_
                      refine OJ.nil ?_
                      exact EJ.meet (F' := [(13, .pointer (some ⟨b33, 0, none⟩)), (16, .int .i64 t47.1), (102, .bool true)]) ⟨rfl, rfl, rfl, trivial⟩ ⟨true, H, rfl, hS.pick [5, 6, 7, 8] [0, 1, 2] rfl⟩
                    · replace H := pifb_f hb H
                      refine OJ.pures tU_ok 4 rfl ?_
                      refine OJ.nil ?_
                      exact EJ.meet (F' := [(13, .pointer (some ⟨b33, 0, none⟩)), (16, .int .i64 t47.1), (102, .bool (decide (t56.2 ≠ t10.2)))]) ⟨rfl, rfl, rfl, trivial⟩ ⟨(decide (t56.2 ≠ t10.2)), H, rfl, hS.pick [5, 6, 7, 8] [0, 1, 2] rfl⟩
                  · rintro F w1 ⟨y64, he, rfl, hS⟩
                    obtain rfl := Option.some.inj he
                    have H := K175
                    refine CJ.cond rfl (fun hb => ?_) (fun hb => ?_)
                    · replace H := pif_t hb H
                      refine CJ.seq ?_
                      refine CJ.region ?_
                      refine OJ.pures tU_ok 1 rfl ?_
                      refine OJ.nil (EJ.next ?_)
                      refine CJ.ret (EJ.skR (?_))
                      obtain rfl := Option.some.inj H
                      exact EJ.fin rfl (.tmp rfl .nil) ⟨rfl, hS.ext⟩
                    · replace H := pifb_f hb H
                      refine CJ.skip (EJ.next ?_)
                      refine CJ.seq ?_
                      refine CJ.region ?_
                      refine OJ.pures tU_ok 1 rfl ?_
                      refine OJ.nil (EJ.next ?_)
                      refine CJ.seq ?_
                      refine CJ.region ?_
                      refine OJ.st rfl rfl rfl (SR.load rfl rfl (fun w' hx => ldN tU_ok tI_ok rfl rfl rfl (CA.ext (hS.cells (i := 3) rfl) hx) (ds := [.slice A27 t47.2.1.length c28, .slice A29 t47.2.2.1.length c30, .slice A31 t47.2.2.2.length c32]) rfl rfl)) ?_
                      refine OJ.pures tU_ok 1 rfl ?_
                      obtain ⟨t66, ht66, H⟩ := pbind H
                      refine OJ.callF rfl rfl rfl rfl rfl hb16 rfl (laws_heldHerd.c k _ A27 c28 A29 c30 A31 c32 (⟨t47.2.1, t47.2.2.1, t47.2.2.2⟩ : Herd) (hS.rd (i := 0) rfl) (hS.le (i := 0) rfl) (hS.rd (i := 1) rfl) (hS.le (i := 1) rfl) (hS.rd (i := 2) rfl) (hS.le (i := 2) rfl) 1 _ ht66) ?_
                      rintro _ w1 ⟨rfl, hs⟩
                      replace hS := hS.grow hs
                      refine OJ.pures tU_ok 1 rfl ?_
                      refine OJ.nil (EJ.next ?_)
                      refine CJ.seq ?_
                      refine CJ.seq ?_
                      refine CJ.region ?_
                      refine OJ.pures tU_ok 2 rfl ?_
                      refine OJ.nil (EJ.next ?_)
                      refine CJ.cond rfl (fun hb => ?_) (fun hb => ?_)
                      · replace H := pif_t (of_decide_eq_true hb) H
                        refine CJ.seq ?_
                        refine CJ.region ?_
                        refine OJ.pures tU_ok 1 rfl ?_
                        refine OJ.nil (EJ.next ?_)
                        refine CJ.ret (EJ.skR (?_))
                        obtain rfl := Option.some.inj H
                        exact EJ.fin rfl (.tmp rfl .nil) ⟨rfl, hS.ext⟩
                      · replace H := pif_f (of_decide_eq_false hb) H
                        refine CJ.skip (EJ.next ?_)
                        refine CJ.seq ?_
                        refine CJ.seq ?_
                        refine CJ.region ?_
                        refine OJ.pures tU_ok 3 rfl ?_
                        refine OJ.nil (EJ.next ?_)
                        refine CJ.cond rfl (fun hb => ?_) (fun hb => ?_)
                        · replace H := pif_t (of_decide_eq_true hb) H
                          refine CJ.seq ?_
                          refine CJ.region ?_
                          refine OJ.pures tU_ok 1 rfl ?_
                          refine OJ.nil (EJ.next ?_)
                          refine CJ.ret (EJ.skR (?_))
                          obtain rfl := Option.some.inj H
                          exact EJ.fin rfl (.tmp rfl .nil) ⟨rfl, hS.ext⟩
                        · replace H := pif_f (of_decide_eq_false hb) H
                          refine CJ.skip (EJ.next ?_)
                          refine CJ.seq ?_
                          refine CJ.region ?_
                          refine OJ.pures tU_ok 1 rfl ?_
                          refine OJ.nil (EJ.next ?_)
                          refine CJ.ret (?_)
                          obtain rfl := Option.some.inj H
                          exact EJ.fin rfl (.tmp rfl .nil) ⟨rfl, hS.ext⟩

def internal_bytealg_Cutover.f (a0 : Int) : Option Int := some (IntKind.i64.wrap (Int.tdiv (IntKind.i64.wrap (a0 + 16)) 8))
theorem internal_bytealg_Cutover.c (w : World) (a0 : Int) (r : Int) (H : internal_bytealg_Cutover.f a0 = some r) :
    CV Tryd.prog 85 [.int .i64 a0].toArray w fun v w' => v = .int .i64 r ∧ Ext w w' := by
  have hS := (St.init w no)
  unfold internal_bytealg_Cutover.f at H
  refine CV.body Tryd.func85 rfl Tryd.ntmps85 rfl ?_
  refine CJ.seq ?_
  refine CJ.region ?_
  refine OJ.pures tU_ok 1 rfl ?_
  refine OJ.nil (EJ.next ?_)
  refine CJ.seq ?_
  refine CJ.region ?_
  refine OJ.pures tU_ok 2 rfl ?_
  refine OJ.st rfl rfl rfl (SR.quo rfl rfl rfl (by decide)) ?_
  refine OJ.pures tU_ok 1 rfl ?_
  refine OJ.nil (EJ.next ?_)
  refine CJ.ret (?_)
  obtain rfl := Option.some.inj H
  exact EJ.fin rfl (.tmp rfl .nil) ⟨rfl, hS.ext⟩
end Go.Proofs.YtnnclbomoeigcaaDoor
