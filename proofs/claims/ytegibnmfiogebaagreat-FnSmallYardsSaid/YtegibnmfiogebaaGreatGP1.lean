/-
  What the functions come to.
-/
import Derived.Test.YtegibnmfiogebaaGreatGP0
namespace Go.Proofs.YtegibnmfiogebaaGreat
open G
set_option linter.unusedVariables false
set_option linter.unusedSimpArgs false
set_option maxRecDepth 100000
set_option maxHeartbeats 4000000
def impl_SmallYard.l4 (t38 : List Spot) (t57 : List Spot) : Nat → (List (List Spot)) → (List ByteArray) → Int → Option ((List (List Spot)) × (List ByteArray))
  | 0, _, _, _ => none
  | k + 1, y65, y69, y70 => if y70 < (t57.length : Int) then ((getI t57 y70).bind fun t71 => (slices_Clone_impl_Spot_impl_Spot.f t38).bind fun t73 => (chk (t73.length + ([t71] : List Spot).length ≤ 4294967296)).bind fun u77 => (impl_ordered.f k (t73 ++ ([t71] : List Spot))).bind fun t80 => (impl_keyOf.f k t80).bind fun t97 => (if (t38.length : Int) < (t80.length : Int) then (some (!(hasK y69 t97))) else (some false)).bind fun y98 => if y98 = true then ((chk (y65.length + [t80].length ≤ 4294967296)).bind fun u100 => impl_SmallYard.l4 t38 t57 k (y65 ++ [t80]) (addS y69 t97) (IntKind.i64.wrap (y70 + 1))) else (impl_SmallYard.l4 t38 t57 k y65 y69 (IntKind.i64.wrap (y70 + 1)))) else (some (y65, y69))
def impl_SmallYard.l3 (a0 : Pasture) (t38 : List Spot) : Nat → (List (List Spot)) → (List ByteArray) → Int → Option ((List (List Spot)) × (List ByteArray))
  | 0, _, _, _ => none
  | k + 1, y44, y48, y49 => if y49 < (t38.length : Int) then (((getI t38 y49).bind fun t55 => (impl_Pasture_beside.f k a0 t55).bind fun t57 => (impl_SmallYard.l4 t38 t57 k y44 y48 0).bind fun (y60, y64) => some (y60, y64)).bind fun (y50, y54) => impl_SmallYard.l3 a0 t38 k y50 y54 (IntKind.i64.wrap (y49 + 1))) else (some (y44, y48))
def impl_SmallYard.l2 (a0 : Pasture) (y12 : List (List Spot)) : Nat → (List (List Spot)) → (List ByteArray) → Int → Option (List (List Spot))
  | 0, _, _, _ => none
  | k + 1, y27, y31, y32 => if y32 < (y12.length : Int) then (((getI y12 y32).bind fun t38 => (impl_SmallYard.l3 a0 t38 k y27 y31 0).bind fun (y39, y43) => some (y39, y43)).bind fun (y33, y37) => impl_SmallYard.l2 a0 y12 k y33 y37 (IntKind.i64.wrap (y32 + 1))) else (some y27)
def impl_SmallYard.l1 (a0 : Pasture) (a2 : Int) : Nat → (List (List Spot)) → Int → Option (List (List Spot))
  | 0, _, _ => none
  | k + 1, y12, y16 => if y16 < (IntKind.i64.wrap (a2 - 1)) then (((impl_SmallYard.l2 a0 y12 k ([] : List (List Spot)) ([] : List ByteArray) 0).bind fun y23 => some y23).bind fun y17 => impl_SmallYard.l1 a0 a2 k y17 (IntKind.i64.wrap (y16 + 1))) else (some y12)
def impl_SmallYard.l5 (a0 : Pasture) (y8 : List (List Spot)) : Nat → (List Spot) → Int → Int → Option ((List Spot) × Int)
  | 0, _, _, _ => none
  | k + 1, y108, y111, y112 => if y112 < (y8.length : Int) then ((getI y8 y112).bind fun t113 => (impl_Pasture_openSides.f k a0 t113).bind fun t114 => if y111 < 0 then (impl_SmallYard.l5 a0 y8 k t113 (t114.length : Int) (IntKind.i64.wrap (y112 + 1))) else (if (t114.length : Int) < y111 then (impl_SmallYard.l5 a0 y8 k t113 (t114.length : Int) (IntKind.i64.wrap (y112 + 1))) else (if (t114.length : Int) = y111 then ((slices_CompareFunc_impl_Spot_impl_Spot_impl_Spot_impl_Spot.f k t113 y108 impl_compareSpots.f).bind fun t117 => if t117 < 0 then (impl_SmallYard.l5 a0 y8 k t113 (t114.length : Int) (IntKind.i64.wrap (y112 + 1))) else (impl_SmallYard.l5 a0 y8 k y108 y111 (IntKind.i64.wrap (y112 + 1)))) else (impl_SmallYard.l5 a0 y8 k y108 y111 (IntKind.i64.wrap (y112 + 1)))))) else (some (y108, y111))
def impl_SmallYard.f (k : Nat) (a0 : Pasture) (a1 : Spot) (a2 : Int) : Option (List Spot × Int × Int) := (impl_cellCode.f k a0 ([a1] : List Spot)).bind fun t4 => if t4 ≠ 0 then (some (([] : List Spot), 0, t4)) else ((impl_within.f a2 1 6).bind fun t5 => if (!t5) = true then (some (([] : List Spot), 0, 3)) else ((impl_SmallYard.l1 a0 a2 k [([a1] : List Spot)] 0).bind fun y8 => (impl_SmallYard.l5 a0 y8 k ([] : List Spot) (-1) 0).bind fun (y104, y107) => if y107 < 0 then (some (([] : List Spot), 0, 6)) else (some (y104, y107, 0))))
theorem impl_SmallYard.c (k : Nat) (w : World) (a0 : Pasture) (a1 : Spot) (a2 : Int) (r : List Spot × Int × Int) (H : impl_SmallYard.f k a0 a1 a2 = some r) :
    CV Tryz.prog 8 [.agg (cPasture.enc a0).toArray, .agg (cSpot.enc a1).toArray, .int .i64 a2].toArray w fun v w' => ∃ (A0 : Option Addr) (c0 : Nat), v = .tuple #[.slice A0 r.1.length c0, .int .i64 r.2.1, .int .i64 r.2.2] ∧ Ext w w' ∧ (roO (fun b => w.heap.size ≤ b ∨ False) cSpot A0 c0 r.1).holds w' := by
  have hS := (St.init w no)
  unfold impl_SmallYard.f at H
  refine CV.body Tryz.func8 rfl Tryz.ntmps8 rfl ?_
  refine CJ.seq ?_
  refine CJ.region ?_
  refine OJ.ef rfl rfl rfl (Ef.box hS rfl rfl (cPasture.enc a0) rfl) ?_
  rintro _ w1 ⟨b1, rfl, hS⟩
  refine OJ.ef rfl rfl rfl (Ef.box hS rfl rfl (cSpot.enc a1) rfl) ?_
  rintro _ w1 ⟨b2, rfl, hS⟩
  refine OJ.pures tU_ok 3 rfl ?_
  refine OJ.nil (EJ.next ?_)
  refine CJ.seq ?_
  refine CJ.seq ?_
  refine CJ.region ?_
  refine OJ.st rfl rfl rfl (SR.load rfl rfl (fun w' hx => ldE tU_ok tI_ok rfl rfl rfl (CA.ext (hS.cells (i := 0) rfl) hx) rfl)) ?_
  refine OJ.st rfl rfl rfl (SR.load rfl rfl (fun w' hx => ldE tU_ok tI_ok rfl rfl rfl (CA.ext (hS.cells (i := 1) rfl) hx) rfl)) ?_
  refine OJ.ef rfl rfl rfl (Ef.lit tU_ok tI_ok hS (C := cSpot) rfl rfl rfl rfl rfl rfl ([a1] : List Spot) rfl rfl rfl rfl) ?_
  rintro _ w1 ⟨A3, rfl, hS⟩
  obtain ⟨t4, ht4, H⟩ := pbind H
  refine OJ.callF rfl rfl rfl rfl rfl hb20 rfl (impl_cellCode.c k _ a0 A3 (([a1] : List Spot).length) ([a1] : List Spot) (hS.rd (i := 2) rfl) (hS.le (i := 2) rfl) _ ht4) ?_
  rintro _ w1 ⟨rfl, hs⟩
  replace hS := hS.grow hs
  refine OJ.pures tU_ok 1 rfl ?_
  refine OJ.nil (EJ.next ?_)
  refine CJ.seq ?_
  refine CJ.region ?_
  refine OJ.pures tU_ok 2 rfl ?_
  refine OJ.nil (EJ.next ?_)
  refine CJ.cond rfl (fun hb => ?_) (fun hb => ?_)
  · replace H := pif_t (of_decide_eq_true hb) H
    refine CJ.seq ?_
    refine CJ.region ?_
    refine OJ.pures tU_ok 4 rfl ?_
    refine OJ.nil (EJ.next ?_)
    refine CJ.ret (EJ.skR (?_))
    replace hS := hS.addNilO (fun b => w.heap.size ≤ b ∨ False) cSpot none
    obtain rfl := Option.some.inj H
    exact EJ.fin rfl (.tmp rfl (.tmp rfl (.tmp rfl .nil))) ⟨none, 0, rfl, hS.ext, hS.holdsO (i := 0) rfl⟩
  replace H := pif_f (of_decide_eq_false hb) H
  refine CJ.skip (EJ.next ?_)
  refine CJ.seq ?_
  refine CJ.seq ?_
  refine CJ.region ?_
  refine OJ.pures tU_ok 1 rfl ?_
  obtain ⟨t5, ht5, H⟩ := pbind H
  refine OJ.callF rfl rfl rfl rfl rfl hb21 rfl (impl_within.c _ a2 1 6 _ ht5) ?_
  rintro _ w1 ⟨rfl, hs⟩
  replace hS := hS.grow hs
  refine OJ.pures tU_ok 1 rfl ?_
  refine OJ.nil (EJ.next ?_)
  refine CJ.cond rfl (fun hb => ?_) (fun hb => ?_)
  · replace H := pif_t hb H
    refine CJ.seq ?_
    refine CJ.region ?_
    refine OJ.pures tU_ok 3 rfl ?_
    refine OJ.nil (EJ.next ?_)
    refine CJ.ret (EJ.skR (?_))
    replace hS := hS.addNilO (fun b => w.heap.size ≤ b ∨ False) cSpot none
    obtain rfl := Option.some.inj H
    exact EJ.fin rfl (.tmp rfl (.tmp rfl (.tmp rfl .nil))) ⟨none, 0, rfl, hS.ext, hS.holdsO (i := 0) rfl⟩
  replace H := pifb_f hb H
  refine CJ.skip (EJ.next ?_)
  refine CJ.seq ?_
  refine CJ.region ?_
  refine OJ.st rfl rfl rfl (SR.load rfl rfl (fun w' hx => ldE tU_ok tI_ok rfl rfl rfl (CA.ext (hS.cells (i := 1) rfl) hx) rfl)) ?_
  refine OJ.ef rfl rfl rfl (Ef.lit tU_ok tI_ok hS (C := cSpot) rfl rfl rfl rfl rfl rfl ([a1] : List Spot) rfl rfl rfl rfl) ?_
  rintro _ w1 ⟨A6, rfl, hS⟩
  refine OJ.ef rfl rfl rfl (Ef.litS1 (C := cSpot) tU_ok tI_ok hS (k := 3) rfl rfl rfl rfl rfl rfl) ?_
  rintro _ w1 ⟨A7, rfl, hS⟩
  refine OJ.pures tU_ok 1 rfl ?_
  refine OJ.nil (EJ.next ?_)
  refine CJ.seq ?_
  refine CJ.seq ?_
  refine CJ.region ?_
  refine OJ.pures tU_ok 3 rfl ?_
  refine OJ.nil (EJ.next ?_)
  obtain ⟨j1166, H, K1166⟩ := pbind H
  refine CJ.cut1 (fun F w1 => ∃ (y8 : List (List Spot)) (A9 : Option Addr) (c10 : Nat) (D11 : List SH), (some y8 : Option (List (List Spot))) = some j1166 ∧ F = [(3, .pointer (some ⟨b1, 0, none⟩)), (10, .slice A9 y8.length c10)] ∧ St w no w1 [box b1 (cPasture.enc a0) 31, rowsC cSpot A9 c10 37 34 D11 y8] []) ?_ ?_
  · skip
    refine CJ.block ?_
    refine CJ.loop (fun k F w1 => ∃ (y12 : List (List Spot)) (y16 : Int) (A13 : Option Addr) (c14 : Nat) (D15 : List SH), F = [(3, .pointer (some ⟨b1, 0, none⟩)), (10, .slice A13 y12.length c14), (40, .int .i64 (IntKind.i64.wrap (a2 - 1))), (41, .int .i64 y16)] ∧ St w no w1 [box b1 (cPasture.enc a0) 31, rowsC cSpot A13 c14 37 34 D15 y12] [] ∧ impl_SmallYard.l1 a0 a2 k y12 y16 = some j1166) k (F' := [(3, .pointer (some ⟨b1, 0, none⟩)), (10, .slice A7 [([a1] : List Spot)].length ([([a1] : List Spot)].length)), (40, .int .i64 (IntKind.i64.wrap (a2 - 1))), (41, .int .i64 0)]) ⟨rfl, rfl, rfl, rfl, trivial⟩ ⟨[([a1] : List Spot)], 0, A7, ([([a1] : List Spot)].length), [(A6, ([a1] : List Spot).length)], rfl, hS.pick [0, 4] [] rfl, H⟩ ?_
    rintro k F w1 ⟨y12, y16, A13, c14, D15, rfl, hS, H⟩
    cases k with
    | zero => rw [impl_SmallYard.l1] at H; cases H
    | succ k =>
      rw [impl_SmallYard.l1] at H
      refine CJ.seq ?_
      refine CJ.region ?_
      refine OJ.pures tU_ok 1 rfl ?_
      refine OJ.nil (EJ.next ?_)
      refine CJ.seq ?_
      refine CJ.cond rfl (fun hb => ?_) (fun hb => ?_)
      · replace H := pif_t (of_decide_eq_true hb) H
        refine CJ.skip (EJ.next ?_)
        obtain ⟨j1857, H, K1857⟩ := pbind H
        refine CJ.cut (fun F w1 => ∃ (y17 : List (List Spot)) (A18 : Option Addr) (c19 : Nat) (D20 : List SH), (some y17 : Option (List (List Spot))) = some j1857 ∧ F = [(3, .pointer (some ⟨b1, 0, none⟩)), (10, .slice A18 y17.length c19), (40, .int .i64 (IntKind.i64.wrap (a2 - 1))), (41, .int .i64 y16)] ∧ St w no w1 [box b1 (cPasture.enc a0) 31, rowsC cSpot A18 c19 37 34 D20 y17] []) ?_ ?_
        · skip
          refine CJ.block ?_
          refine CJ.seq ?_
          refine CJ.region ?_
          refine OJ.ef rfl rfl rfl (Ef.litS0 (e := 34) tU_ok tI_ok hS rfl rfl rfl rfl cSpot) ?_
          rintro _ w1 ⟨A21, rfl, hS⟩
          refine OJ.ef rfl rfl rfl (Ef.makeMapK hS rfl Value.string) ?_
          rintro _ w1 ⟨b22, rfl, hS⟩
          refine OJ.pures tU_ok 2 rfl ?_
          refine OJ.nil (EJ.next ?_)
          refine CJ.seq ?_
          refine CJ.seq ?_
          refine CJ.region ?_
          refine OJ.pures tU_ok 3 rfl ?_
          refine OJ.nil (EJ.next ?_)
          obtain ⟨j2030, H, K2030⟩ := pbind H
          refine CJ.cut1 (fun F w1 => ∃ (y23 : List (List Spot)) (A24 : Option Addr) (c25 : Nat) (D26 : List SH), (some y23 : Option (List (List Spot))) = some j2030 ∧ F = [(3, .pointer (some ⟨b1, 0, none⟩)), (11, .slice A24 y23.length c25), (40, .int .i64 (IntKind.i64.wrap (a2 - 1))), (41, .int .i64 y16)] ∧ St w no w1 [box b1 (cPasture.enc a0) 31, rowsC cSpot A24 c25 37 34 D26 y23] []) ?_ ?_
          · skip
            refine CJ.block ?_
            refine CJ.loop (fun k F w1 => ∃ (y27 : List (List Spot)) (y31 : List ByteArray) (y32 : Int) (A28 : Option Addr) (c29 : Nat) (D30 : List SH), F = [(3, .pointer (some ⟨b1, 0, none⟩)), (11, .slice A28 y27.length c29), (12, .map (some b22)), (40, .int .i64 (IntKind.i64.wrap (a2 - 1))), (41, .int .i64 y16), (45, .slice A13 y12.length c14), (46, .int .i64 (y12.length : Int)), (47, .int .i64 y32)] ∧ St w no w1 [box b1 (cPasture.enc a0) 31, rowsC cSpot A13 c14 37 34 D15 y12, rowsC cSpot A28 c29 37 34 D30 y27, mapK Value.string b22 y31] [] ∧ impl_SmallYard.l2 a0 y12 k y27 y31 y32 = some j2030) k (F' := [(3, .pointer (some ⟨b1, 0, none⟩)), (11, .slice A21 ([] : List (List Spot)).length (([] : List (List Spot)).length)), (12, .map (some b22)), (40, .int .i64 (IntKind.i64.wrap (a2 - 1))), (41, .int .i64 y16), (45, .slice A13 y12.length c14), (46, .int .i64 (y12.length : Int)), (47, .int .i64 0)]) ⟨rfl, rfl, rfl, rfl, rfl, rfl, rfl, rfl, trivial⟩ ⟨([] : List (List Spot)), ([] : List ByteArray), 0, A21, (([] : List (List Spot)).length), [], rfl, hS.pick [0, 1, 2, 3] [] rfl, H⟩ ?_
            rintro k F w1 ⟨y27, y31, y32, A28, c29, D30, rfl, hS, H⟩
            cases k with
            | zero => rw [impl_SmallYard.l2] at H; cases H
            | succ k =>
              rw [impl_SmallYard.l2] at H
              refine CJ.seq ?_
              refine CJ.region ?_
              refine OJ.pures tU_ok 1 rfl ?_
              refine OJ.nil (EJ.next ?_)
              refine CJ.seq ?_
              refine CJ.cond rfl (fun hb => ?_) (fun hb => ?_)
              · replace H := pif_t (of_decide_eq_true hb) H
                refine CJ.skip (EJ.next ?_)
                obtain ⟨j2145, H, K2145⟩ := pbind H
                refine CJ.cut (fun F w1 => ∃ (y33 : List (List Spot)) (y37 : List ByteArray) (A34 : Option Addr) (c35 : Nat) (D36 : List SH), (some (y33, y37) : Option ((List (List Spot)) × (List ByteArray))) = some j2145 ∧ F = [(3, .pointer (some ⟨b1, 0, none⟩)), (11, .slice A34 y33.length c35), (12, .map (some b22)), (40, .int .i64 (IntKind.i64.wrap (a2 - 1))), (41, .int .i64 y16), (45, .slice A13 y12.length c14), (46, .int .i64 (y12.length : Int)), (47, .int .i64 y32)] ∧ St w no w1 [box b1 (cPasture.enc a0) 31, rowsC cSpot A13 c14 37 34 D15 y12, rowsC cSpot A34 c35 37 34 D36 y33, mapK Value.string b22 y37] []) ?_ ?_
                · skip
                  refine CJ.block ?_
                  refine CJ.seq ?_
                  refine CJ.region ?_
                  obtain ⟨t38, ht38, H⟩ := pbind H
                  obtain ⟨Ae38, ce38, g38, d38, hx38⟩ := ros_el (hS.rowsRo (i := 1) rfl) ht38
                  obtain ⟨ad38, e38⟩ := (ros_rd (hS.rowsRo (i := 1) rfl)).some' g38
                  refine OJ.st rfl rfl rfl (SR.idxS tU_ok tI_ok rfl rfl rfl rfl e38 rfl (getI_some ht38).1) ?_
                  refine OJ.st rfl rfl rfl (SR.load rfl rfl (fun w' hx => ld1 tU_ok rfl rfl (CA.ext ((ros_rd (hS.rowsRo (i := 1) rfl)).at_ e38 g38) hx) rfl)) ?_
                  refine OJ.pures tU_ok 1 rfl ?_
                  refine OJ.nil (EJ.next ?_)
                  refine CJ.seq ?_
                  refine CJ.region ?_
                  refine OJ.pures tU_ok 3 rfl ?_
                  refine OJ.nil (EJ.next ?_)
                  obtain ⟨j2174, H, K2174⟩ := pbind H
                  refine CJ.cut1 (fun F w1 => ∃ (y39 : List (List Spot)) (y43 : List ByteArray) (A40 : Option Addr) (c41 : Nat) (D42 : List SH), (some (y39, y43) : Option ((List (List Spot)) × (List ByteArray))) = some j2174 ∧ F = [(3, .pointer (some ⟨b1, 0, none⟩)), (11, .slice A40 y39.length c41), (12, .map (some b22)), (40, .int .i64 (IntKind.i64.wrap (a2 - 1))), (41, .int .i64 y16), (45, .slice A13 y12.length c14), (46, .int .i64 (y12.length : Int)), (47, .int .i64 y32)] ∧ St w no w1 [box b1 (cPasture.enc a0) 31, rowsC cSpot A13 c14 37 34 D15 y12, rowsC cSpot A40 c41 37 34 D42 y39, mapK Value.string b22 y43] []) ?_ ?_
                  · skip
                    refine CJ.block ?_
                    refine CJ.loop (fun k F w1 => ∃ (y44 : List (List Spot)) (y48 : List ByteArray) (y49 : Int) (A45 : Option Addr) (c46 : Nat) (D47 : List SH), F = [(3, .pointer (some ⟨b1, 0, none⟩)), (11, .slice A45 y44.length c46), (12, .map (some b22)), (14, .slice Ae38 t38.length ce38), (40, .int .i64 (IntKind.i64.wrap (a2 - 1))), (41, .int .i64 y16), (45, .slice A13 y12.length c14), (46, .int .i64 (y12.length : Int)), (47, .int .i64 y32), (51, .slice Ae38 t38.length ce38), (52, .int .i64 (t38.length : Int)), (53, .int .i64 y49)] ∧ St w no w1 [box b1 (cPasture.enc a0) 31, rowsC cSpot A13 c14 37 34 D15 y12, rowsC cSpot A45 c46 37 34 D47 y44, mapK Value.string b22 y48] [] ∧ impl_SmallYard.l3 a0 t38 k y44 y48 y49 = some j2174) k (F' := [(3, .pointer (some ⟨b1, 0, none⟩)), (11, .slice A28 y27.length c29), (12, .map (some b22)), (14, .slice Ae38 t38.length ce38), (40, .int .i64 (IntKind.i64.wrap (a2 - 1))), (41, .int .i64 y16), (45, .slice A13 y12.length c14), (46, .int .i64 (y12.length : Int)), (47, .int .i64 y32), (51, .slice Ae38 t38.length ce38), (52, .int .i64 (t38.length : Int)), (53, .int .i64 0)]) ⟨rfl, rfl, rfl, rfl, rfl, rfl, rfl, rfl, rfl, rfl, rfl, rfl, trivial⟩ ⟨y27, y31, 0, A28, c29, D30, rfl, hS.pick [0, 1, 2, 3] [] rfl, H⟩ ?_
                    rintro k F w1 ⟨y44, y48, y49, A45, c46, D47, rfl, hS, H⟩
                    cases k with
                    | zero => rw [impl_SmallYard.l3] at H; cases H
                    | succ k =>
                      rw [impl_SmallYard.l3] at H
                      refine CJ.seq ?_
                      refine CJ.region ?_
                      refine OJ.pures tU_ok 1 rfl ?_
                      refine OJ.nil (EJ.next ?_)
                      refine CJ.seq ?_
                      refine CJ.cond rfl (fun hb => ?_) (fun hb => ?_)
                      · replace H := pif_t (of_decide_eq_true hb) H
                        refine CJ.skip (EJ.next ?_)
                        obtain ⟨j2193, H, K2193⟩ := pbind H
                        refine CJ.cut (fun F w1 => ∃ (y50 : List (List Spot)) (y54 : List ByteArray) (A51 : Option Addr) (c52 : Nat) (D53 : List SH), (some (y50, y54) : Option ((List (List Spot)) × (List ByteArray))) = some j2193 ∧ F = [(3, .pointer (some ⟨b1, 0, none⟩)), (11, .slice A51 y50.length c52), (12, .map (some b22)), (14, .slice Ae38 t38.length ce38), (40, .int .i64 (IntKind.i64.wrap (a2 - 1))), (41, .int .i64 y16), (45, .slice A13 y12.length c14), (46, .int .i64 (y12.length : Int)), (47, .int .i64 y32), (51, .slice Ae38 t38.length ce38), (52, .int .i64 (t38.length : Int)), (53, .int .i64 y49)] ∧ St w no w1 [box b1 (cPasture.enc a0) 31, rowsC cSpot A13 c14 37 34 D15 y12, rowsC cSpot A51 c52 37 34 D53 y50, mapK Value.string b22 y54] []) ?_ ?_
                        · skip
                          refine CJ.block ?_
                          refine CJ.seq ?_
                          refine CJ.region ?_
                          obtain ⟨t55, ht55, H⟩ := pbind H
                          obtain ⟨ad55, e55⟩ := ((ros_sub (hS.rowsRo (i := 1) rfl) d38 hx38)).some' ht55
                          refine OJ.st rfl rfl rfl (SR.idxS tU_ok tI_ok rfl rfl rfl rfl e55 rfl (getI_some ht55).1) ?_
                          refine OJ.st rfl rfl rfl (SR.load rfl rfl (fun w' hx => ldE tU_ok tI_ok rfl rfl rfl (CA.ext ((ros_sub (hS.rowsRo (i := 1) rfl) d38 hx38).at_ e55 ht55) hx) rfl)) ?_
                          refine OJ.ef rfl rfl rfl (Ef.alloc hS tI_ok rfl rfl (cSpot.enc (⟨0, 0⟩ : Spot)) rfl) ?_
                          rintro _ w1 ⟨b56, rfl, hS⟩
                          refine OJ.es rfl rfl (Es.store tI_ok hS (i := 4) rfl rfl rfl rfl rfl rfl (vs := cSpot.enc t55) rfl (cSpot.len _) (cSpot.one _) (Nat.le_of_ble_eq_true rfl) (cSpot.enc t55) rfl) ?_
                          intro w1 hS
                          refine OJ.nil (EJ.next ?_)
                          refine CJ.seq ?_
                          refine CJ.region ?_
                          refine OJ.st rfl rfl rfl (SR.load rfl rfl (fun w' hx => ldE tU_ok tI_ok rfl rfl rfl (CA.ext (hS.cells (i := 0) rfl) hx) rfl)) ?_
                          refine OJ.st rfl rfl rfl (SR.load rfl rfl (fun w' hx => ldE tU_ok tI_ok rfl rfl rfl (CA.ext (hS.cells (i := 4) rfl) hx) rfl)) ?_
                          obtain ⟨t57, ht57, H⟩ := pbind H
                          refine OJ.callF rfl rfl rfl rfl rfl hb22 rfl (impl_Pasture_beside.c k _ a0 t55 _ ht57) ?_
                          rintro _ w1 ⟨A58, c59, rfl, hs⟩
                          replace hS := hS.addN hs
                          have hS : St w no w1 [box b1 (cPasture.enc a0) 31, rowsC cSpot A13 c14 37 34 D15 y12, rowsC cSpot A45 c46 37 34 D47 y44, mapK Value.string b22 y48, box b56 (cSpot.enc t55) 34, rowC cSpot A58 c59 34 t57] [] := hS
                          refine OJ.pures tU_ok 2 rfl ?_
                          refine OJ.nil (EJ.next ?_)
                          obtain ⟨j2198, H, K2198⟩ := pbind H
                          refine CJ.cut1 (fun F w1 => ∃ (y60 : List (List Spot)) (y64 : List ByteArray) (A61 : Option Addr) (c62 : Nat) (D63 : List SH), (some (y60, y64) : Option ((List (List Spot)) × (List ByteArray))) = some j2198 ∧ F = [(3, .pointer (some ⟨b1, 0, none⟩)), (11, .slice A61 y60.length c62), (12, .map (some b22)), (14, .slice Ae38 t38.length ce38), (40, .int .i64 (IntKind.i64.wrap (a2 - 1))), (41, .int .i64 y16), (45, .slice A13 y12.length c14), (46, .int .i64 (y12.length : Int)), (47, .int .i64 y32), (51, .slice Ae38 t38.length ce38), (52, .int .i64 (t38.length : Int)), (53, .int .i64 y49)] ∧ St w no w1 [box b1 (cPasture.enc a0) 31, rowsC cSpot A13 c14 37 34 D15 y12, rowsC cSpot A61 c62 37 34 D63 y60, mapK Value.string b22 y64] []) ?_ ?_
                          · skip
                            refine CJ.block ?_
                            refine CJ.loop (fun k F w1 => ∃ (y65 : List (List Spot)) (y69 : List ByteArray) (y70 : Int) (A66 : Option Addr) (c67 : Nat) (D68 : List SH), F = [(3, .pointer (some ⟨b1, 0, none⟩)), (11, .slice A66 y65.length c67), (12, .map (some b22)), (14, .slice Ae38 t38.length ce38), (40, .int .i64 (IntKind.i64.wrap (a2 - 1))), (41, .int .i64 y16), (45, .slice A13 y12.length c14), (46, .int .i64 (y12.length : Int)), (47, .int .i64 y32), (51, .slice Ae38 t38.length ce38), (52, .int .i64 (t38.length : Int)), (53, .int .i64 y49), (59, .slice A58 t57.length c59), (60, .int .i64 (t57.length : Int)), (61, .int .i64 y70)] ∧ St w no w1 [box b1 (cPasture.enc a0) 31, rowsC cSpot A13 c14 37 34 D15 y12, rowsC cSpot A66 c67 37 34 D68 y65, mapK Value.string b22 y69, rowC cSpot A58 c59 34 t57] [] ∧ impl_SmallYard.l4 t38 t57 k y65 y69 y70 = some j2198) k (F' := [(3, .pointer (some ⟨b1, 0, none⟩)), (11, .slice A45 y44.length c46), (12, .map (some b22)), (14, .slice Ae38 t38.length ce38), (40, .int .i64 (IntKind.i64.wrap (a2 - 1))), (41, .int .i64 y16), (45, .slice A13 y12.length c14), (46, .int .i64 (y12.length : Int)), (47, .int .i64 y32), (51, .slice Ae38 t38.length ce38), (52, .int .i64 (t38.length : Int)), (53, .int .i64 y49), (59, .slice A58 t57.length c59), (60, .int .i64 (t57.length : Int)), (61, .int .i64 0)]) ⟨rfl, rfl, rfl, rfl, rfl, rfl, rfl, rfl, rfl, rfl, rfl, rfl, rfl, rfl, rfl, trivial⟩ ⟨y44, y48, 0, A45, c46, D47, rfl, hS.pick [0, 1, 2, 3, 5] [] rfl, H⟩ ?_
                            rintro k F w1 ⟨y65, y69, y70, A66, c67, D68, rfl, hS, H⟩
                            cases k with
                            | zero => rw [impl_SmallYard.l4] at H; cases H
                            | succ k =>
                              rw [impl_SmallYard.l4] at H
                              refine CJ.seq ?_
                              refine CJ.region ?_
                              refine OJ.pures tU_ok 1 rfl ?_
                              refine OJ.nil (EJ.next ?_)
                              refine CJ.seq ?_
                              refine CJ.cond rfl (fun hb => ?_) (fun hb => ?_)
                              · replace H := pif_t (of_decide_eq_true hb) H
                                refine CJ.skip (EJ.next ?_)
                                refine CJ.seq ?_
                                refine CJ.block ?_
                                refine CJ.seq ?_
                                refine CJ.region ?_
                                obtain ⟨t71, ht71, H⟩ := pbind H
                                obtain ⟨ad71, e71⟩ := (hS.rd (i := 4) rfl).some' ht71
                                refine OJ.st rfl rfl rfl (SR.idxS tU_ok tI_ok rfl rfl rfl rfl e71 rfl (getI_some ht71).1) ?_
                                refine OJ.st rfl rfl rfl (SR.load rfl rfl (fun w' hx => ldE tU_ok tI_ok rfl rfl rfl (CA.ext ((hS.rd (i := 4) rfl).at_ e71 ht71) hx) rfl)) ?_
                                refine OJ.ef rfl rfl rfl (Ef.alloc hS tI_ok rfl rfl (cSpot.enc (⟨0, 0⟩ : Spot)) rfl) ?_
                                rintro _ w1 ⟨b72, rfl, hS⟩
                                refine OJ.es rfl rfl (Es.store tI_ok hS (i := 5) rfl rfl rfl rfl rfl rfl (vs := cSpot.enc t71) rfl (cSpot.len _) (cSpot.one _) (Nat.le_of_ble_eq_true rfl) (cSpot.enc t71) rfl) ?_
                                intro w1 hS
                                refine OJ.nil (EJ.next ?_)
                                refine CJ.seq ?_
                                obtain ⟨t73, ht73, H⟩ := pbind H
                                obtain ⟨u77, hu77, H⟩ := pbind H
                                obtain ⟨t80, ht80, H⟩ := pbind H
                                refine CJ.cut1 (fun F w1 => ∃ (A76 : Option Addr) (A78 : Option Addr) (c79 : Nat) (A81 : Option Addr) (c82 : Nat), F = [(3, .pointer (some ⟨b1, 0, none⟩)), (11, .slice A66 y65.length c67), (12, .map (some b22)), (14, .slice Ae38 t38.length ce38), (19, .slice A81 t80.length c82), (40, .int .i64 (IntKind.i64.wrap (a2 - 1))), (41, .int .i64 y16), (45, .slice A13 y12.length c14), (46, .int .i64 (y12.length : Int)), (47, .int .i64 y32), (51, .slice Ae38 t38.length ce38), (52, .int .i64 (t38.length : Int)), (53, .int .i64 y49), (59, .slice A58 t57.length c59), (60, .int .i64 (t57.length : Int)), (61, .int .i64 y70)] ∧ St w no w1 [box b1 (cPasture.enc a0) 31, rowsC cSpot A13 c14 37 34 D15 y12, rowsC cSpot A66 c67 37 34 D68 y65, mapK Value.string b22 y69, rowC cSpot A58 c59 34 t57, box b72 (cSpot.enc t71) 34, rowC cSpot A78 c79 34 (t73 ++ ([t71] : List Spot)), rowC cSpot A76 (([t71] : List Spot).length) 34 ([t71] : List Spot), rowC cSpot A81 c82 34 t80] []) ?_ ?_
                                · skip
                                  refine CJ.drawT [] [1, 3, 4, 5] (.one 0 (.one 2 (.br (.alt 1 (.one 3 (.one 4 (.one 5 (.one 6 (.fin))))) (.alt 3 (.one 1 (.one 4 (.one 5 (.one 6 (.fin))))) (.stop)))))) mixed (by kernel_rfl) hS [5] fun w1 hS hY hV => ?_
                                  refine TJ.pures tU_ok 1 rfl ?_
                                  refine TJ.st hY rfl rfl rfl rfl rfl (fun w2 hY => SR.load rfl rfl (fun w' hx => ldE tU_ok tI_ok rfl rfl rfl (CA.ext ((hV w2 hY).cellsR (i := 0) rfl) hx) rfl)) ?_
                                  refine TJ.br ?_
                                  refine TJ.alt ?_ ?_
                                  · skip
                                    refine TJ.callF hY rfl rfl rfl rfl rfl rfl rfl hb24 rfl (slices_Clone_impl_Spot_impl_Spot.c _ Ae38 ce38 t38 (ros_sub (hS.rowsRo (i := 1) rfl) d38 hx38) (ros_subLe (hS.rowsRo (i := 1) rfl) d38 hx38) _ ht73) (by rintro v w' ⟨A83, c84, rfl, hs⟩; exact hs.ext) ?_
                                    rintro _ w1 hY ⟨A83, c84, rfl, hs⟩
                                    replace hS := hS.addN hs
                                    have hS : St w no w1 [box b1 (cPasture.enc a0) 31, rowsC cSpot A13 c14 37 34 D15 y12, rowsC cSpot A66 c67 37 34 D68 y65, mapK Value.string b22 y69, rowC cSpot A58 c59 34 t57, box b72 (cSpot.enc t71) 34, rowC cSpot A83 c84 34 t73] [] := hS
                                    refine TJ.ef hY rfl rfl rfl rfl rfl (Ef.lit tU_ok tI_ok hS (C := cSpot) rfl rfl rfl rfl rfl rfl ([t71] : List Spot) rfl rfl rfl rfl) ?_
                                    rintro _ w1 hY ⟨A85, rfl, hS⟩
                                    have hO := hS
                                    refine TJ.ew rfl rfl rfl rfl rfl (Ew.append tU_ok tI_ok (C := cSpot) (xs := t73) (ys := ([t71] : List Spot)) (hS.inn [5]) (i := 6) rfl rfl rfl rfl rfl rfl rfl rfl rfl rfl rfl rfl rfl (hS.rd (i := 7) rfl) (chk_some hu77)) (by rintro _ w1 ⟨A86, c87, rfl, hS⟩; exact hY.wr (hO.inY [5] 0 rfl rfl) hS.chg) ?_
                                    rintro _ w1 hY ⟨A86, c87, rfl, hS⟩
                                    have hS : St w no w1 [box b1 (cPasture.enc a0) 31, rowsC cSpot A13 c14 37 34 D15 y12, rowsC cSpot A66 c67 37 34 D68 y65, mapK Value.string b22 y69, rowC cSpot A58 c59 34 t57, box b72 (cSpot.enc t71) 34, rowC cSpot A86 c87 34 (t73 ++ ([t71] : List Spot)), rowC cSpot A85 (([t71] : List Spot).length) 34 ([t71] : List Spot)] [] := hO.out [5] hS
                                    refine TJ.callF hY rfl rfl rfl rfl rfl rfl rfl hb23 rfl (impl_ordered.c k _ A86 c87 (t73 ++ ([t71] : List Spot)) (hS.rd (i := 6) rfl) (hS.le (i := 6) rfl) _ ht80) (by rintro v w' ⟨A88, c89, rfl, hs⟩; exact hs.ext) ?_
                                    rintro _ w1 hY ⟨A88, c89, rfl, hs⟩
                                    replace hS := hS.addN hs
                                    have hS : St w no w1 [box b1 (cPasture.enc a0) 31, rowsC cSpot A13 c14 37 34 D15 y12, rowsC cSpot A66 c67 37 34 D68 y65, mapK Value.string b22 y69, rowC cSpot A58 c59 34 t57, box b72 (cSpot.enc t71) 34, rowC cSpot A86 c87 34 (t73 ++ ([t71] : List Spot)), rowC cSpot A85 (([t71] : List Spot).length) 34 ([t71] : List Spot), rowC cSpot A88 c89 34 t80] [] := hS
                                    refine TJ.pures tU_ok 1 rfl ?_
                                    refine TJ.nil ?_
                                    exact EJ.meet (F' := [(3, .pointer (some ⟨b1, 0, none⟩)), (11, .slice A66 y65.length c67), (12, .map (some b22)), (14, .slice Ae38 t38.length ce38), (19, .slice A88 t80.length c89), (40, .int .i64 (IntKind.i64.wrap (a2 - 1))), (41, .int .i64 y16), (45, .slice A13 y12.length c14), (46, .int .i64 (y12.length : Int)), (47, .int .i64 y32), (51, .slice Ae38 t38.length ce38), (52, .int .i64 (t38.length : Int)), (53, .int .i64 y49), (59, .slice A58 t57.length c59), (60, .int .i64 (t57.length : Int)), (61, .int .i64 y70)]) ⟨rfl, rfl, rfl, rfl, rfl, rfl, rfl, rfl, rfl, rfl, rfl, rfl, rfl, rfl, rfl, rfl, trivial⟩ ⟨A85, A86, c87, A88, c89, rfl, hS.pick [0, 1, 2, 3, 4, 5, 6, 7, 8] [] rfl⟩
                                  refine TJ.alt ?_ ?_
                                  · skip
                                    refine TJ.ef hY rfl rfl rfl rfl rfl (Ef.lit tU_ok tI_ok hS (C := cSpot) rfl rfl rfl rfl rfl rfl ([t71] : List Spot) rfl rfl rfl rfl) ?_
                                    rintro _ w1 hY ⟨A90, rfl, hS⟩
                                    refine TJ.callF hY rfl rfl rfl rfl rfl rfl rfl hb24 rfl (slices_Clone_impl_Spot_impl_Spot.c _ Ae38 ce38 t38 (ros_sub (hS.rowsRo (i := 1) rfl) d38 hx38) (ros_subLe (hS.rowsRo (i := 1) rfl) d38 hx38) _ ht73) (by rintro v w' ⟨A91, c92, rfl, hs⟩; exact hs.ext) ?_
                                    rintro _ w1 hY ⟨A91, c92, rfl, hs⟩
                                    replace hS := hS.addN hs
                                    have hS : St w no w1 [box b1 (cPasture.enc a0) 31, rowsC cSpot A13 c14 37 34 D15 y12, rowsC cSpot A66 c67 37 34 D68 y65, mapK Value.string b22 y69, rowC cSpot A58 c59 34 t57, box b72 (cSpot.enc t71) 34, rowC cSpot A90 (([t71] : List Spot).length) 34 ([t71] : List Spot), rowC cSpot A91 c92 34 t73] [] := hS
                                    have hO := hS
                                    refine TJ.ew rfl rfl rfl rfl rfl (Ew.append tU_ok tI_ok (C := cSpot) (xs := t73) (ys := ([t71] : List Spot)) (hS.inn [5]) (i := 7) rfl rfl rfl rfl rfl rfl rfl rfl rfl rfl rfl rfl rfl (hS.rd (i := 6) rfl) (chk_some hu77)) (by rintro _ w1 ⟨A93, c94, rfl, hS⟩; exact hY.wr (hO.inY [5] 0 rfl rfl) hS.chg) ?_
                                    rintro _ w1 hY ⟨A93, c94, rfl, hS⟩
                                    have hS : St w no w1 [box b1 (cPasture.enc a0) 31, rowsC cSpot A13 c14 37 34 D15 y12, rowsC cSpot A66 c67 37 34 D68 y65, mapK Value.string b22 y69, rowC cSpot A58 c59 34 t57, box b72 (cSpot.enc t71) 34, rowC cSpot A90 (([t71] : List Spot).length) 34 ([t71] : List Spot), rowC cSpot A93 c94 34 (t73 ++ ([t71] : List Spot))] [] := hO.out [5] hS
                                    refine TJ.callF hY rfl rfl rfl rfl rfl rfl rfl hb23 rfl (impl_ordered.c k _ A93 c94 (t73 ++ ([t71] : List Spot)) (hS.rd (i := 7) rfl) (hS.le (i := 7) rfl) _ ht80) (by rintro v w' ⟨A95, c96, rfl, hs⟩; exact hs.ext) ?_
                                    rintro _ w1 hY ⟨A95, c96, rfl, hs⟩
                                    replace hS := hS.addN hs
                                    have hS : St w no w1 [box b1 (cPasture.enc a0) 31, rowsC cSpot A13 c14 37 34 D15 y12, rowsC cSpot A66 c67 37 34 D68 y65, mapK Value.string b22 y69, rowC cSpot A58 c59 34 t57, box b72 (cSpot.enc t71) 34, rowC cSpot A90 (([t71] : List Spot).length) 34 ([t71] : List Spot), rowC cSpot A93 c94 34 (t73 ++ ([t71] : List Spot)), rowC cSpot A95 c96 34 t80] [] := hS
                                    refine TJ.pures tU_ok 1 rfl ?_
                                    refine TJ.nil ?_
                                    exact EJ.meet (F' := [(3, .pointer (some ⟨b1, 0, none⟩)), (11, .slice A66 y65.length c67), (12, .map (some b22)), (14, .slice Ae38 t38.length ce38), (19, .slice A95 t80.length c96), (40, .int .i64 (IntKind.i64.wrap (a2 - 1))), (41, .int .i64 y16), (45, .slice A13 y12.length c14), (46, .int .i64 (y12.length : Int)), (47, .int .i64 y32), (51, .slice Ae38 t38.length ce38), (52, .int .i64 (t38.length : Int)), (53, .int .i64 y49), (59, .slice A58 t57.length c59), (60, .int .i64 (t57.length : Int)), (61, .int .i64 y70)]) ⟨rfl, rfl, rfl, rfl, rfl, rfl, rfl, rfl, rfl, rfl, rfl, rfl, rfl, rfl, rfl, rfl, trivial⟩ ⟨A90, A93, c94, A95, c96, rfl, hS.pick [0, 1, 2, 3, 4, 5, 7, 6, 8] [] rfl⟩
                                  exact TJ.stop
                                · rintro F w1 ⟨A76, A78, c79, A81, c82, rfl, hS⟩
                                  refine EJ.next ?_
                                  refine CJ.seq ?_
                                  refine CJ.region ?_
                                  refine OJ.pures tU_ok 1 rfl ?_
                                  obtain ⟨t97, ht97, H⟩ := pbind H
                                  refine OJ.callF rfl rfl rfl rfl rfl hb25 rfl (impl_keyOf.c k _ A81 c82 t80 (hS.rd (i := 8) rfl) (hS.le (i := 8) rfl) _ ht97) ?_
                                  rintro _ w1 ⟨rfl, hs⟩
                                  replace hS := hS.grow hs
                                  refine OJ.pures tU_ok 1 rfl ?_
                                  refine OJ.nil (EJ.next ?_)
                                  obtain ⟨j2201, H, K2201⟩ := pbind H
                                  refine CJ.cut (fun F w1 => ∃ (y98 : Bool) , (some y98 : Option Bool) = some j2201 ∧ F = [(3, .pointer (some ⟨b1, 0, none⟩)), (11, .slice A66 y65.length c67), (12, .map (some b22)), (14, .slice Ae38 t38.length ce38), (19, .slice A81 t80.length c82), (20, .string t97), (40, .int .i64 (IntKind.i64.wrap (a2 - 1))), (41, .int .i64 y16), (45, .slice A13 y12.length c14), (46, .int .i64 (y12.length : Int)), (47, .int .i64 y32), (51, .slice Ae38 t38.length ce38), (52, .int .i64 (t38.length : Int)), (53, .int .i64 y49), (59, .slice A58 t57.length c59), (60, .int .i64 (t57.length : Int)), (61, .int .i64 y70), (83, .bool y98)] ∧ St w no w1 [box b1 (cPasture.enc a0) 31, rowsC cSpot A13 c14 37 34 D15 y12, rowsC cSpot A66 c67 37 34 D68 y65, mapK Value.string b22 y69, rowC cSpot A58 c59 34 t57, rowC cSpot A81 c82 34 t80] []) ?_ ?_
                                  · skip
                                    refine CJ.region ?_
                                    refine OJ.pures tU_ok 6 rfl ?_
                                    refine OJ.split (t := 78) rfl (fun hb => ?_) (fun hb => ?_)
                                    · replace H := pif_t (of_decide_eq_true hb) H
                                      refine OJ.pures tU_ok 2 rfl ?_
                                      refine OJ.st rfl rfl rfl (SR.lookupK keyK9 (E := 4) (by kernel_rfl) (by kernel_rfl) (zero_of (E := 4) tI_ok rfl rfl) (hS.at_ (i := 3) rfl) rfl rfl rfl) ?_
                                      refine OJ.pures tU_ok 2 rfl ?_
                                      refine OJ.nil ?_
                                      exact EJ.meet (F' := [(3, .pointer (some ⟨b1, 0, none⟩)), (11, .slice A66 y65.length c67), (12, .map (some b22)), (14, .slice Ae38 t38.length ce38), (19, .slice A81 t80.length c82), (20, .string t97), (40, .int .i64 (IntKind.i64.wrap (a2 - 1))), (41, .int .i64 y16), (45, .slice A13 y12.length c14), (46, .int .i64 (y12.length : Int)), (47, .int .i64 y32), (51, .slice Ae38 t38.length ce38), (52, .int .i64 (t38.length : Int)), (53, .int .i64 y49), (59, .slice A58 t57.length c59), (60, .int .i64 (t57.length : Int)), (61, .int .i64 y70), (83, .bool (!(hasK y69 t97)))]) ⟨rfl, rfl, rfl, rfl, rfl, rfl, rfl, rfl, rfl, rfl, rfl, rfl, rfl, rfl, rfl, rfl, rfl, rfl, trivial⟩ ⟨(!(hasK y69 t97)), H, rfl, hS.pick [0, 1, 2, 3, 4, 8] [] rfl⟩
                                    · replace H := pif_f (of_decide_eq_false hb) H
                                      refine OJ.pures tU_ok 5 rfl ?_
                                      refine OJ.nil ?_
                                      exact EJ.meet (F' := [(3, .pointer (some ⟨b1, 0, none⟩)), (11, .slice A66 y65.length c67), (12, .map (some b22)), (14, .slice Ae38 t38.length ce38), (19, .slice A81 t80.length c82), (20, .string t97), (40, .int .i64 (IntKind.i64.wrap (a2 - 1))), (41, .int .i64 y16), (45, .slice A13 y12.length c14), (46, .int .i64 (y12.length : Int)), (47, .int .i64 y32), (51, .slice Ae38 t38.length ce38), (52, .int .i64 (t38.length : Int)), (53, .int .i64 y49), (59, .slice A58 t57.length c59), (60, .int .i64 (t57.length : Int)), (61, .int .i64 y70), (83, .bool false)]) ⟨rfl, rfl, rfl, rfl, rfl, rfl, rfl, rfl, rfl, rfl, rfl, rfl, rfl, rfl, rfl, rfl, rfl, rfl, trivial⟩ ⟨false, H, rfl, hS.pick [0, 1, 2, 3, 4, 8] [] rfl⟩
                                  · rintro F w1 ⟨y98, he, rfl, hS⟩
                                    obtain rfl := Option.some.inj he
                                    have H := K2201
                                    refine CJ.cond rfl (fun hb => ?_) (fun hb => ?_)
                                    · replace H := pif_t hb H
                                      refine CJ.seq ?_
                                      refine CJ.region ?_
                                      refine OJ.pures tU_ok 2 rfl ?_
                                      refine OJ.es rfl rfl (Es.mapUpdateK keyK9 (E := 4) (by kernel_rfl) hS (i := 3) rfl rfl rfl rfl rfl) ?_
                                      intro w1 hS
                                      refine OJ.nil (EJ.next ?_)
                                      refine CJ.region ?_
                                      refine OJ.pures tU_ok 2 rfl ?_
                                      refine OJ.ef rfl rfl rfl (Ef.litS1 (C := cSpot) tU_ok tI_ok hS (k := 5) rfl rfl rfl rfl rfl rfl) ?_
                                      rintro _ w1 ⟨A99, rfl, hS⟩
                                      obtain ⟨u100, hu100, H⟩ := pbind H
                                      have hdl := (hS.rowsRo (i := 2) rfl).1
                                      have dd103 := subD (D := D68) hdl (show ([(A81, c82)] : List SH)[0]? = _ from rfl)
                                      have xd103 := subD (D := y65) rfl (show ([t80] : List (List Spot))[0]? = _ from rfl)
                                      refine OJ.ew rfl rfl rfl (Ew.appendS tU_ok tI_ok hS (i := 2) (j := 6) rfl rfl rfl rfl rfl rfl rfl rfl rfl rfl rfl rfl rfl rfl (chk_some hu100)) ?_
                                      rintro _ w1 ⟨A101, c102, rfl, hS⟩
                                      refine OJ.pures tU_ok 1 rfl ?_
                                      refine OJ.nil (EJ.blk (EJ.next ?_))
                                      refine CJ.region ?_
                                      refine OJ.pures tU_ok 2 rfl ?_
                                      refine OJ.nil ?_
                                      exact EJ.round k (F' := [(3, .pointer (some ⟨b1, 0, none⟩)), (11, .slice A101 (y65 ++ [t80]).length c102), (12, .map (some b22)), (14, .slice Ae38 t38.length ce38), (40, .int .i64 (IntKind.i64.wrap (a2 - 1))), (41, .int .i64 y16), (45, .slice A13 y12.length c14), (46, .int .i64 (y12.length : Int)), (47, .int .i64 y32), (51, .slice Ae38 t38.length ce38), (52, .int .i64 (t38.length : Int)), (53, .int .i64 y49), (59, .slice A58 t57.length c59), (60, .int .i64 (t57.length : Int)), (61, .int .i64 (IntKind.i64.wrap (y70 + 1)))]) ⟨rfl, rfl, rfl, rfl, rfl, rfl, rfl, rfl, rfl, rfl, rfl, rfl, rfl, rfl, rfl, trivial⟩ (Nat.lt_succ_self _) ⟨(y65 ++ [t80]), (addS y69 t97), (IntKind.i64.wrap (y70 + 1)), A101, c102, (D68 ++ [(A81, c82)]), rfl, hS.pick [0, 1, 2, 3, 4] [] rfl, H⟩
                                    · replace H := pifb_f hb H
                                      refine CJ.skip (EJ.blk (EJ.next ?_))
                                      refine CJ.region ?_
                                      refine OJ.pures tU_ok 2 rfl ?_
                                      refine OJ.nil ?_
                                      exact EJ.round k (F' := [(3, .pointer (some ⟨b1, 0, none⟩)), (11, .slice A66 y65.length c67), (12, .map (some b22)), (14, .slice Ae38 t38.length ce38), (40, .int .i64 (IntKind.i64.wrap (a2 - 1))), (41, .int .i64 y16), (45, .slice A13 y12.length c14), (46, .int .i64 (y12.length : Int)), (47, .int .i64 y32), (51, .slice Ae38 t38.length ce38), (52, .int .i64 (t38.length : Int)), (53, .int .i64 y49), (59, .slice A58 t57.length c59), (60, .int .i64 (t57.length : Int)), (61, .int .i64 (IntKind.i64.wrap (y70 + 1)))]) ⟨rfl, rfl, rfl, rfl, rfl, rfl, rfl, rfl, rfl, rfl, rfl, rfl, rfl, rfl, rfl, trivial⟩ (Nat.lt_succ_self _) ⟨y65, y69, (IntKind.i64.wrap (y70 + 1)), A66, c67, D68, rfl, hS.pick [0, 1, 2, 3, 4] [] rfl, H⟩
                              · replace H := pif_f (of_decide_eq_false hb) H
                                refine CJ.exit (EJ.skE (EJ.skE (EJ.hit (?_))))
                                exact EJ.meet (F' := [(3, .pointer (some ⟨b1, 0, none⟩)), (11, .slice A66 y65.length c67), (12, .map (some b22)), (14, .slice Ae38 t38.length ce38), (40, .int .i64 (IntKind.i64.wrap (a2 - 1))), (41, .int .i64 y16), (45, .slice A13 y12.length c14), (46, .int .i64 (y12.length : Int)), (47, .int .i64 y32), (51, .slice Ae38 t38.length ce38), (52, .int .i64 (t38.length : Int)), (53, .int .i64 y49)]) ⟨rfl, rfl, rfl, rfl, rfl, rfl, rfl, rfl, rfl, rfl, rfl, rfl, trivial⟩ ⟨y65, y69, A66, c67, D68, H, rfl, hS.pick [0, 1, 2, 3] [] rfl⟩
                          · rintro F w1 ⟨y60, y64, A61, c62, D63, he, rfl, hS⟩
                            obtain rfl := Option.some.inj he
                            have H := K2198
                            refine EJ.blk (?_)
                            exact EJ.meet (F' := [(3, .pointer (some ⟨b1, 0, none⟩)), (11, .slice A61 y60.length c62), (12, .map (some b22)), (14, .slice Ae38 t38.length ce38), (40, .int .i64 (IntKind.i64.wrap (a2 - 1))), (41, .int .i64 y16), (45, .slice A13 y12.length c14), (46, .int .i64 (y12.length : Int)), (47, .int .i64 y32), (51, .slice Ae38 t38.length ce38), (52, .int .i64 (t38.length : Int)), (53, .int .i64 y49)]) ⟨rfl, rfl, rfl, rfl, rfl, rfl, rfl, rfl, rfl, rfl, rfl, rfl, trivial⟩ ⟨y60, y64, A61, c62, D63, H, rfl, hS.pick [0, 1, 2, 3] [] rfl⟩
                        · rintro F w1 ⟨y50, y54, A51, c52, D53, he, rfl, hS⟩
                          obtain rfl := Option.some.inj he
                          have H := K2193
                          refine CJ.region ?_
                          refine OJ.pures tU_ok 2 rfl ?_
                          refine OJ.nil ?_
                          exact EJ.round k (F' := [(3, .pointer (some ⟨b1, 0, none⟩)), (11, .slice A51 y50.length c52), (12, .map (some b22)), (14, .slice Ae38 t38.length ce38), (40, .int .i64 (IntKind.i64.wrap (a2 - 1))), (41, .int .i64 y16), (45, .slice A13 y12.length c14), (46, .int .i64 (y12.length : Int)), (47, .int .i64 y32), (51, .slice Ae38 t38.length ce38), (52, .int .i64 (t38.length : Int)), (53, .int .i64 (IntKind.i64.wrap (y49 + 1)))]) ⟨rfl, rfl, rfl, rfl, rfl, rfl, rfl, rfl, rfl, rfl, rfl, rfl, trivial⟩ (Nat.lt_succ_self _) ⟨y50, y54, (IntKind.i64.wrap (y49 + 1)), A51, c52, D53, rfl, hS.pick [0, 1, 2, 3] [] rfl, H⟩
                      · replace H := pif_f (of_decide_eq_false hb) H
                        refine CJ.exit (EJ.skE (EJ.skE (EJ.hit (?_))))
                        exact EJ.meet (F' := [(3, .pointer (some ⟨b1, 0, none⟩)), (11, .slice A45 y44.length c46), (12, .map (some b22)), (40, .int .i64 (IntKind.i64.wrap (a2 - 1))), (41, .int .i64 y16), (45, .slice A13 y12.length c14), (46, .int .i64 (y12.length : Int)), (47, .int .i64 y32)]) ⟨rfl, rfl, rfl, rfl, rfl, rfl, rfl, rfl, trivial⟩ ⟨y44, y48, A45, c46, D47, H, rfl, hS.pick [0, 1, 2, 3] [] rfl⟩
                  · rintro F w1 ⟨y39, y43, A40, c41, D42, he, rfl, hS⟩
                    obtain rfl := Option.some.inj he
                    have H := K2174
                    refine EJ.blk (?_)
                    exact EJ.meet (F' := [(3, .pointer (some ⟨b1, 0, none⟩)), (11, .slice A40 y39.length c41), (12, .map (some b22)), (40, .int .i64 (IntKind.i64.wrap (a2 - 1))), (41, .int .i64 y16), (45, .slice A13 y12.length c14), (46, .int .i64 (y12.length : Int)), (47, .int .i64 y32)]) ⟨rfl, rfl, rfl, rfl, rfl, rfl, rfl, rfl, trivial⟩ ⟨y39, y43, A40, c41, D42, H, rfl, hS.pick [0, 1, 2, 3] [] rfl⟩
                · rintro F w1 ⟨y33, y37, A34, c35, D36, he, rfl, hS⟩
                  obtain rfl := Option.some.inj he
                  have H := K2145
                  refine CJ.region ?_
                  refine OJ.pures tU_ok 2 rfl ?_
                  refine OJ.nil ?_
                  exact EJ.round k (F' := [(3, .pointer (some ⟨b1, 0, none⟩)), (11, .slice A34 y33.length c35), (12, .map (some b22)), (40, .int .i64 (IntKind.i64.wrap (a2 - 1))), (41, .int .i64 y16), (45, .slice A13 y12.length c14), (46, .int .i64 (y12.length : Int)), (47, .int .i64 (IntKind.i64.wrap (y32 + 1)))]) ⟨rfl, rfl, rfl, rfl, rfl, rfl, rfl, rfl, trivial⟩ (Nat.lt_succ_self _) ⟨y33, y37, (IntKind.i64.wrap (y32 + 1)), A34, c35, D36, rfl, hS.pick [0, 1, 2, 3] [] rfl, H⟩
              · replace H := pif_f (of_decide_eq_false hb) H
                refine CJ.exit (EJ.skE (EJ.skE (EJ.hit (?_))))
                exact EJ.meet (F' := [(3, .pointer (some ⟨b1, 0, none⟩)), (11, .slice A28 y27.length c29), (40, .int .i64 (IntKind.i64.wrap (a2 - 1))), (41, .int .i64 y16)]) ⟨rfl, rfl, rfl, rfl, trivial⟩ ⟨y27, A28, c29, D30, H, rfl, hS.pick [0, 2] [] rfl⟩
          · rintro F w1 ⟨y23, A24, c25, D26, he, rfl, hS⟩
            obtain rfl := Option.some.inj he
            have H := K2030
            refine EJ.next ?_
            refine CJ.region ?_
            refine OJ.pures tU_ok 2 rfl ?_
            refine OJ.nil (EJ.blk (?_))
            exact EJ.meet (F' := [(3, .pointer (some ⟨b1, 0, none⟩)), (10, .slice A24 y23.length c25), (40, .int .i64 (IntKind.i64.wrap (a2 - 1))), (41, .int .i64 y16)]) ⟨rfl, rfl, rfl, rfl, trivial⟩ ⟨y23, A24, c25, D26, H, rfl, hS.pick [0, 1] [] rfl⟩
        · rintro F w1 ⟨y17, A18, c19, D20, he, rfl, hS⟩
          obtain rfl := Option.some.inj he
          have H := K1857
          refine CJ.region ?_
          refine OJ.pures tU_ok 2 rfl ?_
          refine OJ.nil ?_
          exact EJ.round k (F' := [(3, .pointer (some ⟨b1, 0, none⟩)), (10, .slice A18 y17.length c19), (40, .int .i64 (IntKind.i64.wrap (a2 - 1))), (41, .int .i64 (IntKind.i64.wrap (y16 + 1)))]) ⟨rfl, rfl, rfl, rfl, trivial⟩ (Nat.lt_succ_self _) ⟨y17, (IntKind.i64.wrap (y16 + 1)), A18, c19, D20, rfl, hS.pick [0, 1] [] rfl, H⟩
      · replace H := pif_f (of_decide_eq_false hb) H
        refine CJ.exit (EJ.skE (EJ.skE (EJ.hit (?_))))
        exact EJ.meet (F' := [(3, .pointer (some ⟨b1, 0, none⟩)), (10, .slice A13 y12.length c14)]) ⟨rfl, rfl, trivial⟩ ⟨y12, A13, c14, D15, H, rfl, hS.pick [0, 1] [] rfl⟩
  rintro F w1 ⟨y8, A9, c10, D11, he, rfl, hS⟩
  obtain rfl := Option.some.inj he
  have H := K1166
  refine EJ.next ?_
  refine CJ.seq ?_
  refine CJ.region ?_
  refine OJ.pures tU_ok 2 rfl ?_
  refine OJ.nil (EJ.next ?_)
  refine CJ.seq ?_
  refine CJ.seq ?_
  refine CJ.region ?_
  refine OJ.pures tU_ok 3 rfl ?_
  refine OJ.nil (EJ.next ?_)
  replace hS := hS.freezeSO (O := (fun b => w.heap.size ≤ b ∨ False)) (fun b hb => .inl hb) (i := 1) rfl
  obtain ⟨j2202, H, K2202⟩ := pbind H
  refine CJ.cut1 (fun F w1 => ∃ (y104 : List Spot) (y107 : Int) (A105 : Option Addr) (c106 : Nat), (some (y104, y107) : Option ((List Spot) × Int)) = some j2202 ∧ F = [(21, .slice A105 y104.length c106), (22, .int .i64 y107)] ∧ St w no w1 [] [rosO (fun b => w.heap.size ≤ b ∨ False) cSpot A9 c10 D11 y8, roO (fun b => w.heap.size ≤ b ∨ False) cSpot A105 c106 y104]) ?_ ?_
  · skip
    refine CJ.block ?_
    replace hS := hS.addNilO (fun b => w.heap.size ≤ b ∨ False) cSpot none
    refine CJ.loop (fun k F w1 => ∃ (y108 : List Spot) (y111 : Int) (y112 : Int) (A109 : Option Addr) (c110 : Nat), F = [(3, .pointer (some ⟨b1, 0, none⟩)), (21, .slice A109 y108.length c110), (22, .int .i64 y111), (95, .slice A9 y8.length c10), (96, .int .i64 (y8.length : Int)), (97, .int .i64 y112)] ∧ St w no w1 [box b1 (cPasture.enc a0) 31] [rosO (fun b => w.heap.size ≤ b ∨ False) cSpot A9 c10 D11 y8, roO (fun b => w.heap.size ≤ b ∨ False) cSpot A109 c110 y108] ∧ impl_SmallYard.l5 a0 y8 k y108 y111 y112 = some j2202) k (F' := [(3, .pointer (some ⟨b1, 0, none⟩)), (21, .slice none ([] : List Spot).length 0), (22, .int .i64 (-1)), (95, .slice A9 y8.length c10), (96, .int .i64 (y8.length : Int)), (97, .int .i64 0)]) ⟨rfl, rfl, rfl, rfl, rfl, rfl, trivial⟩ ⟨([] : List Spot), (-1), 0, none, 0, rfl, hS.pick [0] [0, 1] rfl, H⟩ ?_
    rintro k F w1 ⟨y108, y111, y112, A109, c110, rfl, hS, H⟩
    cases k with
    | zero => rw [impl_SmallYard.l5] at H; cases H
    | succ k =>
      rw [impl_SmallYard.l5] at H
      refine CJ.seq ?_
      refine CJ.region ?_
      refine OJ.pures tU_ok 1 rfl ?_
      refine OJ.nil (EJ.next ?_)
      refine CJ.seq ?_
      refine CJ.cond rfl (fun hb => ?_) (fun hb => ?_)
      · replace H := pif_t (of_decide_eq_true hb) H
        refine CJ.skip (EJ.next ?_)
        refine CJ.seq ?_
        refine CJ.block ?_
        refine CJ.seq ?_
        refine CJ.region ?_
        obtain ⟨t113, ht113, H⟩ := pbind H
        obtain ⟨Ae113, ce113, g113, d113, hx113⟩ := ros_el (hS.rosHO (i := 0) rfl) ht113
        obtain ⟨ad113, e113⟩ := (ros_rd (hS.rosHO (i := 0) rfl)).some' g113
        refine OJ.st rfl rfl rfl (SR.idxS tU_ok tI_ok rfl rfl rfl rfl e113 rfl (getI_some ht113).1) ?_
        refine OJ.st rfl rfl rfl (SR.load rfl rfl (fun w' hx => ld1 tU_ok rfl rfl (CA.ext ((ros_rd (hS.rosHO (i := 0) rfl)).at_ e113 g113) hx) rfl)) ?_
        replace hS := hS.subRo (j := 0) rfl d113 hx113
        refine OJ.pures tU_ok 1 rfl ?_
        refine OJ.nil (EJ.next ?_)
        refine CJ.seq ?_
        refine CJ.region ?_
        refine OJ.st rfl rfl rfl (SR.load rfl rfl (fun w' hx => ldE tU_ok tI_ok rfl rfl rfl (CA.ext (hS.cells (i := 0) rfl) hx) rfl)) ?_
        refine OJ.pures tU_ok 1 rfl ?_
        obtain ⟨t114, ht114, H⟩ := pbind H
        refine OJ.callF rfl rfl rfl rfl rfl hb26 rfl (impl_Pasture_openSides.c k _ a0 Ae113 ce113 t113 (hS.rdO (i := 2) rfl) (hS.leO (i := 2) rfl) _ ht114) ?_
        rintro _ w1 ⟨A115, c116, rfl, hs⟩
        replace hS := hS.addN hs
        refine OJ.pures tU_ok 2 rfl ?_
        refine OJ.nil (EJ.next ?_)
        refine CJ.seq ?_
        refine CJ.region ?_
        refine OJ.pures tU_ok 3 rfl ?_
        refine OJ.split (t := 107) rfl (fun hb => ?_) (fun hb => ?_)
        · replace H := pif_t (of_decide_eq_true hb) H
          refine OJ.pures tU_ok 15 rfl ?_
          refine OJ.nil (EJ.next ?_)
          refine CJ.condT rfl ?_
          refine CJ.region ?_
          refine OJ.pures tU_ok 4 rfl ?_
          refine OJ.nil (EJ.blk (EJ.next ?_))
          refine CJ.region ?_
          refine OJ.pures tU_ok 2 rfl ?_
          refine OJ.nil ?_
          exact EJ.round k (F' := [(3, .pointer (some ⟨b1, 0, none⟩)), (21, .slice Ae113 t113.length ce113), (22, .int .i64 (t114.length : Int)), (95, .slice A9 y8.length c10), (96, .int .i64 (y8.length : Int)), (97, .int .i64 (IntKind.i64.wrap (y112 + 1)))]) ⟨rfl, rfl, rfl, rfl, rfl, rfl, trivial⟩ (Nat.lt_succ_self _) ⟨t113, (t114.length : Int), (IntKind.i64.wrap (y112 + 1)), Ae113, ce113, rfl, hS.pick [0] [0, 2] rfl, H⟩
        · replace H := pif_f (of_decide_eq_false hb) H
          refine OJ.pures tU_ok 5 rfl ?_
          refine OJ.split (t := 112) rfl (fun hb => ?_) (fun hb => ?_)
          · replace H := pif_t (of_decide_eq_true hb) H
            refine OJ.pures tU_ok 10 rfl ?_
            refine OJ.nil (EJ.next ?_)
            refine CJ.condT rfl ?_
            refine CJ.region ?_
            refine OJ.pures tU_ok 4 rfl ?_
            refine OJ.nil (EJ.blk (EJ.next ?_))
            refine CJ.region ?_
            refine OJ.pures tU_ok 2 rfl ?_
            refine OJ.nil ?_
            exact EJ.round k (F' := [(3, .pointer (some ⟨b1, 0, none⟩)), (21, .slice Ae113 t113.length ce113), (22, .int .i64 (t114.length : Int)), (95, .slice A9 y8.length c10), (96, .int .i64 (y8.length : Int)), (97, .int .i64 (IntKind.i64.wrap (y112 + 1)))]) ⟨rfl, rfl, rfl, rfl, rfl, rfl, trivial⟩ (Nat.lt_succ_self _) ⟨t113, (t114.length : Int), (IntKind.i64.wrap (y112 + 1)), Ae113, ce113, rfl, hS.pick [0] [0, 2] rfl, H⟩
          · replace H := pif_f (of_decide_eq_false hb) H
            refine OJ.pures tU_ok 4 rfl ?_
            refine OJ.split (t := 116) rfl (fun hb => ?_) (fun hb => ?_)
            · replace H := pif_t (of_decide_eq_true hb) H
              refine OJ.pures tU_ok 2 rfl ?_
              obtain ⟨t117, ht117, H⟩ := pbind H
              refine OJ.callF rfl rfl rfl rfl rfl hb27 rfl (slices_CompareFunc_impl_Spot_impl_Spot_impl_Spot_impl_Spot.c k _ Ae113 ce113 t113 (hS.rdO (i := 2) rfl) (hS.leO (i := 2) rfl) A109 c110 y108 (hS.rdO (i := 1) rfl) (hS.leO (i := 1) rfl) 28 #[] #[] hb28 impl_compareSpots.f (fun z0 z1 r h w' hx => CV.cast (impl_compareSpots.c w'   z0 z1 r h) (by simp)) _ ht117) ?_
              rintro _ w1 ⟨rfl, hs⟩
              replace hS := hS.grow hs
              refine OJ.pures tU_ok 3 rfl ?_
              refine OJ.nil (EJ.next ?_)
              refine CJ.cond rfl (fun hb => ?_) (fun hb => ?_)
              · replace H := pif_t (of_decide_eq_true hb) H
                refine CJ.region ?_
                refine OJ.pures tU_ok 4 rfl ?_
                refine OJ.nil (EJ.blk (EJ.next ?_))
                refine CJ.region ?_
                refine OJ.pures tU_ok 2 rfl ?_
                refine OJ.nil ?_
                exact EJ.round k (F' := [(3, .pointer (some ⟨b1, 0, none⟩)), (21, .slice Ae113 t113.length ce113), (22, .int .i64 (t114.length : Int)), (95, .slice A9 y8.length c10), (96, .int .i64 (y8.length : Int)), (97, .int .i64 (IntKind.i64.wrap (y112 + 1)))]) ⟨rfl, rfl, rfl, rfl, rfl, rfl, trivial⟩ (Nat.lt_succ_self _) ⟨t113, (t114.length : Int), (IntKind.i64.wrap (y112 + 1)), Ae113, ce113, rfl, hS.pick [0] [0, 2] rfl, H⟩
              · replace H := pif_f (of_decide_eq_false hb) H
                refine CJ.skip (EJ.blk (EJ.next ?_))
                refine CJ.region ?_
                refine OJ.pures tU_ok 2 rfl ?_
                refine OJ.nil ?_
                exact EJ.round k (F' := [(3, .pointer (some ⟨b1, 0, none⟩)), (21, .slice A109 y108.length c110), (22, .int .i64 y111), (95, .slice A9 y8.length c10), (96, .int .i64 (y8.length : Int)), (97, .int .i64 (IntKind.i64.wrap (y112 + 1)))]) ⟨rfl, rfl, rfl, rfl, rfl, rfl, trivial⟩ (Nat.lt_succ_self _) ⟨y108, y111, (IntKind.i64.wrap (y112 + 1)), A109, c110, rfl, hS.pick [0] [0, 1] rfl, H⟩
            · replace H := pif_f (of_decide_eq_false hb) H
              refine OJ.pures tU_ok 6 rfl ?_
              refine OJ.nil (EJ.next ?_)
              refine CJ.condF rfl ?_
              refine CJ.skip (EJ.blk (EJ.next ?_))
              refine CJ.region ?_
              refine OJ.pures tU_ok 2 rfl ?_
              refine OJ.nil ?_
              exact EJ.round k (F' := [(3, .pointer (some ⟨b1, 0, none⟩)), (21, .slice A109 y108.length c110), (22, .int .i64 y111), (95, .slice A9 y8.length c10), (96, .int .i64 (y8.length : Int)), (97, .int .i64 (IntKind.i64.wrap (y112 + 1)))]) ⟨rfl, rfl, rfl, rfl, rfl, rfl, trivial⟩ (Nat.lt_succ_self _) ⟨y108, y111, (IntKind.i64.wrap (y112 + 1)), A109, c110, rfl, hS.pick [0] [0, 1] rfl, H⟩
      · replace H := pif_f (of_decide_eq_false hb) H
        refine CJ.exit (EJ.skE (EJ.skE (EJ.hit (?_))))
        exact EJ.meet (F' := [(21, .slice A109 y108.length c110), (22, .int .i64 y111)]) ⟨rfl, rfl, trivial⟩ ⟨y108, y111, A109, c110, H, rfl, hS.pick [] [0, 1] rfl⟩
  rintro F w1 ⟨y104, y107, A105, c106, he, rfl, hS⟩
  obtain rfl := Option.some.inj he
  have H := K2202
  refine EJ.next ?_
  refine CJ.seq ?_
  refine CJ.seq ?_
  refine CJ.region ?_
  refine OJ.pures tU_ok 2 rfl ?_
  refine OJ.nil (EJ.next ?_)
  refine CJ.cond rfl (fun hb => ?_) (fun hb => ?_)
  · replace H := pif_t (of_decide_eq_true hb) H
    refine CJ.seq ?_
    refine CJ.region ?_
    refine OJ.pures tU_ok 3 rfl ?_
    refine OJ.nil (EJ.next ?_)
    refine CJ.ret (EJ.skR (?_))
    replace hS := hS.addNilO (fun b => w.heap.size ≤ b ∨ False) cSpot none
    obtain rfl := Option.some.inj H
    exact EJ.fin rfl (.tmp rfl (.tmp rfl (.tmp rfl .nil))) ⟨none, 0, rfl, hS.ext, hS.holdsO (i := 2) rfl⟩
  replace H := pif_f (of_decide_eq_false hb) H
  refine CJ.skip (EJ.next ?_)
  refine CJ.seq ?_
  refine CJ.region ?_
  refine OJ.pures tU_ok 5 rfl ?_
  refine OJ.nil (EJ.next ?_)
  refine CJ.ret (?_)
  obtain rfl := Option.some.inj H
  exact EJ.fin rfl (.tmp rfl (.tmp rfl (.tmp rfl .nil))) ⟨A105, c106, rfl, hS.ext, hS.holdsO (i := 1) rfl⟩

def spec_l01Grass.f (a0 : Int) : Option Bool := (spec_l00In.f a0 0 1000).bind fun t1 => some t1
theorem spec_l01Grass.c (w : World) (a0 : Int) (r : Bool) (H : spec_l01Grass.f a0 = some r) :
    CV Tryz.prog 81 [.int .i64 a0].toArray w fun v w' => v = .bool r ∧ Ext w w' := by
  have hS := (St.init w no)
  unfold spec_l01Grass.f at H
  refine CV.body Tryz.func81 rfl Tryz.ntmps81 rfl ?_
  refine CJ.seq ?_
  refine CJ.region ?_
  refine OJ.pures tU_ok 1 rfl ?_
  refine OJ.nil (EJ.next ?_)
  refine CJ.seq ?_
  refine CJ.region ?_
  refine OJ.pures tU_ok 1 rfl ?_
  obtain ⟨t1, ht1, H⟩ := pbind H
  refine OJ.callF rfl rfl rfl rfl rfl hb30 rfl (spec_l00In.c _ a0 0 1000 _ ht1) ?_
  rintro _ w1 ⟨rfl, hs⟩
  replace hS := hS.grow hs
  refine OJ.pures tU_ok 1 rfl ?_
  refine OJ.nil (EJ.next ?_)
  refine CJ.ret (?_)
  obtain rfl := Option.some.inj H
  exact EJ.fin rfl (.tmp rfl .nil) ⟨rfl, hS.ext⟩

def spec_l01Ok.l2 (a0 : Pasture) (y4 : Int) : Nat → Int → Option (((Bool ⊕ Unit) ⊕ Unit) ⊕ Unit)
  | 0, _ => none
  | k + 1, y5 => if y5 < 10 then ((getI a0.Grass.l y4).bind fun t6 => (getI t6.l y5).bind fun t7 => (spec_l01Grass.f (IntKind.i64.wrap t7)).bind fun t8 => if (!t8) = true then (some (Sum.inl (Sum.inl (Sum.inl false)))) else (if 0 < (IntKind.i64.wrap t7) then ((spec_l01Is.f a0 (⟨y5, y4⟩ : Spot)).bind fun t9 => if (!t9) = true then (some (Sum.inl (Sum.inl (Sum.inl false)))) else (spec_l01Ok.l2 a0 y4 k (IntKind.i8.wrap (y5 + 1)))) else (spec_l01Ok.l2 a0 y4 k (IntKind.i8.wrap (y5 + 1))))) else (some (Sum.inr ()))
def spec_l01Ok.l1 (a0 : Pasture) : Nat → Int → Option (Bool ⊕ Unit)
  | 0, _ => none
  | k + 1, y4 => if y4 < 10 then (((spec_l01Ok.l2 a0 y4 k 0).bind fun s2213 => match s2213 with | .inl r => some r | .inr _ => (chk (0 ≤ (IntKind.u64.wrap a0.Wide))).bind fun u10 => if a0.High ≤ y4 then ((getI a0.East.l y4).bind fun t11 => if (andNotI .u16 t11 (shrI .u16 0 1)) ≠ 0 then (some (Sum.inl (Sum.inl false))) else (if (IntKind.i8.wrap (a0.High - 1)) ≤ y4 then ((getI a0.South.l y4).bind fun t12 => if (andNotI .u16 t12 0) ≠ 0 then (some (Sum.inl (Sum.inl false))) else (some (Sum.inr ()))) else ((getI a0.South.l y4).bind fun t13 => if (andNotI .u16 t13 0) ≠ 0 then (some (Sum.inl (Sum.inl false))) else (some (Sum.inr ()))))) else ((getI a0.East.l y4).bind fun t14 => if (andNotI .u16 t14 (shrI .u16 (IntKind.u16.wrap ((shlI .u16 1 (IntKind.u64.wrap a0.Wide)) - 1)) 1)) ≠ 0 then (some (Sum.inl (Sum.inl false))) else (if (IntKind.i8.wrap (a0.High - 1)) ≤ y4 then ((getI a0.South.l y4).bind fun t15 => if (andNotI .u16 t15 0) ≠ 0 then (some (Sum.inl (Sum.inl false))) else (some (Sum.inr ()))) else ((getI a0.South.l y4).bind fun t16 => if (andNotI .u16 t16 (IntKind.u16.wrap ((shlI .u16 1 (IntKind.u64.wrap a0.Wide)) - 1))) ≠ 0 then (some (Sum.inl (Sum.inl false))) else (some (Sum.inr ())))))).bind fun s2211 => match s2211 with | .inl r => some r | .inr _ => spec_l01Ok.l1 a0 k (IntKind.i8.wrap (y4 + 1))) else (some (Sum.inr ()))
def spec_l01Ok.f (k : Nat) (a0 : Pasture) : Option Bool := ((spec_l00In.f (IntKind.i64.wrap a0.Wide) 1 10).bind fun t2 => if (!t2) = true then (some true) else ((spec_l00In.f (IntKind.i64.wrap a0.High) 1 10).bind fun t3 => some (!t3))).bind fun y1 => if y1 = true then (some false) else ((spec_l01Ok.l1 a0 k 0).bind fun s2204 => match s2204 with | .inl r => some r | .inr _ => some true)
theorem spec_l01Ok.c (k : Nat) (w : World) (pa0 : Addr) (a0 : Pasture) (hp0 : CA w pa0 (cPasture.enc a0)) (r : Bool) (H : spec_l01Ok.f k a0 = some r) :
    CV Tryz.prog 57 [.pointer (some pa0)].toArray w fun v w' => v = .bool r ∧ Ext w w' := by
  have hS := ((St.init w no).paramP pa0 (cPasture.enc a0) hp0)
  unfold spec_l01Ok.f at H
  refine CV.body Tryz.func57 rfl Tryz.ntmps57 rfl ?_
  refine CJ.seq ?_
  refine CJ.region ?_
  refine OJ.pures tU_ok 1 rfl ?_
  refine OJ.nil (EJ.next ?_)
  refine CJ.seq ?_
  obtain ⟨j2203, H, K2203⟩ := pbind H
  refine CJ.cut (fun F w1 => ∃ (y1 : Bool) , (some y1 : Option Bool) = some j2203 ∧ F = [(0, .pointer (some pa0)), (22, .bool y1)] ∧ St w no w1 [] [roP pa0 (cPasture.enc a0)]) ?_ ?_
  · skip
    refine CJ.region ?_
    refine OJ.pures tU_ok 2 rfl ?_
    refine OJ.st rfl rfl rfl (SR.fieldAddr tU_ok tI_ok rfl rfl rfl rfl rfl rfl) ?_
    refine OJ.st rfl rfl rfl (SR.load rfl rfl (fun w' hx => ld1 tU_ok rfl rfl (CA.ext (CA.fld (hS.ca (i := 0) rfl) (mid_part (fe_Pasture_0 _) (fl_Pasture_0 _) ((ci .i8).len _))) hx) rfl)) ?_
    refine OJ.pures tU_ok 1 rfl ?_
    obtain ⟨t2, ht2, H⟩ := pbind H
    refine OJ.callF rfl rfl rfl rfl rfl hb30 rfl (spec_l00In.c _ (IntKind.i64.wrap a0.Wide) 1 10 _ ht2) ?_
    rintro _ w1 ⟨rfl, hs⟩
    replace hS := hS.grow hs
    refine OJ.pures tU_ok 2 rfl ?_
    refine OJ.split (t := 14) rfl (fun hb => ?_) (fun hb => ?_)
    · replace H := pif_t hb H
      refine OJ.pures tU_ok 8 rfl ?_
      refine OJ.nil ?_
      exact EJ.meet (F' := [(0, .pointer (some pa0)), (22, .bool true)]) ⟨rfl, rfl, trivial⟩ ⟨true, H, rfl, hS.pick [] [0] rfl⟩
    replace H := pifb_f hb H
    refine OJ.pures tU_ok 2 rfl ?_
    refine OJ.st rfl rfl rfl (SR.fieldAddr tU_ok tI_ok rfl rfl rfl rfl rfl rfl) ?_
    refine OJ.st rfl rfl rfl (SR.load rfl rfl (fun w' hx => ld1 tU_ok rfl rfl (CA.ext (CA.fld (hS.ca (i := 0) rfl) (mid_part (fe_Pasture_1 _) (fl_Pasture_1 _) ((ci .i8).len _))) hx) rfl)) ?_
    refine OJ.pures tU_ok 1 rfl ?_
    obtain ⟨t3, ht3, H⟩ := pbind H
    refine OJ.callF rfl rfl rfl rfl rfl hb30 rfl (spec_l00In.c _ (IntKind.i64.wrap a0.High) 1 10 _ ht3) ?_
    rintro _ w1 ⟨rfl, hs⟩
    replace hS := hS.grow hs
    refine OJ.pures tU_ok 2 rfl ?_
    refine OJ.nil ?_
    exact EJ.meet (F' := [(0, .pointer (some pa0)), (22, .bool (!t3))]) ⟨rfl, rfl, trivial⟩ ⟨(!t3), H, rfl, hS.pick [] [0] rfl⟩
  rintro F w1 ⟨y1, he, rfl, hS⟩
  obtain rfl := Option.some.inj he
  have H := K2203
  refine CJ.cond rfl (fun hb => ?_) (fun hb => ?_)
  · replace H := pif_t hb H
    refine CJ.seq ?_
    refine CJ.region ?_
    refine OJ.pures tU_ok 1 rfl ?_
    refine OJ.nil (EJ.next ?_)
    refine CJ.ret (EJ.skR (?_))
    obtain rfl := Option.some.inj H
    exact EJ.fin rfl (.tmp rfl .nil) ⟨rfl, hS.ext⟩
  replace H := pifb_f hb H
  refine CJ.skip (EJ.next ?_)
  refine CJ.seq ?_
  refine CJ.seq ?_
  refine CJ.region ?_
  refine OJ.pures tU_ok 1 rfl ?_
  refine OJ.nil (EJ.next ?_)
  obtain ⟨j2204, H, K2204⟩ := pbind H
  refine CJ.cut1 (fun F w1 => (some (Sum.inr ()) : Option (Bool ⊕ Unit)) = some j2204 ∧ F = [] ∧ St w no w1 [] [roP pa0 (cPasture.enc a0)]) ?_ ?_
  · skip
    refine CJ.block ?_
    refine CJ.loop (fun k F w1 => ∃ (y4 : Int), F = [(0, .pointer (some pa0)), (3, .int .i8 y4)] ∧ St w no w1 [] [roP pa0 (cPasture.enc a0)] ∧ spec_l01Ok.l1 a0 k y4 = some j2204) k (F' := [(0, .pointer (some pa0)), (3, .int .i8 0)]) ⟨rfl, rfl, trivial⟩ ⟨0, rfl, hS.pick [] [0] rfl, H⟩ ?_
    rintro k F w1 ⟨y4, rfl, hS, H⟩
    cases k with
    | zero => rw [spec_l01Ok.l1] at H; cases H
    | succ k =>
      rw [spec_l01Ok.l1] at H
      refine CJ.seq ?_
      refine CJ.seq ?_
      refine CJ.region ?_
      refine OJ.pures tU_ok 2 rfl ?_
      refine OJ.nil (EJ.next ?_)
      refine CJ.cond rfl (fun hb => ?_) (fun hb => ?_)
      · replace H := pif_t (of_decide_eq_true hb) H
        refine CJ.skip (EJ.next ?_)
        obtain ⟨j2211, H, K2211⟩ := pbind H
        refine CJ.cut (fun F w1 => (some (Sum.inr ()) : Option ((Bool ⊕ Unit) ⊕ Unit)) = some j2211 ∧ F = [(0, .pointer (some pa0)), (3, .int .i8 y4)] ∧ St w no w1 [] [roP pa0 (cPasture.enc a0)]) ?_ ?_
        · skip
          refine CJ.block ?_
          refine CJ.seq ?_
          refine CJ.seq ?_
          refine CJ.region ?_
          refine OJ.pures tU_ok 1 rfl ?_
          refine OJ.nil (EJ.next ?_)
          obtain ⟨j2213, H, K2213⟩ := pbind H
          refine CJ.cut1 (fun F w1 => (some (Sum.inr ()) : Option (((Bool ⊕ Unit) ⊕ Unit) ⊕ Unit)) = some j2213 ∧ F = [(0, .pointer (some pa0)), (3, .int .i8 y4)] ∧ St w no w1 [] [roP pa0 (cPasture.enc a0)]) ?_ ?_
          · skip
            refine CJ.block ?_
            refine CJ.loop (fun k F w1 => ∃ (y5 : Int), F = [(0, .pointer (some pa0)), (3, .int .i8 y4), (4, .int .i8 y5)] ∧ St w no w1 [] [roP pa0 (cPasture.enc a0)] ∧ spec_l01Ok.l2 a0 y4 k y5 = some j2213) k (F' := [(0, .pointer (some pa0)), (3, .int .i8 y4), (4, .int .i8 0)]) ⟨rfl, rfl, rfl, trivial⟩ ⟨0, rfl, hS.pick [] [0] rfl, H⟩ ?_
            rintro k F w1 ⟨y5, rfl, hS, H⟩
            cases k with
            | zero => rw [spec_l01Ok.l2] at H; cases H
            | succ k =>
              rw [spec_l01Ok.l2] at H
              refine CJ.seq ?_
              refine CJ.seq ?_
              refine CJ.region ?_
              refine OJ.pures tU_ok 2 rfl ?_
              refine OJ.nil (EJ.next ?_)
              refine CJ.cond rfl (fun hb => ?_) (fun hb => ?_)
              · replace H := pif_t (of_decide_eq_true hb) H
                refine CJ.skip (EJ.next ?_)
                refine CJ.seq ?_
                refine CJ.block ?_
                refine CJ.seq ?_
                refine CJ.region ?_
                refine OJ.pures tU_ok 4 rfl ?_
                refine OJ.st rfl rfl rfl (SR.fieldAddr tU_ok tI_ok rfl rfl rfl rfl rfl rfl) ?_
                obtain ⟨t6, ht6, H⟩ := pbind H
                refine OJ.st rfl rfl rfl (SR.idxA tU_ok tI_ok rfl rfl rfl rfl rfl (Arr.lt ht6)) ?_
                obtain ⟨t7, ht7, H⟩ := pbind H
                refine OJ.st rfl rfl rfl (SR.idxA tU_ok tI_ok rfl rfl rfl rfl rfl (Arr.lt ht7)) ?_
                refine OJ.st rfl rfl rfl (SR.load rfl rfl (fun w' hx => ld1 tU_ok rfl rfl (CA.ext (CA.idx (CA.idx (CA.fld (hS.ca (i := 0) rfl) (mid_part (fe_Pasture_2 _) (fl_Pasture_2 _) ((carr 10 (carr 10 (ci .i16))).len _))) ht6) ht7) hx) rfl)) ?_
                refine OJ.pures tU_ok 2 rfl ?_
                refine OJ.nil (EJ.next ?_)
                refine CJ.seq ?_
                refine CJ.region ?_
                refine OJ.pures tU_ok 1 rfl ?_
                obtain ⟨t8, ht8, H⟩ := pbind H
                refine OJ.callF rfl rfl rfl rfl rfl hb81 rfl (spec_l01Grass.c _ (IntKind.i64.wrap t7) _ ht8) ?_
                rintro _ w1 ⟨rfl, hs⟩
                replace hS := hS.grow hs
                refine OJ.pures tU_ok 2 rfl ?_
                refine OJ.split (t := 43) rfl (fun hb => ?_) (fun hb => ?_)
                · replace H := pif_t hb H
                  refine OJ.pures tU_ok 11 rfl ?_
                  refine OJ.nil (EJ.next ?_)
                  refine CJ.condT rfl ?_
                  refine CJ.seq ?_
                  refine CJ.region ?_
                  refine OJ.pures tU_ok 1 rfl ?_
                  refine OJ.nil (EJ.next ?_)
                  refine CJ.ret (EJ.bkR (EJ.skR (EJ.skR (EJ.bkR (EJ.skR (EJ.skR (EJ.bkR (EJ.skR (EJ.skR (EJ.bkR (EJ.skR (EJ.skR (?_)))))))))))))
                  obtain rfl := Option.some.inj H; have H := K2213
                  obtain rfl := Option.some.inj H; have H := K2211
                  obtain rfl := Option.some.inj H; have H := K2204
                  obtain rfl := Option.some.inj H
                  exact EJ.fin rfl (.tmp rfl .nil) ⟨rfl, hS.ext⟩
                · replace H := pifb_f hb H
                  refine OJ.pures tU_ok 3 rfl ?_
                  refine OJ.split (t := 46) rfl (fun hb => ?_) (fun hb => ?_)
                  · replace H := pif_t (of_decide_eq_true hb) H
                    refine OJ.pures tU_ok 3 rfl ?_
                    refine OJ.st rfl rfl rfl (SR.build (C := cSpot) tU_ok tI_ok rfl rfl rfl (zs := [.int .i8 0, .int .i8 0]) rfl rfl rfl (⟨y5, y4⟩ : Spot) rfl) ?_
                    obtain ⟨t9, ht9, H⟩ := pbind H
                    refine OJ.callF rfl rfl rfl rfl rfl hb38 rfl (spec_l01Is.c _ _ a0 (hS.ca (i := 0) rfl) (⟨y5, y4⟩ : Spot) _ ht9) ?_
                    rintro _ w1 ⟨rfl, hs⟩
                    replace hS := hS.grow hs
                    refine OJ.pures tU_ok 3 rfl ?_
                    refine OJ.nil (EJ.next ?_)
                    refine CJ.cond rfl (fun hb => ?_) (fun hb => ?_)
                    · replace H := pif_t hb H
                      refine CJ.seq ?_
                      refine CJ.region ?_
                      refine OJ.pures tU_ok 1 rfl ?_
                      refine OJ.nil (EJ.next ?_)
                      refine CJ.ret (EJ.bkR (EJ.skR (EJ.skR (EJ.bkR (EJ.skR (EJ.skR (EJ.bkR (EJ.skR (EJ.skR (EJ.bkR (EJ.skR (EJ.skR (?_)))))))))))))
                      obtain rfl := Option.some.inj H; have H := K2213
                      obtain rfl := Option.some.inj H; have H := K2211
                      obtain rfl := Option.some.inj H; have H := K2204
                      obtain rfl := Option.some.inj H
                      exact EJ.fin rfl (.tmp rfl .nil) ⟨rfl, hS.ext⟩
                    · replace H := pifb_f hb H
                      refine CJ.skip (EJ.blk (EJ.next ?_))
                      refine CJ.region ?_
                      refine OJ.pures tU_ok 3 rfl ?_
                      refine OJ.nil ?_
                      exact EJ.round k (F' := [(0, .pointer (some pa0)), (3, .int .i8 y4), (4, .int .i8 (IntKind.i8.wrap (y5 + 1)))]) ⟨rfl, rfl, rfl, trivial⟩ (Nat.lt_succ_self _) ⟨(IntKind.i8.wrap (y5 + 1)), rfl, hS.pick [] [0] rfl, H⟩
                  · replace H := pif_f (of_decide_eq_false hb) H
                    refine OJ.pures tU_ok 8 rfl ?_
                    refine OJ.nil (EJ.next ?_)
                    refine CJ.condF rfl ?_
                    refine CJ.skip (EJ.blk (EJ.next ?_))
                    refine CJ.region ?_
                    refine OJ.pures tU_ok 3 rfl ?_
                    refine OJ.nil ?_
                    exact EJ.round k (F' := [(0, .pointer (some pa0)), (3, .int .i8 y4), (4, .int .i8 (IntKind.i8.wrap (y5 + 1)))]) ⟨rfl, rfl, rfl, trivial⟩ (Nat.lt_succ_self _) ⟨(IntKind.i8.wrap (y5 + 1)), rfl, hS.pick [] [0] rfl, H⟩
              · replace H := pif_f (of_decide_eq_false hb) H
                refine CJ.exit (EJ.skE (EJ.skE (EJ.hit (?_))))
                exact EJ.meet (F' := [(0, .pointer (some pa0)), (3, .int .i8 y4)]) ⟨rfl, rfl, trivial⟩ ⟨H, rfl, hS.pick [] [0] rfl⟩
          · rintro F w1 ⟨he, rfl, hS⟩
            obtain rfl := Option.some.inj he
            have H := K2213
            refine EJ.next ?_
            refine CJ.seq ?_
            refine CJ.region ?_
            refine OJ.pures tU_ok 2 rfl ?_
            refine OJ.st rfl rfl rfl (SR.fieldAddr tU_ok tI_ok rfl rfl rfl rfl rfl rfl) ?_
            refine OJ.st rfl rfl rfl (SR.load rfl rfl (fun w' hx => ld1 tU_ok rfl rfl (CA.ext (CA.fld (hS.ca (i := 0) rfl) (mid_part (fe_Pasture_0 _) (fl_Pasture_0 _) ((ci .i8).len _))) hx) rfl)) ?_
            refine OJ.pures tU_ok 1 rfl ?_
            obtain ⟨u10, hu10, H⟩ := pbind H
            refine OJ.st rfl rfl rfl (SR.shl rfl rfl rfl (chk_some hu10)) ?_
            refine OJ.pures tU_ok 2 rfl ?_
            refine OJ.nil (EJ.next ?_)
            refine CJ.seq ?_
            refine CJ.seq ?_
            refine CJ.region ?_
            refine OJ.pures tU_ok 3 rfl ?_
            refine OJ.st rfl rfl rfl (SR.fieldAddr tU_ok tI_ok rfl rfl rfl rfl rfl rfl) ?_
            refine OJ.st rfl rfl rfl (SR.load rfl rfl (fun w' hx => ld1 tU_ok rfl rfl (CA.ext (CA.fld (hS.ca (i := 0) rfl) (mid_part (fe_Pasture_1 _) (fl_Pasture_1 _) ((ci .i8).len _))) hx) rfl)) ?_
            refine OJ.pures tU_ok 1 rfl ?_
            refine OJ.nil (EJ.next ?_)
            refine CJ.cond rfl (fun hb => ?_) (fun hb => ?_)
            · replace H := pif_t (of_decide_eq_true hb) H
              refine CJ.region ?_
              refine OJ.pures tU_ok 1 rfl ?_
              refine OJ.nil (EJ.next ?_)
              refine CJ.seq ?_
              refine CJ.seq ?_
              refine CJ.region ?_
              refine OJ.pures tU_ok 3 rfl ?_
              refine OJ.st rfl rfl rfl (SR.fieldAddr tU_ok tI_ok rfl rfl rfl rfl rfl rfl) ?_
              obtain ⟨t11, ht11, H⟩ := pbind H
              refine OJ.st rfl rfl rfl (SR.idxA tU_ok tI_ok rfl rfl rfl rfl rfl (Arr.lt ht11)) ?_
              refine OJ.st rfl rfl rfl (SR.load rfl rfl (fun w' hx => ld1 tU_ok rfl rfl (CA.ext (CA.idx (CA.fld (hS.ca (i := 0) rfl) (mid_part (fe_Pasture_3 _) (fl_Pasture_3 _) ((carr 10 (ci .u16)).len _))) ht11) hx) rfl)) ?_
              refine OJ.pures tU_ok 1 rfl ?_
              refine OJ.st rfl rfl rfl (SR.shr rfl rfl rfl (by decide)) ?_
              refine OJ.pures tU_ok 2 rfl ?_
              refine OJ.nil (EJ.next ?_)
              refine CJ.cond rfl (fun hb => ?_) (fun hb => ?_)
              · replace H := pif_t (of_decide_eq_true hb) H
                refine CJ.seq ?_
                refine CJ.region ?_
                refine OJ.pures tU_ok 1 rfl ?_
                refine OJ.nil (EJ.next ?_)
                refine CJ.ret (EJ.skR (EJ.bkR (EJ.skR (EJ.skR (EJ.bkR (EJ.skR (EJ.skR (?_))))))))
                obtain rfl := Option.some.inj H; have H := K2211
                obtain rfl := Option.some.inj H; have H := K2204
                obtain rfl := Option.some.inj H
                exact EJ.fin rfl (.tmp rfl .nil) ⟨rfl, hS.ext⟩
              · replace H := pif_f (of_decide_eq_false hb) H
                refine CJ.skip (EJ.next ?_)
                refine CJ.seq ?_
                refine CJ.seq ?_
                refine CJ.region ?_
                refine OJ.pures tU_ok 3 rfl ?_
                refine OJ.st rfl rfl rfl (SR.fieldAddr tU_ok tI_ok rfl rfl rfl rfl rfl rfl) ?_
                refine OJ.st rfl rfl rfl (SR.load rfl rfl (fun w' hx => ld1 tU_ok rfl rfl (CA.ext (CA.fld (hS.ca (i := 0) rfl) (mid_part (fe_Pasture_1 _) (fl_Pasture_1 _) ((ci .i8).len _))) hx) rfl)) ?_
                refine OJ.pures tU_ok 2 rfl ?_
                refine OJ.nil (EJ.next ?_)
                refine CJ.cond rfl (fun hb => ?_) (fun hb => ?_)
                · replace H := pif_t (of_decide_eq_true hb) H
                  refine CJ.region ?_
                  refine OJ.pures tU_ok 1 rfl ?_
                  refine OJ.nil (EJ.next ?_)
                  refine CJ.seq ?_
                  refine CJ.region ?_
                  refine OJ.pures tU_ok 3 rfl ?_
                  refine OJ.st rfl rfl rfl (SR.fieldAddr tU_ok tI_ok rfl rfl rfl rfl rfl rfl) ?_
                  obtain ⟨t12, ht12, H⟩ := pbind H
                  refine OJ.st rfl rfl rfl (SR.idxA tU_ok tI_ok rfl rfl rfl rfl rfl (Arr.lt ht12)) ?_
                  refine OJ.st rfl rfl rfl (SR.load rfl rfl (fun w' hx => ld1 tU_ok rfl rfl (CA.ext (CA.idx (CA.fld (hS.ca (i := 0) rfl) (mid_part (fe_Pasture_4 _) (fl_Pasture_4 _) ((carr 10 (ci .u16)).len _))) ht12) hx) rfl)) ?_
                  refine OJ.pures tU_ok 3 rfl ?_
                  refine OJ.nil (EJ.next ?_)
                  refine CJ.cond rfl (fun hb => ?_) (fun hb => ?_)
                  · replace H := pif_t (of_decide_eq_true hb) H
                    refine CJ.seq ?_
                    refine CJ.region ?_
                    refine OJ.pures tU_ok 1 rfl ?_
                    refine OJ.nil (EJ.next ?_)
                    refine CJ.ret (EJ.bkR (EJ.skR (EJ.skR (EJ.bkR (EJ.skR (EJ.skR (?_)))))))
                    obtain rfl := Option.some.inj H; have H := K2211
                    obtain rfl := Option.some.inj H; have H := K2204
                    obtain rfl := Option.some.inj H
                    exact EJ.fin rfl (.tmp rfl .nil) ⟨rfl, hS.ext⟩
                  · replace H := pif_f (of_decide_eq_false hb) H
                    refine CJ.skip (EJ.blk (?_))
                    exact EJ.meet (F' := [(0, .pointer (some pa0)), (3, .int .i8 y4)]) ⟨rfl, rfl, trivial⟩ ⟨H, rfl, hS.pick [] [0] rfl⟩
                · replace H := pif_f (of_decide_eq_false hb) H
                  refine CJ.skip (EJ.next ?_)
                  refine CJ.seq ?_
                  refine CJ.region ?_
                  refine OJ.pures tU_ok 3 rfl ?_
                  refine OJ.st rfl rfl rfl (SR.fieldAddr tU_ok tI_ok rfl rfl rfl rfl rfl rfl) ?_
                  obtain ⟨t13, ht13, H⟩ := pbind H
                  refine OJ.st rfl rfl rfl (SR.idxA tU_ok tI_ok rfl rfl rfl rfl rfl (Arr.lt ht13)) ?_
                  refine OJ.st rfl rfl rfl (SR.load rfl rfl (fun w' hx => ld1 tU_ok rfl rfl (CA.ext (CA.idx (CA.fld (hS.ca (i := 0) rfl) (mid_part (fe_Pasture_4 _) (fl_Pasture_4 _) ((carr 10 (ci .u16)).len _))) ht13) hx) rfl)) ?_
                  refine OJ.pures tU_ok 3 rfl ?_
                  refine OJ.nil (EJ.next ?_)
                  refine CJ.cond rfl (fun hb => ?_) (fun hb => ?_)
                  · replace H := pif_t (of_decide_eq_true hb) H
                    refine CJ.seq ?_
                    refine CJ.region ?_
                    refine OJ.pures tU_ok 1 rfl ?_
                    refine OJ.nil (EJ.next ?_)
                    refine CJ.ret (EJ.bkR (EJ.skR (EJ.skR (EJ.bkR (EJ.skR (EJ.skR (?_)))))))
                    obtain rfl := Option.some.inj H; have H := K2211
                    obtain rfl := Option.some.inj H; have H := K2204
                    obtain rfl := Option.some.inj H
                    exact EJ.fin rfl (.tmp rfl .nil) ⟨rfl, hS.ext⟩
                  · replace H := pif_f (of_decide_eq_false hb) H
                    refine CJ.skip (EJ.blk (?_))
                    exact EJ.meet (F' := [(0, .pointer (some pa0)), (3, .int .i8 y4)]) ⟨rfl, rfl, trivial⟩ ⟨H, rfl, hS.pick [] [0] rfl⟩
            · replace H := pif_f (of_decide_eq_false hb) H
              refine CJ.skip (EJ.next ?_)
              refine CJ.seq ?_
              refine CJ.seq ?_
              refine CJ.region ?_
              refine OJ.pures tU_ok 3 rfl ?_
              refine OJ.st rfl rfl rfl (SR.fieldAddr tU_ok tI_ok rfl rfl rfl rfl rfl rfl) ?_
              obtain ⟨t14, ht14, H⟩ := pbind H
              refine OJ.st rfl rfl rfl (SR.idxA tU_ok tI_ok rfl rfl rfl rfl rfl (Arr.lt ht14)) ?_
              refine OJ.st rfl rfl rfl (SR.load rfl rfl (fun w' hx => ld1 tU_ok rfl rfl (CA.ext (CA.idx (CA.fld (hS.ca (i := 0) rfl) (mid_part (fe_Pasture_3 _) (fl_Pasture_3 _) ((carr 10 (ci .u16)).len _))) ht14) hx) rfl)) ?_
              refine OJ.pures tU_ok 1 rfl ?_
              refine OJ.st rfl rfl rfl (SR.shr rfl rfl rfl (by decide)) ?_
              refine OJ.pures tU_ok 2 rfl ?_
              refine OJ.nil (EJ.next ?_)
              refine CJ.cond rfl (fun hb => ?_) (fun hb => ?_)
              · replace H := pif_t (of_decide_eq_true hb) H
                refine CJ.seq ?_
                refine CJ.region ?_
                refine OJ.pures tU_ok 1 rfl ?_
                refine OJ.nil (EJ.next ?_)
                refine CJ.ret (EJ.skR (EJ.bkR (EJ.skR (EJ.skR (EJ.bkR (EJ.skR (EJ.skR (?_))))))))
                obtain rfl := Option.some.inj H; have H := K2211
                obtain rfl := Option.some.inj H; have H := K2204
                obtain rfl := Option.some.inj H
                exact EJ.fin rfl (.tmp rfl .nil) ⟨rfl, hS.ext⟩
              · replace H := pif_f (of_decide_eq_false hb) H
                refine CJ.skip (EJ.next ?_)
                refine CJ.seq ?_
                refine CJ.seq ?_
                refine CJ.region ?_
                refine OJ.pures tU_ok 3 rfl ?_
                refine OJ.st rfl rfl rfl (SR.fieldAddr tU_ok tI_ok rfl rfl rfl rfl rfl rfl) ?_
                refine OJ.st rfl rfl rfl (SR.load rfl rfl (fun w' hx => ld1 tU_ok rfl rfl (CA.ext (CA.fld (hS.ca (i := 0) rfl) (mid_part (fe_Pasture_1 _) (fl_Pasture_1 _) ((ci .i8).len _))) hx) rfl)) ?_
                refine OJ.pures tU_ok 2 rfl ?_
                refine OJ.nil (EJ.next ?_)
                refine CJ.cond rfl (fun hb => ?_) (fun hb => ?_)
                · replace H := pif_t (of_decide_eq_true hb) H
                  refine CJ.region ?_
                  refine OJ.pures tU_ok 1 rfl ?_
                  refine OJ.nil (EJ.next ?_)
                  refine CJ.seq ?_
                  refine CJ.region ?_
                  refine OJ.pures tU_ok 3 rfl ?_
                  refine OJ.st rfl rfl rfl (SR.fieldAddr tU_ok tI_ok rfl rfl rfl rfl rfl rfl) ?_
                  obtain ⟨t15, ht15, H⟩ := pbind H
                  refine OJ.st rfl rfl rfl (SR.idxA tU_ok tI_ok rfl rfl rfl rfl rfl (Arr.lt ht15)) ?_
                  refine OJ.st rfl rfl rfl (SR.load rfl rfl (fun w' hx => ld1 tU_ok rfl rfl (CA.ext (CA.idx (CA.fld (hS.ca (i := 0) rfl) (mid_part (fe_Pasture_4 _) (fl_Pasture_4 _) ((carr 10 (ci .u16)).len _))) ht15) hx) rfl)) ?_
                  refine OJ.pures tU_ok 3 rfl ?_
                  refine OJ.nil (EJ.next ?_)
                  refine CJ.cond rfl (fun hb => ?_) (fun hb => ?_)
                  · replace H := pif_t (of_decide_eq_true hb) H
                    refine CJ.seq ?_
                    refine CJ.region ?_
                    refine OJ.pures tU_ok 1 rfl ?_
                    refine OJ.nil (EJ.next ?_)
                    refine CJ.ret (EJ.bkR (EJ.skR (EJ.skR (EJ.bkR (EJ.skR (EJ.skR (?_)))))))
                    obtain rfl := Option.some.inj H; have H := K2211
                    obtain rfl := Option.some.inj H; have H := K2204
                    obtain rfl := Option.some.inj H
                    exact EJ.fin rfl (.tmp rfl .nil) ⟨rfl, hS.ext⟩
                  · replace H := pif_f (of_decide_eq_false hb) H
                    refine CJ.skip (EJ.blk (?_))
                    exact EJ.meet (F' := [(0, .pointer (some pa0)), (3, .int .i8 y4)]) ⟨rfl, rfl, trivial⟩ ⟨H, rfl, hS.pick [] [0] rfl⟩
                · replace H := pif_f (of_decide_eq_false hb) H
                  refine CJ.skip (EJ.next ?_)
                  refine CJ.seq ?_
                  refine CJ.region ?_
                  refine OJ.pures tU_ok 3 rfl ?_
                  refine OJ.st rfl rfl rfl (SR.fieldAddr tU_ok tI_ok rfl rfl rfl rfl rfl rfl) ?_
                  obtain ⟨t16, ht16, H⟩ := pbind H
                  refine OJ.st rfl rfl rfl (SR.idxA tU_ok tI_ok rfl rfl rfl rfl rfl (Arr.lt ht16)) ?_
                  refine OJ.st rfl rfl rfl (SR.load rfl rfl (fun w' hx => ld1 tU_ok rfl rfl (CA.ext (CA.idx (CA.fld (hS.ca (i := 0) rfl) (mid_part (fe_Pasture_4 _) (fl_Pasture_4 _) ((carr 10 (ci .u16)).len _))) ht16) hx) rfl)) ?_
                  refine OJ.pures tU_ok 3 rfl ?_
                  refine OJ.nil (EJ.next ?_)
                  refine CJ.cond rfl (fun hb => ?_) (fun hb => ?_)
                  · replace H := pif_t (of_decide_eq_true hb) H
                    refine CJ.seq ?_
                    refine CJ.region ?_
                    refine OJ.pures tU_ok 1 rfl ?_
                    refine OJ.nil (EJ.next ?_)
                    refine CJ.ret (EJ.bkR (EJ.skR (EJ.skR (EJ.bkR (EJ.skR (EJ.skR (?_)))))))
                    obtain rfl := Option.some.inj H; have H := K2211
                    obtain rfl := Option.some.inj H; have H := K2204
                    obtain rfl := Option.some.inj H
                    exact EJ.fin rfl (.tmp rfl .nil) ⟨rfl, hS.ext⟩
                  · replace H := pif_f (of_decide_eq_false hb) H
                    refine CJ.skip (EJ.blk (?_))
                    exact EJ.meet (F' := [(0, .pointer (some pa0)), (3, .int .i8 y4)]) ⟨rfl, rfl, trivial⟩ ⟨H, rfl, hS.pick [] [0] rfl⟩
        · rintro F w1 ⟨he, rfl, hS⟩
          obtain rfl := Option.some.inj he
          have H := K2211
          refine CJ.region ?_
          refine OJ.pures tU_ok 3 rfl ?_
          refine OJ.nil ?_
          exact EJ.round k (F' := [(0, .pointer (some pa0)), (3, .int .i8 (IntKind.i8.wrap (y4 + 1)))]) ⟨rfl, rfl, trivial⟩ (Nat.lt_succ_self _) ⟨(IntKind.i8.wrap (y4 + 1)), rfl, hS.pick [] [0] rfl, H⟩
      · replace H := pif_f (of_decide_eq_false hb) H
        refine CJ.exit (EJ.skE (EJ.skE (EJ.hit (?_))))
        exact EJ.meet (F' := []) trivial ⟨H, rfl, hS.pick [] [0] rfl⟩
  rintro F w1 ⟨he, rfl, hS⟩
  obtain rfl := Option.some.inj he
  have H := K2204
  refine EJ.next ?_
  refine CJ.seq ?_
  refine CJ.region ?_
  refine OJ.pures tU_ok 1 rfl ?_
  refine OJ.nil (EJ.next ?_)
  refine CJ.ret (?_)
  obtain rfl := Option.some.inj H
  exact EJ.fin rfl (.tmp rfl .nil) ⟨rfl, hS.ext⟩

def spec_l01Asked.f (k : Nat) (a0 : Pasture) (a1 : Spot) (a2 : Bool) : Option Int := (spec_l01Ok.f k a0).bind fun t2 => if (!t2) = true then (some 1) else ((spec_l01Is.f a0 a1).bind fun t3 => if (!t3) = true then (some 2) else (if (!a2) = true then (some 2) else (some 0)))
theorem spec_l01Asked.c (k : Nat) (w : World) (pa0 : Addr) (a0 : Pasture) (hp0 : CA w pa0 (cPasture.enc a0)) (a1 : Spot) (a2 : Bool) (r : Int) (H : spec_l01Asked.f k a0 a1 a2 = some r) :
    CV Tryz.prog 29 [.pointer (some pa0), .agg (cSpot.enc a1).toArray, .bool a2].toArray w fun v w' => v = .int .i64 r ∧ Ext w w' := by
  have hS := ((St.init w no).paramP pa0 (cPasture.enc a0) hp0)
  unfold spec_l01Asked.f at H
  refine CV.body Tryz.func29 rfl Tryz.ntmps29 rfl ?_
  refine CJ.seq ?_
  refine CJ.region ?_
  refine OJ.ef rfl rfl rfl (Ef.box hS rfl rfl (cSpot.enc a1) rfl) ?_
  rintro _ w1 ⟨b1, rfl, hS⟩
  refine OJ.pures tU_ok 1 rfl ?_
  refine OJ.nil (EJ.next ?_)
  refine CJ.seq ?_
  refine CJ.seq ?_
  refine CJ.region ?_
  refine OJ.pures tU_ok 1 rfl ?_
  obtain ⟨t2, ht2, H⟩ := pbind H
  refine OJ.callF rfl rfl rfl rfl rfl hb57 rfl (spec_l01Ok.c k _ _ a0 (hS.ca (i := 0) rfl) _ ht2) ?_
  rintro _ w1 ⟨rfl, hs⟩
  replace hS := hS.grow hs
  refine OJ.pures tU_ok 1 rfl ?_
  refine OJ.nil (EJ.next ?_)
  refine CJ.cond rfl (fun hb => ?_) (fun hb => ?_)
  · replace H := pif_t hb H
    refine CJ.seq ?_
    refine CJ.region ?_
    refine OJ.pures tU_ok 1 rfl ?_
    refine OJ.nil (EJ.next ?_)
    refine CJ.ret (EJ.skR (?_))
    obtain rfl := Option.some.inj H
    exact EJ.fin rfl (.tmp rfl .nil) ⟨rfl, hS.ext⟩
  replace H := pifb_f hb H
  refine CJ.skip (EJ.next ?_)
  refine CJ.seq ?_
  refine CJ.seq ?_
  refine CJ.region ?_
  refine OJ.pures tU_ok 1 rfl ?_
  refine OJ.st rfl rfl rfl (SR.load rfl rfl (fun w' hx => ldE tU_ok tI_ok rfl rfl rfl (CA.ext (hS.cells (i := 0) rfl) hx) rfl)) ?_
  obtain ⟨t3, ht3, H⟩ := pbind H
  refine OJ.callF rfl rfl rfl rfl rfl hb38 rfl (spec_l01Is.c _ _ a0 (hS.ca (i := 0) rfl) a1 _ ht3) ?_
  rintro _ w1 ⟨rfl, hs⟩
  replace hS := hS.grow hs
  refine OJ.pures tU_ok 2 rfl ?_
  refine OJ.split (t := 14) rfl (fun hb => ?_) (fun hb => ?_)
  · replace H := pif_t hb H
    refine OJ.pures tU_ok 3 rfl ?_
    refine OJ.nil (EJ.next ?_)
    refine CJ.condT rfl ?_
    refine CJ.seq ?_
    refine CJ.region ?_
    refine OJ.pures tU_ok 1 rfl ?_
    refine OJ.nil (EJ.next ?_)
    refine CJ.ret (EJ.skR (?_))
    obtain rfl := Option.some.inj H
    exact EJ.fin rfl (.tmp rfl .nil) ⟨rfl, hS.ext⟩
  replace H := pifb_f hb H
  refine OJ.pures tU_ok 3 rfl ?_
  refine OJ.nil (EJ.next ?_)
  refine CJ.cond rfl (fun hb => ?_) (fun hb => ?_)
  · replace H := pif_t hb H
    refine CJ.seq ?_
    refine CJ.region ?_
    refine OJ.pures tU_ok 1 rfl ?_
    refine OJ.nil (EJ.next ?_)
    refine CJ.ret (EJ.skR (?_))
    obtain rfl := Option.some.inj H
    exact EJ.fin rfl (.tmp rfl .nil) ⟨rfl, hS.ext⟩
  replace H := pifb_f hb H
  refine CJ.skip (EJ.next ?_)
  refine CJ.seq ?_
  refine CJ.region ?_
  refine OJ.pures tU_ok 1 rfl ?_
  refine OJ.nil (EJ.next ?_)
  refine CJ.ret (?_)
  obtain rfl := Option.some.inj H
  exact EJ.fin rfl (.tmp rfl .nil) ⟨rfl, hS.ext⟩

def spec_l01Closed.f (a0 : Pasture) (a1 : Spot) (a2 : Int) : Option Bool := (spec_l01Next.f a1 a2).bind fun t2 => (spec_l01Is.f a0 t2).bind fun t4 => if (!t4) = true then (some true) else (if a2 = 0 then ((getI a0.South.l t2.Y).bind fun t5 => (chk (0 ≤ (IntKind.u64.wrap a1.X))).bind fun u6 => some (decide ((andI .u16 (shrI .u16 t5 (IntKind.u64.wrap a1.X)) 1) = 1))) else (if a2 = 1 then ((getI a0.East.l a1.Y).bind fun t7 => (chk (0 ≤ (IntKind.u64.wrap a1.X))).bind fun u8 => some (decide ((andI .u16 (shrI .u16 t7 (IntKind.u64.wrap a1.X)) 1) = 1))) else (if a2 = 2 then ((getI a0.South.l a1.Y).bind fun t9 => (chk (0 ≤ (IntKind.u64.wrap a1.X))).bind fun u10 => some (decide ((andI .u16 (shrI .u16 t9 (IntKind.u64.wrap a1.X)) 1) = 1))) else ((getI a0.East.l a1.Y).bind fun t11 => (chk (0 ≤ (IntKind.u64.wrap t2.X))).bind fun u12 => some (decide ((andI .u16 (shrI .u16 t11 (IntKind.u64.wrap t2.X)) 1) = 1))))))
theorem spec_l01Closed.c (w : World) (pa0 : Addr) (a0 : Pasture) (hp0 : CA w pa0 (cPasture.enc a0)) (a1 : Spot) (a2 : Int) (r : Bool) (H : spec_l01Closed.f a0 a1 a2 = some r) :
    CV Tryz.prog 85 [.pointer (some pa0), .agg (cSpot.enc a1).toArray, .int .i64 a2].toArray w fun v w' => v = .bool r ∧ Ext w w' := by
  have hS := ((St.init w no).paramP pa0 (cPasture.enc a0) hp0)
  unfold spec_l01Closed.f at H
  refine CV.body Tryz.func85 rfl Tryz.ntmps85 rfl ?_
  refine CJ.seq ?_
  refine CJ.region ?_
  refine OJ.ef rfl rfl rfl (Ef.box hS rfl rfl (cSpot.enc a1) rfl) ?_
  rintro _ w1 ⟨b1, rfl, hS⟩
  refine OJ.pures tU_ok 1 rfl ?_
  refine OJ.nil (EJ.next ?_)
  refine CJ.seq ?_
  refine CJ.region ?_
  refine OJ.st rfl rfl rfl (SR.load rfl rfl (fun w' hx => ldE tU_ok tI_ok rfl rfl rfl (CA.ext (hS.cells (i := 0) rfl) hx) rfl)) ?_
  refine OJ.pures tU_ok 1 rfl ?_
  obtain ⟨t2, ht2, H⟩ := pbind H
  refine OJ.callF rfl rfl rfl rfl rfl hb39 rfl (spec_l01Next.c _ a1 a2 _ ht2) ?_
  rintro _ w1 ⟨rfl, hs⟩
  replace hS := hS.grow hs
  refine OJ.ef rfl rfl rfl (Ef.alloc hS tI_ok rfl rfl (cSpot.enc (⟨0, 0⟩ : Spot)) rfl) ?_
  rintro _ w1 ⟨b3, rfl, hS⟩
  refine OJ.es rfl rfl (Es.store tI_ok hS (i := 1) rfl rfl rfl rfl rfl rfl (vs := cSpot.enc t2) rfl (cSpot.len _) (cSpot.one _) (Nat.le_of_ble_eq_true rfl) (cSpot.enc t2) rfl) ?_
  intro w1 hS
  refine OJ.nil (EJ.next ?_)
  refine CJ.seq ?_
  refine CJ.seq ?_
  refine CJ.region ?_
  refine OJ.pures tU_ok 1 rfl ?_
  refine OJ.st rfl rfl rfl (SR.load rfl rfl (fun w' hx => ldE tU_ok tI_ok rfl rfl rfl (CA.ext (hS.cells (i := 1) rfl) hx) rfl)) ?_
  obtain ⟨t4, ht4, H⟩ := pbind H
  refine OJ.callF rfl rfl rfl rfl rfl hb38 rfl (spec_l01Is.c _ _ a0 (hS.ca (i := 0) rfl) t2 _ ht4) ?_
  rintro _ w1 ⟨rfl, hs⟩
  replace hS := hS.grow hs
  refine OJ.pures tU_ok 1 rfl ?_
  refine OJ.nil (EJ.next ?_)
  refine CJ.cond rfl (fun hb => ?_) (fun hb => ?_)
  · replace H := pif_t hb H
    refine CJ.seq ?_
    refine CJ.region ?_
    refine OJ.pures tU_ok 1 rfl ?_
    refine OJ.nil (EJ.next ?_)
    refine CJ.ret (EJ.skR (?_))
    obtain rfl := Option.some.inj H
    exact EJ.fin rfl (.tmp rfl .nil) ⟨rfl, hS.ext⟩
  replace H := pifb_f hb H
  refine CJ.skip (EJ.next ?_)
  refine CJ.seq ?_
  refine CJ.seq ?_
  refine CJ.region ?_
  refine OJ.pures tU_ok 1 rfl ?_
  refine OJ.nil (EJ.next ?_)
  refine CJ.block ?_
  refine CJ.seq ?_
  refine CJ.region ?_
  refine OJ.pures tU_ok 2 rfl ?_
  refine OJ.nil (EJ.next ?_)
  refine CJ.cond rfl (fun hb => ?_) (fun hb => ?_)
  · replace H := pif_t (of_decide_eq_true hb) H
    refine CJ.seq ?_
    refine CJ.draw [] [0, 1, 2, 3, 4, 5, 6, 7, 8, 9, 10, 11, 12, 13] mixed (by kernel_rfl) hS fun w1 hS => ?_
    refine DJ.pures tU_ok 1 rfl ?_
    refine DJ.st rfl rfl rfl rfl rfl (SR.fieldAddr tU_ok tI_ok rfl rfl rfl rfl rfl rfl) ?_
    refine DJ.st rfl rfl rfl rfl rfl (SR.load rfl rfl (fun w' hx => ld1 tU_ok rfl rfl (CA.ext (CA.sub (hS.cells (i := 1) rfl) 1) hx) rfl)) ?_
    refine DJ.pures tU_ok 1 rfl ?_
    refine DJ.st rfl rfl rfl rfl rfl (SR.fieldAddr tU_ok tI_ok rfl rfl rfl rfl rfl rfl) ?_
    obtain ⟨t5, ht5, H⟩ := pbind H
    refine DJ.st rfl rfl rfl rfl rfl (SR.idxA tU_ok tI_ok rfl rfl rfl rfl rfl (Arr.lt ht5)) ?_
    refine DJ.st rfl rfl rfl rfl rfl (SR.load rfl rfl (fun w' hx => ld1 tU_ok rfl rfl (CA.ext (CA.idx (CA.fld (hS.ca (i := 0) rfl) (mid_part (fe_Pasture_4 _) (fl_Pasture_4 _) ((carr 10 (ci .u16)).len _))) ht5) hx) rfl)) ?_
    refine DJ.st rfl rfl rfl rfl rfl (SR.fieldAddr tU_ok tI_ok rfl rfl rfl rfl rfl rfl) ?_
    refine DJ.st rfl rfl rfl rfl rfl (SR.load rfl rfl (fun w' hx => ld1 tU_ok rfl rfl (CA.ext (CA.sub (hS.cells (i := 0) rfl) 0) hx) rfl)) ?_
    refine DJ.pures tU_ok 1 rfl ?_
    obtain ⟨u6, hu6, H⟩ := pbind H
    refine DJ.st rfl rfl rfl rfl rfl (SR.shr rfl rfl rfl (chk_some hu6)) ?_
    refine DJ.pures tU_ok 3 rfl ?_
    refine DJ.nil (EJ.next ?_)
    refine CJ.ret (EJ.bkR (EJ.skR (?_)))
    obtain rfl := Option.some.inj H
    exact EJ.fin rfl (.tmp rfl .nil) ⟨rfl, hS.ext⟩
  replace H := pif_f (of_decide_eq_false hb) H
  refine CJ.seq ?_
  refine CJ.region ?_
  refine OJ.pures tU_ok 2 rfl ?_
  refine OJ.nil (EJ.next ?_)
  refine CJ.cond rfl (fun hb => ?_) (fun hb => ?_)
  · replace H := pif_t (of_decide_eq_true hb) H
    refine CJ.seq ?_
    refine CJ.draw [] [0, 1, 2, 3, 4, 5, 6, 7, 8, 9, 10, 11, 12, 13] mixed (by kernel_rfl) hS fun w1 hS => ?_
    refine DJ.pures tU_ok 1 rfl ?_
    refine DJ.st rfl rfl rfl rfl rfl (SR.fieldAddr tU_ok tI_ok rfl rfl rfl rfl rfl rfl) ?_
    refine DJ.st rfl rfl rfl rfl rfl (SR.load rfl rfl (fun w' hx => ld1 tU_ok rfl rfl (CA.ext (CA.sub (hS.cells (i := 0) rfl) 1) hx) rfl)) ?_
    refine DJ.pures tU_ok 1 rfl ?_
    refine DJ.st rfl rfl rfl rfl rfl (SR.fieldAddr tU_ok tI_ok rfl rfl rfl rfl rfl rfl) ?_
    obtain ⟨t7, ht7, H⟩ := pbind H
    refine DJ.st rfl rfl rfl rfl rfl (SR.idxA tU_ok tI_ok rfl rfl rfl rfl rfl (Arr.lt ht7)) ?_
    refine DJ.st rfl rfl rfl rfl rfl (SR.load rfl rfl (fun w' hx => ld1 tU_ok rfl rfl (CA.ext (CA.idx (CA.fld (hS.ca (i := 0) rfl) (mid_part (fe_Pasture_3 _) (fl_Pasture_3 _) ((carr 10 (ci .u16)).len _))) ht7) hx) rfl)) ?_
    refine DJ.st rfl rfl rfl rfl rfl (SR.fieldAddr tU_ok tI_ok rfl rfl rfl rfl rfl rfl) ?_
    refine DJ.st rfl rfl rfl rfl rfl (SR.load rfl rfl (fun w' hx => ld1 tU_ok rfl rfl (CA.ext (CA.sub (hS.cells (i := 0) rfl) 0) hx) rfl)) ?_
    refine DJ.pures tU_ok 1 rfl ?_
    obtain ⟨u8, hu8, H⟩ := pbind H
    refine DJ.st rfl rfl rfl rfl rfl (SR.shr rfl rfl rfl (chk_some hu8)) ?_
    refine DJ.pures tU_ok 3 rfl ?_
    refine DJ.nil (EJ.next ?_)
    refine CJ.ret (EJ.bkR (EJ.skR (?_)))
    obtain rfl := Option.some.inj H
    exact EJ.fin rfl (.tmp rfl .nil) ⟨rfl, hS.ext⟩
  replace H := pif_f (of_decide_eq_false hb) H
  refine CJ.seq ?_
  refine CJ.region ?_
  refine OJ.pures tU_ok 2 rfl ?_
  refine OJ.nil (EJ.next ?_)
  refine CJ.cond rfl (fun hb => ?_) (fun hb => ?_)
  · replace H := pif_t (of_decide_eq_true hb) H
    refine CJ.seq ?_
    refine CJ.draw [] [0, 1, 2, 3, 4, 5, 6, 7, 8, 9, 10, 11, 12, 13] mixed (by kernel_rfl) hS fun w1 hS => ?_
    refine DJ.pures tU_ok 1 rfl ?_
    refine DJ.st rfl rfl rfl rfl rfl (SR.fieldAddr tU_ok tI_ok rfl rfl rfl rfl rfl rfl) ?_
    refine DJ.st rfl rfl rfl rfl rfl (SR.load rfl rfl (fun w' hx => ld1 tU_ok rfl rfl (CA.ext (CA.sub (hS.cells (i := 0) rfl) 1) hx) rfl)) ?_
    refine DJ.pures tU_ok 1 rfl ?_
    refine DJ.st rfl rfl rfl rfl rfl (SR.fieldAddr tU_ok tI_ok rfl rfl rfl rfl rfl rfl) ?_
    obtain ⟨t9, ht9, H⟩ := pbind H
    refine DJ.st rfl rfl rfl rfl rfl (SR.idxA tU_ok tI_ok rfl rfl rfl rfl rfl (Arr.lt ht9)) ?_
    refine DJ.st rfl rfl rfl rfl rfl (SR.load rfl rfl (fun w' hx => ld1 tU_ok rfl rfl (CA.ext (CA.idx (CA.fld (hS.ca (i := 0) rfl) (mid_part (fe_Pasture_4 _) (fl_Pasture_4 _) ((carr 10 (ci .u16)).len _))) ht9) hx) rfl)) ?_
    refine DJ.st rfl rfl rfl rfl rfl (SR.fieldAddr tU_ok tI_ok rfl rfl rfl rfl rfl rfl) ?_
    refine DJ.st rfl rfl rfl rfl rfl (SR.load rfl rfl (fun w' hx => ld1 tU_ok rfl rfl (CA.ext (CA.sub (hS.cells (i := 0) rfl) 0) hx) rfl)) ?_
    refine DJ.pures tU_ok 1 rfl ?_
    obtain ⟨u10, hu10, H⟩ := pbind H
    refine DJ.st rfl rfl rfl rfl rfl (SR.shr rfl rfl rfl (chk_some hu10)) ?_
    refine DJ.pures tU_ok 3 rfl ?_
    refine DJ.nil (EJ.next ?_)
    refine CJ.ret (EJ.bkR (EJ.skR (?_)))
    obtain rfl := Option.some.inj H
    exact EJ.fin rfl (.tmp rfl .nil) ⟨rfl, hS.ext⟩
  replace H := pif_f (of_decide_eq_false hb) H
  refine CJ.skip (EJ.blk (EJ.next ?_))
  refine CJ.seq ?_
  refine CJ.draw [] [0, 1, 2, 3, 4, 5, 6, 7, 8, 9, 10, 11, 12, 13] mixed (by kernel_rfl) hS fun w1 hS => ?_
  refine DJ.pures tU_ok 1 rfl ?_
  refine DJ.st rfl rfl rfl rfl rfl (SR.fieldAddr tU_ok tI_ok rfl rfl rfl rfl rfl rfl) ?_
  refine DJ.st rfl rfl rfl rfl rfl (SR.load rfl rfl (fun w' hx => ld1 tU_ok rfl rfl (CA.ext (CA.sub (hS.cells (i := 0) rfl) 1) hx) rfl)) ?_
  refine DJ.pures tU_ok 1 rfl ?_
  refine DJ.st rfl rfl rfl rfl rfl (SR.fieldAddr tU_ok tI_ok rfl rfl rfl rfl rfl rfl) ?_
  obtain ⟨t11, ht11, H⟩ := pbind H
  refine DJ.st rfl rfl rfl rfl rfl (SR.idxA tU_ok tI_ok rfl rfl rfl rfl rfl (Arr.lt ht11)) ?_
  refine DJ.st rfl rfl rfl rfl rfl (SR.load rfl rfl (fun w' hx => ld1 tU_ok rfl rfl (CA.ext (CA.idx (CA.fld (hS.ca (i := 0) rfl) (mid_part (fe_Pasture_3 _) (fl_Pasture_3 _) ((carr 10 (ci .u16)).len _))) ht11) hx) rfl)) ?_
  refine DJ.st rfl rfl rfl rfl rfl (SR.fieldAddr tU_ok tI_ok rfl rfl rfl rfl rfl rfl) ?_
  refine DJ.st rfl rfl rfl rfl rfl (SR.load rfl rfl (fun w' hx => ld1 tU_ok rfl rfl (CA.ext (CA.sub (hS.cells (i := 1) rfl) 0) hx) rfl)) ?_
  refine DJ.pures tU_ok 1 rfl ?_
  obtain ⟨u12, hu12, H⟩ := pbind H
  refine DJ.st rfl rfl rfl rfl rfl (SR.shr rfl rfl rfl (chk_some hu12)) ?_
  refine DJ.pures tU_ok 3 rfl ?_
  refine DJ.nil (EJ.next ?_)
  refine CJ.ret (?_)
  obtain rfl := Option.some.inj H
  exact EJ.fin rfl (.tmp rfl .nil) ⟨rfl, hS.ext⟩

def spec_l01Beside.l1 (a0 : Pasture) (a1 : Spot) : Nat → (List Spot) → Int → Option (List Spot)
  | 0, _, _ => none
  | k + 1, y6, y9 => if y9 < 4 then ((spec_l01Closed.f a0 a1 y9).bind fun t10 => if (!t10) = true then ((spec_l01Next.f a1 y9).bind fun t11 => (chk (y6.length + ([t11] : List Spot).length ≤ 4294967296)).bind fun u13 => spec_l01Beside.l1 a0 a1 k (y6 ++ ([t11] : List Spot)) (IntKind.i64.wrap (y9 + 1))) else (spec_l01Beside.l1 a0 a1 k y6 (IntKind.i64.wrap (y9 + 1)))) else (some y6)
def spec_l01Beside.f (k : Nat) (a0 : Pasture) (a1 : Spot) : Option (List Spot) := (spec_l01Beside.l1 a0 a1 k ([] : List Spot) 0).bind fun y3 => some y3
theorem spec_l01Beside.c (k : Nat) (w : World) (pa0 : Addr) (a0 : Pasture) (hp0 : CA w pa0 (cPasture.enc a0)) (a1 : Spot) (r : List Spot) (H : spec_l01Beside.f k a0 a1 = some r) :
    CV Tryz.prog 63 [.pointer (some pa0), .agg (cSpot.enc a1).toArray].toArray w fun v w' => ∃ (A0 : Option Addr) (c0 : Nat), v = .slice A0 r.length c0 ∧ St w no w' [rowC cSpot A0 c0 34 r] [] := by
  have hS := ((St.init w no).paramP pa0 (cPasture.enc a0) hp0)
  unfold spec_l01Beside.f at H
  refine CV.body Tryz.func63 rfl Tryz.ntmps63 rfl ?_
  refine CJ.seq ?_
  refine CJ.region ?_
  refine OJ.ef rfl rfl rfl (Ef.box hS rfl rfl (cSpot.enc a1) rfl) ?_
  rintro _ w1 ⟨b1, rfl, hS⟩
  refine OJ.pures tU_ok 1 rfl ?_
  refine OJ.nil (EJ.next ?_)
  refine CJ.seq ?_
  refine CJ.region ?_
  refine OJ.ef rfl rfl rfl (Ef.lit tU_ok tI_ok hS (C := cSpot) rfl rfl rfl rfl rfl rfl ([] : List Spot) rfl rfl rfl rfl) ?_
  rintro _ w1 ⟨A2, rfl, hS⟩
  refine OJ.pures tU_ok 1 rfl ?_
  refine OJ.nil (EJ.next ?_)
  refine CJ.seq ?_
  refine CJ.seq ?_
  refine CJ.region ?_
  refine OJ.pures tU_ok 1 rfl ?_
  refine OJ.nil (EJ.next ?_)
  obtain ⟨j2216, H, K2216⟩ := pbind H
  refine CJ.cut1 (fun F w1 => ∃ (y3 : List Spot) (A4 : Option Addr) (c5 : Nat), (some y3 : Option (List Spot)) = some j2216 ∧ F = [(5, .slice A4 y3.length c5)] ∧ St w no w1 [rowC cSpot A4 c5 34 y3] [roP pa0 (cPasture.enc a0)]) ?_ ?_
  · skip
    refine CJ.block ?_
    refine CJ.loop (fun k F w1 => ∃ (y6 : List Spot) (y9 : Int) (A7 : Option Addr) (c8 : Nat), F = [(0, .pointer (some pa0)), (3, .pointer (some ⟨b1, 0, none⟩)), (5, .slice A7 y6.length c8), (6, .int .i64 y9)] ∧ St w no w1 [box b1 (cSpot.enc a1) 34, rowC cSpot A7 c8 34 y6] [roP pa0 (cPasture.enc a0)] ∧ spec_l01Beside.l1 a0 a1 k y6 y9 = some j2216) k (F' := [(0, .pointer (some pa0)), (3, .pointer (some ⟨b1, 0, none⟩)), (5, .slice A2 ([] : List Spot).length (([] : List Spot).length)), (6, .int .i64 0)]) ⟨rfl, rfl, rfl, rfl, trivial⟩ ⟨([] : List Spot), 0, A2, (([] : List Spot).length), rfl, hS.pick [0, 1] [0] rfl, H⟩ ?_
    rintro k F w1 ⟨y6, y9, A7, c8, rfl, hS, H⟩
    cases k with
    | zero => rw [spec_l01Beside.l1] at H; cases H
    | succ k =>
      rw [spec_l01Beside.l1] at H
      refine CJ.seq ?_
      refine CJ.seq ?_
      refine CJ.region ?_
      refine OJ.pures tU_ok 2 rfl ?_
      refine OJ.nil (EJ.next ?_)
      refine CJ.cond rfl (fun hb => ?_) (fun hb => ?_)
      · replace H := pif_t (of_decide_eq_true hb) H
        refine CJ.skip (EJ.next ?_)
        refine CJ.seq ?_
        refine CJ.block ?_
        refine CJ.seq ?_
        refine CJ.region ?_
        refine OJ.pures tU_ok 1 rfl ?_
        refine OJ.st rfl rfl rfl (SR.load rfl rfl (fun w' hx => ldE tU_ok tI_ok rfl rfl rfl (CA.ext (hS.cells (i := 0) rfl) hx) rfl)) ?_
        refine OJ.pures tU_ok 1 rfl ?_
        obtain ⟨t10, ht10, H⟩ := pbind H
        refine OJ.callF rfl rfl rfl rfl rfl hb85 rfl (spec_l01Closed.c _ _ a0 (hS.ca (i := 0) rfl) a1 y9 _ ht10) ?_
        rintro _ w1 ⟨rfl, hs⟩
        replace hS := hS.grow hs
        refine OJ.pures tU_ok 1 rfl ?_
        refine OJ.nil (EJ.next ?_)
        refine CJ.cond rfl (fun hb => ?_) (fun hb => ?_)
        · replace H := pif_t hb H
          refine CJ.region ?_
          refine OJ.pures tU_ok 1 rfl ?_
          refine OJ.st rfl rfl rfl (SR.load rfl rfl (fun w' hx => ldE tU_ok tI_ok rfl rfl rfl (CA.ext (hS.cells (i := 0) rfl) hx) rfl)) ?_
          refine OJ.pures tU_ok 1 rfl ?_
          obtain ⟨t11, ht11, H⟩ := pbind H
          refine OJ.callF rfl rfl rfl rfl rfl hb39 rfl (spec_l01Next.c _ a1 y9 _ ht11) ?_
          rintro _ w1 ⟨rfl, hs⟩
          replace hS := hS.grow hs
          refine OJ.ef rfl rfl rfl (Ef.lit tU_ok tI_ok hS (C := cSpot) rfl rfl rfl rfl rfl rfl ([t11] : List Spot) rfl rfl rfl rfl) ?_
          rintro _ w1 ⟨A12, rfl, hS⟩
          obtain ⟨u13, hu13, H⟩ := pbind H
          refine OJ.ew rfl rfl rfl (Ew.append tU_ok tI_ok (C := cSpot) (xs := y6) (ys := ([t11] : List Spot)) hS (i := 1) rfl rfl rfl rfl rfl rfl rfl rfl rfl rfl rfl rfl rfl (hS.rd (i := 2) rfl) (chk_some hu13)) ?_
          rintro _ w1 ⟨A14, c15, rfl, hS⟩
          refine OJ.pures tU_ok 1 rfl ?_
          refine OJ.nil (EJ.blk (EJ.next ?_))
          refine CJ.region ?_
          refine OJ.pures tU_ok 3 rfl ?_
          refine OJ.nil ?_
          exact EJ.round k (F' := [(0, .pointer (some pa0)), (3, .pointer (some ⟨b1, 0, none⟩)), (5, .slice A14 (y6 ++ ([t11] : List Spot)).length c15), (6, .int .i64 (IntKind.i64.wrap (y9 + 1)))]) ⟨rfl, rfl, rfl, rfl, trivial⟩ (Nat.lt_succ_self _) ⟨(y6 ++ ([t11] : List Spot)), (IntKind.i64.wrap (y9 + 1)), A14, c15, rfl, hS.pick [0, 1] [0] rfl, H⟩
        · replace H := pifb_f hb H
          refine CJ.skip (EJ.blk (EJ.next ?_))
          refine CJ.region ?_
          refine OJ.pures tU_ok 3 rfl ?_
          refine OJ.nil ?_
          exact EJ.round k (F' := [(0, .pointer (some pa0)), (3, .pointer (some ⟨b1, 0, none⟩)), (5, .slice A7 y6.length c8), (6, .int .i64 (IntKind.i64.wrap (y9 + 1)))]) ⟨rfl, rfl, rfl, rfl, trivial⟩ (Nat.lt_succ_self _) ⟨y6, (IntKind.i64.wrap (y9 + 1)), A7, c8, rfl, hS.pick [0, 1] [0] rfl, H⟩
      · replace H := pif_f (of_decide_eq_false hb) H
        refine CJ.exit (EJ.skE (EJ.skE (EJ.hit (?_))))
        exact EJ.meet (F' := [(5, .slice A7 y6.length c8)]) ⟨rfl, trivial⟩ ⟨y6, A7, c8, H, rfl, hS.pick [1] [0] rfl⟩
  rintro F w1 ⟨y3, A4, c5, he, rfl, hS⟩
  obtain rfl := Option.some.inj he
  have H := K2216
  refine EJ.next ?_
  refine CJ.seq ?_
  refine CJ.region ?_
  refine OJ.pures tU_ok 2 rfl ?_
  refine OJ.nil (EJ.next ?_)
  refine CJ.ret (?_)
  obtain rfl := Option.some.inj H
  exact EJ.fin rfl (.tmp rfl .nil) ⟨A4, c5, rfl, hS.pick [0] [] rfl⟩

def spec_l01Steps.l2 (t17 : Spot) (t19 : List Spot) : Nat → (Arr 10 (Arr 10 Int)) → (List Spot) → Int → Option ((Arr 10 (Arr 10 Int)) × (List Spot))
  | 0, _, _, _ => none
  | k + 1, y26, y27, y30 => if y30 < (t19.length : Int) then ((getI t19 y30).bind fun t31 => (getI t19 y30).bind fun t32 => (getI y26.l t31.Y).bind fun t33 => (getI t33.l t32.X).bind fun t34 => if t34 = 0 then ((getI t19 y30).bind fun t35 => (getI t19 y30).bind fun t36 => (getI y26.l t17.Y).bind fun t37 => (getI t37.l t17.X).bind fun t38 => (getI y26.l t35.Y).bind fun t39 => (getI t39.l t36.X).bind fun t40 => (getI t19 y30).bind fun t41 => (chk (y27.length + ([t41] : List Spot).length ≤ 4294967296)).bind fun u43 => spec_l01Steps.l2 t17 t19 k (aset y26 t35.Y.toNat (aset t39 t36.X.toNat (IntKind.i64.wrap (t38 + 1)))) (y27 ++ ([t41] : List Spot)) (IntKind.i64.wrap (y30 + 1))) else (spec_l01Steps.l2 t17 t19 k y26 y27 (IntKind.i64.wrap (y30 + 1)))) else (some (y26, y27))
def spec_l01Steps.l1 (a0 : Pasture) : Nat → (Arr 10 (Arr 10 Int)) → (List Spot) → Int → Option (Arr 10 (Arr 10 Int))
  | 0, _, _, _ => none
  | k + 1, y8, y9, y12 => if y12 < (y9.length : Int) then (((getI y9 y12).bind fun t17 => (spec_l01Beside.f k a0 t17).bind fun t19 => (spec_l01Steps.l2 t17 t19 k y8 y9 0).bind fun (y22, y23) => some (y22, y23)).bind fun (y13, y14) => spec_l01Steps.l1 a0 k y13 y14 (IntKind.i64.wrap (y12 + 1))) else (some y8)
def spec_l01Steps.f (k : Nat) (a0 : Pasture) (a1 : Spot) : Option (Arr 10 (Arr 10 Int)) := (getI (Arr.mk' (Arr.mk' 0 : Arr 10 Int) : Arr 10 (Arr 10 Int)).l a1.Y).bind fun t4 => (getI t4.l a1.X).bind fun t5 => (spec_l01Steps.l1 a0 k (aset (Arr.mk' (Arr.mk' 0 : Arr 10 Int) : Arr 10 (Arr 10 Int)) a1.Y.toNat (aset t4 a1.X.toNat 1)) ([a1] : List Spot) 0).bind fun y7 => some y7
theorem spec_l01Steps.c (k : Nat) (w : World) (pa0 : Addr) (a0 : Pasture) (hp0 : CA w pa0 (cPasture.enc a0)) (a1 : Spot) (r : Arr 10 (Arr 10 Int)) (H : spec_l01Steps.f k a0 a1 = some r) :
    CV Tryz.prog 58 [.pointer (some pa0), .agg (cSpot.enc a1).toArray].toArray w fun v w' => v = .agg ((carr 10 (carr 10 (ci .i64))).enc r).toArray ∧ Ext w w' := by
  have hS := ((St.init w no).paramP pa0 (cPasture.enc a0) hp0)
  unfold spec_l01Steps.f at H
  refine CV.body Tryz.func58 rfl Tryz.ntmps58 rfl ?_
  refine CJ.seq ?_
  refine CJ.region ?_
  refine OJ.ef rfl rfl rfl (Ef.box hS rfl rfl (cSpot.enc a1) rfl) ?_
  rintro _ w1 ⟨b1, rfl, hS⟩
  refine OJ.ef rfl rfl rfl (Ef.alloc hS tI_ok rfl rfl ((carr 10 (carr 10 (ci .i64))).enc (Arr.mk' (Arr.mk' 0 : Arr 10 Int) : Arr 10 (Arr 10 Int))) (by kernel_rfl)) ?_
  rintro _ w1 ⟨b2, rfl, hS⟩
  refine OJ.nil (EJ.next ?_)
  refine CJ.seq ?_
  refine CJ.region ?_
  refine OJ.st rfl rfl rfl (SR.buildA tU_ok tI_ok rfl rfl rfl rfl (zs := [.int .i64 0, .int .i64 0, .int .i64 0, .int .i64 0, .int .i64 0, .int .i64 0, .int .i64 0, .int .i64 0, .int .i64 0, .int .i64 0, .int .i64 0, .int .i64 0, .int .i64 0, .int .i64 0, .int .i64 0, .int .i64 0, .int .i64 0, .int .i64 0, .int .i64 0, .int .i64 0, .int .i64 0, .int .i64 0, .int .i64 0, .int .i64 0, .int .i64 0, .int .i64 0, .int .i64 0, .int .i64 0, .int .i64 0, .int .i64 0, .int .i64 0, .int .i64 0, .int .i64 0, .int .i64 0, .int .i64 0, .int .i64 0, .int .i64 0, .int .i64 0, .int .i64 0, .int .i64 0, .int .i64 0, .int .i64 0, .int .i64 0, .int .i64 0, .int .i64 0, .int .i64 0, .int .i64 0, .int .i64 0, .int .i64 0, .int .i64 0, .int .i64 0, .int .i64 0, .int .i64 0, .int .i64 0, .int .i64 0, .int .i64 0, .int .i64 0, .int .i64 0, .int .i64 0, .int .i64 0, .int .i64 0, .int .i64 0, .int .i64 0, .int .i64 0, .int .i64 0, .int .i64 0, .int .i64 0, .int .i64 0, .int .i64 0, .int .i64 0, .int .i64 0, .int .i64 0, .int .i64 0, .int .i64 0, .int .i64 0, .int .i64 0, .int .i64 0, .int .i64 0, .int .i64 0, .int .i64 0, .int .i64 0, .int .i64 0, .int .i64 0, .int .i64 0, .int .i64 0, .int .i64 0, .int .i64 0, .int .i64 0, .int .i64 0, .int .i64 0, .int .i64 0, .int .i64 0, .int .i64 0, .int .i64 0, .int .i64 0, .int .i64 0, .int .i64 0, .int .i64 0, .int .i64 0, .int .i64 0]) rfl rfl ((carr 10 (carr 10 (ci .i64))).enc (Arr.mk' (Arr.mk' 0 : Arr 10 Int) : Arr 10 (Arr 10 Int))) (by kernel_rfl)) ?_
  refine OJ.ef rfl rfl rfl (Ef.alloc hS tI_ok rfl rfl ((carr 10 (carr 10 (ci .i64))).enc (Arr.mk' (Arr.mk' 0 : Arr 10 Int) : Arr 10 (Arr 10 Int))) (by kernel_rfl)) ?_
  rintro _ w1 ⟨b3, rfl, hS⟩
  refine OJ.es rfl rfl (Es.put tI_ok hS (i := 2) rfl rfl rfl rfl rfl (vs := (carr 10 (carr 10 (ci .i64))).enc (Arr.mk' (Arr.mk' 0 : Arr 10 Int) : Arr 10 (Arr 10 Int))) rfl ((carr 10 (carr 10 (ci .i64))).len _) ((carr 10 (carr 10 (ci .i64))).one _) (Put.all (carr 10 (carr 10 (ci .i64))) (Arr.mk' (Arr.mk' 0 : Arr 10 Int) : Arr 10 (Arr 10 Int)) (Arr.mk' (Arr.mk' 0 : Arr 10 Int) : Arr 10 (Arr 10 Int))) (by (try simp only [add_lit, Nat.add_assoc, Nat.zero_add, Nat.add_zero]) <;> rfl)) ?_
  intro w1 hS
  refine OJ.nil (EJ.next ?_)
  refine CJ.seq ?_
  refine CJ.draw [] [0, 1, 2, 3, 4, 5, 6] mixed (by kernel_rfl) hS fun w1 hS => ?_
  refine DJ.st rfl rfl rfl rfl rfl (SR.fieldAddr tU_ok tI_ok rfl rfl rfl rfl rfl rfl) ?_
  refine DJ.st rfl rfl rfl rfl rfl (SR.load rfl rfl (fun w' hx => ld1 tU_ok rfl rfl (CA.ext (CA.sub (hS.cells (i := 0) rfl) 1) hx) rfl)) ?_
  refine DJ.st rfl rfl rfl rfl rfl (SR.fieldAddr tU_ok tI_ok rfl rfl rfl rfl rfl rfl) ?_
  refine DJ.st rfl rfl rfl rfl rfl (SR.load rfl rfl (fun w' hx => ld1 tU_ok rfl rfl (CA.ext (CA.sub (hS.cells (i := 0) rfl) 0) hx) rfl)) ?_
  obtain ⟨t4, ht4, H⟩ := pbind H
  refine DJ.st rfl rfl rfl rfl rfl (SR.idxA tU_ok tI_ok rfl rfl rfl rfl rfl (Arr.lt ht4)) ?_
  obtain ⟨t5, ht5, H⟩ := pbind H
  refine DJ.st rfl rfl rfl rfl rfl (SR.idxA tU_ok tI_ok rfl rfl rfl rfl rfl (Arr.lt ht5)) ?_
  refine DJ.es rfl rfl rfl rfl (Es.put tI_ok hS (i := 2) rfl rfl rfl rfl rfl (vs := (ci .i64).enc 1) rfl rfl (one1 rfl) (Put.idx (Put.idx (Put.all (ci .i64) t5 1) ht5) ht4) (by (try simp only [add_lit, Nat.add_assoc, Nat.zero_add, Nat.add_zero]) <;> rfl)) ?_
  intro w1 hS
  refine DJ.nil (EJ.next ?_)
  refine CJ.seq ?_
  refine CJ.region ?_
  refine OJ.st rfl rfl rfl (SR.load rfl rfl (fun w' hx => ldE tU_ok tI_ok rfl rfl rfl (CA.ext (hS.cells (i := 0) rfl) hx) rfl)) ?_
  refine OJ.ef rfl rfl rfl (Ef.lit tU_ok tI_ok hS (C := cSpot) rfl rfl rfl rfl rfl rfl ([a1] : List Spot) rfl rfl rfl rfl) ?_
  rintro _ w1 ⟨A6, rfl, hS⟩
  refine OJ.pures tU_ok 1 rfl ?_
  refine OJ.nil (EJ.next ?_)
  refine CJ.seq ?_
  refine CJ.seq ?_
  refine CJ.region ?_
  refine OJ.pures tU_ok 1 rfl ?_
  refine OJ.nil (EJ.next ?_)
  obtain ⟨j2214, H, K2214⟩ := pbind H
  refine CJ.cut1 (fun F w1 => ∃ (y7 : Arr 10 (Arr 10 Int)) , (some y7 : Option (Arr 10 (Arr 10 Int))) = some j2214 ∧ F = [(4, .pointer (some ⟨b2, 0, none⟩)), (5, .pointer (some ⟨b3, 0, none⟩))] ∧ St w no w1 [box b2 ((carr 10 (carr 10 (ci .i64))).enc (Arr.mk' (Arr.mk' 0 : Arr 10 Int) : Arr 10 (Arr 10 Int))) 98, box b3 ((carr 10 (carr 10 (ci .i64))).enc y7) 98] [roP pa0 (cPasture.enc a0)]) ?_ ?_
  · skip
    refine CJ.block ?_
    refine CJ.loop (fun k F w1 => ∃ (y8 : Arr 10 (Arr 10 Int)) (y9 : List Spot) (y12 : Int) (A10 : Option Addr) (c11 : Nat), F = [(0, .pointer (some pa0)), (4, .pointer (some ⟨b2, 0, none⟩)), (5, .pointer (some ⟨b3, 0, none⟩)), (6, .slice A10 y9.length c11), (7, .int .i64 y12)] ∧ St w no w1 [box b2 ((carr 10 (carr 10 (ci .i64))).enc (Arr.mk' (Arr.mk' 0 : Arr 10 Int) : Arr 10 (Arr 10 Int))) 98, box b3 ((carr 10 (carr 10 (ci .i64))).enc y8) 98, rowC cSpot A10 c11 34 y9] [roP pa0 (cPasture.enc a0)] ∧ spec_l01Steps.l1 a0 k y8 y9 y12 = some j2214) k (F' := [(0, .pointer (some pa0)), (4, .pointer (some ⟨b2, 0, none⟩)), (5, .pointer (some ⟨b3, 0, none⟩)), (6, .slice A6 ([a1] : List Spot).length (([a1] : List Spot).length)), (7, .int .i64 0)]) ⟨rfl, rfl, rfl, rfl, rfl, trivial⟩ ⟨(aset (Arr.mk' (Arr.mk' 0 : Arr 10 Int) : Arr 10 (Arr 10 Int)) a1.Y.toNat (aset t4 a1.X.toNat 1)), ([a1] : List Spot), 0, A6, (([a1] : List Spot).length), rfl, hS.pick [1, 2, 3] [0] rfl, H⟩ ?_
    rintro k F w1 ⟨y8, y9, y12, A10, c11, rfl, hS, H⟩
    cases k with
    | zero => rw [spec_l01Steps.l1] at H; cases H
    | succ k =>
      rw [spec_l01Steps.l1] at H
      refine CJ.seq ?_
      refine CJ.seq ?_
      refine CJ.region ?_
      refine OJ.pures tU_ok 4 rfl ?_
      refine OJ.nil (EJ.next ?_)
      refine CJ.cond rfl (fun hb => ?_) (fun hb => ?_)
      · replace H := pif_t (of_decide_eq_true hb) H
        refine CJ.skip (EJ.next ?_)
        obtain ⟨j2222, H, K2222⟩ := pbind H
        refine CJ.cut (fun F w1 => ∃ (y13 : Arr 10 (Arr 10 Int)) (y14 : List Spot) (A15 : Option Addr) (c16 : Nat), (some (y13, y14) : Option ((Arr 10 (Arr 10 Int)) × (List Spot))) = some j2222 ∧ F = [(0, .pointer (some pa0)), (4, .pointer (some ⟨b2, 0, none⟩)), (5, .pointer (some ⟨b3, 0, none⟩)), (6, .slice A15 y14.length c16), (7, .int .i64 y12)] ∧ St w no w1 [box b2 ((carr 10 (carr 10 (ci .i64))).enc (Arr.mk' (Arr.mk' 0 : Arr 10 Int) : Arr 10 (Arr 10 Int))) 98, box b3 ((carr 10 (carr 10 (ci .i64))).enc y13) 98, rowC cSpot A15 c16 34 y14] [roP pa0 (cPasture.enc a0)]) ?_ ?_
        · skip
          refine CJ.block ?_
          refine CJ.seq ?_
          refine CJ.region ?_
          refine OJ.pures tU_ok 2 rfl ?_
          obtain ⟨t17, ht17, H⟩ := pbind H
          obtain ⟨ad17, e17⟩ := (hS.rd (i := 2) rfl).some' ht17
          refine OJ.st rfl rfl rfl (SR.idxS tU_ok tI_ok rfl rfl rfl rfl e17 rfl (getI_some ht17).1) ?_
          refine OJ.st rfl rfl rfl (SR.load rfl rfl (fun w' hx => ldE tU_ok tI_ok rfl rfl rfl (CA.ext ((hS.rd (i := 2) rfl).at_ e17 ht17) hx) rfl)) ?_
          refine OJ.ef rfl rfl rfl (Ef.alloc hS tI_ok rfl rfl (cSpot.enc (⟨0, 0⟩ : Spot)) rfl) ?_
          rintro _ w1 ⟨b18, rfl, hS⟩
          refine OJ.es rfl rfl (Es.store tI_ok hS (i := 3) rfl rfl rfl rfl rfl rfl (vs := cSpot.enc t17) rfl (cSpot.len _) (cSpot.one _) (Nat.le_of_ble_eq_true rfl) (cSpot.enc t17) rfl) ?_
          intro w1 hS
          refine OJ.nil (EJ.next ?_)
          refine CJ.seq ?_
          refine CJ.region ?_
          refine OJ.pures tU_ok 1 rfl ?_
          refine OJ.st rfl rfl rfl (SR.load rfl rfl (fun w' hx => ldE tU_ok tI_ok rfl rfl rfl (CA.ext (hS.cells (i := 3) rfl) hx) rfl)) ?_
          obtain ⟨t19, ht19, H⟩ := pbind H
          refine OJ.callF rfl rfl rfl rfl rfl hb63 rfl (spec_l01Beside.c k _ _ a0 (hS.ca (i := 0) rfl) t17 _ ht19) ?_
          rintro _ w1 ⟨A20, c21, rfl, hs⟩
          replace hS := hS.addN hs
          refine OJ.pures tU_ok 1 rfl ?_
          refine OJ.nil (EJ.next ?_)
          refine CJ.seq ?_
          refine CJ.region ?_
          refine OJ.pures tU_ok 1 rfl ?_
          refine OJ.nil (EJ.next ?_)
          obtain ⟨j2224, H, K2224⟩ := pbind H
          refine CJ.cut1 (fun F w1 => ∃ (y22 : Arr 10 (Arr 10 Int)) (y23 : List Spot) (A24 : Option Addr) (c25 : Nat), (some (y22, y23) : Option ((Arr 10 (Arr 10 Int)) × (List Spot))) = some j2224 ∧ F = [(0, .pointer (some pa0)), (4, .pointer (some ⟨b2, 0, none⟩)), (5, .pointer (some ⟨b3, 0, none⟩)), (6, .slice A24 y23.length c25), (7, .int .i64 y12)] ∧ St w no w1 [box b2 ((carr 10 (carr 10 (ci .i64))).enc (Arr.mk' (Arr.mk' 0 : Arr 10 Int) : Arr 10 (Arr 10 Int))) 98, box b3 ((carr 10 (carr 10 (ci .i64))).enc y22) 98, rowC cSpot A24 c25 34 y23] [roP pa0 (cPasture.enc a0)]) ?_ ?_
          · skip
            refine CJ.block ?_
            refine CJ.loop (fun k F w1 => ∃ (y26 : Arr 10 (Arr 10 Int)) (y27 : List Spot) (y30 : Int) (A28 : Option Addr) (c29 : Nat), F = [(0, .pointer (some pa0)), (4, .pointer (some ⟨b2, 0, none⟩)), (5, .pointer (some ⟨b3, 0, none⟩)), (6, .slice A28 y27.length c29), (7, .int .i64 y12), (8, .pointer (some ⟨b18, 0, none⟩)), (9, .slice A20 t19.length c21), (10, .int .i64 y30)] ∧ St w no w1 [box b2 ((carr 10 (carr 10 (ci .i64))).enc (Arr.mk' (Arr.mk' 0 : Arr 10 Int) : Arr 10 (Arr 10 Int))) 98, box b3 ((carr 10 (carr 10 (ci .i64))).enc y26) 98, rowC cSpot A28 c29 34 y27, box b18 (cSpot.enc t17) 34, rowC cSpot A20 c21 34 t19] [roP pa0 (cPasture.enc a0)] ∧ spec_l01Steps.l2 t17 t19 k y26 y27 y30 = some j2224) k (F' := [(0, .pointer (some pa0)), (4, .pointer (some ⟨b2, 0, none⟩)), (5, .pointer (some ⟨b3, 0, none⟩)), (6, .slice A10 y9.length c11), (7, .int .i64 y12), (8, .pointer (some ⟨b18, 0, none⟩)), (9, .slice A20 t19.length c21), (10, .int .i64 0)]) ⟨rfl, rfl, rfl, rfl, rfl, rfl, rfl, rfl, trivial⟩ ⟨y8, y9, 0, A10, c11, rfl, hS.pick [0, 1, 2, 3, 4] [0] rfl, H⟩ ?_
            rintro k F w1 ⟨y26, y27, y30, A28, c29, rfl, hS, H⟩
            cases k with
            | zero => rw [spec_l01Steps.l2] at H; cases H
            | succ k =>
              rw [spec_l01Steps.l2] at H
              refine CJ.seq ?_
              refine CJ.seq ?_
              refine CJ.region ?_
              refine OJ.pures tU_ok 4 rfl ?_
              refine OJ.nil (EJ.next ?_)
              refine CJ.cond rfl (fun hb => ?_) (fun hb => ?_)
              · replace H := pif_t (of_decide_eq_true hb) H
                refine CJ.skip (EJ.next ?_)
                refine CJ.seq ?_
                refine CJ.block ?_
                refine CJ.seq ?_
                refine CJ.draw [] [0, 1, 2, 3, 4, 5, 6, 7, 8, 9, 10, 11, 12, 13] mixed (by kernel_rfl) hS fun w1 hS => ?_
                refine DJ.pures tU_ok 2 rfl ?_
                obtain ⟨t31, ht31, H⟩ := pbind H
                obtain ⟨ad31, e31⟩ := (hS.rd (i := 4) rfl).some' ht31
                refine DJ.st rfl rfl rfl rfl rfl (SR.idxS tU_ok tI_ok rfl rfl rfl rfl e31 rfl (getI_some ht31).1) ?_
                refine DJ.st rfl rfl rfl rfl rfl (SR.fieldAddr tU_ok tI_ok rfl rfl rfl rfl rfl rfl) ?_
                refine DJ.st rfl rfl rfl rfl rfl (SR.load rfl rfl (fun w' hx => ld1 tU_ok rfl rfl (CA.ext (CA.sub ((hS.rd (i := 4) rfl).at_ e31 ht31) 1) hx) rfl)) ?_
                refine DJ.pures tU_ok 2 rfl ?_
                obtain ⟨t32, ht32, H⟩ := pbind H
                obtain ⟨ad32, e32⟩ := (hS.rd (i := 4) rfl).some' ht32
                refine DJ.st rfl rfl rfl rfl rfl (SR.idxS tU_ok tI_ok rfl rfl rfl rfl e32 rfl (getI_some ht32).1) ?_
                refine DJ.st rfl rfl rfl rfl rfl (SR.fieldAddr tU_ok tI_ok rfl rfl rfl rfl rfl rfl) ?_
                refine DJ.st rfl rfl rfl rfl rfl (SR.load rfl rfl (fun w' hx => ld1 tU_ok rfl rfl (CA.ext (CA.sub ((hS.rd (i := 4) rfl).at_ e32 ht32) 0) hx) rfl)) ?_
                obtain ⟨t33, ht33, H⟩ := pbind H
                refine DJ.st rfl rfl rfl rfl rfl (SR.idxA tU_ok tI_ok rfl rfl rfl rfl rfl (Arr.lt ht33)) ?_
                obtain ⟨t34, ht34, H⟩ := pbind H
                refine DJ.st rfl rfl rfl rfl rfl (SR.idxA tU_ok tI_ok rfl rfl rfl rfl rfl (Arr.lt ht34)) ?_
                refine DJ.st rfl rfl rfl rfl rfl (SR.load rfl rfl (fun w' hx => ld1 tU_ok rfl rfl (CA.ext (CA.idx (CA.idx (hS.cells (i := 1) rfl) ht33) ht34) hx) rfl)) ?_
                refine DJ.pures tU_ok 1 rfl ?_
                refine DJ.nil (EJ.next ?_)
                refine CJ.cond rfl (fun hb => ?_) (fun hb => ?_)
                · replace H := pif_t (of_decide_eq_true hb) H
                  refine CJ.seq ?_
                  refine CJ.draw [] [0, 1, 2, 3, 4, 5, 6, 7, 8, 9, 10, 11, 12, 13, 14, 15, 16, 17, 18, 19, 20] mixed (by kernel_rfl) hS fun w1 hS => ?_
                  refine DJ.pures tU_ok 2 rfl ?_
                  obtain ⟨t35, ht35, H⟩ := pbind H
                  obtain ⟨ad35, e35⟩ := (hS.rd (i := 4) rfl).some' ht35
                  refine DJ.st rfl rfl rfl rfl rfl (SR.idxS tU_ok tI_ok rfl rfl rfl rfl e35 rfl (getI_some ht35).1) ?_
                  refine DJ.st rfl rfl rfl rfl rfl (SR.fieldAddr tU_ok tI_ok rfl rfl rfl rfl rfl rfl) ?_
                  refine DJ.st rfl rfl rfl rfl rfl (SR.load rfl rfl (fun w' hx => ld1 tU_ok rfl rfl (CA.ext (CA.sub ((hS.rd (i := 4) rfl).at_ e35 ht35) 1) hx) rfl)) ?_
                  refine DJ.pures tU_ok 2 rfl ?_
                  obtain ⟨t36, ht36, H⟩ := pbind H
                  obtain ⟨ad36, e36⟩ := (hS.rd (i := 4) rfl).some' ht36
                  refine DJ.st rfl rfl rfl rfl rfl (SR.idxS tU_ok tI_ok rfl rfl rfl rfl e36 rfl (getI_some ht36).1) ?_
                  refine DJ.st rfl rfl rfl rfl rfl (SR.fieldAddr tU_ok tI_ok rfl rfl rfl rfl rfl rfl) ?_
                  refine DJ.st rfl rfl rfl rfl rfl (SR.load rfl rfl (fun w' hx => ld1 tU_ok rfl rfl (CA.ext (CA.sub ((hS.rd (i := 4) rfl).at_ e36 ht36) 0) hx) rfl)) ?_
                  refine DJ.st rfl rfl rfl rfl rfl (SR.fieldAddr tU_ok tI_ok rfl rfl rfl rfl rfl rfl) ?_
                  refine DJ.st rfl rfl rfl rfl rfl (SR.load rfl rfl (fun w' hx => ld1 tU_ok rfl rfl (CA.ext (CA.sub (hS.cells (i := 3) rfl) 1) hx) rfl)) ?_
                  refine DJ.st rfl rfl rfl rfl rfl (SR.fieldAddr tU_ok tI_ok rfl rfl rfl rfl rfl rfl) ?_
                  refine DJ.st rfl rfl rfl rfl rfl (SR.load rfl rfl (fun w' hx => ld1 tU_ok rfl rfl (CA.ext (CA.sub (hS.cells (i := 3) rfl) 0) hx) rfl)) ?_
                  obtain ⟨t37, ht37, H⟩ := pbind H
                  refine DJ.st rfl rfl rfl rfl rfl (SR.idxA tU_ok tI_ok rfl rfl rfl rfl rfl (Arr.lt ht37)) ?_
                  obtain ⟨t38, ht38, H⟩ := pbind H
                  refine DJ.st rfl rfl rfl rfl rfl (SR.idxA tU_ok tI_ok rfl rfl rfl rfl rfl (Arr.lt ht38)) ?_
                  refine DJ.st rfl rfl rfl rfl rfl (SR.load rfl rfl (fun w' hx => ld1 tU_ok rfl rfl (CA.ext (CA.idx (CA.idx (hS.cells (i := 1) rfl) ht37) ht38) hx) rfl)) ?_
                  refine DJ.pures tU_ok 1 rfl ?_
                  obtain ⟨t39, ht39, H⟩ := pbind H
                  refine DJ.st rfl rfl rfl rfl rfl (SR.idxA tU_ok tI_ok rfl rfl rfl rfl rfl (Arr.lt ht39)) ?_
                  obtain ⟨t40, ht40, H⟩ := pbind H
                  refine DJ.st rfl rfl rfl rfl rfl (SR.idxA tU_ok tI_ok rfl rfl rfl rfl rfl (Arr.lt ht40)) ?_
                  refine DJ.es rfl rfl rfl rfl (Es.put tI_ok hS (i := 1) rfl rfl rfl rfl rfl (vs := (ci .i64).enc (IntKind.i64.wrap (t38 + 1))) rfl rfl (one1 rfl) (Put.idx (Put.idx (Put.all (ci .i64) t40 (IntKind.i64.wrap (t38 + 1))) ht40) ht39) (by (try simp only [add_lit, Nat.add_assoc, Nat.zero_add, Nat.add_zero]) <;> rfl)) ?_
                  intro w1 hS
                  refine DJ.nil (EJ.next ?_)
                  refine CJ.region ?_
                  refine OJ.pures tU_ok 3 rfl ?_
                  obtain ⟨t41, ht41, H⟩ := pbind H
                  obtain ⟨ad41, e41⟩ := (hS.rd (i := 4) rfl).some' ht41
                  refine OJ.st rfl rfl rfl (SR.idxS tU_ok tI_ok rfl rfl rfl rfl e41 rfl (getI_some ht41).1) ?_
                  refine OJ.st rfl rfl rfl (SR.load rfl rfl (fun w' hx => ldE tU_ok tI_ok rfl rfl rfl (CA.ext ((hS.rd (i := 4) rfl).at_ e41 ht41) hx) rfl)) ?_
                  refine OJ.ef rfl rfl rfl (Ef.lit tU_ok tI_ok hS (C := cSpot) rfl rfl rfl rfl rfl rfl ([t41] : List Spot) rfl rfl rfl rfl) ?_
                  rintro _ w1 ⟨A42, rfl, hS⟩
                  obtain ⟨u43, hu43, H⟩ := pbind H
                  refine OJ.ew rfl rfl rfl (Ew.append tU_ok tI_ok (C := cSpot) (xs := y27) (ys := ([t41] : List Spot)) hS (i := 2) rfl rfl rfl rfl rfl rfl rfl rfl rfl rfl rfl rfl rfl (hS.rd (i := 5) rfl) (chk_some hu43)) ?_
                  rintro _ w1 ⟨A44, c45, rfl, hS⟩
                  refine OJ.pures tU_ok 1 rfl ?_
                  refine OJ.nil (EJ.blk (EJ.next ?_))
                  refine CJ.region ?_
                  refine OJ.pures tU_ok 3 rfl ?_
                  refine OJ.nil ?_
                  exact EJ.round k (F' := [(0, .pointer (some pa0)), (4, .pointer (some ⟨b2, 0, none⟩)), (5, .pointer (some ⟨b3, 0, none⟩)), (6, .slice A44 (y27 ++ ([t41] : List Spot)).length c45), (7, .int .i64 y12), (8, .pointer (some ⟨b18, 0, none⟩)), (9, .slice A20 t19.length c21), (10, .int .i64 (IntKind.i64.wrap (y30 + 1)))]) ⟨rfl, rfl, rfl, rfl, rfl, rfl, rfl, rfl, trivial⟩ (Nat.lt_succ_self _) ⟨(aset y26 t35.Y.toNat (aset t39 t36.X.toNat (IntKind.i64.wrap (t38 + 1)))), (y27 ++ ([t41] : List Spot)), (IntKind.i64.wrap (y30 + 1)), A44, c45, rfl, hS.pick [0, 1, 2, 3, 4] [0] rfl, H⟩
                · replace H := pif_f (of_decide_eq_false hb) H
                  refine CJ.skip (EJ.blk (EJ.next ?_))
                  refine CJ.region ?_
                  refine OJ.pures tU_ok 3 rfl ?_
                  refine OJ.nil ?_
                  exact EJ.round k (F' := [(0, .pointer (some pa0)), (4, .pointer (some ⟨b2, 0, none⟩)), (5, .pointer (some ⟨b3, 0, none⟩)), (6, .slice A28 y27.length c29), (7, .int .i64 y12), (8, .pointer (some ⟨b18, 0, none⟩)), (9, .slice A20 t19.length c21), (10, .int .i64 (IntKind.i64.wrap (y30 + 1)))]) ⟨rfl, rfl, rfl, rfl, rfl, rfl, rfl, rfl, trivial⟩ (Nat.lt_succ_self _) ⟨y26, y27, (IntKind.i64.wrap (y30 + 1)), A28, c29, rfl, hS.pick [0, 1, 2, 3, 4] [0] rfl, H⟩
              · replace H := pif_f (of_decide_eq_false hb) H
                refine CJ.exit (EJ.skE (EJ.skE (EJ.hit (?_))))
                exact EJ.meet (F' := [(0, .pointer (some pa0)), (4, .pointer (some ⟨b2, 0, none⟩)), (5, .pointer (some ⟨b3, 0, none⟩)), (6, .slice A28 y27.length c29), (7, .int .i64 y12)]) ⟨rfl, rfl, rfl, rfl, rfl, trivial⟩ ⟨y26, y27, A28, c29, H, rfl, hS.pick [0, 1, 2] [0] rfl⟩
          · rintro F w1 ⟨y22, y23, A24, c25, he, rfl, hS⟩
            obtain rfl := Option.some.inj he
            have H := K2224
            refine EJ.blk (?_)
            exact EJ.meet (F' := [(0, .pointer (some pa0)), (4, .pointer (some ⟨b2, 0, none⟩)), (5, .pointer (some ⟨b3, 0, none⟩)), (6, .slice A24 y23.length c25), (7, .int .i64 y12)]) ⟨rfl, rfl, rfl, rfl, rfl, trivial⟩ ⟨y22, y23, A24, c25, H, rfl, hS.pick [0, 1, 2] [0] rfl⟩
        · rintro F w1 ⟨y13, y14, A15, c16, he, rfl, hS⟩
          obtain rfl := Option.some.inj he
          have H := K2222
          refine CJ.region ?_
          refine OJ.pures tU_ok 3 rfl ?_
          refine OJ.nil ?_
          exact EJ.round k (F' := [(0, .pointer (some pa0)), (4, .pointer (some ⟨b2, 0, none⟩)), (5, .pointer (some ⟨b3, 0, none⟩)), (6, .slice A15 y14.length c16), (7, .int .i64 (IntKind.i64.wrap (y12 + 1)))]) ⟨rfl, rfl, rfl, rfl, rfl, trivial⟩ (Nat.lt_succ_self _) ⟨y13, y14, (IntKind.i64.wrap (y12 + 1)), A15, c16, rfl, hS.pick [0, 1, 2] [0] rfl, H⟩
      · replace H := pif_f (of_decide_eq_false hb) H
        refine CJ.exit (EJ.skE (EJ.skE (EJ.hit (?_))))
        exact EJ.meet (F' := [(4, .pointer (some ⟨b2, 0, none⟩)), (5, .pointer (some ⟨b3, 0, none⟩))]) ⟨rfl, rfl, trivial⟩ ⟨y8, H, rfl, hS.pick [0, 1] [0] rfl⟩
  rintro F w1 ⟨y7, he, rfl, hS⟩
  obtain rfl := Option.some.inj he
  have H := K2214
  refine EJ.next ?_
  refine CJ.seq ?_
  refine CJ.region ?_
  refine OJ.st rfl rfl rfl (SR.load rfl rfl (fun w' hx => ldE tU_ok tI_ok rfl rfl rfl (CA.ext (hS.cells (i := 1) rfl) hx) rfl)) ?_
  refine OJ.es rfl rfl (Es.put tI_ok hS (i := 0) rfl rfl rfl rfl rfl (vs := (carr 10 (carr 10 (ci .i64))).enc y7) rfl ((carr 10 (carr 10 (ci .i64))).len _) ((carr 10 (carr 10 (ci .i64))).one _) (Put.all (carr 10 (carr 10 (ci .i64))) (Arr.mk' (Arr.mk' 0 : Arr 10 Int) : Arr 10 (Arr 10 Int)) y7) (by (try simp only [add_lit, Nat.add_assoc, Nat.zero_add, Nat.add_zero]) <;> rfl)) ?_
  intro w1 hS
  refine OJ.nil (EJ.next ?_)
  refine CJ.ret (?_)
  obtain rfl := Option.some.inj H
  exact EJ.fin rfl (.cell rfl (ldE tU_ok tI_ok rfl rfl rfl (hS.cells (i := 0) rfl) rfl) .nil) ⟨rfl, hS.ext⟩

def spec_l01Yard.l2 (a0 : Pasture) (t2 : Arr 10 (Arr 10 Int)) (y11 : Int) : Nat → (List Spot) → Int → Option (List Spot)
  | 0, _, _ => none
  | k + 1, y18, y21 => if y21 < a0.Wide then ((getI t2.l y11).bind fun t22 => (getI t22.l y21).bind fun t23 => if 0 < t23 then ((chk (y18.length + ([(⟨y21, y11⟩ : Spot)] : List Spot).length ≤ 4294967296)).bind fun u25 => spec_l01Yard.l2 a0 t2 y11 k (y18 ++ ([(⟨y21, y11⟩ : Spot)] : List Spot)) (IntKind.i8.wrap (y21 + 1))) else (spec_l01Yard.l2 a0 t2 y11 k y18 (IntKind.i8.wrap (y21 + 1)))) else (some y18)
def spec_l01Yard.l1 (a0 : Pasture) (t2 : Arr 10 (Arr 10 Int)) : Nat → (List Spot) → Int → Option (List Spot)
  | 0, _, _ => none
  | k + 1, y8, y11 => if y11 < a0.High then (((spec_l01Yard.l2 a0 t2 y11 k y8 0).bind fun y15 => some y15).bind fun y12 => spec_l01Yard.l1 a0 t2 k y12 (IntKind.i8.wrap (y11 + 1))) else (some y8)
def spec_l01Yard.f (k : Nat) (a0 : Pasture) (a1 : Spot) : Option (List Spot) := (spec_l01Steps.f k a0 a1).bind fun t2 => (spec_l01Yard.l1 a0 t2 k ([] : List Spot) 0).bind fun y5 => some y5
theorem spec_l01Yard.c (k : Nat) (w : World) (pa0 : Addr) (a0 : Pasture) (hp0 : CA w pa0 (cPasture.enc a0)) (a1 : Spot) (r : List Spot) (H : spec_l01Yard.f k a0 a1 = some r) :
    CV Tryz.prog 31 [.pointer (some pa0), .agg (cSpot.enc a1).toArray].toArray w fun v w' => ∃ (A0 : Option Addr) (c0 : Nat), v = .slice A0 r.length c0 ∧ St w no w' [rowC cSpot A0 c0 34 r] [] := by
  have hS := ((St.init w no).paramP pa0 (cPasture.enc a0) hp0)
  unfold spec_l01Yard.f at H
  refine CV.body Tryz.func31 rfl Tryz.ntmps31 rfl ?_
  refine CJ.seq ?_
  refine CJ.region ?_
  refine OJ.ef rfl rfl rfl (Ef.box hS rfl rfl (cSpot.enc a1) rfl) ?_
  rintro _ w1 ⟨b1, rfl, hS⟩
  refine OJ.pures tU_ok 1 rfl ?_
  refine OJ.nil (EJ.next ?_)
  refine CJ.seq ?_
  refine CJ.region ?_
  refine OJ.pures tU_ok 1 rfl ?_
  refine OJ.st rfl rfl rfl (SR.load rfl rfl (fun w' hx => ldE tU_ok tI_ok rfl rfl rfl (CA.ext (hS.cells (i := 0) rfl) hx) rfl)) ?_
  obtain ⟨t2, ht2, H⟩ := pbind H
  refine OJ.callF rfl rfl rfl rfl rfl hb58 rfl (spec_l01Steps.c k _ _ a0 (hS.ca (i := 0) rfl) a1 _ ht2) ?_
  rintro _ w1 ⟨rfl, hs⟩
  replace hS := hS.grow hs
  refine OJ.ef rfl rfl rfl (Ef.alloc hS tI_ok rfl rfl ((carr 10 (carr 10 (ci .i64))).enc (Arr.mk' (Arr.mk' 0 : Arr 10 Int) : Arr 10 (Arr 10 Int))) (by kernel_rfl)) ?_
  rintro _ w1 ⟨b3, rfl, hS⟩
  refine OJ.es rfl rfl (Es.put tI_ok hS (i := 1) rfl rfl rfl rfl rfl (vs := (carr 10 (carr 10 (ci .i64))).enc t2) rfl ((carr 10 (carr 10 (ci .i64))).len _) ((carr 10 (carr 10 (ci .i64))).one _) (Put.all (carr 10 (carr 10 (ci .i64))) (Arr.mk' (Arr.mk' 0 : Arr 10 Int) : Arr 10 (Arr 10 Int)) t2) (by (try simp only [add_lit, Nat.add_assoc, Nat.zero_add, Nat.add_zero]) <;> rfl)) ?_
  intro w1 hS
  refine OJ.nil (EJ.next ?_)
  refine CJ.seq ?_
  refine CJ.region ?_
  refine OJ.ef rfl rfl rfl (Ef.lit tU_ok tI_ok hS (C := cSpot) rfl rfl rfl rfl rfl rfl ([] : List Spot) rfl rfl rfl rfl) ?_
  rintro _ w1 ⟨A4, rfl, hS⟩
  refine OJ.pures tU_ok 1 rfl ?_
  refine OJ.nil (EJ.next ?_)
  refine CJ.seq ?_
  refine CJ.seq ?_
  refine CJ.region ?_
  refine OJ.pures tU_ok 1 rfl ?_
  refine OJ.nil (EJ.next ?_)
  obtain ⟨j2225, H, K2225⟩ := pbind H
  refine CJ.cut1 (fun F w1 => ∃ (y5 : List Spot) (A6 : Option Addr) (c7 : Nat), (some y5 : Option (List Spot)) = some j2225 ∧ F = [(6, .slice A6 y5.length c7)] ∧ St w no w1 [rowC cSpot A6 c7 34 y5] [roP pa0 (cPasture.enc a0)]) ?_ ?_
  · skip
    refine CJ.block ?_
    refine CJ.loop (fun k F w1 => ∃ (y8 : List Spot) (y11 : Int) (A9 : Option Addr) (c10 : Nat), F = [(0, .pointer (some pa0)), (5, .pointer (some ⟨b3, 0, none⟩)), (6, .slice A9 y8.length c10), (7, .int .i8 y11)] ∧ St w no w1 [box b3 ((carr 10 (carr 10 (ci .i64))).enc t2) 98, rowC cSpot A9 c10 34 y8] [roP pa0 (cPasture.enc a0)] ∧ spec_l01Yard.l1 a0 t2 k y8 y11 = some j2225) k (F' := [(0, .pointer (some pa0)), (5, .pointer (some ⟨b3, 0, none⟩)), (6, .slice A4 ([] : List Spot).length (([] : List Spot).length)), (7, .int .i8 0)]) ⟨rfl, rfl, rfl, rfl, trivial⟩ ⟨([] : List Spot), 0, A4, (([] : List Spot).length), rfl, hS.pick [1, 2] [0] rfl, H⟩ ?_
    rintro k F w1 ⟨y8, y11, A9, c10, rfl, hS, H⟩
    cases k with
    | zero => rw [spec_l01Yard.l1] at H; cases H
    | succ k =>
      rw [spec_l01Yard.l1] at H
      refine CJ.seq ?_
      refine CJ.seq ?_
      refine CJ.region ?_
      refine OJ.pures tU_ok 3 rfl ?_
      refine OJ.st rfl rfl rfl (SR.fieldAddr tU_ok tI_ok rfl rfl rfl rfl rfl rfl) ?_
      refine OJ.st rfl rfl rfl (SR.load rfl rfl (fun w' hx => ld1 tU_ok rfl rfl (CA.ext (CA.fld (hS.ca (i := 0) rfl) (mid_part (fe_Pasture_1 _) (fl_Pasture_1 _) ((ci .i8).len _))) hx) rfl)) ?_
      refine OJ.pures tU_ok 1 rfl ?_
      refine OJ.nil (EJ.next ?_)
      refine CJ.cond rfl (fun hb => ?_) (fun hb => ?_)
      · replace H := pif_t (of_decide_eq_true hb) H
        refine CJ.skip (EJ.next ?_)
        obtain ⟨j2232, H, K2232⟩ := pbind H
        refine CJ.cut (fun F w1 => ∃ (y12 : List Spot) (A13 : Option Addr) (c14 : Nat), (some y12 : Option (List Spot)) = some j2232 ∧ F = [(0, .pointer (some pa0)), (5, .pointer (some ⟨b3, 0, none⟩)), (6, .slice A13 y12.length c14), (7, .int .i8 y11)] ∧ St w no w1 [box b3 ((carr 10 (carr 10 (ci .i64))).enc t2) 98, rowC cSpot A13 c14 34 y12] [roP pa0 (cPasture.enc a0)]) ?_ ?_
        · skip
          refine CJ.block ?_
          refine CJ.seq ?_
          refine CJ.region ?_
          refine OJ.pures tU_ok 1 rfl ?_
          refine OJ.nil (EJ.next ?_)
          obtain ⟨j2234, H, K2234⟩ := pbind H
          refine CJ.cut1 (fun F w1 => ∃ (y15 : List Spot) (A16 : Option Addr) (c17 : Nat), (some y15 : Option (List Spot)) = some j2234 ∧ F = [(0, .pointer (some pa0)), (5, .pointer (some ⟨b3, 0, none⟩)), (6, .slice A16 y15.length c17), (7, .int .i8 y11)] ∧ St w no w1 [box b3 ((carr 10 (carr 10 (ci .i64))).enc t2) 98, rowC cSpot A16 c17 34 y15] [roP pa0 (cPasture.enc a0)]) ?_ ?_
          · skip
            refine CJ.block ?_
            refine CJ.loop (fun k F w1 => ∃ (y18 : List Spot) (y21 : Int) (A19 : Option Addr) (c20 : Nat), F = [(0, .pointer (some pa0)), (5, .pointer (some ⟨b3, 0, none⟩)), (6, .slice A19 y18.length c20), (7, .int .i8 y11), (8, .int .i8 y21)] ∧ St w no w1 [box b3 ((carr 10 (carr 10 (ci .i64))).enc t2) 98, rowC cSpot A19 c20 34 y18] [roP pa0 (cPasture.enc a0)] ∧ spec_l01Yard.l2 a0 t2 y11 k y18 y21 = some j2234) k (F' := [(0, .pointer (some pa0)), (5, .pointer (some ⟨b3, 0, none⟩)), (6, .slice A9 y8.length c10), (7, .int .i8 y11), (8, .int .i8 0)]) ⟨rfl, rfl, rfl, rfl, rfl, trivial⟩ ⟨y8, 0, A9, c10, rfl, hS.pick [0, 1] [0] rfl, H⟩ ?_
            rintro k F w1 ⟨y18, y21, A19, c20, rfl, hS, H⟩
            cases k with
            | zero => rw [spec_l01Yard.l2] at H; cases H
            | succ k =>
              rw [spec_l01Yard.l2] at H
              refine CJ.seq ?_
              refine CJ.seq ?_
              refine CJ.region ?_
              refine OJ.pures tU_ok 3 rfl ?_
              refine OJ.st rfl rfl rfl (SR.fieldAddr tU_ok tI_ok rfl rfl rfl rfl rfl rfl) ?_
              refine OJ.st rfl rfl rfl (SR.load rfl rfl (fun w' hx => ld1 tU_ok rfl rfl (CA.ext (CA.fld (hS.ca (i := 0) rfl) (mid_part (fe_Pasture_0 _) (fl_Pasture_0 _) ((ci .i8).len _))) hx) rfl)) ?_
              refine OJ.pures tU_ok 1 rfl ?_
              refine OJ.nil (EJ.next ?_)
              refine CJ.cond rfl (fun hb => ?_) (fun hb => ?_)
              · replace H := pif_t (of_decide_eq_true hb) H
                refine CJ.skip (EJ.next ?_)
                refine CJ.seq ?_
                refine CJ.block ?_
                refine CJ.seq ?_
                refine CJ.region ?_
                refine OJ.pures tU_ok 2 rfl ?_
                obtain ⟨t22, ht22, H⟩ := pbind H
                refine OJ.st rfl rfl rfl (SR.idxA tU_ok tI_ok rfl rfl rfl rfl rfl (Arr.lt ht22)) ?_
                obtain ⟨t23, ht23, H⟩ := pbind H
                refine OJ.st rfl rfl rfl (SR.idxA tU_ok tI_ok rfl rfl rfl rfl rfl (Arr.lt ht23)) ?_
                refine OJ.st rfl rfl rfl (SR.load rfl rfl (fun w' hx => ld1 tU_ok rfl rfl (CA.ext (CA.idx (CA.idx (hS.cells (i := 0) rfl) ht22) ht23) hx) rfl)) ?_
                refine OJ.pures tU_ok 1 rfl ?_
                refine OJ.nil (EJ.next ?_)
                refine CJ.cond rfl (fun hb => ?_) (fun hb => ?_)
                · replace H := pif_t (of_decide_eq_true hb) H
                  refine CJ.region ?_
                  refine OJ.pures tU_ok 3 rfl ?_
                  refine OJ.st rfl rfl rfl (SR.build (C := cSpot) tU_ok tI_ok rfl rfl rfl (zs := [.int .i8 0, .int .i8 0]) rfl rfl rfl (⟨y21, y11⟩ : Spot) rfl) ?_
                  refine OJ.ef rfl rfl rfl (Ef.lit tU_ok tI_ok hS (C := cSpot) rfl rfl rfl rfl rfl rfl ([(⟨y21, y11⟩ : Spot)] : List Spot) rfl rfl rfl rfl) ?_
                  rintro _ w1 ⟨A24, rfl, hS⟩
                  obtain ⟨u25, hu25, H⟩ := pbind H
                  refine OJ.ew rfl rfl rfl (Ew.append tU_ok tI_ok (C := cSpot) (xs := y18) (ys := ([(⟨y21, y11⟩ : Spot)] : List Spot)) hS (i := 1) rfl rfl rfl rfl rfl rfl rfl rfl rfl rfl rfl rfl rfl (hS.rd (i := 2) rfl) (chk_some hu25)) ?_
                  rintro _ w1 ⟨A26, c27, rfl, hS⟩
                  refine OJ.pures tU_ok 1 rfl ?_
                  refine OJ.nil (EJ.blk (EJ.next ?_))
                  refine CJ.region ?_
                  refine OJ.pures tU_ok 3 rfl ?_
                  refine OJ.nil ?_
                  exact EJ.round k (F' := [(0, .pointer (some pa0)), (5, .pointer (some ⟨b3, 0, none⟩)), (6, .slice A26 (y18 ++ ([(⟨y21, y11⟩ : Spot)] : List Spot)).length c27), (7, .int .i8 y11), (8, .int .i8 (IntKind.i8.wrap (y21 + 1)))]) ⟨rfl, rfl, rfl, rfl, rfl, trivial⟩ (Nat.lt_succ_self _) ⟨(y18 ++ ([(⟨y21, y11⟩ : Spot)] : List Spot)), (IntKind.i8.wrap (y21 + 1)), A26, c27, rfl, hS.pick [0, 1] [0] rfl, H⟩
                · replace H := pif_f (of_decide_eq_false hb) H
                  refine CJ.skip (EJ.blk (EJ.next ?_))
                  refine CJ.region ?_
                  refine OJ.pures tU_ok 3 rfl ?_
                  refine OJ.nil ?_
                  exact EJ.round k (F' := [(0, .pointer (some pa0)), (5, .pointer (some ⟨b3, 0, none⟩)), (6, .slice A19 y18.length c20), (7, .int .i8 y11), (8, .int .i8 (IntKind.i8.wrap (y21 + 1)))]) ⟨rfl, rfl, rfl, rfl, rfl, trivial⟩ (Nat.lt_succ_self _) ⟨y18, (IntKind.i8.wrap (y21 + 1)), A19, c20, rfl, hS.pick [0, 1] [0] rfl, H⟩
              · replace H := pif_f (of_decide_eq_false hb) H
                refine CJ.exit (EJ.skE (EJ.skE (EJ.hit (?_))))
                exact EJ.meet (F' := [(0, .pointer (some pa0)), (5, .pointer (some ⟨b3, 0, none⟩)), (6, .slice A19 y18.length c20), (7, .int .i8 y11)]) ⟨rfl, rfl, rfl, rfl, trivial⟩ ⟨y18, A19, c20, H, rfl, hS.pick [0, 1] [0] rfl⟩
          · rintro F w1 ⟨y15, A16, c17, he, rfl, hS⟩
            obtain rfl := Option.some.inj he
            have H := K2234
            refine EJ.blk (?_)
            exact EJ.meet (F' := [(0, .pointer (some pa0)), (5, .pointer (some ⟨b3, 0, none⟩)), (6, .slice A16 y15.length c17), (7, .int .i8 y11)]) ⟨rfl, rfl, rfl, rfl, trivial⟩ ⟨y15, A16, c17, H, rfl, hS.pick [0, 1] [0] rfl⟩
        · rintro F w1 ⟨y12, A13, c14, he, rfl, hS⟩
          obtain rfl := Option.some.inj he
          have H := K2232
          refine CJ.region ?_
          refine OJ.pures tU_ok 3 rfl ?_
          refine OJ.nil ?_
          exact EJ.round k (F' := [(0, .pointer (some pa0)), (5, .pointer (some ⟨b3, 0, none⟩)), (6, .slice A13 y12.length c14), (7, .int .i8 (IntKind.i8.wrap (y11 + 1)))]) ⟨rfl, rfl, rfl, rfl, trivial⟩ (Nat.lt_succ_self _) ⟨y12, (IntKind.i8.wrap (y11 + 1)), A13, c14, rfl, hS.pick [0, 1] [0] rfl, H⟩
      · replace H := pif_f (of_decide_eq_false hb) H
        refine CJ.exit (EJ.skE (EJ.skE (EJ.hit (?_))))
        exact EJ.meet (F' := [(6, .slice A9 y8.length c10)]) ⟨rfl, trivial⟩ ⟨y8, A9, c10, H, rfl, hS.pick [1] [0] rfl⟩
  rintro F w1 ⟨y5, A6, c7, he, rfl, hS⟩
  obtain rfl := Option.some.inj he
  have H := K2225
  refine EJ.next ?_
  refine CJ.seq ?_
  refine CJ.region ?_
  refine OJ.pures tU_ok 2 rfl ?_
  refine OJ.nil (EJ.next ?_)
  refine CJ.ret (?_)
  obtain rfl := Option.some.inj H
  exact EJ.fin rfl (.tmp rfl .nil) ⟨A6, c7, rfl, hS.pick [0] [] rfl⟩

def spec_l01Mask.l1 (a0 : List Spot) : Nat → (Arr 10 (Arr 10 Bool)) → Int → Option (Arr 10 (Arr 10 Bool))
  | 0, _, _ => none
  | k + 1, y4, y5 => if y5 < (a0.length : Int) then ((getI a0 y5).bind fun t6 => (getI a0 y5).bind fun t7 => (getI y4.l t6.Y).bind fun t8 => (getI t8.l t7.X).bind fun t9 => spec_l01Mask.l1 a0 k (aset y4 t6.Y.toNat (aset t8 t7.X.toNat true)) (IntKind.i64.wrap (y5 + 1))) else (some y4)
def spec_l01Mask.f (k : Nat) (a0 : List Spot) : Option (Arr 10 (Arr 10 Bool)) := (spec_l01Mask.l1 a0 k (Arr.mk' (Arr.mk' false : Arr 10 Bool) : Arr 10 (Arr 10 Bool)) 0).bind fun y3 => some y3
theorem spec_l01Mask.c (k : Nat) (w : World) (Aa0 : Option Addr) (ca0 : Nat) (a0 : List Spot) (hr0 : Rd cSpot w Aa0 a0) (hc0 : a0.length ≤ ca0) (r : Arr 10 (Arr 10 Bool)) (H : spec_l01Mask.f k a0 = some r) :
    CV Tryz.prog 59 [.slice Aa0 a0.length ca0].toArray w fun v w' => v = .agg ((carr 10 (carr 10 cb)).enc r).toArray ∧ Ext w w' := by
  have hS := ((St.init w no).param cSpot Aa0 ca0 a0 hr0 hc0)
  unfold spec_l01Mask.f at H
  refine CV.body Tryz.func59 rfl Tryz.ntmps59 rfl ?_
  refine CJ.seq ?_
  refine CJ.region ?_
  refine OJ.ef rfl rfl rfl (Ef.alloc hS tI_ok rfl rfl ((carr 10 (carr 10 cb)).enc (Arr.mk' (Arr.mk' false : Arr 10 Bool) : Arr 10 (Arr 10 Bool))) (by kernel_rfl)) ?_
  rintro _ w1 ⟨b1, rfl, hS⟩
  refine OJ.nil (EJ.next ?_)
  refine CJ.seq ?_
  refine CJ.region ?_
  refine OJ.st rfl rfl rfl (SR.buildA tU_ok tI_ok rfl rfl rfl rfl (zs := [.bool false, .bool false, .bool false, .bool false, .bool false, .bool false, .bool false, .bool false, .bool false, .bool false, .bool false, .bool false, .bool false, .bool false, .bool false, .bool false, .bool false, .bool false, .bool false, .bool false, .bool false, .bool false, .bool false, .bool false, .bool false, .bool false, .bool false, .bool false, .bool false, .bool false, .bool false, .bool false, .bool false, .bool false, .bool false, .bool false, .bool false, .bool false, .bool false, .bool false, .bool false, .bool false, .bool false, .bool false, .bool false, .bool false, .bool false, .bool false, .bool false, .bool false, .bool false, .bool false, .bool false, .bool false, .bool false, .bool false, .bool false, .bool false, .bool false, .bool false, .bool false, .bool false, .bool false, .bool false, .bool false, .bool false, .bool false, .bool false, .bool false, .bool false, .bool false, .bool false, .bool false, .bool false, .bool false, .bool false, .bool false, .bool false, .bool false, .bool false, .bool false, .bool false, .bool false, .bool false, .bool false, .bool false, .bool false, .bool false, .bool false, .bool false, .bool false, .bool false, .bool false, .bool false, .bool false, .bool false, .bool false, .bool false, .bool false, .bool false]) rfl rfl ((carr 10 (carr 10 cb)).enc (Arr.mk' (Arr.mk' false : Arr 10 Bool) : Arr 10 (Arr 10 Bool))) (by kernel_rfl)) ?_
  refine OJ.ef rfl rfl rfl (Ef.alloc hS tI_ok rfl rfl ((carr 10 (carr 10 cb)).enc (Arr.mk' (Arr.mk' false : Arr 10 Bool) : Arr 10 (Arr 10 Bool))) (by kernel_rfl)) ?_
  rintro _ w1 ⟨b2, rfl, hS⟩
  refine OJ.es rfl rfl (Es.put tI_ok hS (i := 1) rfl rfl rfl rfl rfl (vs := (carr 10 (carr 10 cb)).enc (Arr.mk' (Arr.mk' false : Arr 10 Bool) : Arr 10 (Arr 10 Bool))) rfl ((carr 10 (carr 10 cb)).len _) ((carr 10 (carr 10 cb)).one _) (Put.all (carr 10 (carr 10 cb)) (Arr.mk' (Arr.mk' false : Arr 10 Bool) : Arr 10 (Arr 10 Bool)) (Arr.mk' (Arr.mk' false : Arr 10 Bool) : Arr 10 (Arr 10 Bool))) (by (try simp only [add_lit, Nat.add_assoc, Nat.zero_add, Nat.add_zero]) <;> rfl)) ?_
  intro w1 hS
  refine OJ.nil (EJ.next ?_)
  refine CJ.seq ?_
  refine CJ.seq ?_
  refine CJ.region ?_
  refine OJ.pures tU_ok 1 rfl ?_
  refine OJ.nil (EJ.next ?_)
  obtain ⟨j2235, H, K2235⟩ := pbind H
  refine CJ.cut1 (fun F w1 => ∃ (y3 : Arr 10 (Arr 10 Bool)) , (some y3 : Option (Arr 10 (Arr 10 Bool))) = some j2235 ∧ F = [(2, .pointer (some ⟨b1, 0, none⟩)), (3, .pointer (some ⟨b2, 0, none⟩))] ∧ St w no w1 [box b1 ((carr 10 (carr 10 cb)).enc (Arr.mk' (Arr.mk' false : Arr 10 Bool) : Arr 10 (Arr 10 Bool))) 70, box b2 ((carr 10 (carr 10 cb)).enc y3) 70] [roC cSpot Aa0 ca0 a0]) ?_ ?_
  · skip
    refine CJ.block ?_
    refine CJ.loop (fun k F w1 => ∃ (y4 : Arr 10 (Arr 10 Bool)) (y5 : Int), F = [(0, .slice Aa0 a0.length ca0), (2, .pointer (some ⟨b1, 0, none⟩)), (3, .pointer (some ⟨b2, 0, none⟩)), (4, .int .i64 y5)] ∧ St w no w1 [box b1 ((carr 10 (carr 10 cb)).enc (Arr.mk' (Arr.mk' false : Arr 10 Bool) : Arr 10 (Arr 10 Bool))) 70, box b2 ((carr 10 (carr 10 cb)).enc y4) 70] [roC cSpot Aa0 ca0 a0] ∧ spec_l01Mask.l1 a0 k y4 y5 = some j2235) k (F' := [(0, .slice Aa0 a0.length ca0), (2, .pointer (some ⟨b1, 0, none⟩)), (3, .pointer (some ⟨b2, 0, none⟩)), (4, .int .i64 0)]) ⟨rfl, rfl, rfl, rfl, trivial⟩ ⟨(Arr.mk' (Arr.mk' false : Arr 10 Bool) : Arr 10 (Arr 10 Bool)), 0, rfl, hS.pick [0, 1] [0] rfl, H⟩ ?_
    rintro k F w1 ⟨y4, y5, rfl, hS, H⟩
    cases k with
    | zero => rw [spec_l01Mask.l1] at H; cases H
    | succ k =>
      rw [spec_l01Mask.l1] at H
      refine CJ.seq ?_
      refine CJ.seq ?_
      refine CJ.region ?_
      refine OJ.pures tU_ok 4 rfl ?_
      refine OJ.nil (EJ.next ?_)
      refine CJ.cond rfl (fun hb => ?_) (fun hb => ?_)
      · replace H := pif_t (of_decide_eq_true hb) H
        refine CJ.skip (EJ.next ?_)
        refine CJ.seq ?_
        refine CJ.block ?_
        refine CJ.draw [] [0, 1, 2, 3, 4, 5, 6, 7, 8, 9, 10, 11, 12] mixed (by kernel_rfl) hS fun w1 hS => ?_
        refine DJ.pures tU_ok 2 rfl ?_
        obtain ⟨t6, ht6, H⟩ := pbind H
        obtain ⟨ad6, e6⟩ := (hS.rd' (i := 0) rfl).some' ht6
        refine DJ.st rfl rfl rfl rfl rfl (SR.idxS tU_ok tI_ok rfl rfl rfl rfl e6 rfl (getI_some ht6).1) ?_
        refine DJ.st rfl rfl rfl rfl rfl (SR.fieldAddr tU_ok tI_ok rfl rfl rfl rfl rfl rfl) ?_
        refine DJ.st rfl rfl rfl rfl rfl (SR.load rfl rfl (fun w' hx => ld1 tU_ok rfl rfl (CA.ext (CA.sub ((hS.rd' (i := 0) rfl).at_ e6 ht6) 1) hx) rfl)) ?_
        refine DJ.pures tU_ok 2 rfl ?_
        obtain ⟨t7, ht7, H⟩ := pbind H
        obtain ⟨ad7, e7⟩ := (hS.rd' (i := 0) rfl).some' ht7
        refine DJ.st rfl rfl rfl rfl rfl (SR.idxS tU_ok tI_ok rfl rfl rfl rfl e7 rfl (getI_some ht7).1) ?_
        refine DJ.st rfl rfl rfl rfl rfl (SR.fieldAddr tU_ok tI_ok rfl rfl rfl rfl rfl rfl) ?_
        refine DJ.st rfl rfl rfl rfl rfl (SR.load rfl rfl (fun w' hx => ld1 tU_ok rfl rfl (CA.ext (CA.sub ((hS.rd' (i := 0) rfl).at_ e7 ht7) 0) hx) rfl)) ?_
        obtain ⟨t8, ht8, H⟩ := pbind H
        refine DJ.st rfl rfl rfl rfl rfl (SR.idxA tU_ok tI_ok rfl rfl rfl rfl rfl (Arr.lt ht8)) ?_
        obtain ⟨t9, ht9, H⟩ := pbind H
        refine DJ.st rfl rfl rfl rfl rfl (SR.idxA tU_ok tI_ok rfl rfl rfl rfl rfl (Arr.lt ht9)) ?_
        refine DJ.es rfl rfl rfl rfl (Es.put tI_ok hS (i := 1) rfl rfl rfl rfl rfl (vs := cb.enc true) rfl rfl (one1 rfl) (Put.idx (Put.idx (Put.all cb t9 true) ht9) ht8) (by (try simp only [add_lit, Nat.add_assoc, Nat.zero_add, Nat.add_zero]) <;> rfl)) ?_
        intro w1 hS
        refine DJ.nil (EJ.blk (EJ.next ?_))
        refine CJ.region ?_
        refine OJ.pures tU_ok 3 rfl ?_
        refine OJ.nil ?_
        exact EJ.round k (F' := [(0, .slice Aa0 a0.length ca0), (2, .pointer (some ⟨b1, 0, none⟩)), (3, .pointer (some ⟨b2, 0, none⟩)), (4, .int .i64 (IntKind.i64.wrap (y5 + 1)))]) ⟨rfl, rfl, rfl, rfl, trivial⟩ (Nat.lt_succ_self _) ⟨(aset y4 t6.Y.toNat (aset t8 t7.X.toNat true)), (IntKind.i64.wrap (y5 + 1)), rfl, hS.pick [0, 1] [0] rfl, H⟩
      · replace H := pif_f (of_decide_eq_false hb) H
        refine CJ.exit (EJ.skE (EJ.skE (EJ.hit (?_))))
        exact EJ.meet (F' := [(2, .pointer (some ⟨b1, 0, none⟩)), (3, .pointer (some ⟨b2, 0, none⟩))]) ⟨rfl, rfl, trivial⟩ ⟨y4, H, rfl, hS.pick [0, 1] [0] rfl⟩
  rintro F w1 ⟨y3, he, rfl, hS⟩
  obtain rfl := Option.some.inj he
  have H := K2235
  refine EJ.next ?_
  refine CJ.seq ?_
  refine CJ.region ?_
  refine OJ.st rfl rfl rfl (SR.load rfl rfl (fun w' hx => ldE tU_ok tI_ok rfl rfl rfl (CA.ext (hS.cells (i := 1) rfl) hx) rfl)) ?_
  refine OJ.es rfl rfl (Es.put tI_ok hS (i := 0) rfl rfl rfl rfl rfl (vs := (carr 10 (carr 10 cb)).enc y3) rfl ((carr 10 (carr 10 cb)).len _) ((carr 10 (carr 10 cb)).one _) (Put.all (carr 10 (carr 10 cb)) (Arr.mk' (Arr.mk' false : Arr 10 Bool) : Arr 10 (Arr 10 Bool)) y3) (by (try simp only [add_lit, Nat.add_assoc, Nat.zero_add, Nat.add_zero]) <;> rfl)) ?_
  intro w1 hS
  refine OJ.nil (EJ.next ?_)
  refine CJ.ret (?_)
  obtain rfl := Option.some.inj H
  exact EJ.fin rfl (.cell rfl (ldE tU_ok tI_ok rfl rfl rfl (hS.cells (i := 0) rfl) rfl) .nil) ⟨rfl, hS.ext⟩

def spec_l03Side.f (a0 : Hurdle) : Option Int := if a0.South = true then (some 2) else (some 1)
theorem spec_l03Side.c (w : World) (a0 : Hurdle) (r : Int) (H : spec_l03Side.f a0 = some r) :
    CV Tryz.prog 66 [.agg (cHurdle.enc a0).toArray].toArray w fun v w' => v = .int .i64 r ∧ Ext w w' := by
  have hS := (St.init w no)
  unfold spec_l03Side.f at H
  refine CV.body Tryz.func66 rfl Tryz.ntmps66 rfl ?_
  refine CJ.seq ?_
  refine CJ.region ?_
  refine OJ.ef rfl rfl rfl (Ef.box hS rfl rfl (cHurdle.enc a0) rfl) ?_
  rintro _ w1 ⟨b1, rfl, hS⟩
  refine OJ.pures tU_ok 1 rfl ?_
  refine OJ.nil (EJ.next ?_)
  refine CJ.seq ?_
  refine CJ.seq ?_
  refine CJ.region ?_
  refine OJ.st rfl rfl rfl (SR.fieldAddr tU_ok tI_ok rfl rfl rfl rfl rfl rfl) ?_
  refine OJ.st rfl rfl rfl (SR.load rfl rfl (fun w' hx => ld1 tU_ok rfl rfl (CA.ext (CA.sub (hS.cells (i := 0) rfl) 2) hx) rfl)) ?_
  refine OJ.nil (EJ.next ?_)
  refine CJ.cond rfl (fun hb => ?_) (fun hb => ?_)
  · replace H := pif_t hb H
    refine CJ.seq ?_
    refine CJ.region ?_
    refine OJ.pures tU_ok 1 rfl ?_
    refine OJ.nil (EJ.next ?_)
    refine CJ.ret (EJ.skR (?_))
    obtain rfl := Option.some.inj H
    exact EJ.fin rfl (.tmp rfl .nil) ⟨rfl, hS.ext⟩
  replace H := pifb_f hb H
  refine CJ.skip (EJ.next ?_)
  refine CJ.seq ?_
  refine CJ.region ?_
  refine OJ.pures tU_ok 1 rfl ?_
  refine OJ.nil (EJ.next ?_)
  refine CJ.ret (?_)
  obtain rfl := Option.some.inj H
  exact EJ.fin rfl (.tmp rfl .nil) ⟨rfl, hS.ext⟩

def spec_l03Is.f (a0 : Pasture) (a1 : Hurdle) : Option Bool := (spec_l01Is.f a0 a1.At).bind fun t2 => if t2 = true then ((spec_l03Side.f a1).bind fun t3 => (spec_l01Next.f a1.At t3).bind fun t4 => (spec_l01Is.f a0 t4).bind fun t5 => some t5) else (some false)
theorem spec_l03Is.c (w : World) (pa0 : Addr) (a0 : Pasture) (hp0 : CA w pa0 (cPasture.enc a0)) (a1 : Hurdle) (r : Bool) (H : spec_l03Is.f a0 a1 = some r) :
    CV Tryz.prog 106 [.pointer (some pa0), .agg (cHurdle.enc a1).toArray].toArray w fun v w' => v = .bool r ∧ Ext w w' := by
  have hS := ((St.init w no).paramP pa0 (cPasture.enc a0) hp0)
  unfold spec_l03Is.f at H
  refine CV.body Tryz.func106 rfl Tryz.ntmps106 rfl ?_
  refine CJ.seq ?_
  refine CJ.region ?_
  refine OJ.ef rfl rfl rfl (Ef.box hS rfl rfl (cHurdle.enc a1) rfl) ?_
  rintro _ w1 ⟨b1, rfl, hS⟩
  refine OJ.pures tU_ok 1 rfl ?_
  refine OJ.nil (EJ.next ?_)
  refine CJ.seq ?_
  refine CJ.draw [] [0, 1, 2, 3, 4, 5, 6, 7, 8, 9, 10, 11, 12, 13] mixed (by kernel_rfl) hS fun w1 hS => ?_
  refine DJ.pures tU_ok 1 rfl ?_
  refine DJ.st rfl rfl rfl rfl rfl (SR.fieldAddr tU_ok tI_ok rfl rfl rfl rfl rfl rfl) ?_
  refine DJ.st rfl rfl rfl rfl rfl (SR.load rfl rfl (fun w' hx => ldN tU_ok tI_ok rfl rfl rfl (CA.ext (CA.sub (hS.cells (i := 0) rfl) 0) hx) (cSpot.len _) rfl)) ?_
  obtain ⟨t2, ht2, H⟩ := pbind H
  refine DJ.callF rfl rfl rfl rfl rfl rfl rfl hb38 rfl (spec_l01Is.c _ _ a0 (hS.ca (i := 0) rfl) a1.At _ ht2) (by rintro v w' ⟨rfl, hs⟩; exact hs) ?_
  rintro _ w1 ⟨rfl, hs⟩
  replace hS := hS.grow hs
  refine DJ.pures tU_ok 1 rfl ?_
  refine DJ.split (t := 9) rfl (fun hb => ?_) (fun hb => ?_)
  · replace H := pif_t hb H
    refine DJ.pures tU_ok 1 rfl ?_
    refine DJ.st rfl rfl rfl rfl rfl (SR.fieldAddr tU_ok tI_ok rfl rfl rfl rfl rfl rfl) ?_
    refine DJ.st rfl rfl rfl rfl rfl (SR.load rfl rfl (fun w' hx => ldN tU_ok tI_ok rfl rfl rfl (CA.ext (CA.sub (hS.cells (i := 0) rfl) 0) hx) (cSpot.len _) rfl)) ?_
    refine DJ.st rfl rfl rfl rfl rfl (SR.load rfl rfl (fun w' hx => ldE tU_ok tI_ok rfl rfl rfl (CA.ext (hS.cells (i := 0) rfl) hx) rfl)) ?_
    obtain ⟨t3, ht3, H⟩ := pbind H
    refine DJ.callF rfl rfl rfl rfl rfl rfl rfl hb66 rfl (spec_l03Side.c _ a1 _ ht3) (by rintro v w' ⟨rfl, hs⟩; exact hs) ?_
    rintro _ w1 ⟨rfl, hs⟩
    replace hS := hS.grow hs
    obtain ⟨t4, ht4, H⟩ := pbind H
    refine DJ.callF rfl rfl rfl rfl rfl rfl rfl hb39 rfl (spec_l01Next.c _ a1.At t3 _ ht4) (by rintro v w' ⟨rfl, hs⟩; exact hs) ?_
    rintro _ w1 ⟨rfl, hs⟩
    replace hS := hS.grow hs
    obtain ⟨t5, ht5, H⟩ := pbind H
    refine DJ.callF rfl rfl rfl rfl rfl rfl rfl hb38 rfl (spec_l01Is.c _ _ a0 (hS.ca (i := 0) rfl) t4 _ ht5) (by rintro v w' ⟨rfl, hs⟩; exact hs) ?_
    rintro _ w1 ⟨rfl, hs⟩
    replace hS := hS.grow hs
    refine DJ.pures tU_ok 2 rfl ?_
    refine DJ.nil (EJ.next ?_)
    refine CJ.ret (?_)
    obtain rfl := Option.some.inj H
    exact EJ.fin rfl (.tmp rfl .nil) ⟨rfl, hS.ext⟩
  replace H := pifb_f hb H
  refine DJ.pures tU_ok 9 rfl ?_
  refine DJ.nil (EJ.next ?_)
  refine CJ.ret (?_)
  obtain rfl := Option.some.inj H
  exact EJ.fin rfl (.tmp rfl .nil) ⟨rfl, hS.ext⟩

def spec_l03All.l2 (a0 : Pasture) (y8 : Int) : Nat → (List Hurdle) → Int → Option (List Hurdle)
  | 0, _, _ => none
  | k + 1, y15, y18 => if y18 < a0.Wide then ((spec_l03Is.f a0 (⟨(⟨y18, y8⟩ : Spot), false⟩ : Hurdle)).bind fun t21 => if t21 = true then ((chk (y15.length + ([(⟨(⟨y18, y8⟩ : Spot), false⟩ : Hurdle)] : List Hurdle).length ≤ 4294967296)).bind fun u23 => (spec_l03Is.f a0 (⟨(⟨y18, y8⟩ : Spot), true⟩ : Hurdle)).bind fun t26 => if t26 = true then ((chk ((y15 ++ ([(⟨(⟨y18, y8⟩ : Spot), false⟩ : Hurdle)] : List Hurdle)).length + ([(⟨(⟨y18, y8⟩ : Spot), true⟩ : Hurdle)] : List Hurdle).length ≤ 4294967296)).bind fun u28 => spec_l03All.l2 a0 y8 k ((y15 ++ ([(⟨(⟨y18, y8⟩ : Spot), false⟩ : Hurdle)] : List Hurdle)) ++ ([(⟨(⟨y18, y8⟩ : Spot), true⟩ : Hurdle)] : List Hurdle)) (IntKind.i8.wrap (y18 + 1))) else (spec_l03All.l2 a0 y8 k (y15 ++ ([(⟨(⟨y18, y8⟩ : Spot), false⟩ : Hurdle)] : List Hurdle)) (IntKind.i8.wrap (y18 + 1)))) else ((spec_l03Is.f a0 (⟨(⟨y18, y8⟩ : Spot), true⟩ : Hurdle)).bind fun t31 => if t31 = true then ((chk (y15.length + ([(⟨(⟨y18, y8⟩ : Spot), true⟩ : Hurdle)] : List Hurdle).length ≤ 4294967296)).bind fun u33 => spec_l03All.l2 a0 y8 k (y15 ++ ([(⟨(⟨y18, y8⟩ : Spot), true⟩ : Hurdle)] : List Hurdle)) (IntKind.i8.wrap (y18 + 1))) else (spec_l03All.l2 a0 y8 k y15 (IntKind.i8.wrap (y18 + 1))))) else (some y15)
def spec_l03All.l1 (a0 : Pasture) : Nat → (List Hurdle) → Int → Option (List Hurdle)
  | 0, _, _ => none
  | k + 1, y5, y8 => if y8 < a0.High then (((spec_l03All.l2 a0 y8 k y5 0).bind fun y12 => some y12).bind fun y9 => spec_l03All.l1 a0 k y9 (IntKind.i8.wrap (y8 + 1))) else (some y5)
def spec_l03All.f (k : Nat) (a0 : Pasture) : Option (List Hurdle) := (spec_l03All.l1 a0 k ([] : List Hurdle) 0).bind fun y2 => some y2
theorem spec_l03All.c (k : Nat) (w : World) (pa0 : Addr) (a0 : Pasture) (hp0 : CA w pa0 (cPasture.enc a0)) (r : List Hurdle) (H : spec_l03All.f k a0 = some r) :
    CV Tryz.prog 82 [.pointer (some pa0)].toArray w fun v w' => ∃ (A0 : Option Addr) (c0 : Nat), v = .slice A0 r.length c0 ∧ St w no w' [rowC cHurdle A0 c0 75 r] [] := by
  have hS := ((St.init w no).paramP pa0 (cPasture.enc a0) hp0)
  unfold spec_l03All.f at H
  refine CV.body Tryz.func82 rfl Tryz.ntmps82 rfl ?_
  refine CJ.seq ?_
  refine CJ.region ?_
  refine OJ.pures tU_ok 1 rfl ?_
  refine OJ.nil (EJ.next ?_)
  refine CJ.seq ?_
  refine CJ.region ?_
  refine OJ.ef rfl rfl rfl (Ef.lit tU_ok tI_ok hS (C := cHurdle) rfl rfl rfl rfl rfl rfl ([] : List Hurdle) rfl rfl rfl rfl) ?_
  rintro _ w1 ⟨A1, rfl, hS⟩
  refine OJ.pures tU_ok 1 rfl ?_
  refine OJ.nil (EJ.next ?_)
  refine CJ.seq ?_
  refine CJ.seq ?_
  refine CJ.region ?_
  refine OJ.pures tU_ok 1 rfl ?_
  refine OJ.nil (EJ.next ?_)
  obtain ⟨j2236, H, K2236⟩ := pbind H
  refine CJ.cut1 (fun F w1 => ∃ (y2 : List Hurdle) (A3 : Option Addr) (c4 : Nat), (some y2 : Option (List Hurdle)) = some j2236 ∧ F = [(3, .slice A3 y2.length c4)] ∧ St w no w1 [rowC cHurdle A3 c4 75 y2] [roP pa0 (cPasture.enc a0)]) ?_ ?_
  · skip
    refine CJ.block ?_
    refine CJ.loop (fun k F w1 => ∃ (y5 : List Hurdle) (y8 : Int) (A6 : Option Addr) (c7 : Nat), F = [(0, .pointer (some pa0)), (3, .slice A6 y5.length c7), (4, .int .i8 y8)] ∧ St w no w1 [rowC cHurdle A6 c7 75 y5] [roP pa0 (cPasture.enc a0)] ∧ spec_l03All.l1 a0 k y5 y8 = some j2236) k (F' := [(0, .pointer (some pa0)), (3, .slice A1 ([] : List Hurdle).length (([] : List Hurdle).length)), (4, .int .i8 0)]) ⟨rfl, rfl, rfl, trivial⟩ ⟨([] : List Hurdle), 0, A1, (([] : List Hurdle).length), rfl, hS.pick [0] [0] rfl, H⟩ ?_
    rintro k F w1 ⟨y5, y8, A6, c7, rfl, hS, H⟩
    cases k with
    | zero => rw [spec_l03All.l1] at H; cases H
    | succ k =>
      rw [spec_l03All.l1] at H
      refine CJ.seq ?_
      refine CJ.seq ?_
      refine CJ.region ?_
      refine OJ.pures tU_ok 3 rfl ?_
      refine OJ.st rfl rfl rfl (SR.fieldAddr tU_ok tI_ok rfl rfl rfl rfl rfl rfl) ?_
      refine OJ.st rfl rfl rfl (SR.load rfl rfl (fun w' hx => ld1 tU_ok rfl rfl (CA.ext (CA.fld (hS.ca (i := 0) rfl) (mid_part (fe_Pasture_1 _) (fl_Pasture_1 _) ((ci .i8).len _))) hx) rfl)) ?_
      refine OJ.pures tU_ok 1 rfl ?_
      refine OJ.nil (EJ.next ?_)
      refine CJ.cond rfl (fun hb => ?_) (fun hb => ?_)
      · replace H := pif_t (of_decide_eq_true hb) H
        refine CJ.skip (EJ.next ?_)
        obtain ⟨j2243, H, K2243⟩ := pbind H
        refine CJ.cut (fun F w1 => ∃ (y9 : List Hurdle) (A10 : Option Addr) (c11 : Nat), (some y9 : Option (List Hurdle)) = some j2243 ∧ F = [(0, .pointer (some pa0)), (3, .slice A10 y9.length c11), (4, .int .i8 y8)] ∧ St w no w1 [rowC cHurdle A10 c11 75 y9] [roP pa0 (cPasture.enc a0)]) ?_ ?_
        · skip
          refine CJ.block ?_
          refine CJ.seq ?_
          refine CJ.region ?_
          refine OJ.pures tU_ok 1 rfl ?_
          refine OJ.nil (EJ.next ?_)
          obtain ⟨j2245, H, K2245⟩ := pbind H
          refine CJ.cut1 (fun F w1 => ∃ (y12 : List Hurdle) (A13 : Option Addr) (c14 : Nat), (some y12 : Option (List Hurdle)) = some j2245 ∧ F = [(0, .pointer (some pa0)), (3, .slice A13 y12.length c14), (4, .int .i8 y8)] ∧ St w no w1 [rowC cHurdle A13 c14 75 y12] [roP pa0 (cPasture.enc a0)]) ?_ ?_
          · skip
            refine CJ.block ?_
            refine CJ.loop (fun k F w1 => ∃ (y15 : List Hurdle) (y18 : Int) (A16 : Option Addr) (c17 : Nat), F = [(0, .pointer (some pa0)), (3, .slice A16 y15.length c17), (4, .int .i8 y8), (5, .int .i8 y18)] ∧ St w no w1 [rowC cHurdle A16 c17 75 y15] [roP pa0 (cPasture.enc a0)] ∧ spec_l03All.l2 a0 y8 k y15 y18 = some j2245) k (F' := [(0, .pointer (some pa0)), (3, .slice A6 y5.length c7), (4, .int .i8 y8), (5, .int .i8 0)]) ⟨rfl, rfl, rfl, rfl, trivial⟩ ⟨y5, 0, A6, c7, rfl, hS.pick [0] [0] rfl, H⟩ ?_
            rintro k F w1 ⟨y15, y18, A16, c17, rfl, hS, H⟩
            cases k with
            | zero => rw [spec_l03All.l2] at H; cases H
            | succ k =>
              rw [spec_l03All.l2] at H
              refine CJ.seq ?_
              refine CJ.seq ?_
              refine CJ.region ?_
              refine OJ.pures tU_ok 3 rfl ?_
              refine OJ.st rfl rfl rfl (SR.fieldAddr tU_ok tI_ok rfl rfl rfl rfl rfl rfl) ?_
              refine OJ.st rfl rfl rfl (SR.load rfl rfl (fun w' hx => ld1 tU_ok rfl rfl (CA.ext (CA.fld (hS.ca (i := 0) rfl) (mid_part (fe_Pasture_0 _) (fl_Pasture_0 _) ((ci .i8).len _))) hx) rfl)) ?_
              refine OJ.pures tU_ok 1 rfl ?_
              refine OJ.nil (EJ.next ?_)
              refine CJ.cond rfl (fun hb => ?_) (fun hb => ?_)
              · replace H := pif_t (of_decide_eq_true hb) H
                refine CJ.skip (EJ.next ?_)
                refine CJ.seq ?_
                refine CJ.block ?_
                refine CJ.seq ?_
                refine CJ.region ?_
                refine OJ.pures tU_ok 2 rfl ?_
                refine OJ.st rfl rfl rfl (SR.build (C := cSpot) tU_ok tI_ok rfl rfl rfl (zs := [.int .i8 0, .int .i8 0]) rfl rfl rfl (⟨y18, y8⟩ : Spot) rfl) ?_
                refine OJ.st rfl rfl rfl (SR.build (C := cHurdle) tU_ok tI_ok rfl rfl rfl (zs := [.int .i8 0, .int .i8 0, .bool false]) rfl rfl rfl (⟨(⟨y18, y8⟩ : Spot), false⟩ : Hurdle) rfl) ?_
                refine OJ.ef rfl rfl rfl (Ef.alloc hS tI_ok rfl rfl (cHurdle.enc (⟨(⟨0, 0⟩ : Spot), false⟩ : Hurdle)) rfl) ?_
                rintro _ w1 ⟨b19, rfl, hS⟩
                refine OJ.es rfl rfl (Es.store tI_ok hS (i := 1) rfl rfl rfl rfl rfl rfl (vs := cHurdle.enc (⟨(⟨y18, y8⟩ : Spot), false⟩ : Hurdle)) rfl (cHurdle.len _) (cHurdle.one _) (Nat.le_of_ble_eq_true rfl) (cHurdle.enc (⟨(⟨y18, y8⟩ : Spot), false⟩ : Hurdle)) rfl) ?_
                intro w1 hS
                refine OJ.nil (EJ.next ?_)
                refine CJ.seq ?_
                refine CJ.region ?_
                refine OJ.pures tU_ok 2 rfl ?_
                refine OJ.st rfl rfl rfl (SR.build (C := cSpot) tU_ok tI_ok rfl rfl rfl (zs := [.int .i8 0, .int .i8 0]) rfl rfl rfl (⟨y18, y8⟩ : Spot) rfl) ?_
                refine OJ.st rfl rfl rfl (SR.build (C := cHurdle) tU_ok tI_ok rfl rfl rfl (zs := [.int .i8 0, .int .i8 0, .bool false]) rfl rfl rfl (⟨(⟨y18, y8⟩ : Spot), true⟩ : Hurdle) rfl) ?_
                refine OJ.ef rfl rfl rfl (Ef.alloc hS tI_ok rfl rfl (cHurdle.enc (⟨(⟨0, 0⟩ : Spot), false⟩ : Hurdle)) rfl) ?_
                rintro _ w1 ⟨b20, rfl, hS⟩
                refine OJ.es rfl rfl (Es.store tI_ok hS (i := 2) rfl rfl rfl rfl rfl rfl (vs := cHurdle.enc (⟨(⟨y18, y8⟩ : Spot), true⟩ : Hurdle)) rfl (cHurdle.len _) (cHurdle.one _) (Nat.le_of_ble_eq_true rfl) (cHurdle.enc (⟨(⟨y18, y8⟩ : Spot), true⟩ : Hurdle)) rfl) ?_
                intro w1 hS
                refine OJ.nil (EJ.next ?_)
                refine CJ.seq ?_
                refine CJ.seq ?_
                refine CJ.region ?_
                refine OJ.pures tU_ok 1 rfl ?_
                refine OJ.st rfl rfl rfl (SR.load rfl rfl (fun w' hx => ldE tU_ok tI_ok rfl rfl rfl (CA.ext (hS.cells (i := 1) rfl) hx) rfl)) ?_
                obtain ⟨t21, ht21, H⟩ := pbind H
                refine OJ.callF rfl rfl rfl rfl rfl hb106 rfl (spec_l03Is.c _ _ a0 (hS.ca (i := 0) rfl) (⟨(⟨y18, y8⟩ : Spot), false⟩ : Hurdle) _ ht21) ?_
                rintro _ w1 ⟨rfl, hs⟩
                replace hS := hS.grow hs
                refine OJ.nil (EJ.next ?_)
                refine CJ.cond rfl (fun hb => ?_) (fun hb => ?_)
                · replace H := pif_t hb H
                  refine CJ.region ?_
                  refine OJ.pures tU_ok 1 rfl ?_
                  refine OJ.st rfl rfl rfl (SR.load rfl rfl (fun w' hx => ldE tU_ok tI_ok rfl rfl rfl (CA.ext (hS.cells (i := 1) rfl) hx) rfl)) ?_
                  refine OJ.ef rfl rfl rfl (Ef.lit tU_ok tI_ok hS (C := cHurdle) rfl rfl rfl rfl rfl rfl ([(⟨(⟨y18, y8⟩ : Spot), false⟩ : Hurdle)] : List Hurdle) rfl rfl rfl rfl) ?_
                  rintro _ w1 ⟨A22, rfl, hS⟩
                  obtain ⟨u23, hu23, H⟩ := pbind H
                  refine OJ.ew rfl rfl rfl (Ew.append tU_ok tI_ok (C := cHurdle) (xs := y15) (ys := ([(⟨(⟨y18, y8⟩ : Spot), false⟩ : Hurdle)] : List Hurdle)) hS (i := 0) rfl rfl rfl rfl rfl rfl rfl rfl rfl rfl rfl rfl rfl (hS.rd (i := 3) rfl) (chk_some hu23)) ?_
                  rintro _ w1 ⟨A24, c25, rfl, hS⟩
                  refine OJ.pures tU_ok 1 rfl ?_
                  refine OJ.nil (EJ.next ?_)
                  refine CJ.seq ?_
                  refine CJ.region ?_
                  refine OJ.pures tU_ok 1 rfl ?_
                  refine OJ.st rfl rfl rfl (SR.load rfl rfl (fun w' hx => ldE tU_ok tI_ok rfl rfl rfl (CA.ext (hS.cells (i := 2) rfl) hx) rfl)) ?_
                  obtain ⟨t26, ht26, H⟩ := pbind H
                  refine OJ.callF rfl rfl rfl rfl rfl hb106 rfl (spec_l03Is.c _ _ a0 (hS.ca (i := 0) rfl) (⟨(⟨y18, y8⟩ : Spot), true⟩ : Hurdle) _ ht26) ?_
                  rintro _ w1 ⟨rfl, hs⟩
                  replace hS := hS.grow hs
                  refine OJ.nil (EJ.next ?_)
                  refine CJ.cond rfl (fun hb => ?_) (fun hb => ?_)
                  · replace H := pif_t hb H
                    refine CJ.region ?_
                    refine OJ.pures tU_ok 1 rfl ?_
                    refine OJ.st rfl rfl rfl (SR.load rfl rfl (fun w' hx => ldE tU_ok tI_ok rfl rfl rfl (CA.ext (hS.cells (i := 2) rfl) hx) rfl)) ?_
                    refine OJ.ef rfl rfl rfl (Ef.lit tU_ok tI_ok hS (C := cHurdle) rfl rfl rfl rfl rfl rfl ([(⟨(⟨y18, y8⟩ : Spot), true⟩ : Hurdle)] : List Hurdle) rfl rfl rfl rfl) ?_
                    rintro _ w1 ⟨A27, rfl, hS⟩
                    obtain ⟨u28, hu28, H⟩ := pbind H
                    refine OJ.ew rfl rfl rfl (Ew.append tU_ok tI_ok (C := cHurdle) (xs := (y15 ++ ([(⟨(⟨y18, y8⟩ : Spot), false⟩ : Hurdle)] : List Hurdle))) (ys := ([(⟨(⟨y18, y8⟩ : Spot), true⟩ : Hurdle)] : List Hurdle)) hS (i := 0) rfl rfl rfl rfl rfl rfl rfl rfl rfl rfl rfl rfl rfl (hS.rd (i := 4) rfl) (chk_some hu28)) ?_
                    rintro _ w1 ⟨A29, c30, rfl, hS⟩
                    refine OJ.pures tU_ok 1 rfl ?_
                    refine OJ.nil (EJ.blk (EJ.next ?_))
                    refine CJ.region ?_
                    refine OJ.pures tU_ok 3 rfl ?_
                    refine OJ.nil ?_
                    exact EJ.round k (F' := [(0, .pointer (some pa0)), (3, .slice A29 ((y15 ++ ([(⟨(⟨y18, y8⟩ : Spot), false⟩ : Hurdle)] : List Hurdle)) ++ ([(⟨(⟨y18, y8⟩ : Spot), true⟩ : Hurdle)] : List Hurdle)).length c30), (4, .int .i8 y8), (5, .int .i8 (IntKind.i8.wrap (y18 + 1)))]) ⟨rfl, rfl, rfl, rfl, trivial⟩ (Nat.lt_succ_self _) ⟨((y15 ++ ([(⟨(⟨y18, y8⟩ : Spot), false⟩ : Hurdle)] : List Hurdle)) ++ ([(⟨(⟨y18, y8⟩ : Spot), true⟩ : Hurdle)] : List Hurdle)), (IntKind.i8.wrap (y18 + 1)), A29, c30, rfl, hS.pick [0] [0] rfl, H⟩
                  · replace H := pifb_f hb H
                    refine CJ.skip (EJ.blk (EJ.next ?_))
                    refine CJ.region ?_
                    refine OJ.pures tU_ok 3 rfl ?_
                    refine OJ.nil ?_
                    exact EJ.round k (F' := [(0, .pointer (some pa0)), (3, .slice A24 (y15 ++ ([(⟨(⟨y18, y8⟩ : Spot), false⟩ : Hurdle)] : List Hurdle)).length c25), (4, .int .i8 y8), (5, .int .i8 (IntKind.i8.wrap (y18 + 1)))]) ⟨rfl, rfl, rfl, rfl, trivial⟩ (Nat.lt_succ_self _) ⟨(y15 ++ ([(⟨(⟨y18, y8⟩ : Spot), false⟩ : Hurdle)] : List Hurdle)), (IntKind.i8.wrap (y18 + 1)), A24, c25, rfl, hS.pick [0] [0] rfl, H⟩
                · replace H := pifb_f hb H
                  refine CJ.skip (EJ.next ?_)
                  refine CJ.seq ?_
                  refine CJ.region ?_
                  refine OJ.pures tU_ok 1 rfl ?_
                  refine OJ.st rfl rfl rfl (SR.load rfl rfl (fun w' hx => ldE tU_ok tI_ok rfl rfl rfl (CA.ext (hS.cells (i := 2) rfl) hx) rfl)) ?_
                  obtain ⟨t31, ht31, H⟩ := pbind H
                  refine OJ.callF rfl rfl rfl rfl rfl hb106 rfl (spec_l03Is.c _ _ a0 (hS.ca (i := 0) rfl) (⟨(⟨y18, y8⟩ : Spot), true⟩ : Hurdle) _ ht31) ?_
                  rintro _ w1 ⟨rfl, hs⟩
                  replace hS := hS.grow hs
                  refine OJ.nil (EJ.next ?_)
                  refine CJ.cond rfl (fun hb => ?_) (fun hb => ?_)
                  · replace H := pif_t hb H
                    refine CJ.region ?_
                    refine OJ.pures tU_ok 1 rfl ?_
                    refine OJ.st rfl rfl rfl (SR.load rfl rfl (fun w' hx => ldE tU_ok tI_ok rfl rfl rfl (CA.ext (hS.cells (i := 2) rfl) hx) rfl)) ?_
                    refine OJ.ef rfl rfl rfl (Ef.lit tU_ok tI_ok hS (C := cHurdle) rfl rfl rfl rfl rfl rfl ([(⟨(⟨y18, y8⟩ : Spot), true⟩ : Hurdle)] : List Hurdle) rfl rfl rfl rfl) ?_
                    rintro _ w1 ⟨A32, rfl, hS⟩
                    obtain ⟨u33, hu33, H⟩ := pbind H
                    refine OJ.ew rfl rfl rfl (Ew.append tU_ok tI_ok (C := cHurdle) (xs := y15) (ys := ([(⟨(⟨y18, y8⟩ : Spot), true⟩ : Hurdle)] : List Hurdle)) hS (i := 0) rfl rfl rfl rfl rfl rfl rfl rfl rfl rfl rfl rfl rfl (hS.rd (i := 3) rfl) (chk_some hu33)) ?_
                    rintro _ w1 ⟨A34, c35, rfl, hS⟩
                    refine OJ.pures tU_ok 1 rfl ?_
                    refine OJ.nil (EJ.blk (EJ.next ?_))
                    refine CJ.region ?_
                    refine OJ.pures tU_ok 3 rfl ?_
                    refine OJ.nil ?_
                    exact EJ.round k (F' := [(0, .pointer (some pa0)), (3, .slice A34 (y15 ++ ([(⟨(⟨y18, y8⟩ : Spot), true⟩ : Hurdle)] : List Hurdle)).length c35), (4, .int .i8 y8), (5, .int .i8 (IntKind.i8.wrap (y18 + 1)))]) ⟨rfl, rfl, rfl, rfl, trivial⟩ (Nat.lt_succ_self _) ⟨(y15 ++ ([(⟨(⟨y18, y8⟩ : Spot), true⟩ : Hurdle)] : List Hurdle)), (IntKind.i8.wrap (y18 + 1)), A34, c35, rfl, hS.pick [0] [0] rfl, H⟩
                  · replace H := pifb_f hb H
                    refine CJ.skip (EJ.blk (EJ.next ?_))
                    refine CJ.region ?_
                    refine OJ.pures tU_ok 3 rfl ?_
                    refine OJ.nil ?_
                    exact EJ.round k (F' := [(0, .pointer (some pa0)), (3, .slice A16 y15.length c17), (4, .int .i8 y8), (5, .int .i8 (IntKind.i8.wrap (y18 + 1)))]) ⟨rfl, rfl, rfl, rfl, trivial⟩ (Nat.lt_succ_self _) ⟨y15, (IntKind.i8.wrap (y18 + 1)), A16, c17, rfl, hS.pick [0] [0] rfl, H⟩
              · replace H := pif_f (of_decide_eq_false hb) H
                refine CJ.exit (EJ.skE (EJ.skE (EJ.hit (?_))))
                exact EJ.meet (F' := [(0, .pointer (some pa0)), (3, .slice A16 y15.length c17), (4, .int .i8 y8)]) ⟨rfl, rfl, rfl, trivial⟩ ⟨y15, A16, c17, H, rfl, hS.pick [0] [0] rfl⟩
          · rintro F w1 ⟨y12, A13, c14, he, rfl, hS⟩
            obtain rfl := Option.some.inj he
            have H := K2245
            refine EJ.blk (?_)
            exact EJ.meet (F' := [(0, .pointer (some pa0)), (3, .slice A13 y12.length c14), (4, .int .i8 y8)]) ⟨rfl, rfl, rfl, trivial⟩ ⟨y12, A13, c14, H, rfl, hS.pick [0] [0] rfl⟩
        · rintro F w1 ⟨y9, A10, c11, he, rfl, hS⟩
          obtain rfl := Option.some.inj he
          have H := K2243
          refine CJ.region ?_
          refine OJ.pures tU_ok 3 rfl ?_
          refine OJ.nil ?_
          exact EJ.round k (F' := [(0, .pointer (some pa0)), (3, .slice A10 y9.length c11), (4, .int .i8 (IntKind.i8.wrap (y8 + 1)))]) ⟨rfl, rfl, rfl, trivial⟩ (Nat.lt_succ_self _) ⟨y9, (IntKind.i8.wrap (y8 + 1)), A10, c11, rfl, hS.pick [0] [0] rfl, H⟩
      · replace H := pif_f (of_decide_eq_false hb) H
        refine CJ.exit (EJ.skE (EJ.skE (EJ.hit (?_))))
        exact EJ.meet (F' := [(3, .slice A6 y5.length c7)]) ⟨rfl, trivial⟩ ⟨y5, A6, c7, H, rfl, hS.pick [0] [0] rfl⟩
  rintro F w1 ⟨y2, A3, c4, he, rfl, hS⟩
  obtain rfl := Option.some.inj he
  have H := K2236
  refine EJ.next ?_
  refine CJ.seq ?_
  refine CJ.region ?_
  refine OJ.pures tU_ok 2 rfl ?_
  refine OJ.nil (EJ.next ?_)
  refine CJ.ret (?_)
  obtain rfl := Option.some.inj H
  exact EJ.fin rfl (.tmp rfl .nil) ⟨A3, c4, rfl, hS.pick [0] [] rfl⟩

def spec_l03Stands.f (a0 : Pasture) (a1 : Hurdle) : Option Bool := (spec_l03Side.f a1).bind fun t2 => (spec_l01Closed.f a0 a1.At t2).bind fun t3 => some t3
theorem spec_l03Stands.c (w : World) (pa0 : Addr) (a0 : Pasture) (hp0 : CA w pa0 (cPasture.enc a0)) (a1 : Hurdle) (r : Bool) (H : spec_l03Stands.f a0 a1 = some r) :
    CV Tryz.prog 83 [.pointer (some pa0), .agg (cHurdle.enc a1).toArray].toArray w fun v w' => v = .bool r ∧ Ext w w' := by
  have hS := ((St.init w no).paramP pa0 (cPasture.enc a0) hp0)
  unfold spec_l03Stands.f at H
  refine CV.body Tryz.func83 rfl Tryz.ntmps83 rfl ?_
  refine CJ.seq ?_
  refine CJ.region ?_
  refine OJ.ef rfl rfl rfl (Ef.box hS rfl rfl (cHurdle.enc a1) rfl) ?_
  rintro _ w1 ⟨b1, rfl, hS⟩
  refine OJ.pures tU_ok 1 rfl ?_
  refine OJ.nil (EJ.next ?_)
  refine CJ.seq ?_
  refine CJ.draw [] [0, 1, 2, 3, 4, 5, 6] mixed (by kernel_rfl) hS fun w1 hS => ?_
  refine DJ.pures tU_ok 1 rfl ?_
  refine DJ.st rfl rfl rfl rfl rfl (SR.fieldAddr tU_ok tI_ok rfl rfl rfl rfl rfl rfl) ?_
  refine DJ.st rfl rfl rfl rfl rfl (SR.load rfl rfl (fun w' hx => ldN tU_ok tI_ok rfl rfl rfl (CA.ext (CA.sub (hS.cells (i := 0) rfl) 0) hx) (cSpot.len _) rfl)) ?_
  refine DJ.st rfl rfl rfl rfl rfl (SR.load rfl rfl (fun w' hx => ldE tU_ok tI_ok rfl rfl rfl (CA.ext (hS.cells (i := 0) rfl) hx) rfl)) ?_
  obtain ⟨t2, ht2, H⟩ := pbind H
  refine DJ.callF rfl rfl rfl rfl rfl rfl rfl hb66 rfl (spec_l03Side.c _ a1 _ ht2) (by rintro v w' ⟨rfl, hs⟩; exact hs) ?_
  rintro _ w1 ⟨rfl, hs⟩
  replace hS := hS.grow hs
  obtain ⟨t3, ht3, H⟩ := pbind H
  refine DJ.callF rfl rfl rfl rfl rfl rfl rfl hb85 rfl (spec_l01Closed.c _ _ a0 (hS.ca (i := 0) rfl) a1.At t2 _ ht3) (by rintro v w' ⟨rfl, hs⟩; exact hs) ?_
  rintro _ w1 ⟨rfl, hs⟩
  replace hS := hS.grow hs
  refine DJ.pures tU_ok 1 rfl ?_
  refine DJ.nil (EJ.next ?_)
  refine CJ.ret (?_)
  obtain rfl := Option.some.inj H
  exact EJ.fin rfl (.tmp rfl .nil) ⟨rfl, hS.ext⟩

def spec_l03Open.l1 (a0 : Pasture) (a1 : Arr 10 (Arr 10 Bool)) (t1 : List Hurdle) : Nat → (List Hurdle) → Int → Option (List Hurdle)
  | 0, _, _ => none
  | k + 1, y8, y11 => if y11 < (t1.length : Int) then ((getI t1 y11).bind fun t12 => (getI t1 y11).bind fun t13 => (spec_l03Side.f t13).bind fun t14 => (spec_l01Next.f t12.At t14).bind fun t15 => ((getI t1 y11).bind fun t21 => (getI t1 y11).bind fun t22 => (getI a1.l t21.At.Y).bind fun t23 => (getI t23.l t22.At.X).bind fun t24 => (getI a1.l t15.Y).bind fun t25 => (getI t25.l t15.X).bind fun t26 => if t24 ≠ t26 then ((getI t1 y11).bind fun t27 => (spec_l03Stands.f a0 t27).bind fun t28 => some (!t28)) else (some false)).bind fun y20 => if y20 = true then ((getI t1 y11).bind fun t29 => (chk (y8.length + ([t29] : List Hurdle).length ≤ 4294967296)).bind fun u31 => spec_l03Open.l1 a0 a1 t1 k (y8 ++ ([t29] : List Hurdle)) (IntKind.i64.wrap (y11 + 1))) else (spec_l03Open.l1 a0 a1 t1 k y8 (IntKind.i64.wrap (y11 + 1)))) else (some y8)
def spec_l03Open.f (k : Nat) (a0 : Pasture) (a1 : Arr 10 (Arr 10 Bool)) : Option (List Hurdle) := (spec_l03All.f k a0).bind fun t1 => (spec_l03Open.l1 a0 a1 t1 k ([] : List Hurdle) 0).bind fun y5 => some y5
theorem spec_l03Open.c (k : Nat) (w : World) (pa0 : Addr) (a0 : Pasture) (hp0 : CA w pa0 (cPasture.enc a0)) (pa1 : Addr) (a1 : Arr 10 (Arr 10 Bool)) (hp1 : CA w pa1 ((carr 10 (carr 10 cb)).enc a1)) (r : List Hurdle) (H : spec_l03Open.f k a0 a1 = some r) :
    CV Tryz.prog 60 [.pointer (some pa0), .pointer (some pa1)].toArray w fun v w' => ∃ (A0 : Option Addr) (c0 : Nat), v = .slice A0 r.length c0 ∧ St w no w' [rowC cHurdle A0 c0 75 r] [] := by
  have hS := (((St.init w no).paramP pa0 (cPasture.enc a0) hp0).paramP pa1 ((carr 10 (carr 10 cb)).enc a1) hp1)
  unfold spec_l03Open.f at H
  refine CV.body Tryz.func60 rfl Tryz.ntmps60 rfl ?_
  refine CJ.seq ?_
  refine CJ.region ?_
  refine OJ.pures tU_ok 1 rfl ?_
  refine OJ.nil (EJ.next ?_)
  refine CJ.seq ?_
  refine CJ.region ?_
  refine OJ.pures tU_ok 1 rfl ?_
  obtain ⟨t1, ht1, H⟩ := pbind H
  refine OJ.callF rfl rfl rfl rfl rfl hb82 rfl (spec_l03All.c k _ _ a0 (hS.ca (i := 0) rfl) _ ht1) ?_
  rintro _ w1 ⟨A2, c3, rfl, hs⟩
  replace hS := hS.addN hs
  refine OJ.pures tU_ok 1 rfl ?_
  refine OJ.nil (EJ.next ?_)
  refine CJ.seq ?_
  refine CJ.region ?_
  refine OJ.ef rfl rfl rfl (Ef.lit tU_ok tI_ok hS (C := cHurdle) rfl rfl rfl rfl rfl rfl ([] : List Hurdle) rfl rfl rfl rfl) ?_
  rintro _ w1 ⟨A4, rfl, hS⟩
  refine OJ.pures tU_ok 1 rfl ?_
  refine OJ.nil (EJ.next ?_)
  refine CJ.seq ?_
  refine CJ.seq ?_
  refine CJ.region ?_
  refine OJ.pures tU_ok 1 rfl ?_
  refine OJ.nil (EJ.next ?_)
  obtain ⟨j2246, H, K2246⟩ := pbind H
  refine CJ.cut1 (fun F w1 => ∃ (y5 : List Hurdle) (A6 : Option Addr) (c7 : Nat), (some y5 : Option (List Hurdle)) = some j2246 ∧ F = [(6, .slice A6 y5.length c7)] ∧ St w no w1 [rowC cHurdle A6 c7 75 y5] [roP pa0 (cPasture.enc a0), roP pa1 ((carr 10 (carr 10 cb)).enc a1)]) ?_ ?_
  · skip
    refine CJ.block ?_
    refine CJ.loop (fun k F w1 => ∃ (y8 : List Hurdle) (y11 : Int) (A9 : Option Addr) (c10 : Nat), F = [(0, .pointer (some pa0)), (1, .pointer (some pa1)), (5, .slice A2 t1.length c3), (6, .slice A9 y8.length c10), (7, .int .i64 y11)] ∧ St w no w1 [rowC cHurdle A2 c3 75 t1, rowC cHurdle A9 c10 75 y8] [roP pa0 (cPasture.enc a0), roP pa1 ((carr 10 (carr 10 cb)).enc a1)] ∧ spec_l03Open.l1 a0 a1 t1 k y8 y11 = some j2246) k (F' := [(0, .pointer (some pa0)), (1, .pointer (some pa1)), (5, .slice A2 t1.length c3), (6, .slice A4 ([] : List Hurdle).length (([] : List Hurdle).length)), (7, .int .i64 0)]) ⟨rfl, rfl, rfl, rfl, rfl, trivial⟩ ⟨([] : List Hurdle), 0, A4, (([] : List Hurdle).length), rfl, hS.pick [0, 1] [0, 1] rfl, H⟩ ?_
    rintro k F w1 ⟨y8, y11, A9, c10, rfl, hS, H⟩
    cases k with
    | zero => rw [spec_l03Open.l1] at H; cases H
    | succ k =>
      rw [spec_l03Open.l1] at H
      refine CJ.seq ?_
      refine CJ.seq ?_
      refine CJ.region ?_
      refine OJ.pures tU_ok 4 rfl ?_
      refine OJ.nil (EJ.next ?_)
      refine CJ.cond rfl (fun hb => ?_) (fun hb => ?_)
      · replace H := pif_t (of_decide_eq_true hb) H
        refine CJ.skip (EJ.next ?_)
        refine CJ.seq ?_
        refine CJ.block ?_
        refine CJ.seq ?_
        obtain ⟨t12, ht12, H⟩ := pbind H
        obtain ⟨t13, ht13, H⟩ := pbind H
        obtain ⟨t14, ht14, H⟩ := pbind H
        obtain ⟨t15, ht15, H⟩ := pbind H
        refine CJ.cut1 (fun F w1 => ∃ (b16 : Nat), F = [(0, .pointer (some pa0)), (1, .pointer (some pa1)), (5, .slice A2 t1.length c3), (6, .slice A9 y8.length c10), (7, .int .i64 y11), (8, .pointer (some ⟨b16, 0, none⟩))] ∧ St w no w1 [rowC cHurdle A2 c3 75 t1, rowC cHurdle A9 c10 75 y8, box b16 (cSpot.enc t15) 34] [roP pa0 (cPasture.enc a0), roP pa1 ((carr 10 (carr 10 cb)).enc a1)]) ?_ ?_
        · skip
          refine CJ.drawT [] [9, 10, 11, 12] (.one 0 (.one 1 (.one 2 (.one 3 (.one 4 (.one 5 (.one 6 (.one 7 (.one 8 (.br (.alt 9 (.br (.alt 10 (.one 11 (.one 12 (.fin))) (.alt 11 (.one 10 (.one 12 (.fin))) (.stop)))) (.alt 11 (.one 9 (.one 10 (.one 12 (.fin)))) (.stop))))))))))))) mixed (by kernel_rfl) hS [0] fun w1 hS hY hV => ?_
          refine TJ.pures tU_ok 2 rfl ?_
          obtain ⟨ad12, e12⟩ := (hS.rd (i := 0) rfl).some' ht12
          refine TJ.sp rfl rfl rfl rfl rfl (fun w2 => SR.idxS tU_ok tI_ok rfl rfl rfl rfl e12 rfl (getI_some ht12).1) ?_
          refine TJ.sp rfl rfl rfl rfl rfl (fun w2 => SR.fieldAddr tU_ok tI_ok rfl rfl rfl rfl rfl rfl) ?_
          refine TJ.st hY rfl rfl rfl rfl rfl (fun w2 hY => SR.load rfl rfl (fun w' hx => ldN tU_ok tI_ok rfl rfl rfl (CA.ext (CA.sub (((hV w2 hY).rdR (i := 2) rfl).at_ e12 ht12) 0) hx) (cSpot.len _) rfl)) ?_
          refine TJ.pures tU_ok 2 rfl ?_
          obtain ⟨ad13, e13⟩ := (hS.rd (i := 0) rfl).some' ht13
          refine TJ.sp rfl rfl rfl rfl rfl (fun w2 => SR.idxS tU_ok tI_ok rfl rfl rfl rfl e13 rfl (getI_some ht13).1) ?_
          refine TJ.st hY rfl rfl rfl rfl rfl (fun w2 hY => SR.load rfl rfl (fun w' hx => ldE tU_ok tI_ok rfl rfl rfl (CA.ext (((hV w2 hY).rdR (i := 2) rfl).at_ e13 ht13) hx) rfl)) ?_
          refine TJ.br ?_
          refine TJ.alt ?_ ?_
          · skip
            refine TJ.callF hY rfl rfl rfl rfl rfl rfl rfl hb66 rfl (spec_l03Side.c _ t13 _ ht14) (by rintro v w' ⟨rfl, hs⟩; exact hs) ?_
            rintro _ w1 hY ⟨rfl, hs⟩
            replace hS := hS.grow hs
            refine TJ.br ?_
            refine TJ.alt ?_ ?_
            · skip
              refine TJ.callF hY rfl rfl rfl rfl rfl rfl rfl hb39 rfl (spec_l01Next.c _ t12.At t14 _ ht15) (by rintro v w' ⟨rfl, hs⟩; exact hs) ?_
              rintro _ w1 hY ⟨rfl, hs⟩
              replace hS := hS.grow hs
              refine TJ.ef hY rfl rfl rfl rfl rfl (Ef.alloc hS tI_ok rfl rfl (cSpot.enc (⟨0, 0⟩ : Spot)) rfl) ?_
              rintro _ w1 hY ⟨b17, rfl, hS⟩
              have hO := hS
              refine TJ.es rfl rfl rfl rfl (Es.store tI_ok (hS.inn [0]) (i := 2) rfl rfl rfl rfl rfl rfl (vs := cSpot.enc t15) rfl (cSpot.len _) (cSpot.one _) (Nat.le_of_ble_eq_true rfl) (cSpot.enc t15) rfl) (by intro w1 hS; exact hY.wr (hO.inY [0] 2 rfl rfl) hS.chg) ?_
              intro w1 hY hS
              have hS : St w no w1 [rowC cHurdle A2 c3 75 t1, rowC cHurdle A9 c10 75 y8, box b17 (cSpot.enc t15) 34] [roP pa0 (cPasture.enc a0), roP pa1 ((carr 10 (carr 10 cb)).enc a1)] := hO.out [0] hS
              refine TJ.nil ?_
              exact EJ.meet (F' := [(0, .pointer (some pa0)), (1, .pointer (some pa1)), (5, .slice A2 t1.length c3), (6, .slice A9 y8.length c10), (7, .int .i64 y11), (8, .pointer (some ⟨b17, 0, none⟩))]) ⟨rfl, rfl, rfl, rfl, rfl, rfl, trivial⟩ ⟨b17, rfl, hS.pick [0, 1, 2] [0, 1] rfl⟩
            refine TJ.alt ?_ ?_
            · skip
              refine TJ.ef hY rfl rfl rfl rfl rfl (Ef.alloc hS tI_ok rfl rfl (cSpot.enc (⟨0, 0⟩ : Spot)) rfl) ?_
              rintro _ w1 hY ⟨b18, rfl, hS⟩
              refine TJ.callF hY rfl rfl rfl rfl rfl rfl rfl hb39 rfl (spec_l01Next.c _ t12.At t14 _ ht15) (by rintro v w' ⟨rfl, hs⟩; exact hs) ?_
              rintro _ w1 hY ⟨rfl, hs⟩
              replace hS := hS.grow hs
              have hO := hS
              refine TJ.es rfl rfl rfl rfl (Es.store tI_ok (hS.inn [0]) (i := 2) rfl rfl rfl rfl rfl rfl (vs := cSpot.enc t15) rfl (cSpot.len _) (cSpot.one _) (Nat.le_of_ble_eq_true rfl) (cSpot.enc t15) rfl) (by intro w1 hS; exact hY.wr (hO.inY [0] 2 rfl rfl) hS.chg) ?_
              intro w1 hY hS
              have hS : St w no w1 [rowC cHurdle A2 c3 75 t1, rowC cHurdle A9 c10 75 y8, box b18 (cSpot.enc t15) 34] [roP pa0 (cPasture.enc a0), roP pa1 ((carr 10 (carr 10 cb)).enc a1)] := hO.out [0] hS
              refine TJ.nil ?_
              exact EJ.meet (F' := [(0, .pointer (some pa0)), (1, .pointer (some pa1)), (5, .slice A2 t1.length c3), (6, .slice A9 y8.length c10), (7, .int .i64 y11), (8, .pointer (some ⟨b18, 0, none⟩))]) ⟨rfl, rfl, rfl, rfl, rfl, rfl, trivial⟩ ⟨b18, rfl, hS.pick [0, 1, 2] [0, 1] rfl⟩
            exact TJ.stop
          refine TJ.alt ?_ ?_
          · skip
            refine TJ.ef hY rfl rfl rfl rfl rfl (Ef.alloc hS tI_ok rfl rfl (cSpot.enc (⟨0, 0⟩ : Spot)) rfl) ?_
            rintro _ w1 hY ⟨b19, rfl, hS⟩
            refine TJ.callF hY rfl rfl rfl rfl rfl rfl rfl hb66 rfl (spec_l03Side.c _ t13 _ ht14) (by rintro v w' ⟨rfl, hs⟩; exact hs) ?_
            rintro _ w1 hY ⟨rfl, hs⟩
            replace hS := hS.grow hs
            refine TJ.callF hY rfl rfl rfl rfl rfl rfl rfl hb39 rfl (spec_l01Next.c _ t12.At t14 _ ht15) (by rintro v w' ⟨rfl, hs⟩; exact hs) ?_
            rintro _ w1 hY ⟨rfl, hs⟩
            replace hS := hS.grow hs
            have hO := hS
            refine TJ.es rfl rfl rfl rfl (Es.store tI_ok (hS.inn [0]) (i := 2) rfl rfl rfl rfl rfl rfl (vs := cSpot.enc t15) rfl (cSpot.len _) (cSpot.one _) (Nat.le_of_ble_eq_true rfl) (cSpot.enc t15) rfl) (by intro w1 hS; exact hY.wr (hO.inY [0] 2 rfl rfl) hS.chg) ?_
            intro w1 hY hS
            have hS : St w no w1 [rowC cHurdle A2 c3 75 t1, rowC cHurdle A9 c10 75 y8, box b19 (cSpot.enc t15) 34] [roP pa0 (cPasture.enc a0), roP pa1 ((carr 10 (carr 10 cb)).enc a1)] := hO.out [0] hS
            refine TJ.nil ?_
            exact EJ.meet (F' := [(0, .pointer (some pa0)), (1, .pointer (some pa1)), (5, .slice A2 t1.length c3), (6, .slice A9 y8.length c10), (7, .int .i64 y11), (8, .pointer (some ⟨b19, 0, none⟩))]) ⟨rfl, rfl, rfl, rfl, rfl, rfl, trivial⟩ ⟨b19, rfl, hS.pick [0, 1, 2] [0, 1] rfl⟩
          exact TJ.stop
        · rintro F w1 ⟨b16, rfl, hS⟩
          refine EJ.next ?_
          obtain ⟨j2249, H, K2249⟩ := pbind H
          refine CJ.cut (fun F w1 => ∃ (y20 : Bool) , (some y20 : Option Bool) = some j2249 ∧ F = [(0, .pointer (some pa0)), (1, .pointer (some pa1)), (5, .slice A2 t1.length c3), (6, .slice A9 y8.length c10), (7, .int .i64 y11), (64, .bool y20)] ∧ St w no w1 [rowC cHurdle A2 c3 75 t1, rowC cHurdle A9 c10 75 y8] [roP pa0 (cPasture.enc a0), roP pa1 ((carr 10 (carr 10 cb)).enc a1)]) ?_ ?_
          · skip
            refine CJ.draw [] [0, 1, 2, 3, 4, 5, 6, 7, 8, 9, 10, 11, 12, 13, 14, 15, 16, 17, 18, 19, 20, 21, 22, 23, 24, 25, 26, 27, 28, 29, 30, 31, 32, 33, 34, 35] mixed (by kernel_rfl) hS fun w1 hS => ?_
            refine DJ.pures tU_ok 3 rfl ?_
            obtain ⟨t21, ht21, H⟩ := pbind H
            obtain ⟨ad21, e21⟩ := (hS.rd (i := 0) rfl).some' ht21
            refine DJ.st rfl rfl rfl rfl rfl (SR.idxS tU_ok tI_ok rfl rfl rfl rfl e21 rfl (getI_some ht21).1) ?_
            refine DJ.st rfl rfl rfl rfl rfl (SR.fieldAddr tU_ok tI_ok rfl rfl rfl rfl rfl rfl) ?_
            refine DJ.st rfl rfl rfl rfl rfl (SR.fieldAddr tU_ok tI_ok rfl rfl rfl rfl rfl rfl) ?_
            refine DJ.st rfl rfl rfl rfl rfl (SR.load rfl rfl (fun w' hx => ld1 tU_ok rfl rfl (CA.ext (CA.sub (CA.sub ((hS.rd (i := 0) rfl).at_ e21 ht21) 0) 1) hx) rfl)) ?_
            refine DJ.pures tU_ok 2 rfl ?_
            obtain ⟨t22, ht22, H⟩ := pbind H
            obtain ⟨ad22, e22⟩ := (hS.rd (i := 0) rfl).some' ht22
            refine DJ.st rfl rfl rfl rfl rfl (SR.idxS tU_ok tI_ok rfl rfl rfl rfl e22 rfl (getI_some ht22).1) ?_
            refine DJ.st rfl rfl rfl rfl rfl (SR.fieldAddr tU_ok tI_ok rfl rfl rfl rfl rfl rfl) ?_
            refine DJ.st rfl rfl rfl rfl rfl (SR.fieldAddr tU_ok tI_ok rfl rfl rfl rfl rfl rfl) ?_
            refine DJ.st rfl rfl rfl rfl rfl (SR.load rfl rfl (fun w' hx => ld1 tU_ok rfl rfl (CA.ext (CA.sub (CA.sub ((hS.rd (i := 0) rfl).at_ e22 ht22) 0) 0) hx) rfl)) ?_
            refine DJ.pures tU_ok 1 rfl ?_
            obtain ⟨t23, ht23, H⟩ := pbind H
            refine DJ.st rfl rfl rfl rfl rfl (SR.idxA tU_ok tI_ok rfl rfl rfl rfl rfl (Arr.lt ht23)) ?_
            obtain ⟨t24, ht24, H⟩ := pbind H
            refine DJ.st rfl rfl rfl rfl rfl (SR.idxA tU_ok tI_ok rfl rfl rfl rfl rfl (Arr.lt ht24)) ?_
            refine DJ.st rfl rfl rfl rfl rfl (SR.load rfl rfl (fun w' hx => ld1 tU_ok rfl rfl (CA.ext (CA.idx (CA.idx (hS.ca (i := 1) rfl) ht23) ht24) hx) rfl)) ?_
            refine DJ.pures tU_ok 1 rfl ?_
            refine DJ.st rfl rfl rfl rfl rfl (SR.fieldAddr tU_ok tI_ok rfl rfl rfl rfl rfl rfl) ?_
            refine DJ.st rfl rfl rfl rfl rfl (SR.load rfl rfl (fun w' hx => ld1 tU_ok rfl rfl (CA.ext (CA.sub (hS.cells (i := 2) rfl) 1) hx) rfl)) ?_
            refine DJ.st rfl rfl rfl rfl rfl (SR.fieldAddr tU_ok tI_ok rfl rfl rfl rfl rfl rfl) ?_
            refine DJ.st rfl rfl rfl rfl rfl (SR.load rfl rfl (fun w' hx => ld1 tU_ok rfl rfl (CA.ext (CA.sub (hS.cells (i := 2) rfl) 0) hx) rfl)) ?_
            refine DJ.pures tU_ok 1 rfl ?_
            obtain ⟨t25, ht25, H⟩ := pbind H
            refine DJ.st rfl rfl rfl rfl rfl (SR.idxA tU_ok tI_ok rfl rfl rfl rfl rfl (Arr.lt ht25)) ?_
            obtain ⟨t26, ht26, H⟩ := pbind H
            refine DJ.st rfl rfl rfl rfl rfl (SR.idxA tU_ok tI_ok rfl rfl rfl rfl rfl (Arr.lt ht26)) ?_
            refine DJ.st rfl rfl rfl rfl rfl (SR.load rfl rfl (fun w' hx => ld1 tU_ok rfl rfl (CA.ext (CA.idx (CA.idx (hS.ca (i := 1) rfl) ht25) ht26) hx) rfl)) ?_
            refine DJ.st rfl rfl rfl rfl rfl (SR.neB tU_ok rfl rfl rfl rfl) ?_
            refine DJ.pures tU_ok 1 rfl ?_
            refine DJ.split (t := 56) rfl (fun hb => ?_) (fun hb => ?_)
            · replace H := pif_t (of_decide_eq_true hb) H
              refine DJ.pures tU_ok 3 rfl ?_
              obtain ⟨t27, ht27, H⟩ := pbind H
              obtain ⟨ad27, e27⟩ := (hS.rd (i := 0) rfl).some' ht27
              refine DJ.st rfl rfl rfl rfl rfl (SR.idxS tU_ok tI_ok rfl rfl rfl rfl e27 rfl (getI_some ht27).1) ?_
              refine DJ.st rfl rfl rfl rfl rfl (SR.load rfl rfl (fun w' hx => ldE tU_ok tI_ok rfl rfl rfl (CA.ext ((hS.rd (i := 0) rfl).at_ e27 ht27) hx) rfl)) ?_
              obtain ⟨t28, ht28, H⟩ := pbind H
              refine DJ.callF rfl rfl rfl rfl rfl rfl rfl hb83 rfl (spec_l03Stands.c _ _ a0 (hS.ca (i := 0) rfl) t27 _ ht28) (by rintro v w' ⟨rfl, hs⟩; exact hs) ?_
              rintro _ w1 ⟨rfl, hs⟩
              replace hS := hS.grow hs
              refine DJ.pures tU_ok 2 rfl ?_
              refine DJ.nil ?_
              exact EJ.meet (F' := [(0, .pointer (some pa0)), (1, .pointer (some pa1)), (5, .slice A2 t1.length c3), (6, .slice A9 y8.length c10), (7, .int .i64 y11), (64, .bool (!t28))]) ⟨rfl, rfl, rfl, rfl, rfl, rfl, trivial⟩ ⟨(!t28), H, rfl, hS.pick [0, 1] [0, 1] rfl⟩
            · replace H := pif_f (of_decide_eq_false hb) H
              refine DJ.pures tU_ok 8 rfl ?_
              refine DJ.nil ?_
              exact EJ.meet (F' := [(0, .pointer (some pa0)), (1, .pointer (some pa1)), (5, .slice A2 t1.length c3), (6, .slice A9 y8.length c10), (7, .int .i64 y11), (64, .bool false)]) ⟨rfl, rfl, rfl, rfl, rfl, rfl, trivial⟩ ⟨false, H, rfl, hS.pick [0, 1] [0, 1] rfl⟩
          · rintro F w1 ⟨y20, he, rfl, hS⟩
            obtain rfl := Option.some.inj he
            have H := K2249
            refine CJ.cond rfl (fun hb => ?_) (fun hb => ?_)
            · replace H := pif_t hb H
              refine CJ.region ?_
              refine OJ.pures tU_ok 3 rfl ?_
              obtain ⟨t29, ht29, H⟩ := pbind H
              obtain ⟨ad29, e29⟩ := (hS.rd (i := 0) rfl).some' ht29
              refine OJ.st rfl rfl rfl (SR.idxS tU_ok tI_ok rfl rfl rfl rfl e29 rfl (getI_some ht29).1) ?_
              refine OJ.st rfl rfl rfl (SR.load rfl rfl (fun w' hx => ldE tU_ok tI_ok rfl rfl rfl (CA.ext ((hS.rd (i := 0) rfl).at_ e29 ht29) hx) rfl)) ?_
              refine OJ.ef rfl rfl rfl (Ef.lit tU_ok tI_ok hS (C := cHurdle) rfl rfl rfl rfl rfl rfl ([t29] : List Hurdle) rfl rfl rfl rfl) ?_
              rintro _ w1 ⟨A30, rfl, hS⟩
              obtain ⟨u31, hu31, H⟩ := pbind H
              refine OJ.ew rfl rfl rfl (Ew.append tU_ok tI_ok (C := cHurdle) (xs := y8) (ys := ([t29] : List Hurdle)) hS (i := 1) rfl rfl rfl rfl rfl rfl rfl rfl rfl rfl rfl rfl rfl (hS.rd (i := 2) rfl) (chk_some hu31)) ?_
              rintro _ w1 ⟨A32, c33, rfl, hS⟩
              refine OJ.pures tU_ok 1 rfl ?_
              refine OJ.nil (EJ.blk (EJ.next ?_))
              refine CJ.region ?_
              refine OJ.pures tU_ok 3 rfl ?_
              refine OJ.nil ?_
              exact EJ.round k (F' := [(0, .pointer (some pa0)), (1, .pointer (some pa1)), (5, .slice A2 t1.length c3), (6, .slice A32 (y8 ++ ([t29] : List Hurdle)).length c33), (7, .int .i64 (IntKind.i64.wrap (y11 + 1)))]) ⟨rfl, rfl, rfl, rfl, rfl, trivial⟩ (Nat.lt_succ_self _) ⟨(y8 ++ ([t29] : List Hurdle)), (IntKind.i64.wrap (y11 + 1)), A32, c33, rfl, hS.pick [0, 1] [0, 1] rfl, H⟩
            · replace H := pifb_f hb H
              refine CJ.skip (EJ.blk (EJ.next ?_))
              refine CJ.region ?_
              refine OJ.pures tU_ok 3 rfl ?_
              refine OJ.nil ?_
              exact EJ.round k (F' := [(0, .pointer (some pa0)), (1, .pointer (some pa1)), (5, .slice A2 t1.length c3), (6, .slice A9 y8.length c10), (7, .int .i64 (IntKind.i64.wrap (y11 + 1)))]) ⟨rfl, rfl, rfl, rfl, rfl, trivial⟩ (Nat.lt_succ_self _) ⟨y8, (IntKind.i64.wrap (y11 + 1)), A9, c10, rfl, hS.pick [0, 1] [0, 1] rfl, H⟩
      · replace H := pif_f (of_decide_eq_false hb) H
        refine CJ.exit (EJ.skE (EJ.skE (EJ.hit (?_))))
        exact EJ.meet (F' := [(6, .slice A9 y8.length c10)]) ⟨rfl, trivial⟩ ⟨y8, A9, c10, H, rfl, hS.pick [1] [0, 1] rfl⟩
  rintro F w1 ⟨y5, A6, c7, he, rfl, hS⟩
  obtain rfl := Option.some.inj he
  have H := K2246
  refine EJ.next ?_
  refine CJ.seq ?_
  refine CJ.region ?_
  refine OJ.pures tU_ok 2 rfl ?_
  refine OJ.nil (EJ.next ?_)
  refine CJ.ret (?_)
  obtain rfl := Option.some.inj H
  exact EJ.fin rfl (.tmp rfl .nil) ⟨A6, c7, rfl, hS.pick [0] [] rfl⟩

def spec_l01Before.f (a0 : Spot) (a1 : Spot) : Option Bool := if a0.Y < a1.Y then (some true) else (if a0.Y = a1.Y then (some (decide (a0.X < a1.X))) else (some false))
theorem spec_l01Before.c (w : World) (a0 : Spot) (a1 : Spot) (r : Bool) (H : spec_l01Before.f a0 a1 = some r) :
    CV Tryz.prog 84 [.agg (cSpot.enc a0).toArray, .agg (cSpot.enc a1).toArray].toArray w fun v w' => v = .bool r ∧ Ext w w' := by
  have hS := (St.init w no)
  unfold spec_l01Before.f at H
  refine CV.body Tryz.func84 rfl Tryz.ntmps84 rfl ?_
  refine CJ.seq ?_
  refine CJ.region ?_
  refine OJ.ef rfl rfl rfl (Ef.box hS rfl rfl (cSpot.enc a0) rfl) ?_
  rintro _ w1 ⟨b1, rfl, hS⟩
  refine OJ.ef rfl rfl rfl (Ef.box hS rfl rfl (cSpot.enc a1) rfl) ?_
  rintro _ w1 ⟨b2, rfl, hS⟩
  refine OJ.pures tU_ok 1 rfl ?_
  refine OJ.nil (EJ.next ?_)
  refine CJ.seq ?_
  refine CJ.region ?_
  refine OJ.st rfl rfl rfl (SR.fieldAddr tU_ok tI_ok rfl rfl rfl rfl rfl rfl) ?_
  refine OJ.st rfl rfl rfl (SR.load rfl rfl (fun w' hx => ld1 tU_ok rfl rfl (CA.ext (CA.sub (hS.cells (i := 0) rfl) 1) hx) rfl)) ?_
  refine OJ.st rfl rfl rfl (SR.fieldAddr tU_ok tI_ok rfl rfl rfl rfl rfl rfl) ?_
  refine OJ.st rfl rfl rfl (SR.load rfl rfl (fun w' hx => ld1 tU_ok rfl rfl (CA.ext (CA.sub (hS.cells (i := 1) rfl) 1) hx) rfl)) ?_
  refine OJ.pures tU_ok 2 rfl ?_
  refine OJ.split (t := 10) rfl (fun hb => ?_) (fun hb => ?_)
  · replace H := pif_t (of_decide_eq_true hb) H
    refine OJ.pures tU_ok 14 rfl ?_
    refine OJ.nil (EJ.next ?_)
    refine CJ.ret (?_)
    obtain rfl := Option.some.inj H
    exact EJ.fin rfl (.tmp rfl .nil) ⟨rfl, hS.ext⟩
  replace H := pif_f (of_decide_eq_false hb) H
  refine OJ.st rfl rfl rfl (SR.fieldAddr tU_ok tI_ok rfl rfl rfl rfl rfl rfl) ?_
  refine OJ.st rfl rfl rfl (SR.load rfl rfl (fun w' hx => ld1 tU_ok rfl rfl (CA.ext (CA.sub (hS.cells (i := 0) rfl) 1) hx) rfl)) ?_
  refine OJ.st rfl rfl rfl (SR.fieldAddr tU_ok tI_ok rfl rfl rfl rfl rfl rfl) ?_
  refine OJ.st rfl rfl rfl (SR.load rfl rfl (fun w' hx => ld1 tU_ok rfl rfl (CA.ext (CA.sub (hS.cells (i := 1) rfl) 1) hx) rfl)) ?_
  refine OJ.pures tU_ok 2 rfl ?_
  refine OJ.split (t := 16) rfl (fun hb => ?_) (fun hb => ?_)
  · replace H := pif_t (of_decide_eq_true hb) H
    refine OJ.st rfl rfl rfl (SR.fieldAddr tU_ok tI_ok rfl rfl rfl rfl rfl rfl) ?_
    refine OJ.st rfl rfl rfl (SR.load rfl rfl (fun w' hx => ld1 tU_ok rfl rfl (CA.ext (CA.sub (hS.cells (i := 0) rfl) 0) hx) rfl)) ?_
    refine OJ.st rfl rfl rfl (SR.fieldAddr tU_ok tI_ok rfl rfl rfl rfl rfl rfl) ?_
    refine OJ.st rfl rfl rfl (SR.load rfl rfl (fun w' hx => ld1 tU_ok rfl rfl (CA.ext (CA.sub (hS.cells (i := 1) rfl) 0) hx) rfl)) ?_
    refine OJ.pures tU_ok 4 rfl ?_
    refine OJ.nil (EJ.next ?_)
    refine CJ.ret (?_)
    obtain rfl := Option.some.inj H
    exact EJ.fin rfl (.tmp rfl .nil) ⟨rfl, hS.ext⟩
  replace H := pif_f (of_decide_eq_false hb) H
  refine OJ.pures tU_ok 8 rfl ?_
  refine OJ.nil (EJ.next ?_)
  refine CJ.ret (?_)
  obtain rfl := Option.some.inj H
  exact EJ.fin rfl (.tmp rfl .nil) ⟨rfl, hS.ext⟩

def spec_l03Sorted.l2 (t9 : Spot) : Nat → (List Spot) → Int → Option ((List Spot) × Int)
  | 0, _, _ => none
  | k + 1, y13, y14 => (if 0 < y14 then ((getI y13 (IntKind.i64.wrap (y14 - 1))).bind fun t16 => (spec_l01Before.f t9 t16).bind fun t17 => some t17) else (some false)).bind fun y15 => if y15 = true then ((getI y13 (IntKind.i64.wrap (y14 - 1))).bind fun t18 => (getI y13 y14).bind fun t19 => spec_l03Sorted.l2 t9 k (y13.set y14.toNat t18) (IntKind.i64.wrap (y14 - 1))) else (some (y13, y14))
def spec_l03Sorted.l1 : Nat → (List Spot) → Int → Option (List Spot)
  | 0, _, _ => none
  | k + 1, y6, y7 => if y7 < (y6.length : Int) then (((getI y6 y7).bind fun t9 => (spec_l03Sorted.l2 t9 k y6 y7).bind fun (y11, y12) => (getI y11 y12).bind fun t20 => some (y11.set y12.toNat t9)).bind fun y8 => spec_l03Sorted.l1 k y8 (IntKind.i64.wrap (y7 + 1))) else (some y6)
def spec_l03Sorted.f (k : Nat) (a0 : List Spot) : Option (List Spot) := (chk (([] : List Spot).length + a0.length ≤ 4294967296)).bind fun u2 => (spec_l03Sorted.l1 k (([] : List Spot) ++ a0) 1).bind fun y5 => some y5
theorem spec_l03Sorted.c (k : Nat) (w : World) (Aa0 : Option Addr) (ca0 : Nat) (a0 : List Spot) (hr0 : Rd cSpot w Aa0 a0) (hc0 : a0.length ≤ ca0) (r : List Spot) (H : spec_l03Sorted.f k a0 = some r) :
    CV Tryz.prog 61 [.slice Aa0 a0.length ca0].toArray w fun v w' => ∃ (A0 : Option Addr) (c0 : Nat), v = .slice A0 r.length c0 ∧ St w no w' [rowC cSpot A0 c0 34 r] [] := by
  have hS := ((St.init w no).param cSpot Aa0 ca0 a0 hr0 hc0)
  unfold spec_l03Sorted.f at H
  refine CV.body Tryz.func61 rfl Tryz.ntmps61 rfl ?_
  refine CJ.seq ?_
  refine CJ.region ?_
  refine OJ.pures tU_ok 1 rfl ?_
  refine OJ.nil (EJ.next ?_)
  refine CJ.seq ?_
  refine CJ.region ?_
  refine OJ.ef rfl rfl rfl (Ef.lit tU_ok tI_ok hS (C := cSpot) rfl rfl rfl rfl rfl rfl ([] : List Spot) rfl rfl rfl rfl) ?_
  rintro _ w1 ⟨A1, rfl, hS⟩
  refine OJ.pures tU_ok 1 rfl ?_
  obtain ⟨u2, hu2, H⟩ := pbind H
  refine OJ.ew rfl rfl rfl (Ew.append tU_ok tI_ok (C := cSpot) (xs := ([] : List Spot)) (ys := a0) hS (i := 0) rfl rfl rfl rfl rfl rfl rfl rfl rfl rfl rfl rfl rfl (hS.rd' (i := 0) rfl) (chk_some hu2)) ?_
  rintro _ w1 ⟨A3, c4, rfl, hS⟩
  refine OJ.pures tU_ok 1 rfl ?_
  refine OJ.nil (EJ.next ?_)
  refine CJ.seq ?_
  refine CJ.seq ?_
  refine CJ.region ?_
  refine OJ.pures tU_ok 1 rfl ?_
  refine OJ.nil (EJ.next ?_)
  obtain ⟨j2250, H, K2250⟩ := pbind H
  refine CJ.cut1 (fun F w1 => ∃ (y5 : List Spot) , (some y5 : Option (List Spot)) = some j2250 ∧ F = [(3, .slice A3 y5.length c4)] ∧ St w no w1 [rowC cSpot A3 c4 34 y5] [roC cSpot Aa0 ca0 a0]) ?_ ?_
  · skip
    refine CJ.block ?_
    refine CJ.loop (fun k F w1 => ∃ (y6 : List Spot) (y7 : Int), F = [(3, .slice A3 y6.length c4), (4, .int .i64 y7)] ∧ St w no w1 [rowC cSpot A3 c4 34 y6] [roC cSpot Aa0 ca0 a0] ∧ spec_l03Sorted.l1 k y6 y7 = some j2250) k (F' := [(3, .slice A3 (([] : List Spot) ++ a0).length c4), (4, .int .i64 1)]) ⟨rfl, rfl, trivial⟩ ⟨(([] : List Spot) ++ a0), 1, rfl, hS.pick [0] [0] rfl, H⟩ ?_
    rintro k F w1 ⟨y6, y7, rfl, hS, H⟩
    cases k with
    | zero => rw [spec_l03Sorted.l1] at H; cases H
    | succ k =>
      rw [spec_l03Sorted.l1] at H
      refine CJ.seq ?_
      refine CJ.seq ?_
      refine CJ.region ?_
      refine OJ.pures tU_ok 4 rfl ?_
      refine OJ.nil (EJ.next ?_)
      refine CJ.cond rfl (fun hb => ?_) (fun hb => ?_)
      · replace H := pif_t (of_decide_eq_true hb) H
        refine CJ.skip (EJ.next ?_)
        obtain ⟨j2269, H, K2269⟩ := pbind H
        refine CJ.cut (fun F w1 => ∃ (y8 : List Spot) , (some y8 : Option (List Spot)) = some j2269 ∧ F = [(3, .slice A3 y8.length c4), (4, .int .i64 y7)] ∧ St w no w1 [rowC cSpot A3 c4 34 y8] [roC cSpot Aa0 ca0 a0]) ?_ ?_
        · skip
          refine CJ.block ?_
          refine CJ.seq ?_
          refine CJ.region ?_
          refine OJ.pures tU_ok 2 rfl ?_
          obtain ⟨t9, ht9, H⟩ := pbind H
          obtain ⟨ad9, e9⟩ := (hS.rd (i := 0) rfl).some' ht9
          refine OJ.st rfl rfl rfl (SR.idxS tU_ok tI_ok rfl rfl rfl rfl e9 rfl (getI_some ht9).1) ?_
          refine OJ.st rfl rfl rfl (SR.load rfl rfl (fun w' hx => ldE tU_ok tI_ok rfl rfl rfl (CA.ext ((hS.rd (i := 0) rfl).at_ e9 ht9) hx) rfl)) ?_
          refine OJ.ef rfl rfl rfl (Ef.alloc hS tI_ok rfl rfl (cSpot.enc (⟨0, 0⟩ : Spot)) rfl) ?_
          rintro _ w1 ⟨b10, rfl, hS⟩
          refine OJ.es rfl rfl (Es.store tI_ok hS (i := 1) rfl rfl rfl rfl rfl rfl (vs := cSpot.enc t9) rfl (cSpot.len _) (cSpot.one _) (Nat.le_of_ble_eq_true rfl) (cSpot.enc t9) rfl) ?_
          intro w1 hS
          refine OJ.nil (EJ.next ?_)
          refine CJ.seq ?_
          refine CJ.region ?_
          refine OJ.pures tU_ok 2 rfl ?_
          refine OJ.nil (EJ.next ?_)
          obtain ⟨j2274, H, K2274⟩ := pbind H
          refine CJ.cut (fun F w1 => ∃ (y11 : List Spot) (y12 : Int) , (some (y11, y12) : Option ((List Spot) × Int)) = some j2274 ∧ F = [(3, .slice A3 y11.length c4), (4, .int .i64 y7), (5, .pointer (some ⟨b10, 0, none⟩)), (6, .int .i64 y12)] ∧ St w no w1 [rowC cSpot A3 c4 34 y11, box b10 (cSpot.enc t9) 34] [roC cSpot Aa0 ca0 a0]) ?_ ?_
          · skip
            refine CJ.block ?_
            refine CJ.loop (fun k F w1 => ∃ (y13 : List Spot) (y14 : Int), F = [(3, .slice A3 y13.length c4), (4, .int .i64 y7), (5, .pointer (some ⟨b10, 0, none⟩)), (6, .int .i64 y14)] ∧ St w no w1 [rowC cSpot A3 c4 34 y13, box b10 (cSpot.enc t9) 34] [roC cSpot Aa0 ca0 a0] ∧ spec_l03Sorted.l2 t9 k y13 y14 = some j2274) k (F' := [(3, .slice A3 y6.length c4), (4, .int .i64 y7), (5, .pointer (some ⟨b10, 0, none⟩)), (6, .int .i64 y7)]) ⟨rfl, rfl, rfl, rfl, trivial⟩ ⟨y6, y7, rfl, hS.pick [0, 1] [0] rfl, H⟩ ?_
            rintro k F w1 ⟨y13, y14, rfl, hS, H⟩
            cases k with
            | zero => rw [spec_l03Sorted.l2] at H; cases H
            | succ k =>
              rw [spec_l03Sorted.l2] at H
              refine CJ.seq ?_
              obtain ⟨j2277, H, K2277⟩ := pbind H
              refine CJ.cut (fun F w1 => ∃ (y15 : Bool) , (some y15 : Option Bool) = some j2277 ∧ F = [(3, .slice A3 y13.length c4), (4, .int .i64 y7), (5, .pointer (some ⟨b10, 0, none⟩)), (6, .int .i64 y14), (31, .bool y15)] ∧ St w no w1 [rowC cSpot A3 c4 34 y13, box b10 (cSpot.enc t9) 34] [roC cSpot Aa0 ca0 a0]) ?_ ?_
              · skip
                refine CJ.draw [] [0, 1, 2, 3, 4, 5, 6, 7, 8, 9, 10] mixed (by kernel_rfl) hS fun w1 hS => ?_
                refine DJ.pures tU_ok 3 rfl ?_
                refine DJ.split (t := 23) rfl (fun hb => ?_) (fun hb => ?_)
                · replace H := pif_t (of_decide_eq_true hb) H
                  refine DJ.st rfl rfl rfl rfl rfl (SR.load rfl rfl (fun w' hx => ldE tU_ok tI_ok rfl rfl rfl (CA.ext (hS.cells (i := 1) rfl) hx) rfl)) ?_
                  refine DJ.pures tU_ok 3 rfl ?_
                  obtain ⟨t16, ht16, H⟩ := pbind H
                  obtain ⟨ad16, e16⟩ := (hS.rd (i := 0) rfl).some' ht16
                  refine DJ.st rfl rfl rfl rfl rfl (SR.idxS tU_ok tI_ok rfl rfl rfl rfl e16 rfl (getI_some ht16).1) ?_
                  refine DJ.st rfl rfl rfl rfl rfl (SR.load rfl rfl (fun w' hx => ldE tU_ok tI_ok rfl rfl rfl (CA.ext ((hS.rd (i := 0) rfl).at_ e16 ht16) hx) rfl)) ?_
                  obtain ⟨t17, ht17, H⟩ := pbind H
                  refine DJ.callF rfl rfl rfl rfl rfl rfl rfl hb84 rfl (spec_l01Before.c _ t9 t16 _ ht17) (by rintro v w' ⟨rfl, hs⟩; exact hs) ?_
                  rintro _ w1 ⟨rfl, hs⟩
                  replace hS := hS.grow hs
                  refine DJ.pures tU_ok 1 rfl ?_
                  refine DJ.nil ?_
                  exact EJ.meet (F' := [(3, .slice A3 y13.length c4), (4, .int .i64 y7), (5, .pointer (some ⟨b10, 0, none⟩)), (6, .int .i64 y14), (31, .bool t17)]) ⟨rfl, rfl, rfl, rfl, rfl, trivial⟩ ⟨t17, H, rfl, hS.pick [0, 1] [0] rfl⟩
                · replace H := pif_f (of_decide_eq_false hb) H
                  refine DJ.pures tU_ok 8 rfl ?_
                  refine DJ.nil ?_
                  exact EJ.meet (F' := [(3, .slice A3 y13.length c4), (4, .int .i64 y7), (5, .pointer (some ⟨b10, 0, none⟩)), (6, .int .i64 y14), (31, .bool false)]) ⟨rfl, rfl, rfl, rfl, rfl, trivial⟩ ⟨false, H, rfl, hS.pick [0, 1] [0] rfl⟩
              · rintro F w1 ⟨y15, he, rfl, hS⟩
                obtain rfl := Option.some.inj he
                have H := K2277
                refine CJ.cond rfl (fun hb => ?_) (fun hb => ?_)
                · replace H := pif_t hb H
                  refine CJ.skip (EJ.next ?_)
                  refine CJ.block ?_
                  refine CJ.seq ?_
                  refine CJ.region ?_
                  refine OJ.pures tU_ok 5 rfl ?_
                  obtain ⟨t18, ht18, H⟩ := pbind H
                  obtain ⟨ad18, e18⟩ := (hS.rd (i := 0) rfl).some' ht18
                  refine OJ.st rfl rfl rfl (SR.idxS tU_ok tI_ok rfl rfl rfl rfl e18 rfl (getI_some ht18).1) ?_
                  refine OJ.st rfl rfl rfl (SR.load rfl rfl (fun w' hx => ldE tU_ok tI_ok rfl rfl rfl (CA.ext ((hS.rd (i := 0) rfl).at_ e18 ht18) hx) rfl)) ?_
                  obtain ⟨t19, ht19, H⟩ := pbind H
                  obtain ⟨ad19, e19⟩ := (hS.rd (i := 0) rfl).some' ht19
                  refine OJ.st rfl rfl rfl (SR.idxS tU_ok tI_ok rfl rfl rfl rfl e19 rfl (getI_some ht19).1) ?_
                  refine OJ.es rfl rfl (Es.storeR tI_ok hS (i := 0) (off := 0) rfl rfl ht19 e19 rfl rfl rfl rfl (vs := cSpot.enc t18) rfl (cSpot.len _) (cSpot.one _) (Nat.le_of_ble_eq_true rfl) t18 rfl) ?_
                  intro w1 hS
                  refine OJ.as (t := 3) rfl (show _ = (.slice A3 (y13.set y14.toNat t18).length c4 : Value) by simp only [List.length_set]) ?_
                  refine OJ.as (t := 32) rfl (show _ = (.slice A3 (y13.set y14.toNat t18).length c4 : Value) by simp only [List.length_set]) ?_
                  refine OJ.as (t := 34) rfl (show _ = (.slice A3 (y13.set y14.toNat t18).length c4 : Value) by simp only [List.length_set]) ?_
                  refine OJ.nil (EJ.next ?_)
                  refine CJ.region ?_
                  refine OJ.pures tU_ok 3 rfl ?_
                  refine OJ.nil (EJ.blk (?_))
                  exact EJ.round k (F' := [(3, .slice A3 (y13.set y14.toNat t18).length c4), (4, .int .i64 y7), (5, .pointer (some ⟨b10, 0, none⟩)), (6, .int .i64 (IntKind.i64.wrap (y14 - 1)))]) ⟨rfl, rfl, rfl, rfl, trivial⟩ (Nat.lt_succ_self _) ⟨(y13.set y14.toNat t18), (IntKind.i64.wrap (y14 - 1)), rfl, hS.pick [0, 1] [0] rfl, H⟩
                · replace H := pifb_f hb H
                  refine CJ.exit (EJ.skE (EJ.skE (EJ.hit (?_))))
                  exact EJ.meet (F' := [(3, .slice A3 y13.length c4), (4, .int .i64 y7), (5, .pointer (some ⟨b10, 0, none⟩)), (6, .int .i64 y14)]) ⟨rfl, rfl, rfl, rfl, trivial⟩ ⟨y13, y14, H, rfl, hS.pick [0, 1] [0] rfl⟩
          · rintro F w1 ⟨y11, y12, he, rfl, hS⟩
            obtain rfl := Option.some.inj he
            have H := K2274
            refine CJ.region ?_
            refine OJ.pures tU_ok 2 rfl ?_
            refine OJ.st rfl rfl rfl (SR.load rfl rfl (fun w' hx => ldE tU_ok tI_ok rfl rfl rfl (CA.ext (hS.cells (i := 1) rfl) hx) rfl)) ?_
            obtain ⟨t20, ht20, H⟩ := pbind H
            obtain ⟨ad20, e20⟩ := (hS.rd (i := 0) rfl).some' ht20
            refine OJ.st rfl rfl rfl (SR.idxS tU_ok tI_ok rfl rfl rfl rfl e20 rfl (getI_some ht20).1) ?_
            refine OJ.es rfl rfl (Es.storeR tI_ok hS (i := 0) (off := 0) rfl rfl ht20 e20 rfl rfl rfl rfl (vs := cSpot.enc t9) rfl (cSpot.len _) (cSpot.one _) (Nat.le_of_ble_eq_true rfl) t9 rfl) ?_
            intro w1 hS
            refine OJ.as (t := 3) rfl (show _ = (.slice A3 (y11.set y12.toNat t9).length c4 : Value) by simp only [List.length_set]) ?_
            refine OJ.as (t := 42) rfl (show _ = (.slice A3 (y11.set y12.toNat t9).length c4 : Value) by simp only [List.length_set]) ?_
            refine OJ.nil (EJ.blk (?_))
            exact EJ.meet (F' := [(3, .slice A3 (y11.set y12.toNat t9).length c4), (4, .int .i64 y7)]) ⟨rfl, rfl, trivial⟩ ⟨(y11.set y12.toNat t9), H, rfl, hS.pick [0] [0] rfl⟩
        · rintro F w1 ⟨y8, he, rfl, hS⟩
          obtain rfl := Option.some.inj he
          have H := K2269
          refine CJ.region ?_
          refine OJ.pures tU_ok 3 rfl ?_
          refine OJ.nil ?_
          exact EJ.round k (F' := [(3, .slice A3 y8.length c4), (4, .int .i64 (IntKind.i64.wrap (y7 + 1)))]) ⟨rfl, rfl, trivial⟩ (Nat.lt_succ_self _) ⟨y8, (IntKind.i64.wrap (y7 + 1)), rfl, hS.pick [0] [0] rfl, H⟩
      · replace H := pif_f (of_decide_eq_false hb) H
        refine CJ.exit (EJ.skE (EJ.skE (EJ.hit (?_))))
        exact EJ.meet (F' := [(3, .slice A3 y6.length c4)]) ⟨rfl, trivial⟩ ⟨y6, H, rfl, hS.pick [0] [0] rfl⟩
  rintro F w1 ⟨y5, he, rfl, hS⟩
  obtain rfl := Option.some.inj he
  have H := K2250
  refine EJ.next ?_
  refine CJ.seq ?_
  refine CJ.region ?_
  refine OJ.pures tU_ok 2 rfl ?_
  refine OJ.nil (EJ.next ?_)
  refine CJ.ret (?_)
  obtain rfl := Option.some.inj H
  exact EJ.fin rfl (.tmp rfl .nil) ⟨A3, c4, rfl, hS.pick [0] [] rfl⟩

def spec_l03Ahead.l1 (a0 : List Spot) (a1 : List Spot) : Nat → Int → Option (Bool ⊕ Unit)
  | 0, _ => none
  | k + 1, y1 => if y1 < (a0.length : Int) then ((getI a0 y1).bind fun t2 => (getI a1 y1).bind fun t3 => if t2 ≠ t3 then ((getI a0 y1).bind fun t4 => (getI a1 y1).bind fun t5 => (spec_l01Before.f t4 t5).bind fun t6 => some (Sum.inl t6)) else (spec_l03Ahead.l1 a0 a1 k (IntKind.i64.wrap (y1 + 1)))) else (some (Sum.inr ()))
def spec_l03Ahead.f (k : Nat) (a0 : List Spot) (a1 : List Spot) : Option Bool := (spec_l03Ahead.l1 a0 a1 k 0).bind fun s2279 => match s2279 with | .inl r => some r | .inr _ => some false
theorem spec_l03Ahead.c (k : Nat) (w : World) (Aa0 : Option Addr) (ca0 : Nat) (a0 : List Spot) (hr0 : Rd cSpot w Aa0 a0) (hc0 : a0.length ≤ ca0) (Aa1 : Option Addr) (ca1 : Nat) (a1 : List Spot) (hr1 : Rd cSpot w Aa1 a1) (hc1 : a1.length ≤ ca1) (r : Bool) (H : spec_l03Ahead.f k a0 a1 = some r) :
    CV Tryz.prog 62 [.slice Aa0 a0.length ca0, .slice Aa1 a1.length ca1].toArray w fun v w' => v = .bool r ∧ Ext w w' := by
  have hS := (((St.init w no).param cSpot Aa0 ca0 a0 hr0 hc0).param cSpot Aa1 ca1 a1 hr1 hc1)
  unfold spec_l03Ahead.f at H
  refine CV.body Tryz.func62 rfl Tryz.ntmps62 rfl ?_
  refine CJ.seq ?_
  refine CJ.region ?_
  refine OJ.pures tU_ok 1 rfl ?_
  refine OJ.nil (EJ.next ?_)
  refine CJ.seq ?_
  refine CJ.seq ?_
  refine CJ.region ?_
  refine OJ.pures tU_ok 1 rfl ?_
  refine OJ.nil (EJ.next ?_)
  obtain ⟨j2279, H, K2279⟩ := pbind H
  refine CJ.cut1 (fun F w1 => (some (Sum.inr ()) : Option (Bool ⊕ Unit)) = some j2279 ∧ F = [] ∧ St w no w1 [] [roC cSpot Aa0 ca0 a0, roC cSpot Aa1 ca1 a1]) ?_ ?_
  · skip
    refine CJ.block ?_
    refine CJ.loop (fun k F w1 => ∃ (y1 : Int), F = [(0, .slice Aa0 a0.length ca0), (1, .slice Aa1 a1.length ca1), (5, .int .i64 y1)] ∧ St w no w1 [] [roC cSpot Aa0 ca0 a0, roC cSpot Aa1 ca1 a1] ∧ spec_l03Ahead.l1 a0 a1 k y1 = some j2279) k (F' := [(0, .slice Aa0 a0.length ca0), (1, .slice Aa1 a1.length ca1), (5, .int .i64 0)]) ⟨rfl, rfl, rfl, trivial⟩ ⟨0, rfl, hS.pick [] [0, 1] rfl, H⟩ ?_
    rintro k F w1 ⟨y1, rfl, hS, H⟩
    cases k with
    | zero => rw [spec_l03Ahead.l1] at H; cases H
    | succ k =>
      rw [spec_l03Ahead.l1] at H
      refine CJ.seq ?_
      refine CJ.seq ?_
      refine CJ.region ?_
      refine OJ.pures tU_ok 4 rfl ?_
      refine OJ.nil (EJ.next ?_)
      refine CJ.cond rfl (fun hb => ?_) (fun hb => ?_)
      · replace H := pif_t (of_decide_eq_true hb) H
        refine CJ.skip (EJ.next ?_)
        refine CJ.seq ?_
        refine CJ.block ?_
        refine CJ.seq ?_
        refine CJ.draw [] [0, 1, 2, 3, 4, 5, 6, 7, 8] mixed (by kernel_rfl) hS fun w1 hS => ?_
        refine DJ.pures tU_ok 2 rfl ?_
        obtain ⟨t2, ht2, H⟩ := pbind H
        obtain ⟨ad2, e2⟩ := (hS.rd' (i := 0) rfl).some' ht2
        refine DJ.st rfl rfl rfl rfl rfl (SR.idxS tU_ok tI_ok rfl rfl rfl rfl e2 rfl (getI_some ht2).1) ?_
        refine DJ.st rfl rfl rfl rfl rfl (SR.load rfl rfl (fun w' hx => ldE tU_ok tI_ok rfl rfl rfl (CA.ext ((hS.rd' (i := 0) rfl).at_ e2 ht2) hx) rfl)) ?_
        refine DJ.pures tU_ok 2 rfl ?_
        obtain ⟨t3, ht3, H⟩ := pbind H
        obtain ⟨ad3, e3⟩ := (hS.rd' (i := 1) rfl).some' ht3
        refine DJ.st rfl rfl rfl rfl rfl (SR.idxS tU_ok tI_ok rfl rfl rfl rfl e3 rfl (getI_some ht3).1) ?_
        refine DJ.st rfl rfl rfl rfl rfl (SR.load rfl rfl (fun w' hx => ldE tU_ok tI_ok rfl rfl rfl (CA.ext ((hS.rd' (i := 1) rfl).at_ e3 ht3) hx) rfl)) ?_
        refine DJ.st rfl rfl rfl rfl rfl (SR.neS eqT34 eqG34 rfl rfl rfl (rfl : _ = (cSpot.enc t2).toArray) (rfl : _ = (cSpot.enc t3).toArray)) ?_
        refine DJ.nil (EJ.next ?_)
        refine CJ.cond rfl (fun hb => ?_) (fun hb => ?_)
        · replace H := pif_t (of_decide_eq_true hb) H
          refine CJ.seq ?_
          refine CJ.draw [] [0, 1, 2, 3, 4, 5, 6, 7, 8, 9] mixed (by kernel_rfl) hS fun w1 hS => ?_
          refine DJ.pures tU_ok 2 rfl ?_
          obtain ⟨t4, ht4, H⟩ := pbind H
          obtain ⟨ad4, e4⟩ := (hS.rd' (i := 0) rfl).some' ht4
          refine DJ.st rfl rfl rfl rfl rfl (SR.idxS tU_ok tI_ok rfl rfl rfl rfl e4 rfl (getI_some ht4).1) ?_
          refine DJ.st rfl rfl rfl rfl rfl (SR.load rfl rfl (fun w' hx => ldE tU_ok tI_ok rfl rfl rfl (CA.ext ((hS.rd' (i := 0) rfl).at_ e4 ht4) hx) rfl)) ?_
          refine DJ.pures tU_ok 2 rfl ?_
          obtain ⟨t5, ht5, H⟩ := pbind H
          obtain ⟨ad5, e5⟩ := (hS.rd' (i := 1) rfl).some' ht5
          refine DJ.st rfl rfl rfl rfl rfl (SR.idxS tU_ok tI_ok rfl rfl rfl rfl e5 rfl (getI_some ht5).1) ?_
          refine DJ.st rfl rfl rfl rfl rfl (SR.load rfl rfl (fun w' hx => ldE tU_ok tI_ok rfl rfl rfl (CA.ext ((hS.rd' (i := 1) rfl).at_ e5 ht5) hx) rfl)) ?_
          obtain ⟨t6, ht6, H⟩ := pbind H
          refine DJ.callF rfl rfl rfl rfl rfl rfl rfl hb84 rfl (spec_l01Before.c _ t4 t5 _ ht6) (by rintro v w' ⟨rfl, hs⟩; exact hs) ?_
          rintro _ w1 ⟨rfl, hs⟩
          replace hS := hS.grow hs
          refine DJ.pures tU_ok 1 rfl ?_
          refine DJ.nil (EJ.next ?_)
          refine CJ.ret (EJ.bkR (EJ.skR (EJ.skR (EJ.bkR (EJ.skR (EJ.skR (?_)))))))
          obtain rfl := Option.some.inj H; have H := K2279
          obtain rfl := Option.some.inj H
          exact EJ.fin rfl (.tmp rfl .nil) ⟨rfl, hS.ext⟩
        · replace H := pif_f (of_decide_eq_false hb) H
          refine CJ.skip (EJ.blk (EJ.next ?_))
          refine CJ.region ?_
          refine OJ.pures tU_ok 3 rfl ?_
          refine OJ.nil ?_
          exact EJ.round k (F' := [(0, .slice Aa0 a0.length ca0), (1, .slice Aa1 a1.length ca1), (5, .int .i64 (IntKind.i64.wrap (y1 + 1)))]) ⟨rfl, rfl, rfl, trivial⟩ (Nat.lt_succ_self _) ⟨(IntKind.i64.wrap (y1 + 1)), rfl, hS.pick [] [0, 1] rfl, H⟩
      · replace H := pif_f (of_decide_eq_false hb) H
        refine CJ.exit (EJ.skE (EJ.skE (EJ.hit (?_))))
        exact EJ.meet (F' := []) trivial ⟨H, rfl, hS.pick [] [0, 1] rfl⟩
  rintro F w1 ⟨he, rfl, hS⟩
  obtain rfl := Option.some.inj he
  have H := K2279
  refine EJ.next ?_
  refine CJ.seq ?_
  refine CJ.region ?_
  refine OJ.pures tU_ok 1 rfl ?_
  refine OJ.nil (EJ.next ?_)
  refine CJ.ret (?_)
  obtain rfl := Option.some.inj H
  exact EJ.fin rfl (.tmp rfl .nil) ⟨rfl, hS.ext⟩

def spec_l03Search_grow.l2 (self : l03Search → (List Spot) → (List Spot) → (Arr 10 (Arr 10 Bool)) → Option l03Search) (t37 : List Spot) : Nat → (List Spot) → (Arr 10 (Arr 10 Bool)) → Int → Option ((List Spot) × (Arr 10 (Arr 10 Bool)))
  | 0, _, _, _ => none
  | k + 1, y44, y47, y48 => if y48 < (t37.length : Int) then ((getI t37 y48).bind fun t49 => (getI t37 y48).bind fun t50 => (getI y47.l t49.Y).bind fun t51 => (getI t51.l t50.X).bind fun t52 => if (!t52) = true then ((getI t37 y48).bind fun t53 => (getI t37 y48).bind fun t54 => (getI y47.l t53.Y).bind fun t55 => (getI t55.l t54.X).bind fun t56 => (getI t37 y48).bind fun t57 => (chk (y44.length + ([t57] : List Spot).length ≤ 4294967296)).bind fun u59 => spec_l03Search_grow.l2 self t37 k (y44 ++ ([t57] : List Spot)) (aset y47 t53.Y.toNat (aset t55 t54.X.toNat true)) (IntKind.i64.wrap (y48 + 1))) else (spec_l03Search_grow.l2 self t37 k y44 y47 (IntKind.i64.wrap (y48 + 1)))) else (some (y44, y47))
def spec_l03Search_grow.l1 (self : l03Search → (List Spot) → (List Spot) → (Arr 10 (Arr 10 Bool)) → Option l03Search) (a0 : l03Search) (a1 : List Spot) (a2 : List Spot) : Nat → (Arr 10 (Arr 10 Bool)) → Int → Int → (List Spot) → Int → Option ((List Spot) × Int × Int)
  | 0, _, _, _, _, _ => none
  | k + 1, y17, y19, y20, y21, y24 => if y19 < (a2.length : Int) then (((chk ((0 : Int) ≤ (IntKind.i64.wrap (y19 + 1)) ∧ (IntKind.i64.wrap (y19 + 1)) ≤ (a2.length : Int) ∧ (a2.length : Int) ≤ (a2.length : Int))).bind fun u31 => (chk (([] : List Spot).length + ((a2.drop ((IntKind.i64.wrap (y19 + 1)).toNat)).take (a2.length - ((IntKind.i64.wrap (y19 + 1)).toNat))).length ≤ 4294967296)).bind fun u32 => (getI a2 y19).bind fun t36 => (spec_l01Beside.f k a0.p t36).bind fun t37 => (spec_l03Search_grow.l2 self t37 k (([] : List Spot) ++ ((a2.drop ((IntKind.i64.wrap (y19 + 1)).toNat)).take (a2.length - ((IntKind.i64.wrap (y19 + 1)).toNat)))) y17 0).bind fun (y40, y43) => (getI a2 y19).bind fun t62 => (chk (([] : List Spot).length + a1.length ≤ 4294967296)).bind fun u64 => (chk ((([] : List Spot) ++ a1).length + ([t62] : List Spot).length ≤ 4294967296)).bind fun u68 => (self (⟨a0.p, y20, y21, y24⟩ : l03Search) ((([] : List Spot) ++ a1) ++ ([t62] : List Spot)) y40 y43).bind fun t71 => some (t71.best, t71.size, t71.least)).bind fun (y25, y28, y29) => spec_l03Search_grow.l1 self a0 a1 a2 k y17 (IntKind.i64.wrap (y19 + 1)) y28 y25 y29) else (some (y21, y20, y24))
def spec_l03Search_grow.f : Nat → l03Search → (List Spot) → (List Spot) → (Arr 10 (Arr 10 Bool)) → Option l03Search
  | 0, _, _, _, _ => none
  | k + 1, a0, a1, a2, a3 => if (a1.length : Int) = a0.size then ((spec_l01Mask.f k a1).bind fun t2 => (spec_l03Open.f k a0.p t2).bind fun t4 => (spec_l03Sorted.f k a1).bind fun t7 => (if (a0.best.length : Int) = 0 then (some true) else (if (t4.length : Int) < a0.least then (some true) else (if (t4.length : Int) = a0.least then ((spec_l03Ahead.f k t7 a0.best).bind fun t11 => some t11) else (some false)))).bind fun y10 => if y10 = true then (some (⟨a0.p, a0.size, t7, (t4.length : Int)⟩ : l03Search)) else (some a0)) else ((spec_l03Search_grow.l1 (spec_l03Search_grow.f k) a0 a1 a2 k a3 0 a0.size a0.best a0.least).bind fun (y12, y15, y16) => some (⟨a0.p, y15, y12, y16⟩ : l03Search))
theorem spec_l03Search_grow.c : ∀ (k : Nat) (w : World) (Aa0_0 : Option Addr) (ca0_0 : Nat) (a0 : l03Search) (pa0_0 : Addr) (ba0 : Nat) (Aa1 : Option Addr) (ca1 : Nat) (a1 : List Spot) (Aa2 : Option Addr) (ca2 : Nat) (a2 : List Spot) (a3 : Arr 10 (Arr 10 Bool)) (hin : St w (fpU [box ba0 ([.pointer (some pa0_0), .int .i64 a0.size, .slice Aa0_0 a0.best.length ca0_0, .int .i64 a0.least]) 68, rowC cSpot Aa0_0 ca0_0 34 a0.best]) w [box ba0 ([.pointer (some pa0_0), .int .i64 a0.size, .slice Aa0_0 a0.best.length ca0_0, .int .i64 a0.least]) 68, rowC cSpot Aa0_0 ca0_0 34 a0.best] [roP pa0_0 (cPasture.enc a0.p), roC cSpot Aa1 ca1 a1, roC cSpot Aa2 ca2 a2]) (r : l03Search) (H : spec_l03Search_grow.f k a0 a1 a2 a3 = some r),
    CV Tryz.prog 32 [.pointer (some ⟨ba0, 0, none⟩), .slice Aa1 a1.length ca1, .slice Aa2 a2.length ca2, .agg ((carr 10 (carr 10 cb)).enc a3).toArray].toArray w fun v w' => ∃ (Al0 : Option Addr) (cl0 : Nat), v = .tuple #[] ∧ St w (fpU [box ba0 ([.pointer (some pa0_0), .int .i64 a0.size, .slice Aa0_0 a0.best.length ca0_0, .int .i64 a0.least]) 68, rowC cSpot Aa0_0 ca0_0 34 a0.best]) w' [box ba0 ([.pointer (some pa0_0), .int .i64 r.size, .slice Al0 r.best.length cl0, .int .i64 r.least]) 68, rowC cSpot Al0 cl0 34 r.best] [] := by
  intro k
  induction k
  · intro w Aa0_0 ca0_0 a0 pa0_0 ba0 Aa1 ca1 a1 Aa2 ca2 a2 a3 hin r H; rw [spec_l03Search_grow.f] at H; cases H
  rename_i k ih
  intro w Aa0_0 ca0_0 a0 pa0_0 ba0 Aa1 ca1 a1 Aa2 ca2 a2 a3 hin r H
  have hS := hin
  rw [spec_l03Search_grow.f] at H
  generalize spec_l03Search_grow.f k = self at H ih
  refine CV.body Tryz.func32 rfl Tryz.ntmps32 rfl ?_
  refine CJ.seq ?_
  refine CJ.region ?_
  refine OJ.ef rfl rfl rfl (Ef.box hS rfl rfl ((carr 10 (carr 10 cb)).enc a3) rfl) ?_
  rintro _ w1 ⟨b1, rfl, hS⟩
  refine OJ.nil (EJ.next ?_)
  refine CJ.seq ?_
  refine CJ.seq ?_
  refine CJ.region ?_
  refine OJ.pures tU_ok 4 rfl ?_
  refine OJ.st rfl rfl rfl (SR.fieldAddr tU_ok tI_ok rfl rfl rfl rfl rfl rfl) ?_
  refine OJ.st rfl rfl rfl (SR.load rfl rfl (fun w' hx => ld1 tU_ok rfl rfl (CA.ext (CA.sub (hS.cells (i := 0) rfl) 1) hx) rfl)) ?_
  refine OJ.pures tU_ok 1 rfl ?_
  refine OJ.nil (EJ.next ?_)
  refine CJ.cond rfl (fun hb => ?_) (fun hb => ?_)
  · replace H := pif_t (of_decide_eq_true hb) H
    refine CJ.seq ?_
    refine CJ.region ?_
    refine OJ.pures tU_ok 1 rfl ?_
    obtain ⟨t2, ht2, H⟩ := pbind H
    refine OJ.callF rfl rfl rfl rfl rfl hb59 rfl (spec_l01Mask.c k _ Aa1 ca1 a1 (hS.rd' (i := 1) rfl) (hS.le' (i := 1) rfl) _ ht2) ?_
    rintro _ w1 ⟨rfl, hs⟩
    replace hS := hS.grow hs
    refine OJ.ef rfl rfl rfl (Ef.alloc hS tI_ok rfl rfl ((carr 10 (carr 10 cb)).enc (Arr.mk' (Arr.mk' false : Arr 10 Bool) : Arr 10 (Arr 10 Bool))) (by kernel_rfl)) ?_
    rintro _ w1 ⟨b3, rfl, hS⟩
    refine OJ.es rfl rfl (Es.put tI_ok hS (i := 3) rfl rfl rfl rfl rfl (vs := (carr 10 (carr 10 cb)).enc t2) rfl ((carr 10 (carr 10 cb)).len _) ((carr 10 (carr 10 cb)).one _) (Put.all (carr 10 (carr 10 cb)) (Arr.mk' (Arr.mk' false : Arr 10 Bool) : Arr 10 (Arr 10 Bool)) t2) (by (try simp only [add_lit, Nat.add_assoc, Nat.zero_add, Nat.add_zero]) <;> rfl)) ?_
    intro w1 hS
    refine OJ.nil (EJ.next ?_)
    refine CJ.seq ?_
    refine CJ.region ?_
    refine OJ.pures tU_ok 2 rfl ?_
    refine OJ.st rfl rfl rfl (SR.fieldAddr tU_ok tI_ok rfl rfl rfl rfl rfl rfl) ?_
    refine OJ.st rfl rfl rfl (SR.load rfl rfl (fun w' hx => ld1 tU_ok rfl rfl (CA.ext (CA.sub (hS.cells (i := 0) rfl) 0) hx) rfl)) ?_
    obtain ⟨t4, ht4, H⟩ := pbind H
    refine OJ.callF rfl rfl rfl rfl rfl hb60 rfl (spec_l03Open.c k _ _ a0.p (hS.ca (i := 0) rfl) _ t2 (hS.cells (i := 3) rfl) _ ht4) ?_
    rintro _ w1 ⟨A5, c6, rfl, hs⟩
    replace hS := hS.addN hs
    refine OJ.pures tU_ok 2 rfl ?_
    refine OJ.nil (EJ.next ?_)
    refine CJ.seq ?_
    refine CJ.region ?_
    refine OJ.pures tU_ok 1 rfl ?_
    obtain ⟨t7, ht7, H⟩ := pbind H
    refine OJ.callF rfl rfl rfl rfl rfl hb61 rfl (spec_l03Sorted.c k _ Aa1 ca1 a1 (hS.rd' (i := 1) rfl) (hS.le' (i := 1) rfl) _ ht7) ?_
    rintro _ w1 ⟨A8, c9, rfl, hs⟩
    replace hS := hS.addN hs
    have hS : St w (fpU [box ba0 ([.pointer (some pa0_0), .int .i64 a0.size, .slice Aa0_0 a0.best.length ca0_0, .int .i64 a0.least]) 68, rowC cSpot Aa0_0 ca0_0 34 a0.best]) w1 [box ba0 ([.pointer (some pa0_0), .int .i64 a0.size, .slice Aa0_0 a0.best.length ca0_0, .int .i64 a0.least]) 68, rowC cSpot Aa0_0 ca0_0 34 a0.best, box b1 ((carr 10 (carr 10 cb)).enc a3) 70, box b3 ((carr 10 (carr 10 cb)).enc t2) 70, rowC cHurdle A5 c6 75 t4, rowC cSpot A8 c9 34 t7] [roP pa0_0 (cPasture.enc a0.p), roC cSpot Aa1 ca1 a1, roC cSpot Aa2 ca2 a2] := hS
    refine OJ.pures tU_ok 1 rfl ?_
    refine OJ.nil (EJ.next ?_)
    refine CJ.seq ?_
    obtain ⟨j2283, H, K2283⟩ := pbind H
    refine CJ.cut (fun F w1 => ∃ (y10 : Bool) , (some y10 : Option Bool) = some j2283 ∧ F = [(0, .pointer (some ⟨ba0, 0, none⟩)), (9, .int .i64 (t4.length : Int)), (10, .slice A8 t7.length c9), (62, .bool y10)] ∧ St w (fpU [box ba0 ([.pointer (some pa0_0), .int .i64 a0.size, .slice Aa0_0 a0.best.length ca0_0, .int .i64 a0.least]) 68, rowC cSpot Aa0_0 ca0_0 34 a0.best]) w1 [box ba0 ([.pointer (some pa0_0), .int .i64 a0.size, .slice Aa0_0 a0.best.length ca0_0, .int .i64 a0.least]) 68, rowC cSpot Aa0_0 ca0_0 34 a0.best, rowC cSpot A8 c9 34 t7] [roP pa0_0 (cPasture.enc a0.p), roC cSpot Aa1 ca1 a1, roC cSpot Aa2 ca2 a2]) ?_ ?_
    · skip
      refine CJ.region ?_
      refine OJ.pures tU_ok 2 rfl ?_
      refine OJ.st rfl rfl rfl (SR.fieldAddr tU_ok tI_ok rfl rfl rfl rfl rfl rfl) ?_
      refine OJ.st rfl rfl rfl (SR.load rfl rfl (fun w' hx => ld1 tU_ok rfl rfl (CA.ext (CA.sub (hS.cells (i := 0) rfl) 2) hx) rfl)) ?_
      refine OJ.pures tU_ok 3 rfl ?_
      refine OJ.split (t := 39) rfl (fun hb => ?_) (fun hb => ?_)
      · replace H := pif_t (of_decide_eq_true hb) H
        refine OJ.pures tU_ok 23 rfl ?_
        refine OJ.nil ?_
        exact EJ.meet (F' := [(0, .pointer (some ⟨ba0, 0, none⟩)), (9, .int .i64 (t4.length : Int)), (10, .slice A8 t7.length c9), (62, .bool true)]) ⟨rfl, rfl, rfl, rfl, trivial⟩ ⟨true, H, rfl, hS.pick [0, 1, 5] [0, 1, 2] rfl⟩
      replace H := pif_f (of_decide_eq_false hb) H
      refine OJ.pures tU_ok 3 rfl ?_
      refine OJ.st rfl rfl rfl (SR.fieldAddr tU_ok tI_ok rfl rfl rfl rfl rfl rfl) ?_
      refine OJ.st rfl rfl rfl (SR.load rfl rfl (fun w' hx => ld1 tU_ok rfl rfl (CA.ext (CA.sub (hS.cells (i := 0) rfl) 3) hx) rfl)) ?_
      refine OJ.pures tU_ok 3 rfl ?_
      refine OJ.split (t := 47) rfl (fun hb => ?_) (fun hb => ?_)
      · replace H := pif_t (of_decide_eq_true hb) H
        refine OJ.pures tU_ok 15 rfl ?_
        refine OJ.nil ?_
        exact EJ.meet (F' := [(0, .pointer (some ⟨ba0, 0, none⟩)), (9, .int .i64 (t4.length : Int)), (10, .slice A8 t7.length c9), (62, .bool true)]) ⟨rfl, rfl, rfl, rfl, trivial⟩ ⟨true, H, rfl, hS.pick [0, 1, 5] [0, 1, 2] rfl⟩
      replace H := pif_f (of_decide_eq_false hb) H
      refine OJ.pures tU_ok 3 rfl ?_
      refine OJ.st rfl rfl rfl (SR.fieldAddr tU_ok tI_ok rfl rfl rfl rfl rfl rfl) ?_
      refine OJ.st rfl rfl rfl (SR.load rfl rfl (fun w' hx => ld1 tU_ok rfl rfl (CA.ext (CA.sub (hS.cells (i := 0) rfl) 3) hx) rfl)) ?_
      refine OJ.pures tU_ok 2 rfl ?_
      refine OJ.split (t := 54) rfl (fun hb => ?_) (fun hb => ?_)
      · replace H := pif_t (of_decide_eq_true hb) H
        refine OJ.pures tU_ok 3 rfl ?_
        refine OJ.st rfl rfl rfl (SR.fieldAddr tU_ok tI_ok rfl rfl rfl rfl rfl rfl) ?_
        refine OJ.st rfl rfl rfl (SR.load rfl rfl (fun w' hx => ld1 tU_ok rfl rfl (CA.ext (CA.sub (hS.cells (i := 0) rfl) 2) hx) rfl)) ?_
        obtain ⟨t11, ht11, H⟩ := pbind H
        refine OJ.callF rfl rfl rfl rfl rfl hb62 rfl (spec_l03Ahead.c k _ A8 c9 t7 (hS.rd (i := 5) rfl) (hS.le (i := 5) rfl) Aa0_0 ca0_0 a0.best (hS.rd (i := 1) rfl) (hS.le (i := 1) rfl) _ ht11) ?_
        rintro _ w1 ⟨rfl, hs⟩
        replace hS := hS.grow hs
        refine OJ.pures tU_ok 2 rfl ?_
        refine OJ.nil ?_
        exact EJ.meet (F' := [(0, .pointer (some ⟨ba0, 0, none⟩)), (9, .int .i64 (t4.length : Int)), (10, .slice A8 t7.length c9), (62, .bool t11)]) ⟨rfl, rfl, rfl, rfl, trivial⟩ ⟨t11, H, rfl, hS.pick [0, 1, 5] [0, 1, 2] rfl⟩
      replace H := pif_f (of_decide_eq_false hb) H
      refine OJ.pures tU_ok 8 rfl ?_
      refine OJ.nil ?_
      exact EJ.meet (F' := [(0, .pointer (some ⟨ba0, 0, none⟩)), (9, .int .i64 (t4.length : Int)), (10, .slice A8 t7.length c9), (62, .bool false)]) ⟨rfl, rfl, rfl, rfl, trivial⟩ ⟨false, H, rfl, hS.pick [0, 1, 5] [0, 1, 2] rfl⟩
    rintro F w1 ⟨y10, he, rfl, hS⟩
    obtain rfl := Option.some.inj he
    have H := K2283
    refine CJ.cond rfl (fun hb => ?_) (fun hb => ?_)
    · replace H := pif_t hb H
      refine CJ.seq ?_
      refine CJ.region ?_
      refine OJ.pures tU_ok 3 rfl ?_
      refine OJ.st rfl rfl rfl (SR.fieldAddr tU_ok tI_ok rfl rfl rfl rfl rfl rfl) ?_
      refine OJ.es rfl rfl (Es.store tI_ok hS (i := 0) (vs := [.slice A8 t7.length c9]) rfl rfl rfl (G.ad1 _ _) rfl rfl rfl rfl (one1 rfl) (Nat.le_of_ble_eq_true rfl) ([.pointer (some pa0_0), .int .i64 a0.size, .slice A8 t7.length c9, .int .i64 a0.least]) rfl) ?_
      intro w1 hS
      refine OJ.nil (EJ.next ?_)
      refine CJ.region ?_
      refine OJ.pures tU_ok 3 rfl ?_
      refine OJ.st rfl rfl rfl (SR.fieldAddr tU_ok tI_ok rfl rfl rfl rfl rfl rfl) ?_
      refine OJ.es rfl rfl (Es.store tI_ok hS (i := 0) (vs := [.int .i64 (t4.length : Int)]) rfl rfl rfl (G.ad1 _ _) rfl rfl rfl rfl (one1 rfl) (Nat.le_of_ble_eq_true rfl) ([.pointer (some pa0_0), .int .i64 a0.size, .slice A8 t7.length c9, .int .i64 (t4.length : Int)]) rfl) ?_
      intro w1 hS
      refine OJ.nil (EJ.next ?_)
      refine CJ.ret (EJ.skR (?_))
      obtain rfl := Option.some.inj H
      exact EJ.fin rfl .nil ⟨A8, c9, rfl, hS.pick [0, 2] [] rfl⟩
    replace H := pifb_f hb H
    refine CJ.skip (EJ.next ?_)
    refine CJ.ret (EJ.skR (?_))
    obtain rfl := Option.some.inj H
    exact EJ.fin rfl .nil ⟨Aa0_0, ca0_0, rfl, hS.pick [0, 1] [] rfl⟩
  replace H := pif_f (of_decide_eq_false hb) H
  refine CJ.skip (EJ.next ?_)
  refine CJ.seq ?_
  refine CJ.region ?_
  refine OJ.pures tU_ok 1 rfl ?_
  refine OJ.nil (EJ.next ?_)
  obtain ⟨j2284, H, K2284⟩ := pbind H
  refine CJ.cut1 (fun F w1 => ∃ (y12 : List Spot) (y15 : Int) (y16 : Int) (A13 : Option Addr) (c14 : Nat), (some (y12, y15, y16) : Option ((List Spot) × Int × Int)) = some j2284 ∧ F = [] ∧ St w (fpU [box ba0 ([.pointer (some pa0_0), .int .i64 a0.size, .slice Aa0_0 a0.best.length ca0_0, .int .i64 a0.least]) 68, rowC cSpot Aa0_0 ca0_0 34 a0.best]) w1 [box ba0 ([.pointer (some pa0_0), .int .i64 y15, .slice A13 y12.length c14, .int .i64 y16]) 68, rowC cSpot A13 c14 34 y12] [roP pa0_0 (cPasture.enc a0.p), roC cSpot Aa1 ca1 a1, roC cSpot Aa2 ca2 a2]) ?_ ?_
  · skip
    refine CJ.block ?_
    refine CJ.loop (fun k F w1 => ∃ (y17 : Arr 10 (Arr 10 Bool)) (y19 : Int) (y20 : Int) (y21 : List Spot) (y24 : Int) (b18 : Nat) (A22 : Option Addr) (c23 : Nat), F = [(0, .pointer (some ⟨ba0, 0, none⟩)), (1, .slice Aa1 a1.length ca1), (2, .slice Aa2 a2.length ca2), (7, .pointer (some ⟨b18, 0, none⟩)), (11, .int .i64 y19)] ∧ St w (fpU [box ba0 ([.pointer (some pa0_0), .int .i64 a0.size, .slice Aa0_0 a0.best.length ca0_0, .int .i64 a0.least]) 68, rowC cSpot Aa0_0 ca0_0 34 a0.best]) w1 [box ba0 ([.pointer (some pa0_0), .int .i64 y20, .slice A22 y21.length c23, .int .i64 y24]) 68, box b18 ((carr 10 (carr 10 cb)).enc y17) 70, rowC cSpot A22 c23 34 y21] [roP pa0_0 (cPasture.enc a0.p), roC cSpot Aa1 ca1 a1, roC cSpot Aa2 ca2 a2] ∧ spec_l03Search_grow.l1 self a0 a1 a2 k y17 y19 y20 y21 y24 = some j2284) k (F' := [(0, .pointer (some ⟨ba0, 0, none⟩)), (1, .slice Aa1 a1.length ca1), (2, .slice Aa2 a2.length ca2), (7, .pointer (some ⟨b1, 0, none⟩)), (11, .int .i64 0)]) ⟨rfl, rfl, rfl, rfl, rfl, trivial⟩ ⟨a3, 0, a0.size, a0.best, a0.least, b1, Aa0_0, ca0_0, rfl, hS.pick [0, 2, 1] [0, 1, 2] rfl, H⟩ ?_
    rintro k F w1 ⟨y17, y19, y20, y21, y24, b18, A22, c23, rfl, hS, H⟩
    cases k with
    | zero => rw [spec_l03Search_grow.l1] at H; cases H
    | succ k =>
      rw [spec_l03Search_grow.l1] at H
      refine CJ.seq ?_
      refine CJ.seq ?_
      refine CJ.region ?_
      refine OJ.pures tU_ok 4 rfl ?_
      refine OJ.nil (EJ.next ?_)
      refine CJ.cond rfl (fun hb => ?_) (fun hb => ?_)
      · replace H := pif_t (of_decide_eq_true hb) H
        refine CJ.skip (EJ.next ?_)
        obtain ⟨j2291, H, K2291⟩ := pbind H
        refine CJ.cut (fun F w1 => ∃ (y25 : List Spot) (y28 : Int) (y29 : Int) (A26 : Option Addr) (c27 : Nat), (some (y25, y28, y29) : Option ((List Spot) × Int × Int)) = some j2291 ∧ F = [(0, .pointer (some ⟨ba0, 0, none⟩)), (1, .slice Aa1 a1.length ca1), (2, .slice Aa2 a2.length ca2), (7, .pointer (some ⟨b18, 0, none⟩)), (11, .int .i64 y19)] ∧ St w (fpU [box ba0 ([.pointer (some pa0_0), .int .i64 a0.size, .slice Aa0_0 a0.best.length ca0_0, .int .i64 a0.least]) 68, rowC cSpot Aa0_0 ca0_0 34 a0.best]) w1 [box ba0 ([.pointer (some pa0_0), .int .i64 y28, .slice A26 y25.length c27, .int .i64 y29]) 68, box b18 ((carr 10 (carr 10 cb)).enc y17) 70, rowC cSpot A26 c27 34 y25] [roP pa0_0 (cPasture.enc a0.p), roC cSpot Aa1 ca1 a1, roC cSpot Aa2 ca2 a2]) ?_ ?_
        · skip
          refine CJ.block ?_
          refine CJ.seq ?_
          refine CJ.region ?_
          refine OJ.ef rfl rfl rfl (Ef.lit tU_ok tI_ok hS (C := cSpot) rfl rfl rfl rfl rfl rfl ([] : List Spot) rfl rfl rfl rfl) ?_
          rintro _ w1 ⟨A30, rfl, hS⟩
          refine OJ.pures tU_ok 3 rfl ?_
          obtain ⟨u31, hu31, H⟩ := pbind H
          refine OJ.st rfl rfl rfl (SR.cutS tU_ok tI_ok ((IntKind.i64.wrap (y19 + 1)).toNat) (a2.length) rfl rfl rfl rfl rfl rfl (.inr ⟨_, _, rfl, (chk_some hu31).1, rfl⟩) (.inl ⟨rfl, rfl⟩) (by have := (chk_some hu31); omega) (by have := (chk_some hu31); have := (hS.le' (i := 2) rfl : a2.length ≤ ca2); omega)) ?_
          replace hS := hS.cutR (i := 2) (lo := (IntKind.i64.wrap (y19 + 1)).toNat) (hi := a2.length) rfl (by have := (chk_some hu31); omega) (by have := (chk_some hu31); omega)
          refine OJ.as (t := 81) rfl (show _ = (.slice (cutA Aa2 ca2 ((IntKind.i64.wrap (y19 + 1)).toNat) cSpot.sz) ((a2.drop ((IntKind.i64.wrap (y19 + 1)).toNat)).take (a2.length - ((IntKind.i64.wrap (y19 + 1)).toNat))).length (ca2 - ((IntKind.i64.wrap (y19 + 1)).toNat)) : Value) by rw [cutLen (by have := (chk_some hu31); omega) (by have := (chk_some hu31); omega)]; rfl) ?_
          obtain ⟨u32, hu32, H⟩ := pbind H
          refine OJ.ew rfl rfl rfl (Ew.append tU_ok tI_ok (C := cSpot) (xs := ([] : List Spot)) (ys := ((a2.drop ((IntKind.i64.wrap (y19 + 1)).toNat)).take (a2.length - ((IntKind.i64.wrap (y19 + 1)).toNat)))) hS (i := 3) rfl rfl rfl rfl rfl rfl rfl rfl rfl rfl rfl rfl rfl (hS.rd' (i := 3) rfl) (chk_some hu32)) ?_
          rintro _ w1 ⟨A33, c34, rfl, hS⟩
          refine OJ.pures tU_ok 1 rfl ?_
          refine OJ.nil (EJ.next ?_)
          refine CJ.seq ?_
          refine CJ.region ?_
          refine OJ.st rfl rfl rfl (SR.load rfl rfl (fun w' hx => ldE tU_ok tI_ok rfl rfl rfl (CA.ext (hS.cells (i := 1) rfl) hx) rfl)) ?_
          refine OJ.ef rfl rfl rfl (Ef.alloc hS tI_ok rfl rfl ((carr 10 (carr 10 cb)).enc (Arr.mk' (Arr.mk' false : Arr 10 Bool) : Arr 10 (Arr 10 Bool))) (by kernel_rfl)) ?_
          rintro _ w1 ⟨b35, rfl, hS⟩
          refine OJ.es rfl rfl (Es.put tI_ok hS (i := 4) rfl rfl rfl rfl rfl (vs := (carr 10 (carr 10 cb)).enc y17) rfl ((carr 10 (carr 10 cb)).len _) ((carr 10 (carr 10 cb)).one _) (Put.all (carr 10 (carr 10 cb)) (Arr.mk' (Arr.mk' false : Arr 10 Bool) : Arr 10 (Arr 10 Bool)) y17) (by (try simp only [add_lit, Nat.add_assoc, Nat.zero_add, Nat.add_zero]) <;> rfl)) ?_
          intro w1 hS
          refine OJ.nil (EJ.next ?_)
          refine CJ.seq ?_
          refine CJ.draw [] [0, 1, 2, 3, 4, 5, 6, 7, 8, 9] mixed (by kernel_rfl) hS fun w1 hS => ?_
          refine DJ.pures tU_ok 2 rfl ?_
          refine DJ.st rfl rfl rfl rfl rfl (SR.fieldAddr tU_ok tI_ok rfl rfl rfl rfl rfl rfl) ?_
          refine DJ.st rfl rfl rfl rfl rfl (SR.load rfl rfl (fun w' hx => ld1 tU_ok rfl rfl (CA.ext (CA.sub (hS.cells (i := 0) rfl) 0) hx) rfl)) ?_
          refine DJ.pures tU_ok 2 rfl ?_
          obtain ⟨t36, ht36, H⟩ := pbind H
          obtain ⟨ad36, e36⟩ := (hS.rd' (i := 2) rfl).some' ht36
          refine DJ.st rfl rfl rfl rfl rfl (SR.idxS tU_ok tI_ok rfl rfl rfl rfl e36 rfl (getI_some ht36).1) ?_
          refine DJ.st rfl rfl rfl rfl rfl (SR.load rfl rfl (fun w' hx => ldE tU_ok tI_ok rfl rfl rfl (CA.ext ((hS.rd' (i := 2) rfl).at_ e36 ht36) hx) rfl)) ?_
          obtain ⟨t37, ht37, H⟩ := pbind H
          refine DJ.callF rfl rfl rfl rfl rfl rfl rfl hb63 rfl (spec_l01Beside.c k _ _ a0.p (hS.ca (i := 0) rfl) t36 _ ht37) (by rintro v w' ⟨A38, c39, rfl, hs⟩; exact hs.ext) ?_
          rintro _ w1 ⟨A38, c39, rfl, hs⟩
          replace hS := hS.addN hs
          have hS : St w (fpU [box ba0 ([.pointer (some pa0_0), .int .i64 a0.size, .slice Aa0_0 a0.best.length ca0_0, .int .i64 a0.least]) 68, rowC cSpot Aa0_0 ca0_0 34 a0.best]) w1 [box ba0 ([.pointer (some pa0_0), .int .i64 y20, .slice A22 y21.length c23, .int .i64 y24]) 68, box b18 ((carr 10 (carr 10 cb)).enc y17) 70, rowC cSpot A22 c23 34 y21, rowC cSpot A33 c34 34 (([] : List Spot) ++ ((a2.drop ((IntKind.i64.wrap (y19 + 1)).toNat)).take (a2.length - ((IntKind.i64.wrap (y19 + 1)).toNat)))), box b35 ((carr 10 (carr 10 cb)).enc y17) 70, rowC cSpot A38 c39 34 t37] [roP pa0_0 (cPasture.enc a0.p), roC cSpot Aa1 ca1 a1, roC cSpot Aa2 ca2 a2, roC cSpot (cutA Aa2 ca2 ((IntKind.i64.wrap (y19 + 1)).toNat) cSpot.sz) (ca2 - ((IntKind.i64.wrap (y19 + 1)).toNat)) ((a2.drop ((IntKind.i64.wrap (y19 + 1)).toNat)).take (a2.length - ((IntKind.i64.wrap (y19 + 1)).toNat)))] := hS
          refine DJ.pures tU_ok 1 rfl ?_
          refine DJ.nil (EJ.next ?_)
          refine CJ.seq ?_
          refine CJ.seq ?_
          refine CJ.region ?_
          refine OJ.pures tU_ok 1 rfl ?_
          refine OJ.nil (EJ.next ?_)
          obtain ⟨j2293, H, K2293⟩ := pbind H
          refine CJ.cut1 (fun F w1 => ∃ (y40 : List Spot) (y43 : Arr 10 (Arr 10 Bool)) (A41 : Option Addr) (c42 : Nat), (some (y40, y43) : Option ((List Spot) × (Arr 10 (Arr 10 Bool)))) = some j2293 ∧ F = [(0, .pointer (some ⟨ba0, 0, none⟩)), (1, .slice Aa1 a1.length ca1), (2, .slice Aa2 a2.length ca2), (7, .pointer (some ⟨b18, 0, none⟩)), (11, .int .i64 y19), (12, .slice A41 y40.length c42), (13, .pointer (some ⟨b35, 0, none⟩))] ∧ St w (fpU [box ba0 ([.pointer (some pa0_0), .int .i64 a0.size, .slice Aa0_0 a0.best.length ca0_0, .int .i64 a0.least]) 68, rowC cSpot Aa0_0 ca0_0 34 a0.best]) w1 [box ba0 ([.pointer (some pa0_0), .int .i64 y20, .slice A22 y21.length c23, .int .i64 y24]) 68, box b18 ((carr 10 (carr 10 cb)).enc y17) 70, rowC cSpot A22 c23 34 y21, rowC cSpot A41 c42 34 y40, box b35 ((carr 10 (carr 10 cb)).enc y43) 70] [roP pa0_0 (cPasture.enc a0.p), roC cSpot Aa1 ca1 a1, roC cSpot Aa2 ca2 a2, roC cSpot (cutA Aa2 ca2 ((IntKind.i64.wrap (y19 + 1)).toNat) cSpot.sz) (ca2 - ((IntKind.i64.wrap (y19 + 1)).toNat)) ((a2.drop ((IntKind.i64.wrap (y19 + 1)).toNat)).take (a2.length - ((IntKind.i64.wrap (y19 + 1)).toNat)))]) ?_ ?_
          · skip
            refine CJ.block ?_
            refine CJ.loop (fun k F w1 => ∃ (y44 : List Spot) (y47 : Arr 10 (Arr 10 Bool)) (y48 : Int) (A45 : Option Addr) (c46 : Nat), F = [(0, .pointer (some ⟨ba0, 0, none⟩)), (1, .slice Aa1 a1.length ca1), (2, .slice Aa2 a2.length ca2), (7, .pointer (some ⟨b18, 0, none⟩)), (11, .int .i64 y19), (12, .slice A45 y44.length c46), (13, .pointer (some ⟨b35, 0, none⟩)), (14, .slice A38 t37.length c39), (15, .int .i64 y48)] ∧ St w (fpU [box ba0 ([.pointer (some pa0_0), .int .i64 a0.size, .slice Aa0_0 a0.best.length ca0_0, .int .i64 a0.least]) 68, rowC cSpot Aa0_0 ca0_0 34 a0.best]) w1 [box ba0 ([.pointer (some pa0_0), .int .i64 y20, .slice A22 y21.length c23, .int .i64 y24]) 68, box b18 ((carr 10 (carr 10 cb)).enc y17) 70, rowC cSpot A22 c23 34 y21, rowC cSpot A45 c46 34 y44, box b35 ((carr 10 (carr 10 cb)).enc y47) 70, rowC cSpot A38 c39 34 t37] [roP pa0_0 (cPasture.enc a0.p), roC cSpot Aa1 ca1 a1, roC cSpot Aa2 ca2 a2, roC cSpot (cutA Aa2 ca2 ((IntKind.i64.wrap (y19 + 1)).toNat) cSpot.sz) (ca2 - ((IntKind.i64.wrap (y19 + 1)).toNat)) ((a2.drop ((IntKind.i64.wrap (y19 + 1)).toNat)).take (a2.length - ((IntKind.i64.wrap (y19 + 1)).toNat)))] ∧ spec_l03Search_grow.l2 self t37 k y44 y47 y48 = some j2293) k (F' := [(0, .pointer (some ⟨ba0, 0, none⟩)), (1, .slice Aa1 a1.length ca1), (2, .slice Aa2 a2.length ca2), (7, .pointer (some ⟨b18, 0, none⟩)), (11, .int .i64 y19), (12, .slice A33 (([] : List Spot) ++ ((a2.drop ((IntKind.i64.wrap (y19 + 1)).toNat)).take (a2.length - ((IntKind.i64.wrap (y19 + 1)).toNat)))).length c34), (13, .pointer (some ⟨b35, 0, none⟩)), (14, .slice A38 t37.length c39), (15, .int .i64 0)]) ⟨rfl, rfl, rfl, rfl, rfl, rfl, rfl, rfl, rfl, trivial⟩ ⟨(([] : List Spot) ++ ((a2.drop ((IntKind.i64.wrap (y19 + 1)).toNat)).take (a2.length - ((IntKind.i64.wrap (y19 + 1)).toNat)))), y17, 0, A33, c34, rfl, hS.pick [0, 1, 2, 3, 4, 5] [0, 1, 2, 3] rfl, H⟩ ?_
            rintro k F w1 ⟨y44, y47, y48, A45, c46, rfl, hS, H⟩
            cases k with
            | zero => rw [spec_l03Search_grow.l2] at H; cases H
            | succ k =>
              rw [spec_l03Search_grow.l2] at H
              refine CJ.seq ?_
              refine CJ.seq ?_
              refine CJ.region ?_
              refine OJ.pures tU_ok 4 rfl ?_
              refine OJ.nil (EJ.next ?_)
              refine CJ.cond rfl (fun hb => ?_) (fun hb => ?_)
              · replace H := pif_t (of_decide_eq_true hb) H
                refine CJ.skip (EJ.next ?_)
                refine CJ.seq ?_
                refine CJ.block ?_
                refine CJ.seq ?_
                refine CJ.draw [] [0, 1, 2, 3, 4, 5, 6, 7, 8, 9, 10, 11, 12, 13] mixed (by kernel_rfl) hS fun w1 hS => ?_
                refine DJ.pures tU_ok 2 rfl ?_
                obtain ⟨t49, ht49, H⟩ := pbind H
                obtain ⟨ad49, e49⟩ := (hS.rd (i := 5) rfl).some' ht49
                refine DJ.st rfl rfl rfl rfl rfl (SR.idxS tU_ok tI_ok rfl rfl rfl rfl e49 rfl (getI_some ht49).1) ?_
                refine DJ.st rfl rfl rfl rfl rfl (SR.fieldAddr tU_ok tI_ok rfl rfl rfl rfl rfl rfl) ?_
                refine DJ.st rfl rfl rfl rfl rfl (SR.load rfl rfl (fun w' hx => ld1 tU_ok rfl rfl (CA.ext (CA.sub ((hS.rd (i := 5) rfl).at_ e49 ht49) 1) hx) rfl)) ?_
                refine DJ.pures tU_ok 2 rfl ?_
                obtain ⟨t50, ht50, H⟩ := pbind H
                obtain ⟨ad50, e50⟩ := (hS.rd (i := 5) rfl).some' ht50
                refine DJ.st rfl rfl rfl rfl rfl (SR.idxS tU_ok tI_ok rfl rfl rfl rfl e50 rfl (getI_some ht50).1) ?_
                refine DJ.st rfl rfl rfl rfl rfl (SR.fieldAddr tU_ok tI_ok rfl rfl rfl rfl rfl rfl) ?_
                refine DJ.st rfl rfl rfl rfl rfl (SR.load rfl rfl (fun w' hx => ld1 tU_ok rfl rfl (CA.ext (CA.sub ((hS.rd (i := 5) rfl).at_ e50 ht50) 0) hx) rfl)) ?_
                obtain ⟨t51, ht51, H⟩ := pbind H
                refine DJ.st rfl rfl rfl rfl rfl (SR.idxA tU_ok tI_ok rfl rfl rfl rfl rfl (Arr.lt ht51)) ?_
                obtain ⟨t52, ht52, H⟩ := pbind H
                refine DJ.st rfl rfl rfl rfl rfl (SR.idxA tU_ok tI_ok rfl rfl rfl rfl rfl (Arr.lt ht52)) ?_
                refine DJ.st rfl rfl rfl rfl rfl (SR.load rfl rfl (fun w' hx => ld1 tU_ok rfl rfl (CA.ext (CA.idx (CA.idx (hS.cells (i := 4) rfl) ht51) ht52) hx) rfl)) ?_
                refine DJ.pures tU_ok 1 rfl ?_
                refine DJ.nil (EJ.next ?_)
                refine CJ.cond rfl (fun hb => ?_) (fun hb => ?_)
                · replace H := pif_t hb H
                  refine CJ.seq ?_
                  refine CJ.draw [] [0, 1, 2, 3, 4, 5, 6, 7, 8, 9, 10, 11, 12] mixed (by kernel_rfl) hS fun w1 hS => ?_
                  refine DJ.pures tU_ok 2 rfl ?_
                  obtain ⟨t53, ht53, H⟩ := pbind H
                  obtain ⟨ad53, e53⟩ := (hS.rd (i := 5) rfl).some' ht53
                  refine DJ.st rfl rfl rfl rfl rfl (SR.idxS tU_ok tI_ok rfl rfl rfl rfl e53 rfl (getI_some ht53).1) ?_
                  refine DJ.st rfl rfl rfl rfl rfl (SR.fieldAddr tU_ok tI_ok rfl rfl rfl rfl rfl rfl) ?_
                  refine DJ.st rfl rfl rfl rfl rfl (SR.load rfl rfl (fun w' hx => ld1 tU_ok rfl rfl (CA.ext (CA.sub ((hS.rd (i := 5) rfl).at_ e53 ht53) 1) hx) rfl)) ?_
                  refine DJ.pures tU_ok 2 rfl ?_
                  obtain ⟨t54, ht54, H⟩ := pbind H
                  obtain ⟨ad54, e54⟩ := (hS.rd (i := 5) rfl).some' ht54
                  refine DJ.st rfl rfl rfl rfl rfl (SR.idxS tU_ok tI_ok rfl rfl rfl rfl e54 rfl (getI_some ht54).1) ?_
                  refine DJ.st rfl rfl rfl rfl rfl (SR.fieldAddr tU_ok tI_ok rfl rfl rfl rfl rfl rfl) ?_
                  refine DJ.st rfl rfl rfl rfl rfl (SR.load rfl rfl (fun w' hx => ld1 tU_ok rfl rfl (CA.ext (CA.sub ((hS.rd (i := 5) rfl).at_ e54 ht54) 0) hx) rfl)) ?_
                  obtain ⟨t55, ht55, H⟩ := pbind H
                  refine DJ.st rfl rfl rfl rfl rfl (SR.idxA tU_ok tI_ok rfl rfl rfl rfl rfl (Arr.lt ht55)) ?_
                  obtain ⟨t56, ht56, H⟩ := pbind H
                  refine DJ.st rfl rfl rfl rfl rfl (SR.idxA tU_ok tI_ok rfl rfl rfl rfl rfl (Arr.lt ht56)) ?_
                  refine DJ.es rfl rfl rfl rfl (Es.put tI_ok hS (i := 4) rfl rfl rfl rfl rfl (vs := cb.enc true) rfl rfl (one1 rfl) (Put.idx (Put.idx (Put.all cb t56 true) ht56) ht55) (by (try simp only [add_lit, Nat.add_assoc, Nat.zero_add, Nat.add_zero]) <;> rfl)) ?_
                  intro w1 hS
                  refine DJ.nil (EJ.next ?_)
                  refine CJ.region ?_
                  refine OJ.pures tU_ok 3 rfl ?_
                  obtain ⟨t57, ht57, H⟩ := pbind H
                  obtain ⟨ad57, e57⟩ := (hS.rd (i := 5) rfl).some' ht57
                  refine OJ.st rfl rfl rfl (SR.idxS tU_ok tI_ok rfl rfl rfl rfl e57 rfl (getI_some ht57).1) ?_
                  refine OJ.st rfl rfl rfl (SR.load rfl rfl (fun w' hx => ldE tU_ok tI_ok rfl rfl rfl (CA.ext ((hS.rd (i := 5) rfl).at_ e57 ht57) hx) rfl)) ?_
                  refine OJ.ef rfl rfl rfl (Ef.lit tU_ok tI_ok hS (C := cSpot) rfl rfl rfl rfl rfl rfl ([t57] : List Spot) rfl rfl rfl rfl) ?_
                  rintro _ w1 ⟨A58, rfl, hS⟩
                  obtain ⟨u59, hu59, H⟩ := pbind H
                  refine OJ.ew rfl rfl rfl (Ew.append tU_ok tI_ok (C := cSpot) (xs := y44) (ys := ([t57] : List Spot)) hS (i := 3) rfl rfl rfl rfl rfl rfl rfl rfl rfl rfl rfl rfl rfl (hS.rd (i := 6) rfl) (chk_some hu59)) ?_
                  rintro _ w1 ⟨A60, c61, rfl, hS⟩
                  refine OJ.pures tU_ok 1 rfl ?_
                  refine OJ.nil (EJ.blk (EJ.next ?_))
                  refine CJ.region ?_
                  refine OJ.pures tU_ok 3 rfl ?_
                  refine OJ.nil ?_
                  exact EJ.round k (F' := [(0, .pointer (some ⟨ba0, 0, none⟩)), (1, .slice Aa1 a1.length ca1), (2, .slice Aa2 a2.length ca2), (7, .pointer (some ⟨b18, 0, none⟩)), (11, .int .i64 y19), (12, .slice A60 (y44 ++ ([t57] : List Spot)).length c61), (13, .pointer (some ⟨b35, 0, none⟩)), (14, .slice A38 t37.length c39), (15, .int .i64 (IntKind.i64.wrap (y48 + 1)))]) ⟨rfl, rfl, rfl, rfl, rfl, rfl, rfl, rfl, rfl, trivial⟩ (Nat.lt_succ_self _) ⟨(y44 ++ ([t57] : List Spot)), (aset y47 t53.Y.toNat (aset t55 t54.X.toNat true)), (IntKind.i64.wrap (y48 + 1)), A60, c61, rfl, hS.pick [0, 1, 2, 3, 4, 5] [0, 1, 2, 3] rfl, H⟩
                · replace H := pifb_f hb H
                  refine CJ.skip (EJ.blk (EJ.next ?_))
                  refine CJ.region ?_
                  refine OJ.pures tU_ok 3 rfl ?_
                  refine OJ.nil ?_
                  exact EJ.round k (F' := [(0, .pointer (some ⟨ba0, 0, none⟩)), (1, .slice Aa1 a1.length ca1), (2, .slice Aa2 a2.length ca2), (7, .pointer (some ⟨b18, 0, none⟩)), (11, .int .i64 y19), (12, .slice A45 y44.length c46), (13, .pointer (some ⟨b35, 0, none⟩)), (14, .slice A38 t37.length c39), (15, .int .i64 (IntKind.i64.wrap (y48 + 1)))]) ⟨rfl, rfl, rfl, rfl, rfl, rfl, rfl, rfl, rfl, trivial⟩ (Nat.lt_succ_self _) ⟨y44, y47, (IntKind.i64.wrap (y48 + 1)), A45, c46, rfl, hS.pick [0, 1, 2, 3, 4, 5] [0, 1, 2, 3] rfl, H⟩
              · replace H := pif_f (of_decide_eq_false hb) H
                refine CJ.exit (EJ.skE (EJ.skE (EJ.hit (?_))))
                exact EJ.meet (F' := [(0, .pointer (some ⟨ba0, 0, none⟩)), (1, .slice Aa1 a1.length ca1), (2, .slice Aa2 a2.length ca2), (7, .pointer (some ⟨b18, 0, none⟩)), (11, .int .i64 y19), (12, .slice A45 y44.length c46), (13, .pointer (some ⟨b35, 0, none⟩))]) ⟨rfl, rfl, rfl, rfl, rfl, rfl, rfl, trivial⟩ ⟨y44, y47, A45, c46, H, rfl, hS.pick [0, 1, 2, 3, 4] [0, 1, 2, 3] rfl⟩
          · rintro F w1 ⟨y40, y43, A41, c42, he, rfl, hS⟩
            obtain rfl := Option.some.inj he
            have H := K2293
            refine EJ.next ?_
            obtain ⟨t62, ht62, H⟩ := pbind H
            obtain ⟨u64, hu64, H⟩ := pbind H
            obtain ⟨u68, hu68, H⟩ := pbind H
            obtain ⟨t71, ht71, H⟩ := pbind H
            refine CJ.cut1 (fun F w1 => ∃ (A67 : Option Addr) (A69 : Option Addr) (c70 : Nat) (A72 : Option Addr) (c73 : Nat), F = [(0, .pointer (some ⟨ba0, 0, none⟩)), (1, .slice Aa1 a1.length ca1), (2, .slice Aa2 a2.length ca2), (7, .pointer (some ⟨b18, 0, none⟩)), (11, .int .i64 y19)] ∧ St w (fpU [box ba0 ([.pointer (some pa0_0), .int .i64 a0.size, .slice Aa0_0 a0.best.length ca0_0, .int .i64 a0.least]) 68, rowC cSpot Aa0_0 ca0_0 34 a0.best]) w1 [box ba0 ([.pointer (some pa0_0), .int .i64 t71.size, .slice A72 t71.best.length c73, .int .i64 t71.least]) 68, box b18 ((carr 10 (carr 10 cb)).enc y17) 70, gone, rowC cSpot A41 c42 34 y40, box b35 ((carr 10 (carr 10 cb)).enc y43) 70, rowC cSpot A69 c70 34 ((([] : List Spot) ++ a1) ++ ([t62] : List Spot)), rowC cSpot A67 (([t62] : List Spot).length) 34 ([t62] : List Spot), rowC cSpot A72 c73 34 t71.best] [roP pa0_0 (cPasture.enc a0.p), roC cSpot Aa1 ca1 a1, roC cSpot Aa2 ca2 a2, roC cSpot (cutA Aa2 ca2 ((IntKind.i64.wrap (y19 + 1)).toNat) cSpot.sz) (ca2 - ((IntKind.i64.wrap (y19 + 1)).toNat)) ((a2.drop ((IntKind.i64.wrap (y19 + 1)).toNat)).take (a2.length - ((IntKind.i64.wrap (y19 + 1)).toNat)))]) ?_ ?_
            · skip
              refine CJ.drawT [] [1, 3, 8, 9, 12] (.one 0 (.one 2 (.one 4 (.one 5 (.one 6 (.one 7 (.one 10 (.one 11 (.br (.alt 1 (.br (.alt 3 (.one 8 (.one 9 (.one 12 (.fin)))) (.alt 8 (.one 3 (.one 9 (.one 12 (.fin)))) (.stop)))) (.alt 8 (.one 1 (.one 3 (.one 9 (.one 12 (.fin))))) (.stop)))))))))))) mixed (by kernel_rfl) hS [4] fun w1 hS hY hV => ?_
              refine TJ.pures tU_ok 4 rfl ?_
              obtain ⟨ad62, e62⟩ := (hS.rd' (i := 2) rfl).some' ht62
              refine TJ.sp rfl rfl rfl rfl rfl (fun w2 => SR.idxS tU_ok tI_ok rfl rfl rfl rfl e62 rfl (getI_some ht62).1) ?_
              refine TJ.st hY rfl rfl rfl rfl rfl (fun w2 hY => SR.load rfl rfl (fun w' hx => ldE tU_ok tI_ok rfl rfl rfl (CA.ext (((hV w2 hY).rd' (i := 2) rfl).at_ e62 ht62) hx) rfl)) ?_
              refine TJ.pures tU_ok 1 rfl ?_
              refine TJ.st hY rfl rfl rfl rfl rfl (fun w2 hY => SR.load rfl rfl (fun w' hx => ldE tU_ok tI_ok rfl rfl rfl (CA.ext ((hV w2 hY).cellsR (i := 4) rfl) hx) rfl)) ?_
              refine TJ.br ?_
              refine TJ.alt ?_ ?_
              · skip
                refine TJ.ef hY rfl rfl rfl rfl rfl (Ef.lit tU_ok tI_ok hS (C := cSpot) rfl rfl rfl rfl rfl rfl ([] : List Spot) rfl rfl rfl rfl) ?_
                rintro _ w1 hY ⟨A74, rfl, hS⟩
                refine TJ.br ?_
                refine TJ.alt ?_ ?_
                · skip
                  have hO := hS
                  refine TJ.ew rfl rfl rfl rfl rfl (Ew.append tU_ok tI_ok (C := cSpot) (xs := ([] : List Spot)) (ys := a1) (hS.inn [4]) (i := 5) rfl rfl rfl rfl rfl rfl rfl rfl rfl rfl rfl rfl rfl (hS.rd' (i := 1) rfl) (chk_some hu64)) (by rintro _ w1 ⟨A75, c76, rfl, hS⟩; exact hY.wr (hO.inY [4] 4 rfl rfl) hS.chg) ?_
                  rintro _ w1 hY ⟨A75, c76, rfl, hS⟩
                  have hS : St w (fpU [box ba0 ([.pointer (some pa0_0), .int .i64 a0.size, .slice Aa0_0 a0.best.length ca0_0, .int .i64 a0.least]) 68, rowC cSpot Aa0_0 ca0_0 34 a0.best]) w1 [box ba0 ([.pointer (some pa0_0), .int .i64 y20, .slice A22 y21.length c23, .int .i64 y24]) 68, box b18 ((carr 10 (carr 10 cb)).enc y17) 70, rowC cSpot A22 c23 34 y21, rowC cSpot A41 c42 34 y40, box b35 ((carr 10 (carr 10 cb)).enc y43) 70, rowC cSpot A75 c76 34 (([] : List Spot) ++ a1)] [roP pa0_0 (cPasture.enc a0.p), roC cSpot Aa1 ca1 a1, roC cSpot Aa2 ca2 a2, roC cSpot (cutA Aa2 ca2 ((IntKind.i64.wrap (y19 + 1)).toNat) cSpot.sz) (ca2 - ((IntKind.i64.wrap (y19 + 1)).toNat)) ((a2.drop ((IntKind.i64.wrap (y19 + 1)).toNat)).take (a2.length - ((IntKind.i64.wrap (y19 + 1)).toNat)))] := hO.out [4] hS
                  refine TJ.ef hY rfl rfl rfl rfl rfl (Ef.lit tU_ok tI_ok hS (C := cSpot) rfl rfl rfl rfl rfl rfl ([t62] : List Spot) rfl rfl rfl rfl) ?_
                  rintro _ w1 hY ⟨A77, rfl, hS⟩
                  have hO := hS
                  refine TJ.ew rfl rfl rfl rfl rfl (Ew.append tU_ok tI_ok (C := cSpot) (xs := (([] : List Spot) ++ a1)) (ys := ([t62] : List Spot)) (hS.inn [4]) (i := 5) rfl rfl rfl rfl rfl rfl rfl rfl rfl rfl rfl rfl rfl (hS.rd (i := 6) rfl) (chk_some hu68)) (by rintro _ w1 ⟨A78, c79, rfl, hS⟩; exact hY.wr (hO.inY [4] 4 rfl rfl) hS.chg) ?_
                  rintro _ w1 hY ⟨A78, c79, rfl, hS⟩
                  have hS : St w (fpU [box ba0 ([.pointer (some pa0_0), .int .i64 a0.size, .slice Aa0_0 a0.best.length ca0_0, .int .i64 a0.least]) 68, rowC cSpot Aa0_0 ca0_0 34 a0.best]) w1 [box ba0 ([.pointer (some pa0_0), .int .i64 y20, .slice A22 y21.length c23, .int .i64 y24]) 68, box b18 ((carr 10 (carr 10 cb)).enc y17) 70, rowC cSpot A22 c23 34 y21, rowC cSpot A41 c42 34 y40, box b35 ((carr 10 (carr 10 cb)).enc y43) 70, rowC cSpot A78 c79 34 ((([] : List Spot) ++ a1) ++ ([t62] : List Spot)), rowC cSpot A77 (([t62] : List Spot).length) 34 ([t62] : List Spot)] [roP pa0_0 (cPasture.enc a0.p), roC cSpot Aa1 ca1 a1, roC cSpot Aa2 ca2 a2, roC cSpot (cutA Aa2 ca2 ((IntKind.i64.wrap (y19 + 1)).toNat) cSpot.sz) (ca2 - ((IntKind.i64.wrap (y19 + 1)).toNat)) ((a2.drop ((IntKind.i64.wrap (y19 + 1)).toNat)).take (a2.length - ((IntKind.i64.wrap (y19 + 1)).toNat)))] := hO.out [4] hS
                  refine TJ.callFw rfl rfl rfl rfl rfl rfl rfl hb32 rfl (ih _ A22 c23 (⟨a0.p, y20, y21, y24⟩ : l03Search) pa0_0 ba0 A78 c79 ((([] : List Spot) ++ a1) ++ ([t62] : List Spot)) A41 c42 y40 y43 ((((hS.subs [0, 2] [0] [5, 3] rfl).rToRo (i := 1) rfl).rToRo (i := 2) rfl).pick [0, 1] [0, 1, 2] rfl) _ ht71) (by rintro _ w1 ⟨A80, c81, rfl, hs⟩; exact hY.wr (hS.inP [4] 4 rfl rfl [0, 2] rfl) hs.chg) ?_
                  rintro _ w1 hY ⟨A80, c81, rfl, hs⟩
                  replace hS := hS.back' [0] [2] rfl rfl [box ba0 ([.pointer (some pa0_0), .int .i64 t71.size, .slice A80 t71.best.length c81, .int .i64 t71.least]) 68] [rowC cSpot A80 c81 34 t71.best] [] hs ⟨fun _ => Iff.rfl, trivial⟩ (fun _ h => by cases h) (.inr rfl)
                  have hS : St w (fpU [box ba0 ([.pointer (some pa0_0), .int .i64 a0.size, .slice Aa0_0 a0.best.length ca0_0, .int .i64 a0.least]) 68, rowC cSpot Aa0_0 ca0_0 34 a0.best]) w1 [box ba0 ([.pointer (some pa0_0), .int .i64 t71.size, .slice A80 t71.best.length c81, .int .i64 t71.least]) 68, box b18 ((carr 10 (carr 10 cb)).enc y17) 70, gone, rowC cSpot A41 c42 34 y40, box b35 ((carr 10 (carr 10 cb)).enc y43) 70, rowC cSpot A78 c79 34 ((([] : List Spot) ++ a1) ++ ([t62] : List Spot)), rowC cSpot A77 (([t62] : List Spot).length) 34 ([t62] : List Spot), rowC cSpot A80 c81 34 t71.best] [roP pa0_0 (cPasture.enc a0.p), roC cSpot Aa1 ca1 a1, roC cSpot Aa2 ca2 a2, roC cSpot (cutA Aa2 ca2 ((IntKind.i64.wrap (y19 + 1)).toNat) cSpot.sz) (ca2 - ((IntKind.i64.wrap (y19 + 1)).toNat)) ((a2.drop ((IntKind.i64.wrap (y19 + 1)).toNat)).take (a2.length - ((IntKind.i64.wrap (y19 + 1)).toNat)))] := hS
                  have hS : St w (fpU [box ba0 ([.pointer (some pa0_0), .int .i64 a0.size, .slice Aa0_0 a0.best.length ca0_0, .int .i64 a0.least]) 68, rowC cSpot Aa0_0 ca0_0 34 a0.best]) w1 [box ba0 ([.pointer (some pa0_0), .int .i64 t71.size, .slice A80 t71.best.length c81, .int .i64 t71.least]) 68, box b18 ((carr 10 (carr 10 cb)).enc y17) 70, gone, rowC cSpot A41 c42 34 y40, box b35 ((carr 10 (carr 10 cb)).enc y43) 70, rowC cSpot A78 c79 34 ((([] : List Spot) ++ a1) ++ ([t62] : List Spot)), rowC cSpot A77 (([t62] : List Spot).length) 34 ([t62] : List Spot), rowC cSpot A80 c81 34 t71.best] [roP pa0_0 (cPasture.enc a0.p), roC cSpot Aa1 ca1 a1, roC cSpot Aa2 ca2 a2, roC cSpot (cutA Aa2 ca2 ((IntKind.i64.wrap (y19 + 1)).toNat) cSpot.sz) (ca2 - ((IntKind.i64.wrap (y19 + 1)).toNat)) ((a2.drop ((IntKind.i64.wrap (y19 + 1)).toNat)).take (a2.length - ((IntKind.i64.wrap (y19 + 1)).toNat)))] := hS
                  refine TJ.nil ?_
                  exact EJ.meet (F' := [(0, .pointer (some ⟨ba0, 0, none⟩)), (1, .slice Aa1 a1.length ca1), (2, .slice Aa2 a2.length ca2), (7, .pointer (some ⟨b18, 0, none⟩)), (11, .int .i64 y19)]) ⟨rfl, rfl, rfl, rfl, rfl, trivial⟩ ⟨A77, A78, c79, A80, c81, rfl, hS.pick [0, 1, 2, 3, 4, 5, 6, 7] [0, 1, 2, 3] rfl⟩
                refine TJ.alt ?_ ?_
                · skip
                  refine TJ.ef hY rfl rfl rfl rfl rfl (Ef.lit tU_ok tI_ok hS (C := cSpot) rfl rfl rfl rfl rfl rfl ([t62] : List Spot) rfl rfl rfl rfl) ?_
                  rintro _ w1 hY ⟨A82, rfl, hS⟩
                  have hO := hS
                  refine TJ.ew rfl rfl rfl rfl rfl (Ew.append tU_ok tI_ok (C := cSpot) (xs := ([] : List Spot)) (ys := a1) (hS.inn [4]) (i := 5) rfl rfl rfl rfl rfl rfl rfl rfl rfl rfl rfl rfl rfl (hS.rd' (i := 1) rfl) (chk_some hu64)) (by rintro _ w1 ⟨A83, c84, rfl, hS⟩; exact hY.wr (hO.inY [4] 4 rfl rfl) hS.chg) ?_
                  rintro _ w1 hY ⟨A83, c84, rfl, hS⟩
                  have hS : St w (fpU [box ba0 ([.pointer (some pa0_0), .int .i64 a0.size, .slice Aa0_0 a0.best.length ca0_0, .int .i64 a0.least]) 68, rowC cSpot Aa0_0 ca0_0 34 a0.best]) w1 [box ba0 ([.pointer (some pa0_0), .int .i64 y20, .slice A22 y21.length c23, .int .i64 y24]) 68, box b18 ((carr 10 (carr 10 cb)).enc y17) 70, rowC cSpot A22 c23 34 y21, rowC cSpot A41 c42 34 y40, box b35 ((carr 10 (carr 10 cb)).enc y43) 70, rowC cSpot A83 c84 34 (([] : List Spot) ++ a1), rowC cSpot A82 (([t62] : List Spot).length) 34 ([t62] : List Spot)] [roP pa0_0 (cPasture.enc a0.p), roC cSpot Aa1 ca1 a1, roC cSpot Aa2 ca2 a2, roC cSpot (cutA Aa2 ca2 ((IntKind.i64.wrap (y19 + 1)).toNat) cSpot.sz) (ca2 - ((IntKind.i64.wrap (y19 + 1)).toNat)) ((a2.drop ((IntKind.i64.wrap (y19 + 1)).toNat)).take (a2.length - ((IntKind.i64.wrap (y19 + 1)).toNat)))] := hO.out [4] hS
                  have hO := hS
                  refine TJ.ew rfl rfl rfl rfl rfl (Ew.append tU_ok tI_ok (C := cSpot) (xs := (([] : List Spot) ++ a1)) (ys := ([t62] : List Spot)) (hS.inn [4]) (i := 5) rfl rfl rfl rfl rfl rfl rfl rfl rfl rfl rfl rfl rfl (hS.rd (i := 6) rfl) (chk_some hu68)) (by rintro _ w1 ⟨A85, c86, rfl, hS⟩; exact hY.wr (hO.inY [4] 4 rfl rfl) hS.chg) ?_
                  rintro _ w1 hY ⟨A85, c86, rfl, hS⟩
                  have hS : St w (fpU [box ba0 ([.pointer (some pa0_0), .int .i64 a0.size, .slice Aa0_0 a0.best.length ca0_0, .int .i64 a0.least]) 68, rowC cSpot Aa0_0 ca0_0 34 a0.best]) w1 [box ba0 ([.pointer (some pa0_0), .int .i64 y20, .slice A22 y21.length c23, .int .i64 y24]) 68, box b18 ((carr 10 (carr 10 cb)).enc y17) 70, rowC cSpot A22 c23 34 y21, rowC cSpot A41 c42 34 y40, box b35 ((carr 10 (carr 10 cb)).enc y43) 70, rowC cSpot A85 c86 34 ((([] : List Spot) ++ a1) ++ ([t62] : List Spot)), rowC cSpot A82 (([t62] : List Spot).length) 34 ([t62] : List Spot)] [roP pa0_0 (cPasture.enc a0.p), roC cSpot Aa1 ca1 a1, roC cSpot Aa2 ca2 a2, roC cSpot (cutA Aa2 ca2 ((IntKind.i64.wrap (y19 + 1)).toNat) cSpot.sz) (ca2 - ((IntKind.i64.wrap (y19 + 1)).toNat)) ((a2.drop ((IntKind.i64.wrap (y19 + 1)).toNat)).take (a2.length - ((IntKind.i64.wrap (y19 + 1)).toNat)))] := hO.out [4] hS
                  refine TJ.callFw rfl rfl rfl rfl rfl rfl rfl hb32 rfl (ih _ A22 c23 (⟨a0.p, y20, y21, y24⟩ : l03Search) pa0_0 ba0 A85 c86 ((([] : List Spot) ++ a1) ++ ([t62] : List Spot)) A41 c42 y40 y43 ((((hS.subs [0, 2] [0] [5, 3] rfl).rToRo (i := 1) rfl).rToRo (i := 2) rfl).pick [0, 1] [0, 1, 2] rfl) _ ht71) (by rintro _ w1 ⟨A87, c88, rfl, hs⟩; exact hY.wr (hS.inP [4] 4 rfl rfl [0, 2] rfl) hs.chg) ?_
                  rintro _ w1 hY ⟨A87, c88, rfl, hs⟩
                  replace hS := hS.back' [0] [2] rfl rfl [box ba0 ([.pointer (some pa0_0), .int .i64 t71.size, .slice A87 t71.best.length c88, .int .i64 t71.least]) 68] [rowC cSpot A87 c88 34 t71.best] [] hs ⟨fun _ => Iff.rfl, trivial⟩ (fun _ h => by cases h) (.inr rfl)
                  have hS : St w (fpU [box ba0 ([.pointer (some pa0_0), .int .i64 a0.size, .slice Aa0_0 a0.best.length ca0_0, .int .i64 a0.least]) 68, rowC cSpot Aa0_0 ca0_0 34 a0.best]) w1 [box ba0 ([.pointer (some pa0_0), .int .i64 t71.size, .slice A87 t71.best.length c88, .int .i64 t71.least]) 68, box b18 ((carr 10 (carr 10 cb)).enc y17) 70, gone, rowC cSpot A41 c42 34 y40, box b35 ((carr 10 (carr 10 cb)).enc y43) 70, rowC cSpot A85 c86 34 ((([] : List Spot) ++ a1) ++ ([t62] : List Spot)), rowC cSpot A82 (([t62] : List Spot).length) 34 ([t62] : List Spot), rowC cSpot A87 c88 34 t71.best] [roP pa0_0 (cPasture.enc a0.p), roC cSpot Aa1 ca1 a1, roC cSpot Aa2 ca2 a2, roC cSpot (cutA Aa2 ca2 ((IntKind.i64.wrap (y19 + 1)).toNat) cSpot.sz) (ca2 - ((IntKind.i64.wrap (y19 + 1)).toNat)) ((a2.drop ((IntKind.i64.wrap (y19 + 1)).toNat)).take (a2.length - ((IntKind.i64.wrap (y19 + 1)).toNat)))] := hS
                  have hS : St w (fpU [box ba0 ([.pointer (some pa0_0), .int .i64 a0.size, .slice Aa0_0 a0.best.length ca0_0, .int .i64 a0.least]) 68, rowC cSpot Aa0_0 ca0_0 34 a0.best]) w1 [box ba0 ([.pointer (some pa0_0), .int .i64 t71.size, .slice A87 t71.best.length c88, .int .i64 t71.least]) 68, box b18 ((carr 10 (carr 10 cb)).enc y17) 70, gone, rowC cSpot A41 c42 34 y40, box b35 ((carr 10 (carr 10 cb)).enc y43) 70, rowC cSpot A85 c86 34 ((([] : List Spot) ++ a1) ++ ([t62] : List Spot)), rowC cSpot A82 (([t62] : List Spot).length) 34 ([t62] : List Spot), rowC cSpot A87 c88 34 t71.best] [roP pa0_0 (cPasture.enc a0.p), roC cSpot Aa1 ca1 a1, roC cSpot Aa2 ca2 a2, roC cSpot (cutA Aa2 ca2 ((IntKind.i64.wrap (y19 + 1)).toNat) cSpot.sz) (ca2 - ((IntKind.i64.wrap (y19 + 1)).toNat)) ((a2.drop ((IntKind.i64.wrap (y19 + 1)).toNat)).take (a2.length - ((IntKind.i64.wrap (y19 + 1)).toNat)))] := hS
                  refine TJ.nil ?_
                  exact EJ.meet (F' := [(0, .pointer (some ⟨ba0, 0, none⟩)), (1, .slice Aa1 a1.length ca1), (2, .slice Aa2 a2.length ca2), (7, .pointer (some ⟨b18, 0, none⟩)), (11, .int .i64 y19)]) ⟨rfl, rfl, rfl, rfl, rfl, trivial⟩ ⟨A82, A85, c86, A87, c88, rfl, hS.pick [0, 1, 2, 3, 4, 5, 6, 7] [0, 1, 2, 3] rfl⟩
                exact TJ.stop
              refine TJ.alt ?_ ?_
              · skip
                refine TJ.ef hY rfl rfl rfl rfl rfl (Ef.lit tU_ok tI_ok hS (C := cSpot) rfl rfl rfl rfl rfl rfl ([t62] : List Spot) rfl rfl rfl rfl) ?_
                rintro _ w1 hY ⟨A89, rfl, hS⟩
                refine TJ.ef hY rfl rfl rfl rfl rfl (Ef.lit tU_ok tI_ok hS (C := cSpot) rfl rfl rfl rfl rfl rfl ([] : List Spot) rfl rfl rfl rfl) ?_
                rintro _ w1 hY ⟨A90, rfl, hS⟩
                have hO := hS
                refine TJ.ew rfl rfl rfl rfl rfl (Ew.append tU_ok tI_ok (C := cSpot) (xs := ([] : List Spot)) (ys := a1) (hS.inn [4]) (i := 6) rfl rfl rfl rfl rfl rfl rfl rfl rfl rfl rfl rfl rfl (hS.rd' (i := 1) rfl) (chk_some hu64)) (by rintro _ w1 ⟨A91, c92, rfl, hS⟩; exact hY.wr (hO.inY [4] 4 rfl rfl) hS.chg) ?_
                rintro _ w1 hY ⟨A91, c92, rfl, hS⟩
                have hS : St w (fpU [box ba0 ([.pointer (some pa0_0), .int .i64 a0.size, .slice Aa0_0 a0.best.length ca0_0, .int .i64 a0.least]) 68, rowC cSpot Aa0_0 ca0_0 34 a0.best]) w1 [box ba0 ([.pointer (some pa0_0), .int .i64 y20, .slice A22 y21.length c23, .int .i64 y24]) 68, box b18 ((carr 10 (carr 10 cb)).enc y17) 70, rowC cSpot A22 c23 34 y21, rowC cSpot A41 c42 34 y40, box b35 ((carr 10 (carr 10 cb)).enc y43) 70, rowC cSpot A89 (([t62] : List Spot).length) 34 ([t62] : List Spot), rowC cSpot A91 c92 34 (([] : List Spot) ++ a1)] [roP pa0_0 (cPasture.enc a0.p), roC cSpot Aa1 ca1 a1, roC cSpot Aa2 ca2 a2, roC cSpot (cutA Aa2 ca2 ((IntKind.i64.wrap (y19 + 1)).toNat) cSpot.sz) (ca2 - ((IntKind.i64.wrap (y19 + 1)).toNat)) ((a2.drop ((IntKind.i64.wrap (y19 + 1)).toNat)).take (a2.length - ((IntKind.i64.wrap (y19 + 1)).toNat)))] := hO.out [4] hS
                have hO := hS
                refine TJ.ew rfl rfl rfl rfl rfl (Ew.append tU_ok tI_ok (C := cSpot) (xs := (([] : List Spot) ++ a1)) (ys := ([t62] : List Spot)) (hS.inn [4]) (i := 6) rfl rfl rfl rfl rfl rfl rfl rfl rfl rfl rfl rfl rfl (hS.rd (i := 5) rfl) (chk_some hu68)) (by rintro _ w1 ⟨A93, c94, rfl, hS⟩; exact hY.wr (hO.inY [4] 4 rfl rfl) hS.chg) ?_
                rintro _ w1 hY ⟨A93, c94, rfl, hS⟩
                have hS : St w (fpU [box ba0 ([.pointer (some pa0_0), .int .i64 a0.size, .slice Aa0_0 a0.best.length ca0_0, .int .i64 a0.least]) 68, rowC cSpot Aa0_0 ca0_0 34 a0.best]) w1 [box ba0 ([.pointer (some pa0_0), .int .i64 y20, .slice A22 y21.length c23, .int .i64 y24]) 68, box b18 ((carr 10 (carr 10 cb)).enc y17) 70, rowC cSpot A22 c23 34 y21, rowC cSpot A41 c42 34 y40, box b35 ((carr 10 (carr 10 cb)).enc y43) 70, rowC cSpot A89 (([t62] : List Spot).length) 34 ([t62] : List Spot), rowC cSpot A93 c94 34 ((([] : List Spot) ++ a1) ++ ([t62] : List Spot))] [roP pa0_0 (cPasture.enc a0.p), roC cSpot Aa1 ca1 a1, roC cSpot Aa2 ca2 a2, roC cSpot (cutA Aa2 ca2 ((IntKind.i64.wrap (y19 + 1)).toNat) cSpot.sz) (ca2 - ((IntKind.i64.wrap (y19 + 1)).toNat)) ((a2.drop ((IntKind.i64.wrap (y19 + 1)).toNat)).take (a2.length - ((IntKind.i64.wrap (y19 + 1)).toNat)))] := hO.out [4] hS
                refine TJ.callFw rfl rfl rfl rfl rfl rfl rfl hb32 rfl (ih _ A22 c23 (⟨a0.p, y20, y21, y24⟩ : l03Search) pa0_0 ba0 A93 c94 ((([] : List Spot) ++ a1) ++ ([t62] : List Spot)) A41 c42 y40 y43 ((((hS.subs [0, 2] [0] [6, 3] rfl).rToRo (i := 1) rfl).rToRo (i := 2) rfl).pick [0, 1] [0, 1, 2] rfl) _ ht71) (by rintro _ w1 ⟨A95, c96, rfl, hs⟩; exact hY.wr (hS.inP [4] 4 rfl rfl [0, 2] rfl) hs.chg) ?_
                rintro _ w1 hY ⟨A95, c96, rfl, hs⟩
                replace hS := hS.back' [0] [2] rfl rfl [box ba0 ([.pointer (some pa0_0), .int .i64 t71.size, .slice A95 t71.best.length c96, .int .i64 t71.least]) 68] [rowC cSpot A95 c96 34 t71.best] [] hs ⟨fun _ => Iff.rfl, trivial⟩ (fun _ h => by cases h) (.inr rfl)
                have hS : St w (fpU [box ba0 ([.pointer (some pa0_0), .int .i64 a0.size, .slice Aa0_0 a0.best.length ca0_0, .int .i64 a0.least]) 68, rowC cSpot Aa0_0 ca0_0 34 a0.best]) w1 [box ba0 ([.pointer (some pa0_0), .int .i64 t71.size, .slice A95 t71.best.length c96, .int .i64 t71.least]) 68, box b18 ((carr 10 (carr 10 cb)).enc y17) 70, gone, rowC cSpot A41 c42 34 y40, box b35 ((carr 10 (carr 10 cb)).enc y43) 70, rowC cSpot A89 (([t62] : List Spot).length) 34 ([t62] : List Spot), rowC cSpot A93 c94 34 ((([] : List Spot) ++ a1) ++ ([t62] : List Spot)), rowC cSpot A95 c96 34 t71.best] [roP pa0_0 (cPasture.enc a0.p), roC cSpot Aa1 ca1 a1, roC cSpot Aa2 ca2 a2, roC cSpot (cutA Aa2 ca2 ((IntKind.i64.wrap (y19 + 1)).toNat) cSpot.sz) (ca2 - ((IntKind.i64.wrap (y19 + 1)).toNat)) ((a2.drop ((IntKind.i64.wrap (y19 + 1)).toNat)).take (a2.length - ((IntKind.i64.wrap (y19 + 1)).toNat)))] := hS
                have hS : St w (fpU [box ba0 ([.pointer (some pa0_0), .int .i64 a0.size, .slice Aa0_0 a0.best.length ca0_0, .int .i64 a0.least]) 68, rowC cSpot Aa0_0 ca0_0 34 a0.best]) w1 [box ba0 ([.pointer (some pa0_0), .int .i64 t71.size, .slice A95 t71.best.length c96, .int .i64 t71.least]) 68, box b18 ((carr 10 (carr 10 cb)).enc y17) 70, gone, rowC cSpot A41 c42 34 y40, box b35 ((carr 10 (carr 10 cb)).enc y43) 70, rowC cSpot A89 (([t62] : List Spot).length) 34 ([t62] : List Spot), rowC cSpot A93 c94 34 ((([] : List Spot) ++ a1) ++ ([t62] : List Spot)), rowC cSpot A95 c96 34 t71.best] [roP pa0_0 (cPasture.enc a0.p), roC cSpot Aa1 ca1 a1, roC cSpot Aa2 ca2 a2, roC cSpot (cutA Aa2 ca2 ((IntKind.i64.wrap (y19 + 1)).toNat) cSpot.sz) (ca2 - ((IntKind.i64.wrap (y19 + 1)).toNat)) ((a2.drop ((IntKind.i64.wrap (y19 + 1)).toNat)).take (a2.length - ((IntKind.i64.wrap (y19 + 1)).toNat)))] := hS
                refine TJ.nil ?_
                exact EJ.meet (F' := [(0, .pointer (some ⟨ba0, 0, none⟩)), (1, .slice Aa1 a1.length ca1), (2, .slice Aa2 a2.length ca2), (7, .pointer (some ⟨b18, 0, none⟩)), (11, .int .i64 y19)]) ⟨rfl, rfl, rfl, rfl, rfl, trivial⟩ ⟨A89, A93, c94, A95, c96, rfl, hS.pick [0, 1, 2, 3, 4, 6, 5, 7] [0, 1, 2, 3] rfl⟩
              exact TJ.stop
            · rintro F w1 ⟨A67, A69, c70, A72, c73, rfl, hS⟩
              refine EJ.blk (?_)
              exact EJ.meet (F' := [(0, .pointer (some ⟨ba0, 0, none⟩)), (1, .slice Aa1 a1.length ca1), (2, .slice Aa2 a2.length ca2), (7, .pointer (some ⟨b18, 0, none⟩)), (11, .int .i64 y19)]) ⟨rfl, rfl, rfl, rfl, rfl, trivial⟩ ⟨t71.best, t71.size, t71.least, A72, c73, H, rfl, hS.pick [0, 1, 7] [0, 1, 2] rfl⟩
        · rintro F w1 ⟨y25, y28, y29, A26, c27, he, rfl, hS⟩
          obtain rfl := Option.some.inj he
          have H := K2291
          refine CJ.region ?_
          refine OJ.pures tU_ok 3 rfl ?_
          refine OJ.nil ?_
          exact EJ.round k (F' := [(0, .pointer (some ⟨ba0, 0, none⟩)), (1, .slice Aa1 a1.length ca1), (2, .slice Aa2 a2.length ca2), (7, .pointer (some ⟨b18, 0, none⟩)), (11, .int .i64 (IntKind.i64.wrap (y19 + 1)))]) ⟨rfl, rfl, rfl, rfl, rfl, trivial⟩ (Nat.lt_succ_self _) ⟨y17, (IntKind.i64.wrap (y19 + 1)), y28, y25, y29, b18, A26, c27, rfl, hS.pick [0, 1, 2] [0, 1, 2] rfl, H⟩
      · replace H := pif_f (of_decide_eq_false hb) H
        refine CJ.exit (EJ.skE (EJ.skE (EJ.hit (?_))))
        exact EJ.meet (F' := []) trivial ⟨y21, y20, y24, A22, c23, H, rfl, hS.pick [0, 2] [0, 1, 2] rfl⟩
  rintro F w1 ⟨y12, y15, y16, A13, c14, he, rfl, hS⟩
  obtain rfl := Option.some.inj he
  have H := K2284
  obtain rfl := Option.some.inj H
  exact EJ.fin' rfl .nil ⟨A13, c14, rfl, hS.pick [0, 1] [] rfl⟩
end Go.Proofs.YtegibnmfiogebaaGreat
