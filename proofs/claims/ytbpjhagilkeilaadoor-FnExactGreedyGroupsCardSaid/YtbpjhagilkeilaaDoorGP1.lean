/-
  What the functions come to.
-/
import Derived.Test.YtbpjhagilkeilaaDoorGP0
namespace Go.Proofs.YtbpjhagilkeilaaDoor
open G
set_option linter.unusedVariables false
set_option linter.unusedSimpArgs false
set_option maxRecDepth 100000
set_option maxHeartbeats 4000000
def impl_GreedyGroups.l2 (a0 : Herd) (y14 : List Int) (t17 : Int) : Nat → Int → Option Int
  | 0, _ => none
  | k + 1, y20 => (getI a0.Foes t17).bind fun t21 => (impl_listed.f k t21).bind fun t22 => (slices_ContainsFunc_int64_int64.f k t22 (impl_GreedyGroups_1.f y14 y20)).bind fun t25 => if t25 = true then (impl_GreedyGroups.l2 a0 y14 t17 k (IntKind.i64.wrap (y20 + 1))) else (some y20)
def impl_GreedyGroups.l1 (a0 : Herd) (a1 : List Int) : Nat → (List Int) → Int → Option (List Int)
  | 0, _, _ => none
  | k + 1, y14, y15 => if y15 < (a1.length : Int) then (((getI a1 y15).bind fun t17 => (impl_GreedyGroups.l2 a0 y14 t17 k 0).bind fun y19 => (getI y14 t17).bind fun t26 => some (y14.set t17.toNat y19)).bind fun y16 => impl_GreedyGroups.l1 a0 a1 k y16 (IntKind.i64.wrap (y15 + 1))) else (some y14)
def impl_GreedyGroups.f (k : Nat) (a0 : Herd) (a1 : List Int) : Option (List Int × Int) := (impl_ValidHerd.f k a0).bind fun t2 => if (!t2) = true then (some ([], 1)) else (((impl_size_int64.f a1).bind fun t4 => (impl_Herd_many.f a0).bind fun t5 => if t4 ≠ t5 then (some true) else ((impl_isEach.f a1).bind fun t6 => if (!t6) = true then (some true) else ((impl_herdCode.f k a0 a1).bind fun t7 => some (decide (t7 ≠ 0))))).bind fun y3 => if y3 = true then (some ([], 4)) else ((slices_Repeat_int64_int64.f k ([(-1)] : List Int) (a1.length : Int)).bind fun t9 => (impl_GreedyGroups.l1 a0 a1 k t9 0).bind fun y13 => some (y13, 0)))
theorem impl_GreedyGroups.c (k : Nat) (w : World) (Aa0_0 : Option Addr) (ca0_0 : Nat) (Aa0_1 : Option Addr) (ca0_1 : Nat) (Aa0_2 : Option Addr) (ca0_2 : Nat) (a0 : Herd) (hr0_0 : Rd G.cs w Aa0_0 a0.Names) (hc0_0 : a0.Names.length ≤ ca0_0) (hr0_1 : Rd (ci .i16) w Aa0_1 a0.Eats) (hc0_1 : a0.Eats.length ≤ ca0_1) (hr0_2 : Rd (ci .u16) w Aa0_2 a0.Foes) (hc0_2 : a0.Foes.length ≤ ca0_2) (Aa1 : Option Addr) (ca1 : Nat) (a1 : List Int) (hr1 : Rd (ci .i64) w Aa1 a1) (hc1 : a1.length ≤ ca1) (r : List Int × Int) (H : impl_GreedyGroups.f k a0 a1 = some r) :
    CV Tryd.prog 18 [.agg [.slice Aa0_0 a0.Names.length ca0_0, .slice Aa0_1 a0.Eats.length ca0_1, .slice Aa0_2 a0.Foes.length ca0_2].toArray, .slice Aa1 a1.length ca1].toArray w fun v w' => ∃ (A0 : Option Addr) (c0 : Nat), v = .tuple #[.slice A0 r.1.length c0, .int .i64 r.2] ∧ St w no w' [rowC (ci .i64) A0 c0 2 r.1] [] := by
  have hS := (((((St.init w no).param G.cs Aa0_0 ca0_0 a0.Names hr0_0 hc0_0).param (ci .i16) Aa0_1 ca0_1 a0.Eats hr0_1 hc0_1).param (ci .u16) Aa0_2 ca0_2 a0.Foes hr0_2 hc0_2).param (ci .i64) Aa1 ca1 a1 hr1 hc1)
  unfold impl_GreedyGroups.f at H
  refine CV.body Tryd.func18 rfl Tryd.ntmps18 rfl ?_
  refine CJ.seq ?_
  refine CJ.region ?_
  refine OJ.ef rfl rfl rfl (Ef.box hS rfl rfl ([.slice Aa0_0 a0.Names.length ca0_0, .slice Aa0_1 a0.Eats.length ca0_1, .slice Aa0_2 a0.Foes.length ca0_2]) rfl) ?_
  rintro _ w1 ⟨b1, rfl, hS⟩
  refine OJ.pures tU_ok 2 rfl ?_
  refine OJ.nil (EJ.next ?_)
  refine CJ.seq ?_
  refine CJ.seq ?_
  refine CJ.region ?_
  refine OJ.st rfl rfl rfl (SR.load rfl rfl (fun w' hx => ldN tU_ok tI_ok rfl rfl rfl (CA.ext (hS.cells (i := 0) rfl) hx) (ds := [.slice Aa0_0 a0.Names.length ca0_0, .slice Aa0_1 a0.Eats.length ca0_1, .slice Aa0_2 a0.Foes.length ca0_2]) rfl rfl)) ?_
  obtain ⟨t2, ht2, H⟩ := pbind H
  refine OJ.callF rfl rfl rfl rfl rfl hb51 rfl (impl_ValidHerd.c k _ Aa0_0 ca0_0 Aa0_1 ca0_1 Aa0_2 ca0_2 a0 (hS.rd' (i := 0) rfl) (hS.le' (i := 0) rfl) (hS.rd' (i := 1) rfl) (hS.le' (i := 1) rfl) (hS.rd' (i := 2) rfl) (hS.le' (i := 2) rfl) _ ht2) ?_
  rintro _ w1 ⟨rfl, hs⟩
  replace hS := hS.grow hs
  refine OJ.pures tU_ok 1 rfl ?_
  refine OJ.nil (EJ.next ?_)
  refine CJ.cond rfl (fun hb => ?_) (fun hb => ?_)
  · replace H := pif_t hb H
    refine CJ.seq ?_
    refine CJ.region ?_
    refine OJ.pures tU_ok 2 rfl ?_
    refine OJ.nil (EJ.next ?_)
    refine CJ.ret (EJ.skR (?_))
    replace hS := hS.addNil (ci .i64) 2 none
    obtain rfl := Option.some.inj H
    exact EJ.fin rfl (.tmp rfl (.tmp rfl .nil)) ⟨none, 0, rfl, hS.pick [1] [] rfl⟩
  · replace H := pifb_f hb H
    refine CJ.skip (EJ.next ?_)
    refine CJ.seq ?_
    obtain ⟨j70, H, K70⟩ := pbind H
    refine CJ.cut (fun F w1 => ∃ (y3 : Bool) , (some y3 : Option Bool) = some j70 ∧ F = [(1, .slice Aa1 a1.length ca1), (2, .pointer (some ⟨b1, 0, none⟩)), (28, .bool y3)] ∧ St w no w1 [box b1 ([.slice Aa0_0 a0.Names.length ca0_0, .slice Aa0_1 a0.Eats.length ca0_1, .slice Aa0_2 a0.Foes.length ca0_2]) 29] [roC G.cs Aa0_0 ca0_0 a0.Names, roC (ci .i16) Aa0_1 ca0_1 a0.Eats, roC (ci .u16) Aa0_2 ca0_2 a0.Foes, roC (ci .i64) Aa1 ca1 a1]) ?_ ?_
    · skip
      refine CJ.draw [] [0, 2, 1, 3, 4, 5, 6, 7, 8, 9, 10, 11, 12, 13, 14, 15] mixed (by kernel_rfl) hS fun w1 hS => ?_
      refine DJ.pures tU_ok 1 rfl ?_
      refine DJ.st rfl rfl rfl rfl rfl (SR.load rfl rfl (fun w' hx => ldN tU_ok tI_ok rfl rfl rfl (CA.ext (hS.cells (i := 0) rfl) hx) (ds := [.slice Aa0_0 a0.Names.length ca0_0, .slice Aa0_1 a0.Eats.length ca0_1, .slice Aa0_2 a0.Foes.length ca0_2]) rfl rfl)) ?_
      obtain ⟨t4, ht4, H⟩ := pbind H
      refine DJ.callF rfl rfl rfl rfl rfl rfl rfl hb52 rfl (impl_size_int64.c _ Aa1 ca1 a1 (hS.rd' (i := 3) rfl) (hS.le' (i := 3) rfl) _ ht4) (by rintro v w' ⟨rfl, hs⟩; exact hs) ?_
      rintro _ w1 ⟨rfl, hs⟩
      replace hS := hS.grow hs
      obtain ⟨t5, ht5, H⟩ := pbind H
      refine DJ.callF rfl rfl rfl rfl rfl rfl rfl hb53 rfl (impl_Herd_many.c _ Aa0_0 ca0_0 Aa0_1 ca0_1 Aa0_2 ca0_2 a0 (hS.rd' (i := 0) rfl) (hS.le' (i := 0) rfl) (hS.rd' (i := 1) rfl) (hS.le' (i := 1) rfl) (hS.rd' (i := 2) rfl) (hS.le' (i := 2) rfl) _ ht5) (by rintro v w' ⟨rfl, hs⟩; exact hs) ?_
      rintro _ w1 ⟨rfl, hs⟩
      replace hS := hS.grow hs
      refine DJ.pures tU_ok 2 rfl ?_
      refine DJ.split (t := 18) rfl (fun hb => ?_) (fun hb => ?_)
      · replace H := pif_t (of_decide_eq_true hb) H
        refine DJ.pures tU_ok 10 rfl ?_
        refine DJ.nil ?_
        exact EJ.meet (F' := [(1, .slice Aa1 a1.length ca1), (2, .pointer (some ⟨b1, 0, none⟩)), (28, .bool true)]) ⟨rfl, rfl, rfl, trivial⟩ ⟨true, H, rfl, hS.pick [0] [0, 1, 2, 3] rfl⟩
      · replace H := pif_f (of_decide_eq_false hb) H
        refine DJ.pures tU_ok 1 rfl ?_
        obtain ⟨t6, ht6, H⟩ := pbind H
        refine DJ.callF rfl rfl rfl rfl rfl rfl rfl hb36 rfl (impl_isEach.c _ Aa1 ca1 a1 (hS.rd' (i := 3) rfl) (hS.le' (i := 3) rfl) _ ht6) (by rintro v w' ⟨rfl, hs⟩; exact hs) ?_
        rintro _ w1 ⟨rfl, hs⟩
        replace hS := hS.grow hs
        refine DJ.pures tU_ok 3 rfl ?_
        refine DJ.split (t := 23) rfl (fun hb => ?_) (fun hb => ?_)
        · replace H := pif_t hb H
          refine DJ.pures tU_ok 5 rfl ?_
          refine DJ.nil ?_
          exact EJ.meet (F' := [(1, .slice Aa1 a1.length ca1), (2, .pointer (some ⟨b1, 0, none⟩)), (28, .bool true)]) ⟨rfl, rfl, rfl, trivial⟩ ⟨true, H, rfl, hS.pick [0] [0, 1, 2, 3] rfl⟩
        · replace H := pifb_f hb H
          refine DJ.st rfl rfl rfl rfl rfl (SR.load rfl rfl (fun w' hx => ldN tU_ok tI_ok rfl rfl rfl (CA.ext (hS.cells (i := 0) rfl) hx) (ds := [.slice Aa0_0 a0.Names.length ca0_0, .slice Aa0_1 a0.Eats.length ca0_1, .slice Aa0_2 a0.Foes.length ca0_2]) rfl rfl)) ?_
          refine DJ.pures tU_ok 1 rfl ?_
          obtain ⟨t7, ht7, H⟩ := pbind H
          refine DJ.callF rfl rfl rfl rfl rfl rfl rfl hb34 rfl (impl_herdCode.c k _ Aa0_0 ca0_0 Aa0_1 ca0_1 Aa0_2 ca0_2 a0 (hS.rd' (i := 0) rfl) (hS.le' (i := 0) rfl) (hS.rd' (i := 1) rfl) (hS.le' (i := 1) rfl) (hS.rd' (i := 2) rfl) (hS.le' (i := 2) rfl) Aa1 ca1 a1 (hS.rd' (i := 3) rfl) (hS.le' (i := 3) rfl) _ ht7) (by rintro v w' ⟨rfl, hs⟩; exact hs) ?_
          rintro _ w1 ⟨rfl, hs⟩
          replace hS := hS.grow hs
          refine DJ.pures tU_ok 2 rfl ?_
          refine DJ.nil ?_
          exact EJ.meet (F' := [(1, .slice Aa1 a1.length ca1), (2, .pointer (some ⟨b1, 0, none⟩)), (28, .bool (decide (t7 ≠ 0)))]) ⟨rfl, rfl, rfl, trivial⟩ ⟨(decide (t7 ≠ 0)), H, rfl, hS.pick [0] [0, 1, 2, 3] rfl⟩
    · rintro F w1 ⟨y3, he, rfl, hS⟩
      obtain rfl := Option.some.inj he
      have H := K70
      refine CJ.cond rfl (fun hb => ?_) (fun hb => ?_)
      · replace H := pif_t hb H
        refine CJ.seq ?_
        refine CJ.region ?_
        refine OJ.pures tU_ok 2 rfl ?_
        refine OJ.nil (EJ.next ?_)
        refine CJ.ret (EJ.skR (?_))
        replace hS := hS.addNil (ci .i64) 2 none
        obtain rfl := Option.some.inj H
        exact EJ.fin rfl (.tmp rfl (.tmp rfl .nil)) ⟨none, 0, rfl, hS.pick [1] [] rfl⟩
      · replace H := pifb_f hb H
        refine CJ.skip (EJ.next ?_)
        refine CJ.seq ?_
        refine CJ.region ?_
        refine OJ.ef rfl rfl rfl (Ef.lit tU_ok tI_ok hS (C := (ci .i64)) rfl rfl rfl rfl rfl rfl ([(-1)] : List Int) rfl rfl rfl rfl) ?_
        rintro _ w1 ⟨A8, rfl, hS⟩
        refine OJ.pures tU_ok 2 rfl ?_
        obtain ⟨t9, ht9, H⟩ := pbind H
        refine OJ.callF rfl rfl rfl rfl rfl hb54 rfl (slices_Repeat_int64_int64.c k _ A8 (([(-1)] : List Int).length) ([(-1)] : List Int) (hS.rd (i := 1) rfl) (hS.le (i := 1) rfl) (a1.length : Int) _ ht9) ?_
        rintro _ w1 ⟨A10, c11, rfl, hs⟩
        replace hS := hS.addN hs
        refine OJ.ef rfl rfl rfl (Ef.alloc hS tI_ok rfl rfl ([.slice none 0 0]) rfl) ?_
        rintro _ w1 ⟨b12, rfl, hS⟩
        refine OJ.es rfl rfl (Es.store tI_ok hS (i := 3) (vs := [.slice A10 t9.length c11]) rfl rfl rfl rfl rfl rfl rfl rfl (one1 rfl) (Nat.le_of_ble_eq_true rfl) ([.slice A10 t9.length c11]) rfl) ?_
        intro w1 hS
        refine OJ.nil (EJ.next ?_)
        refine CJ.seq ?_
        refine CJ.seq ?_
        refine CJ.region ?_
        refine OJ.pures tU_ok 3 rfl ?_
        refine OJ.nil (EJ.next ?_)
        obtain ⟨j74, H, K74⟩ := pbind H
        refine CJ.cut1 (fun F w1 => ∃ (y13 : List Int) , (some y13 : Option (List Int)) = some j74 ∧ F = [(6, .pointer (some ⟨b12, 0, none⟩))] ∧ St w no w1 [rowC (ci .i64) A10 c11 2 y13, box b12 ([.slice A10 y13.length c11]) 27] [roC G.cs Aa0_0 ca0_0 a0.Names, roC (ci .i16) Aa0_1 ca0_1 a0.Eats, roC (ci .u16) Aa0_2 ca0_2 a0.Foes, roC (ci .i64) Aa1 ca1 a1]) ?_ ?_
        · skip
          refine CJ.block ?_
          refine CJ.loop (fun k F w1 => ∃ (y14 : List Int) (y15 : Int), F = [(2, .pointer (some ⟨b1, 0, none⟩)), (6, .pointer (some ⟨b12, 0, none⟩)), (33, .slice Aa1 a1.length ca1), (34, .int .i64 (a1.length : Int)), (35, .int .i64 y15)] ∧ St w no w1 [box b1 ([.slice Aa0_0 a0.Names.length ca0_0, .slice Aa0_1 a0.Eats.length ca0_1, .slice Aa0_2 a0.Foes.length ca0_2]) 29, rowC (ci .i64) A10 c11 2 y14, box b12 ([.slice A10 y14.length c11]) 27] [roC G.cs Aa0_0 ca0_0 a0.Names, roC (ci .i16) Aa0_1 ca0_1 a0.Eats, roC (ci .u16) Aa0_2 ca0_2 a0.Foes, roC (ci .i64) Aa1 ca1 a1] ∧ impl_GreedyGroups.l1 a0 a1 k y14 y15 = some j74) k (F' := [(2, .pointer (some ⟨b1, 0, none⟩)), (6, .pointer (some ⟨b12, 0, none⟩)), (33, .slice Aa1 a1.length ca1), (34, .int .i64 (a1.length : Int)), (35, .int .i64 0)]) ⟨rfl, rfl, rfl, rfl, rfl, trivial⟩ ⟨t9, 0, rfl, hS.pick [0, 2, 3] [0, 1, 2, 3] rfl, H⟩ ?_
          rintro k F w1 ⟨y14, y15, rfl, hS, H⟩
          cases k with
          | zero => rw [impl_GreedyGroups.l1] at H; cases H
          | succ k =>
            rw [impl_GreedyGroups.l1] at H
            refine CJ.seq ?_
            refine CJ.region ?_
            refine OJ.pures tU_ok 1 rfl ?_
            refine OJ.nil (EJ.next ?_)
            refine CJ.seq ?_
            refine CJ.cond rfl (fun hb => ?_) (fun hb => ?_)
            · replace H := pif_t (of_decide_eq_true hb) H
              refine CJ.skip (EJ.next ?_)
              obtain ⟨j82, H, K82⟩ := pbind H
              refine CJ.cut (fun F w1 => ∃ (y16 : List Int) , (some y16 : Option (List Int)) = some j82 ∧ F = [(2, .pointer (some ⟨b1, 0, none⟩)), (6, .pointer (some ⟨b12, 0, none⟩)), (33, .slice Aa1 a1.length ca1), (34, .int .i64 (a1.length : Int)), (35, .int .i64 y15)] ∧ St w no w1 [box b1 ([.slice Aa0_0 a0.Names.length ca0_0, .slice Aa0_1 a0.Eats.length ca0_1, .slice Aa0_2 a0.Foes.length ca0_2]) 29, rowC (ci .i64) A10 c11 2 y16, box b12 ([.slice A10 y16.length c11]) 27] [roC G.cs Aa0_0 ca0_0 a0.Names, roC (ci .i16) Aa0_1 ca0_1 a0.Eats, roC (ci .u16) Aa0_2 ca0_2 a0.Foes, roC (ci .i64) Aa1 ca1 a1]) ?_ ?_
              · skip
                refine CJ.block ?_
                refine CJ.seq ?_
                refine CJ.region ?_
                obtain ⟨t17, ht17, H⟩ := pbind H
                obtain ⟨ad17, e17⟩ := (hS.rd' (i := 3) rfl).some' ht17
                refine OJ.st rfl rfl rfl (SR.idxS tU_ok tI_ok rfl rfl rfl rfl e17 rfl (getI_some ht17).1) ?_
                refine OJ.st rfl rfl rfl (SR.load rfl rfl (fun w' hx => ld1 tU_ok rfl rfl (CA.ext ((hS.rd' (i := 3) rfl).at_ e17 ht17) hx) rfl)) ?_
                refine OJ.pures tU_ok 1 rfl ?_
                refine OJ.nil (EJ.next ?_)
                refine CJ.seq ?_
                refine CJ.region ?_
                refine OJ.ef rfl rfl rfl (Ef.alloc hS tI_ok rfl rfl ((ci .i64).enc 0) rfl) ?_
                rintro _ w1 ⟨b18, rfl, hS⟩
                refine OJ.es rfl rfl (Es.store tI_ok hS (i := 3) rfl rfl rfl rfl rfl rfl (vs := (ci .i64).enc 0) rfl rfl (one1 rfl) (Nat.le_of_ble_eq_true rfl) ((ci .i64).enc 0) rfl) ?_
                intro w1 hS
                refine OJ.nil (EJ.next ?_)
                obtain ⟨j84, H, K84⟩ := pbind H
                refine CJ.cut (fun F w1 => ∃ (y19 : Int) , (some y19 : Option Int) = some j84 ∧ F = [(2, .pointer (some ⟨b1, 0, none⟩)), (6, .pointer (some ⟨b12, 0, none⟩)), (8, .int .i64 t17), (9, .pointer (some ⟨b18, 0, none⟩)), (33, .slice Aa1 a1.length ca1), (34, .int .i64 (a1.length : Int)), (35, .int .i64 y15)] ∧ St w no w1 [box b1 ([.slice Aa0_0 a0.Names.length ca0_0, .slice Aa0_1 a0.Eats.length ca0_1, .slice Aa0_2 a0.Foes.length ca0_2]) 29, rowC (ci .i64) A10 c11 2 y14, box b12 ([.slice A10 y14.length c11]) 27, box b18 ((ci .i64).enc y19) 2] [roC G.cs Aa0_0 ca0_0 a0.Names, roC (ci .i16) Aa0_1 ca0_1 a0.Eats, roC (ci .u16) Aa0_2 ca0_2 a0.Foes, roC (ci .i64) Aa1 ca1 a1]) ?_ ?_
                · skip
                  refine CJ.block ?_
                  refine CJ.loop (fun k F w1 => ∃ (y20 : Int), F = [(2, .pointer (some ⟨b1, 0, none⟩)), (6, .pointer (some ⟨b12, 0, none⟩)), (8, .int .i64 t17), (9, .pointer (some ⟨b18, 0, none⟩)), (33, .slice Aa1 a1.length ca1), (34, .int .i64 (a1.length : Int)), (35, .int .i64 y15)] ∧ St w no w1 [box b1 ([.slice Aa0_0 a0.Names.length ca0_0, .slice Aa0_1 a0.Eats.length ca0_1, .slice Aa0_2 a0.Foes.length ca0_2]) 29, rowC (ci .i64) A10 c11 2 y14, box b12 ([.slice A10 y14.length c11]) 27, box b18 ((ci .i64).enc y20) 2] [roC G.cs Aa0_0 ca0_0 a0.Names, roC (ci .i16) Aa0_1 ca0_1 a0.Eats, roC (ci .u16) Aa0_2 ca0_2 a0.Foes, roC (ci .i64) Aa1 ca1 a1] ∧ impl_GreedyGroups.l2 a0 y14 t17 k y20 = some j84) k (F' := [(2, .pointer (some ⟨b1, 0, none⟩)), (6, .pointer (some ⟨b12, 0, none⟩)), (8, .int .i64 t17), (9, .pointer (some ⟨b18, 0, none⟩)), (33, .slice Aa1 a1.length ca1), (34, .int .i64 (a1.length : Int)), (35, .int .i64 y15)]) ⟨rfl, rfl, rfl, rfl, rfl, rfl, rfl, trivial⟩ ⟨0, rfl, hS.pick [0, 1, 2, 3] [0, 1, 2, 3] rfl, H⟩ ?_
                  rintro k F w1 ⟨y20, rfl, hS, H⟩
                  cases k with
                  | zero => rw [impl_GreedyGroups.l2] at H; cases H
                  | succ k =>
                    rw [impl_GreedyGroups.l2] at H
                    refine CJ.seq ?_
                    refine CJ.seq ?_
                    refine CJ.region ?_
                    refine OJ.st rfl rfl rfl (SR.fieldAddr tU_ok tI_ok rfl rfl rfl rfl rfl rfl) ?_
                    refine OJ.st rfl rfl rfl (SR.load rfl rfl (fun w' hx => ld1 tU_ok rfl rfl (CA.ext (CA.sub (hS.cells (i := 0) rfl) 2) hx) rfl)) ?_
                    refine OJ.pures tU_ok 1 rfl ?_
                    obtain ⟨t21, ht21, H⟩ := pbind H
                    obtain ⟨ad21, e21⟩ := (hS.rd' (i := 2) rfl).some' ht21
                    refine OJ.st rfl rfl rfl (SR.idxS tU_ok tI_ok rfl rfl rfl rfl e21 rfl (getI_some ht21).1) ?_
                    refine OJ.st rfl rfl rfl (SR.load rfl rfl (fun w' hx => ld1 tU_ok rfl rfl (CA.ext ((hS.rd' (i := 2) rfl).at_ e21 ht21) hx) rfl)) ?_
                    obtain ⟨t22, ht22, H⟩ := pbind H
                    refine OJ.callF rfl rfl rfl rfl rfl hb56 rfl (impl_listed.c k _ t21 _ ht22) ?_
                    rintro _ w1 ⟨A23, c24, rfl, hs⟩
                    replace hS := hS.addN hs
                    refine OJ.pures tU_ok 1 rfl ?_
                    obtain ⟨t25, ht25, H⟩ := pbind H
                    refine OJ.callF rfl rfl rfl rfl rfl hb55 rfl (slices_ContainsFunc_int64_int64.c k _ A23 c24 t22 (hS.rd (i := 4) rfl) (hS.le (i := 4) rfl) 57 #[] #[.pointer (some ⟨b12, 0, none⟩), .pointer (some ⟨b18, 0, none⟩)] hb57 (impl_GreedyGroups_1.f y14 y20) (fun z0 r h w' hx => CV.cast (impl_GreedyGroups_1.c w' A10 c11 y14 ((hS.rd (i := 1) rfl).ext hx) (hS.le (i := 1) rfl) ⟨b12, 0, none⟩ (CA.ext (hS.cells (i := 2) rfl) hx) ⟨b18, 0, none⟩ y20 (CA.ext (hS.cells (i := 3) rfl) hx)  z0 r h) (by simp)) _ ht25) ?_
                    rintro _ w1 ⟨rfl, hs⟩
                    replace hS := hS.grow hs
                    refine OJ.nil (EJ.next ?_)
                    refine CJ.cond rfl (fun hb => ?_) (fun hb => ?_)
                    · replace H := pif_t hb H
                      refine CJ.skip (EJ.next ?_)
                      refine CJ.block ?_
                      refine CJ.region ?_
                      refine OJ.st rfl rfl rfl (SR.load rfl rfl (fun w' hx => ld1 tU_ok rfl rfl (CA.ext (hS.cells (i := 3) rfl) hx) rfl)) ?_
                      refine OJ.pures tU_ok 1 rfl ?_
                      refine OJ.es rfl rfl (Es.store tI_ok hS (i := 3) rfl rfl rfl rfl rfl rfl (vs := (ci .i64).enc (IntKind.i64.wrap (y20 + 1))) rfl rfl (one1 rfl) (Nat.le_of_ble_eq_true rfl) ((ci .i64).enc (IntKind.i64.wrap (y20 + 1))) rfl) ?_
                      intro w1 hS
                      refine OJ.nil (EJ.blk (?_))
                      exact EJ.round k (F' := [(2, .pointer (some ⟨b1, 0, none⟩)), (6, .pointer (some ⟨b12, 0, none⟩)), (8, .int .i64 t17), (9, .pointer (some ⟨b18, 0, none⟩)), (33, .slice Aa1 a1.length ca1), (34, .int .i64 (a1.length : Int)), (35, .int .i64 y15)]) ⟨rfl, rfl, rfl, rfl, rfl, rfl, rfl, trivial⟩ (Nat.lt_succ_self _) ⟨(IntKind.i64.wrap (y20 + 1)), rfl, hS.pick [0, 1, 2, 3] [0, 1, 2, 3] rfl, H⟩
                    · replace H := pifb_f hb H
                      refine CJ.exit (EJ.skE (EJ.skE (EJ.hit (?_))))
                      exact EJ.meet (F' := [(2, .pointer (some ⟨b1, 0, none⟩)), (6, .pointer (some ⟨b12, 0, none⟩)), (8, .int .i64 t17), (9, .pointer (some ⟨b18, 0, none⟩)), (33, .slice Aa1 a1.length ca1), (34, .int .i64 (a1.length : Int)), (35, .int .i64 y15)]) ⟨rfl, rfl, rfl, rfl, rfl, rfl, rfl, trivial⟩ ⟨y20, H, rfl, hS.pick [0, 1, 2, 3] [0, 1, 2, 3] rfl⟩
                · rintro F w1 ⟨y19, he, rfl, hS⟩
                  obtain rfl := Option.some.inj he
                  have H := K84
                  refine CJ.region ?_
                  refine OJ.st rfl rfl rfl (SR.load rfl rfl (fun w' hx => ld1 tU_ok rfl rfl (CA.ext (hS.cells (i := 2) rfl) hx) rfl)) ?_
                  refine OJ.pures tU_ok 1 rfl ?_
                  refine OJ.st rfl rfl rfl (SR.load rfl rfl (fun w' hx => ld1 tU_ok rfl rfl (CA.ext (hS.cells (i := 3) rfl) hx) rfl)) ?_
                  obtain ⟨t26, ht26, H⟩ := pbind H
                  obtain ⟨ad26, e26⟩ := (hS.rd (i := 1) rfl).some' ht26
                  refine OJ.st rfl rfl rfl (SR.idxS tU_ok tI_ok rfl rfl rfl rfl e26 rfl (getI_some ht26).1) ?_
                  refine OJ.es rfl rfl (Es.storeR tI_ok hS (i := 1) (off := 0) rfl rfl ht26 e26 rfl rfl rfl rfl (vs := (ci .i64).enc y19) rfl rfl (one1 rfl) (Nat.le_of_ble_eq_true rfl) y19 rfl) ?_
                  intro w1 hS
                  refine OJ.as (t := 49) rfl (show _ = (.slice A10 (y14.set t17.toNat y19).length c11 : Value) by simp only [List.length_set]) ?_
                  replace hS := hS.boxAs (i := 2) rfl (show _ = ([.slice A10 (y14.set t17.toNat y19).length c11] : List Value) by simp only [List.length_set])
                  refine OJ.nil (EJ.blk (?_))
                  exact EJ.meet (F' := [(2, .pointer (some ⟨b1, 0, none⟩)), (6, .pointer (some ⟨b12, 0, none⟩)), (33, .slice Aa1 a1.length ca1), (34, .int .i64 (a1.length : Int)), (35, .int .i64 y15)]) ⟨rfl, rfl, rfl, rfl, rfl, trivial⟩ ⟨(y14.set t17.toNat y19), H, rfl, hS.pick [0, 1, 2] [0, 1, 2, 3] rfl⟩
              · rintro F w1 ⟨y16, he, rfl, hS⟩
                obtain rfl := Option.some.inj he
                have H := K82
                refine CJ.region ?_
                refine OJ.pures tU_ok 2 rfl ?_
                refine OJ.nil ?_
                exact EJ.round k (F' := [(2, .pointer (some ⟨b1, 0, none⟩)), (6, .pointer (some ⟨b12, 0, none⟩)), (33, .slice Aa1 a1.length ca1), (34, .int .i64 (a1.length : Int)), (35, .int .i64 (IntKind.i64.wrap (y15 + 1)))]) ⟨rfl, rfl, rfl, rfl, rfl, trivial⟩ (Nat.lt_succ_self _) ⟨y16, (IntKind.i64.wrap (y15 + 1)), rfl, hS.pick [0, 1, 2] [0, 1, 2, 3] rfl, H⟩
            · replace H := pif_f (of_decide_eq_false hb) H
              refine CJ.exit (EJ.skE (EJ.skE (EJ.hit (?_))))
              exact EJ.meet (F' := [(6, .pointer (some ⟨b12, 0, none⟩))]) ⟨rfl, trivial⟩ ⟨y14, H, rfl, hS.pick [1, 2] [0, 1, 2, 3] rfl⟩
        · rintro F w1 ⟨y13, he, rfl, hS⟩
          obtain rfl := Option.some.inj he
          have H := K74
          refine EJ.next ?_
          refine CJ.seq ?_
          refine CJ.region ?_
          refine OJ.st rfl rfl rfl (SR.load rfl rfl (fun w' hx => ld1 tU_ok rfl rfl (CA.ext (hS.cells (i := 1) rfl) hx) rfl)) ?_
          refine OJ.pures tU_ok 2 rfl ?_
          refine OJ.nil (EJ.next ?_)
          refine CJ.ret (?_)
          obtain rfl := Option.some.inj H
          exact EJ.fin rfl (.tmp rfl (.tmp rfl .nil)) ⟨A10, c11, rfl, hS.pick [0] [] rfl⟩

def laws_eqInt64S.l1 (a0 : List Int) (a1 : List Int) : Nat → Int → Option (Bool ⊕ Unit)
  | 0, _ => none
  | k + 1, y1 => if y1 < (a0.length : Int) then ((getI a0 y1).bind fun t2 => (getI a1 y1).bind fun t3 => if t2 ≠ t3 then (some (Sum.inl false)) else (laws_eqInt64S.l1 a0 a1 k (IntKind.i64.wrap (y1 + 1)))) else (some (Sum.inr ()))
def laws_eqInt64S.f (k : Nat) (a0 : List Int) (a1 : List Int) : Option Bool := if (a0.length : Int) ≠ (a1.length : Int) then (some false) else ((laws_eqInt64S.l1 a0 a1 k 0).bind fun s86 => match s86 with | .inl r => some r | .inr _ => some true)
theorem laws_eqInt64S.c (k : Nat) (w : World) (Aa0 : Option Addr) (ca0 : Nat) (a0 : List Int) (hr0 : Rd (ci .i64) w Aa0 a0) (hc0 : a0.length ≤ ca0) (Aa1 : Option Addr) (ca1 : Nat) (a1 : List Int) (hr1 : Rd (ci .i64) w Aa1 a1) (hc1 : a1.length ≤ ca1) (r : Bool) (H : laws_eqInt64S.f k a0 a1 = some r) :
    CV Tryd.prog 13 [.slice Aa0 a0.length ca0, .slice Aa1 a1.length ca1].toArray w fun v w' => v = .bool r ∧ Ext w w' := by
  have hS := (((St.init w no).param (ci .i64) Aa0 ca0 a0 hr0 hc0).param (ci .i64) Aa1 ca1 a1 hr1 hc1)
  unfold laws_eqInt64S.f at H
  refine CV.body Tryd.func13 rfl Tryd.ntmps13 rfl ?_
  refine CJ.seq ?_
  refine CJ.region ?_
  refine OJ.pures tU_ok 1 rfl ?_
  refine OJ.nil (EJ.next ?_)
  refine CJ.seq ?_
  refine CJ.seq ?_
  refine CJ.region ?_
  refine OJ.pures tU_ok 5 rfl ?_
  refine OJ.nil (EJ.next ?_)
  refine CJ.cond rfl (fun hb => ?_) (fun hb => ?_)
  · replace H := pif_t (of_decide_eq_true hb) H
    refine CJ.seq ?_
    refine CJ.region ?_
    refine OJ.pures tU_ok 1 rfl ?_
    refine OJ.nil (EJ.next ?_)
    refine CJ.ret (EJ.skR (?_))
    obtain rfl := Option.some.inj H
    exact EJ.fin rfl (.tmp rfl .nil) ⟨rfl, hS.ext⟩
  · replace H := pif_f (of_decide_eq_false hb) H
    refine CJ.skip (EJ.next ?_)
    refine CJ.seq ?_
    refine CJ.seq ?_
    refine CJ.region ?_
    refine OJ.pures tU_ok 1 rfl ?_
    refine OJ.nil (EJ.next ?_)
    obtain ⟨j86, H, K86⟩ := pbind H
    refine CJ.cut1 (fun F w1 => (some (Sum.inr ()) : Option (Bool ⊕ Unit)) = some j86 ∧ F = [] ∧ St w no w1 [] [roC (ci .i64) Aa0 ca0 a0, roC (ci .i64) Aa1 ca1 a1]) ?_ ?_
    · skip
      refine CJ.block ?_
      refine CJ.loop (fun k F w1 => ∃ (y1 : Int), F = [(0, .slice Aa0 a0.length ca0), (1, .slice Aa1 a1.length ca1), (5, .int .i64 y1)] ∧ St w no w1 [] [roC (ci .i64) Aa0 ca0 a0, roC (ci .i64) Aa1 ca1 a1] ∧ laws_eqInt64S.l1 a0 a1 k y1 = some j86) k (F' := [(0, .slice Aa0 a0.length ca0), (1, .slice Aa1 a1.length ca1), (5, .int .i64 0)]) ⟨rfl, rfl, rfl, trivial⟩ ⟨0, rfl, hS.pick [] [0, 1] rfl, H⟩ ?_
      rintro k F w1 ⟨y1, rfl, hS, H⟩
      cases k with
      | zero => rw [laws_eqInt64S.l1] at H; cases H
      | succ k =>
        rw [laws_eqInt64S.l1] at H
        refine CJ.seq ?_
        refine CJ.seq ?_
        refine CJ.region ?_
        refine OJ.pures tU_ok 4 rfl ?_
        refine OJ.nil (EJ.next ?_)
        refine CJ.cond rfl (fun hb => ?_) (fun hb => ?_)
        · replace H := pif_t (of_decide_eq_true hb) H
          refine CJ.skip (EJ.next ?_)
          refine CJ.seq ?_
          refine CJ.block ?_
          refine CJ.seq ?_
          refine CJ.draw [] [0, 1, 2, 3, 4, 5, 6, 7, 8] mixed (by kernel_rfl) hS fun w1 hS => ?_
          refine DJ.pures tU_ok 2 rfl ?_
          obtain ⟨t2, ht2, H⟩ := pbind H
          obtain ⟨ad2, e2⟩ := (hS.rd' (i := 0) rfl).some' ht2
          refine DJ.st rfl rfl rfl rfl rfl (SR.idxS tU_ok tI_ok rfl rfl rfl rfl e2 rfl (getI_some ht2).1) ?_
          refine DJ.st rfl rfl rfl rfl rfl (SR.load rfl rfl (fun w' hx => ld1 tU_ok rfl rfl (CA.ext ((hS.rd' (i := 0) rfl).at_ e2 ht2) hx) rfl)) ?_
          refine DJ.pures tU_ok 2 rfl ?_
          obtain ⟨t3, ht3, H⟩ := pbind H
          obtain ⟨ad3, e3⟩ := (hS.rd' (i := 1) rfl).some' ht3
          refine DJ.st rfl rfl rfl rfl rfl (SR.idxS tU_ok tI_ok rfl rfl rfl rfl e3 rfl (getI_some ht3).1) ?_
          refine DJ.st rfl rfl rfl rfl rfl (SR.load rfl rfl (fun w' hx => ld1 tU_ok rfl rfl (CA.ext ((hS.rd' (i := 1) rfl).at_ e3 ht3) hx) rfl)) ?_
          refine DJ.pures tU_ok 1 rfl ?_
          refine DJ.nil (EJ.next ?_)
          refine CJ.cond rfl (fun hb => ?_) (fun hb => ?_)
          · replace H := pif_t (of_decide_eq_true hb) H
            refine CJ.seq ?_
            refine CJ.region ?_
            refine OJ.pures tU_ok 1 rfl ?_
            refine OJ.nil (EJ.next ?_)
            refine CJ.ret (EJ.bkR (EJ.skR (EJ.skR (EJ.bkR (EJ.skR (EJ.skR (?_)))))))
            first | (obtain rfl := Option.some.inj H; have H := K86) | (obtain ⟨q86, H2, e86⟩ := pbind H; obtain rfl := Option.some.inj e86; obtain rfl := Option.some.inj K86; have H := H2)
            obtain rfl := Option.some.inj H
            exact EJ.fin rfl (.tmp rfl .nil) ⟨rfl, hS.ext⟩
          · replace H := pif_f (of_decide_eq_false hb) H
            refine CJ.skip (EJ.blk (EJ.next ?_))
            refine CJ.region ?_
            refine OJ.pures tU_ok 3 rfl ?_
            refine OJ.nil ?_
            exact EJ.round k (F' := [(0, .slice Aa0 a0.length ca0), (1, .slice Aa1 a1.length ca1), (5, .int .i64 (IntKind.i64.wrap (y1 + 1)))]) ⟨rfl, rfl, rfl, trivial⟩ (Nat.lt_succ_self _) ⟨(IntKind.i64.wrap (y1 + 1)), rfl, hS.pick [] [0, 1] rfl, H⟩
        · replace H := pif_f (of_decide_eq_false hb) H
          refine CJ.exit (EJ.skE (EJ.skE (EJ.hit (?_))))
          exact EJ.meet (F' := []) trivial ⟨H, rfl, hS.pick [] [0, 1] rfl⟩
    · rintro F w1 ⟨he, rfl, hS⟩
      obtain rfl := Option.some.inj he
      have H := K86
      refine EJ.next ?_
      refine CJ.seq ?_
      refine CJ.region ?_
      refine OJ.pures tU_ok 1 rfl ?_
      refine OJ.nil (EJ.next ?_)
      refine CJ.ret (?_)
      obtain rfl := Option.some.inj H
      exact EJ.fin rfl (.tmp rfl .nil) ⟨rfl, hS.ext⟩

def laws_eqStringS.l1 (a0 : List ByteArray) (a1 : List ByteArray) : Nat → Int → Option (Bool ⊕ Unit)
  | 0, _ => none
  | k + 1, y1 => if y1 < (a0.length : Int) then ((getI a0 y1).bind fun t2 => (getI a1 y1).bind fun t3 => if t2 ≠ t3 then (some (Sum.inl false)) else (laws_eqStringS.l1 a0 a1 k (IntKind.i64.wrap (y1 + 1)))) else (some (Sum.inr ()))
def laws_eqStringS.f (k : Nat) (a0 : List ByteArray) (a1 : List ByteArray) : Option Bool := if (a0.length : Int) ≠ (a1.length : Int) then (some false) else ((laws_eqStringS.l1 a0 a1 k 0).bind fun s87 => match s87 with | .inl r => some r | .inr _ => some true)
theorem laws_eqStringS.c (k : Nat) (w : World) (Aa0 : Option Addr) (ca0 : Nat) (a0 : List ByteArray) (hr0 : Rd G.cs w Aa0 a0) (hc0 : a0.length ≤ ca0) (Aa1 : Option Addr) (ca1 : Nat) (a1 : List ByteArray) (hr1 : Rd G.cs w Aa1 a1) (hc1 : a1.length ≤ ca1) (r : Bool) (H : laws_eqStringS.f k a0 a1 = some r) :
    CV Tryd.prog 39 [.slice Aa0 a0.length ca0, .slice Aa1 a1.length ca1].toArray w fun v w' => v = .bool r ∧ Ext w w' := by
  have hS := (((St.init w no).param G.cs Aa0 ca0 a0 hr0 hc0).param G.cs Aa1 ca1 a1 hr1 hc1)
  unfold laws_eqStringS.f at H
  refine CV.body Tryd.func39 rfl Tryd.ntmps39 rfl ?_
  refine CJ.seq ?_
  refine CJ.region ?_
  refine OJ.pures tU_ok 1 rfl ?_
  refine OJ.nil (EJ.next ?_)
  refine CJ.seq ?_
  refine CJ.seq ?_
  refine CJ.region ?_
  refine OJ.pures tU_ok 5 rfl ?_
  refine OJ.nil (EJ.next ?_)
  refine CJ.cond rfl (fun hb => ?_) (fun hb => ?_)
  · replace H := pif_t (of_decide_eq_true hb) H
    refine CJ.seq ?_
    refine CJ.region ?_
    refine OJ.pures tU_ok 1 rfl ?_
    refine OJ.nil (EJ.next ?_)
    refine CJ.ret (EJ.skR (?_))
    obtain rfl := Option.some.inj H
    exact EJ.fin rfl (.tmp rfl .nil) ⟨rfl, hS.ext⟩
  · replace H := pif_f (of_decide_eq_false hb) H
    refine CJ.skip (EJ.next ?_)
    refine CJ.seq ?_
    refine CJ.seq ?_
    refine CJ.region ?_
    refine OJ.pures tU_ok 1 rfl ?_
    refine OJ.nil (EJ.next ?_)
    obtain ⟨j87, H, K87⟩ := pbind H
    refine CJ.cut1 (fun F w1 => (some (Sum.inr ()) : Option (Bool ⊕ Unit)) = some j87 ∧ F = [] ∧ St w no w1 [] [roC G.cs Aa0 ca0 a0, roC G.cs Aa1 ca1 a1]) ?_ ?_
    · skip
      refine CJ.block ?_
      refine CJ.loop (fun k F w1 => ∃ (y1 : Int), F = [(0, .slice Aa0 a0.length ca0), (1, .slice Aa1 a1.length ca1), (5, .int .i64 y1)] ∧ St w no w1 [] [roC G.cs Aa0 ca0 a0, roC G.cs Aa1 ca1 a1] ∧ laws_eqStringS.l1 a0 a1 k y1 = some j87) k (F' := [(0, .slice Aa0 a0.length ca0), (1, .slice Aa1 a1.length ca1), (5, .int .i64 0)]) ⟨rfl, rfl, rfl, trivial⟩ ⟨0, rfl, hS.pick [] [0, 1] rfl, H⟩ ?_
      rintro k F w1 ⟨y1, rfl, hS, H⟩
      cases k with
      | zero => rw [laws_eqStringS.l1] at H; cases H
      | succ k =>
        rw [laws_eqStringS.l1] at H
        refine CJ.seq ?_
        refine CJ.seq ?_
        refine CJ.region ?_
        refine OJ.pures tU_ok 4 rfl ?_
        refine OJ.nil (EJ.next ?_)
        refine CJ.cond rfl (fun hb => ?_) (fun hb => ?_)
        · replace H := pif_t (of_decide_eq_true hb) H
          refine CJ.skip (EJ.next ?_)
          refine CJ.seq ?_
          refine CJ.block ?_
          refine CJ.seq ?_
          refine CJ.draw [] [0, 1, 2, 3, 4, 5, 6, 7, 8] mixed (by kernel_rfl) hS fun w1 hS => ?_
          refine DJ.pures tU_ok 2 rfl ?_
          obtain ⟨t2, ht2, H⟩ := pbind H
          obtain ⟨ad2, e2⟩ := (hS.rd' (i := 0) rfl).some' ht2
          refine DJ.st rfl rfl rfl rfl rfl (SR.idxS tU_ok tI_ok rfl rfl rfl rfl e2 rfl (getI_some ht2).1) ?_
          refine DJ.st rfl rfl rfl rfl rfl (SR.load rfl rfl (fun w' hx => ld1 tU_ok rfl rfl (CA.ext ((hS.rd' (i := 0) rfl).at_ e2 ht2) hx) rfl)) ?_
          refine DJ.pures tU_ok 2 rfl ?_
          obtain ⟨t3, ht3, H⟩ := pbind H
          obtain ⟨ad3, e3⟩ := (hS.rd' (i := 1) rfl).some' ht3
          refine DJ.st rfl rfl rfl rfl rfl (SR.idxS tU_ok tI_ok rfl rfl rfl rfl e3 rfl (getI_some ht3).1) ?_
          refine DJ.st rfl rfl rfl rfl rfl (SR.load rfl rfl (fun w' hx => ld1 tU_ok rfl rfl (CA.ext ((hS.rd' (i := 1) rfl).at_ e3 ht3) hx) rfl)) ?_
          refine DJ.pures tU_ok 1 rfl ?_
          refine DJ.nil (EJ.next ?_)
          refine CJ.cond rfl (fun hb => ?_) (fun hb => ?_)
          · replace H := pif_t (of_decide_eq_true hb) H
            refine CJ.seq ?_
            refine CJ.region ?_
            refine OJ.pures tU_ok 1 rfl ?_
            refine OJ.nil (EJ.next ?_)
            refine CJ.ret (EJ.bkR (EJ.skR (EJ.skR (EJ.bkR (EJ.skR (EJ.skR (?_)))))))
            first | (obtain rfl := Option.some.inj H; have H := K87) | (obtain ⟨q87, H2, e87⟩ := pbind H; obtain rfl := Option.some.inj e87; obtain rfl := Option.some.inj K87; have H := H2)
            obtain rfl := Option.some.inj H
            exact EJ.fin rfl (.tmp rfl .nil) ⟨rfl, hS.ext⟩
          · replace H := pif_f (of_decide_eq_false hb) H
            refine CJ.skip (EJ.blk (EJ.next ?_))
            refine CJ.region ?_
            refine OJ.pures tU_ok 3 rfl ?_
            refine OJ.nil ?_
            exact EJ.round k (F' := [(0, .slice Aa0 a0.length ca0), (1, .slice Aa1 a1.length ca1), (5, .int .i64 (IntKind.i64.wrap (y1 + 1)))]) ⟨rfl, rfl, rfl, trivial⟩ (Nat.lt_succ_self _) ⟨(IntKind.i64.wrap (y1 + 1)), rfl, hS.pick [] [0, 1] rfl, H⟩
        · replace H := pif_f (of_decide_eq_false hb) H
          refine CJ.exit (EJ.skE (EJ.skE (EJ.hit (?_))))
          exact EJ.meet (F' := []) trivial ⟨H, rfl, hS.pick [] [0, 1] rfl⟩
    · rintro F w1 ⟨he, rfl, hS⟩
      obtain rfl := Option.some.inj he
      have H := K87
      refine EJ.next ?_
      refine CJ.seq ?_
      refine CJ.region ?_
      refine OJ.pures tU_ok 1 rfl ?_
      refine OJ.nil (EJ.next ?_)
      refine CJ.ret (?_)
      obtain rfl := Option.some.inj H
      exact EJ.fin rfl (.tmp rfl .nil) ⟨rfl, hS.ext⟩

def laws_eqInt16S.l1 (a0 : List Int) (a1 : List Int) : Nat → Int → Option (Bool ⊕ Unit)
  | 0, _ => none
  | k + 1, y1 => if y1 < (a0.length : Int) then ((getI a0 y1).bind fun t2 => (getI a1 y1).bind fun t3 => if t2 ≠ t3 then (some (Sum.inl false)) else (laws_eqInt16S.l1 a0 a1 k (IntKind.i64.wrap (y1 + 1)))) else (some (Sum.inr ()))
def laws_eqInt16S.f (k : Nat) (a0 : List Int) (a1 : List Int) : Option Bool := if (a0.length : Int) ≠ (a1.length : Int) then (some false) else ((laws_eqInt16S.l1 a0 a1 k 0).bind fun s88 => match s88 with | .inl r => some r | .inr _ => some true)
theorem laws_eqInt16S.c (k : Nat) (w : World) (Aa0 : Option Addr) (ca0 : Nat) (a0 : List Int) (hr0 : Rd (ci .i16) w Aa0 a0) (hc0 : a0.length ≤ ca0) (Aa1 : Option Addr) (ca1 : Nat) (a1 : List Int) (hr1 : Rd (ci .i16) w Aa1 a1) (hc1 : a1.length ≤ ca1) (r : Bool) (H : laws_eqInt16S.f k a0 a1 = some r) :
    CV Tryd.prog 40 [.slice Aa0 a0.length ca0, .slice Aa1 a1.length ca1].toArray w fun v w' => v = .bool r ∧ Ext w w' := by
  have hS := (((St.init w no).param (ci .i16) Aa0 ca0 a0 hr0 hc0).param (ci .i16) Aa1 ca1 a1 hr1 hc1)
  unfold laws_eqInt16S.f at H
  refine CV.body Tryd.func40 rfl Tryd.ntmps40 rfl ?_
  refine CJ.seq ?_
  refine CJ.region ?_
  refine OJ.pures tU_ok 1 rfl ?_
  refine OJ.nil (EJ.next ?_)
  refine CJ.seq ?_
  refine CJ.seq ?_
  refine CJ.region ?_
  refine OJ.pures tU_ok 5 rfl ?_
  refine OJ.nil (EJ.next ?_)
  refine CJ.cond rfl (fun hb => ?_) (fun hb => ?_)
  · replace H := pif_t (of_decide_eq_true hb) H
    refine CJ.seq ?_
    refine CJ.region ?_
    refine OJ.pures tU_ok 1 rfl ?_
    refine OJ.nil (EJ.next ?_)
    refine CJ.ret (EJ.skR (?_))
    obtain rfl := Option.some.inj H
    exact EJ.fin rfl (.tmp rfl .nil) ⟨rfl, hS.ext⟩
  · replace H := pif_f (of_decide_eq_false hb) H
    refine CJ.skip (EJ.next ?_)
    refine CJ.seq ?_
    refine CJ.seq ?_
    refine CJ.region ?_
    refine OJ.pures tU_ok 1 rfl ?_
    refine OJ.nil (EJ.next ?_)
    obtain ⟨j88, H, K88⟩ := pbind H
    refine CJ.cut1 (fun F w1 => (some (Sum.inr ()) : Option (Bool ⊕ Unit)) = some j88 ∧ F = [] ∧ St w no w1 [] [roC (ci .i16) Aa0 ca0 a0, roC (ci .i16) Aa1 ca1 a1]) ?_ ?_
    · skip
      refine CJ.block ?_
      refine CJ.loop (fun k F w1 => ∃ (y1 : Int), F = [(0, .slice Aa0 a0.length ca0), (1, .slice Aa1 a1.length ca1), (5, .int .i64 y1)] ∧ St w no w1 [] [roC (ci .i16) Aa0 ca0 a0, roC (ci .i16) Aa1 ca1 a1] ∧ laws_eqInt16S.l1 a0 a1 k y1 = some j88) k (F' := [(0, .slice Aa0 a0.length ca0), (1, .slice Aa1 a1.length ca1), (5, .int .i64 0)]) ⟨rfl, rfl, rfl, trivial⟩ ⟨0, rfl, hS.pick [] [0, 1] rfl, H⟩ ?_
      rintro k F w1 ⟨y1, rfl, hS, H⟩
      cases k with
      | zero => rw [laws_eqInt16S.l1] at H; cases H
      | succ k =>
        rw [laws_eqInt16S.l1] at H
        refine CJ.seq ?_
        refine CJ.seq ?_
        refine CJ.region ?_
        refine OJ.pures tU_ok 4 rfl ?_
        refine OJ.nil (EJ.next ?_)
        refine CJ.cond rfl (fun hb => ?_) (fun hb => ?_)
        · replace H := pif_t (of_decide_eq_true hb) H
          refine CJ.skip (EJ.next ?_)
          refine CJ.seq ?_
          refine CJ.block ?_
          refine CJ.seq ?_
          refine CJ.draw [] [0, 1, 2, 3, 4, 5, 6, 7, 8] mixed (by kernel_rfl) hS fun w1 hS => ?_
          refine DJ.pures tU_ok 2 rfl ?_
          obtain ⟨t2, ht2, H⟩ := pbind H
          obtain ⟨ad2, e2⟩ := (hS.rd' (i := 0) rfl).some' ht2
          refine DJ.st rfl rfl rfl rfl rfl (SR.idxS tU_ok tI_ok rfl rfl rfl rfl e2 rfl (getI_some ht2).1) ?_
          refine DJ.st rfl rfl rfl rfl rfl (SR.load rfl rfl (fun w' hx => ld1 tU_ok rfl rfl (CA.ext ((hS.rd' (i := 0) rfl).at_ e2 ht2) hx) rfl)) ?_
          refine DJ.pures tU_ok 2 rfl ?_
          obtain ⟨t3, ht3, H⟩ := pbind H
          obtain ⟨ad3, e3⟩ := (hS.rd' (i := 1) rfl).some' ht3
          refine DJ.st rfl rfl rfl rfl rfl (SR.idxS tU_ok tI_ok rfl rfl rfl rfl e3 rfl (getI_some ht3).1) ?_
          refine DJ.st rfl rfl rfl rfl rfl (SR.load rfl rfl (fun w' hx => ld1 tU_ok rfl rfl (CA.ext ((hS.rd' (i := 1) rfl).at_ e3 ht3) hx) rfl)) ?_
          refine DJ.pures tU_ok 1 rfl ?_
          refine DJ.nil (EJ.next ?_)
          refine CJ.cond rfl (fun hb => ?_) (fun hb => ?_)
          · replace H := pif_t (of_decide_eq_true hb) H
            refine CJ.seq ?_
            refine CJ.region ?_
            refine OJ.pures tU_ok 1 rfl ?_
            refine OJ.nil (EJ.next ?_)
            refine CJ.ret (EJ.bkR (EJ.skR (EJ.skR (EJ.bkR (EJ.skR (EJ.skR (?_)))))))
            first | (obtain rfl := Option.some.inj H; have H := K88) | (obtain ⟨q88, H2, e88⟩ := pbind H; obtain rfl := Option.some.inj e88; obtain rfl := Option.some.inj K88; have H := H2)
            obtain rfl := Option.some.inj H
            exact EJ.fin rfl (.tmp rfl .nil) ⟨rfl, hS.ext⟩
          · replace H := pif_f (of_decide_eq_false hb) H
            refine CJ.skip (EJ.blk (EJ.next ?_))
            refine CJ.region ?_
            refine OJ.pures tU_ok 3 rfl ?_
            refine OJ.nil ?_
            exact EJ.round k (F' := [(0, .slice Aa0 a0.length ca0), (1, .slice Aa1 a1.length ca1), (5, .int .i64 (IntKind.i64.wrap (y1 + 1)))]) ⟨rfl, rfl, rfl, trivial⟩ (Nat.lt_succ_self _) ⟨(IntKind.i64.wrap (y1 + 1)), rfl, hS.pick [] [0, 1] rfl, H⟩
        · replace H := pif_f (of_decide_eq_false hb) H
          refine CJ.exit (EJ.skE (EJ.skE (EJ.hit (?_))))
          exact EJ.meet (F' := []) trivial ⟨H, rfl, hS.pick [] [0, 1] rfl⟩
    · rintro F w1 ⟨he, rfl, hS⟩
      obtain rfl := Option.some.inj he
      have H := K88
      refine EJ.next ?_
      refine CJ.seq ?_
      refine CJ.region ?_
      refine OJ.pures tU_ok 1 rfl ?_
      refine OJ.nil (EJ.next ?_)
      refine CJ.ret (?_)
      obtain rfl := Option.some.inj H
      exact EJ.fin rfl (.tmp rfl .nil) ⟨rfl, hS.ext⟩

def laws_eqUint16S.l1 (a0 : List Int) (a1 : List Int) : Nat → Int → Option (Bool ⊕ Unit)
  | 0, _ => none
  | k + 1, y1 => if y1 < (a0.length : Int) then ((getI a0 y1).bind fun t2 => (getI a1 y1).bind fun t3 => if t2 ≠ t3 then (some (Sum.inl false)) else (laws_eqUint16S.l1 a0 a1 k (IntKind.i64.wrap (y1 + 1)))) else (some (Sum.inr ()))
def laws_eqUint16S.f (k : Nat) (a0 : List Int) (a1 : List Int) : Option Bool := if (a0.length : Int) ≠ (a1.length : Int) then (some false) else ((laws_eqUint16S.l1 a0 a1 k 0).bind fun s89 => match s89 with | .inl r => some r | .inr _ => some true)
theorem laws_eqUint16S.c (k : Nat) (w : World) (Aa0 : Option Addr) (ca0 : Nat) (a0 : List Int) (hr0 : Rd (ci .u16) w Aa0 a0) (hc0 : a0.length ≤ ca0) (Aa1 : Option Addr) (ca1 : Nat) (a1 : List Int) (hr1 : Rd (ci .u16) w Aa1 a1) (hc1 : a1.length ≤ ca1) (r : Bool) (H : laws_eqUint16S.f k a0 a1 = some r) :
    CV Tryd.prog 41 [.slice Aa0 a0.length ca0, .slice Aa1 a1.length ca1].toArray w fun v w' => v = .bool r ∧ Ext w w' := by
  have hS := (((St.init w no).param (ci .u16) Aa0 ca0 a0 hr0 hc0).param (ci .u16) Aa1 ca1 a1 hr1 hc1)
  unfold laws_eqUint16S.f at H
  refine CV.body Tryd.func41 rfl Tryd.ntmps41 rfl ?_
  refine CJ.seq ?_
  refine CJ.region ?_
  refine OJ.pures tU_ok 1 rfl ?_
  refine OJ.nil (EJ.next ?_)
  refine CJ.seq ?_
  refine CJ.seq ?_
  refine CJ.region ?_
  refine OJ.pures tU_ok 5 rfl ?_
  refine OJ.nil (EJ.next ?_)
  refine CJ.cond rfl (fun hb => ?_) (fun hb => ?_)
  · replace H := pif_t (of_decide_eq_true hb) H
    refine CJ.seq ?_
    refine CJ.region ?_
    refine OJ.pures tU_ok 1 rfl ?_
    refine OJ.nil (EJ.next ?_)
    refine CJ.ret (EJ.skR (?_))
    obtain rfl := Option.some.inj H
    exact EJ.fin rfl (.tmp rfl .nil) ⟨rfl, hS.ext⟩
  · replace H := pif_f (of_decide_eq_false hb) H
    refine CJ.skip (EJ.next ?_)
    refine CJ.seq ?_
    refine CJ.seq ?_
    refine CJ.region ?_
    refine OJ.pures tU_ok 1 rfl ?_
    refine OJ.nil (EJ.next ?_)
    obtain ⟨j89, H, K89⟩ := pbind H
    refine CJ.cut1 (fun F w1 => (some (Sum.inr ()) : Option (Bool ⊕ Unit)) = some j89 ∧ F = [] ∧ St w no w1 [] [roC (ci .u16) Aa0 ca0 a0, roC (ci .u16) Aa1 ca1 a1]) ?_ ?_
    · skip
      refine CJ.block ?_
      refine CJ.loop (fun k F w1 => ∃ (y1 : Int), F = [(0, .slice Aa0 a0.length ca0), (1, .slice Aa1 a1.length ca1), (5, .int .i64 y1)] ∧ St w no w1 [] [roC (ci .u16) Aa0 ca0 a0, roC (ci .u16) Aa1 ca1 a1] ∧ laws_eqUint16S.l1 a0 a1 k y1 = some j89) k (F' := [(0, .slice Aa0 a0.length ca0), (1, .slice Aa1 a1.length ca1), (5, .int .i64 0)]) ⟨rfl, rfl, rfl, trivial⟩ ⟨0, rfl, hS.pick [] [0, 1] rfl, H⟩ ?_
      rintro k F w1 ⟨y1, rfl, hS, H⟩
      cases k with
      | zero => rw [laws_eqUint16S.l1] at H; cases H
      | succ k =>
        rw [laws_eqUint16S.l1] at H
        refine CJ.seq ?_
        refine CJ.seq ?_
        refine CJ.region ?_
        refine OJ.pures tU_ok 4 rfl ?_
        refine OJ.nil (EJ.next ?_)
        refine CJ.cond rfl (fun hb => ?_) (fun hb => ?_)
        · replace H := pif_t (of_decide_eq_true hb) H
          refine CJ.skip (EJ.next ?_)
          refine CJ.seq ?_
          refine CJ.block ?_
          refine CJ.seq ?_
          refine CJ.draw [] [0, 1, 2, 3, 4, 5, 6, 7, 8] mixed (by kernel_rfl) hS fun w1 hS => ?_
          refine DJ.pures tU_ok 2 rfl ?_
          obtain ⟨t2, ht2, H⟩ := pbind H
          obtain ⟨ad2, e2⟩ := (hS.rd' (i := 0) rfl).some' ht2
          refine DJ.st rfl rfl rfl rfl rfl (SR.idxS tU_ok tI_ok rfl rfl rfl rfl e2 rfl (getI_some ht2).1) ?_
          refine DJ.st rfl rfl rfl rfl rfl (SR.load rfl rfl (fun w' hx => ld1 tU_ok rfl rfl (CA.ext ((hS.rd' (i := 0) rfl).at_ e2 ht2) hx) rfl)) ?_
          refine DJ.pures tU_ok 2 rfl ?_
          obtain ⟨t3, ht3, H⟩ := pbind H
          obtain ⟨ad3, e3⟩ := (hS.rd' (i := 1) rfl).some' ht3
          refine DJ.st rfl rfl rfl rfl rfl (SR.idxS tU_ok tI_ok rfl rfl rfl rfl e3 rfl (getI_some ht3).1) ?_
          refine DJ.st rfl rfl rfl rfl rfl (SR.load rfl rfl (fun w' hx => ld1 tU_ok rfl rfl (CA.ext ((hS.rd' (i := 1) rfl).at_ e3 ht3) hx) rfl)) ?_
          refine DJ.pures tU_ok 1 rfl ?_
          refine DJ.nil (EJ.next ?_)
          refine CJ.cond rfl (fun hb => ?_) (fun hb => ?_)
          · replace H := pif_t (of_decide_eq_true hb) H
            refine CJ.seq ?_
            refine CJ.region ?_
            refine OJ.pures tU_ok 1 rfl ?_
            refine OJ.nil (EJ.next ?_)
            refine CJ.ret (EJ.bkR (EJ.skR (EJ.skR (EJ.bkR (EJ.skR (EJ.skR (?_)))))))
            first | (obtain rfl := Option.some.inj H; have H := K89) | (obtain ⟨q89, H2, e89⟩ := pbind H; obtain rfl := Option.some.inj e89; obtain rfl := Option.some.inj K89; have H := H2)
            obtain rfl := Option.some.inj H
            exact EJ.fin rfl (.tmp rfl .nil) ⟨rfl, hS.ext⟩
          · replace H := pif_f (of_decide_eq_false hb) H
            refine CJ.skip (EJ.blk (EJ.next ?_))
            refine CJ.region ?_
            refine OJ.pures tU_ok 3 rfl ?_
            refine OJ.nil ?_
            exact EJ.round k (F' := [(0, .slice Aa0 a0.length ca0), (1, .slice Aa1 a1.length ca1), (5, .int .i64 (IntKind.i64.wrap (y1 + 1)))]) ⟨rfl, rfl, rfl, trivial⟩ (Nat.lt_succ_self _) ⟨(IntKind.i64.wrap (y1 + 1)), rfl, hS.pick [] [0, 1] rfl, H⟩
        · replace H := pif_f (of_decide_eq_false hb) H
          refine CJ.exit (EJ.skE (EJ.skE (EJ.hit (?_))))
          exact EJ.meet (F' := []) trivial ⟨H, rfl, hS.pick [] [0, 1] rfl⟩
    · rintro F w1 ⟨he, rfl, hS⟩
      obtain rfl := Option.some.inj he
      have H := K89
      refine EJ.next ?_
      refine CJ.seq ?_
      refine CJ.region ?_
      refine OJ.pures tU_ok 1 rfl ?_
      refine OJ.nil (EJ.next ?_)
      refine CJ.ret (?_)
      obtain rfl := Option.some.inj H
      exact EJ.fin rfl (.tmp rfl .nil) ⟨rfl, hS.ext⟩

def laws_eqHerd.f (k : Nat) (a0 : Herd) (a1 : Herd) : Option Bool := (laws_eqStringS.f k a0.Names a1.Names).bind fun t3 => if (!t3) = true then (some false) else ((laws_eqInt16S.f k a0.Eats a1.Eats).bind fun t4 => if (!t4) = true then (some false) else ((laws_eqUint16S.f k a0.Foes a1.Foes).bind fun t5 => if (!t5) = true then (some false) else (some true)))
theorem laws_eqHerd.c (k : Nat) (w : World) (Aa0_0 : Option Addr) (ca0_0 : Nat) (Aa0_1 : Option Addr) (ca0_1 : Nat) (Aa0_2 : Option Addr) (ca0_2 : Nat) (a0 : Herd) (hr0_0 : Rd G.cs w Aa0_0 a0.Names) (hc0_0 : a0.Names.length ≤ ca0_0) (hr0_1 : Rd (ci .i16) w Aa0_1 a0.Eats) (hc0_1 : a0.Eats.length ≤ ca0_1) (hr0_2 : Rd (ci .u16) w Aa0_2 a0.Foes) (hc0_2 : a0.Foes.length ≤ ca0_2) (Aa1_0 : Option Addr) (ca1_0 : Nat) (Aa1_1 : Option Addr) (ca1_1 : Nat) (Aa1_2 : Option Addr) (ca1_2 : Nat) (a1 : Herd) (hr1_0 : Rd G.cs w Aa1_0 a1.Names) (hc1_0 : a1.Names.length ≤ ca1_0) (hr1_1 : Rd (ci .i16) w Aa1_1 a1.Eats) (hc1_1 : a1.Eats.length ≤ ca1_1) (hr1_2 : Rd (ci .u16) w Aa1_2 a1.Foes) (hc1_2 : a1.Foes.length ≤ ca1_2) (r : Bool) (H : laws_eqHerd.f k a0 a1 = some r) :
    CV Tryd.prog 12 [.agg [.slice Aa0_0 a0.Names.length ca0_0, .slice Aa0_1 a0.Eats.length ca0_1, .slice Aa0_2 a0.Foes.length ca0_2].toArray, .agg [.slice Aa1_0 a1.Names.length ca1_0, .slice Aa1_1 a1.Eats.length ca1_1, .slice Aa1_2 a1.Foes.length ca1_2].toArray].toArray w fun v w' => v = .bool r ∧ Ext w w' := by
  have hS := (((((((St.init w no).param G.cs Aa0_0 ca0_0 a0.Names hr0_0 hc0_0).param (ci .i16) Aa0_1 ca0_1 a0.Eats hr0_1 hc0_1).param (ci .u16) Aa0_2 ca0_2 a0.Foes hr0_2 hc0_2).param G.cs Aa1_0 ca1_0 a1.Names hr1_0 hc1_0).param (ci .i16) Aa1_1 ca1_1 a1.Eats hr1_1 hc1_1).param (ci .u16) Aa1_2 ca1_2 a1.Foes hr1_2 hc1_2)
  unfold laws_eqHerd.f at H
  refine CV.body Tryd.func12 rfl Tryd.ntmps12 rfl ?_
  refine CJ.seq ?_
  refine CJ.region ?_
  refine OJ.ef rfl rfl rfl (Ef.box hS rfl rfl ([.slice Aa0_0 a0.Names.length ca0_0, .slice Aa0_1 a0.Eats.length ca0_1, .slice Aa0_2 a0.Foes.length ca0_2]) rfl) ?_
  rintro _ w1 ⟨b1, rfl, hS⟩
  refine OJ.ef rfl rfl rfl (Ef.box hS rfl rfl ([.slice Aa1_0 a1.Names.length ca1_0, .slice Aa1_1 a1.Eats.length ca1_1, .slice Aa1_2 a1.Foes.length ca1_2]) rfl) ?_
  rintro _ w1 ⟨b2, rfl, hS⟩
  refine OJ.pures tU_ok 1 rfl ?_
  refine OJ.nil (EJ.next ?_)
  refine CJ.seq ?_
  refine CJ.seq ?_
  refine CJ.region ?_
  refine OJ.st rfl rfl rfl (SR.fieldAddr tU_ok tI_ok rfl rfl rfl rfl rfl rfl) ?_
  refine OJ.st rfl rfl rfl (SR.load rfl rfl (fun w' hx => ld1 tU_ok rfl rfl (CA.ext (CA.sub (hS.cells (i := 0) rfl) 0) hx) rfl)) ?_
  refine OJ.st rfl rfl rfl (SR.fieldAddr tU_ok tI_ok rfl rfl rfl rfl rfl rfl) ?_
  refine OJ.st rfl rfl rfl (SR.load rfl rfl (fun w' hx => ld1 tU_ok rfl rfl (CA.ext (CA.sub (hS.cells (i := 1) rfl) 0) hx) rfl)) ?_
  obtain ⟨t3, ht3, H⟩ := pbind H
  refine OJ.callF rfl rfl rfl rfl rfl hb39 rfl (laws_eqStringS.c k _ Aa0_0 ca0_0 a0.Names (hS.rd' (i := 0) rfl) (hS.le' (i := 0) rfl) Aa1_0 ca1_0 a1.Names (hS.rd' (i := 3) rfl) (hS.le' (i := 3) rfl) _ ht3) ?_
  rintro _ w1 ⟨rfl, hs⟩
  replace hS := hS.grow hs
  refine OJ.pures tU_ok 1 rfl ?_
  refine OJ.nil (EJ.next ?_)
  refine CJ.cond rfl (fun hb => ?_) (fun hb => ?_)
  · replace H := pif_t hb H
    refine CJ.seq ?_
    refine CJ.region ?_
    refine OJ.pures tU_ok 1 rfl ?_
    refine OJ.nil (EJ.next ?_)
    refine CJ.ret (EJ.skR (?_))
    obtain rfl := Option.some.inj H
    exact EJ.fin rfl (.tmp rfl .nil) ⟨rfl, hS.ext⟩
  · replace H := pifb_f hb H
    refine CJ.skip (EJ.next ?_)
    refine CJ.seq ?_
    refine CJ.seq ?_
    refine CJ.region ?_
    refine OJ.st rfl rfl rfl (SR.fieldAddr tU_ok tI_ok rfl rfl rfl rfl rfl rfl) ?_
    refine OJ.st rfl rfl rfl (SR.load rfl rfl (fun w' hx => ld1 tU_ok rfl rfl (CA.ext (CA.sub (hS.cells (i := 0) rfl) 1) hx) rfl)) ?_
    refine OJ.st rfl rfl rfl (SR.fieldAddr tU_ok tI_ok rfl rfl rfl rfl rfl rfl) ?_
    refine OJ.st rfl rfl rfl (SR.load rfl rfl (fun w' hx => ld1 tU_ok rfl rfl (CA.ext (CA.sub (hS.cells (i := 1) rfl) 1) hx) rfl)) ?_
    obtain ⟨t4, ht4, H⟩ := pbind H
    refine OJ.callF rfl rfl rfl rfl rfl hb40 rfl (laws_eqInt16S.c k _ Aa0_1 ca0_1 a0.Eats (hS.rd' (i := 1) rfl) (hS.le' (i := 1) rfl) Aa1_1 ca1_1 a1.Eats (hS.rd' (i := 4) rfl) (hS.le' (i := 4) rfl) _ ht4) ?_
    rintro _ w1 ⟨rfl, hs⟩
    replace hS := hS.grow hs
    refine OJ.pures tU_ok 1 rfl ?_
    refine OJ.nil (EJ.next ?_)
    refine CJ.cond rfl (fun hb => ?_) (fun hb => ?_)
    · replace H := pif_t hb H
      refine CJ.seq ?_
      refine CJ.region ?_
      refine OJ.pures tU_ok 1 rfl ?_
      refine OJ.nil (EJ.next ?_)
      refine CJ.ret (EJ.skR (?_))
      obtain rfl := Option.some.inj H
      exact EJ.fin rfl (.tmp rfl .nil) ⟨rfl, hS.ext⟩
    · replace H := pifb_f hb H
      refine CJ.skip (EJ.next ?_)
      refine CJ.seq ?_
      refine CJ.seq ?_
      refine CJ.region ?_
      refine OJ.st rfl rfl rfl (SR.fieldAddr tU_ok tI_ok rfl rfl rfl rfl rfl rfl) ?_
      refine OJ.st rfl rfl rfl (SR.load rfl rfl (fun w' hx => ld1 tU_ok rfl rfl (CA.ext (CA.sub (hS.cells (i := 0) rfl) 2) hx) rfl)) ?_
      refine OJ.st rfl rfl rfl (SR.fieldAddr tU_ok tI_ok rfl rfl rfl rfl rfl rfl) ?_
      refine OJ.st rfl rfl rfl (SR.load rfl rfl (fun w' hx => ld1 tU_ok rfl rfl (CA.ext (CA.sub (hS.cells (i := 1) rfl) 2) hx) rfl)) ?_
      obtain ⟨t5, ht5, H⟩ := pbind H
      refine OJ.callF rfl rfl rfl rfl rfl hb41 rfl (laws_eqUint16S.c k _ Aa0_2 ca0_2 a0.Foes (hS.rd' (i := 2) rfl) (hS.le' (i := 2) rfl) Aa1_2 ca1_2 a1.Foes (hS.rd' (i := 5) rfl) (hS.le' (i := 5) rfl) _ ht5) ?_
      rintro _ w1 ⟨rfl, hs⟩
      replace hS := hS.grow hs
      refine OJ.pures tU_ok 1 rfl ?_
      refine OJ.nil (EJ.next ?_)
      refine CJ.cond rfl (fun hb => ?_) (fun hb => ?_)
      · replace H := pif_t hb H
        refine CJ.seq ?_
        refine CJ.region ?_
        refine OJ.pures tU_ok 1 rfl ?_
        refine OJ.nil (EJ.next ?_)
        refine CJ.ret (EJ.skR (?_))
        obtain rfl := Option.some.inj H
        exact EJ.fin rfl (.tmp rfl .nil) ⟨rfl, hS.ext⟩
      · replace H := pifb_f hb H
        refine CJ.skip (EJ.next ?_)
        refine CJ.seq ?_
        refine CJ.region ?_
        refine OJ.pures tU_ok 1 rfl ?_
        refine OJ.nil (EJ.next ?_)
        refine CJ.ret (?_)
        obtain rfl := Option.some.inj H
        exact EJ.fin rfl (.tmp rfl .nil) ⟨rfl, hS.ext⟩

def laws_markText.l1 : Nat → Int → ByteArray → Option ByteArray
  | 0, _, _ => none
  | k + 1, y2, y3 => if 0 < y2 then ((chk ((bstr ([IntKind.u8.wrap (IntKind.i64.wrap (48 + (Int.tmod y2 10)))] : List Int)).size + y3.size ≤ 4294967296)).bind fun u5 => laws_markText.l1 k (IntKind.i64.wrap (Int.tdiv y2 10)) ((bstr ([IntKind.u8.wrap (IntKind.i64.wrap (48 + (Int.tmod y2 10)))] : List Int)) ++ y3)) else (some y3)
def laws_markText.f (k : Nat) (a0 : Int) : Option ByteArray := if a0 ≤ 0 then (some (⟨#[109, 48]⟩ : ByteArray)) else ((laws_markText.l1 k a0 ByteArray.empty).bind fun y1 => (chk ((⟨#[109]⟩ : ByteArray).size + y1.size ≤ 4294967296)).bind fun u6 => some ((⟨#[109]⟩ : ByteArray) ++ y1))
theorem laws_markText.c (k : Nat) (w : World) (a0 : Int) (r : ByteArray) (H : laws_markText.f k a0 = some r) :
    CV Tryd.prog 76 [.int .i64 a0].toArray w fun v w' => v = .string r ∧ Ext w w' := by
  have hS := (St.init w no)
  unfold laws_markText.f at H
  refine CV.body Tryd.func76 rfl Tryd.ntmps76 rfl ?_
  refine CJ.seq ?_
  refine CJ.region ?_
  refine OJ.pures tU_ok 1 rfl ?_
  refine OJ.nil (EJ.next ?_)
  refine CJ.seq ?_
  refine CJ.seq ?_
  refine CJ.region ?_
  refine OJ.pures tU_ok 2 rfl ?_
  refine OJ.nil (EJ.next ?_)
  refine CJ.cond rfl (fun hb => ?_) (fun hb => ?_)
  · replace H := pif_t (of_decide_eq_true hb) H
    refine CJ.seq ?_
    refine CJ.region ?_
    refine OJ.pures tU_ok 1 rfl ?_
    refine OJ.nil (EJ.next ?_)
    refine CJ.ret (EJ.skR (?_))
    obtain rfl := Option.some.inj H
    exact EJ.fin rfl (.tmp rfl .nil) ⟨rfl, hS.ext⟩
  · replace H := pif_f (of_decide_eq_false hb) H
    refine CJ.skip (EJ.next ?_)
    refine CJ.seq ?_
    refine CJ.region ?_
    refine OJ.pures tU_ok 1 rfl ?_
    refine OJ.nil (EJ.next ?_)
    obtain ⟨j91, H, K91⟩ := pbind H
    refine CJ.cut (fun F w1 => ∃ (y1 : ByteArray) , (some y1 : Option ByteArray) = some j91 ∧ F = [(3, .string y1)] ∧ St w no w1 [] []) ?_ ?_
    · skip
      refine CJ.block ?_
      refine CJ.loop (fun k F w1 => ∃ (y2 : Int) (y3 : ByteArray), F = [(0, .int .i64 y2), (3, .string y3)] ∧ St w no w1 [] [] ∧ laws_markText.l1 k y2 y3 = some j91) k (F' := [(0, .int .i64 a0), (3, .string ByteArray.empty)]) ⟨rfl, rfl, trivial⟩ ⟨a0, ByteArray.empty, rfl, hS.pick [] [] rfl, H⟩ ?_
      rintro k F w1 ⟨y2, y3, rfl, hS, H⟩
      cases k with
      | zero => rw [laws_markText.l1] at H; cases H
      | succ k =>
        rw [laws_markText.l1] at H
        refine CJ.seq ?_
        refine CJ.seq ?_
        refine CJ.region ?_
        refine OJ.pures tU_ok 2 rfl ?_
        refine OJ.nil (EJ.next ?_)
        refine CJ.cond rfl (fun hb => ?_) (fun hb => ?_)
        · replace H := pif_t (of_decide_eq_true hb) H
          refine CJ.skip (EJ.next ?_)
          refine CJ.block ?_
          refine CJ.seq ?_
          refine CJ.region ?_
          refine OJ.pures tU_ok 1 rfl ?_
          refine OJ.st rfl rfl rfl (SR.rem rfl rfl rfl (by decide)) ?_
          refine OJ.pures tU_ok 2 rfl ?_
          refine OJ.ef rfl rfl rfl (Ef.lit tU_ok tI_ok hS (C := (ci .u8)) rfl rfl rfl rfl rfl rfl ([IntKind.u8.wrap (IntKind.i64.wrap (48 + (Int.tmod y2 10)))] : List Int) rfl rfl rfl rfl) ?_
          rintro _ w1 ⟨A4, rfl, hS⟩
          refine OJ.st rfl rfl rfl (SR.b2s tU_ok rfl rfl rfl rfl rfl (hS.rd (i := 0) rfl)) ?_
          refine OJ.pures tU_ok 1 rfl ?_
          obtain ⟨u5, hu5, H⟩ := pbind H
          refine OJ.st rfl rfl rfl (SR.concat rfl rfl rfl (chk_some hu5)) ?_
          refine OJ.pures tU_ok 1 rfl ?_
          refine OJ.nil (EJ.next ?_)
          refine CJ.region ?_
          refine OJ.pures tU_ok 1 rfl ?_
          refine OJ.st rfl rfl rfl (SR.quo rfl rfl rfl (by decide)) ?_
          refine OJ.pures tU_ok 1 rfl ?_
          refine OJ.nil (EJ.blk (?_))
          exact EJ.round k (F' := [(0, .int .i64 (IntKind.i64.wrap (Int.tdiv y2 10))), (3, .string ((bstr ([IntKind.u8.wrap (IntKind.i64.wrap (48 + (Int.tmod y2 10)))] : List Int)) ++ y3))]) ⟨rfl, rfl, trivial⟩ (Nat.lt_succ_self _) ⟨(IntKind.i64.wrap (Int.tdiv y2 10)), ((bstr ([IntKind.u8.wrap (IntKind.i64.wrap (48 + (Int.tmod y2 10)))] : List Int)) ++ y3), rfl, hS.pick [] [] rfl, H⟩
        · replace H := pif_f (of_decide_eq_false hb) H
          refine CJ.exit (EJ.skE (EJ.skE (EJ.hit (?_))))
          exact EJ.meet (F' := [(3, .string y3)]) ⟨rfl, trivial⟩ ⟨y3, H, rfl, hS.pick [] [] rfl⟩
    · rintro F w1 ⟨y1, he, rfl, hS⟩
      obtain rfl := Option.some.inj he
      have H := K91
      refine CJ.seq ?_
      refine CJ.region ?_
      refine OJ.pures tU_ok 1 rfl ?_
      obtain ⟨u6, hu6, H⟩ := pbind H
      refine OJ.st rfl rfl rfl (SR.concat rfl rfl rfl (chk_some hu6)) ?_
      refine OJ.pures tU_ok 1 rfl ?_
      refine OJ.nil (EJ.next ?_)
      refine CJ.ret (?_)
      obtain rfl := Option.some.inj H
      exact EJ.fin rfl (.tmp rfl .nil) ⟨rfl, hS.ext⟩

def laws_markStringS.l1 (a0 : List ByteArray) : Nat → (List ByteArray) → Int → Int → Option ((List ByteArray) × Int)
  | 0, _, _, _ => none
  | k + 1, y3, y4, y5 => if y5 < (a0.length : Int) then ((laws_markText.f k y4).bind fun t6 => (getI y3 y5).bind fun t7 => laws_markStringS.l1 a0 k (y3.set y5.toNat t6) (IntKind.i64.wrap (y4 + 1)) (IntKind.i64.wrap (y5 + 1))) else (some (y3, y4))
def laws_markStringS.f (k : Nat) (a0 : List ByteArray) (a1 : Int) : Option (Int × List ByteArray) := (laws_markStringS.l1 a0 k a0 a1 0).bind fun (y1, y2) => some (y2, y1)
theorem laws_markStringS.c (k : Nat) (w : World) (Aa0 : Option Addr) (ca0 : Nat) (a0 : List ByteArray) (a1 : Int) (hin : St w (fpU [rowC G.cs Aa0 ca0 9 a0]) w [rowC G.cs Aa0 ca0 9 a0] []) (r : Int × List ByteArray) (H : laws_markStringS.f k a0 a1 = some r) :
    CV Tryd.prog 42 [.slice Aa0 a0.length ca0, .int .i64 a1].toArray w fun v w' => v = .int .i64 r.1 ∧ St w (fpU [rowC G.cs Aa0 ca0 9 a0]) w' [rowC G.cs Aa0 ca0 9 r.2] [] ∧ r.2.length = a0.length := by
  have hS := hin
  unfold laws_markStringS.f at H
  refine CV.body Tryd.func42 rfl Tryd.ntmps42 rfl ?_
  have hl0 : a0.length = a0.length := rfl
  refine CJ.seq ?_
  refine CJ.region ?_
  refine OJ.pures tU_ok 1 rfl ?_
  refine OJ.nil (EJ.next ?_)
  refine CJ.seq ?_
  refine CJ.seq ?_
  refine CJ.region ?_
  refine OJ.pures tU_ok 1 rfl ?_
  refine OJ.nil (EJ.next ?_)
  obtain ⟨j92, H, K92⟩ := pbind H
  refine CJ.cut1 (fun F w1 => ∃ (y1 : List ByteArray) (y2 : Int) , (some (y1, y2) : Option ((List ByteArray) × Int)) = some j92 ∧ F = [(1, .int .i64 y2)] ∧ St w (fpU [rowC G.cs Aa0 ca0 9 a0]) w1 [rowC G.cs Aa0 ca0 9 y1] [] ∧ y1.length = a0.length) ?_ ?_
  · skip
    refine CJ.block ?_
    refine CJ.loop (fun k F w1 => ∃ (y3 : List ByteArray) (y4 : Int) (y5 : Int), F = [(0, .slice Aa0 a0.length ca0), (1, .int .i64 y4), (5, .int .i64 y5)] ∧ St w (fpU [rowC G.cs Aa0 ca0 9 a0]) w1 [rowC G.cs Aa0 ca0 9 y3] [] ∧ y3.length = a0.length ∧ laws_markStringS.l1 a0 k y3 y4 y5 = some j92) k (F' := [(0, .slice Aa0 a0.length ca0), (1, .int .i64 a1), (5, .int .i64 0)]) ⟨rfl, rfl, rfl, trivial⟩ ⟨a0, a1, 0, rfl, hS.pick [0] [] rfl, (by first | exact hl0 | (simp only [List.length_set]; exact hl0) | (simp only [List.length_set]; done)), H⟩ ?_
    rintro k F w1 ⟨y3, y4, y5, rfl, hS, hl0, H⟩
    cases k with
    | zero => rw [laws_markStringS.l1] at H; cases H
    | succ k =>
      rw [laws_markStringS.l1] at H
      refine CJ.seq ?_
      refine CJ.seq ?_
      refine CJ.region ?_
      refine OJ.pures tU_ok 4 rfl ?_
      refine OJ.nil (EJ.next ?_)
      refine CJ.cond rfl (fun hb => ?_) (fun hb => ?_)
      · replace H := pif_t (of_decide_eq_true hb) H
        refine CJ.skip (EJ.next ?_)
        refine CJ.seq ?_
        refine CJ.block ?_
        refine CJ.seq ?_
        refine CJ.region ?_
        refine OJ.pures tU_ok 3 rfl ?_
        obtain ⟨t6, ht6, H⟩ := pbind H
        refine OJ.callF rfl rfl rfl rfl rfl hb76 rfl (laws_markText.c k _ y4 _ ht6) ?_
        rintro _ w1 ⟨rfl, hs⟩
        replace hS := hS.grow hs
        obtain ⟨t7, ht7, H⟩ := pbind H
        obtain ⟨ad7, e7⟩ := (hS.rd (i := 0) rfl).some' ht7
        refine OJ.st rfl rfl rfl (SR.idxS tU_ok tI_ok rfl rfl rfl rfl e7 rfl (by have hg := (getI_some ht7).1; (first | rw [hl0] at hg | (simp only [List.length_set] at hg; rw [hl0] at hg)); exact hg)) ?_
        refine OJ.es rfl rfl (Es.storeR tI_ok hS (i := 0) (off := 0) rfl rfl ht7 e7 rfl rfl rfl rfl (vs := G.cs.enc t6) rfl rfl (one1 rfl) (Nat.le_of_ble_eq_true rfl) t6 rfl) ?_
        intro w1 hS
        refine OJ.nil (EJ.next ?_)
        refine CJ.region ?_
        refine OJ.pures tU_ok 3 rfl ?_
        refine OJ.nil (EJ.blk (EJ.next ?_))
        refine CJ.region ?_
        refine OJ.pures tU_ok 3 rfl ?_
        refine OJ.nil ?_
        exact EJ.round k (F' := [(0, .slice Aa0 a0.length ca0), (1, .int .i64 (IntKind.i64.wrap (y4 + 1))), (5, .int .i64 (IntKind.i64.wrap (y5 + 1)))]) ⟨rfl, rfl, rfl, trivial⟩ (Nat.lt_succ_self _) ⟨(y3.set y5.toNat t6), (IntKind.i64.wrap (y4 + 1)), (IntKind.i64.wrap (y5 + 1)), rfl, hS.pick [0] [] rfl, (by first | exact hl0 | (simp only [List.length_set]; exact hl0) | (simp only [List.length_set]; done)), H⟩
      · replace H := pif_f (of_decide_eq_false hb) H
        refine CJ.exit (EJ.skE (EJ.skE (EJ.hit (?_))))
        exact EJ.meet (F' := [(1, .int .i64 y4)]) ⟨rfl, trivial⟩ ⟨y3, y4, H, rfl, hS.pick [0] [] rfl, (by first | exact hl0 | (simp only [List.length_set]; exact hl0) | (simp only [List.length_set]; done))⟩
  · rintro F w1 ⟨y1, y2, he, rfl, hS, hl0⟩
    obtain rfl := Option.some.inj he
    have H := K92
    refine EJ.next ?_
    refine CJ.seq ?_
    refine CJ.region ?_
    refine OJ.pures tU_ok 2 rfl ?_
    refine OJ.nil (EJ.next ?_)
    refine CJ.ret (?_)
    obtain rfl := Option.some.inj H
    exact EJ.fin rfl (.tmp rfl .nil) ⟨rfl, hS.pick [0] [] rfl, (by first | exact hl0 | (simp only [List.length_set]; exact hl0) | (simp only [List.length_set]; done))⟩

def laws_markInt16S.l1 (a0 : List Int) : Nat → (List Int) → Int → Int → Option ((List Int) × Int)
  | 0, _, _, _ => none
  | k + 1, y3, y4, y5 => if y5 < (a0.length : Int) then ((getI y3 y5).bind fun t6 => laws_markInt16S.l1 a0 k (y3.set y5.toNat (IntKind.i16.wrap y4)) (IntKind.i64.wrap (y4 + 1)) (IntKind.i64.wrap (y5 + 1))) else (some (y3, y4))
def laws_markInt16S.f (k : Nat) (a0 : List Int) (a1 : Int) : Option (Int × List Int) := (laws_markInt16S.l1 a0 k a0 a1 0).bind fun (y1, y2) => some (y2, y1)
theorem laws_markInt16S.c (k : Nat) (w : World) (Aa0 : Option Addr) (ca0 : Nat) (a0 : List Int) (a1 : Int) (hin : St w (fpU [rowC (ci .i16) Aa0 ca0 50 a0]) w [rowC (ci .i16) Aa0 ca0 50 a0] []) (r : Int × List Int) (H : laws_markInt16S.f k a0 a1 = some r) :
    CV Tryd.prog 43 [.slice Aa0 a0.length ca0, .int .i64 a1].toArray w fun v w' => v = .int .i64 r.1 ∧ St w (fpU [rowC (ci .i16) Aa0 ca0 50 a0]) w' [rowC (ci .i16) Aa0 ca0 50 r.2] [] ∧ r.2.length = a0.length := by
  have hS := hin
  unfold laws_markInt16S.f at H
  refine CV.body Tryd.func43 rfl Tryd.ntmps43 rfl ?_
  have hl0 : a0.length = a0.length := rfl
  refine CJ.seq ?_
  refine CJ.region ?_
  refine OJ.pures tU_ok 1 rfl ?_
  refine OJ.nil (EJ.next ?_)
  refine CJ.seq ?_
  refine CJ.seq ?_
  refine CJ.region ?_
  refine OJ.pures tU_ok 1 rfl ?_
  refine OJ.nil (EJ.next ?_)
  obtain ⟨j94, H, K94⟩ := pbind H
  refine CJ.cut1 (fun F w1 => ∃ (y1 : List Int) (y2 : Int) , (some (y1, y2) : Option ((List Int) × Int)) = some j94 ∧ F = [(1, .int .i64 y2)] ∧ St w (fpU [rowC (ci .i16) Aa0 ca0 50 a0]) w1 [rowC (ci .i16) Aa0 ca0 50 y1] [] ∧ y1.length = a0.length) ?_ ?_
  · skip
    refine CJ.block ?_
    refine CJ.loop (fun k F w1 => ∃ (y3 : List Int) (y4 : Int) (y5 : Int), F = [(0, .slice Aa0 a0.length ca0), (1, .int .i64 y4), (5, .int .i64 y5)] ∧ St w (fpU [rowC (ci .i16) Aa0 ca0 50 a0]) w1 [rowC (ci .i16) Aa0 ca0 50 y3] [] ∧ y3.length = a0.length ∧ laws_markInt16S.l1 a0 k y3 y4 y5 = some j94) k (F' := [(0, .slice Aa0 a0.length ca0), (1, .int .i64 a1), (5, .int .i64 0)]) ⟨rfl, rfl, rfl, trivial⟩ ⟨a0, a1, 0, rfl, hS.pick [0] [] rfl, (by first | exact hl0 | (simp only [List.length_set]; exact hl0) | (simp only [List.length_set]; done)), H⟩ ?_
    rintro k F w1 ⟨y3, y4, y5, rfl, hS, hl0, H⟩
    cases k with
    | zero => rw [laws_markInt16S.l1] at H; cases H
    | succ k =>
      rw [laws_markInt16S.l1] at H
      refine CJ.seq ?_
      refine CJ.seq ?_
      refine CJ.region ?_
      refine OJ.pures tU_ok 4 rfl ?_
      refine OJ.nil (EJ.next ?_)
      refine CJ.cond rfl (fun hb => ?_) (fun hb => ?_)
      · replace H := pif_t (of_decide_eq_true hb) H
        refine CJ.skip (EJ.next ?_)
        refine CJ.seq ?_
        refine CJ.block ?_
        refine CJ.seq ?_
        refine CJ.region ?_
        refine OJ.pures tU_ok 4 rfl ?_
        obtain ⟨t6, ht6, H⟩ := pbind H
        obtain ⟨ad6, e6⟩ := (hS.rd (i := 0) rfl).some' ht6
        refine OJ.st rfl rfl rfl (SR.idxS tU_ok tI_ok rfl rfl rfl rfl e6 rfl (by have hg := (getI_some ht6).1; (first | rw [hl0] at hg | (simp only [List.length_set] at hg; rw [hl0] at hg)); exact hg)) ?_
        refine OJ.es rfl rfl (Es.storeR tI_ok hS (i := 0) (off := 0) rfl rfl ht6 e6 rfl rfl rfl rfl (vs := (ci .i16).enc (IntKind.i16.wrap y4)) rfl rfl (one1 rfl) (Nat.le_of_ble_eq_true rfl) (IntKind.i16.wrap y4) rfl) ?_
        intro w1 hS
        refine OJ.nil (EJ.next ?_)
        refine CJ.region ?_
        refine OJ.pures tU_ok 3 rfl ?_
        refine OJ.nil (EJ.blk (EJ.next ?_))
        refine CJ.region ?_
        refine OJ.pures tU_ok 3 rfl ?_
        refine OJ.nil ?_
        exact EJ.round k (F' := [(0, .slice Aa0 a0.length ca0), (1, .int .i64 (IntKind.i64.wrap (y4 + 1))), (5, .int .i64 (IntKind.i64.wrap (y5 + 1)))]) ⟨rfl, rfl, rfl, trivial⟩ (Nat.lt_succ_self _) ⟨(y3.set y5.toNat (IntKind.i16.wrap y4)), (IntKind.i64.wrap (y4 + 1)), (IntKind.i64.wrap (y5 + 1)), rfl, hS.pick [0] [] rfl, (by first | exact hl0 | (simp only [List.length_set]; exact hl0) | (simp only [List.length_set]; done)), H⟩
      · replace H := pif_f (of_decide_eq_false hb) H
        refine CJ.exit (EJ.skE (EJ.skE (EJ.hit (?_))))
        exact EJ.meet (F' := [(1, .int .i64 y4)]) ⟨rfl, trivial⟩ ⟨y3, y4, H, rfl, hS.pick [0] [] rfl, (by first | exact hl0 | (simp only [List.length_set]; exact hl0) | (simp only [List.length_set]; done))⟩
  · rintro F w1 ⟨y1, y2, he, rfl, hS, hl0⟩
    obtain rfl := Option.some.inj he
    have H := K94
    refine EJ.next ?_
    refine CJ.seq ?_
    refine CJ.region ?_
    refine OJ.pures tU_ok 2 rfl ?_
    refine OJ.nil (EJ.next ?_)
    refine CJ.ret (?_)
    obtain rfl := Option.some.inj H
    exact EJ.fin rfl (.tmp rfl .nil) ⟨rfl, hS.pick [0] [] rfl, (by first | exact hl0 | (simp only [List.length_set]; exact hl0) | (simp only [List.length_set]; done))⟩

def laws_markUint16S.l1 (a0 : List Int) : Nat → (List Int) → Int → Int → Option ((List Int) × Int)
  | 0, _, _, _ => none
  | k + 1, y3, y4, y5 => if y5 < (a0.length : Int) then ((getI y3 y5).bind fun t6 => laws_markUint16S.l1 a0 k (y3.set y5.toNat (IntKind.u16.wrap y4)) (IntKind.i64.wrap (y4 + 1)) (IntKind.i64.wrap (y5 + 1))) else (some (y3, y4))
def laws_markUint16S.f (k : Nat) (a0 : List Int) (a1 : Int) : Option (Int × List Int) := (laws_markUint16S.l1 a0 k a0 a1 0).bind fun (y1, y2) => some (y2, y1)
theorem laws_markUint16S.c (k : Nat) (w : World) (Aa0 : Option Addr) (ca0 : Nat) (a0 : List Int) (a1 : Int) (hin : St w (fpU [rowC (ci .u16) Aa0 ca0 51 a0]) w [rowC (ci .u16) Aa0 ca0 51 a0] []) (r : Int × List Int) (H : laws_markUint16S.f k a0 a1 = some r) :
    CV Tryd.prog 44 [.slice Aa0 a0.length ca0, .int .i64 a1].toArray w fun v w' => v = .int .i64 r.1 ∧ St w (fpU [rowC (ci .u16) Aa0 ca0 51 a0]) w' [rowC (ci .u16) Aa0 ca0 51 r.2] [] ∧ r.2.length = a0.length := by
  have hS := hin
  unfold laws_markUint16S.f at H
  refine CV.body Tryd.func44 rfl Tryd.ntmps44 rfl ?_
  have hl0 : a0.length = a0.length := rfl
  refine CJ.seq ?_
  refine CJ.region ?_
  refine OJ.pures tU_ok 1 rfl ?_
  refine OJ.nil (EJ.next ?_)
  refine CJ.seq ?_
  refine CJ.seq ?_
  refine CJ.region ?_
  refine OJ.pures tU_ok 1 rfl ?_
  refine OJ.nil (EJ.next ?_)
  obtain ⟨j96, H, K96⟩ := pbind H
  refine CJ.cut1 (fun F w1 => ∃ (y1 : List Int) (y2 : Int) , (some (y1, y2) : Option ((List Int) × Int)) = some j96 ∧ F = [(1, .int .i64 y2)] ∧ St w (fpU [rowC (ci .u16) Aa0 ca0 51 a0]) w1 [rowC (ci .u16) Aa0 ca0 51 y1] [] ∧ y1.length = a0.length) ?_ ?_
  · skip
    refine CJ.block ?_
    refine CJ.loop (fun k F w1 => ∃ (y3 : List Int) (y4 : Int) (y5 : Int), F = [(0, .slice Aa0 a0.length ca0), (1, .int .i64 y4), (5, .int .i64 y5)] ∧ St w (fpU [rowC (ci .u16) Aa0 ca0 51 a0]) w1 [rowC (ci .u16) Aa0 ca0 51 y3] [] ∧ y3.length = a0.length ∧ laws_markUint16S.l1 a0 k y3 y4 y5 = some j96) k (F' := [(0, .slice Aa0 a0.length ca0), (1, .int .i64 a1), (5, .int .i64 0)]) ⟨rfl, rfl, rfl, trivial⟩ ⟨a0, a1, 0, rfl, hS.pick [0] [] rfl, (by first | exact hl0 | (simp only [List.length_set]; exact hl0) | (simp only [List.length_set]; done)), H⟩ ?_
    rintro k F w1 ⟨y3, y4, y5, rfl, hS, hl0, H⟩
    cases k with
    | zero => rw [laws_markUint16S.l1] at H; cases H
    | succ k =>
      rw [laws_markUint16S.l1] at H
      refine CJ.seq ?_
      refine CJ.seq ?_
      refine CJ.region ?_
      refine OJ.pures tU_ok 4 rfl ?_
      refine OJ.nil (EJ.next ?_)
      refine CJ.cond rfl (fun hb => ?_) (fun hb => ?_)
      · replace H := pif_t (of_decide_eq_true hb) H
        refine CJ.skip (EJ.next ?_)
        refine CJ.seq ?_
        refine CJ.block ?_
        refine CJ.seq ?_
        refine CJ.region ?_
        refine OJ.pures tU_ok 4 rfl ?_
        obtain ⟨t6, ht6, H⟩ := pbind H
        obtain ⟨ad6, e6⟩ := (hS.rd (i := 0) rfl).some' ht6
        refine OJ.st rfl rfl rfl (SR.idxS tU_ok tI_ok rfl rfl rfl rfl e6 rfl (by have hg := (getI_some ht6).1; (first | rw [hl0] at hg | (simp only [List.length_set] at hg; rw [hl0] at hg)); exact hg)) ?_
        refine OJ.es rfl rfl (Es.storeR tI_ok hS (i := 0) (off := 0) rfl rfl ht6 e6 rfl rfl rfl rfl (vs := (ci .u16).enc (IntKind.u16.wrap y4)) rfl rfl (one1 rfl) (Nat.le_of_ble_eq_true rfl) (IntKind.u16.wrap y4) rfl) ?_
        intro w1 hS
        refine OJ.nil (EJ.next ?_)
        refine CJ.region ?_
        refine OJ.pures tU_ok 3 rfl ?_
        refine OJ.nil (EJ.blk (EJ.next ?_))
        refine CJ.region ?_
        refine OJ.pures tU_ok 3 rfl ?_
        refine OJ.nil ?_
        exact EJ.round k (F' := [(0, .slice Aa0 a0.length ca0), (1, .int .i64 (IntKind.i64.wrap (y4 + 1))), (5, .int .i64 (IntKind.i64.wrap (y5 + 1)))]) ⟨rfl, rfl, rfl, trivial⟩ (Nat.lt_succ_self _) ⟨(y3.set y5.toNat (IntKind.u16.wrap y4)), (IntKind.i64.wrap (y4 + 1)), (IntKind.i64.wrap (y5 + 1)), rfl, hS.pick [0] [] rfl, (by first | exact hl0 | (simp only [List.length_set]; exact hl0) | (simp only [List.length_set]; done)), H⟩
      · replace H := pif_f (of_decide_eq_false hb) H
        refine CJ.exit (EJ.skE (EJ.skE (EJ.hit (?_))))
        exact EJ.meet (F' := [(1, .int .i64 y4)]) ⟨rfl, trivial⟩ ⟨y3, y4, H, rfl, hS.pick [0] [] rfl, (by first | exact hl0 | (simp only [List.length_set]; exact hl0) | (simp only [List.length_set]; done))⟩
  · rintro F w1 ⟨y1, y2, he, rfl, hS, hl0⟩
    obtain rfl := Option.some.inj he
    have H := K96
    refine EJ.next ?_
    refine CJ.seq ?_
    refine CJ.region ?_
    refine OJ.pures tU_ok 2 rfl ?_
    refine OJ.nil (EJ.next ?_)
    refine CJ.ret (?_)
    obtain rfl := Option.some.inj H
    exact EJ.fin rfl (.tmp rfl .nil) ⟨rfl, hS.pick [0] [] rfl, (by first | exact hl0 | (simp only [List.length_set]; exact hl0) | (simp only [List.length_set]; done))⟩

def laws_markHerd.f (k : Nat) (a0 : Herd) (a1 : Int) : Option (Int × List ByteArray × List Int × List Int) := (laws_markStringS.f k a0.Names a1).bind fun t2 => (laws_markInt16S.f k a0.Eats t2.1).bind fun t3 => (laws_markUint16S.f k a0.Foes t3.1).bind fun t4 => some (t4.1, t2.2, t3.2, t4.2)
theorem laws_markHerd.c (k : Nat) (w : World) (Aa0_0 : Option Addr) (ca0_0 : Nat) (Aa0_1 : Option Addr) (ca0_1 : Nat) (Aa0_2 : Option Addr) (ca0_2 : Nat) (a0 : Herd) (a1 : Int) (hin : St w (fpU [rowC G.cs Aa0_0 ca0_0 9 a0.Names, rowC (ci .i16) Aa0_1 ca0_1 50 a0.Eats, rowC (ci .u16) Aa0_2 ca0_2 51 a0.Foes]) w [rowC G.cs Aa0_0 ca0_0 9 a0.Names, rowC (ci .i16) Aa0_1 ca0_1 50 a0.Eats, rowC (ci .u16) Aa0_2 ca0_2 51 a0.Foes] []) (r : Int × List ByteArray × List Int × List Int) (H : laws_markHerd.f k a0 a1 = some r) :
    CV Tryd.prog 14 [.agg [.slice Aa0_0 a0.Names.length ca0_0, .slice Aa0_1 a0.Eats.length ca0_1, .slice Aa0_2 a0.Foes.length ca0_2].toArray, .int .i64 a1].toArray w fun v w' => v = .int .i64 r.1 ∧ St w (fpU [rowC G.cs Aa0_0 ca0_0 9 a0.Names, rowC (ci .i16) Aa0_1 ca0_1 50 a0.Eats, rowC (ci .u16) Aa0_2 ca0_2 51 a0.Foes]) w' [rowC G.cs Aa0_0 ca0_0 9 r.2.1, rowC (ci .i16) Aa0_1 ca0_1 50 r.2.2.1, rowC (ci .u16) Aa0_2 ca0_2 51 r.2.2.2] [] ∧ r.2.1.length = a0.Names.length ∧ r.2.2.1.length = a0.Eats.length ∧ r.2.2.2.length = a0.Foes.length := by
  have hS := hin
  unfold laws_markHerd.f at H
  refine CV.body Tryd.func14 rfl Tryd.ntmps14 rfl ?_
  have hl0 : a0.Names.length = a0.Names.length := rfl
  have hl1 : a0.Eats.length = a0.Eats.length := rfl
  have hl2 : a0.Foes.length = a0.Foes.length := rfl
  refine CJ.seq ?_
  refine CJ.region ?_
  refine OJ.ef rfl rfl rfl (Ef.box hS rfl rfl ([.slice Aa0_0 a0.Names.length ca0_0, .slice Aa0_1 a0.Eats.length ca0_1, .slice Aa0_2 a0.Foes.length ca0_2]) rfl) ?_
  rintro _ w1 ⟨b1, rfl, hS⟩
  refine OJ.pures tU_ok 1 rfl ?_
  refine OJ.nil (EJ.next ?_)
  refine CJ.seq ?_
  refine CJ.region ?_
  refine OJ.st rfl rfl rfl (SR.fieldAddr tU_ok tI_ok rfl rfl rfl rfl rfl rfl) ?_
  refine OJ.st rfl rfl rfl (SR.load rfl rfl (fun w' hx => ld1 tU_ok rfl rfl (CA.ext (CA.sub (hS.cells (i := 3) rfl) 0) hx) rfl)) ?_
  refine OJ.pures tU_ok 1 rfl ?_
  obtain ⟨t2, ht2, H⟩ := pbind H
  refine OJ.callF rfl rfl rfl rfl rfl hb42 rfl (laws_markStringS.c k _ Aa0_0 ca0_0 a0.Names a1 ((hS.subs [0] [] [] rfl).pick [0] [] rfl) _ ht2) ?_
  rintro _ w1 ⟨rfl, hs, hlc0⟩
  replace hS := hS.back [0] rfl rfl [rowC G.cs Aa0_0 ca0_0 9 t2.2] [] hs ⟨fun _ => Iff.rfl, trivial⟩
  have hl0 := hlc0.trans (by first | exact hl0 | (simp only [List.length_set]; exact hl0) | (simp only [List.length_set]; done))
  refine OJ.pures tU_ok 1 rfl ?_
  refine OJ.nil (EJ.next ?_)
  refine CJ.seq ?_
  refine CJ.region ?_
  refine OJ.st rfl rfl rfl (SR.fieldAddr tU_ok tI_ok rfl rfl rfl rfl rfl rfl) ?_
  refine OJ.st rfl rfl rfl (SR.load rfl rfl (fun w' hx => ld1 tU_ok rfl rfl (CA.ext (CA.sub (hS.cells (i := 3) rfl) 1) hx) rfl)) ?_
  refine OJ.pures tU_ok 1 rfl ?_
  obtain ⟨t3, ht3, H⟩ := pbind H
  refine OJ.callF rfl rfl rfl rfl rfl hb43 rfl (laws_markInt16S.c k _ Aa0_1 ca0_1 a0.Eats t2.1 ((hS.subs [1] [] [] rfl).pick [0] [] rfl) _ ht3) ?_
  rintro _ w1 ⟨rfl, hs, hlc0⟩
  replace hS := hS.back [1] rfl rfl [rowC (ci .i16) Aa0_1 ca0_1 50 t3.2] [] hs ⟨fun _ => Iff.rfl, trivial⟩
  have hl1 := hlc0.trans (by first | exact hl1 | (simp only [List.length_set]; exact hl1) | (simp only [List.length_set]; done))
  refine OJ.pures tU_ok 1 rfl ?_
  refine OJ.nil (EJ.next ?_)
  refine CJ.seq ?_
  refine CJ.region ?_
  refine OJ.st rfl rfl rfl (SR.fieldAddr tU_ok tI_ok rfl rfl rfl rfl rfl rfl) ?_
  refine OJ.st rfl rfl rfl (SR.load rfl rfl (fun w' hx => ld1 tU_ok rfl rfl (CA.ext (CA.sub (hS.cells (i := 3) rfl) 2) hx) rfl)) ?_
  refine OJ.pures tU_ok 1 rfl ?_
  obtain ⟨t4, ht4, H⟩ := pbind H
  refine OJ.callF rfl rfl rfl rfl rfl hb44 rfl (laws_markUint16S.c k _ Aa0_2 ca0_2 a0.Foes t3.1 ((hS.subs [2] [] [] rfl).pick [0] [] rfl) _ ht4) ?_
  rintro _ w1 ⟨rfl, hs, hlc0⟩
  replace hS := hS.back [2] rfl rfl [rowC (ci .u16) Aa0_2 ca0_2 51 t4.2] [] hs ⟨fun _ => Iff.rfl, trivial⟩
  have hl2 := hlc0.trans (by first | exact hl2 | (simp only [List.length_set]; exact hl2) | (simp only [List.length_set]; done))
  refine OJ.pures tU_ok 1 rfl ?_
  refine OJ.nil (EJ.next ?_)
  refine CJ.seq ?_
  refine CJ.region ?_
  refine OJ.pures tU_ok 2 rfl ?_
  refine OJ.nil (EJ.next ?_)
  refine CJ.ret (?_)
  obtain rfl := Option.some.inj H
  exact EJ.fin rfl (.tmp rfl .nil) ⟨rfl, hS.pick [0, 1, 2] [] rfl, (by first | exact hl0 | (simp only [List.length_set]; exact hl0) | (simp only [List.length_set]; done)), (by first | exact hl1 | (simp only [List.length_set]; exact hl1) | (simp only [List.length_set]; done)), (by first | exact hl2 | (simp only [List.length_set]; exact hl2) | (simp only [List.length_set]; done))⟩

def laws_markInt64S.l1 (a0 : List Int) : Nat → (List Int) → Int → Int → Option ((List Int) × Int)
  | 0, _, _, _ => none
  | k + 1, y3, y4, y5 => if y5 < (a0.length : Int) then ((getI y3 y5).bind fun t6 => laws_markInt64S.l1 a0 k (y3.set y5.toNat y4) (IntKind.i64.wrap (y4 + 1)) (IntKind.i64.wrap (y5 + 1))) else (some (y3, y4))
def laws_markInt64S.f (k : Nat) (a0 : List Int) (a1 : Int) : Option (Int × List Int) := (laws_markInt64S.l1 a0 k a0 a1 0).bind fun (y1, y2) => some (y2, y1)
theorem laws_markInt64S.c (k : Nat) (w : World) (Aa0 : Option Addr) (ca0 : Nat) (a0 : List Int) (a1 : Int) (hin : St w (fpU [rowC (ci .i64) Aa0 ca0 2 a0]) w [rowC (ci .i64) Aa0 ca0 2 a0] []) (r : Int × List Int) (H : laws_markInt64S.f k a0 a1 = some r) :
    CV Tryd.prog 15 [.slice Aa0 a0.length ca0, .int .i64 a1].toArray w fun v w' => v = .int .i64 r.1 ∧ St w (fpU [rowC (ci .i64) Aa0 ca0 2 a0]) w' [rowC (ci .i64) Aa0 ca0 2 r.2] [] ∧ r.2.length = a0.length := by
  have hS := hin
  unfold laws_markInt64S.f at H
  refine CV.body Tryd.func15 rfl Tryd.ntmps15 rfl ?_
  have hl0 : a0.length = a0.length := rfl
  refine CJ.seq ?_
  refine CJ.region ?_
  refine OJ.pures tU_ok 1 rfl ?_
  refine OJ.nil (EJ.next ?_)
  refine CJ.seq ?_
  refine CJ.seq ?_
  refine CJ.region ?_
  refine OJ.pures tU_ok 1 rfl ?_
  refine OJ.nil (EJ.next ?_)
  obtain ⟨j98, H, K98⟩ := pbind H
  refine CJ.cut1 (fun F w1 => ∃ (y1 : List Int) (y2 : Int) , (some (y1, y2) : Option ((List Int) × Int)) = some j98 ∧ F = [(1, .int .i64 y2)] ∧ St w (fpU [rowC (ci .i64) Aa0 ca0 2 a0]) w1 [rowC (ci .i64) Aa0 ca0 2 y1] [] ∧ y1.length = a0.length) ?_ ?_
  · skip
    refine CJ.block ?_
    refine CJ.loop (fun k F w1 => ∃ (y3 : List Int) (y4 : Int) (y5 : Int), F = [(0, .slice Aa0 a0.length ca0), (1, .int .i64 y4), (5, .int .i64 y5)] ∧ St w (fpU [rowC (ci .i64) Aa0 ca0 2 a0]) w1 [rowC (ci .i64) Aa0 ca0 2 y3] [] ∧ y3.length = a0.length ∧ laws_markInt64S.l1 a0 k y3 y4 y5 = some j98) k (F' := [(0, .slice Aa0 a0.length ca0), (1, .int .i64 a1), (5, .int .i64 0)]) ⟨rfl, rfl, rfl, trivial⟩ ⟨a0, a1, 0, rfl, hS.pick [0] [] rfl, (by first | exact hl0 | (simp only [List.length_set]; exact hl0) | (simp only [List.length_set]; done)), H⟩ ?_
    rintro k F w1 ⟨y3, y4, y5, rfl, hS, hl0, H⟩
    cases k with
    | zero => rw [laws_markInt64S.l1] at H; cases H
    | succ k =>
      rw [laws_markInt64S.l1] at H
      refine CJ.seq ?_
      refine CJ.seq ?_
      refine CJ.region ?_
      refine OJ.pures tU_ok 4 rfl ?_
      refine OJ.nil (EJ.next ?_)
      refine CJ.cond rfl (fun hb => ?_) (fun hb => ?_)
      · replace H := pif_t (of_decide_eq_true hb) H
        refine CJ.skip (EJ.next ?_)
        refine CJ.seq ?_
        refine CJ.block ?_
        refine CJ.seq ?_
        refine CJ.region ?_
        refine OJ.pures tU_ok 3 rfl ?_
        obtain ⟨t6, ht6, H⟩ := pbind H
        obtain ⟨ad6, e6⟩ := (hS.rd (i := 0) rfl).some' ht6
        refine OJ.st rfl rfl rfl (SR.idxS tU_ok tI_ok rfl rfl rfl rfl e6 rfl (by have hg := (getI_some ht6).1; (first | rw [hl0] at hg | (simp only [List.length_set] at hg; rw [hl0] at hg)); exact hg)) ?_
        refine OJ.es rfl rfl (Es.storeR tI_ok hS (i := 0) (off := 0) rfl rfl ht6 e6 rfl rfl rfl rfl (vs := (ci .i64).enc y4) rfl rfl (one1 rfl) (Nat.le_of_ble_eq_true rfl) y4 rfl) ?_
        intro w1 hS
        refine OJ.nil (EJ.next ?_)
        refine CJ.region ?_
        refine OJ.pures tU_ok 3 rfl ?_
        refine OJ.nil (EJ.blk (EJ.next ?_))
        refine CJ.region ?_
        refine OJ.pures tU_ok 3 rfl ?_
        refine OJ.nil ?_
        exact EJ.round k (F' := [(0, .slice Aa0 a0.length ca0), (1, .int .i64 (IntKind.i64.wrap (y4 + 1))), (5, .int .i64 (IntKind.i64.wrap (y5 + 1)))]) ⟨rfl, rfl, rfl, trivial⟩ (Nat.lt_succ_self _) ⟨(y3.set y5.toNat y4), (IntKind.i64.wrap (y4 + 1)), (IntKind.i64.wrap (y5 + 1)), rfl, hS.pick [0] [] rfl, (by first | exact hl0 | (simp only [List.length_set]; exact hl0) | (simp only [List.length_set]; done)), H⟩
      · replace H := pif_f (of_decide_eq_false hb) H
        refine CJ.exit (EJ.skE (EJ.skE (EJ.hit (?_))))
        exact EJ.meet (F' := [(1, .int .i64 y4)]) ⟨rfl, trivial⟩ ⟨y3, y4, H, rfl, hS.pick [0] [] rfl, (by first | exact hl0 | (simp only [List.length_set]; exact hl0) | (simp only [List.length_set]; done))⟩
  · rintro F w1 ⟨y1, y2, he, rfl, hS, hl0⟩
    obtain rfl := Option.some.inj he
    have H := K98
    refine EJ.next ?_
    refine CJ.seq ?_
    refine CJ.region ?_
    refine OJ.pures tU_ok 2 rfl ?_
    refine OJ.nil (EJ.next ?_)
    refine CJ.ret (?_)
    obtain rfl := Option.some.inj H
    exact EJ.fin rfl (.tmp rfl .nil) ⟨rfl, hS.pick [0] [] rfl, (by first | exact hl0 | (simp only [List.length_set]; exact hl0) | (simp only [List.length_set]; done))⟩

def laws_heldInt64S.l1 (a0 : List Int) : Nat → Int → Int → Option (Int ⊕ Int)
  | 0, _, _ => none
  | k + 1, y2, y3 => if y3 < (a0.length : Int) then ((getI a0 y3).bind fun t4 => if t4 ≠ y2 then (some (Sum.inl (-1))) else (laws_heldInt64S.l1 a0 k (IntKind.i64.wrap (y2 + 1)) (IntKind.i64.wrap (y3 + 1)))) else (some (Sum.inr y2))
def laws_heldInt64S.f (k : Nat) (a0 : List Int) (a1 : Int) : Option Int := (laws_heldInt64S.l1 a0 k a1 0).bind fun s100 => match s100 with | .inl r => some r | .inr y1 => some y1
theorem laws_heldInt64S.c (k : Nat) (w : World) (Aa0 : Option Addr) (ca0 : Nat) (a0 : List Int) (hr0 : Rd (ci .i64) w Aa0 a0) (hc0 : a0.length ≤ ca0) (a1 : Int) (r : Int) (H : laws_heldInt64S.f k a0 a1 = some r) :
    CV Tryd.prog 19 [.slice Aa0 a0.length ca0, .int .i64 a1].toArray w fun v w' => v = .int .i64 r ∧ Ext w w' := by
  have hS := ((St.init w no).param (ci .i64) Aa0 ca0 a0 hr0 hc0)
  unfold laws_heldInt64S.f at H
  refine CV.body Tryd.func19 rfl Tryd.ntmps19 rfl ?_
  refine CJ.seq ?_
  refine CJ.region ?_
  refine OJ.pures tU_ok 1 rfl ?_
  refine OJ.nil (EJ.next ?_)
  refine CJ.seq ?_
  refine CJ.seq ?_
  refine CJ.region ?_
  refine OJ.pures tU_ok 1 rfl ?_
  refine OJ.nil (EJ.next ?_)
  obtain ⟨j100, H, K100⟩ := pbind H
  refine CJ.cut1 (fun F w1 => ∃ (y1 : Int) , (some (Sum.inr y1) : Option (Int ⊕ Int)) = some j100 ∧ F = [(1, .int .i64 y1)] ∧ St w no w1 [] [roC (ci .i64) Aa0 ca0 a0]) ?_ ?_
  · skip
    refine CJ.block ?_
    refine CJ.loop (fun k F w1 => ∃ (y2 : Int) (y3 : Int), F = [(0, .slice Aa0 a0.length ca0), (1, .int .i64 y2), (5, .int .i64 y3)] ∧ St w no w1 [] [roC (ci .i64) Aa0 ca0 a0] ∧ laws_heldInt64S.l1 a0 k y2 y3 = some j100) k (F' := [(0, .slice Aa0 a0.length ca0), (1, .int .i64 a1), (5, .int .i64 0)]) ⟨rfl, rfl, rfl, trivial⟩ ⟨a1, 0, rfl, hS.pick [] [0] rfl, H⟩ ?_
    rintro k F w1 ⟨y2, y3, rfl, hS, H⟩
    cases k with
    | zero => rw [laws_heldInt64S.l1] at H; cases H
    | succ k =>
      rw [laws_heldInt64S.l1] at H
      refine CJ.seq ?_
      refine CJ.seq ?_
      refine CJ.region ?_
      refine OJ.pures tU_ok 4 rfl ?_
      refine OJ.nil (EJ.next ?_)
      refine CJ.cond rfl (fun hb => ?_) (fun hb => ?_)
      · replace H := pif_t (of_decide_eq_true hb) H
        refine CJ.skip (EJ.next ?_)
        refine CJ.seq ?_
        refine CJ.block ?_
        refine CJ.seq ?_
        refine CJ.seq ?_
        refine CJ.region ?_
        refine OJ.pures tU_ok 2 rfl ?_
        obtain ⟨t4, ht4, H⟩ := pbind H
        obtain ⟨ad4, e4⟩ := (hS.rd' (i := 0) rfl).some' ht4
        refine OJ.st rfl rfl rfl (SR.idxS tU_ok tI_ok rfl rfl rfl rfl e4 rfl (getI_some ht4).1) ?_
        refine OJ.st rfl rfl rfl (SR.load rfl rfl (fun w' hx => ld1 tU_ok rfl rfl (CA.ext ((hS.rd' (i := 0) rfl).at_ e4 ht4) hx) rfl)) ?_
        refine OJ.pures tU_ok 2 rfl ?_
        refine OJ.nil (EJ.next ?_)
        refine CJ.cond rfl (fun hb => ?_) (fun hb => ?_)
        · replace H := pif_t (of_decide_eq_true hb) H
          refine CJ.seq ?_
          refine CJ.region ?_
          refine OJ.pures tU_ok 1 rfl ?_
          refine OJ.nil (EJ.next ?_)
          refine CJ.ret (EJ.skR (EJ.bkR (EJ.skR (EJ.skR (EJ.bkR (EJ.skR (EJ.skR (?_))))))))
          first | (obtain rfl := Option.some.inj H; have H := K100) | (obtain ⟨q100, H2, e100⟩ := pbind H; obtain rfl := Option.some.inj e100; obtain rfl := Option.some.inj K100; have H := H2)
          obtain rfl := Option.some.inj H
          exact EJ.fin rfl (.tmp rfl .nil) ⟨rfl, hS.ext⟩
        · replace H := pif_f (of_decide_eq_false hb) H
          refine CJ.skip (EJ.next ?_)
          refine CJ.region ?_
          refine OJ.pures tU_ok 3 rfl ?_
          refine OJ.nil (EJ.blk (EJ.next ?_))
          refine CJ.region ?_
          refine OJ.pures tU_ok 3 rfl ?_
          refine OJ.nil ?_
          exact EJ.round k (F' := [(0, .slice Aa0 a0.length ca0), (1, .int .i64 (IntKind.i64.wrap (y2 + 1))), (5, .int .i64 (IntKind.i64.wrap (y3 + 1)))]) ⟨rfl, rfl, rfl, trivial⟩ (Nat.lt_succ_self _) ⟨(IntKind.i64.wrap (y2 + 1)), (IntKind.i64.wrap (y3 + 1)), rfl, hS.pick [] [0] rfl, H⟩
      · replace H := pif_f (of_decide_eq_false hb) H
        refine CJ.exit (EJ.skE (EJ.skE (EJ.hit (?_))))
        exact EJ.meet (F' := [(1, .int .i64 y2)]) ⟨rfl, trivial⟩ ⟨y2, H, rfl, hS.pick [] [0] rfl⟩
  · rintro F w1 ⟨y1, he, rfl, hS⟩
    obtain rfl := Option.some.inj he
    have H := K100
    refine EJ.next ?_
    refine CJ.seq ?_
    refine CJ.region ?_
    refine OJ.pures tU_ok 2 rfl ?_
    refine OJ.nil (EJ.next ?_)
    refine CJ.ret (?_)
    obtain rfl := Option.some.inj H
    exact EJ.fin rfl (.tmp rfl .nil) ⟨rfl, hS.ext⟩

def laws_FnExactGreedyGroups.f (k : Nat) (a0 : Herd) (a1 : List Int) : Option Bool := if 1048576 < (a1.length : Int) then (some true) else ((laws_szHerd.f k a0 1048576).bind fun t2 => if t2 < 0 then (some true) else ((laws_toHerd.f k a0).bind fun t3 => (laws_toInt64S.f k a1).bind fun t10 => (spec_GreedyGroups.f k t3 t10).bind fun t13 => (laws_toHerd.f k a0).bind fun t16 => (laws_toInt64S.f k a1).bind fun t24 => (impl_GreedyGroups.f k t16 t24).bind fun t27 => ((laws_eqInt64S.f k t27.1 t13.1).bind fun t31 => if (!t31) = true then (some true) else (some (decide (t27.2 ≠ t13.2)))).bind fun y30 => if y30 = true then (some false) else ((laws_toHerd.f k a0).bind fun t32 => (laws_eqHerd.f k t16 t32).bind fun t39 => if (!t39) = true then (some false) else ((laws_toInt64S.f k a1).bind fun t40 => (laws_eqInt64S.f k t24 t40).bind fun t43 => if (!t43) = true then (some false) else ((laws_markHerd.f k t16 1).bind fun t44 => (laws_markInt64S.f k t24 t44.1).bind fun t45 => (if t45.1 < 0 then (some true) else ((laws_eqInt64S.f k t27.1 t13.1).bind fun t47 => if (!t47) = true then (some true) else (some (decide (t27.2 ≠ t13.2))))).bind fun y46 => if y46 = true then (some false) else ((laws_markInt64S.f k t27.1 1).bind fun t48 => (laws_heldInt64S.f k t48.2 1).bind fun t49 => if t49 < 0 then (some false) else (if t49 ≠ t48.1 then (some false) else ((laws_toHerd.f k a0).bind fun t50 => (laws_toInt64S.f k a1).bind fun t57 => (impl_GreedyGroups.f k t50 t57).bind fun t60 => ((laws_eqInt64S.f k t60.1 t13.1).bind fun t64 => if (!t64) = true then (some true) else (some (decide (t60.2 ≠ t13.2)))).bind fun y63 => if y63 = true then (some false) else ((laws_heldInt64S.f k t48.2 1).bind fun t65 => if t65 < 0 then (some false) else (if t65 ≠ t48.1 then (some false) else (some true)))))))))))
theorem laws_FnExactGreedyGroups.c (k : Nat) (w : World) (Aa0_0 : Option Addr) (ca0_0 : Nat) (Aa0_1 : Option Addr) (ca0_1 : Nat) (Aa0_2 : Option Addr) (ca0_2 : Nat) (a0 : Herd) (hr0_0 : Rd G.cs w Aa0_0 a0.Names) (hc0_0 : a0.Names.length ≤ ca0_0) (hr0_1 : Rd (ci .i16) w Aa0_1 a0.Eats) (hc0_1 : a0.Eats.length ≤ ca0_1) (hr0_2 : Rd (ci .u16) w Aa0_2 a0.Foes) (hc0_2 : a0.Foes.length ≤ ca0_2) (Aa1 : Option Addr) (ca1 : Nat) (a1 : List Int) (hr1 : Rd (ci .i64) w Aa1 a1) (hc1 : a1.length ≤ ca1) (r : Bool) (H : laws_FnExactGreedyGroups.f k a0 a1 = some r) :
    CV Tryd.prog 4 [.agg [.slice Aa0_0 a0.Names.length ca0_0, .slice Aa0_1 a0.Eats.length ca0_1, .slice Aa0_2 a0.Foes.length ca0_2].toArray, .slice Aa1 a1.length ca1].toArray w fun v w' => v = .bool r ∧ Ext w w' := by
  have hS := (((((St.init w no).param G.cs Aa0_0 ca0_0 a0.Names hr0_0 hc0_0).param (ci .i16) Aa0_1 ca0_1 a0.Eats hr0_1 hc0_1).param (ci .u16) Aa0_2 ca0_2 a0.Foes hr0_2 hc0_2).param (ci .i64) Aa1 ca1 a1 hr1 hc1)
  unfold laws_FnExactGreedyGroups.f at H
  refine CV.body Tryd.func4 rfl Tryd.ntmps4 rfl ?_
  refine CJ.seq ?_
  refine CJ.region ?_
  refine OJ.ef rfl rfl rfl (Ef.box hS rfl rfl ([.slice Aa0_0 a0.Names.length ca0_0, .slice Aa0_1 a0.Eats.length ca0_1, .slice Aa0_2 a0.Foes.length ca0_2]) rfl) ?_
  rintro _ w1 ⟨b1, rfl, hS⟩
  refine OJ.pures tU_ok 1 rfl ?_
  refine OJ.nil (EJ.next ?_)
  refine CJ.seq ?_
  refine CJ.seq ?_
  refine CJ.region ?_
  refine OJ.pures tU_ok 3 rfl ?_
  refine OJ.nil (EJ.next ?_)
  refine CJ.cond rfl (fun hb => ?_) (fun hb => ?_)
  · replace H := pif_t (of_decide_eq_true hb) H
    refine CJ.seq ?_
    refine CJ.region ?_
    refine OJ.pures tU_ok 1 rfl ?_
    refine OJ.nil (EJ.next ?_)
    refine CJ.ret (EJ.skR (?_))
    obtain rfl := Option.some.inj H
    exact EJ.fin rfl (.tmp rfl .nil) ⟨rfl, hS.ext⟩
  · replace H := pif_f (of_decide_eq_false hb) H
    refine CJ.skip (EJ.next ?_)
    refine CJ.seq ?_
    refine CJ.region ?_
    refine OJ.pures tU_ok 1 rfl ?_
    refine OJ.nil (EJ.next ?_)
    refine CJ.seq ?_
    refine CJ.region ?_
    refine OJ.st rfl rfl rfl (SR.load rfl rfl (fun w' hx => ldN tU_ok tI_ok rfl rfl rfl (CA.ext (hS.cells (i := 0) rfl) hx) (ds := [.slice Aa0_0 a0.Names.length ca0_0, .slice Aa0_1 a0.Eats.length ca0_1, .slice Aa0_2 a0.Foes.length ca0_2]) rfl rfl)) ?_
    refine OJ.pures tU_ok 1 rfl ?_
    obtain ⟨t2, ht2, H⟩ := pbind H
    refine OJ.callF rfl rfl rfl rfl rfl hb7 rfl (laws_szHerd.c k _ Aa0_0 ca0_0 Aa0_1 ca0_1 Aa0_2 ca0_2 a0 (hS.rd' (i := 0) rfl) (hS.le' (i := 0) rfl) (hS.rd' (i := 1) rfl) (hS.le' (i := 1) rfl) (hS.rd' (i := 2) rfl) (hS.le' (i := 2) rfl) 1048576 _ ht2) ?_
    rintro _ w1 ⟨rfl, hs⟩
    replace hS := hS.grow hs
    refine OJ.pures tU_ok 1 rfl ?_
    refine OJ.nil (EJ.next ?_)
    refine CJ.seq ?_
    refine CJ.seq ?_
    refine CJ.region ?_
    refine OJ.pures tU_ok 2 rfl ?_
    refine OJ.nil (EJ.next ?_)
    refine CJ.cond rfl (fun hb => ?_) (fun hb => ?_)
    · replace H := pif_t (of_decide_eq_true hb) H
      refine CJ.seq ?_
      refine CJ.region ?_
      refine OJ.pures tU_ok 1 rfl ?_
      refine OJ.nil (EJ.next ?_)
      refine CJ.ret (EJ.skR (?_))
      obtain rfl := Option.some.inj H
      exact EJ.fin rfl (.tmp rfl .nil) ⟨rfl, hS.ext⟩
    · replace H := pif_f (of_decide_eq_false hb) H
      refine CJ.skip (EJ.next ?_)
      refine CJ.seq ?_
      refine CJ.region ?_
      refine OJ.st rfl rfl rfl (SR.load rfl rfl (fun w' hx => ldN tU_ok tI_ok rfl rfl rfl (CA.ext (hS.cells (i := 0) rfl) hx) (ds := [.slice Aa0_0 a0.Names.length ca0_0, .slice Aa0_1 a0.Eats.length ca0_1, .slice Aa0_2 a0.Foes.length ca0_2]) rfl rfl)) ?_
      obtain ⟨t3, ht3, H⟩ := pbind H
      refine OJ.callF rfl rfl rfl rfl rfl hb9 rfl (laws_toHerd.c k _ Aa0_0 ca0_0 Aa0_1 ca0_1 Aa0_2 ca0_2 a0 (hS.rd' (i := 0) rfl) (hS.le' (i := 0) rfl) (hS.rd' (i := 1) rfl) (hS.le' (i := 1) rfl) (hS.rd' (i := 2) rfl) (hS.le' (i := 2) rfl) _ ht3) ?_
      rintro _ w1 ⟨A4, c5, A6, c7, A8, c9, rfl, hs⟩
      replace hS := hS.addN hs
      refine OJ.pures tU_ok 1 rfl ?_
      obtain ⟨t10, ht10, H⟩ := pbind H
      refine OJ.callF rfl rfl rfl rfl rfl hb10 rfl (laws_toInt64S.c k _ Aa1 ca1 a1 (hS.rd' (i := 3) rfl) (hS.le' (i := 3) rfl) _ ht10) ?_
      rintro _ w1 ⟨A11, c12, rfl, hs⟩
      replace hS := hS.addN hs
      obtain ⟨t13, ht13, H⟩ := pbind H
      refine OJ.callF rfl rfl rfl rfl rfl hb17 rfl (spec_GreedyGroups.c k _ A4 c5 A6 c7 A8 c9 t3 (hS.rd (i := 1) rfl) (hS.le (i := 1) rfl) (hS.rd (i := 2) rfl) (hS.le (i := 2) rfl) (hS.rd (i := 3) rfl) (hS.le (i := 3) rfl) A11 c12 t10 (hS.rd (i := 4) rfl) (hS.le (i := 4) rfl) _ ht13) ?_
      rintro _ w1 ⟨A14, c15, rfl, hs⟩
      replace hS := hS.addN hs
      have hS : St w no w1 [box b1 ([.slice Aa0_0 a0.Names.length ca0_0, .slice Aa0_1 a0.Eats.length ca0_1, .slice Aa0_2 a0.Foes.length ca0_2]) 26, rowC G.cs A4 c5 9 t3.Names, rowC (ci .i16) A6 c7 50 t3.Eats, rowC (ci .u16) A8 c9 51 t3.Foes, rowC (ci .i64) A11 c12 2 t10, rowC (ci .i64) A14 c15 2 t13.1] [roC G.cs Aa0_0 ca0_0 a0.Names, roC (ci .i16) Aa0_1 ca0_1 a0.Eats, roC (ci .u16) Aa0_2 ca0_2 a0.Foes, roC (ci .i64) Aa1 ca1 a1] := hS
      refine OJ.pures tU_ok 5 rfl ?_
      refine OJ.nil (EJ.next ?_)
      refine CJ.seq ?_
      refine CJ.region ?_
      refine OJ.st rfl rfl rfl (SR.load rfl rfl (fun w' hx => ldN tU_ok tI_ok rfl rfl rfl (CA.ext (hS.cells (i := 0) rfl) hx) (ds := [.slice Aa0_0 a0.Names.length ca0_0, .slice Aa0_1 a0.Eats.length ca0_1, .slice Aa0_2 a0.Foes.length ca0_2]) rfl rfl)) ?_
      obtain ⟨t16, ht16, H⟩ := pbind H
      refine OJ.callF rfl rfl rfl rfl rfl hb9 rfl (laws_toHerd.c k _ Aa0_0 ca0_0 Aa0_1 ca0_1 Aa0_2 ca0_2 a0 (hS.rd' (i := 0) rfl) (hS.le' (i := 0) rfl) (hS.rd' (i := 1) rfl) (hS.le' (i := 1) rfl) (hS.rd' (i := 2) rfl) (hS.le' (i := 2) rfl) _ ht16) ?_
      rintro _ w1 ⟨A17, c18, A19, c20, A21, c22, rfl, hs⟩
      replace hS := hS.addN hs
      have hS : St w no w1 [box b1 ([.slice Aa0_0 a0.Names.length ca0_0, .slice Aa0_1 a0.Eats.length ca0_1, .slice Aa0_2 a0.Foes.length ca0_2]) 26, rowC G.cs A4 c5 9 t3.Names, rowC (ci .i16) A6 c7 50 t3.Eats, rowC (ci .u16) A8 c9 51 t3.Foes, rowC (ci .i64) A11 c12 2 t10, rowC (ci .i64) A14 c15 2 t13.1, rowC G.cs A17 c18 9 t16.Names, rowC (ci .i16) A19 c20 50 t16.Eats, rowC (ci .u16) A21 c22 51 t16.Foes] [roC G.cs Aa0_0 ca0_0 a0.Names, roC (ci .i16) Aa0_1 ca0_1 a0.Eats, roC (ci .u16) Aa0_2 ca0_2 a0.Foes, roC (ci .i64) Aa1 ca1 a1] := hS
      refine OJ.ef rfl rfl rfl (Ef.alloc hS tI_ok rfl rfl ([.slice none 0 0, .slice none 0 0, .slice none 0 0]) rfl) ?_
      rintro _ w1 ⟨b23, rfl, hS⟩
      refine OJ.es rfl rfl (Es.store tI_ok hS (i := 9) (vs := [.slice A17 t16.Names.length c18, .slice A19 t16.Eats.length c20, .slice A21 t16.Foes.length c22]) rfl rfl rfl rfl rfl rfl rfl rfl (by intro u hu; simp only [List.mem_cons, List.not_mem_nil, or_false] at hu; rcases hu with rfl | rfl | rfl <;> rfl) (Nat.le_of_ble_eq_true rfl) ([.slice A17 t16.Names.length c18, .slice A19 t16.Eats.length c20, .slice A21 t16.Foes.length c22]) rfl) ?_
      intro w1 hS
      refine OJ.nil (EJ.next ?_)
      refine CJ.seq ?_
      refine CJ.region ?_
      refine OJ.pures tU_ok 1 rfl ?_
      obtain ⟨t24, ht24, H⟩ := pbind H
      refine OJ.callF rfl rfl rfl rfl rfl hb10 rfl (laws_toInt64S.c k _ Aa1 ca1 a1 (hS.rd' (i := 3) rfl) (hS.le' (i := 3) rfl) _ ht24) ?_
      rintro _ w1 ⟨A25, c26, rfl, hs⟩
      replace hS := hS.addN hs
      have hS : St w no w1 [box b1 ([.slice Aa0_0 a0.Names.length ca0_0, .slice Aa0_1 a0.Eats.length ca0_1, .slice Aa0_2 a0.Foes.length ca0_2]) 26, rowC G.cs A4 c5 9 t3.Names, rowC (ci .i16) A6 c7 50 t3.Eats, rowC (ci .u16) A8 c9 51 t3.Foes, rowC (ci .i64) A11 c12 2 t10, rowC (ci .i64) A14 c15 2 t13.1, rowC G.cs A17 c18 9 t16.Names, rowC (ci .i16) A19 c20 50 t16.Eats, rowC (ci .u16) A21 c22 51 t16.Foes, box b23 ([.slice A17 t16.Names.length c18, .slice A19 t16.Eats.length c20, .slice A21 t16.Foes.length c22]) 29, rowC (ci .i64) A25 c26 2 t24] [roC G.cs Aa0_0 ca0_0 a0.Names, roC (ci .i16) Aa0_1 ca0_1 a0.Eats, roC (ci .u16) Aa0_2 ca0_2 a0.Foes, roC (ci .i64) Aa1 ca1 a1] := hS
      refine OJ.pures tU_ok 1 rfl ?_
      refine OJ.nil (EJ.next ?_)
      refine CJ.seq ?_
      refine CJ.region ?_
      refine OJ.st rfl rfl rfl (SR.load rfl rfl (fun w' hx => ldN tU_ok tI_ok rfl rfl rfl (CA.ext (hS.cells (i := 9) rfl) hx) (ds := [.slice A17 t16.Names.length c18, .slice A19 t16.Eats.length c20, .slice A21 t16.Foes.length c22]) rfl rfl)) ?_
      refine OJ.pures tU_ok 1 rfl ?_
      obtain ⟨t27, ht27, H⟩ := pbind H
      refine OJ.callF rfl rfl rfl rfl rfl hb18 rfl (impl_GreedyGroups.c k _ A17 c18 A19 c20 A21 c22 t16 (hS.rd (i := 6) rfl) (hS.le (i := 6) rfl) (hS.rd (i := 7) rfl) (hS.le (i := 7) rfl) (hS.rd (i := 8) rfl) (hS.le (i := 8) rfl) A25 c26 t24 (hS.rd (i := 10) rfl) (hS.le (i := 10) rfl) _ ht27) ?_
      rintro _ w1 ⟨A28, c29, rfl, hs⟩
      replace hS := hS.addN hs
      have hS : St w no w1 [box b1 ([.slice Aa0_0 a0.Names.length ca0_0, .slice Aa0_1 a0.Eats.length ca0_1, .slice Aa0_2 a0.Foes.length ca0_2]) 26, rowC G.cs A4 c5 9 t3.Names, rowC (ci .i16) A6 c7 50 t3.Eats, rowC (ci .u16) A8 c9 51 t3.Foes, rowC (ci .i64) A11 c12 2 t10, rowC (ci .i64) A14 c15 2 t13.1, rowC G.cs A17 c18 9 t16.Names, rowC (ci .i16) A19 c20 50 t16.Eats, rowC (ci .u16) A21 c22 51 t16.Foes, box b23 ([.slice A17 t16.Names.length c18, .slice A19 t16.Eats.length c20, .slice A21 t16.Foes.length c22]) 29, rowC (ci .i64) A25 c26 2 t24, rowC (ci .i64) A28 c29 2 t27.1] [roC G.cs Aa0_0 ca0_0 a0.Names, roC (ci .i16) Aa0_1 ca0_1 a0.Eats, roC (ci .u16) Aa0_2 ca0_2 a0.Foes, roC (ci .i64) Aa1 ca1 a1] := hS
      refine OJ.pures tU_ok 5 rfl ?_
      refine OJ.nil (EJ.next ?_)
      refine CJ.seq ?_
      obtain ⟨j85, H, K85⟩ := pbind H
      refine CJ.cut (fun F w1 => ∃ (y30 : Bool) , (some y30 : Option Bool) = some j85 ∧ F = [(1, .slice Aa1 a1.length ca1), (2, .pointer (some ⟨b1, 0, none⟩)), (6, .slice A14 t13.1.length c15), (7, .int .i64 t13.2), (8, .pointer (some ⟨b23, 0, none⟩)), (9, .slice A25 t24.length c26), (10, .slice A28 t27.1.length c29), (11, .int .i64 t27.2), (51, .bool y30)] ∧ St w no w1 [box b1 ([.slice Aa0_0 a0.Names.length ca0_0, .slice Aa0_1 a0.Eats.length ca0_1, .slice Aa0_2 a0.Foes.length ca0_2]) 26, rowC (ci .i64) A14 c15 2 t13.1, rowC G.cs A17 c18 9 t16.Names, rowC (ci .i16) A19 c20 50 t16.Eats, rowC (ci .u16) A21 c22 51 t16.Foes, box b23 ([.slice A17 t16.Names.length c18, .slice A19 t16.Eats.length c20, .slice A21 t16.Foes.length c22]) 29, rowC (ci .i64) A25 c26 2 t24, rowC (ci .i64) A28 c29 2 t27.1] [roC G.cs Aa0_0 ca0_0 a0.Names, roC (ci .i16) Aa0_1 ca0_1 a0.Eats, roC (ci .u16) Aa0_2 ca0_2 a0.Foes, roC (ci .i64) Aa1 ca1 a1]) ?_ ?_
      · skip
        refine CJ.region ?_
        refine OJ.pures tU_ok 2 rfl ?_
        obtain ⟨t31, ht31, H⟩ := pbind H
        refine OJ.callF rfl rfl rfl rfl rfl hb13 rfl (laws_eqInt64S.c k _ A28 c29 t27.1 (hS.rd (i := 11) rfl) (hS.le (i := 11) rfl) A14 c15 t13.1 (hS.rd (i := 5) rfl) (hS.le (i := 5) rfl) _ ht31) ?_
        rintro _ w1 ⟨rfl, hs⟩
        replace hS := hS.grow hs
        refine OJ.pures tU_ok 2 rfl ?_
        refine OJ.split (t := 47) rfl (fun hb => ?_) (fun hb => ?_)
        · replace H := pif_t hb H
          refine OJ.pures tU_ok 4 rfl ?_
          refine OJ.nil ?_
          exact EJ.meet (F' := [(1, .slice Aa1 a1.length ca1), (2, .pointer (some ⟨b1, 0, none⟩)), (6, .slice A14 t13.1.length c15), (7, .int .i64 t13.2), (8, .pointer (some ⟨b23, 0, none⟩)), (9, .slice A25 t24.length c26), (10, .slice A28 t27.1.length c29), (11, .int .i64 t27.2), (51, .bool true)]) ⟨rfl, rfl, rfl, rfl, rfl, rfl, rfl, rfl, rfl, trivial⟩ ⟨true, H, rfl, hS.pick [0, 5, 6, 7, 8, 9, 10, 11] [0, 1, 2, 3] rfl⟩
        · replace H := pifb_f hb H
          refine OJ.pures tU_ok 4 rfl ?_
          refine OJ.nil ?_
          exact EJ.meet (F' := [(1, .slice Aa1 a1.length ca1), (2, .pointer (some ⟨b1, 0, none⟩)), (6, .slice A14 t13.1.length c15), (7, .int .i64 t13.2), (8, .pointer (some ⟨b23, 0, none⟩)), (9, .slice A25 t24.length c26), (10, .slice A28 t27.1.length c29), (11, .int .i64 t27.2), (51, .bool (decide (t27.2 ≠ t13.2)))]) ⟨rfl, rfl, rfl, rfl, rfl, rfl, rfl, rfl, rfl, trivial⟩ ⟨(decide (t27.2 ≠ t13.2)), H, rfl, hS.pick [0, 5, 6, 7, 8, 9, 10, 11] [0, 1, 2, 3] rfl⟩
      · rintro F w1 ⟨y30, he, rfl, hS⟩
        obtain rfl := Option.some.inj he
        have H := K85
        refine CJ.cond rfl (fun hb => ?_) (fun hb => ?_)
        · replace H := pif_t hb H
          refine CJ.seq ?_
          refine CJ.region ?_
          refine OJ.pures tU_ok 1 rfl ?_
          refine OJ.nil (EJ.next ?_)
          refine CJ.ret (EJ.skR (?_))
          obtain rfl := Option.some.inj H
          exact EJ.fin rfl (.tmp rfl .nil) ⟨rfl, hS.ext⟩
        · replace H := pifb_f hb H
          refine CJ.skip (EJ.next ?_)
          refine CJ.seq ?_
          refine CJ.seq ?_
          refine CJ.draw [] [0, 1, 2, 3, 4] mixed (by kernel_rfl) hS fun w1 hS => ?_
          refine DJ.st rfl rfl rfl rfl rfl (SR.load rfl rfl (fun w' hx => ldN tU_ok tI_ok rfl rfl rfl (CA.ext (hS.cells (i := 5) rfl) hx) (ds := [.slice A17 t16.Names.length c18, .slice A19 t16.Eats.length c20, .slice A21 t16.Foes.length c22]) rfl rfl)) ?_
          refine DJ.st rfl rfl rfl rfl rfl (SR.load rfl rfl (fun w' hx => ldN tU_ok tI_ok rfl rfl rfl (CA.ext (hS.cells (i := 0) rfl) hx) (ds := [.slice Aa0_0 a0.Names.length ca0_0, .slice Aa0_1 a0.Eats.length ca0_1, .slice Aa0_2 a0.Foes.length ca0_2]) rfl rfl)) ?_
          obtain ⟨t32, ht32, H⟩ := pbind H
          refine DJ.callF rfl rfl rfl rfl rfl rfl rfl hb9 rfl (laws_toHerd.c k _ Aa0_0 ca0_0 Aa0_1 ca0_1 Aa0_2 ca0_2 a0 (hS.rd' (i := 0) rfl) (hS.le' (i := 0) rfl) (hS.rd' (i := 1) rfl) (hS.le' (i := 1) rfl) (hS.rd' (i := 2) rfl) (hS.le' (i := 2) rfl) _ ht32) (by rintro v w' ⟨A33, c34, A35, c36, A37, c38, rfl, hs⟩; exact hs.ext) ?_
          rintro _ w1 ⟨A33, c34, A35, c36, A37, c38, rfl, hs⟩
          replace hS := hS.addN hs
          have hS : St w no w1 [box b1 ([.slice Aa0_0 a0.Names.length ca0_0, .slice Aa0_1 a0.Eats.length ca0_1, .slice Aa0_2 a0.Foes.length ca0_2]) 26, rowC (ci .i64) A14 c15 2 t13.1, rowC G.cs A17 c18 9 t16.Names, rowC (ci .i16) A19 c20 50 t16.Eats, rowC (ci .u16) A21 c22 51 t16.Foes, box b23 ([.slice A17 t16.Names.length c18, .slice A19 t16.Eats.length c20, .slice A21 t16.Foes.length c22]) 29, rowC (ci .i64) A25 c26 2 t24, rowC (ci .i64) A28 c29 2 t27.1, rowC G.cs A33 c34 9 t32.Names, rowC (ci .i16) A35 c36 50 t32.Eats, rowC (ci .u16) A37 c38 51 t32.Foes] [roC G.cs Aa0_0 ca0_0 a0.Names, roC (ci .i16) Aa0_1 ca0_1 a0.Eats, roC (ci .u16) Aa0_2 ca0_2 a0.Foes, roC (ci .i64) Aa1 ca1 a1] := hS
          obtain ⟨t39, ht39, H⟩ := pbind H
          refine DJ.callF rfl rfl rfl rfl rfl rfl rfl hb12 rfl (laws_eqHerd.c k _ A17 c18 A19 c20 A21 c22 t16 (hS.rd (i := 2) rfl) (hS.le (i := 2) rfl) (hS.rd (i := 3) rfl) (hS.le (i := 3) rfl) (hS.rd (i := 4) rfl) (hS.le (i := 4) rfl) A33 c34 A35 c36 A37 c38 t32 (hS.rd (i := 8) rfl) (hS.le (i := 8) rfl) (hS.rd (i := 9) rfl) (hS.le (i := 9) rfl) (hS.rd (i := 10) rfl) (hS.le (i := 10) rfl) _ ht39) (by rintro v w' ⟨rfl, hs⟩; exact hs) ?_
          rintro _ w1 ⟨rfl, hs⟩
          replace hS := hS.grow hs
          refine DJ.pures tU_ok 1 rfl ?_
          refine DJ.nil (EJ.next ?_)
          refine CJ.cond rfl (fun hb => ?_) (fun hb => ?_)
          · replace H := pif_t hb H
            refine CJ.seq ?_
            refine CJ.region ?_
            refine OJ.pures tU_ok 1 rfl ?_
            refine OJ.nil (EJ.next ?_)
            refine CJ.ret (EJ.skR (?_))
            obtain rfl := Option.some.inj H
            exact EJ.fin rfl (.tmp rfl .nil) ⟨rfl, hS.ext⟩
          · replace H := pifb_f hb H
            refine CJ.skip (EJ.next ?_)
            refine CJ.seq ?_
            refine CJ.seq ?_
            refine CJ.region ?_
            refine OJ.pures tU_ok 2 rfl ?_
            obtain ⟨t40, ht40, H⟩ := pbind H
            refine OJ.callF rfl rfl rfl rfl rfl hb10 rfl (laws_toInt64S.c k _ Aa1 ca1 a1 (hS.rd' (i := 3) rfl) (hS.le' (i := 3) rfl) _ ht40) ?_
            rintro _ w1 ⟨A41, c42, rfl, hs⟩
            replace hS := hS.addN hs
            have hS : St w no w1 [box b1 ([.slice Aa0_0 a0.Names.length ca0_0, .slice Aa0_1 a0.Eats.length ca0_1, .slice Aa0_2 a0.Foes.length ca0_2]) 26, rowC (ci .i64) A14 c15 2 t13.1, rowC G.cs A17 c18 9 t16.Names, rowC (ci .i16) A19 c20 50 t16.Eats, rowC (ci .u16) A21 c22 51 t16.Foes, box b23 ([.slice A17 t16.Names.length c18, .slice A19 t16.Eats.length c20, .slice A21 t16.Foes.length c22]) 29, rowC (ci .i64) A25 c26 2 t24, rowC (ci .i64) A28 c29 2 t27.1, rowC G.cs A33 c34 9 t32.Names, rowC (ci .i16) A35 c36 50 t32.Eats, rowC (ci .u16) A37 c38 51 t32.Foes, rowC (ci .i64) A41 c42 2 t40] [roC G.cs Aa0_0 ca0_0 a0.Names, roC (ci .i16) Aa0_1 ca0_1 a0.Eats, roC (ci .u16) Aa0_2 ca0_2 a0.Foes, roC (ci .i64) Aa1 ca1 a1] := hS
            obtain ⟨t43, ht43, H⟩ := pbind H
            refine OJ.callF rfl rfl rfl rfl rfl hb13 rfl (laws_eqInt64S.c k _ A25 c26 t24 (hS.rd (i := 6) rfl) (hS.le (i := 6) rfl) A41 c42 t40 (hS.rd (i := 11) rfl) (hS.le (i := 11) rfl) _ ht43) ?_
            rintro _ w1 ⟨rfl, hs⟩
            replace hS := hS.grow hs
            refine OJ.pures tU_ok 1 rfl ?_
            refine OJ.nil (EJ.next ?_)
            refine CJ.cond rfl (fun hb => ?_) (fun hb => ?_)
            · replace H := pif_t hb H
              refine CJ.seq ?_
              refine CJ.region ?_
              refine OJ.pures tU_ok 1 rfl ?_
              refine OJ.nil (EJ.next ?_)
              refine CJ.ret (EJ.skR (?_))
              obtain rfl := Option.some.inj H
              exact EJ.fin rfl (.tmp rfl .nil) ⟨rfl, hS.ext⟩
            · replace H := pifb_f hb H
              refine CJ.skip (EJ.next ?_)
              refine CJ.seq ?_
              refine CJ.region ?_
              refine OJ.pures tU_ok 1 rfl ?_
              refine OJ.nil (EJ.next ?_)
              refine CJ.seq ?_
              refine CJ.region ?_
              refine OJ.st rfl rfl rfl (SR.load rfl rfl (fun w' hx => ldN tU_ok tI_ok rfl rfl rfl (CA.ext (hS.cells (i := 5) rfl) hx) (ds := [.slice A17 t16.Names.length c18, .slice A19 t16.Eats.length c20, .slice A21 t16.Foes.length c22]) rfl rfl)) ?_
              refine OJ.pures tU_ok 1 rfl ?_
              obtain ⟨t44, ht44, H⟩ := pbind H
              refine OJ.callF rfl rfl rfl rfl rfl hb14 rfl (laws_markHerd.c k _ A17 c18 A19 c20 A21 c22 t16 1 ((hS.subs [2, 3, 4] [] [] rfl).pick [0, 1, 2] [] rfl) _ ht44) ?_
              rintro _ w1 ⟨rfl, hs, hlc0, hlc1, hlc2⟩
              replace hS := hS.back [2, 3, 4] rfl rfl [rowC G.cs A17 c18 9 t44.2.1, rowC (ci .i16) A19 c20 50 t44.2.2.1, rowC (ci .u16) A21 c22 51 t44.2.2.2] [] hs ⟨fun _ => Iff.rfl, fun _ => Iff.rfl, fun _ => Iff.rfl, trivial⟩
              have hS : St w no w1 [box b1 ([.slice Aa0_0 a0.Names.length ca0_0, .slice Aa0_1 a0.Eats.length ca0_1, .slice Aa0_2 a0.Foes.length ca0_2]) 26, rowC (ci .i64) A14 c15 2 t13.1, rowC G.cs A17 c18 9 t44.2.1, rowC (ci .i16) A19 c20 50 t44.2.2.1, rowC (ci .u16) A21 c22 51 t44.2.2.2, box b23 ([.slice A17 t16.Names.length c18, .slice A19 t16.Eats.length c20, .slice A21 t16.Foes.length c22]) 29, rowC (ci .i64) A25 c26 2 t24, rowC (ci .i64) A28 c29 2 t27.1, rowC G.cs A33 c34 9 t32.Names, rowC (ci .i16) A35 c36 50 t32.Eats, rowC (ci .u16) A37 c38 51 t32.Foes, rowC (ci .i64) A41 c42 2 t40] [roC G.cs Aa0_0 ca0_0 a0.Names, roC (ci .i16) Aa0_1 ca0_1 a0.Eats, roC (ci .u16) Aa0_2 ca0_2 a0.Foes, roC (ci .i64) Aa1 ca1 a1] := hS
              refine OJ.as (t := 52) rfl (show _ = (.agg [.slice A17 t44.2.1.length c18, .slice A19 t16.Eats.length c20, .slice A21 t16.Foes.length c22].toArray : Value) by simp only [hlc0]) ?_
              refine OJ.as (t := 62) rfl (show _ = (.agg [.slice A17 t44.2.1.length c18, .slice A19 t16.Eats.length c20, .slice A21 t16.Foes.length c22].toArray : Value) by simp only [hlc0]) ?_
              replace hS := hS.boxAs (i := 5) rfl (show _ = ([.slice A17 t44.2.1.length c18, .slice A19 t16.Eats.length c20, .slice A21 t16.Foes.length c22] : List Value) by simp only [hlc0])
              refine OJ.as (t := 52) rfl (show _ = (.agg [.slice A17 t44.2.1.length c18, .slice A19 t44.2.2.1.length c20, .slice A21 t16.Foes.length c22].toArray : Value) by simp only [hlc1]) ?_
              refine OJ.as (t := 62) rfl (show _ = (.agg [.slice A17 t44.2.1.length c18, .slice A19 t44.2.2.1.length c20, .slice A21 t16.Foes.length c22].toArray : Value) by simp only [hlc1]) ?_
              replace hS := hS.boxAs (i := 5) rfl (show _ = ([.slice A17 t44.2.1.length c18, .slice A19 t44.2.2.1.length c20, .slice A21 t16.Foes.length c22] : List Value) by simp only [hlc1])
              refine OJ.as (t := 52) rfl (show _ = (.agg [.slice A17 t44.2.1.length c18, .slice A19 t44.2.2.1.length c20, .slice A21 t44.2.2.2.length c22].toArray : Value) by simp only [hlc2]) ?_
              refine OJ.as (t := 62) rfl (show _ = (.agg [.slice A17 t44.2.1.length c18, .slice A19 t44.2.2.1.length c20, .slice A21 t44.2.2.2.length c22].toArray : Value) by simp only [hlc2]) ?_
              replace hS := hS.boxAs (i := 5) rfl (show _ = ([.slice A17 t44.2.1.length c18, .slice A19 t44.2.2.1.length c20, .slice A21 t44.2.2.2.length c22] : List Value) by simp only [hlc2])
              have hS : St w no w1 [box b1 ([.slice Aa0_0 a0.Names.length ca0_0, .slice Aa0_1 a0.Eats.length ca0_1, .slice Aa0_2 a0.Foes.length ca0_2]) 26, rowC (ci .i64) A14 c15 2 t13.1, rowC G.cs A17 c18 9 t44.2.1, rowC (ci .i16) A19 c20 50 t44.2.2.1, rowC (ci .u16) A21 c22 51 t44.2.2.2, box b23 ([.slice A17 t44.2.1.length c18, .slice A19 t44.2.2.1.length c20, .slice A21 t44.2.2.2.length c22]) 29, rowC (ci .i64) A25 c26 2 t24, rowC (ci .i64) A28 c29 2 t27.1, rowC G.cs A33 c34 9 t32.Names, rowC (ci .i16) A35 c36 50 t32.Eats, rowC (ci .u16) A37 c38 51 t32.Foes, rowC (ci .i64) A41 c42 2 t40] [roC G.cs Aa0_0 ca0_0 a0.Names, roC (ci .i16) Aa0_1 ca0_1 a0.Eats, roC (ci .u16) Aa0_2 ca0_2 a0.Foes, roC (ci .i64) Aa1 ca1 a1] := hS
              refine OJ.pures tU_ok 1 rfl ?_
              refine OJ.nil (EJ.next ?_)
              refine CJ.seq ?_
              refine CJ.region ?_
              refine OJ.pures tU_ok 2 rfl ?_
              obtain ⟨t45, ht45, H⟩ := pbind H
              refine OJ.callF rfl rfl rfl rfl rfl hb15 rfl (laws_markInt64S.c k _ A25 c26 t24 t44.1 ((hS.subs [6] [] [] rfl).pick [0] [] rfl) _ ht45) ?_
              rintro _ w1 ⟨rfl, hs, hlc0⟩
              replace hS := hS.back [6] rfl rfl [rowC (ci .i64) A25 c26 2 t45.2] [] hs ⟨fun _ => Iff.rfl, trivial⟩
              have hS : St w no w1 [box b1 ([.slice Aa0_0 a0.Names.length ca0_0, .slice Aa0_1 a0.Eats.length ca0_1, .slice Aa0_2 a0.Foes.length ca0_2]) 26, rowC (ci .i64) A14 c15 2 t13.1, rowC G.cs A17 c18 9 t44.2.1, rowC (ci .i16) A19 c20 50 t44.2.2.1, rowC (ci .u16) A21 c22 51 t44.2.2.2, box b23 ([.slice A17 t44.2.1.length c18, .slice A19 t44.2.2.1.length c20, .slice A21 t44.2.2.2.length c22]) 29, rowC (ci .i64) A25 c26 2 t45.2, rowC (ci .i64) A28 c29 2 t27.1, rowC G.cs A33 c34 9 t32.Names, rowC (ci .i16) A35 c36 50 t32.Eats, rowC (ci .u16) A37 c38 51 t32.Foes, rowC (ci .i64) A41 c42 2 t40] [roC G.cs Aa0_0 ca0_0 a0.Names, roC (ci .i16) Aa0_1 ca0_1 a0.Eats, roC (ci .u16) Aa0_2 ca0_2 a0.Foes, roC (ci .i64) Aa1 ca1 a1] := hS
              refine OJ.as (t := 9) rfl (show _ = (.slice A25 t45.2.length c26 : Value) by simp only [hlc0]) ?_
              refine OJ.as (t := 57) rfl (show _ = (.slice A25 t45.2.length c26 : Value) by simp only [hlc0]) ?_
              refine OJ.as (t := 65) rfl (show _ = (.slice A25 t45.2.length c26 : Value) by simp only [hlc0]) ?_
              have hS : St w no w1 [box b1 ([.slice Aa0_0 a0.Names.length ca0_0, .slice Aa0_1 a0.Eats.length ca0_1, .slice Aa0_2 a0.Foes.length ca0_2]) 26, rowC (ci .i64) A14 c15 2 t13.1, rowC G.cs A17 c18 9 t44.2.1, rowC (ci .i16) A19 c20 50 t44.2.2.1, rowC (ci .u16) A21 c22 51 t44.2.2.2, box b23 ([.slice A17 t44.2.1.length c18, .slice A19 t44.2.2.1.length c20, .slice A21 t44.2.2.2.length c22]) 29, rowC (ci .i64) A25 c26 2 t45.2, rowC (ci .i64) A28 c29 2 t27.1, rowC G.cs A33 c34 9 t32.Names, rowC (ci .i16) A35 c36 50 t32.Eats, rowC (ci .u16) A37 c38 51 t32.Foes, rowC (ci .i64) A41 c42 2 t40] [roC G.cs Aa0_0 ca0_0 a0.Names, roC (ci .i16) Aa0_1 ca0_1 a0.Eats, roC (ci .u16) Aa0_2 ca0_2 a0.Foes, roC (ci .i64) Aa1 ca1 a1] := hS
              refine OJ.pures tU_ok 1 rfl ?_
              refine OJ.nil (EJ.next ?_)
              refine CJ.seq ?_
              obtain ⟨j99, H, K99⟩ := pbind H
              refine CJ.cut (fun F w1 => ∃ (y46 : Bool) , (some y46 : Option Bool) = some j99 ∧ F = [(1, .slice Aa1 a1.length ca1), (2, .pointer (some ⟨b1, 0, none⟩)), (6, .slice A14 t13.1.length c15), (7, .int .i64 t13.2), (10, .slice A28 t27.1.length c29), (80, .bool y46)] ∧ St w no w1 [box b1 ([.slice Aa0_0 a0.Names.length ca0_0, .slice Aa0_1 a0.Eats.length ca0_1, .slice Aa0_2 a0.Foes.length ca0_2]) 26, rowC (ci .i64) A14 c15 2 t13.1, rowC (ci .i64) A28 c29 2 t27.1] [roC G.cs Aa0_0 ca0_0 a0.Names, roC (ci .i16) Aa0_1 ca0_1 a0.Eats, roC (ci .u16) Aa0_2 ca0_2 a0.Foes, roC (ci .i64) Aa1 ca1 a1]) ?_ ?_
              · skip
                refine CJ.region ?_
                refine OJ.pures tU_ok 3 rfl ?_
                refine OJ.split (t := 70) rfl (fun hb => ?_) (fun hb => ?_)
                · replace H := pif_t (of_decide_eq_true hb) H
                  refine OJ.pures tU_ok 10 rfl ?_
                  refine OJ.nil ?_
                  exact EJ.meet (F' := [(1, .slice Aa1 a1.length ca1), (2, .pointer (some ⟨b1, 0, none⟩)), (6, .slice A14 t13.1.length c15), (7, .int .i64 t13.2), (10, .slice A28 t27.1.length c29), (80, .bool true)]) ⟨rfl, rfl, rfl, rfl, rfl, rfl, trivial⟩ ⟨true, H, rfl, hS.pick [0, 1, 7] [0, 1, 2, 3] rfl⟩
                · replace H := pif_f (of_decide_eq_false hb) H
                  refine OJ.pures tU_ok 2 rfl ?_
                  obtain ⟨t47, ht47, H⟩ := pbind H
                  refine OJ.callF rfl rfl rfl rfl rfl hb13 rfl (laws_eqInt64S.c k _ A28 c29 t27.1 (hS.rd (i := 7) rfl) (hS.le (i := 7) rfl) A14 c15 t13.1 (hS.rd (i := 1) rfl) (hS.le (i := 1) rfl) _ ht47) ?_
                  rintro _ w1 ⟨rfl, hs⟩
                  replace hS := hS.grow hs
                  refine OJ.pures tU_ok 3 rfl ?_
                  refine OJ.split (t := 76) rfl (fun hb => ?_) (fun hb => ?_)
                  · replace H := pif_t hb H
                    refine OJ.pures tU_ok 4 rfl ?_
                    refine OJ.nil ?_
                    exact EJ.meet (F' := [(1, .slice Aa1 a1.length ca1), (2, .pointer (some ⟨b1, 0, none⟩)), (6, .slice A14 t13.1.length c15), (7, .int .i64 t13.2), (10, .slice A28 t27.1.length c29), (80, .bool true)]) ⟨rfl, rfl, rfl, rfl, rfl, rfl, trivial⟩ ⟨true, H, rfl, hS.pick [0, 1, 7] [0, 1, 2, 3] rfl⟩
                  · replace H := pifb_f hb H
                    refine OJ.pures tU_ok 4 rfl ?_
                    refine OJ.nil ?_
                    exact EJ.meet (F' := [(1, .slice Aa1 a1.length ca1), (2, .pointer (some ⟨b1, 0, none⟩)), (6, .slice A14 t13.1.length c15), (7, .int .i64 t13.2), (10, .slice A28 t27.1.length c29), (80, .bool (decide (t27.2 ≠ t13.2)))]) ⟨rfl, rfl, rfl, rfl, rfl, rfl, trivial⟩ ⟨(decide (t27.2 ≠ t13.2)), H, rfl, hS.pick [0, 1, 7] [0, 1, 2, 3] rfl⟩
              · rintro F w1 ⟨y46, he, rfl, hS⟩
                obtain rfl := Option.some.inj he
                have H := K99
                refine CJ.cond rfl (fun hb => ?_) (fun hb => ?_)
                · replace H := pif_t hb H
                  refine CJ.seq ?_
                  refine CJ.region ?_
                  refine OJ.pures tU_ok 1 rfl ?_
                  refine OJ.nil (EJ.next ?_)
                  refine CJ.ret (EJ.skR (?_))
                  obtain rfl := Option.some.inj H
                  exact EJ.fin rfl (.tmp rfl .nil) ⟨rfl, hS.ext⟩
                · replace H := pifb_f hb H
                  refine CJ.skip (EJ.next ?_)
                  refine CJ.seq ?_
                  refine CJ.region ?_
                  refine OJ.pures tU_ok 1 rfl ?_
                  refine OJ.nil (EJ.next ?_)
                  refine CJ.seq ?_
                  refine CJ.region ?_
                  refine OJ.pures tU_ok 2 rfl ?_
                  obtain ⟨t48, ht48, H⟩ := pbind H
                  refine OJ.callF rfl rfl rfl rfl rfl hb15 rfl (laws_markInt64S.c k _ A28 c29 t27.1 1 ((hS.subs [2] [] [] rfl).pick [0] [] rfl) _ ht48) ?_
                  rintro _ w1 ⟨rfl, hs, hlc0⟩
                  replace hS := hS.back [2] rfl rfl [rowC (ci .i64) A28 c29 2 t48.2] [] hs ⟨fun _ => Iff.rfl, trivial⟩
                  refine OJ.as (t := 10) rfl (show _ = (.slice A28 t48.2.length c29 : Value) by simp only [hlc0]) ?_
                  refine OJ.as (t := 81) rfl (show _ = (.slice A28 t48.2.length c29 : Value) by simp only [hlc0]) ?_
                  refine OJ.pures tU_ok 1 rfl ?_
                  refine OJ.nil (EJ.next ?_)
                  refine CJ.seq ?_
                  refine CJ.region ?_
                  refine OJ.pures tU_ok 1 rfl ?_
                  refine OJ.nil (EJ.next ?_)
                  refine CJ.seq ?_
                  refine CJ.region ?_
                  refine OJ.pures tU_ok 2 rfl ?_
                  obtain ⟨t49, ht49, H⟩ := pbind H
                  refine OJ.callF rfl rfl rfl rfl rfl hb19 rfl (laws_heldInt64S.c k _ A28 c29 t48.2 (hS.rd (i := 2) rfl) (hS.le (i := 2) rfl) 1 _ ht49) ?_
                  rintro _ w1 ⟨rfl, hs⟩
                  replace hS := hS.grow hs
                  refine OJ.pures tU_ok 1 rfl ?_
                  refine OJ.nil (EJ.next ?_)
                  refine CJ.seq ?_
                  refine CJ.seq ?_
                  refine CJ.region ?_
                  refine OJ.pures tU_ok 2 rfl ?_
                  refine OJ.nil (EJ.next ?_)
                  refine CJ.cond rfl (fun hb => ?_) (fun hb => ?_)
                  · replace H := pif_t (of_decide_eq_true hb) H
                    refine CJ.seq ?_
                    refine CJ.region ?_
                    refine OJ.pures tU_ok 1 rfl ?_
                    refine OJ.nil (EJ.next ?_)
                    refine CJ.ret (EJ.skR (?_))
                    obtain rfl := Option.some.inj H
                    exact EJ.fin rfl (.tmp rfl .nil) ⟨rfl, hS.ext⟩
                  · replace H := pif_f (of_decide_eq_false hb) H
                    refine CJ.skip (EJ.next ?_)
                    refine CJ.seq ?_
                    refine CJ.seq ?_
                    refine CJ.region ?_
                    refine OJ.pures tU_ok 3 rfl ?_
                    refine OJ.nil (EJ.next ?_)
                    refine CJ.cond rfl (fun hb => ?_) (fun hb => ?_)
                    · replace H := pif_t (of_decide_eq_true hb) H
                      refine CJ.seq ?_
                      refine CJ.region ?_
                      refine OJ.pures tU_ok 1 rfl ?_
                      refine OJ.nil (EJ.next ?_)
                      refine CJ.ret (EJ.skR (?_))
                      obtain rfl := Option.some.inj H
                      exact EJ.fin rfl (.tmp rfl .nil) ⟨rfl, hS.ext⟩
                    · replace H := pif_f (of_decide_eq_false hb) H
                      refine CJ.skip (EJ.next ?_)
                      refine CJ.seq ?_
                      refine CJ.region ?_
                      refine OJ.st rfl rfl rfl (SR.load rfl rfl (fun w' hx => ldN tU_ok tI_ok rfl rfl rfl (CA.ext (hS.cells (i := 0) rfl) hx) (ds := [.slice Aa0_0 a0.Names.length ca0_0, .slice Aa0_1 a0.Eats.length ca0_1, .slice Aa0_2 a0.Foes.length ca0_2]) rfl rfl)) ?_
                      obtain ⟨t50, ht50, H⟩ := pbind H
                      refine OJ.callF rfl rfl rfl rfl rfl hb9 rfl (laws_toHerd.c k _ Aa0_0 ca0_0 Aa0_1 ca0_1 Aa0_2 ca0_2 a0 (hS.rd' (i := 0) rfl) (hS.le' (i := 0) rfl) (hS.rd' (i := 1) rfl) (hS.le' (i := 1) rfl) (hS.rd' (i := 2) rfl) (hS.le' (i := 2) rfl) _ ht50) ?_
                      rintro _ w1 ⟨A51, c52, A53, c54, A55, c56, rfl, hs⟩
                      replace hS := hS.addN hs
                      have hS : St w no w1 [box b1 ([.slice Aa0_0 a0.Names.length ca0_0, .slice Aa0_1 a0.Eats.length ca0_1, .slice Aa0_2 a0.Foes.length ca0_2]) 26, rowC (ci .i64) A14 c15 2 t13.1, rowC (ci .i64) A28 c29 2 t48.2, rowC G.cs A51 c52 9 t50.Names, rowC (ci .i16) A53 c54 50 t50.Eats, rowC (ci .u16) A55 c56 51 t50.Foes] [roC G.cs Aa0_0 ca0_0 a0.Names, roC (ci .i16) Aa0_1 ca0_1 a0.Eats, roC (ci .u16) Aa0_2 ca0_2 a0.Foes, roC (ci .i64) Aa1 ca1 a1] := hS
                      refine OJ.pures tU_ok 1 rfl ?_
                      obtain ⟨t57, ht57, H⟩ := pbind H
                      refine OJ.callF rfl rfl rfl rfl rfl hb10 rfl (laws_toInt64S.c k _ Aa1 ca1 a1 (hS.rd' (i := 3) rfl) (hS.le' (i := 3) rfl) _ ht57) ?_
                      rintro _ w1 ⟨A58, c59, rfl, hs⟩
                      replace hS := hS.addN hs
                      have hS : St w no w1 [box b1 ([.slice Aa0_0 a0.Names.length ca0_0, .slice Aa0_1 a0.Eats.length ca0_1, .slice Aa0_2 a0.Foes.length ca0_2]) 26, rowC (ci .i64) A14 c15 2 t13.1, rowC (ci .i64) A28 c29 2 t48.2, rowC G.cs A51 c52 9 t50.Names, rowC (ci .i16) A53 c54 50 t50.Eats, rowC (ci .u16) A55 c56 51 t50.Foes, rowC (ci .i64) A58 c59 2 t57] [roC G.cs Aa0_0 ca0_0 a0.Names, roC (ci .i16) Aa0_1 ca0_1 a0.Eats, roC (ci .u16) Aa0_2 ca0_2 a0.Foes, roC (ci .i64) Aa1 ca1 a1] := hS
                      obtain ⟨t60, ht60, H⟩ := pbind H
                      refine OJ.callF rfl rfl rfl rfl rfl hb18 rfl (impl_GreedyGroups.c k _ A51 c52 A53 c54 A55 c56 t50 (hS.rd (i := 3) rfl) (hS.le (i := 3) rfl) (hS.rd (i := 4) rfl) (hS.le (i := 4) rfl) (hS.rd (i := 5) rfl) (hS.le (i := 5) rfl) A58 c59 t57 (hS.rd (i := 6) rfl) (hS.le (i := 6) rfl) _ ht60) ?_
                      rintro _ w1 ⟨A61, c62, rfl, hs⟩
                      replace hS := hS.addN hs
                      have hS : St w no w1 [box b1 ([.slice Aa0_0 a0.Names.length ca0_0, .slice Aa0_1 a0.Eats.length ca0_1, .slice Aa0_2 a0.Foes.length ca0_2]) 26, rowC (ci .i64) A14 c15 2 t13.1, rowC (ci .i64) A28 c29 2 t48.2, rowC G.cs A51 c52 9 t50.Names, rowC (ci .i16) A53 c54 50 t50.Eats, rowC (ci .u16) A55 c56 51 t50.Foes, rowC (ci .i64) A58 c59 2 t57, rowC (ci .i64) A61 c62 2 t60.1] [roC G.cs Aa0_0 ca0_0 a0.Names, roC (ci .i16) Aa0_1 ca0_1 a0.Eats, roC (ci .u16) Aa0_2 ca0_2 a0.Foes, roC (ci .i64) Aa1 ca1 a1] := hS
                      refine OJ.pures tU_ok 5 rfl ?_
                      refine OJ.nil (EJ.next ?_)
                      refine CJ.seq ?_
                      obtain ⟨j101, H, K101⟩ := pbind H
                      refine CJ.cut (fun F w1 => ∃ (y63 : Bool) , (some y63 : Option Bool) = some j101 ∧ F = [(10, .slice A28 t48.2.length c29), (13, .int .i64 t48.1), (108, .bool y63)] ∧ St w no w1 [rowC (ci .i64) A28 c29 2 t48.2] [roC G.cs Aa0_0 ca0_0 a0.Names, roC (ci .i16) Aa0_1 ca0_1 a0.Eats, roC (ci .u16) Aa0_2 ca0_2 a0.Foes, roC (ci .i64) Aa1 ca1 a1]) ?_ ?_
                      · skip
                        refine CJ.region ?_
                        refine OJ.pures tU_ok 2 rfl ?_
                        obtain ⟨t64, ht64, H⟩ := pbind H
                        refine OJ.callF rfl rfl rfl rfl rfl hb13 rfl (laws_eqInt64S.c k _ A61 c62 t60.1 (hS.rd (i := 7) rfl) (hS.le (i := 7) rfl) A14 c15 t13.1 (hS.rd (i := 1) rfl) (hS.le (i := 1) rfl) _ ht64) ?_
                        rintro _ w1 ⟨rfl, hs⟩
                        replace hS := hS.grow hs
                        refine OJ.pures tU_ok 2 rfl ?_
                        refine OJ.split (t := 104) rfl (fun hb => ?_) (fun hb => ?_)
                        · replace H := pif_t hb H
                          refine OJ.pures tU_ok 4 rfl ?_
                          refine OJ.nil ?_
                          exact EJ.meet (F' := [(10, .slice A28 t48.2.length c29), (13, .int .i64 t48.1), (108, .bool true)]) ⟨rfl, rfl, rfl, trivial⟩ ⟨true, H, rfl, hS.pick [2] [0, 1, 2, 3] rfl⟩
                        · replace H := pifb_f hb H
                          refine OJ.pures tU_ok 4 rfl ?_
                          refine OJ.nil ?_
                          exact EJ.meet (F' := [(10, .slice A28 t48.2.length c29), (13, .int .i64 t48.1), (108, .bool (decide (t60.2 ≠ t13.2)))]) ⟨rfl, rfl, rfl, trivial⟩ ⟨(decide (t60.2 ≠ t13.2)), H, rfl, hS.pick [2] [0, 1, 2, 3] rfl⟩
                      · rintro F w1 ⟨y63, he, rfl, hS⟩
                        obtain rfl := Option.some.inj he
                        have H := K101
                        refine CJ.cond rfl (fun hb => ?_) (fun hb => ?_)
                        · replace H := pif_t hb H
                          refine CJ.seq ?_
                          refine CJ.region ?_
                          refine OJ.pures tU_ok 1 rfl ?_
                          refine OJ.nil (EJ.next ?_)
                          refine CJ.ret (EJ.skR (?_))
                          obtain rfl := Option.some.inj H
                          exact EJ.fin rfl (.tmp rfl .nil) ⟨rfl, hS.ext⟩
                        · replace H := pifb_f hb H
                          refine CJ.skip (EJ.next ?_)
                          refine CJ.seq ?_
                          refine CJ.region ?_
                          refine OJ.pures tU_ok 1 rfl ?_
                          refine OJ.nil (EJ.next ?_)
                          refine CJ.seq ?_
                          refine CJ.region ?_
                          refine OJ.pures tU_ok 2 rfl ?_
                          obtain ⟨t65, ht65, H⟩ := pbind H
                          refine OJ.callF rfl rfl rfl rfl rfl hb19 rfl (laws_heldInt64S.c k _ A28 c29 t48.2 (hS.rd (i := 0) rfl) (hS.le (i := 0) rfl) 1 _ ht65) ?_
                          rintro _ w1 ⟨rfl, hs⟩
                          replace hS := hS.grow hs
                          refine OJ.pures tU_ok 1 rfl ?_
                          refine OJ.nil (EJ.next ?_)
                          refine CJ.seq ?_
                          refine CJ.seq ?_
                          refine CJ.region ?_
                          refine OJ.pures tU_ok 2 rfl ?_
                          refine OJ.nil (EJ.next ?_)
                          refine CJ.cond rfl (fun hb => ?_) (fun hb => ?_)
                          · replace H := pif_t (of_decide_eq_true hb) H
                            refine CJ.seq ?_
                            refine CJ.region ?_
                            refine OJ.pures tU_ok 1 rfl ?_
                            refine OJ.nil (EJ.next ?_)
                            refine CJ.ret (EJ.skR (?_))
                            obtain rfl := Option.some.inj H
                            exact EJ.fin rfl (.tmp rfl .nil) ⟨rfl, hS.ext⟩
                          · replace H := pif_f (of_decide_eq_false hb) H
                            refine CJ.skip (EJ.next ?_)
                            refine CJ.seq ?_
                            refine CJ.seq ?_
                            refine CJ.region ?_
                            refine OJ.pures tU_ok 3 rfl ?_
                            refine OJ.nil (EJ.next ?_)
                            refine CJ.cond rfl (fun hb => ?_) (fun hb => ?_)
                            · replace H := pif_t (of_decide_eq_true hb) H
                              refine CJ.seq ?_
                              refine CJ.region ?_
                              refine OJ.pures tU_ok 1 rfl ?_
                              refine OJ.nil (EJ.next ?_)
                              refine CJ.ret (EJ.skR (?_))
                              obtain rfl := Option.some.inj H
                              exact EJ.fin rfl (.tmp rfl .nil) ⟨rfl, hS.ext⟩
                            · replace H := pif_f (of_decide_eq_false hb) H
                              refine CJ.skip (EJ.next ?_)
                              refine CJ.seq ?_
                              refine CJ.region ?_
                              refine OJ.pures tU_ok 1 rfl ?_
                              refine OJ.nil (EJ.next ?_)
                              refine CJ.ret (?_)
                              obtain rfl := Option.some.inj H
                              exact EJ.fin rfl (.tmp rfl .nil) ⟨rfl, hS.ext⟩

def laws_heldStringS.l1 (a0 : List ByteArray) : Nat → Int → Int → Option (Int ⊕ Int)
  | 0, _, _ => none
  | k + 1, y2, y3 => if y3 < (a0.length : Int) then ((getI a0 y3).bind fun t4 => (laws_markText.f k y2).bind fun t5 => if t4 ≠ t5 then (some (Sum.inl (-1))) else (laws_heldStringS.l1 a0 k (IntKind.i64.wrap (y2 + 1)) (IntKind.i64.wrap (y3 + 1)))) else (some (Sum.inr y2))
def laws_heldStringS.f (k : Nat) (a0 : List ByteArray) (a1 : Int) : Option Int := (laws_heldStringS.l1 a0 k a1 0).bind fun s102 => match s102 with | .inl r => some r | .inr y1 => some y1
theorem laws_heldStringS.c (k : Nat) (w : World) (Aa0 : Option Addr) (ca0 : Nat) (a0 : List ByteArray) (hr0 : Rd G.cs w Aa0 a0) (hc0 : a0.length ≤ ca0) (a1 : Int) (r : Int) (H : laws_heldStringS.f k a0 a1 = some r) :
    CV Tryd.prog 45 [.slice Aa0 a0.length ca0, .int .i64 a1].toArray w fun v w' => v = .int .i64 r ∧ Ext w w' := by
  have hS := ((St.init w no).param G.cs Aa0 ca0 a0 hr0 hc0)
  unfold laws_heldStringS.f at H
  refine CV.body Tryd.func45 rfl Tryd.ntmps45 rfl ?_
  refine CJ.seq ?_
  refine CJ.region ?_
  refine OJ.pures tU_ok 1 rfl ?_
  refine OJ.nil (EJ.next ?_)
  refine CJ.seq ?_
  refine CJ.seq ?_
  refine CJ.region ?_
  refine OJ.pures tU_ok 1 rfl ?_
  refine OJ.nil (EJ.next ?_)
  obtain ⟨j102, H, K102⟩ := pbind H
  refine CJ.cut1 (fun F w1 => ∃ (y1 : Int) , (some (Sum.inr y1) : Option (Int ⊕ Int)) = some j102 ∧ F = [(1, .int .i64 y1)] ∧ St w no w1 [] [roC G.cs Aa0 ca0 a0]) ?_ ?_
  · skip
    refine CJ.block ?_
    refine CJ.loop (fun k F w1 => ∃ (y2 : Int) (y3 : Int), F = [(0, .slice Aa0 a0.length ca0), (1, .int .i64 y2), (5, .int .i64 y3)] ∧ St w no w1 [] [roC G.cs Aa0 ca0 a0] ∧ laws_heldStringS.l1 a0 k y2 y3 = some j102) k (F' := [(0, .slice Aa0 a0.length ca0), (1, .int .i64 a1), (5, .int .i64 0)]) ⟨rfl, rfl, rfl, trivial⟩ ⟨a1, 0, rfl, hS.pick [] [0] rfl, H⟩ ?_
    rintro k F w1 ⟨y2, y3, rfl, hS, H⟩
    cases k with
    | zero => rw [laws_heldStringS.l1] at H; cases H
    | succ k =>
      rw [laws_heldStringS.l1] at H
      refine CJ.seq ?_
      refine CJ.seq ?_
      refine CJ.region ?_
      refine OJ.pures tU_ok 4 rfl ?_
      refine OJ.nil (EJ.next ?_)
      refine CJ.cond rfl (fun hb => ?_) (fun hb => ?_)
      · replace H := pif_t (of_decide_eq_true hb) H
        refine CJ.skip (EJ.next ?_)
        refine CJ.seq ?_
        refine CJ.block ?_
        refine CJ.seq ?_
        refine CJ.seq ?_
        refine CJ.draw [] [0, 1, 2, 3, 4, 5, 6] mixed (by kernel_rfl) hS fun w1 hS => ?_
        refine DJ.pures tU_ok 2 rfl ?_
        obtain ⟨t4, ht4, H⟩ := pbind H
        obtain ⟨ad4, e4⟩ := (hS.rd' (i := 0) rfl).some' ht4
        refine DJ.st rfl rfl rfl rfl rfl (SR.idxS tU_ok tI_ok rfl rfl rfl rfl e4 rfl (getI_some ht4).1) ?_
        refine DJ.st rfl rfl rfl rfl rfl (SR.load rfl rfl (fun w' hx => ld1 tU_ok rfl rfl (CA.ext ((hS.rd' (i := 0) rfl).at_ e4 ht4) hx) rfl)) ?_
        refine DJ.pures tU_ok 1 rfl ?_
        obtain ⟨t5, ht5, H⟩ := pbind H
        refine DJ.callF rfl rfl rfl rfl rfl rfl rfl hb76 rfl (laws_markText.c k _ y2 _ ht5) (by rintro v w' ⟨rfl, hs⟩; exact hs) ?_
        rintro _ w1 ⟨rfl, hs⟩
        replace hS := hS.grow hs
        refine DJ.pures tU_ok 1 rfl ?_
        refine DJ.nil (EJ.next ?_)
        refine CJ.cond rfl (fun hb => ?_) (fun hb => ?_)
        · replace H := pif_t (of_decide_eq_true hb) H
          refine CJ.seq ?_
          refine CJ.region ?_
          refine OJ.pures tU_ok 1 rfl ?_
          refine OJ.nil (EJ.next ?_)
          refine CJ.ret (EJ.skR (EJ.bkR (EJ.skR (EJ.skR (EJ.bkR (EJ.skR (EJ.skR (?_))))))))
          first | (obtain rfl := Option.some.inj H; have H := K102) | (obtain ⟨q102, H2, e102⟩ := pbind H; obtain rfl := Option.some.inj e102; obtain rfl := Option.some.inj K102; have H := H2)
          obtain rfl := Option.some.inj H
          exact EJ.fin rfl (.tmp rfl .nil) ⟨rfl, hS.ext⟩
        · replace H := pif_f (of_decide_eq_false hb) H
          refine CJ.skip (EJ.next ?_)
          refine CJ.region ?_
          refine OJ.pures tU_ok 3 rfl ?_
          refine OJ.nil (EJ.blk (EJ.next ?_))
          refine CJ.region ?_
          refine OJ.pures tU_ok 3 rfl ?_
          refine OJ.nil ?_
          exact EJ.round k (F' := [(0, .slice Aa0 a0.length ca0), (1, .int .i64 (IntKind.i64.wrap (y2 + 1))), (5, .int .i64 (IntKind.i64.wrap (y3 + 1)))]) ⟨rfl, rfl, rfl, trivial⟩ (Nat.lt_succ_self _) ⟨(IntKind.i64.wrap (y2 + 1)), (IntKind.i64.wrap (y3 + 1)), rfl, hS.pick [] [0] rfl, H⟩
      · replace H := pif_f (of_decide_eq_false hb) H
        refine CJ.exit (EJ.skE (EJ.skE (EJ.hit (?_))))
        exact EJ.meet (F' := [(1, .int .i64 y2)]) ⟨rfl, trivial⟩ ⟨y2, H, rfl, hS.pick [] [0] rfl⟩
  · rintro F w1 ⟨y1, he, rfl, hS⟩
    obtain rfl := Option.some.inj he
    have H := K102
    refine EJ.next ?_
    refine CJ.seq ?_
    refine CJ.region ?_
    refine OJ.pures tU_ok 2 rfl ?_
    refine OJ.nil (EJ.next ?_)
    refine CJ.ret (?_)
    obtain rfl := Option.some.inj H
    exact EJ.fin rfl (.tmp rfl .nil) ⟨rfl, hS.ext⟩

def laws_heldInt16S.l1 (a0 : List Int) : Nat → Int → Int → Option (Int ⊕ Int)
  | 0, _, _ => none
  | k + 1, y2, y3 => if y3 < (a0.length : Int) then ((getI a0 y3).bind fun t4 => if t4 ≠ (IntKind.i16.wrap y2) then (some (Sum.inl (-1))) else (laws_heldInt16S.l1 a0 k (IntKind.i64.wrap (y2 + 1)) (IntKind.i64.wrap (y3 + 1)))) else (some (Sum.inr y2))
def laws_heldInt16S.f (k : Nat) (a0 : List Int) (a1 : Int) : Option Int := (laws_heldInt16S.l1 a0 k a1 0).bind fun s103 => match s103 with | .inl r => some r | .inr y1 => some y1
theorem laws_heldInt16S.c (k : Nat) (w : World) (Aa0 : Option Addr) (ca0 : Nat) (a0 : List Int) (hr0 : Rd (ci .i16) w Aa0 a0) (hc0 : a0.length ≤ ca0) (a1 : Int) (r : Int) (H : laws_heldInt16S.f k a0 a1 = some r) :
    CV Tryd.prog 46 [.slice Aa0 a0.length ca0, .int .i64 a1].toArray w fun v w' => v = .int .i64 r ∧ Ext w w' := by
  have hS := ((St.init w no).param (ci .i16) Aa0 ca0 a0 hr0 hc0)
  unfold laws_heldInt16S.f at H
  refine CV.body Tryd.func46 rfl Tryd.ntmps46 rfl ?_
  refine CJ.seq ?_
  refine CJ.region ?_
  refine OJ.pures tU_ok 1 rfl ?_
  refine OJ.nil (EJ.next ?_)
  refine CJ.seq ?_
  refine CJ.seq ?_
  refine CJ.region ?_
  refine OJ.pures tU_ok 1 rfl ?_
  refine OJ.nil (EJ.next ?_)
  obtain ⟨j103, H, K103⟩ := pbind H
  refine CJ.cut1 (fun F w1 => ∃ (y1 : Int) , (some (Sum.inr y1) : Option (Int ⊕ Int)) = some j103 ∧ F = [(1, .int .i64 y1)] ∧ St w no w1 [] [roC (ci .i16) Aa0 ca0 a0]) ?_ ?_
  · skip
    refine CJ.block ?_
    refine CJ.loop (fun k F w1 => ∃ (y2 : Int) (y3 : Int), F = [(0, .slice Aa0 a0.length ca0), (1, .int .i64 y2), (5, .int .i64 y3)] ∧ St w no w1 [] [roC (ci .i16) Aa0 ca0 a0] ∧ laws_heldInt16S.l1 a0 k y2 y3 = some j103) k (F' := [(0, .slice Aa0 a0.length ca0), (1, .int .i64 a1), (5, .int .i64 0)]) ⟨rfl, rfl, rfl, trivial⟩ ⟨a1, 0, rfl, hS.pick [] [0] rfl, H⟩ ?_
    rintro k F w1 ⟨y2, y3, rfl, hS, H⟩
    cases k with
    | zero => rw [laws_heldInt16S.l1] at H; cases H
    | succ k =>
      rw [laws_heldInt16S.l1] at H
      refine CJ.seq ?_
      refine CJ.seq ?_
      refine CJ.region ?_
      refine OJ.pures tU_ok 4 rfl ?_
      refine OJ.nil (EJ.next ?_)
      refine CJ.cond rfl (fun hb => ?_) (fun hb => ?_)
      · replace H := pif_t (of_decide_eq_true hb) H
        refine CJ.skip (EJ.next ?_)
        refine CJ.seq ?_
        refine CJ.block ?_
        refine CJ.seq ?_
        refine CJ.seq ?_
        refine CJ.region ?_
        refine OJ.pures tU_ok 2 rfl ?_
        obtain ⟨t4, ht4, H⟩ := pbind H
        obtain ⟨ad4, e4⟩ := (hS.rd' (i := 0) rfl).some' ht4
        refine OJ.st rfl rfl rfl (SR.idxS tU_ok tI_ok rfl rfl rfl rfl e4 rfl (getI_some ht4).1) ?_
        refine OJ.st rfl rfl rfl (SR.load rfl rfl (fun w' hx => ld1 tU_ok rfl rfl (CA.ext ((hS.rd' (i := 0) rfl).at_ e4 ht4) hx) rfl)) ?_
        refine OJ.pures tU_ok 3 rfl ?_
        refine OJ.nil (EJ.next ?_)
        refine CJ.cond rfl (fun hb => ?_) (fun hb => ?_)
        · replace H := pif_t (of_decide_eq_true hb) H
          refine CJ.seq ?_
          refine CJ.region ?_
          refine OJ.pures tU_ok 1 rfl ?_
          refine OJ.nil (EJ.next ?_)
          refine CJ.ret (EJ.skR (EJ.bkR (EJ.skR (EJ.skR (EJ.bkR (EJ.skR (EJ.skR (?_))))))))
          first | (obtain rfl := Option.some.inj H; have H := K103) | (obtain ⟨q103, H2, e103⟩ := pbind H; obtain rfl := Option.some.inj e103; obtain rfl := Option.some.inj K103; have H := H2)
          obtain rfl := Option.some.inj H
          exact EJ.fin rfl (.tmp rfl .nil) ⟨rfl, hS.ext⟩
        · replace H := pif_f (of_decide_eq_false hb) H
          refine CJ.skip (EJ.next ?_)
          refine CJ.region ?_
          refine OJ.pures tU_ok 3 rfl ?_
          refine OJ.nil (EJ.blk (EJ.next ?_))
          refine CJ.region ?_
          refine OJ.pures tU_ok 3 rfl ?_
          refine OJ.nil ?_
          exact EJ.round k (F' := [(0, .slice Aa0 a0.length ca0), (1, .int .i64 (IntKind.i64.wrap (y2 + 1))), (5, .int .i64 (IntKind.i64.wrap (y3 + 1)))]) ⟨rfl, rfl, rfl, trivial⟩ (Nat.lt_succ_self _) ⟨(IntKind.i64.wrap (y2 + 1)), (IntKind.i64.wrap (y3 + 1)), rfl, hS.pick [] [0] rfl, H⟩
      · replace H := pif_f (of_decide_eq_false hb) H
        refine CJ.exit (EJ.skE (EJ.skE (EJ.hit (?_))))
        exact EJ.meet (F' := [(1, .int .i64 y2)]) ⟨rfl, trivial⟩ ⟨y2, H, rfl, hS.pick [] [0] rfl⟩
  · rintro F w1 ⟨y1, he, rfl, hS⟩
    obtain rfl := Option.some.inj he
    have H := K103
    refine EJ.next ?_
    refine CJ.seq ?_
    refine CJ.region ?_
    refine OJ.pures tU_ok 2 rfl ?_
    refine OJ.nil (EJ.next ?_)
    refine CJ.ret (?_)
    obtain rfl := Option.some.inj H
    exact EJ.fin rfl (.tmp rfl .nil) ⟨rfl, hS.ext⟩

def laws_heldUint16S.l1 (a0 : List Int) : Nat → Int → Int → Option (Int ⊕ Int)
  | 0, _, _ => none
  | k + 1, y2, y3 => if y3 < (a0.length : Int) then ((getI a0 y3).bind fun t4 => if t4 ≠ (IntKind.u16.wrap y2) then (some (Sum.inl (-1))) else (laws_heldUint16S.l1 a0 k (IntKind.i64.wrap (y2 + 1)) (IntKind.i64.wrap (y3 + 1)))) else (some (Sum.inr y2))
def laws_heldUint16S.f (k : Nat) (a0 : List Int) (a1 : Int) : Option Int := (laws_heldUint16S.l1 a0 k a1 0).bind fun s104 => match s104 with | .inl r => some r | .inr y1 => some y1
theorem laws_heldUint16S.c (k : Nat) (w : World) (Aa0 : Option Addr) (ca0 : Nat) (a0 : List Int) (hr0 : Rd (ci .u16) w Aa0 a0) (hc0 : a0.length ≤ ca0) (a1 : Int) (r : Int) (H : laws_heldUint16S.f k a0 a1 = some r) :
    CV Tryd.prog 47 [.slice Aa0 a0.length ca0, .int .i64 a1].toArray w fun v w' => v = .int .i64 r ∧ Ext w w' := by
  have hS := ((St.init w no).param (ci .u16) Aa0 ca0 a0 hr0 hc0)
  unfold laws_heldUint16S.f at H
  refine CV.body Tryd.func47 rfl Tryd.ntmps47 rfl ?_
  refine CJ.seq ?_
  refine CJ.region ?_
  refine OJ.pures tU_ok 1 rfl ?_
  refine OJ.nil (EJ.next ?_)
  refine CJ.seq ?_
  refine CJ.seq ?_
  refine CJ.region ?_
  refine OJ.pures tU_ok 1 rfl ?_
  refine OJ.nil (EJ.next ?_)
  obtain ⟨j104, H, K104⟩ := pbind H
  refine CJ.cut1 (fun F w1 => ∃ (y1 : Int) , (some (Sum.inr y1) : Option (Int ⊕ Int)) = some j104 ∧ F = [(1, .int .i64 y1)] ∧ St w no w1 [] [roC (ci .u16) Aa0 ca0 a0]) ?_ ?_
  · skip
    refine CJ.block ?_
    refine CJ.loop (fun k F w1 => ∃ (y2 : Int) (y3 : Int), F = [(0, .slice Aa0 a0.length ca0), (1, .int .i64 y2), (5, .int .i64 y3)] ∧ St w no w1 [] [roC (ci .u16) Aa0 ca0 a0] ∧ laws_heldUint16S.l1 a0 k y2 y3 = some j104) k (F' := [(0, .slice Aa0 a0.length ca0), (1, .int .i64 a1), (5, .int .i64 0)]) ⟨rfl, rfl, rfl, trivial⟩ ⟨a1, 0, rfl, hS.pick [] [0] rfl, H⟩ ?_
    rintro k F w1 ⟨y2, y3, rfl, hS, H⟩
    cases k with
    | zero => rw [laws_heldUint16S.l1] at H; cases H
    | succ k =>
      rw [laws_heldUint16S.l1] at H
      refine CJ.seq ?_
      refine CJ.seq ?_
      refine CJ.region ?_
      refine OJ.pures tU_ok 4 rfl ?_
      refine OJ.nil (EJ.next ?_)
      refine CJ.cond rfl (fun hb => ?_) (fun hb => ?_)
      · replace H := pif_t (of_decide_eq_true hb) H
        refine CJ.skip (EJ.next ?_)
        refine CJ.seq ?_
        refine CJ.block ?_
        refine CJ.seq ?_
        refine CJ.seq ?_
        refine CJ.region ?_
        refine OJ.pures tU_ok 2 rfl ?_
        obtain ⟨t4, ht4, H⟩ := pbind H
        obtain ⟨ad4, e4⟩ := (hS.rd' (i := 0) rfl).some' ht4
        refine OJ.st rfl rfl rfl (SR.idxS tU_ok tI_ok rfl rfl rfl rfl e4 rfl (getI_some ht4).1) ?_
        refine OJ.st rfl rfl rfl (SR.load rfl rfl (fun w' hx => ld1 tU_ok rfl rfl (CA.ext ((hS.rd' (i := 0) rfl).at_ e4 ht4) hx) rfl)) ?_
        refine OJ.pures tU_ok 3 rfl ?_
        refine OJ.nil (EJ.next ?_)
        refine CJ.cond rfl (fun hb => ?_) (fun hb => ?_)
        · replace H := pif_t (of_decide_eq_true hb) H
          refine CJ.seq ?_
          refine CJ.region ?_
          refine OJ.pures tU_ok 1 rfl ?_
          refine OJ.nil (EJ.next ?_)
          refine CJ.ret (EJ.skR (EJ.bkR (EJ.skR (EJ.skR (EJ.bkR (EJ.skR (EJ.skR (?_))))))))
          first | (obtain rfl := Option.some.inj H; have H := K104) | (obtain ⟨q104, H2, e104⟩ := pbind H; obtain rfl := Option.some.inj e104; obtain rfl := Option.some.inj K104; have H := H2)
          obtain rfl := Option.some.inj H
          exact EJ.fin rfl (.tmp rfl .nil) ⟨rfl, hS.ext⟩
        · replace H := pif_f (of_decide_eq_false hb) H
          refine CJ.skip (EJ.next ?_)
          refine CJ.region ?_
          refine OJ.pures tU_ok 3 rfl ?_
          refine OJ.nil (EJ.blk (EJ.next ?_))
          refine CJ.region ?_
          refine OJ.pures tU_ok 3 rfl ?_
          refine OJ.nil ?_
          exact EJ.round k (F' := [(0, .slice Aa0 a0.length ca0), (1, .int .i64 (IntKind.i64.wrap (y2 + 1))), (5, .int .i64 (IntKind.i64.wrap (y3 + 1)))]) ⟨rfl, rfl, rfl, trivial⟩ (Nat.lt_succ_self _) ⟨(IntKind.i64.wrap (y2 + 1)), (IntKind.i64.wrap (y3 + 1)), rfl, hS.pick [] [0] rfl, H⟩
      · replace H := pif_f (of_decide_eq_false hb) H
        refine CJ.exit (EJ.skE (EJ.skE (EJ.hit (?_))))
        exact EJ.meet (F' := [(1, .int .i64 y2)]) ⟨rfl, trivial⟩ ⟨y2, H, rfl, hS.pick [] [0] rfl⟩
  · rintro F w1 ⟨y1, he, rfl, hS⟩
    obtain rfl := Option.some.inj he
    have H := K104
    refine EJ.next ?_
    refine CJ.seq ?_
    refine CJ.region ?_
    refine OJ.pures tU_ok 2 rfl ?_
    refine OJ.nil (EJ.next ?_)
    refine CJ.ret (?_)
    obtain rfl := Option.some.inj H
    exact EJ.fin rfl (.tmp rfl .nil) ⟨rfl, hS.ext⟩

def laws_heldHerd.f (k : Nat) (a0 : Herd) (a1 : Int) : Option Int := (laws_heldStringS.f k a0.Names a1).bind fun t2 => if t2 < 0 then (some (-1)) else ((laws_heldInt16S.f k a0.Eats t2).bind fun t3 => if t3 < 0 then (some (-1)) else ((laws_heldUint16S.f k a0.Foes t3).bind fun t4 => if t4 < 0 then (some (-1)) else (some t4)))
theorem laws_heldHerd.c (k : Nat) (w : World) (Aa0_0 : Option Addr) (ca0_0 : Nat) (Aa0_1 : Option Addr) (ca0_1 : Nat) (Aa0_2 : Option Addr) (ca0_2 : Nat) (a0 : Herd) (hr0_0 : Rd G.cs w Aa0_0 a0.Names) (hc0_0 : a0.Names.length ≤ ca0_0) (hr0_1 : Rd (ci .i16) w Aa0_1 a0.Eats) (hc0_1 : a0.Eats.length ≤ ca0_1) (hr0_2 : Rd (ci .u16) w Aa0_2 a0.Foes) (hc0_2 : a0.Foes.length ≤ ca0_2) (a1 : Int) (r : Int) (H : laws_heldHerd.f k a0 a1 = some r) :
    CV Tryd.prog 16 [.agg [.slice Aa0_0 a0.Names.length ca0_0, .slice Aa0_1 a0.Eats.length ca0_1, .slice Aa0_2 a0.Foes.length ca0_2].toArray, .int .i64 a1].toArray w fun v w' => v = .int .i64 r ∧ Ext w w' := by
  have hS := ((((St.init w no).param G.cs Aa0_0 ca0_0 a0.Names hr0_0 hc0_0).param (ci .i16) Aa0_1 ca0_1 a0.Eats hr0_1 hc0_1).param (ci .u16) Aa0_2 ca0_2 a0.Foes hr0_2 hc0_2)
  unfold laws_heldHerd.f at H
  refine CV.body Tryd.func16 rfl Tryd.ntmps16 rfl ?_
  refine CJ.seq ?_
  refine CJ.region ?_
  refine OJ.ef rfl rfl rfl (Ef.box hS rfl rfl ([.slice Aa0_0 a0.Names.length ca0_0, .slice Aa0_1 a0.Eats.length ca0_1, .slice Aa0_2 a0.Foes.length ca0_2]) rfl) ?_
  rintro _ w1 ⟨b1, rfl, hS⟩
  refine OJ.pures tU_ok 1 rfl ?_
  refine OJ.nil (EJ.next ?_)
  refine CJ.seq ?_
  refine CJ.region ?_
  refine OJ.st rfl rfl rfl (SR.fieldAddr tU_ok tI_ok rfl rfl rfl rfl rfl rfl) ?_
  refine OJ.st rfl rfl rfl (SR.load rfl rfl (fun w' hx => ld1 tU_ok rfl rfl (CA.ext (CA.sub (hS.cells (i := 0) rfl) 0) hx) rfl)) ?_
  refine OJ.pures tU_ok 1 rfl ?_
  obtain ⟨t2, ht2, H⟩ := pbind H
  refine OJ.callF rfl rfl rfl rfl rfl hb45 rfl (laws_heldStringS.c k _ Aa0_0 ca0_0 a0.Names (hS.rd' (i := 0) rfl) (hS.le' (i := 0) rfl) a1 _ ht2) ?_
  rintro _ w1 ⟨rfl, hs⟩
  replace hS := hS.grow hs
  refine OJ.pures tU_ok 1 rfl ?_
  refine OJ.nil (EJ.next ?_)
  refine CJ.seq ?_
  refine CJ.seq ?_
  refine CJ.region ?_
  refine OJ.pures tU_ok 2 rfl ?_
  refine OJ.nil (EJ.next ?_)
  refine CJ.cond rfl (fun hb => ?_) (fun hb => ?_)
  · replace H := pif_t (of_decide_eq_true hb) H
    refine CJ.seq ?_
    refine CJ.region ?_
    refine OJ.pures tU_ok 1 rfl ?_
    refine OJ.nil (EJ.next ?_)
    refine CJ.ret (EJ.skR (?_))
    obtain rfl := Option.some.inj H
    exact EJ.fin rfl (.tmp rfl .nil) ⟨rfl, hS.ext⟩
  · replace H := pif_f (of_decide_eq_false hb) H
    refine CJ.skip (EJ.next ?_)
    refine CJ.seq ?_
    refine CJ.region ?_
    refine OJ.st rfl rfl rfl (SR.fieldAddr tU_ok tI_ok rfl rfl rfl rfl rfl rfl) ?_
    refine OJ.st rfl rfl rfl (SR.load rfl rfl (fun w' hx => ld1 tU_ok rfl rfl (CA.ext (CA.sub (hS.cells (i := 0) rfl) 1) hx) rfl)) ?_
    refine OJ.pures tU_ok 1 rfl ?_
    obtain ⟨t3, ht3, H⟩ := pbind H
    refine OJ.callF rfl rfl rfl rfl rfl hb46 rfl (laws_heldInt16S.c k _ Aa0_1 ca0_1 a0.Eats (hS.rd' (i := 1) rfl) (hS.le' (i := 1) rfl) t2 _ ht3) ?_
    rintro _ w1 ⟨rfl, hs⟩
    replace hS := hS.grow hs
    refine OJ.pures tU_ok 1 rfl ?_
    refine OJ.nil (EJ.next ?_)
    refine CJ.seq ?_
    refine CJ.seq ?_
    refine CJ.region ?_
    refine OJ.pures tU_ok 2 rfl ?_
    refine OJ.nil (EJ.next ?_)
    refine CJ.cond rfl (fun hb => ?_) (fun hb => ?_)
    · replace H := pif_t (of_decide_eq_true hb) H
      refine CJ.seq ?_
      refine CJ.region ?_
      refine OJ.pures tU_ok 1 rfl ?_
      refine OJ.nil (EJ.next ?_)
      refine CJ.ret (EJ.skR (?_))
      obtain rfl := Option.some.inj H
      exact EJ.fin rfl (.tmp rfl .nil) ⟨rfl, hS.ext⟩
    · replace H := pif_f (of_decide_eq_false hb) H
      refine CJ.skip (EJ.next ?_)
      refine CJ.seq ?_
      refine CJ.region ?_
      refine OJ.st rfl rfl rfl (SR.fieldAddr tU_ok tI_ok rfl rfl rfl rfl rfl rfl) ?_
      refine OJ.st rfl rfl rfl (SR.load rfl rfl (fun w' hx => ld1 tU_ok rfl rfl (CA.ext (CA.sub (hS.cells (i := 0) rfl) 2) hx) rfl)) ?_
      refine OJ.pures tU_ok 1 rfl ?_
      obtain ⟨t4, ht4, H⟩ := pbind H
      refine OJ.callF rfl rfl rfl rfl rfl hb47 rfl (laws_heldUint16S.c k _ Aa0_2 ca0_2 a0.Foes (hS.rd' (i := 2) rfl) (hS.le' (i := 2) rfl) t3 _ ht4) ?_
      rintro _ w1 ⟨rfl, hs⟩
      replace hS := hS.grow hs
      refine OJ.pures tU_ok 1 rfl ?_
      refine OJ.nil (EJ.next ?_)
      refine CJ.seq ?_
      refine CJ.seq ?_
      refine CJ.region ?_
      refine OJ.pures tU_ok 2 rfl ?_
      refine OJ.nil (EJ.next ?_)
      refine CJ.cond rfl (fun hb => ?_) (fun hb => ?_)
      · replace H := pif_t (of_decide_eq_true hb) H
        refine CJ.seq ?_
        refine CJ.region ?_
        refine OJ.pures tU_ok 1 rfl ?_
        refine OJ.nil (EJ.next ?_)
        refine CJ.ret (EJ.skR (?_))
        obtain rfl := Option.some.inj H
        exact EJ.fin rfl (.tmp rfl .nil) ⟨rfl, hS.ext⟩
      · replace H := pif_f (of_decide_eq_false hb) H
        refine CJ.skip (EJ.next ?_)
        refine CJ.seq ?_
        refine CJ.region ?_
        refine OJ.pures tU_ok 2 rfl ?_
        refine OJ.nil (EJ.next ?_)
        refine CJ.ret (?_)
        obtain rfl := Option.some.inj H
        exact EJ.fin rfl (.tmp rfl .nil) ⟨rfl, hS.ext⟩

def spec_l06Asked.l1 (a0 : Herd) (a1 : List Int) : Nat → Int → Option (Int ⊕ Unit)
  | 0, _ => none
  | k + 1, y2 => if y2 < (a1.length : Int) then ((getI a1 y2).bind fun t3 => (spec_l00In.f t3 0 (IntKind.i64.wrap ((a0.Names.length : Int) - 1))).bind fun t4 => if (!t4) = true then (some (Sum.inl 2)) else (spec_l06Asked.l1 a0 a1 k (IntKind.i64.wrap (y2 + 1)))) else (some (Sum.inr ()))
def spec_l06Asked.f (k : Nat) (a0 : Herd) (a1 : List Int) : Option Int := (spec_l06Ok.f k a0).bind fun t1 => if (!t1) = true then (some 1) else ((spec_l06Asked.l1 a0 a1 k 0).bind fun s105 => match s105 with | .inl r => some r | .inr _ => some 0)
theorem spec_l06Asked.c (k : Nat) (w : World) (Aa0_0 : Option Addr) (ca0_0 : Nat) (Aa0_1 : Option Addr) (ca0_1 : Nat) (Aa0_2 : Option Addr) (ca0_2 : Nat) (a0 : Herd) (hr0_0 : Rd G.cs w Aa0_0 a0.Names) (hc0_0 : a0.Names.length ≤ ca0_0) (hr0_1 : Rd (ci .i16) w Aa0_1 a0.Eats) (hc0_1 : a0.Eats.length ≤ ca0_1) (hr0_2 : Rd (ci .u16) w Aa0_2 a0.Foes) (hc0_2 : a0.Foes.length ≤ ca0_2) (pa0 : Addr) (hp0 : CA w pa0 ([.slice Aa0_0 a0.Names.length ca0_0, .slice Aa0_1 a0.Eats.length ca0_1, .slice Aa0_2 a0.Foes.length ca0_2])) (Aa1 : Option Addr) (ca1 : Nat) (a1 : List Int) (hr1 : Rd (ci .i64) w Aa1 a1) (hc1 : a1.length ≤ ca1) (r : Int) (H : spec_l06Asked.f k a0 a1 = some r) :
    CV Tryd.prog 27 [.pointer (some pa0), .slice Aa1 a1.length ca1].toArray w fun v w' => v = .int .i64 r ∧ Ext w w' := by
  have hS := ((((((St.init w no).param G.cs Aa0_0 ca0_0 a0.Names hr0_0 hc0_0).param (ci .i16) Aa0_1 ca0_1 a0.Eats hr0_1 hc0_1).param (ci .u16) Aa0_2 ca0_2 a0.Foes hr0_2 hc0_2).paramP pa0 ([.slice Aa0_0 a0.Names.length ca0_0, .slice Aa0_1 a0.Eats.length ca0_1, .slice Aa0_2 a0.Foes.length ca0_2]) hp0).param (ci .i64) Aa1 ca1 a1 hr1 hc1)
  unfold spec_l06Asked.f at H
  refine CV.body Tryd.func27 rfl Tryd.ntmps27 rfl ?_
  refine CJ.seq ?_
  refine CJ.region ?_
  refine OJ.pures tU_ok 1 rfl ?_
  refine OJ.nil (EJ.next ?_)
  refine CJ.seq ?_
  refine CJ.seq ?_
  refine CJ.region ?_
  refine OJ.pures tU_ok 1 rfl ?_
  obtain ⟨t1, ht1, H⟩ := pbind H
  refine OJ.callF rfl rfl rfl rfl rfl hb48 rfl (spec_l06Ok.c k _ Aa0_0 ca0_0 Aa0_1 ca0_1 Aa0_2 ca0_2 a0 (hS.rd' (i := 0) rfl) (hS.le' (i := 0) rfl) (hS.rd' (i := 1) rfl) (hS.le' (i := 1) rfl) (hS.rd' (i := 2) rfl) (hS.le' (i := 2) rfl) pa0 (hS.ca (i := 3) rfl) _ ht1) ?_
  rintro _ w1 ⟨rfl, hs⟩
  replace hS := hS.grow hs
  refine OJ.pures tU_ok 1 rfl ?_
  refine OJ.nil (EJ.next ?_)
  refine CJ.cond rfl (fun hb => ?_) (fun hb => ?_)
  · replace H := pif_t hb H
    refine CJ.seq ?_
    refine CJ.region ?_
    refine OJ.pures tU_ok 1 rfl ?_
    refine OJ.nil (EJ.next ?_)
    refine CJ.ret (EJ.skR (?_))
    obtain rfl := Option.some.inj H
    exact EJ.fin rfl (.tmp rfl .nil) ⟨rfl, hS.ext⟩
  · replace H := pifb_f hb H
    refine CJ.skip (EJ.next ?_)
    refine CJ.seq ?_
    refine CJ.seq ?_
    refine CJ.region ?_
    refine OJ.pures tU_ok 1 rfl ?_
    refine OJ.nil (EJ.next ?_)
    obtain ⟨j105, H, K105⟩ := pbind H
    refine CJ.cut1 (fun F w1 => (some (Sum.inr ()) : Option (Int ⊕ Unit)) = some j105 ∧ F = [] ∧ St w no w1 [] [roC G.cs Aa0_0 ca0_0 a0.Names, roC (ci .i16) Aa0_1 ca0_1 a0.Eats, roC (ci .u16) Aa0_2 ca0_2 a0.Foes, roP pa0 ([.slice Aa0_0 a0.Names.length ca0_0, .slice Aa0_1 a0.Eats.length ca0_1, .slice Aa0_2 a0.Foes.length ca0_2]), roC (ci .i64) Aa1 ca1 a1]) ?_ ?_
    · skip
      refine CJ.block ?_
      refine CJ.loop (fun k F w1 => ∃ (y2 : Int), F = [(0, .pointer (some pa0)), (1, .slice Aa1 a1.length ca1), (5, .int .i64 y2)] ∧ St w no w1 [] [roC G.cs Aa0_0 ca0_0 a0.Names, roC (ci .i16) Aa0_1 ca0_1 a0.Eats, roC (ci .u16) Aa0_2 ca0_2 a0.Foes, roP pa0 ([.slice Aa0_0 a0.Names.length ca0_0, .slice Aa0_1 a0.Eats.length ca0_1, .slice Aa0_2 a0.Foes.length ca0_2]), roC (ci .i64) Aa1 ca1 a1] ∧ spec_l06Asked.l1 a0 a1 k y2 = some j105) k (F' := [(0, .pointer (some pa0)), (1, .slice Aa1 a1.length ca1), (5, .int .i64 0)]) ⟨rfl, rfl, rfl, trivial⟩ ⟨0, rfl, hS.pick [] [0, 1, 2, 3, 4] rfl, H⟩ ?_
      rintro k F w1 ⟨y2, rfl, hS, H⟩
      cases k with
      | zero => rw [spec_l06Asked.l1] at H; cases H
      | succ k =>
        rw [spec_l06Asked.l1] at H
        refine CJ.seq ?_
        refine CJ.seq ?_
        refine CJ.region ?_
        refine OJ.pures tU_ok 4 rfl ?_
        refine OJ.nil (EJ.next ?_)
        refine CJ.cond rfl (fun hb => ?_) (fun hb => ?_)
        · replace H := pif_t (of_decide_eq_true hb) H
          refine CJ.skip (EJ.next ?_)
          refine CJ.seq ?_
          refine CJ.block ?_
          refine CJ.seq ?_
          refine CJ.draw [] [0, 1, 2, 3, 4, 5, 6, 7, 8, 9, 10, 11] mixed (by kernel_rfl) hS fun w1 hS => ?_
          refine DJ.pures tU_ok 2 rfl ?_
          obtain ⟨t3, ht3, H⟩ := pbind H
          obtain ⟨ad3, e3⟩ := (hS.rd' (i := 4) rfl).some' ht3
          refine DJ.st rfl rfl rfl rfl rfl (SR.idxS tU_ok tI_ok rfl rfl rfl rfl e3 rfl (getI_some ht3).1) ?_
          refine DJ.st rfl rfl rfl rfl rfl (SR.load rfl rfl (fun w' hx => ld1 tU_ok rfl rfl (CA.ext ((hS.rd' (i := 4) rfl).at_ e3 ht3) hx) rfl)) ?_
          refine DJ.pures tU_ok 2 rfl ?_
          refine DJ.st rfl rfl rfl rfl rfl (SR.fieldAddr tU_ok tI_ok rfl rfl rfl rfl rfl rfl) ?_
          refine DJ.st rfl rfl rfl rfl rfl (SR.load rfl rfl (fun w' hx => ld1 tU_ok rfl rfl (CA.ext (CA.sub (hS.ca (i := 3) rfl) 0) hx) rfl)) ?_
          refine DJ.pures tU_ok 2 rfl ?_
          obtain ⟨t4, ht4, H⟩ := pbind H
          refine DJ.callF rfl rfl rfl rfl rfl rfl rfl hb49 rfl (spec_l00In.c _ t3 0 (IntKind.i64.wrap ((a0.Names.length : Int) - 1)) _ ht4) (by rintro v w' ⟨rfl, hs⟩; exact hs) ?_
          rintro _ w1 ⟨rfl, hs⟩
          replace hS := hS.grow hs
          refine DJ.pures tU_ok 1 rfl ?_
          refine DJ.nil (EJ.next ?_)
          refine CJ.cond rfl (fun hb => ?_) (fun hb => ?_)
          · replace H := pif_t hb H
            refine CJ.seq ?_
            refine CJ.region ?_
            refine OJ.pures tU_ok 1 rfl ?_
            refine OJ.nil (EJ.next ?_)
            refine CJ.ret (EJ.bkR (EJ.skR (EJ.skR (EJ.bkR (EJ.skR (EJ.skR (?_)))))))
            first | (obtain rfl := Option.some.inj H; have H := K105) | (obtain ⟨q105, H2, e105⟩ := pbind H; obtain rfl := Option.some.inj e105; obtain rfl := Option.some.inj K105; have H := H2)
            obtain rfl := Option.some.inj H
            exact EJ.fin rfl (.tmp rfl .nil) ⟨rfl, hS.ext⟩
          · replace H := pifb_f hb H
            refine CJ.skip (EJ.blk (EJ.next ?_))
            refine CJ.region ?_
            refine OJ.pures tU_ok 3 rfl ?_
            refine OJ.nil ?_
            exact EJ.round k (F' := [(0, .pointer (some pa0)), (1, .slice Aa1 a1.length ca1), (5, .int .i64 (IntKind.i64.wrap (y2 + 1)))]) ⟨rfl, rfl, rfl, trivial⟩ (Nat.lt_succ_self _) ⟨(IntKind.i64.wrap (y2 + 1)), rfl, hS.pick [] [0, 1, 2, 3, 4] rfl, H⟩
        · replace H := pif_f (of_decide_eq_false hb) H
          refine CJ.exit (EJ.skE (EJ.skE (EJ.hit (?_))))
          exact EJ.meet (F' := []) trivial ⟨H, rfl, hS.pick [] [0, 1, 2, 3, 4] rfl⟩
    · rintro F w1 ⟨he, rfl, hS⟩
      obtain rfl := Option.some.inj he
      have H := K105
      refine EJ.next ?_
      refine CJ.seq ?_
      refine CJ.region ?_
      refine OJ.pures tU_ok 1 rfl ?_
      refine OJ.nil (EJ.next ?_)
      refine CJ.ret (?_)
      obtain rfl := Option.some.inj H
      exact EJ.fin rfl (.tmp rfl .nil) ⟨rfl, hS.ext⟩

def impl_firstOf.l1 (a0 : List Int) : Nat → Int → Option (Int ⊕ Unit)
  | 0, _ => none
  | k + 1, y1 => if y1 < (a0.length : Int) then ((getI a0 y1).bind fun t2 => if t2 ≠ 0 then (some (Sum.inl t2)) else (impl_firstOf.l1 a0 k (IntKind.i64.wrap (y1 + 1)))) else (some (Sum.inr ()))
def impl_firstOf.f (k : Nat) (a0 : List Int) : Option Int := (impl_firstOf.l1 a0 k 0).bind fun s106 => match s106 with | .inl r => some r | .inr _ => some 0
theorem impl_firstOf.c (k : Nat) (w : World) (Aa0 : Option Addr) (ca0 : Nat) (a0 : List Int) (hr0 : Rd (ci .i64) w Aa0 a0) (hc0 : a0.length ≤ ca0) (r : Int) (H : impl_firstOf.f k a0 = some r) :
    CV Tryd.prog 33 [.slice Aa0 a0.length ca0].toArray w fun v w' => v = .int .i64 r ∧ Ext w w' := by
  have hS := ((St.init w no).param (ci .i64) Aa0 ca0 a0 hr0 hc0)
  unfold impl_firstOf.f at H
  refine CV.body Tryd.func33 rfl Tryd.ntmps33 rfl ?_
  refine CJ.seq ?_
  refine CJ.region ?_
  refine OJ.pures tU_ok 1 rfl ?_
  refine OJ.nil (EJ.next ?_)
  refine CJ.seq ?_
  refine CJ.seq ?_
  refine CJ.region ?_
  refine OJ.pures tU_ok 3 rfl ?_
  refine OJ.nil (EJ.next ?_)
  obtain ⟨j106, H, K106⟩ := pbind H
  refine CJ.cut1 (fun F w1 => (some (Sum.inr ()) : Option (Int ⊕ Unit)) = some j106 ∧ F = [] ∧ St w no w1 [] [roC (ci .i64) Aa0 ca0 a0]) ?_ ?_
  · skip
    refine CJ.block ?_
    refine CJ.loop (fun k F w1 => ∃ (y1 : Int), F = [(5, .slice Aa0 a0.length ca0), (6, .int .i64 (a0.length : Int)), (7, .int .i64 y1)] ∧ St w no w1 [] [roC (ci .i64) Aa0 ca0 a0] ∧ impl_firstOf.l1 a0 k y1 = some j106) k (F' := [(5, .slice Aa0 a0.length ca0), (6, .int .i64 (a0.length : Int)), (7, .int .i64 0)]) ⟨rfl, rfl, rfl, trivial⟩ ⟨0, rfl, hS.pick [] [0] rfl, H⟩ ?_
    rintro k F w1 ⟨y1, rfl, hS, H⟩
    cases k with
    | zero => rw [impl_firstOf.l1] at H; cases H
    | succ k =>
      rw [impl_firstOf.l1] at H
      refine CJ.seq ?_
      refine CJ.region ?_
      refine OJ.pures tU_ok 1 rfl ?_
      refine OJ.nil (EJ.next ?_)
      refine CJ.seq ?_
      refine CJ.cond rfl (fun hb => ?_) (fun hb => ?_)
      · replace H := pif_t (of_decide_eq_true hb) H
        refine CJ.skip (EJ.next ?_)
        refine CJ.seq ?_
        refine CJ.block ?_
        refine CJ.seq ?_
        refine CJ.region ?_
        obtain ⟨t2, ht2, H⟩ := pbind H
        obtain ⟨ad2, e2⟩ := (hS.rd' (i := 0) rfl).some' ht2
        refine OJ.st rfl rfl rfl (SR.idxS tU_ok tI_ok rfl rfl rfl rfl e2 rfl (getI_some ht2).1) ?_
        refine OJ.st rfl rfl rfl (SR.load rfl rfl (fun w' hx => ld1 tU_ok rfl rfl (CA.ext ((hS.rd' (i := 0) rfl).at_ e2 ht2) hx) rfl)) ?_
        refine OJ.pures tU_ok 1 rfl ?_
        refine OJ.nil (EJ.next ?_)
        refine CJ.seq ?_
        refine CJ.region ?_
        refine OJ.pures tU_ok 2 rfl ?_
        refine OJ.nil (EJ.next ?_)
        refine CJ.cond rfl (fun hb => ?_) (fun hb => ?_)
        · replace H := pif_t (of_decide_eq_true hb) H
          refine CJ.seq ?_
          refine CJ.region ?_
          refine OJ.pures tU_ok 2 rfl ?_
          refine OJ.nil (EJ.next ?_)
          refine CJ.ret (EJ.bkR (EJ.skR (EJ.skR (EJ.bkR (EJ.skR (EJ.skR (?_)))))))
          first | (obtain rfl := Option.some.inj H; have H := K106) | (obtain ⟨q106, H2, e106⟩ := pbind H; obtain rfl := Option.some.inj e106; obtain rfl := Option.some.inj K106; have H := H2)
          obtain rfl := Option.some.inj H
          exact EJ.fin rfl (.tmp rfl .nil) ⟨rfl, hS.ext⟩
        · replace H := pif_f (of_decide_eq_false hb) H
          refine CJ.skip (EJ.blk (EJ.next ?_))
          refine CJ.region ?_
          refine OJ.pures tU_ok 2 rfl ?_
          refine OJ.nil ?_
          exact EJ.round k (F' := [(5, .slice Aa0 a0.length ca0), (6, .int .i64 (a0.length : Int)), (7, .int .i64 (IntKind.i64.wrap (y1 + 1)))]) ⟨rfl, rfl, rfl, trivial⟩ (Nat.lt_succ_self _) ⟨(IntKind.i64.wrap (y1 + 1)), rfl, hS.pick [] [0] rfl, H⟩
      · replace H := pif_f (of_decide_eq_false hb) H
        refine CJ.exit (EJ.skE (EJ.skE (EJ.hit (?_))))
        exact EJ.meet (F' := []) trivial ⟨H, rfl, hS.pick [] [0] rfl⟩
  · rintro F w1 ⟨he, rfl, hS⟩
    obtain rfl := Option.some.inj he
    have H := K106
    refine EJ.next ?_
    refine CJ.seq ?_
    refine CJ.region ?_
    refine OJ.pures tU_ok 1 rfl ?_
    refine OJ.nil (EJ.next ?_)
    refine CJ.ret (?_)
    obtain rfl := Option.some.inj H
    exact EJ.fin rfl (.tmp rfl .nil) ⟨rfl, hS.ext⟩
end Go.Proofs.YtbpjhagilkeilaaDoor
