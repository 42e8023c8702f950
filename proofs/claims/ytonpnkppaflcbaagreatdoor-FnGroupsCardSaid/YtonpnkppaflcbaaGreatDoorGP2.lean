/-
  What the functions come to.
-/
import Derived.Test.YtonpnkppaflcbaaGreatDoorGP1
namespace Go.Proofs.YtonpnkppaflcbaaGreatDoor
open G
set_option linter.unusedVariables false
set_option linter.unusedSimpArgs false
set_option maxRecDepth 100000
set_option maxHeartbeats 4000000
def slices_Max_int64_int64.l1 (a0 : List Int) : Nat → Int → Int → Option Int
  | 0, _, _ => none
  | k + 1, y3, y4 => if y4 < (a0.length : Int) then ((getI a0 y4).bind fun t5 => slices_Max_int64_int64.l1 a0 k (if y3 < t5 then t5 else y3) (IntKind.i64.wrap (y4 + 1))) else (some y3)
def slices_Max_int64_int64.f (k : Nat) (a0 : List Int) : Option Int := if (a0.length : Int) < 1 then none else ((getI a0 0).bind fun t1 => (slices_Max_int64_int64.l1 a0 k t1 1).bind fun y2 => some y2)
theorem slices_Max_int64_int64.c (k : Nat) (w : World) (Aa0 : Option Addr) (ca0 : Nat) (a0 : List Int) (hr0 : Rd (ci .i64) w Aa0 a0) (hc0 : a0.length ≤ ca0) (r : Int) (H : slices_Max_int64_int64.f k a0 = some r) :
    CV Tryz.prog 47 [.slice Aa0 a0.length ca0].toArray w fun v w' => v = .int .i64 r ∧ Ext w w' := by
  have hS := ((St.init w no).param (ci .i64) Aa0 ca0 a0 hr0 hc0)
  unfold slices_Max_int64_int64.f at H
  refine CV.body Tryz.func47 rfl Tryz.ntmps47 rfl ?_
  refine CJ.seq ?_
  refine CJ.region ?_
  refine OJ.pures tU_ok 1 rfl ?_
  refine OJ.nil (EJ.next ?_)
  refine CJ.seq ?_
  refine CJ.seq ?_
  refine CJ.region ?_
  refine OJ.pures tU_ok 3 rfl ?_
  refine OJ.nil (EJ.next ?_)
  refine CJ.cond rfl (fun hb => ?_) (fun hb => ?_)
  · replace H := pif_t (of_decide_eq_true hb) H
    cases H
  · replace H := pif_f (of_decide_eq_false hb) H
    refine CJ.skip (EJ.next ?_)
    refine CJ.seq ?_
    refine CJ.region ?_
    refine OJ.pures tU_ok 1 rfl ?_
    obtain ⟨t1, ht1, H⟩ := pbind H
    obtain ⟨ad1, e1⟩ := (hS.rd' (i := 0) rfl).some' ht1
    refine OJ.st rfl rfl rfl (SR.idxS tU_ok tI_ok rfl rfl rfl rfl e1 rfl (getI_some ht1).1) ?_
    refine OJ.st rfl rfl rfl (SR.load rfl rfl (fun w' hx => ld1 tU_ok rfl rfl (CA.ext ((hS.rd' (i := 0) rfl).at_ e1 ht1) hx) rfl)) ?_
    refine OJ.pures tU_ok 1 rfl ?_
    refine OJ.nil (EJ.next ?_)
    refine CJ.seq ?_
    refine CJ.seq ?_
    refine CJ.region ?_
    refine OJ.pures tU_ok 1 rfl ?_
    refine OJ.nil (EJ.next ?_)
    obtain ⟨j260, H, K260⟩ := pbind H
    refine CJ.cut1 (fun F w1 => ∃ (y2 : Int) , (some y2 : Option Int) = some j260 ∧ F = [(3, .int .i64 y2)] ∧ St w no w1 [] [roC (ci .i64) Aa0 ca0 a0]) ?_ ?_
    · skip
      refine CJ.block ?_
      refine CJ.loop (fun k F w1 => ∃ (y3 : Int) (y4 : Int), F = [(0, .slice Aa0 a0.length ca0), (3, .int .i64 y3), (4, .int .i64 y4)] ∧ St w no w1 [] [roC (ci .i64) Aa0 ca0 a0] ∧ slices_Max_int64_int64.l1 a0 k y3 y4 = some j260) k (F' := [(0, .slice Aa0 a0.length ca0), (3, .int .i64 t1), (4, .int .i64 1)]) ⟨rfl, rfl, rfl, trivial⟩ ⟨t1, 1, rfl, hS.pick [] [0] rfl, H⟩ ?_
      rintro k F w1 ⟨y3, y4, rfl, hS, H⟩
      cases k with
      | zero => rw [slices_Max_int64_int64.l1] at H; cases H
      | succ k =>
        rw [slices_Max_int64_int64.l1] at H
        refine CJ.seq ?_
        refine CJ.seq ?_
        refine CJ.region ?_
        refine OJ.pures tU_ok 4 rfl ?_
        refine OJ.nil (EJ.next ?_)
        refine CJ.cond rfl (fun hb => ?_) (fun hb => ?_)
        · replace H := pif_t (of_decide_eq_true hb) H
          refine CJ.skip (EJ.next ?_)
          refine CJ.seq ?_
          refine CJ.block ?_
          refine CJ.region ?_
          refine OJ.pures tU_ok 3 rfl ?_
          obtain ⟨t5, ht5, H⟩ := pbind H
          obtain ⟨ad5, e5⟩ := (hS.rd' (i := 0) rfl).some' ht5
          refine OJ.st rfl rfl rfl (SR.idxS tU_ok tI_ok rfl rfl rfl rfl e5 rfl (getI_some ht5).1) ?_
          refine OJ.st rfl rfl rfl (SR.load rfl rfl (fun w' hx => ld1 tU_ok rfl rfl (CA.ext ((hS.rd' (i := 0) rfl).at_ e5 ht5) hx) rfl)) ?_
          refine OJ.pures tU_ok 2 rfl ?_
          refine OJ.nil (EJ.blk (EJ.next ?_))
          refine CJ.region ?_
          refine OJ.pures tU_ok 3 rfl ?_
          refine OJ.nil ?_
          exact EJ.round k (F' := [(0, .slice Aa0 a0.length ca0), (3, .int .i64 (if y3 < t5 then t5 else y3)), (4, .int .i64 (IntKind.i64.wrap (y4 + 1)))]) ⟨rfl, rfl, rfl, trivial⟩ (Nat.lt_succ_self _) ⟨(if y3 < t5 then t5 else y3), (IntKind.i64.wrap (y4 + 1)), rfl, hS.pick [] [0] rfl, H⟩
        · replace H := pif_f (of_decide_eq_false hb) H
          refine CJ.exit (EJ.skE (EJ.skE (EJ.hit (?_))))
          exact EJ.meet (F' := [(3, .int .i64 y3)]) ⟨rfl, trivial⟩ ⟨y3, H, rfl, hS.pick [] [0] rfl⟩
    · rintro F w1 ⟨y2, he, rfl, hS⟩
      obtain rfl := Option.some.inj he
      have H := K260
      refine EJ.next ?_
      refine CJ.seq ?_
      refine CJ.region ?_
      refine OJ.pures tU_ok 2 rfl ?_
      refine OJ.nil (EJ.next ?_)
      refine CJ.ret (?_)
      obtain rfl := Option.some.inj H
      exact EJ.fin rfl (.tmp rfl .nil) ⟨rfl, hS.ext⟩

def impl_NeedsOf.l1 (a0 : Herd) (a1 : List Int) : Nat → (List Int) → Int → Option (List Int)
  | 0, _, _ => none
  | k + 1, y8, y9 => if y9 < (a1.length : Int) then ((getI a1 y9).bind fun t10 => (getI y8 t10).bind fun t11 => (getI a0.Eats y9).bind fun t12 => (getI y8 t10).bind fun t13 => impl_NeedsOf.l1 a0 a1 k (y8.set t10.toNat (IntKind.i64.wrap (t11 + (IntKind.i64.wrap t12)))) (IntKind.i64.wrap (y9 + 1))) else (some y8)
def impl_NeedsOf.f (k : Nat) (a0 : Herd) (a1 : List Int) : Option (List Int × Int) := (impl_ValidHerd.f k a0).bind fun t2 => if (!t2) = true then (some ([], 1)) else ((impl_Herd_areGroups.f k a0 a1).bind fun t3 => if (!t3) = true then (some ([], 4)) else (if (a1.length : Int) = 0 then (some ([], 0)) else ((slices_Max_int64_int64.f k a1).bind fun t4 => (chk (0 ≤ (IntKind.i64.wrap (t4 + 1)) ∧ (IntKind.i64.wrap (t4 + 1)) ≤ 4294967296)).bind fun u5 => (impl_NeedsOf.l1 a0 a1 k (List.replicate ((IntKind.i64.wrap (t4 + 1)).toNat) 0 : List Int) 0).bind fun y7 => some (y7, 0))))
theorem impl_NeedsOf.c (k : Nat) (w : World) (Aa0_0 : Option Addr) (ca0_0 : Nat) (Aa0_1 : Option Addr) (ca0_1 : Nat) (Aa0_2 : Option Addr) (ca0_2 : Nat) (a0 : Herd) (hr0_0 : Rd G.cs w Aa0_0 a0.Names) (hc0_0 : a0.Names.length ≤ ca0_0) (hr0_1 : Rd (ci .i16) w Aa0_1 a0.Eats) (hc0_1 : a0.Eats.length ≤ ca0_1) (hr0_2 : Rd (ci .u16) w Aa0_2 a0.Foes) (hc0_2 : a0.Foes.length ≤ ca0_2) (Aa1 : Option Addr) (ca1 : Nat) (a1 : List Int) (hr1 : Rd (ci .i64) w Aa1 a1) (hc1 : a1.length ≤ ca1) (r : List Int × Int) (H : impl_NeedsOf.f k a0 a1 = some r) :
    CV Tryz.prog 19 [.agg [.slice Aa0_0 a0.Names.length ca0_0, .slice Aa0_1 a0.Eats.length ca0_1, .slice Aa0_2 a0.Foes.length ca0_2].toArray, .slice Aa1 a1.length ca1].toArray w fun v w' => ∃ (A0 : Option Addr) (c0 : Nat), v = .tuple #[.slice A0 r.1.length c0, .int .i64 r.2] ∧ St w no w' [rowC (ci .i64) A0 c0 2 r.1] [] := by
  have hS := (((((St.init w no).param G.cs Aa0_0 ca0_0 a0.Names hr0_0 hc0_0).param (ci .i16) Aa0_1 ca0_1 a0.Eats hr0_1 hc0_1).param (ci .u16) Aa0_2 ca0_2 a0.Foes hr0_2 hc0_2).param (ci .i64) Aa1 ca1 a1 hr1 hc1)
  unfold impl_NeedsOf.f at H
  refine CV.body Tryz.func19 rfl Tryz.ntmps19 rfl ?_
  refine CJ.seq ?_
  refine CJ.region ?_
  refine OJ.ef rfl rfl rfl (Ef.box hS rfl rfl ([.slice Aa0_0 a0.Names.length ca0_0, .slice Aa0_1 a0.Eats.length ca0_1, .slice Aa0_2 a0.Foes.length ca0_2]) rfl) ?_
  rintro _ w1 ⟨b1, rfl, hS⟩
  refine OJ.pures tU_ok 2 rfl ?_
  refine OJ.nil (EJ.next ?_)
  refine CJ.seq ?_
  refine CJ.block ?_
  refine CJ.seq ?_
  refine CJ.region ?_
  refine OJ.st rfl rfl rfl (SR.load rfl rfl (fun w' hx => ldN tU_ok tI_ok rfl rfl rfl (CA.ext (hS.cells (i := 0) rfl) hx) (ds := [.slice Aa0_0 a0.Names.length ca0_0, .slice Aa0_1 a0.Eats.length ca0_1, .slice Aa0_2 a0.Foes.length ca0_2]) rfl rfl)) ?_
  obtain ⟨t2, ht2, H⟩ := pbind H
  refine OJ.callF rfl rfl rfl rfl rfl hb27 rfl (impl_ValidHerd.c k _ Aa0_0 ca0_0 Aa0_1 ca0_1 Aa0_2 ca0_2 a0 (hS.rd' (i := 0) rfl) (hS.le' (i := 0) rfl) (hS.rd' (i := 1) rfl) (hS.le' (i := 1) rfl) (hS.rd' (i := 2) rfl) (hS.le' (i := 2) rfl) _ ht2) ?_
  rintro _ w1 ⟨rfl, hs⟩
  replace hS := hS.grow hs
  refine OJ.pures tU_ok 2 rfl ?_
  refine OJ.nil (EJ.next ?_)
  refine CJ.cond rfl (fun hb => ?_) (fun hb => ?_)
  · replace H := pif_t hb H
    refine CJ.seq ?_
    refine CJ.region ?_
    refine OJ.pures tU_ok 2 rfl ?_
    refine OJ.nil (EJ.next ?_)
    refine CJ.ret (EJ.bkR (EJ.skR (?_)))
    replace hS := hS.addNil (ci .i64) 2 none
    obtain rfl := Option.some.inj H
    exact EJ.fin rfl (.tmp rfl (.tmp rfl .nil)) ⟨none, 0, rfl, hS.pick [1] [] rfl⟩
  · replace H := pifb_f hb H
    refine CJ.seq ?_
    refine CJ.region ?_
    refine OJ.st rfl rfl rfl (SR.load rfl rfl (fun w' hx => ldN tU_ok tI_ok rfl rfl rfl (CA.ext (hS.cells (i := 0) rfl) hx) (ds := [.slice Aa0_0 a0.Names.length ca0_0, .slice Aa0_1 a0.Eats.length ca0_1, .slice Aa0_2 a0.Foes.length ca0_2]) rfl rfl)) ?_
    refine OJ.pures tU_ok 1 rfl ?_
    obtain ⟨t3, ht3, H⟩ := pbind H
    refine OJ.callF rfl rfl rfl rfl rfl hb43 rfl (impl_Herd_areGroups.c k _ Aa0_0 ca0_0 Aa0_1 ca0_1 Aa0_2 ca0_2 a0 (hS.rd' (i := 0) rfl) (hS.le' (i := 0) rfl) (hS.rd' (i := 1) rfl) (hS.le' (i := 1) rfl) (hS.rd' (i := 2) rfl) (hS.le' (i := 2) rfl) Aa1 ca1 a1 (hS.rd' (i := 3) rfl) (hS.le' (i := 3) rfl) _ ht3) ?_
    rintro _ w1 ⟨rfl, hs⟩
    replace hS := hS.grow hs
    refine OJ.pures tU_ok 2 rfl ?_
    refine OJ.nil (EJ.next ?_)
    refine CJ.cond rfl (fun hb => ?_) (fun hb => ?_)
    · replace H := pif_t hb H
      refine CJ.seq ?_
      refine CJ.region ?_
      refine OJ.pures tU_ok 2 rfl ?_
      refine OJ.nil (EJ.next ?_)
      refine CJ.ret (EJ.bkR (EJ.skR (?_)))
      replace hS := hS.addNil (ci .i64) 2 none
      obtain rfl := Option.some.inj H
      exact EJ.fin rfl (.tmp rfl (.tmp rfl .nil)) ⟨none, 0, rfl, hS.pick [1] [] rfl⟩
    · replace H := pifb_f hb H
      refine CJ.seq ?_
      refine CJ.region ?_
      refine OJ.pures tU_ok 4 rfl ?_
      refine OJ.nil (EJ.next ?_)
      refine CJ.cond rfl (fun hb => ?_) (fun hb => ?_)
      · replace H := pif_t (of_decide_eq_true hb) H
        refine CJ.seq ?_
        refine CJ.region ?_
        refine OJ.pures tU_ok 2 rfl ?_
        refine OJ.nil (EJ.next ?_)
        refine CJ.ret (EJ.bkR (EJ.skR (?_)))
        replace hS := hS.addNil (ci .i64) 2 none
        obtain rfl := Option.some.inj H
        exact EJ.fin rfl (.tmp rfl (.tmp rfl .nil)) ⟨none, 0, rfl, hS.pick [1] [] rfl⟩
      · replace H := pif_f (of_decide_eq_false hb) H
        refine CJ.skip (EJ.blk (EJ.next ?_))
        refine CJ.seq ?_
        refine CJ.region ?_
        refine OJ.pures tU_ok 1 rfl ?_
        obtain ⟨t4, ht4, H⟩ := pbind H
        refine OJ.callF rfl rfl rfl rfl rfl hb47 rfl (slices_Max_int64_int64.c k _ Aa1 ca1 a1 (hS.rd' (i := 3) rfl) (hS.le' (i := 3) rfl) _ ht4) ?_
        rintro _ w1 ⟨rfl, hs⟩
        replace hS := hS.grow hs
        refine OJ.pures tU_ok 1 rfl ?_
        obtain ⟨u5, hu5, H⟩ := pbind H
        refine OJ.ef rfl rfl rfl (Ef.make tU_ok tI_ok hS (C := (ci .i64)) rfl rfl rfl rfl rfl rfl rfl rfl (chk_some hu5) 0 rfl) ?_
        rintro _ w1 ⟨A6, rfl, hS⟩
        refine OJ.pures tU_ok 1 rfl ?_
        refine OJ.nil (EJ.next ?_)
        refine CJ.seq ?_
        refine CJ.seq ?_
        refine CJ.region ?_
        refine OJ.pures tU_ok 3 rfl ?_
        refine OJ.nil (EJ.next ?_)
        obtain ⟨j261, H, K261⟩ := pbind H
        refine CJ.cut1 (fun F w1 => ∃ (y7 : List Int) , (some y7 : Option (List Int)) = some j261 ∧ F = [(6, .slice A6 y7.length ((IntKind.i64.wrap (t4 + 1)).toNat))] ∧ St w no w1 [rowC (ci .i64) A6 ((IntKind.i64.wrap (t4 + 1)).toNat) 2 y7] [roC G.cs Aa0_0 ca0_0 a0.Names, roC (ci .i16) Aa0_1 ca0_1 a0.Eats, roC (ci .u16) Aa0_2 ca0_2 a0.Foes, roC (ci .i64) Aa1 ca1 a1]) ?_ ?_
        · skip
          refine CJ.block ?_
          refine CJ.loop (fun k F w1 => ∃ (y8 : List Int) (y9 : Int), F = [(2, .pointer (some ⟨b1, 0, none⟩)), (6, .slice A6 y8.length ((IntKind.i64.wrap (t4 + 1)).toNat)), (26, .slice Aa1 a1.length ca1), (27, .int .i64 (a1.length : Int)), (28, .int .i64 y9)] ∧ St w no w1 [box b1 ([.slice Aa0_0 a0.Names.length ca0_0, .slice Aa0_1 a0.Eats.length ca0_1, .slice Aa0_2 a0.Foes.length ca0_2]) 28, rowC (ci .i64) A6 ((IntKind.i64.wrap (t4 + 1)).toNat) 2 y8] [roC G.cs Aa0_0 ca0_0 a0.Names, roC (ci .i16) Aa0_1 ca0_1 a0.Eats, roC (ci .u16) Aa0_2 ca0_2 a0.Foes, roC (ci .i64) Aa1 ca1 a1] ∧ impl_NeedsOf.l1 a0 a1 k y8 y9 = some j261) k (F' := [(2, .pointer (some ⟨b1, 0, none⟩)), (6, .slice A6 (List.replicate ((IntKind.i64.wrap (t4 + 1)).toNat) 0 : List Int).length ((IntKind.i64.wrap (t4 + 1)).toNat)), (26, .slice Aa1 a1.length ca1), (27, .int .i64 (a1.length : Int)), (28, .int .i64 0)]) ⟨rfl, rfl, rfl, rfl, rfl, trivial⟩ ⟨(List.replicate ((IntKind.i64.wrap (t4 + 1)).toNat) 0 : List Int), 0, rfl, hS.pick [0, 1] [0, 1, 2, 3] rfl, H⟩ ?_
          rintro k F w1 ⟨y8, y9, rfl, hS, H⟩
          cases k with
          | zero => rw [impl_NeedsOf.l1] at H; cases H
          | succ k =>
            rw [impl_NeedsOf.l1] at H
            refine CJ.seq ?_
            refine CJ.region ?_
            refine OJ.pures tU_ok 1 rfl ?_
            refine OJ.nil (EJ.next ?_)
            refine CJ.seq ?_
            refine CJ.cond rfl (fun hb => ?_) (fun hb => ?_)
            · replace H := pif_t (of_decide_eq_true hb) H
              refine CJ.skip (EJ.next ?_)
              refine CJ.seq ?_
              refine CJ.block ?_
              refine CJ.seq ?_
              refine CJ.region ?_
              refine OJ.pures tU_ok 1 rfl ?_
              obtain ⟨t10, ht10, H⟩ := pbind H
              obtain ⟨ad10, e10⟩ := (hS.rd' (i := 3) rfl).some' ht10
              refine OJ.st rfl rfl rfl (SR.idxS tU_ok tI_ok rfl rfl rfl rfl e10 rfl (getI_some ht10).1) ?_
              refine OJ.st rfl rfl rfl (SR.load rfl rfl (fun w' hx => ld1 tU_ok rfl rfl (CA.ext ((hS.rd' (i := 3) rfl).at_ e10 ht10) hx) rfl)) ?_
              refine OJ.pures tU_ok 2 rfl ?_
              refine OJ.nil (EJ.next ?_)
              refine CJ.draw [] [0, 1, 2, 3, 4, 5, 6, 7, 8, 9, 10, 11, 12] mixed (by kernel_rfl) hS fun w1 hS => ?_
              refine DJ.pures tU_ok 2 rfl ?_
              obtain ⟨t11, ht11, H⟩ := pbind H
              obtain ⟨ad11, e11⟩ := (hS.rd (i := 1) rfl).some' ht11
              refine DJ.st rfl rfl rfl rfl rfl (SR.idxS tU_ok tI_ok rfl rfl rfl rfl e11 rfl (getI_some ht11).1) ?_
              refine DJ.st rfl rfl rfl rfl rfl (SR.load rfl rfl (fun w' hx => ld1 tU_ok rfl rfl (CA.ext ((hS.rd (i := 1) rfl).at_ e11 ht11) hx) rfl)) ?_
              refine DJ.st rfl rfl rfl rfl rfl (SR.fieldAddr tU_ok tI_ok rfl rfl rfl rfl rfl rfl) ?_
              refine DJ.st rfl rfl rfl rfl rfl (SR.load rfl rfl (fun w' hx => ld1 tU_ok rfl rfl (CA.ext (CA.sub (hS.cells (i := 0) rfl) 1) hx) rfl)) ?_
              refine DJ.pures tU_ok 1 rfl ?_
              obtain ⟨t12, ht12, H⟩ := pbind H
              obtain ⟨ad12, e12⟩ := (hS.rd' (i := 1) rfl).some' ht12
              refine DJ.st rfl rfl rfl rfl rfl (SR.idxS tU_ok tI_ok rfl rfl rfl rfl e12 rfl (getI_some ht12).1) ?_
              refine DJ.st rfl rfl rfl rfl rfl (SR.load rfl rfl (fun w' hx => ld1 tU_ok rfl rfl (CA.ext ((hS.rd' (i := 1) rfl).at_ e12 ht12) hx) rfl)) ?_
              refine DJ.pures tU_ok 2 rfl ?_
              obtain ⟨t13, ht13, H⟩ := pbind H
              obtain ⟨ad13, e13⟩ := (hS.rd (i := 1) rfl).some' ht13
              refine DJ.st rfl rfl rfl rfl rfl (SR.idxS tU_ok tI_ok rfl rfl rfl rfl e13 rfl (getI_some ht13).1) ?_
              refine DJ.es rfl rfl rfl rfl (Es.storeR tI_ok hS (i := 1) (off := 0) rfl rfl ht13 e13 rfl rfl rfl rfl (vs := (ci .i64).enc (IntKind.i64.wrap (t11 + (IntKind.i64.wrap t12)))) rfl rfl (one1 rfl) (Nat.le_of_ble_eq_true rfl) (IntKind.i64.wrap (t11 + (IntKind.i64.wrap t12))) rfl) ?_
              intro w1 hS
              refine DJ.as (t := 6) rfl (show _ = (.slice A6 (y8.set t10.toNat (IntKind.i64.wrap (t11 + (IntKind.i64.wrap t12)))).length ((IntKind.i64.wrap (t4 + 1)).toNat) : Value) by simp only [List.length_set]) ?_
              refine DJ.as (t := 33) rfl (show _ = (.slice A6 (y8.set t10.toNat (IntKind.i64.wrap (t11 + (IntKind.i64.wrap t12)))).length ((IntKind.i64.wrap (t4 + 1)).toNat) : Value) by simp only [List.length_set]) ?_
              refine DJ.nil (EJ.blk (EJ.next ?_))
              refine CJ.region ?_
              refine OJ.pures tU_ok 2 rfl ?_
              refine OJ.nil ?_
              exact EJ.round k (F' := [(2, .pointer (some ⟨b1, 0, none⟩)), (6, .slice A6 (y8.set t10.toNat (IntKind.i64.wrap (t11 + (IntKind.i64.wrap t12)))).length ((IntKind.i64.wrap (t4 + 1)).toNat)), (26, .slice Aa1 a1.length ca1), (27, .int .i64 (a1.length : Int)), (28, .int .i64 (IntKind.i64.wrap (y9 + 1)))]) ⟨rfl, rfl, rfl, rfl, rfl, trivial⟩ (Nat.lt_succ_self _) ⟨(y8.set t10.toNat (IntKind.i64.wrap (t11 + (IntKind.i64.wrap t12)))), (IntKind.i64.wrap (y9 + 1)), rfl, hS.pick [0, 1] [0, 1, 2, 3] rfl, H⟩
            · replace H := pif_f (of_decide_eq_false hb) H
              refine CJ.exit (EJ.skE (EJ.skE (EJ.hit (?_))))
              exact EJ.meet (F' := [(6, .slice A6 y8.length ((IntKind.i64.wrap (t4 + 1)).toNat))]) ⟨rfl, trivial⟩ ⟨y8, H, rfl, hS.pick [1] [0, 1, 2, 3] rfl⟩
        · rintro F w1 ⟨y7, he, rfl, hS⟩
          obtain rfl := Option.some.inj he
          have H := K261
          refine EJ.next ?_
          refine CJ.seq ?_
          refine CJ.region ?_
          refine OJ.pures tU_ok 3 rfl ?_
          refine OJ.nil (EJ.next ?_)
          refine CJ.ret (?_)
          obtain rfl := Option.some.inj H
          exact EJ.fin rfl (.tmp rfl (.tmp rfl .nil)) ⟨A6, ((IntKind.i64.wrap (t4 + 1)).toNat), rfl, hS.pick [0] [] rfl⟩

def laws_a2At.f (a0 : List Int) (a1 : Int) (a2 : Int) : Option Int := (if (a0.length : Int) ≤ a1 then (some true) else (some (decide (a2 < 1)))).bind fun y1 => if y1 = true then (some 0) else ((getI a0 a1).bind fun t2 => (chk (a2 ≠ 0)).bind fun u3 => some (Int.tmod (IntKind.i64.wrap t2) a2))
theorem laws_a2At.c (w : World) (Aa0 : Option Addr) (ca0 : Nat) (a0 : List Int) (hr0 : Rd (ci .u8) w Aa0 a0) (hc0 : a0.length ≤ ca0) (a1 : Int) (a2 : Int) (r : Int) (H : laws_a2At.f a0 a1 a2 = some r) :
    CV Tryz.prog 20 [.slice Aa0 a0.length ca0, .int .i64 a1, .int .i64 a2].toArray w fun v w' => v = .int .i64 r ∧ Ext w w' := by
  have hS := ((St.init w no).param (ci .u8) Aa0 ca0 a0 hr0 hc0)
  unfold laws_a2At.f at H
  refine CV.body Tryz.func20 rfl Tryz.ntmps20 rfl ?_
  refine CJ.seq ?_
  refine CJ.region ?_
  refine OJ.pures tU_ok 1 rfl ?_
  refine OJ.nil (EJ.next ?_)
  refine CJ.seq ?_
  obtain ⟨j264, H, K264⟩ := pbind H
  refine CJ.cut (fun F w1 => ∃ (y1 : Bool) , (some y1 : Option Bool) = some j264 ∧ F = [(0, .slice Aa0 a0.length ca0), (1, .int .i64 a1), (2, .int .i64 a2), (14, .bool y1)] ∧ St w no w1 [] [roC (ci .u8) Aa0 ca0 a0]) ?_ ?_
  · skip
    refine CJ.region ?_
    refine OJ.pures tU_ok 5 rfl ?_
    refine OJ.split (t := 11) rfl (fun hb => ?_) (fun hb => ?_)
    · replace H := pif_t (of_decide_eq_true hb) H
      refine OJ.pures tU_ok 3 rfl ?_
      refine OJ.nil ?_
      exact EJ.meet (F' := [(0, .slice Aa0 a0.length ca0), (1, .int .i64 a1), (2, .int .i64 a2), (14, .bool true)]) ⟨rfl, rfl, rfl, rfl, trivial⟩ ⟨true, H, rfl, hS.pick [] [0] rfl⟩
    · replace H := pif_f (of_decide_eq_false hb) H
      refine OJ.pures tU_ok 3 rfl ?_
      refine OJ.nil ?_
      exact EJ.meet (F' := [(0, .slice Aa0 a0.length ca0), (1, .int .i64 a1), (2, .int .i64 a2), (14, .bool (decide (a2 < 1)))]) ⟨rfl, rfl, rfl, rfl, trivial⟩ ⟨(decide (a2 < 1)), H, rfl, hS.pick [] [0] rfl⟩
  · rintro F w1 ⟨y1, he, rfl, hS⟩
    obtain rfl := Option.some.inj he
    have H := K264
    refine CJ.cond rfl (fun hb => ?_) (fun hb => ?_)
    · replace H := pif_t hb H
      refine CJ.seq ?_
      refine CJ.region ?_
      refine OJ.pures tU_ok 1 rfl ?_
      refine OJ.nil (EJ.next ?_)
      refine CJ.ret (EJ.skR (?_))
      obtain rfl := Option.some.inj H
      exact EJ.fin rfl (.tmp rfl .nil) ⟨rfl, hS.ext⟩
    · replace H := pifb_f hb H
      refine CJ.skip (EJ.next ?_)
      refine CJ.seq ?_
      refine CJ.region ?_
      refine OJ.pures tU_ok 2 rfl ?_
      obtain ⟨t2, ht2, H⟩ := pbind H
      obtain ⟨ad2, e2⟩ := (hS.rd' (i := 0) rfl).some' ht2
      refine OJ.st rfl rfl rfl (SR.idxS tU_ok tI_ok rfl rfl rfl rfl e2 rfl (getI_some ht2).1) ?_
      refine OJ.st rfl rfl rfl (SR.load rfl rfl (fun w' hx => ld1 tU_ok rfl rfl (CA.ext ((hS.rd' (i := 0) rfl).at_ e2 ht2) hx) rfl)) ?_
      refine OJ.pures tU_ok 2 rfl ?_
      obtain ⟨u3, hu3, H⟩ := pbind H
      refine OJ.st rfl rfl rfl (SR.rem rfl rfl rfl (chk_some hu3)) ?_
      refine OJ.pures tU_ok 1 rfl ?_
      refine OJ.nil (EJ.next ?_)
      refine CJ.ret (?_)
      obtain rfl := Option.some.inj H
      exact EJ.fin rfl (.tmp rfl .nil) ⟨rfl, hS.ext⟩

def impl_FitGroups_1.f (a0 : Int) : Option Bool := (impl_within.f a0 0 1000000).bind fun t1 => some (!t1)
theorem impl_FitGroups_1.c (w : World) (a0 : Int) (r : Bool) (H : impl_FitGroups_1.f a0 = some r) :
    CV Tryz.prog 48 [.int .i64 a0].toArray w fun v w' => v = .bool r ∧ Ext w w' := by
  have hS := (St.init w no)
  unfold impl_FitGroups_1.f at H
  refine CV.body Tryz.func48 rfl Tryz.ntmps48 rfl ?_
  refine CJ.seq ?_
  refine CJ.region ?_
  refine OJ.pures tU_ok 1 rfl ?_
  refine OJ.nil (EJ.next ?_)
  refine CJ.seq ?_
  refine CJ.region ?_
  refine OJ.pures tU_ok 1 rfl ?_
  obtain ⟨t1, ht1, H⟩ := pbind H
  refine OJ.callF rfl rfl rfl rfl rfl hb49 rfl (impl_within.c _ a0 0 1000000 _ ht1) ?_
  rintro _ w1 ⟨rfl, hs⟩
  replace hS := hS.grow hs
  refine OJ.pures tU_ok 2 rfl ?_
  refine OJ.nil (EJ.next ?_)
  refine CJ.ret (?_)
  obtain rfl := Option.some.inj H
  exact EJ.fin rfl (.tmp rfl .nil) ⟨rfl, hS.ext⟩

def impl_canFit.l1 (t7 : List Int) (t8 : List Int) : Nat → Int → Option (Bool ⊕ Unit)
  | 0, _ => none
  | k + 1, y10 => if y10 < (t7.length : Int) then ((getI t7 y10).bind fun t11 => (getI ((t8.drop ((IntKind.i64.wrap ((t8.length : Int) - (t7.length : Int))).toNat)).take (t8.length - ((IntKind.i64.wrap ((t8.length : Int) - (t7.length : Int))).toNat))) y10).bind fun t12 => if t12 < t11 then (some (Sum.inl false)) else (impl_canFit.l1 t7 t8 k (IntKind.i64.wrap (y10 + 1)))) else (some (Sum.inr ()))
def impl_canFit.f (k : Nat) (a0 : List Int) (a1 : List Int) : Option Bool := (slices_Clone_int64_int64.f a0).bind fun t1 => (slices_Clone_int64_int64.f a1).bind fun t4 => (slices_Sort_int64_int64.f t1).bind fun t7 => (slices_Sort_int64_int64.f t4).bind fun t8 => if (t8.length : Int) < (t7.length : Int) then (some false) else ((chk ((0 : Int) ≤ (IntKind.i64.wrap ((t8.length : Int) - (t7.length : Int))) ∧ (IntKind.i64.wrap ((t8.length : Int) - (t7.length : Int))) ≤ (t8.length : Int) ∧ (t8.length : Int) ≤ (t8.length : Int))).bind fun u9 => (impl_canFit.l1 t7 t8 k 0).bind fun s265 => match s265 with | .inl r => some r | .inr _ => some true)
theorem impl_canFit.c (k : Nat) (w : World) (Aa0 : Option Addr) (ca0 : Nat) (a0 : List Int) (hr0 : Rd (ci .i64) w Aa0 a0) (hc0 : a0.length ≤ ca0) (Aa1 : Option Addr) (ca1 : Nat) (a1 : List Int) (hr1 : Rd (ci .i64) w Aa1 a1) (hc1 : a1.length ≤ ca1) (r : Bool) (H : impl_canFit.f k a0 a1 = some r) :
    CV Tryz.prog 50 [.slice Aa0 a0.length ca0, .slice Aa1 a1.length ca1].toArray w fun v w' => v = .bool r ∧ Ext w w' := by
  have hS := (((St.init w no).param (ci .i64) Aa0 ca0 a0 hr0 hc0).param (ci .i64) Aa1 ca1 a1 hr1 hc1)
  unfold impl_canFit.f at H
  refine CV.body Tryz.func50 rfl Tryz.ntmps50 rfl ?_
  refine CJ.seq ?_
  refine CJ.region ?_
  refine OJ.pures tU_ok 1 rfl ?_
  refine OJ.nil (EJ.next ?_)
  refine CJ.seq ?_
  refine CJ.region ?_
  refine OJ.pures tU_ok 1 rfl ?_
  obtain ⟨t1, ht1, H⟩ := pbind H
  refine OJ.callF rfl rfl rfl rfl rfl hb62 rfl (slices_Clone_int64_int64.c _ Aa0 ca0 a0 (hS.rd' (i := 0) rfl) (hS.le' (i := 0) rfl) _ ht1) ?_
  rintro _ w1 ⟨A2, c3, rfl, hs⟩
  replace hS := hS.addN hs
  refine OJ.pures tU_ok 1 rfl ?_
  obtain ⟨t4, ht4, H⟩ := pbind H
  refine OJ.callF rfl rfl rfl rfl rfl hb62 rfl (slices_Clone_int64_int64.c _ Aa1 ca1 a1 (hS.rd' (i := 1) rfl) (hS.le' (i := 1) rfl) _ ht4) ?_
  rintro _ w1 ⟨A5, c6, rfl, hs⟩
  replace hS := hS.addN hs
  refine OJ.pures tU_ok 2 rfl ?_
  refine OJ.nil (EJ.next ?_)
  refine CJ.seq ?_
  refine CJ.region ?_
  refine OJ.pures tU_ok 1 rfl ?_
  obtain ⟨t7, ht7, H⟩ := pbind H
  refine OJ.callF rfl rfl rfl rfl rfl hb67 rfl (slices_Sort_int64_int64.c _ A2 c3 t1 ((hS.subs [0] [] [] rfl).pick [0] [] rfl) _ ht7) ?_
  rintro _ w1 ⟨rfl, hs, hlc0⟩
  replace hS := hS.back [0] rfl rfl [rowC (ci .i64) A2 c3 2 t7] [] hs ⟨fun _ => Iff.rfl, trivial⟩
  refine OJ.as (t := 10) rfl (show _ = (.slice A2 t7.length c3 : Value) by simp only [hlc0]) ?_
  refine OJ.as (t := 5) rfl (show _ = (.slice A2 t7.length c3 : Value) by simp only [hlc0]) ?_
  refine OJ.as (t := 13) rfl (show _ = (.slice A2 t7.length c3 : Value) by simp only [hlc0]) ?_
  refine OJ.nil (EJ.next ?_)
  refine CJ.seq ?_
  refine CJ.region ?_
  refine OJ.pures tU_ok 1 rfl ?_
  obtain ⟨t8, ht8, H⟩ := pbind H
  refine OJ.callF rfl rfl rfl rfl rfl hb67 rfl (slices_Sort_int64_int64.c _ A5 c6 t4 ((hS.subs [1] [] [] rfl).pick [0] [] rfl) _ ht8) ?_
  rintro _ w1 ⟨rfl, hs, hlc0⟩
  replace hS := hS.back [1] rfl rfl [rowC (ci .i64) A5 c6 2 t8] [] hs ⟨fun _ => Iff.rfl, trivial⟩
  refine OJ.as (t := 12) rfl (show _ = (.slice A5 t8.length c6 : Value) by simp only [hlc0]) ?_
  refine OJ.as (t := 6) rfl (show _ = (.slice A5 t8.length c6 : Value) by simp only [hlc0]) ?_
  refine OJ.as (t := 15) rfl (show _ = (.slice A5 t8.length c6 : Value) by simp only [hlc0]) ?_
  refine OJ.nil (EJ.next ?_)
  refine CJ.seq ?_
  refine CJ.seq ?_
  refine CJ.region ?_
  refine OJ.pures tU_ok 5 rfl ?_
  refine OJ.nil (EJ.next ?_)
  refine CJ.cond rfl (fun hb => ?_) (fun hb => ?_)
  · replace H := pif_t (of_decide_eq_true hb) H
    refine CJ.seq ?_
    refine CJ.region ?_
    refine OJ.pures tU_ok 1 rfl ?_
    refine OJ.nil (EJ.next ?_)
    refine CJ.ret (EJ.skR (?_))
    obtain rfl := Option.some.inj H
    exact EJ.fin rfl (.tmp rfl .nil) ⟨rfl, hS.ext⟩
  · replace H := pif_f (of_decide_eq_false hb) H
    refine CJ.skip (EJ.next ?_)
    refine CJ.seq ?_
    refine CJ.region ?_
    refine OJ.pures tU_ok 6 rfl ?_
    obtain ⟨u9, hu9, H⟩ := pbind H
    replace hS := hS.freezeG (i := 1) rfl
    refine OJ.st rfl rfl rfl (SR.cutS tU_ok tI_ok ((IntKind.i64.wrap ((t8.length : Int) - (t7.length : Int))).toNat) (t8.length) rfl rfl rfl rfl rfl rfl (.inr ⟨_, _, rfl, (chk_some hu9).1, rfl⟩) (.inl ⟨rfl, rfl⟩) (by have := (chk_some hu9); omega) (by have := (chk_some hu9); have := (hS.le' (i := 2) rfl : t8.length ≤ c6); omega)) ?_
    replace hS := hS.cutR (i := 2) (lo := (IntKind.i64.wrap ((t8.length : Int) - (t7.length : Int))).toNat) (hi := t8.length) rfl (by have := (chk_some hu9); omega) (by have := (chk_some hu9); omega)
    refine OJ.as (t := 28) rfl (show _ = (.slice (cutA A5 c6 ((IntKind.i64.wrap ((t8.length : Int) - (t7.length : Int))).toNat) (ci .i64).sz) ((t8.drop ((IntKind.i64.wrap ((t8.length : Int) - (t7.length : Int))).toNat)).take (t8.length - ((IntKind.i64.wrap ((t8.length : Int) - (t7.length : Int))).toNat))).length (c6 - ((IntKind.i64.wrap ((t8.length : Int) - (t7.length : Int))).toNat)) : Value) by rw [cutLen (by have := (chk_some hu9); omega) (by have := (chk_some hu9); omega)]; rfl) ?_
    refine OJ.pures tU_ok 1 rfl ?_
    refine OJ.nil (EJ.next ?_)
    refine CJ.seq ?_
    refine CJ.seq ?_
    refine CJ.region ?_
    refine OJ.pures tU_ok 3 rfl ?_
    refine OJ.nil (EJ.next ?_)
    obtain ⟨j265, H, K265⟩ := pbind H
    refine CJ.cut1 (fun F w1 => (some (Sum.inr ()) : Option (Bool ⊕ Unit)) = some j265 ∧ F = [] ∧ St w no w1 [] [roC (ci .i64) Aa0 ca0 a0, roC (ci .i64) Aa1 ca1 a1, roC (ci .i64) A5 c6 t8, roC (ci .i64) (cutA A5 c6 ((IntKind.i64.wrap ((t8.length : Int) - (t7.length : Int))).toNat) (ci .i64).sz) (c6 - ((IntKind.i64.wrap ((t8.length : Int) - (t7.length : Int))).toNat)) ((t8.drop ((IntKind.i64.wrap ((t8.length : Int) - (t7.length : Int))).toNat)).take (t8.length - ((IntKind.i64.wrap ((t8.length : Int) - (t7.length : Int))).toNat)))]) ?_ ?_
    · skip
      refine CJ.block ?_
      refine CJ.loop (fun k F w1 => ∃ (y10 : Int), F = [(6, .slice (cutA A5 c6 ((IntKind.i64.wrap ((t8.length : Int) - (t7.length : Int))).toNat) (ci .i64).sz) ((t8.drop ((IntKind.i64.wrap ((t8.length : Int) - (t7.length : Int))).toNat)).take (t8.length - ((IntKind.i64.wrap ((t8.length : Int) - (t7.length : Int))).toNat))).length (c6 - ((IntKind.i64.wrap ((t8.length : Int) - (t7.length : Int))).toNat))), (29, .slice A2 t7.length c3), (30, .int .i64 (t7.length : Int)), (31, .int .i64 y10)] ∧ St w no w1 [rowC (ci .i64) A2 c3 2 t7] [roC (ci .i64) Aa0 ca0 a0, roC (ci .i64) Aa1 ca1 a1, roC (ci .i64) A5 c6 t8, roC (ci .i64) (cutA A5 c6 ((IntKind.i64.wrap ((t8.length : Int) - (t7.length : Int))).toNat) (ci .i64).sz) (c6 - ((IntKind.i64.wrap ((t8.length : Int) - (t7.length : Int))).toNat)) ((t8.drop ((IntKind.i64.wrap ((t8.length : Int) - (t7.length : Int))).toNat)).take (t8.length - ((IntKind.i64.wrap ((t8.length : Int) - (t7.length : Int))).toNat)))] ∧ impl_canFit.l1 t7 t8 k y10 = some j265) k (F' := [(6, .slice (cutA A5 c6 ((IntKind.i64.wrap ((t8.length : Int) - (t7.length : Int))).toNat) (ci .i64).sz) ((t8.drop ((IntKind.i64.wrap ((t8.length : Int) - (t7.length : Int))).toNat)).take (t8.length - ((IntKind.i64.wrap ((t8.length : Int) - (t7.length : Int))).toNat))).length (c6 - ((IntKind.i64.wrap ((t8.length : Int) - (t7.length : Int))).toNat))), (29, .slice A2 t7.length c3), (30, .int .i64 (t7.length : Int)), (31, .int .i64 0)]) ⟨rfl, rfl, rfl, rfl, trivial⟩ ⟨0, rfl, hS.pick [0] [0, 1, 2, 3] rfl, H⟩ ?_
      rintro k F w1 ⟨y10, rfl, hS, H⟩
      cases k with
      | zero => rw [impl_canFit.l1] at H; cases H
      | succ k =>
        rw [impl_canFit.l1] at H
        refine CJ.seq ?_
        refine CJ.region ?_
        refine OJ.pures tU_ok 1 rfl ?_
        refine OJ.nil (EJ.next ?_)
        refine CJ.seq ?_
        refine CJ.cond rfl (fun hb => ?_) (fun hb => ?_)
        · replace H := pif_t (of_decide_eq_true hb) H
          refine CJ.skip (EJ.next ?_)
          refine CJ.seq ?_
          refine CJ.block ?_
          refine CJ.seq ?_
          refine CJ.region ?_
          refine OJ.pures tU_ok 1 rfl ?_
          obtain ⟨t11, ht11, H⟩ := pbind H
          obtain ⟨ad11, e11⟩ := (hS.rd (i := 0) rfl).some' ht11
          refine OJ.st rfl rfl rfl (SR.idxS tU_ok tI_ok rfl rfl rfl rfl e11 rfl (getI_some ht11).1) ?_
          refine OJ.st rfl rfl rfl (SR.load rfl rfl (fun w' hx => ld1 tU_ok rfl rfl (CA.ext ((hS.rd (i := 0) rfl).at_ e11 ht11) hx) rfl)) ?_
          refine OJ.pures tU_ok 2 rfl ?_
          refine OJ.nil (EJ.next ?_)
          refine CJ.seq ?_
          refine CJ.region ?_
          refine OJ.pures tU_ok 2 rfl ?_
          obtain ⟨t12, ht12, H⟩ := pbind H
          obtain ⟨ad12, e12⟩ := (hS.rd' (i := 3) rfl).some' ht12
          refine OJ.st rfl rfl rfl (SR.idxS tU_ok tI_ok rfl rfl rfl rfl e12 rfl (getI_some ht12).1) ?_
          refine OJ.st rfl rfl rfl (SR.load rfl rfl (fun w' hx => ld1 tU_ok rfl rfl (CA.ext ((hS.rd' (i := 3) rfl).at_ e12 ht12) hx) rfl)) ?_
          refine OJ.pures tU_ok 2 rfl ?_
          refine OJ.nil (EJ.next ?_)
          refine CJ.cond rfl (fun hb => ?_) (fun hb => ?_)
          · replace H := pif_t (of_decide_eq_true hb) H
            refine CJ.seq ?_
            refine CJ.region ?_
            refine OJ.pures tU_ok 1 rfl ?_
            refine OJ.nil (EJ.next ?_)
            refine CJ.ret (EJ.bkR (EJ.skR (EJ.skR (EJ.bkR (EJ.skR (EJ.skR (?_)))))))
            first | (obtain rfl := Option.some.inj H; have H := K265) | (obtain ⟨q265, H2, e265⟩ := pbind H; obtain rfl := Option.some.inj e265; obtain rfl := Option.some.inj K265; have H := H2)
            obtain rfl := Option.some.inj H
            exact EJ.fin rfl (.tmp rfl .nil) ⟨rfl, hS.ext⟩
          · replace H := pif_f (of_decide_eq_false hb) H
            refine CJ.skip (EJ.blk (EJ.next ?_))
            refine CJ.region ?_
            refine OJ.pures tU_ok 2 rfl ?_
            refine OJ.nil ?_
            exact EJ.round k (F' := [(6, .slice (cutA A5 c6 ((IntKind.i64.wrap ((t8.length : Int) - (t7.length : Int))).toNat) (ci .i64).sz) ((t8.drop ((IntKind.i64.wrap ((t8.length : Int) - (t7.length : Int))).toNat)).take (t8.length - ((IntKind.i64.wrap ((t8.length : Int) - (t7.length : Int))).toNat))).length (c6 - ((IntKind.i64.wrap ((t8.length : Int) - (t7.length : Int))).toNat))), (29, .slice A2 t7.length c3), (30, .int .i64 (t7.length : Int)), (31, .int .i64 (IntKind.i64.wrap (y10 + 1)))]) ⟨rfl, rfl, rfl, rfl, trivial⟩ (Nat.lt_succ_self _) ⟨(IntKind.i64.wrap (y10 + 1)), rfl, hS.pick [0] [0, 1, 2, 3] rfl, H⟩
        · replace H := pif_f (of_decide_eq_false hb) H
          refine CJ.exit (EJ.skE (EJ.skE (EJ.hit (?_))))
          exact EJ.meet (F' := []) trivial ⟨H, rfl, hS.pick [] [0, 1, 2, 3] rfl⟩
    · rintro F w1 ⟨he, rfl, hS⟩
      obtain rfl := Option.some.inj he
      have H := K265
      refine EJ.next ?_
      refine CJ.seq ?_
      refine CJ.region ?_
      refine OJ.pures tU_ok 1 rfl ?_
      refine OJ.nil (EJ.next ?_)
      refine CJ.ret (?_)
      obtain rfl := Option.some.inj H
      exact EJ.fin rfl (.tmp rfl .nil) ⟨rfl, hS.ext⟩

def slices_Index_int64_int64.l1 (a0 : List Int) (a1 : Int) : Nat → Int → Option (Int ⊕ Unit)
  | 0, _ => none
  | k + 1, y1 => if y1 < (a0.length : Int) then ((getI a0 y1).bind fun t2 => if a1 = t2 then (some (Sum.inl y1)) else (slices_Index_int64_int64.l1 a0 a1 k (IntKind.i64.wrap (y1 + 1)))) else (some (Sum.inr ()))
def slices_Index_int64_int64.f (k : Nat) (a0 : List Int) (a1 : Int) : Option Int := (slices_Index_int64_int64.l1 a0 a1 k 0).bind fun s271 => match s271 with | .inl r => some r | .inr _ => some (-1)
theorem slices_Index_int64_int64.c (k : Nat) (w : World) (Aa0 : Option Addr) (ca0 : Nat) (a0 : List Int) (hr0 : Rd (ci .i64) w Aa0 a0) (hc0 : a0.length ≤ ca0) (a1 : Int) (r : Int) (H : slices_Index_int64_int64.f k a0 a1 = some r) :
    CV Tryz.prog 77 [.slice Aa0 a0.length ca0, .int .i64 a1].toArray w fun v w' => v = .int .i64 r ∧ Ext w w' := by
  have hS := ((St.init w no).param (ci .i64) Aa0 ca0 a0 hr0 hc0)
  unfold slices_Index_int64_int64.f at H
  refine CV.body Tryz.func77 rfl Tryz.ntmps77 rfl ?_
  refine CJ.seq ?_
  refine CJ.region ?_
  refine OJ.pures tU_ok 1 rfl ?_
  refine OJ.nil (EJ.next ?_)
  refine CJ.seq ?_
  refine CJ.seq ?_
  refine CJ.region ?_
  refine OJ.pures tU_ok 3 rfl ?_
  refine OJ.nil (EJ.next ?_)
  obtain ⟨j271, H, K271⟩ := pbind H
  refine CJ.cut1 (fun F w1 => (some (Sum.inr ()) : Option (Int ⊕ Unit)) = some j271 ∧ F = [] ∧ St w no w1 [] [roC (ci .i64) Aa0 ca0 a0]) ?_ ?_
  · skip
    refine CJ.block ?_
    refine CJ.loop (fun k F w1 => ∃ (y1 : Int), F = [(0, .slice Aa0 a0.length ca0), (1, .int .i64 a1), (7, .int .i64 (a0.length : Int)), (8, .int .i64 y1)] ∧ St w no w1 [] [roC (ci .i64) Aa0 ca0 a0] ∧ slices_Index_int64_int64.l1 a0 a1 k y1 = some j271) k (F' := [(0, .slice Aa0 a0.length ca0), (1, .int .i64 a1), (7, .int .i64 (a0.length : Int)), (8, .int .i64 0)]) ⟨rfl, rfl, rfl, rfl, trivial⟩ ⟨0, rfl, hS.pick [] [0] rfl, H⟩ ?_
    rintro k F w1 ⟨y1, rfl, hS, H⟩
    cases k with
    | zero => rw [slices_Index_int64_int64.l1] at H; cases H
    | succ k =>
      rw [slices_Index_int64_int64.l1] at H
      refine CJ.seq ?_
      refine CJ.region ?_
      refine OJ.pures tU_ok 1 rfl ?_
      refine OJ.nil (EJ.next ?_)
      refine CJ.seq ?_
      refine CJ.cond rfl (fun hb => ?_) (fun hb => ?_)
      · replace H := pif_t (of_decide_eq_true hb) H
        refine CJ.skip (EJ.next ?_)
        refine CJ.seq ?_
        refine CJ.block ?_
        refine CJ.seq ?_
        refine CJ.region ?_
        refine OJ.pures tU_ok 2 rfl ?_
        refine OJ.nil (EJ.next ?_)
        refine CJ.seq ?_
        refine CJ.region ?_
        refine OJ.pures tU_ok 3 rfl ?_
        obtain ⟨t2, ht2, H⟩ := pbind H
        obtain ⟨ad2, e2⟩ := (hS.rd' (i := 0) rfl).some' ht2
        refine OJ.st rfl rfl rfl (SR.idxS tU_ok tI_ok rfl rfl rfl rfl e2 rfl (getI_some ht2).1) ?_
        refine OJ.st rfl rfl rfl (SR.load rfl rfl (fun w' hx => ld1 tU_ok rfl rfl (CA.ext ((hS.rd' (i := 0) rfl).at_ e2 ht2) hx) rfl)) ?_
        refine OJ.pures tU_ok 1 rfl ?_
        refine OJ.nil (EJ.next ?_)
        refine CJ.cond rfl (fun hb => ?_) (fun hb => ?_)
        · replace H := pif_t (of_decide_eq_true hb) H
          refine CJ.seq ?_
          refine CJ.region ?_
          refine OJ.pures tU_ok 2 rfl ?_
          refine OJ.nil (EJ.next ?_)
          refine CJ.ret (EJ.bkR (EJ.skR (EJ.skR (EJ.bkR (EJ.skR (EJ.skR (?_)))))))
          first | (obtain rfl := Option.some.inj H; have H := K271) | (obtain ⟨q271, H2, e271⟩ := pbind H; obtain rfl := Option.some.inj e271; obtain rfl := Option.some.inj K271; have H := H2)
          obtain rfl := Option.some.inj H
          exact EJ.fin rfl (.tmp rfl .nil) ⟨rfl, hS.ext⟩
        · replace H := pif_f (of_decide_eq_false hb) H
          refine CJ.skip (EJ.blk (EJ.next ?_))
          refine CJ.region ?_
          refine OJ.pures tU_ok 2 rfl ?_
          refine OJ.nil ?_
          exact EJ.round k (F' := [(0, .slice Aa0 a0.length ca0), (1, .int .i64 a1), (7, .int .i64 (a0.length : Int)), (8, .int .i64 (IntKind.i64.wrap (y1 + 1)))]) ⟨rfl, rfl, rfl, rfl, trivial⟩ (Nat.lt_succ_self _) ⟨(IntKind.i64.wrap (y1 + 1)), rfl, hS.pick [] [0] rfl, H⟩
      · replace H := pif_f (of_decide_eq_false hb) H
        refine CJ.exit (EJ.skE (EJ.skE (EJ.hit (?_))))
        exact EJ.meet (F' := []) trivial ⟨H, rfl, hS.pick [] [0] rfl⟩
  · rintro F w1 ⟨he, rfl, hS⟩
    obtain rfl := Option.some.inj he
    have H := K271
    refine EJ.next ?_
    refine CJ.seq ?_
    refine CJ.region ?_
    refine OJ.pures tU_ok 1 rfl ?_
    refine OJ.nil (EJ.next ?_)
    refine CJ.ret (?_)
    obtain rfl := Option.some.inj H
    exact EJ.fin rfl (.tmp rfl .nil) ⟨rfl, hS.ext⟩

def slices_Contains_int64_int64.f (k : Nat) (a0 : List Int) (a1 : Int) : Option Bool := (slices_Index_int64_int64.f k a0 a1).bind fun t1 => some (decide (0 ≤ t1))
theorem slices_Contains_int64_int64.c (k : Nat) (w : World) (Aa0 : Option Addr) (ca0 : Nat) (a0 : List Int) (hr0 : Rd (ci .i64) w Aa0 a0) (hc0 : a0.length ≤ ca0) (a1 : Int) (r : Bool) (H : slices_Contains_int64_int64.f k a0 a1 = some r) :
    CV Tryz.prog 51 [.slice Aa0 a0.length ca0, .int .i64 a1].toArray w fun v w' => v = .bool r ∧ Ext w w' := by
  have hS := ((St.init w no).param (ci .i64) Aa0 ca0 a0 hr0 hc0)
  unfold slices_Contains_int64_int64.f at H
  refine CV.body Tryz.func51 rfl Tryz.ntmps51 rfl ?_
  refine CJ.seq ?_
  refine CJ.region ?_
  refine OJ.pures tU_ok 1 rfl ?_
  refine OJ.nil (EJ.next ?_)
  refine CJ.seq ?_
  refine CJ.region ?_
  refine OJ.pures tU_ok 2 rfl ?_
  obtain ⟨t1, ht1, H⟩ := pbind H
  refine OJ.callF rfl rfl rfl rfl rfl hb77 rfl (slices_Index_int64_int64.c k _ Aa0 ca0 a0 (hS.rd' (i := 0) rfl) (hS.le' (i := 0) rfl) a1 _ ht1) ?_
  rintro _ w1 ⟨rfl, hs⟩
  replace hS := hS.grow hs
  refine OJ.pures tU_ok 2 rfl ?_
  refine OJ.nil (EJ.next ?_)
  refine CJ.ret (?_)
  obtain rfl := Option.some.inj H
  exact EJ.fin rfl (.tmp rfl .nil) ⟨rfl, hS.ext⟩

def impl_FitGroups.l3 (a2 : List Int) (y11 : List Int) (y22 : Int) : Nat → (List Int) → Int → Option (List Int)
  | 0, _, _ => none
  | k + 1, y30, y33 => if y33 < (a2.length : Int) then ((getI a2 y33).bind fun t34 => if y33 ≠ y22 then ((slices_Contains_int64_int64.f k y11 y33).bind fun t35 => if (!t35) = true then ((chk (y30.length + ([t34] : List Int).length ≤ 4294967296)).bind fun u37 => impl_FitGroups.l3 a2 y11 y22 k (y30 ++ ([t34] : List Int)) (IntKind.i64.wrap (y33 + 1))) else (impl_FitGroups.l3 a2 y11 y22 k y30 (IntKind.i64.wrap (y33 + 1)))) else (impl_FitGroups.l3 a2 y11 y22 k y30 (IntKind.i64.wrap (y33 + 1)))) else (some y30)
def impl_FitGroups.l2 (a2 : List Int) (t2 : List Int × Int) (y11 : List Int) (y14 : Int) (t18 : Int) : Nat → Int → Option (List Int)
  | 0, _ => none
  | k + 1, y22 => if y22 < (a2.length : Int) then (((getI a2 y22).bind fun t23 => ((slices_Contains_int64_int64.f k y11 y22).bind fun t25 => if t25 = true then (some true) else (some (decide (t23 < t18)))).bind fun y24 => if y24 = true then (some (Sum.inr ())) else ((impl_FitGroups.l3 a2 y11 y22 k ([] : List Int) 0).bind fun y27 => (chk ((0 : Int) ≤ (IntKind.i64.wrap (y14 + 1)) ∧ (IntKind.i64.wrap (y14 + 1)) ≤ (t2.1.length : Int) ∧ (t2.1.length : Int) ≤ (t2.1.length : Int))).bind fun u40 => (impl_canFit.f k ((t2.1.drop ((IntKind.i64.wrap (y14 + 1)).toNat)).take (t2.1.length - ((IntKind.i64.wrap (y14 + 1)).toNat))) y27).bind fun t41 => if t41 = true then ((chk (y11.length + ([y22] : List Int).length ≤ 4294967296)).bind fun u43 => some (Sum.inl (y11 ++ ([y22] : List Int)))) else (some (Sum.inr ())))).bind fun s367 => match s367 with | .inl r => some r | .inr _ => impl_FitGroups.l2 a2 t2 y11 y14 t18 k (IntKind.i64.wrap (y22 + 1))) else (some y11)
def impl_FitGroups.l1 (a2 : List Int) (t2 : List Int × Int) : Nat → (List Int) → Int → Option (List Int)
  | 0, _, _ => none
  | k + 1, y11, y14 => if y14 < (t2.1.length : Int) then (((getI t2.1 y14).bind fun t18 => (impl_FitGroups.l2 a2 t2 y11 y14 t18 k 0).bind fun y19 => some y19).bind fun y15 => impl_FitGroups.l1 a2 t2 k y15 (IntKind.i64.wrap (y14 + 1))) else (some y11)
def impl_FitGroups.f (k : Nat) (a0 : Herd) (a1 : List Int) (a2 : List Int) : Option (List Int × Int) := (impl_NeedsOf.f k a0 a1).bind fun t2 => if t2.2 ≠ 0 then (some ([], t2.2)) else (if 14 < (a2.length : Int) then (some ([], 3)) else ((slices_ContainsFunc_int64_int64.f k a2 impl_FitGroups_1.f).bind fun t5 => if t5 = true then (some ([], 2)) else ((impl_canFit.f k t2.1 a2).bind fun t6 => if (!t6) = true then (some ([], 6)) else ((impl_FitGroups.l1 a2 t2 k ([] : List Int) 0).bind fun y8 => some (y8, 0)))))
theorem impl_FitGroups.c (k : Nat) (w : World) (Aa0_0 : Option Addr) (ca0_0 : Nat) (Aa0_1 : Option Addr) (ca0_1 : Nat) (Aa0_2 : Option Addr) (ca0_2 : Nat) (a0 : Herd) (hr0_0 : Rd G.cs w Aa0_0 a0.Names) (hc0_0 : a0.Names.length ≤ ca0_0) (hr0_1 : Rd (ci .i16) w Aa0_1 a0.Eats) (hc0_1 : a0.Eats.length ≤ ca0_1) (hr0_2 : Rd (ci .u16) w Aa0_2 a0.Foes) (hc0_2 : a0.Foes.length ≤ ca0_2) (Aa1 : Option Addr) (ca1 : Nat) (a1 : List Int) (hr1 : Rd (ci .i64) w Aa1 a1) (hc1 : a1.length ≤ ca1) (Aa2 : Option Addr) (ca2 : Nat) (a2 : List Int) (hr2 : Rd (ci .i64) w Aa2 a2) (hc2 : a2.length ≤ ca2) (r : List Int × Int) (H : impl_FitGroups.f k a0 a1 a2 = some r) :
    CV Tryz.prog 21 [.agg [.slice Aa0_0 a0.Names.length ca0_0, .slice Aa0_1 a0.Eats.length ca0_1, .slice Aa0_2 a0.Foes.length ca0_2].toArray, .slice Aa1 a1.length ca1, .slice Aa2 a2.length ca2].toArray w fun v w' => ∃ (A0 : Option Addr) (c0 : Nat), v = .tuple #[.slice A0 r.1.length c0, .int .i64 r.2] ∧ St w no w' [rowC (ci .i64) A0 c0 2 r.1] [] := by
  have hS := ((((((St.init w no).param G.cs Aa0_0 ca0_0 a0.Names hr0_0 hc0_0).param (ci .i16) Aa0_1 ca0_1 a0.Eats hr0_1 hc0_1).param (ci .u16) Aa0_2 ca0_2 a0.Foes hr0_2 hc0_2).param (ci .i64) Aa1 ca1 a1 hr1 hc1).param (ci .i64) Aa2 ca2 a2 hr2 hc2)
  unfold impl_FitGroups.f at H
  refine CV.body Tryz.func21 rfl Tryz.ntmps21 rfl ?_
  refine CJ.seq ?_
  refine CJ.region ?_
  refine OJ.ef rfl rfl rfl (Ef.box hS rfl rfl ([.slice Aa0_0 a0.Names.length ca0_0, .slice Aa0_1 a0.Eats.length ca0_1, .slice Aa0_2 a0.Foes.length ca0_2]) rfl) ?_
  rintro _ w1 ⟨b1, rfl, hS⟩
  refine OJ.pures tU_ok 2 rfl ?_
  refine OJ.nil (EJ.next ?_)
  refine CJ.seq ?_
  refine CJ.region ?_
  refine OJ.st rfl rfl rfl (SR.load rfl rfl (fun w' hx => ldN tU_ok tI_ok rfl rfl rfl (CA.ext (hS.cells (i := 0) rfl) hx) (ds := [.slice Aa0_0 a0.Names.length ca0_0, .slice Aa0_1 a0.Eats.length ca0_1, .slice Aa0_2 a0.Foes.length ca0_2]) rfl rfl)) ?_
  refine OJ.pures tU_ok 1 rfl ?_
  obtain ⟨t2, ht2, H⟩ := pbind H
  refine OJ.callF rfl rfl rfl rfl rfl hb19 rfl (impl_NeedsOf.c k _ Aa0_0 ca0_0 Aa0_1 ca0_1 Aa0_2 ca0_2 a0 (hS.rd' (i := 0) rfl) (hS.le' (i := 0) rfl) (hS.rd' (i := 1) rfl) (hS.le' (i := 1) rfl) (hS.rd' (i := 2) rfl) (hS.le' (i := 2) rfl) Aa1 ca1 a1 (hS.rd' (i := 3) rfl) (hS.le' (i := 3) rfl) _ ht2) ?_
  rintro _ w1 ⟨A3, c4, rfl, hs⟩
  replace hS := hS.addN hs
  refine OJ.pures tU_ok 5 rfl ?_
  refine OJ.nil (EJ.next ?_)
  refine CJ.seq ?_
  refine CJ.block ?_
  refine CJ.seq ?_
  refine CJ.region ?_
  refine OJ.pures tU_ok 3 rfl ?_
  refine OJ.nil (EJ.next ?_)
  refine CJ.cond rfl (fun hb => ?_) (fun hb => ?_)
  · replace H := pif_t (of_decide_eq_true hb) H
    refine CJ.seq ?_
    refine CJ.region ?_
    refine OJ.pures tU_ok 3 rfl ?_
    refine OJ.nil (EJ.next ?_)
    refine CJ.ret (EJ.bkR (EJ.skR (?_)))
    replace hS := hS.addNil (ci .i64) 2 none
    obtain rfl := Option.some.inj H
    exact EJ.fin rfl (.tmp rfl (.tmp rfl .nil)) ⟨none, 0, rfl, hS.pick [2] [] rfl⟩
  · replace H := pif_f (of_decide_eq_false hb) H
    refine CJ.seq ?_
    refine CJ.region ?_
    refine OJ.pures tU_ok 4 rfl ?_
    refine OJ.nil (EJ.next ?_)
    refine CJ.cond rfl (fun hb => ?_) (fun hb => ?_)
    · replace H := pif_t (of_decide_eq_true hb) H
      refine CJ.seq ?_
      refine CJ.region ?_
      refine OJ.pures tU_ok 2 rfl ?_
      refine OJ.nil (EJ.next ?_)
      refine CJ.ret (EJ.bkR (EJ.skR (?_)))
      replace hS := hS.addNil (ci .i64) 2 none
      obtain rfl := Option.some.inj H
      exact EJ.fin rfl (.tmp rfl (.tmp rfl .nil)) ⟨none, 0, rfl, hS.pick [2] [] rfl⟩
    · replace H := pif_f (of_decide_eq_false hb) H
      refine CJ.seq ?_
      refine CJ.region ?_
      refine OJ.pures tU_ok 1 rfl ?_
      obtain ⟨t5, ht5, H⟩ := pbind H
      refine OJ.callF rfl rfl rfl rfl rfl hb36 rfl (slices_ContainsFunc_int64_int64.c k _ Aa2 ca2 a2 (hS.rd' (i := 4) rfl) (hS.le' (i := 4) rfl) 48 #[] #[] hb48 impl_FitGroups_1.f (fun z0 r h w' hx => CV.cast (impl_FitGroups_1.c w'   z0 r h) (by simp)) _ ht5) ?_
      rintro _ w1 ⟨rfl, hs⟩
      replace hS := hS.grow hs
      refine OJ.pures tU_ok 1 rfl ?_
      refine OJ.nil (EJ.next ?_)
      refine CJ.cond rfl (fun hb => ?_) (fun hb => ?_)
      · replace H := pif_t hb H
        refine CJ.seq ?_
        refine CJ.region ?_
        refine OJ.pures tU_ok 2 rfl ?_
        refine OJ.nil (EJ.next ?_)
        refine CJ.ret (EJ.bkR (EJ.skR (?_)))
        replace hS := hS.addNil (ci .i64) 2 none
        obtain rfl := Option.some.inj H
        exact EJ.fin rfl (.tmp rfl (.tmp rfl .nil)) ⟨none, 0, rfl, hS.pick [2] [] rfl⟩
      · replace H := pifb_f hb H
        refine CJ.seq ?_
        refine CJ.region ?_
        refine OJ.pures tU_ok 2 rfl ?_
        obtain ⟨t6, ht6, H⟩ := pbind H
        refine OJ.callF rfl rfl rfl rfl rfl hb50 rfl (impl_canFit.c k _ A3 c4 t2.1 (hS.rd (i := 1) rfl) (hS.le (i := 1) rfl) Aa2 ca2 a2 (hS.rd' (i := 4) rfl) (hS.le' (i := 4) rfl) _ ht6) ?_
        rintro _ w1 ⟨rfl, hs⟩
        replace hS := hS.grow hs
        refine OJ.pures tU_ok 2 rfl ?_
        refine OJ.nil (EJ.next ?_)
        refine CJ.cond rfl (fun hb => ?_) (fun hb => ?_)
        · replace H := pif_t hb H
          refine CJ.seq ?_
          refine CJ.region ?_
          refine OJ.pures tU_ok 2 rfl ?_
          refine OJ.nil (EJ.next ?_)
          refine CJ.ret (EJ.bkR (EJ.skR (?_)))
          replace hS := hS.addNil (ci .i64) 2 none
          obtain rfl := Option.some.inj H
          exact EJ.fin rfl (.tmp rfl (.tmp rfl .nil)) ⟨none, 0, rfl, hS.pick [2] [] rfl⟩
        · replace H := pifb_f hb H
          refine CJ.skip (EJ.blk (EJ.next ?_))
          refine CJ.seq ?_
          refine CJ.region ?_
          refine OJ.ef rfl rfl rfl (Ef.lit tU_ok tI_ok hS (C := (ci .i64)) rfl rfl rfl rfl rfl rfl ([] : List Int) rfl rfl rfl rfl) ?_
          rintro _ w1 ⟨A7, rfl, hS⟩
          refine OJ.pures tU_ok 1 rfl ?_
          refine OJ.nil (EJ.next ?_)
          refine CJ.seq ?_
          refine CJ.seq ?_
          refine CJ.region ?_
          refine OJ.pures tU_ok 3 rfl ?_
          refine OJ.nil (EJ.next ?_)
          replace hS := hS.freezeG (i := 1) rfl
          obtain ⟨j266, H, K266⟩ := pbind H
          refine CJ.cut1 (fun F w1 => ∃ (y8 : List Int) (A9 : Option Addr) (c10 : Nat), (some y8 : Option (List Int)) = some j266 ∧ F = [(10, .slice A9 y8.length c10)] ∧ St w no w1 [rowC (ci .i64) A9 c10 2 y8] [roC G.cs Aa0_0 ca0_0 a0.Names, roC (ci .i16) Aa0_1 ca0_1 a0.Eats, roC (ci .u16) Aa0_2 ca0_2 a0.Foes, roC (ci .i64) Aa1 ca1 a1, roC (ci .i64) Aa2 ca2 a2, roC (ci .i64) A3 c4 t2.1]) ?_ ?_
          · skip
            refine CJ.block ?_
            refine CJ.loop (fun k F w1 => ∃ (y11 : List Int) (y14 : Int) (A12 : Option Addr) (c13 : Nat), F = [(2, .slice Aa2 a2.length ca2), (8, .slice A3 t2.1.length c4), (10, .slice A12 y11.length c13), (41, .slice A3 t2.1.length c4), (42, .int .i64 (t2.1.length : Int)), (43, .int .i64 y14)] ∧ St w no w1 [rowC (ci .i64) A12 c13 2 y11] [roC G.cs Aa0_0 ca0_0 a0.Names, roC (ci .i16) Aa0_1 ca0_1 a0.Eats, roC (ci .u16) Aa0_2 ca0_2 a0.Foes, roC (ci .i64) Aa1 ca1 a1, roC (ci .i64) Aa2 ca2 a2, roC (ci .i64) A3 c4 t2.1] ∧ impl_FitGroups.l1 a2 t2 k y11 y14 = some j266) k (F' := [(2, .slice Aa2 a2.length ca2), (8, .slice A3 t2.1.length c4), (10, .slice A7 ([] : List Int).length (([] : List Int).length)), (41, .slice A3 t2.1.length c4), (42, .int .i64 (t2.1.length : Int)), (43, .int .i64 0)]) ⟨rfl, rfl, rfl, rfl, rfl, rfl, trivial⟩ ⟨([] : List Int), 0, A7, (([] : List Int).length), rfl, hS.pick [2] [0, 1, 2, 3, 4, 5] rfl, H⟩ ?_
            rintro k F w1 ⟨y11, y14, A12, c13, rfl, hS, H⟩
            cases k with
            | zero => rw [impl_FitGroups.l1] at H; cases H
            | succ k =>
              rw [impl_FitGroups.l1] at H
              refine CJ.seq ?_
              refine CJ.region ?_
              refine OJ.pures tU_ok 1 rfl ?_
              refine OJ.nil (EJ.next ?_)
              refine CJ.seq ?_
              refine CJ.cond rfl (fun hb => ?_) (fun hb => ?_)
              · replace H := pif_t (of_decide_eq_true hb) H
                refine CJ.skip (EJ.next ?_)
                obtain ⟨j339, H, K339⟩ := pbind H
                refine CJ.cut (fun F w1 => ∃ (y15 : List Int) (A16 : Option Addr) (c17 : Nat), (some y15 : Option (List Int)) = some j339 ∧ F = [(2, .slice Aa2 a2.length ca2), (8, .slice A3 t2.1.length c4), (10, .slice A16 y15.length c17), (41, .slice A3 t2.1.length c4), (42, .int .i64 (t2.1.length : Int)), (43, .int .i64 y14)] ∧ St w no w1 [rowC (ci .i64) A16 c17 2 y15] [roC G.cs Aa0_0 ca0_0 a0.Names, roC (ci .i16) Aa0_1 ca0_1 a0.Eats, roC (ci .u16) Aa0_2 ca0_2 a0.Foes, roC (ci .i64) Aa1 ca1 a1, roC (ci .i64) Aa2 ca2 a2, roC (ci .i64) A3 c4 t2.1]) ?_ ?_
                · skip
                  refine CJ.block ?_
                  refine CJ.seq ?_
                  refine CJ.region ?_
                  refine OJ.pures tU_ok 1 rfl ?_
                  obtain ⟨t18, ht18, H⟩ := pbind H
                  obtain ⟨ad18, e18⟩ := (hS.rd' (i := 5) rfl).some' ht18
                  refine OJ.st rfl rfl rfl (SR.idxS tU_ok tI_ok rfl rfl rfl rfl e18 rfl (getI_some ht18).1) ?_
                  refine OJ.st rfl rfl rfl (SR.load rfl rfl (fun w' hx => ld1 tU_ok rfl rfl (CA.ext ((hS.rd' (i := 5) rfl).at_ e18 ht18) hx) rfl)) ?_
                  refine OJ.pures tU_ok 2 rfl ?_
                  refine OJ.nil (EJ.next ?_)
                  refine CJ.seq ?_
                  refine CJ.region ?_
                  refine OJ.pures tU_ok 3 rfl ?_
                  refine OJ.nil (EJ.next ?_)
                  obtain ⟨j356, H, K356⟩ := pbind H
                  refine CJ.cut1 (fun F w1 => ∃ (y19 : List Int) (A20 : Option Addr) (c21 : Nat), (some y19 : Option (List Int)) = some j356 ∧ F = [(2, .slice Aa2 a2.length ca2), (8, .slice A3 t2.1.length c4), (10, .slice A20 y19.length c21), (41, .slice A3 t2.1.length c4), (42, .int .i64 (t2.1.length : Int)), (43, .int .i64 y14)] ∧ St w no w1 [rowC (ci .i64) A20 c21 2 y19] [roC G.cs Aa0_0 ca0_0 a0.Names, roC (ci .i16) Aa0_1 ca0_1 a0.Eats, roC (ci .u16) Aa0_2 ca0_2 a0.Foes, roC (ci .i64) Aa1 ca1 a1, roC (ci .i64) Aa2 ca2 a2, roC (ci .i64) A3 c4 t2.1]) ?_ ?_
                  · skip
                    refine CJ.block ?_
                    refine CJ.loop (fun k F w1 => ∃ (y22 : Int), F = [(2, .slice Aa2 a2.length ca2), (8, .slice A3 t2.1.length c4), (10, .slice A12 y11.length c13), (11, .int .i64 y14), (12, .int .i64 t18), (41, .slice A3 t2.1.length c4), (42, .int .i64 (t2.1.length : Int)), (43, .int .i64 y14), (48, .slice Aa2 a2.length ca2), (49, .int .i64 (a2.length : Int)), (50, .int .i64 y22)] ∧ St w no w1 [rowC (ci .i64) A12 c13 2 y11] [roC G.cs Aa0_0 ca0_0 a0.Names, roC (ci .i16) Aa0_1 ca0_1 a0.Eats, roC (ci .u16) Aa0_2 ca0_2 a0.Foes, roC (ci .i64) Aa1 ca1 a1, roC (ci .i64) Aa2 ca2 a2, roC (ci .i64) A3 c4 t2.1] ∧ impl_FitGroups.l2 a2 t2 y11 y14 t18 k y22 = some j356) k (F' := [(2, .slice Aa2 a2.length ca2), (8, .slice A3 t2.1.length c4), (10, .slice A12 y11.length c13), (11, .int .i64 y14), (12, .int .i64 t18), (41, .slice A3 t2.1.length c4), (42, .int .i64 (t2.1.length : Int)), (43, .int .i64 y14), (48, .slice Aa2 a2.length ca2), (49, .int .i64 (a2.length : Int)), (50, .int .i64 0)]) ⟨rfl, rfl, rfl, rfl, rfl, rfl, rfl, rfl, rfl, rfl, rfl, trivial⟩ ⟨0, rfl, hS.pick [0] [0, 1, 2, 3, 4, 5] rfl, H⟩ ?_
                    rintro k F w1 ⟨y22, rfl, hS, H⟩
                    cases k with
                    | zero => rw [impl_FitGroups.l2] at H; cases H
                    | succ k =>
                      rw [impl_FitGroups.l2] at H
                      refine CJ.seq ?_
                      refine CJ.region ?_
                      refine OJ.pures tU_ok 1 rfl ?_
                      refine OJ.nil (EJ.next ?_)
                      refine CJ.seq ?_
                      refine CJ.cond rfl (fun hb => ?_) (fun hb => ?_)
                      · replace H := pif_t (of_decide_eq_true hb) H
                        refine CJ.skip (EJ.next ?_)
                        obtain ⟨j367, H, K367⟩ := pbind H
                        refine CJ.cut (fun F w1 => (some (Sum.inr ()) : Option ((List Int) ⊕ Unit)) = some j367 ∧ F = [(2, .slice Aa2 a2.length ca2), (8, .slice A3 t2.1.length c4), (10, .slice A12 y11.length c13), (11, .int .i64 y14), (12, .int .i64 t18), (41, .slice A3 t2.1.length c4), (42, .int .i64 (t2.1.length : Int)), (43, .int .i64 y14), (48, .slice Aa2 a2.length ca2), (49, .int .i64 (a2.length : Int)), (50, .int .i64 y22)] ∧ St w no w1 [rowC (ci .i64) A12 c13 2 y11] [roC G.cs Aa0_0 ca0_0 a0.Names, roC (ci .i16) Aa0_1 ca0_1 a0.Eats, roC (ci .u16) Aa0_2 ca0_2 a0.Foes, roC (ci .i64) Aa1 ca1 a1, roC (ci .i64) Aa2 ca2 a2, roC (ci .i64) A3 c4 t2.1]) ?_ ?_
                        · skip
                          refine CJ.block ?_
                          refine CJ.seq ?_
                          refine CJ.region ?_
                          refine OJ.pures tU_ok 1 rfl ?_
                          obtain ⟨t23, ht23, H⟩ := pbind H
                          obtain ⟨ad23, e23⟩ := (hS.rd' (i := 4) rfl).some' ht23
                          refine OJ.st rfl rfl rfl (SR.idxS tU_ok tI_ok rfl rfl rfl rfl e23 rfl (getI_some ht23).1) ?_
                          refine OJ.st rfl rfl rfl (SR.load rfl rfl (fun w' hx => ld1 tU_ok rfl rfl (CA.ext ((hS.rd' (i := 4) rfl).at_ e23 ht23) hx) rfl)) ?_
                          refine OJ.pures tU_ok 2 rfl ?_
                          refine OJ.nil (EJ.next ?_)
                          refine CJ.seq ?_
                          obtain ⟨j370, H, K370⟩ := pbind H
                          refine CJ.cut (fun F w1 => ∃ (y24 : Bool) , (some y24 : Option Bool) = some j370 ∧ F = [(2, .slice Aa2 a2.length ca2), (8, .slice A3 t2.1.length c4), (10, .slice A12 y11.length c13), (11, .int .i64 y14), (12, .int .i64 t18), (13, .int .i64 y22), (41, .slice A3 t2.1.length c4), (42, .int .i64 (t2.1.length : Int)), (43, .int .i64 y14), (48, .slice Aa2 a2.length ca2), (49, .int .i64 (a2.length : Int)), (50, .int .i64 y22), (62, .bool y24)] ∧ St w no w1 [rowC (ci .i64) A12 c13 2 y11] [roC G.cs Aa0_0 ca0_0 a0.Names, roC (ci .i16) Aa0_1 ca0_1 a0.Eats, roC (ci .u16) Aa0_2 ca0_2 a0.Foes, roC (ci .i64) Aa1 ca1 a1, roC (ci .i64) Aa2 ca2 a2, roC (ci .i64) A3 c4 t2.1]) ?_ ?_
                          · skip
                            refine CJ.region ?_
                            refine OJ.pures tU_ok 2 rfl ?_
                            obtain ⟨t25, ht25, H⟩ := pbind H
                            refine OJ.callF rfl rfl rfl rfl rfl hb51 rfl (slices_Contains_int64_int64.c k _ A12 c13 y11 (hS.rd (i := 0) rfl) (hS.le (i := 0) rfl) y22 _ ht25) ?_
                            rintro _ w1 ⟨rfl, hs⟩
                            replace hS := hS.grow hs
                            refine OJ.pures tU_ok 1 rfl ?_
                            refine OJ.split (t := 58) rfl (fun hb => ?_) (fun hb => ?_)
                            · replace H := pif_t hb H
                              refine OJ.pures tU_ok 4 rfl ?_
                              refine OJ.nil ?_
                              exact EJ.meet (F' := [(2, .slice Aa2 a2.length ca2), (8, .slice A3 t2.1.length c4), (10, .slice A12 y11.length c13), (11, .int .i64 y14), (12, .int .i64 t18), (13, .int .i64 y22), (41, .slice A3 t2.1.length c4), (42, .int .i64 (t2.1.length : Int)), (43, .int .i64 y14), (48, .slice Aa2 a2.length ca2), (49, .int .i64 (a2.length : Int)), (50, .int .i64 y22), (62, .bool true)]) ⟨rfl, rfl, rfl, rfl, rfl, rfl, rfl, rfl, rfl, rfl, rfl, rfl, rfl, trivial⟩ ⟨true, H, rfl, hS.pick [0] [0, 1, 2, 3, 4, 5] rfl⟩
                            · replace H := pifb_f hb H
                              refine OJ.pures tU_ok 4 rfl ?_
                              refine OJ.nil ?_
                              exact EJ.meet (F' := [(2, .slice Aa2 a2.length ca2), (8, .slice A3 t2.1.length c4), (10, .slice A12 y11.length c13), (11, .int .i64 y14), (12, .int .i64 t18), (13, .int .i64 y22), (41, .slice A3 t2.1.length c4), (42, .int .i64 (t2.1.length : Int)), (43, .int .i64 y14), (48, .slice Aa2 a2.length ca2), (49, .int .i64 (a2.length : Int)), (50, .int .i64 y22), (62, .bool (decide (t23 < t18)))]) ⟨rfl, rfl, rfl, rfl, rfl, rfl, rfl, rfl, rfl, rfl, rfl, rfl, rfl, trivial⟩ ⟨(decide (t23 < t18)), H, rfl, hS.pick [0] [0, 1, 2, 3, 4, 5] rfl⟩
                          · rintro F w1 ⟨y24, he, rfl, hS⟩
                            obtain rfl := Option.some.inj he
                            have H := K370
                            refine CJ.cond rfl (fun hb => ?_) (fun hb => ?_)
                            · replace H := pif_t hb H
                              refine CJ.exit (EJ.skE (EJ.hit (?_)))
                              exact EJ.meet (F' := [(2, .slice Aa2 a2.length ca2), (8, .slice A3 t2.1.length c4), (10, .slice A12 y11.length c13), (11, .int .i64 y14), (12, .int .i64 t18), (41, .slice A3 t2.1.length c4), (42, .int .i64 (t2.1.length : Int)), (43, .int .i64 y14), (48, .slice Aa2 a2.length ca2), (49, .int .i64 (a2.length : Int)), (50, .int .i64 y22)]) ⟨rfl, rfl, rfl, rfl, rfl, rfl, rfl, rfl, rfl, rfl, rfl, trivial⟩ ⟨H, rfl, hS.pick [0] [0, 1, 2, 3, 4, 5] rfl⟩
                            · replace H := pifb_f hb H
                              refine CJ.skip (EJ.next ?_)
                              refine CJ.seq ?_
                              refine CJ.region ?_
                              refine OJ.ef rfl rfl rfl (Ef.lit tU_ok tI_ok hS (C := (ci .i64)) rfl rfl rfl rfl rfl rfl ([] : List Int) rfl rfl rfl rfl) ?_
                              rintro _ w1 ⟨A26, rfl, hS⟩
                              refine OJ.pures tU_ok 1 rfl ?_
                              refine OJ.nil (EJ.next ?_)
                              refine CJ.seq ?_
                              refine CJ.seq ?_
                              refine CJ.region ?_
                              refine OJ.pures tU_ok 3 rfl ?_
                              refine OJ.nil (EJ.next ?_)
                              obtain ⟨j371, H, K371⟩ := pbind H
                              refine CJ.cut1 (fun F w1 => ∃ (y27 : List Int) (A28 : Option Addr) (c29 : Nat), (some y27 : Option (List Int)) = some j371 ∧ F = [(2, .slice Aa2 a2.length ca2), (8, .slice A3 t2.1.length c4), (10, .slice A12 y11.length c13), (11, .int .i64 y14), (12, .int .i64 t18), (13, .int .i64 y22), (15, .slice A28 y27.length c29), (41, .slice A3 t2.1.length c4), (42, .int .i64 (t2.1.length : Int)), (43, .int .i64 y14), (48, .slice Aa2 a2.length ca2), (49, .int .i64 (a2.length : Int)), (50, .int .i64 y22)] ∧ St w no w1 [rowC (ci .i64) A12 c13 2 y11, rowC (ci .i64) A28 c29 2 y27] [roC G.cs Aa0_0 ca0_0 a0.Names, roC (ci .i16) Aa0_1 ca0_1 a0.Eats, roC (ci .u16) Aa0_2 ca0_2 a0.Foes, roC (ci .i64) Aa1 ca1 a1, roC (ci .i64) Aa2 ca2 a2, roC (ci .i64) A3 c4 t2.1]) ?_ ?_
                              · skip
                                refine CJ.block ?_
                                refine CJ.loop (fun k F w1 => ∃ (y30 : List Int) (y33 : Int) (A31 : Option Addr) (c32 : Nat), F = [(2, .slice Aa2 a2.length ca2), (8, .slice A3 t2.1.length c4), (10, .slice A12 y11.length c13), (11, .int .i64 y14), (12, .int .i64 t18), (13, .int .i64 y22), (15, .slice A31 y30.length c32), (41, .slice A3 t2.1.length c4), (42, .int .i64 (t2.1.length : Int)), (43, .int .i64 y14), (48, .slice Aa2 a2.length ca2), (49, .int .i64 (a2.length : Int)), (50, .int .i64 y22), (64, .slice Aa2 a2.length ca2), (65, .int .i64 (a2.length : Int)), (66, .int .i64 y33)] ∧ St w no w1 [rowC (ci .i64) A12 c13 2 y11, rowC (ci .i64) A31 c32 2 y30] [roC G.cs Aa0_0 ca0_0 a0.Names, roC (ci .i16) Aa0_1 ca0_1 a0.Eats, roC (ci .u16) Aa0_2 ca0_2 a0.Foes, roC (ci .i64) Aa1 ca1 a1, roC (ci .i64) Aa2 ca2 a2, roC (ci .i64) A3 c4 t2.1] ∧ impl_FitGroups.l3 a2 y11 y22 k y30 y33 = some j371) k (F' := [(2, .slice Aa2 a2.length ca2), (8, .slice A3 t2.1.length c4), (10, .slice A12 y11.length c13), (11, .int .i64 y14), (12, .int .i64 t18), (13, .int .i64 y22), (15, .slice A26 ([] : List Int).length (([] : List Int).length)), (41, .slice A3 t2.1.length c4), (42, .int .i64 (t2.1.length : Int)), (43, .int .i64 y14), (48, .slice Aa2 a2.length ca2), (49, .int .i64 (a2.length : Int)), (50, .int .i64 y22), (64, .slice Aa2 a2.length ca2), (65, .int .i64 (a2.length : Int)), (66, .int .i64 0)]) ⟨rfl, rfl, rfl, rfl, rfl, rfl, rfl, rfl, rfl, rfl, rfl, rfl, rfl, rfl, rfl, rfl, trivial⟩ ⟨([] : List Int), 0, A26, (([] : List Int).length), rfl, hS.pick [0, 1] [0, 1, 2, 3, 4, 5] rfl, H⟩ ?_
                                rintro k F w1 ⟨y30, y33, A31, c32, rfl, hS, H⟩
                                cases k with
                                | zero => rw [impl_FitGroups.l3] at H; cases H
                                | succ k =>
                                  rw [impl_FitGroups.l3] at H
                                  refine CJ.seq ?_
                                  refine CJ.region ?_
                                  refine OJ.pures tU_ok 1 rfl ?_
                                  refine OJ.nil (EJ.next ?_)
                                  refine CJ.seq ?_
                                  refine CJ.cond rfl (fun hb => ?_) (fun hb => ?_)
                                  · replace H := pif_t (of_decide_eq_true hb) H
                                    refine CJ.skip (EJ.next ?_)
                                    refine CJ.seq ?_
                                    refine CJ.block ?_
                                    refine CJ.seq ?_
                                    refine CJ.region ?_
                                    refine OJ.pures tU_ok 1 rfl ?_
                                    obtain ⟨t34, ht34, H⟩ := pbind H
                                    obtain ⟨ad34, e34⟩ := (hS.rd' (i := 4) rfl).some' ht34
                                    refine OJ.st rfl rfl rfl (SR.idxS tU_ok tI_ok rfl rfl rfl rfl e34 rfl (getI_some ht34).1) ?_
                                    refine OJ.st rfl rfl rfl (SR.load rfl rfl (fun w' hx => ld1 tU_ok rfl rfl (CA.ext ((hS.rd' (i := 4) rfl).at_ e34 ht34) hx) rfl)) ?_
                                    refine OJ.pures tU_ok 2 rfl ?_
                                    refine OJ.nil (EJ.next ?_)
                                    refine CJ.seq ?_
                                    refine CJ.region ?_
                                    refine OJ.pures tU_ok 4 rfl ?_
                                    refine OJ.split (t := 74) rfl (fun hb => ?_) (fun hb => ?_)
                                    · replace H := pif_t (of_decide_eq_true hb) H
                                      refine OJ.pures tU_ok 2 rfl ?_
                                      obtain ⟨t35, ht35, H⟩ := pbind H
                                      refine OJ.callF rfl rfl rfl rfl rfl hb51 rfl (slices_Contains_int64_int64.c k _ A12 c13 y11 (hS.rd (i := 0) rfl) (hS.le (i := 0) rfl) y33 _ ht35) ?_
                                      rintro _ w1 ⟨rfl, hs⟩
                                      replace hS := hS.grow hs
                                      refine OJ.pures tU_ok 2 rfl ?_
                                      refine OJ.nil (EJ.next ?_)
                                      refine CJ.cond rfl (fun hb => ?_) (fun hb => ?_)
                                      · replace H := pif_t hb H
                                        refine CJ.region ?_
                                        refine OJ.pures tU_ok 2 rfl ?_
                                        refine OJ.ef rfl rfl rfl (Ef.lit tU_ok tI_ok hS (C := (ci .i64)) rfl rfl rfl rfl rfl rfl ([t34] : List Int) rfl rfl rfl rfl) ?_
                                        rintro _ w1 ⟨A36, rfl, hS⟩
                                        obtain ⟨u37, hu37, H⟩ := pbind H
                                        refine OJ.ew rfl rfl rfl (Ew.append tU_ok tI_ok (C := (ci .i64)) (xs := y30) (ys := ([t34] : List Int)) hS (i := 1) rfl rfl rfl rfl rfl rfl rfl rfl rfl rfl rfl rfl rfl (hS.rd (i := 2) rfl) (chk_some hu37)) ?_
                                        rintro _ w1 ⟨A38, c39, rfl, hS⟩
                                        refine OJ.pures tU_ok 1 rfl ?_
                                        refine OJ.nil (EJ.blk (EJ.next ?_))
                                        refine CJ.region ?_
                                        refine OJ.pures tU_ok 2 rfl ?_
                                        refine OJ.nil ?_
                                        exact EJ.round k (F' := [(2, .slice Aa2 a2.length ca2), (8, .slice A3 t2.1.length c4), (10, .slice A12 y11.length c13), (11, .int .i64 y14), (12, .int .i64 t18), (13, .int .i64 y22), (15, .slice A38 (y30 ++ ([t34] : List Int)).length c39), (41, .slice A3 t2.1.length c4), (42, .int .i64 (t2.1.length : Int)), (43, .int .i64 y14), (48, .slice Aa2 a2.length ca2), (49, .int .i64 (a2.length : Int)), (50, .int .i64 y22), (64, .slice Aa2 a2.length ca2), (65, .int .i64 (a2.length : Int)), (66, .int .i64 (IntKind.i64.wrap (y33 + 1)))]) ⟨rfl, rfl, rfl, rfl, rfl, rfl, rfl, rfl, rfl, rfl, rfl, rfl, rfl, rfl, rfl, rfl, trivial⟩ (Nat.lt_succ_self _) ⟨(y30 ++ ([t34] : List Int)), (IntKind.i64.wrap (y33 + 1)), A38, c39, rfl, hS.pick [0, 1] [0, 1, 2, 3, 4, 5] rfl, H⟩
                                      · replace H := pifb_f hb H
                                        refine CJ.skip (EJ.blk (EJ.next ?_))
                                        refine CJ.region ?_
                                        refine OJ.pures tU_ok 2 rfl ?_
                                        refine OJ.nil ?_
                                        exact EJ.round k (F' := [(2, .slice Aa2 a2.length ca2), (8, .slice A3 t2.1.length c4), (10, .slice A12 y11.length c13), (11, .int .i64 y14), (12, .int .i64 t18), (13, .int .i64 y22), (15, .slice A31 y30.length c32), (41, .slice A3 t2.1.length c4), (42, .int .i64 (t2.1.length : Int)), (43, .int .i64 y14), (48, .slice Aa2 a2.length ca2), (49, .int .i64 (a2.length : Int)), (50, .int .i64 y22), (64, .slice Aa2 a2.length ca2), (65, .int .i64 (a2.length : Int)), (66, .int .i64 (IntKind.i64.wrap (y33 + 1)))]) ⟨rfl, rfl, rfl, rfl, rfl, rfl, rfl, rfl, rfl, rfl, rfl, rfl, rfl, rfl, rfl, rfl, trivial⟩ (Nat.lt_succ_self _) ⟨y30, (IntKind.i64.wrap (y33 + 1)), A31, c32, rfl, hS.pick [0, 1] [0, 1, 2, 3, 4, 5] rfl, H⟩
                                    · replace H := pif_f (of_decide_eq_false hb) H
                                      refine OJ.pures tU_ok 5 rfl ?_
                                      refine OJ.nil (EJ.next ?_)
                                      refine CJ.condF rfl ?_
                                      refine CJ.skip (EJ.blk (EJ.next ?_))
                                      refine CJ.region ?_
                                      refine OJ.pures tU_ok 2 rfl ?_
                                      refine OJ.nil ?_
                                      exact EJ.round k (F' := [(2, .slice Aa2 a2.length ca2), (8, .slice A3 t2.1.length c4), (10, .slice A12 y11.length c13), (11, .int .i64 y14), (12, .int .i64 t18), (13, .int .i64 y22), (15, .slice A31 y30.length c32), (41, .slice A3 t2.1.length c4), (42, .int .i64 (t2.1.length : Int)), (43, .int .i64 y14), (48, .slice Aa2 a2.length ca2), (49, .int .i64 (a2.length : Int)), (50, .int .i64 y22), (64, .slice Aa2 a2.length ca2), (65, .int .i64 (a2.length : Int)), (66, .int .i64 (IntKind.i64.wrap (y33 + 1)))]) ⟨rfl, rfl, rfl, rfl, rfl, rfl, rfl, rfl, rfl, rfl, rfl, rfl, rfl, rfl, rfl, rfl, trivial⟩ (Nat.lt_succ_self _) ⟨y30, (IntKind.i64.wrap (y33 + 1)), A31, c32, rfl, hS.pick [0, 1] [0, 1, 2, 3, 4, 5] rfl, H⟩
                                  · replace H := pif_f (of_decide_eq_false hb) H
                                    refine CJ.exit (EJ.skE (EJ.skE (EJ.hit (?_))))
                                    exact EJ.meet (F' := [(2, .slice Aa2 a2.length ca2), (8, .slice A3 t2.1.length c4), (10, .slice A12 y11.length c13), (11, .int .i64 y14), (12, .int .i64 t18), (13, .int .i64 y22), (15, .slice A31 y30.length c32), (41, .slice A3 t2.1.length c4), (42, .int .i64 (t2.1.length : Int)), (43, .int .i64 y14), (48, .slice Aa2 a2.length ca2), (49, .int .i64 (a2.length : Int)), (50, .int .i64 y22)]) ⟨rfl, rfl, rfl, rfl, rfl, rfl, rfl, rfl, rfl, rfl, rfl, rfl, rfl, trivial⟩ ⟨y30, A31, c32, H, rfl, hS.pick [0, 1] [0, 1, 2, 3, 4, 5] rfl⟩
                              · rintro F w1 ⟨y27, A28, c29, he, rfl, hS⟩
                                obtain rfl := Option.some.inj he
                                have H := K371
                                refine EJ.next ?_
                                refine CJ.seq ?_
                                refine CJ.region ?_
                                refine OJ.pures tU_ok 3 rfl ?_
                                obtain ⟨u40, hu40, H⟩ := pbind H
                                refine OJ.st rfl rfl rfl (SR.cutS tU_ok tI_ok ((IntKind.i64.wrap (y14 + 1)).toNat) (t2.1.length) rfl rfl rfl rfl rfl rfl (.inr ⟨_, _, rfl, (chk_some hu40).1, rfl⟩) (.inl ⟨rfl, rfl⟩) (by have := (chk_some hu40); omega) (by have := (chk_some hu40); have := (hS.le' (i := 5) rfl : t2.1.length ≤ c4); omega)) ?_
                                replace hS := hS.cutR (i := 5) (lo := (IntKind.i64.wrap (y14 + 1)).toNat) (hi := t2.1.length) rfl (by have := (chk_some hu40); omega) (by have := (chk_some hu40); omega)
                                refine OJ.as (t := 88) rfl (show _ = (.slice (cutA A3 c4 ((IntKind.i64.wrap (y14 + 1)).toNat) (ci .i64).sz) ((t2.1.drop ((IntKind.i64.wrap (y14 + 1)).toNat)).take (t2.1.length - ((IntKind.i64.wrap (y14 + 1)).toNat))).length (c4 - ((IntKind.i64.wrap (y14 + 1)).toNat)) : Value) by rw [cutLen (by have := (chk_some hu40); omega) (by have := (chk_some hu40); omega)]; rfl) ?_
                                refine OJ.pures tU_ok 1 rfl ?_
                                obtain ⟨t41, ht41, H⟩ := pbind H
                                refine OJ.callF rfl rfl rfl rfl rfl hb50 rfl (impl_canFit.c k _ (cutA A3 c4 ((IntKind.i64.wrap (y14 + 1)).toNat) (ci .i64).sz) (c4 - ((IntKind.i64.wrap (y14 + 1)).toNat)) ((t2.1.drop ((IntKind.i64.wrap (y14 + 1)).toNat)).take (t2.1.length - ((IntKind.i64.wrap (y14 + 1)).toNat))) (hS.rd' (i := 6) rfl) (hS.le' (i := 6) rfl) A28 c29 y27 (hS.rd (i := 1) rfl) (hS.le (i := 1) rfl) _ ht41) ?_
                                rintro _ w1 ⟨rfl, hs⟩
                                replace hS := hS.grow hs
                                refine OJ.nil (EJ.next ?_)
                                refine CJ.cond rfl (fun hb => ?_) (fun hb => ?_)
                                · replace H := pif_t hb H
                                  refine CJ.seq ?_
                                  refine CJ.region ?_
                                  refine OJ.pures tU_ok 2 rfl ?_
                                  refine OJ.ef rfl rfl rfl (Ef.lit tU_ok tI_ok hS (C := (ci .i64)) rfl rfl rfl rfl rfl rfl ([y22] : List Int) rfl rfl rfl rfl) ?_
                                  rintro _ w1 ⟨A42, rfl, hS⟩
                                  obtain ⟨u43, hu43, H⟩ := pbind H
                                  refine OJ.ew rfl rfl rfl (Ew.append tU_ok tI_ok (C := (ci .i64)) (xs := y11) (ys := ([y22] : List Int)) hS (i := 0) rfl rfl rfl rfl rfl rfl rfl rfl rfl rfl rfl rfl rfl (hS.rd (i := 2) rfl) (chk_some hu43)) ?_
                                  rintro _ w1 ⟨A44, c45, rfl, hS⟩
                                  refine OJ.pures tU_ok 1 rfl ?_
                                  refine OJ.nil (EJ.next ?_)
                                  refine CJ.exit (EJ.bkE rfl (EJ.skE (EJ.skE (EJ.hit (?_)))))
                                  first | (obtain rfl := Option.some.inj H; have H := K367) | (obtain ⟨q367, H2, e367⟩ := pbind H; obtain rfl := Option.some.inj e367; obtain rfl := Option.some.inj K367; have H := H2)
                                  exact EJ.meet (F' := [(2, .slice Aa2 a2.length ca2), (8, .slice A3 t2.1.length c4), (10, .slice A44 (y11 ++ ([y22] : List Int)).length c45), (41, .slice A3 t2.1.length c4), (42, .int .i64 (t2.1.length : Int)), (43, .int .i64 y14)]) ⟨rfl, rfl, rfl, rfl, rfl, rfl, trivial⟩ ⟨(y11 ++ ([y22] : List Int)), A44, c45, H, rfl, hS.pick [0] [0, 1, 2, 3, 4, 5] rfl⟩
                                · replace H := pifb_f hb H
                                  refine CJ.skip (EJ.blk (?_))
                                  exact EJ.meet (F' := [(2, .slice Aa2 a2.length ca2), (8, .slice A3 t2.1.length c4), (10, .slice A12 y11.length c13), (11, .int .i64 y14), (12, .int .i64 t18), (41, .slice A3 t2.1.length c4), (42, .int .i64 (t2.1.length : Int)), (43, .int .i64 y14), (48, .slice Aa2 a2.length ca2), (49, .int .i64 (a2.length : Int)), (50, .int .i64 y22)]) ⟨rfl, rfl, rfl, rfl, rfl, rfl, rfl, rfl, rfl, rfl, rfl, trivial⟩ ⟨H, rfl, hS.pick [0] [0, 1, 2, 3, 4, 5] rfl⟩
                        · rintro F w1 ⟨he, rfl, hS⟩
                          obtain rfl := Option.some.inj he
                          have H := K367
                          refine CJ.region ?_
                          refine OJ.pures tU_ok 2 rfl ?_
                          refine OJ.nil ?_
                          exact EJ.round k (F' := [(2, .slice Aa2 a2.length ca2), (8, .slice A3 t2.1.length c4), (10, .slice A12 y11.length c13), (11, .int .i64 y14), (12, .int .i64 t18), (41, .slice A3 t2.1.length c4), (42, .int .i64 (t2.1.length : Int)), (43, .int .i64 y14), (48, .slice Aa2 a2.length ca2), (49, .int .i64 (a2.length : Int)), (50, .int .i64 (IntKind.i64.wrap (y22 + 1)))]) ⟨rfl, rfl, rfl, rfl, rfl, rfl, rfl, rfl, rfl, rfl, rfl, trivial⟩ (Nat.lt_succ_self _) ⟨(IntKind.i64.wrap (y22 + 1)), rfl, hS.pick [0] [0, 1, 2, 3, 4, 5] rfl, H⟩
                      · replace H := pif_f (of_decide_eq_false hb) H
                        refine CJ.exit (EJ.skE (EJ.skE (EJ.hit (?_))))
                        exact EJ.meet (F' := [(2, .slice Aa2 a2.length ca2), (8, .slice A3 t2.1.length c4), (10, .slice A12 y11.length c13), (41, .slice A3 t2.1.length c4), (42, .int .i64 (t2.1.length : Int)), (43, .int .i64 y14)]) ⟨rfl, rfl, rfl, rfl, rfl, rfl, trivial⟩ ⟨y11, A12, c13, H, rfl, hS.pick [0] [0, 1, 2, 3, 4, 5] rfl⟩
                  · rintro F w1 ⟨y19, A20, c21, he, rfl, hS⟩
                    obtain rfl := Option.some.inj he
                    have H := K356
                    refine EJ.blk (?_)
                    exact EJ.meet (F' := [(2, .slice Aa2 a2.length ca2), (8, .slice A3 t2.1.length c4), (10, .slice A20 y19.length c21), (41, .slice A3 t2.1.length c4), (42, .int .i64 (t2.1.length : Int)), (43, .int .i64 y14)]) ⟨rfl, rfl, rfl, rfl, rfl, rfl, trivial⟩ ⟨y19, A20, c21, H, rfl, hS.pick [0] [0, 1, 2, 3, 4, 5] rfl⟩
                · rintro F w1 ⟨y15, A16, c17, he, rfl, hS⟩
                  obtain rfl := Option.some.inj he
                  have H := K339
                  refine CJ.region ?_
                  refine OJ.pures tU_ok 2 rfl ?_
                  refine OJ.nil ?_
                  exact EJ.round k (F' := [(2, .slice Aa2 a2.length ca2), (8, .slice A3 t2.1.length c4), (10, .slice A16 y15.length c17), (41, .slice A3 t2.1.length c4), (42, .int .i64 (t2.1.length : Int)), (43, .int .i64 (IntKind.i64.wrap (y14 + 1)))]) ⟨rfl, rfl, rfl, rfl, rfl, rfl, trivial⟩ (Nat.lt_succ_self _) ⟨y15, (IntKind.i64.wrap (y14 + 1)), A16, c17, rfl, hS.pick [0] [0, 1, 2, 3, 4, 5] rfl, H⟩
              · replace H := pif_f (of_decide_eq_false hb) H
                refine CJ.exit (EJ.skE (EJ.skE (EJ.hit (?_))))
                exact EJ.meet (F' := [(10, .slice A12 y11.length c13)]) ⟨rfl, trivial⟩ ⟨y11, A12, c13, H, rfl, hS.pick [0] [0, 1, 2, 3, 4, 5] rfl⟩
          · rintro F w1 ⟨y8, A9, c10, he, rfl, hS⟩
            obtain rfl := Option.some.inj he
            have H := K266
            refine EJ.next ?_
            refine CJ.seq ?_
            refine CJ.region ?_
            refine OJ.pures tU_ok 3 rfl ?_
            refine OJ.nil (EJ.next ?_)
            refine CJ.ret (?_)
            obtain rfl := Option.some.inj H
            exact EJ.fin rfl (.tmp rfl (.tmp rfl .nil)) ⟨A9, c10, rfl, hS.pick [0] [] rfl⟩

def spec_l06Numbers.l1 (a1 : List Int) : Nat → Int → Option (Bool ⊕ Unit)
  | 0, _ => none
  | k + 1, y1 => if y1 < (a1.length : Int) then ((getI a1 y1).bind fun t2 => (spec_l00In.f t2 0 13).bind fun t3 => if (!t3) = true then (some (Sum.inl false)) else (spec_l06Numbers.l1 a1 k (IntKind.i64.wrap (y1 + 1)))) else (some (Sum.inr ()))
def spec_l06Numbers.f (k : Nat) (a0 : Herd) (a1 : List Int) : Option Bool := (spec_l06Numbers.l1 a1 k 0).bind fun s372 => match s372 with | .inl r => some r | .inr _ => some (decide ((a1.length : Int) = (a0.Names.length : Int)))
theorem spec_l06Numbers.c (k : Nat) (w : World) (Aa0_0 : Option Addr) (ca0_0 : Nat) (Aa0_1 : Option Addr) (ca0_1 : Nat) (Aa0_2 : Option Addr) (ca0_2 : Nat) (a0 : Herd) (hr0_0 : Rd G.cs w Aa0_0 a0.Names) (hc0_0 : a0.Names.length ≤ ca0_0) (hr0_1 : Rd (ci .i16) w Aa0_1 a0.Eats) (hc0_1 : a0.Eats.length ≤ ca0_1) (hr0_2 : Rd (ci .u16) w Aa0_2 a0.Foes) (hc0_2 : a0.Foes.length ≤ ca0_2) (pa0 : Addr) (hp0 : CA w pa0 ([.slice Aa0_0 a0.Names.length ca0_0, .slice Aa0_1 a0.Eats.length ca0_1, .slice Aa0_2 a0.Foes.length ca0_2])) (Aa1 : Option Addr) (ca1 : Nat) (a1 : List Int) (hr1 : Rd (ci .i64) w Aa1 a1) (hc1 : a1.length ≤ ca1) (r : Bool) (H : spec_l06Numbers.f k a0 a1 = some r) :
    CV Tryz.prog 78 [.pointer (some pa0), .slice Aa1 a1.length ca1].toArray w fun v w' => v = .bool r ∧ Ext w w' := by
  have hS := ((((((St.init w no).param G.cs Aa0_0 ca0_0 a0.Names hr0_0 hc0_0).param (ci .i16) Aa0_1 ca0_1 a0.Eats hr0_1 hc0_1).param (ci .u16) Aa0_2 ca0_2 a0.Foes hr0_2 hc0_2).paramP pa0 ([.slice Aa0_0 a0.Names.length ca0_0, .slice Aa0_1 a0.Eats.length ca0_1, .slice Aa0_2 a0.Foes.length ca0_2]) hp0).param (ci .i64) Aa1 ca1 a1 hr1 hc1)
  unfold spec_l06Numbers.f at H
  refine CV.body Tryz.func78 rfl Tryz.ntmps78 rfl ?_
  refine CJ.seq ?_
  refine CJ.region ?_
  refine OJ.pures tU_ok 1 rfl ?_
  refine OJ.nil (EJ.next ?_)
  refine CJ.seq ?_
  refine CJ.seq ?_
  refine CJ.region ?_
  refine OJ.pures tU_ok 1 rfl ?_
  refine OJ.nil (EJ.next ?_)
  obtain ⟨j372, H, K372⟩ := pbind H
  refine CJ.cut1 (fun F w1 => (some (Sum.inr ()) : Option (Bool ⊕ Unit)) = some j372 ∧ F = [(0, .pointer (some pa0)), (1, .slice Aa1 a1.length ca1)] ∧ St w no w1 [] [roC G.cs Aa0_0 ca0_0 a0.Names, roC (ci .i16) Aa0_1 ca0_1 a0.Eats, roC (ci .u16) Aa0_2 ca0_2 a0.Foes, roP pa0 ([.slice Aa0_0 a0.Names.length ca0_0, .slice Aa0_1 a0.Eats.length ca0_1, .slice Aa0_2 a0.Foes.length ca0_2]), roC (ci .i64) Aa1 ca1 a1]) ?_ ?_
  · skip
    refine CJ.block ?_
    refine CJ.loop (fun k F w1 => ∃ (y1 : Int), F = [(0, .pointer (some pa0)), (1, .slice Aa1 a1.length ca1), (5, .int .i64 y1)] ∧ St w no w1 [] [roC G.cs Aa0_0 ca0_0 a0.Names, roC (ci .i16) Aa0_1 ca0_1 a0.Eats, roC (ci .u16) Aa0_2 ca0_2 a0.Foes, roP pa0 ([.slice Aa0_0 a0.Names.length ca0_0, .slice Aa0_1 a0.Eats.length ca0_1, .slice Aa0_2 a0.Foes.length ca0_2]), roC (ci .i64) Aa1 ca1 a1] ∧ spec_l06Numbers.l1 a1 k y1 = some j372) k (F' := [(0, .pointer (some pa0)), (1, .slice Aa1 a1.length ca1), (5, .int .i64 0)]) ⟨rfl, rfl, rfl, trivial⟩ ⟨0, rfl, hS.pick [] [0, 1, 2, 3, 4] rfl, H⟩ ?_
    rintro k F w1 ⟨y1, rfl, hS, H⟩
    cases k with
    | zero => rw [spec_l06Numbers.l1] at H; cases H
    | succ k =>
      rw [spec_l06Numbers.l1] at H
      refine CJ.seq ?_
      refine CJ.seq ?_
      refine CJ.region ?_
      refine OJ.pures tU_ok 4 rfl ?_
      refine OJ.nil (EJ.next ?_)
      refine CJ.cond rfl (fun hb => ?_) (fun hb => ?_)
      · replace H := pif_t (of_decide_eq_true hb) H
        refine CJ.skip (EJ.next ?_)
        refine CJ.seq ?_
        refine CJ.block ?_
        refine CJ.seq ?_
        refine CJ.region ?_
        refine OJ.pures tU_ok 2 rfl ?_
        obtain ⟨t2, ht2, H⟩ := pbind H
        obtain ⟨ad2, e2⟩ := (hS.rd' (i := 4) rfl).some' ht2
        refine OJ.st rfl rfl rfl (SR.idxS tU_ok tI_ok rfl rfl rfl rfl e2 rfl (getI_some ht2).1) ?_
        refine OJ.st rfl rfl rfl (SR.load rfl rfl (fun w' hx => ld1 tU_ok rfl rfl (CA.ext ((hS.rd' (i := 4) rfl).at_ e2 ht2) hx) rfl)) ?_
        obtain ⟨t3, ht3, H⟩ := pbind H
        refine OJ.callF rfl rfl rfl rfl rfl hb39 rfl (spec_l00In.c _ t2 0 13 _ ht3) ?_
        rintro _ w1 ⟨rfl, hs⟩
        replace hS := hS.grow hs
        refine OJ.pures tU_ok 1 rfl ?_
        refine OJ.nil (EJ.next ?_)
        refine CJ.cond rfl (fun hb => ?_) (fun hb => ?_)
        · replace H := pif_t hb H
          refine CJ.seq ?_
          refine CJ.region ?_
          refine OJ.pures tU_ok 1 rfl ?_
          refine OJ.nil (EJ.next ?_)
          refine CJ.ret (EJ.bkR (EJ.skR (EJ.skR (EJ.bkR (EJ.skR (EJ.skR (?_)))))))
          first | (obtain rfl := Option.some.inj H; have H := K372) | (obtain ⟨q372, H2, e372⟩ := pbind H; obtain rfl := Option.some.inj e372; obtain rfl := Option.some.inj K372; have H := H2)
          obtain rfl := Option.some.inj H
          exact EJ.fin rfl (.tmp rfl .nil) ⟨rfl, hS.ext⟩
        · replace H := pifb_f hb H
          refine CJ.skip (EJ.blk (EJ.next ?_))
          refine CJ.region ?_
          refine OJ.pures tU_ok 3 rfl ?_
          refine OJ.nil ?_
          exact EJ.round k (F' := [(0, .pointer (some pa0)), (1, .slice Aa1 a1.length ca1), (5, .int .i64 (IntKind.i64.wrap (y1 + 1)))]) ⟨rfl, rfl, rfl, trivial⟩ (Nat.lt_succ_self _) ⟨(IntKind.i64.wrap (y1 + 1)), rfl, hS.pick [] [0, 1, 2, 3, 4] rfl, H⟩
      · replace H := pif_f (of_decide_eq_false hb) H
        refine CJ.exit (EJ.skE (EJ.skE (EJ.hit (?_))))
        exact EJ.meet (F' := [(0, .pointer (some pa0)), (1, .slice Aa1 a1.length ca1)]) ⟨rfl, rfl, trivial⟩ ⟨H, rfl, hS.pick [] [0, 1, 2, 3, 4] rfl⟩
  · rintro F w1 ⟨he, rfl, hS⟩
    obtain rfl := Option.some.inj he
    have H := K372
    refine EJ.next ?_
    refine CJ.seq ?_
    refine CJ.region ?_
    refine OJ.pures tU_ok 4 rfl ?_
    refine OJ.st rfl rfl rfl (SR.fieldAddr tU_ok tI_ok rfl rfl rfl rfl rfl rfl) ?_
    refine OJ.st rfl rfl rfl (SR.load rfl rfl (fun w' hx => ld1 tU_ok rfl rfl (CA.ext (CA.sub (hS.ca (i := 3) rfl) 0) hx) rfl)) ?_
    refine OJ.pures tU_ok 3 rfl ?_
    refine OJ.nil (EJ.next ?_)
    refine CJ.ret (?_)
    obtain rfl := Option.some.inj H
    exact EJ.fin rfl (.tmp rfl .nil) ⟨rfl, hS.ext⟩

def spec_l06Told.f (k : Nat) (a0 : Herd) (a1 : List Int) : Option Int := (spec_l06Ok.f k a0).bind fun t1 => if (!t1) = true then (some 1) else ((spec_l06Numbers.f k a0 a1).bind fun t2 => if (!t2) = true then (some 4) else (some 0))
theorem spec_l06Told.c (k : Nat) (w : World) (Aa0_0 : Option Addr) (ca0_0 : Nat) (Aa0_1 : Option Addr) (ca0_1 : Nat) (Aa0_2 : Option Addr) (ca0_2 : Nat) (a0 : Herd) (hr0_0 : Rd G.cs w Aa0_0 a0.Names) (hc0_0 : a0.Names.length ≤ ca0_0) (hr0_1 : Rd (ci .i16) w Aa0_1 a0.Eats) (hc0_1 : a0.Eats.length ≤ ca0_1) (hr0_2 : Rd (ci .u16) w Aa0_2 a0.Foes) (hc0_2 : a0.Foes.length ≤ ca0_2) (pa0 : Addr) (hp0 : CA w pa0 ([.slice Aa0_0 a0.Names.length ca0_0, .slice Aa0_1 a0.Eats.length ca0_1, .slice Aa0_2 a0.Foes.length ca0_2])) (Aa1 : Option Addr) (ca1 : Nat) (a1 : List Int) (hr1 : Rd (ci .i64) w Aa1 a1) (hc1 : a1.length ≤ ca1) (r : Int) (H : spec_l06Told.f k a0 a1 = some r) :
    CV Tryz.prog 52 [.pointer (some pa0), .slice Aa1 a1.length ca1].toArray w fun v w' => v = .int .i64 r ∧ Ext w w' := by
  have hS := ((((((St.init w no).param G.cs Aa0_0 ca0_0 a0.Names hr0_0 hc0_0).param (ci .i16) Aa0_1 ca0_1 a0.Eats hr0_1 hc0_1).param (ci .u16) Aa0_2 ca0_2 a0.Foes hr0_2 hc0_2).paramP pa0 ([.slice Aa0_0 a0.Names.length ca0_0, .slice Aa0_1 a0.Eats.length ca0_1, .slice Aa0_2 a0.Foes.length ca0_2]) hp0).param (ci .i64) Aa1 ca1 a1 hr1 hc1)
  unfold spec_l06Told.f at H
  refine CV.body Tryz.func52 rfl Tryz.ntmps52 rfl ?_
  refine CJ.seq ?_
  refine CJ.region ?_
  refine OJ.pures tU_ok 1 rfl ?_
  refine OJ.nil (EJ.next ?_)
  refine CJ.seq ?_
  refine CJ.seq ?_
  refine CJ.region ?_
  refine OJ.pures tU_ok 1 rfl ?_
  obtain ⟨t1, ht1, H⟩ := pbind H
  refine OJ.callF rfl rfl rfl rfl rfl hb29 rfl (spec_l06Ok.c k _ Aa0_0 ca0_0 Aa0_1 ca0_1 Aa0_2 ca0_2 a0 (hS.rd' (i := 0) rfl) (hS.le' (i := 0) rfl) (hS.rd' (i := 1) rfl) (hS.le' (i := 1) rfl) (hS.rd' (i := 2) rfl) (hS.le' (i := 2) rfl) pa0 (hS.ca (i := 3) rfl) _ ht1) ?_
  rintro _ w1 ⟨rfl, hs⟩
  replace hS := hS.grow hs
  refine OJ.pures tU_ok 1 rfl ?_
  refine OJ.nil (EJ.next ?_)
  refine CJ.cond rfl (fun hb => ?_) (fun hb => ?_)
  · replace H := pif_t hb H
    refine CJ.seq ?_
    refine CJ.region ?_
    refine OJ.pures tU_ok 1 rfl ?_
    refine OJ.nil (EJ.next ?_)
    refine CJ.ret (EJ.skR (?_))
    obtain rfl := Option.some.inj H
    exact EJ.fin rfl (.tmp rfl .nil) ⟨rfl, hS.ext⟩
  · replace H := pifb_f hb H
    refine CJ.skip (EJ.next ?_)
    refine CJ.seq ?_
    refine CJ.seq ?_
    refine CJ.region ?_
    refine OJ.pures tU_ok 2 rfl ?_
    obtain ⟨t2, ht2, H⟩ := pbind H
    refine OJ.callF rfl rfl rfl rfl rfl hb78 rfl (spec_l06Numbers.c k _ Aa0_0 ca0_0 Aa0_1 ca0_1 Aa0_2 ca0_2 a0 (hS.rd' (i := 0) rfl) (hS.le' (i := 0) rfl) (hS.rd' (i := 1) rfl) (hS.le' (i := 1) rfl) (hS.rd' (i := 2) rfl) (hS.le' (i := 2) rfl) pa0 (hS.ca (i := 3) rfl) Aa1 ca1 a1 (hS.rd' (i := 4) rfl) (hS.le' (i := 4) rfl) _ ht2) ?_
    rintro _ w1 ⟨rfl, hs⟩
    replace hS := hS.grow hs
    refine OJ.pures tU_ok 1 rfl ?_
    refine OJ.nil (EJ.next ?_)
    refine CJ.cond rfl (fun hb => ?_) (fun hb => ?_)
    · replace H := pif_t hb H
      refine CJ.seq ?_
      refine CJ.region ?_
      refine OJ.pures tU_ok 1 rfl ?_
      refine OJ.nil (EJ.next ?_)
      refine CJ.ret (EJ.skR (?_))
      obtain rfl := Option.some.inj H
      exact EJ.fin rfl (.tmp rfl .nil) ⟨rfl, hS.ext⟩
    · replace H := pifb_f hb H
      refine CJ.skip (EJ.next ?_)
      refine CJ.seq ?_
      refine CJ.region ?_
      refine OJ.pures tU_ok 1 rfl ?_
      refine OJ.nil (EJ.next ?_)
      refine CJ.ret (?_)
      obtain rfl := Option.some.inj H
      exact EJ.fin rfl (.tmp rfl .nil) ⟨rfl, hS.ext⟩

def spec_l06Needs.l1 (a1 : List Int) : Nat → Int → Int → Option Int
  | 0, _, _ => none
  | k + 1, y2, y3 => if y3 < (a1.length : Int) then ((getI a1 y3).bind fun t4 => (spec_l00Max.f y2 t4).bind fun t5 => spec_l06Needs.l1 a1 k t5 (IntKind.i64.wrap (y3 + 1))) else (some y2)
def spec_l06Needs.l2 (a0 : Herd) (a1 : List Int) : Nat → (List Int) → Int → Option (List Int)
  | 0, _, _ => none
  | k + 1, y9, y10 => if y10 < (a1.length : Int) then ((getI a1 y10).bind fun t11 => (getI y9 t11).bind fun t12 => (getI a0.Eats y10).bind fun t13 => (getI y9 t11).bind fun t14 => spec_l06Needs.l2 a0 a1 k (y9.set t11.toNat (IntKind.i64.wrap (t12 + (IntKind.i64.wrap t13)))) (IntKind.i64.wrap (y10 + 1))) else (some y9)
def spec_l06Needs.f (k : Nat) (a0 : Herd) (a1 : List Int) : Option (List Int) := (spec_l06Needs.l1 a1 k (-1) 0).bind fun y1 => (chk (0 ≤ (IntKind.i64.wrap (y1 + 1)) ∧ (IntKind.i64.wrap (y1 + 1)) ≤ 4294967296)).bind fun u6 => (spec_l06Needs.l2 a0 a1 k (List.replicate ((IntKind.i64.wrap (y1 + 1)).toNat) 0 : List Int) 0).bind fun y8 => some y8
theorem spec_l06Needs.c (k : Nat) (w : World) (Aa0_0 : Option Addr) (ca0_0 : Nat) (Aa0_1 : Option Addr) (ca0_1 : Nat) (Aa0_2 : Option Addr) (ca0_2 : Nat) (a0 : Herd) (hr0_0 : Rd G.cs w Aa0_0 a0.Names) (hc0_0 : a0.Names.length ≤ ca0_0) (hr0_1 : Rd (ci .i16) w Aa0_1 a0.Eats) (hc0_1 : a0.Eats.length ≤ ca0_1) (hr0_2 : Rd (ci .u16) w Aa0_2 a0.Foes) (hc0_2 : a0.Foes.length ≤ ca0_2) (pa0 : Addr) (hp0 : CA w pa0 ([.slice Aa0_0 a0.Names.length ca0_0, .slice Aa0_1 a0.Eats.length ca0_1, .slice Aa0_2 a0.Foes.length ca0_2])) (Aa1 : Option Addr) (ca1 : Nat) (a1 : List Int) (hr1 : Rd (ci .i64) w Aa1 a1) (hc1 : a1.length ≤ ca1) (r : List Int) (H : spec_l06Needs.f k a0 a1 = some r) :
    CV Tryz.prog 53 [.pointer (some pa0), .slice Aa1 a1.length ca1].toArray w fun v w' => ∃ (A0 : Option Addr) (c0 : Nat), v = .slice A0 r.length c0 ∧ St w no w' [rowC (ci .i64) A0 c0 2 r] [] := by
  have hS := ((((((St.init w no).param G.cs Aa0_0 ca0_0 a0.Names hr0_0 hc0_0).param (ci .i16) Aa0_1 ca0_1 a0.Eats hr0_1 hc0_1).param (ci .u16) Aa0_2 ca0_2 a0.Foes hr0_2 hc0_2).paramP pa0 ([.slice Aa0_0 a0.Names.length ca0_0, .slice Aa0_1 a0.Eats.length ca0_1, .slice Aa0_2 a0.Foes.length ca0_2]) hp0).param (ci .i64) Aa1 ca1 a1 hr1 hc1)
  unfold spec_l06Needs.f at H
  refine CV.body Tryz.func53 rfl Tryz.ntmps53 rfl ?_
  refine CJ.seq ?_
  refine CJ.region ?_
  refine OJ.pures tU_ok 1 rfl ?_
  refine OJ.nil (EJ.next ?_)
  refine CJ.seq ?_
  refine CJ.region ?_
  refine OJ.pures tU_ok 1 rfl ?_
  refine OJ.nil (EJ.next ?_)
  refine CJ.seq ?_
  refine CJ.seq ?_
  refine CJ.region ?_
  refine OJ.pures tU_ok 1 rfl ?_
  refine OJ.nil (EJ.next ?_)
  obtain ⟨j381, H, K381⟩ := pbind H
  refine CJ.cut1 (fun F w1 => ∃ (y1 : Int) , (some y1 : Option Int) = some j381 ∧ F = [(0, .pointer (some pa0)), (1, .slice Aa1 a1.length ca1), (5, .int .i64 y1)] ∧ St w no w1 [] [roC G.cs Aa0_0 ca0_0 a0.Names, roC (ci .i16) Aa0_1 ca0_1 a0.Eats, roC (ci .u16) Aa0_2 ca0_2 a0.Foes, roP pa0 ([.slice Aa0_0 a0.Names.length ca0_0, .slice Aa0_1 a0.Eats.length ca0_1, .slice Aa0_2 a0.Foes.length ca0_2]), roC (ci .i64) Aa1 ca1 a1]) ?_ ?_
  · skip
    refine CJ.block ?_
    refine CJ.loop (fun k F w1 => ∃ (y2 : Int) (y3 : Int), F = [(0, .pointer (some pa0)), (1, .slice Aa1 a1.length ca1), (5, .int .i64 y2), (6, .int .i64 y3)] ∧ St w no w1 [] [roC G.cs Aa0_0 ca0_0 a0.Names, roC (ci .i16) Aa0_1 ca0_1 a0.Eats, roC (ci .u16) Aa0_2 ca0_2 a0.Foes, roP pa0 ([.slice Aa0_0 a0.Names.length ca0_0, .slice Aa0_1 a0.Eats.length ca0_1, .slice Aa0_2 a0.Foes.length ca0_2]), roC (ci .i64) Aa1 ca1 a1] ∧ spec_l06Needs.l1 a1 k y2 y3 = some j381) k (F' := [(0, .pointer (some pa0)), (1, .slice Aa1 a1.length ca1), (5, .int .i64 (-1)), (6, .int .i64 0)]) ⟨rfl, rfl, rfl, rfl, trivial⟩ ⟨(-1), 0, rfl, hS.pick [] [0, 1, 2, 3, 4] rfl, H⟩ ?_
    rintro k F w1 ⟨y2, y3, rfl, hS, H⟩
    cases k with
    | zero => rw [spec_l06Needs.l1] at H; cases H
    | succ k =>
      rw [spec_l06Needs.l1] at H
      refine CJ.seq ?_
      refine CJ.seq ?_
      refine CJ.region ?_
      refine OJ.pures tU_ok 4 rfl ?_
      refine OJ.nil (EJ.next ?_)
      refine CJ.cond rfl (fun hb => ?_) (fun hb => ?_)
      · replace H := pif_t (of_decide_eq_true hb) H
        refine CJ.skip (EJ.next ?_)
        refine CJ.seq ?_
        refine CJ.block ?_
        refine CJ.region ?_
        refine OJ.pures tU_ok 3 rfl ?_
        obtain ⟨t4, ht4, H⟩ := pbind H
        obtain ⟨ad4, e4⟩ := (hS.rd' (i := 4) rfl).some' ht4
        refine OJ.st rfl rfl rfl (SR.idxS tU_ok tI_ok rfl rfl rfl rfl e4 rfl (getI_some ht4).1) ?_
        refine OJ.st rfl rfl rfl (SR.load rfl rfl (fun w' hx => ld1 tU_ok rfl rfl (CA.ext ((hS.rd' (i := 4) rfl).at_ e4 ht4) hx) rfl)) ?_
        obtain ⟨t5, ht5, H⟩ := pbind H
        refine OJ.callF rfl rfl rfl rfl rfl hb65 rfl (spec_l00Max.c _ y2 t4 _ ht5) ?_
        rintro _ w1 ⟨rfl, hs⟩
        replace hS := hS.grow hs
        refine OJ.pures tU_ok 1 rfl ?_
        refine OJ.nil (EJ.blk (EJ.next ?_))
        refine CJ.region ?_
        refine OJ.pures tU_ok 3 rfl ?_
        refine OJ.nil ?_
        exact EJ.round k (F' := [(0, .pointer (some pa0)), (1, .slice Aa1 a1.length ca1), (5, .int .i64 t5), (6, .int .i64 (IntKind.i64.wrap (y3 + 1)))]) ⟨rfl, rfl, rfl, rfl, trivial⟩ (Nat.lt_succ_self _) ⟨t5, (IntKind.i64.wrap (y3 + 1)), rfl, hS.pick [] [0, 1, 2, 3, 4] rfl, H⟩
      · replace H := pif_f (of_decide_eq_false hb) H
        refine CJ.exit (EJ.skE (EJ.skE (EJ.hit (?_))))
        exact EJ.meet (F' := [(0, .pointer (some pa0)), (1, .slice Aa1 a1.length ca1), (5, .int .i64 y2)]) ⟨rfl, rfl, rfl, trivial⟩ ⟨y2, H, rfl, hS.pick [] [0, 1, 2, 3, 4] rfl⟩
  · rintro F w1 ⟨y1, he, rfl, hS⟩
    obtain rfl := Option.some.inj he
    have H := K381
    refine EJ.next ?_
    refine CJ.seq ?_
    refine CJ.region ?_
    refine OJ.pures tU_ok 2 rfl ?_
    obtain ⟨u6, hu6, H⟩ := pbind H
    refine OJ.ef rfl rfl rfl (Ef.make tU_ok tI_ok hS (C := (ci .i64)) rfl rfl rfl rfl rfl rfl rfl rfl (chk_some hu6) 0 rfl) ?_
    rintro _ w1 ⟨A7, rfl, hS⟩
    refine OJ.pures tU_ok 1 rfl ?_
    refine OJ.nil (EJ.next ?_)
    refine CJ.seq ?_
    refine CJ.seq ?_
    refine CJ.region ?_
    refine OJ.pures tU_ok 1 rfl ?_
    refine OJ.nil (EJ.next ?_)
    obtain ⟨j382, H, K382⟩ := pbind H
    refine CJ.cut1 (fun F w1 => ∃ (y8 : List Int) , (some y8 : Option (List Int)) = some j382 ∧ F = [(7, .slice A7 y8.length ((IntKind.i64.wrap (y1 + 1)).toNat))] ∧ St w no w1 [rowC (ci .i64) A7 ((IntKind.i64.wrap (y1 + 1)).toNat) 2 y8] [roC G.cs Aa0_0 ca0_0 a0.Names, roC (ci .i16) Aa0_1 ca0_1 a0.Eats, roC (ci .u16) Aa0_2 ca0_2 a0.Foes, roP pa0 ([.slice Aa0_0 a0.Names.length ca0_0, .slice Aa0_1 a0.Eats.length ca0_1, .slice Aa0_2 a0.Foes.length ca0_2]), roC (ci .i64) Aa1 ca1 a1]) ?_ ?_
    · skip
      refine CJ.block ?_
      refine CJ.loop (fun k F w1 => ∃ (y9 : List Int) (y10 : Int), F = [(0, .pointer (some pa0)), (1, .slice Aa1 a1.length ca1), (7, .slice A7 y9.length ((IntKind.i64.wrap (y1 + 1)).toNat)), (8, .int .i64 y10)] ∧ St w no w1 [rowC (ci .i64) A7 ((IntKind.i64.wrap (y1 + 1)).toNat) 2 y9] [roC G.cs Aa0_0 ca0_0 a0.Names, roC (ci .i16) Aa0_1 ca0_1 a0.Eats, roC (ci .u16) Aa0_2 ca0_2 a0.Foes, roP pa0 ([.slice Aa0_0 a0.Names.length ca0_0, .slice Aa0_1 a0.Eats.length ca0_1, .slice Aa0_2 a0.Foes.length ca0_2]), roC (ci .i64) Aa1 ca1 a1] ∧ spec_l06Needs.l2 a0 a1 k y9 y10 = some j382) k (F' := [(0, .pointer (some pa0)), (1, .slice Aa1 a1.length ca1), (7, .slice A7 (List.replicate ((IntKind.i64.wrap (y1 + 1)).toNat) 0 : List Int).length ((IntKind.i64.wrap (y1 + 1)).toNat)), (8, .int .i64 0)]) ⟨rfl, rfl, rfl, rfl, trivial⟩ ⟨(List.replicate ((IntKind.i64.wrap (y1 + 1)).toNat) 0 : List Int), 0, rfl, hS.pick [0] [0, 1, 2, 3, 4] rfl, H⟩ ?_
      rintro k F w1 ⟨y9, y10, rfl, hS, H⟩
      cases k with
      | zero => rw [spec_l06Needs.l2] at H; cases H
      | succ k =>
        rw [spec_l06Needs.l2] at H
        refine CJ.seq ?_
        refine CJ.seq ?_
        refine CJ.region ?_
        refine OJ.pures tU_ok 4 rfl ?_
        refine OJ.nil (EJ.next ?_)
        refine CJ.cond rfl (fun hb => ?_) (fun hb => ?_)
        · replace H := pif_t (of_decide_eq_true hb) H
          refine CJ.skip (EJ.next ?_)
          refine CJ.seq ?_
          refine CJ.block ?_
          refine CJ.draw [] [0, 1, 2, 3, 4, 5, 6, 7, 8, 9, 10, 11, 12, 13, 14, 15, 16, 17] mixed (by kernel_rfl) hS fun w1 hS => ?_
          refine DJ.pures tU_ok 3 rfl ?_
          obtain ⟨t11, ht11, H⟩ := pbind H
          obtain ⟨ad11, e11⟩ := (hS.rd' (i := 4) rfl).some' ht11
          refine DJ.st rfl rfl rfl rfl rfl (SR.idxS tU_ok tI_ok rfl rfl rfl rfl e11 rfl (getI_some ht11).1) ?_
          refine DJ.st rfl rfl rfl rfl rfl (SR.load rfl rfl (fun w' hx => ld1 tU_ok rfl rfl (CA.ext ((hS.rd' (i := 4) rfl).at_ e11 ht11) hx) rfl)) ?_
          obtain ⟨t12, ht12, H⟩ := pbind H
          obtain ⟨ad12, e12⟩ := (hS.rd (i := 0) rfl).some' ht12
          refine DJ.st rfl rfl rfl rfl rfl (SR.idxS tU_ok tI_ok rfl rfl rfl rfl e12 rfl (getI_some ht12).1) ?_
          refine DJ.st rfl rfl rfl rfl rfl (SR.load rfl rfl (fun w' hx => ld1 tU_ok rfl rfl (CA.ext ((hS.rd (i := 0) rfl).at_ e12 ht12) hx) rfl)) ?_
          refine DJ.pures tU_ok 2 rfl ?_
          refine DJ.st rfl rfl rfl rfl rfl (SR.fieldAddr tU_ok tI_ok rfl rfl rfl rfl rfl rfl) ?_
          refine DJ.st rfl rfl rfl rfl rfl (SR.load rfl rfl (fun w' hx => ld1 tU_ok rfl rfl (CA.ext (CA.sub (hS.ca (i := 3) rfl) 1) hx) rfl)) ?_
          refine DJ.pures tU_ok 1 rfl ?_
          obtain ⟨t13, ht13, H⟩ := pbind H
          obtain ⟨ad13, e13⟩ := (hS.rd' (i := 1) rfl).some' ht13
          refine DJ.st rfl rfl rfl rfl rfl (SR.idxS tU_ok tI_ok rfl rfl rfl rfl e13 rfl (getI_some ht13).1) ?_
          refine DJ.st rfl rfl rfl rfl rfl (SR.load rfl rfl (fun w' hx => ld1 tU_ok rfl rfl (CA.ext ((hS.rd' (i := 1) rfl).at_ e13 ht13) hx) rfl)) ?_
          refine DJ.pures tU_ok 2 rfl ?_
          obtain ⟨t14, ht14, H⟩ := pbind H
          obtain ⟨ad14, e14⟩ := (hS.rd (i := 0) rfl).some' ht14
          refine DJ.st rfl rfl rfl rfl rfl (SR.idxS tU_ok tI_ok rfl rfl rfl rfl e14 rfl (getI_some ht14).1) ?_
          refine DJ.es rfl rfl rfl rfl (Es.storeR tI_ok hS (i := 0) (off := 0) rfl rfl ht14 e14 rfl rfl rfl rfl (vs := (ci .i64).enc (IntKind.i64.wrap (t12 + (IntKind.i64.wrap t13)))) rfl rfl (one1 rfl) (Nat.le_of_ble_eq_true rfl) (IntKind.i64.wrap (t12 + (IntKind.i64.wrap t13))) rfl) ?_
          intro w1 hS
          refine DJ.as (t := 7) rfl (show _ = (.slice A7 (y9.set t11.toNat (IntKind.i64.wrap (t12 + (IntKind.i64.wrap t13)))).length ((IntKind.i64.wrap (y1 + 1)).toNat) : Value) by simp only [List.length_set]) ?_
          refine DJ.as (t := 30) rfl (show _ = (.slice A7 (y9.set t11.toNat (IntKind.i64.wrap (t12 + (IntKind.i64.wrap t13)))).length ((IntKind.i64.wrap (y1 + 1)).toNat) : Value) by simp only [List.length_set]) ?_
          refine DJ.nil (EJ.blk (EJ.next ?_))
          refine CJ.region ?_
          refine OJ.pures tU_ok 3 rfl ?_
          refine OJ.nil ?_
          exact EJ.round k (F' := [(0, .pointer (some pa0)), (1, .slice Aa1 a1.length ca1), (7, .slice A7 (y9.set t11.toNat (IntKind.i64.wrap (t12 + (IntKind.i64.wrap t13)))).length ((IntKind.i64.wrap (y1 + 1)).toNat)), (8, .int .i64 (IntKind.i64.wrap (y10 + 1)))]) ⟨rfl, rfl, rfl, rfl, trivial⟩ (Nat.lt_succ_self _) ⟨(y9.set t11.toNat (IntKind.i64.wrap (t12 + (IntKind.i64.wrap t13)))), (IntKind.i64.wrap (y10 + 1)), rfl, hS.pick [0] [0, 1, 2, 3, 4] rfl, H⟩
        · replace H := pif_f (of_decide_eq_false hb) H
          refine CJ.exit (EJ.skE (EJ.skE (EJ.hit (?_))))
          exact EJ.meet (F' := [(7, .slice A7 y9.length ((IntKind.i64.wrap (y1 + 1)).toNat))]) ⟨rfl, trivial⟩ ⟨y9, H, rfl, hS.pick [0] [0, 1, 2, 3, 4] rfl⟩
    · rintro F w1 ⟨y8, he, rfl, hS⟩
      obtain rfl := Option.some.inj he
      have H := K382
      refine EJ.next ?_
      refine CJ.seq ?_
      refine CJ.region ?_
      refine OJ.pures tU_ok 2 rfl ?_
      refine OJ.nil (EJ.next ?_)
      refine CJ.ret (?_)
      obtain rfl := Option.some.inj H
      exact EJ.fin rfl (.tmp rfl .nil) ⟨A7, ((IntKind.i64.wrap (y1 + 1)).toNat), rfl, hS.pick [0] [] rfl⟩

def spec_l06Enough.l2 (a1 : List Int) (y9 : Int) : Nat → Int → Int → Option Int
  | 0, _, _ => none
  | k + 1, y19, y20 => if y20 < (a1.length : Int) then ((chk (0 ≤ (IntKind.u64.wrap y20))).bind fun u21 => if (Int.tmod (shrI .u16 y9 (IntKind.u64.wrap y20)) 2) = 0 then (if y19 < 0 then (spec_l06Enough.l2 a1 y9 k y20 (IntKind.i64.wrap (y20 + 1))) else ((getI a1 y20).bind fun t22 => (getI a1 y19).bind fun t23 => if t22 < t23 then (spec_l06Enough.l2 a1 y9 k y20 (IntKind.i64.wrap (y20 + 1))) else (spec_l06Enough.l2 a1 y9 k y19 (IntKind.i64.wrap (y20 + 1))))) else (spec_l06Enough.l2 a1 y9 k y19 (IntKind.i64.wrap (y20 + 1)))) else (some y19)
def spec_l06Enough.l3 (y10 : List Int) : Nat → Int → Int → Option Int
  | 0, _, _ => none
  | k + 1, y26, y27 => if y27 < (y10.length : Int) then ((getI y10 y27).bind fun t28 => (getI y10 y26).bind fun t29 => if t28 < t29 then (spec_l06Enough.l3 y10 k y27 (IntKind.i64.wrap (y27 + 1))) else (spec_l06Enough.l3 y10 k y26 (IntKind.i64.wrap (y27 + 1)))) else (some y26)
def spec_l06Enough.l1 (a1 : List Int) : Nat → Int → (List Int) → Int → Option (List Int)
  | 0, _, _, _ => none
  | k + 1, y9, y10, y13 => if y13 < (a1.length : Int) then (((spec_l06Enough.l2 a1 y9 k (-1) 0).bind fun y18 => (if y18 < 0 then (some true) else (some (decide ((y10.length : Int) = 0)))).bind fun y24 => if y24 = true then (some (Sum.inl y10)) else ((spec_l06Enough.l3 y10 k 0 1).bind fun y25 => (getI y10 y25).bind fun t30 => (getI a1 y18).bind fun t31 => if t30 ≤ t31 then ((chk ((0 : Int) ≤ 0 ∧ 0 ≤ y25 ∧ y25 ≤ (y10.length : Int))).bind fun u32 => (chk ((0 : Int) ≤ (IntKind.i64.wrap (y25 + 1)) ∧ (IntKind.i64.wrap (y25 + 1)) ≤ (y10.length : Int) ∧ (y10.length : Int) ≤ (y10.length : Int))).bind fun u33 => (chk (([] : List Int).length + ((y10.drop 0).take (y25.toNat - 0)).length ≤ 4294967296)).bind fun u35 => (chk ((([] : List Int) ++ ((y10.drop 0).take (y25.toNat - 0))).length + ((y10.drop ((IntKind.i64.wrap (y25 + 1)).toNat)).take (y10.length - ((IntKind.i64.wrap (y25 + 1)).toNat))).length ≤ 4294967296)).bind fun u38 => (chk (0 ≤ (IntKind.u64.wrap y18))).bind fun u46 => some (Sum.inr ((([] : List Int) ++ ((y10.drop 0).take (y25.toNat - 0))) ++ ((y10.drop ((IntKind.i64.wrap (y25 + 1)).toNat)).take (y10.length - ((IntKind.i64.wrap (y25 + 1)).toNat))), orI .u16 y9 (shlI .u16 1 (IntKind.u64.wrap y18))))) else ((chk (0 ≤ (IntKind.u64.wrap y18))).bind fun u47 => some (Sum.inr (y10, orI .u16 y9 (shlI .u16 1 (IntKind.u64.wrap y18))))))).bind fun s402 => match s402 with | .inl r => some r | .inr (y14, y17) => spec_l06Enough.l1 a1 k y17 y14 (IntKind.i64.wrap (y13 + 1))) else (some y10)
def spec_l06Enough.f (k : Nat) (a0 : List Int) (a1 : List Int) (a2 : Int) (a3 : Int) : Option Bool := (chk ((0 : Int) ≤ a2 ∧ a2 ≤ (a0.length : Int) ∧ (a0.length : Int) ≤ (a0.length : Int))).bind fun u2 => (chk (([] : List Int).length + ((a0.drop a2.toNat).take (a0.length - a2.toNat)).length ≤ 4294967296)).bind fun u3 => (spec_l06Enough.l1 a1 k a3 (([] : List Int) ++ ((a0.drop a2.toNat).take (a0.length - a2.toNat))) 0).bind fun y6 => some (decide ((y6.length : Int) = 0))
theorem spec_l06Enough.c (k : Nat) (w : World) (Aa0 : Option Addr) (ca0 : Nat) (a0 : List Int) (hr0 : Rd (ci .i64) w Aa0 a0) (hc0 : a0.length ≤ ca0) (Aa1 : Option Addr) (ca1 : Nat) (a1 : List Int) (hr1 : Rd (ci .i64) w Aa1 a1) (hc1 : a1.length ≤ ca1) (a2 : Int) (a3 : Int) (r : Bool) (H : spec_l06Enough.f k a0 a1 a2 a3 = some r) :
    CV Tryz.prog 54 [.slice Aa0 a0.length ca0, .slice Aa1 a1.length ca1, .int .i64 a2, .int .u16 a3].toArray w fun v w' => v = .bool r ∧ Ext w w' := by
  have hS := (((St.init w no).param (ci .i64) Aa0 ca0 a0 hr0 hc0).param (ci .i64) Aa1 ca1 a1 hr1 hc1)
  unfold spec_l06Enough.f at H
  refine CV.body Tryz.func54 rfl Tryz.ntmps54 rfl ?_
  refine CJ.seq ?_
  refine CJ.region ?_
  refine OJ.pures tU_ok 1 rfl ?_
  refine OJ.nil (EJ.next ?_)
  refine CJ.seq ?_
  refine CJ.region ?_
  refine OJ.ef rfl rfl rfl (Ef.lit tU_ok tI_ok hS (C := (ci .i64)) rfl rfl rfl rfl rfl rfl ([] : List Int) rfl rfl rfl rfl) ?_
  rintro _ w1 ⟨A1, rfl, hS⟩
  refine OJ.pures tU_ok 2 rfl ?_
  obtain ⟨u2, hu2, H⟩ := pbind H
  refine OJ.st rfl rfl rfl (SR.cutS tU_ok tI_ok (a2.toNat) (a0.length) rfl rfl rfl rfl rfl rfl (.inr ⟨_, _, rfl, (chk_some hu2).1, rfl⟩) (.inl ⟨rfl, rfl⟩) (by have := (chk_some hu2); omega) (by have := (chk_some hu2); have := (hS.le' (i := 0) rfl : a0.length ≤ ca0); omega)) ?_
  replace hS := hS.cutR (i := 0) (lo := a2.toNat) (hi := a0.length) rfl (by have := (chk_some hu2); omega) (by have := (chk_some hu2); omega)
  refine OJ.as (t := 18) rfl (show _ = (.slice (cutA Aa0 ca0 a2.toNat (ci .i64).sz) ((a0.drop a2.toNat).take (a0.length - a2.toNat)).length (ca0 - a2.toNat) : Value) by rw [cutLen (by have := (chk_some hu2); omega) (by have := (chk_some hu2); omega)]; rfl) ?_
  obtain ⟨u3, hu3, H⟩ := pbind H
  refine OJ.ew rfl rfl rfl (Ew.append tU_ok tI_ok (C := (ci .i64)) (xs := ([] : List Int)) (ys := ((a0.drop a2.toNat).take (a0.length - a2.toNat))) hS (i := 0) rfl rfl rfl rfl rfl rfl rfl rfl rfl rfl rfl rfl rfl (hS.rd' (i := 2) rfl) (chk_some hu3)) ?_
  rintro _ w1 ⟨A4, c5, rfl, hS⟩
  refine OJ.pures tU_ok 1 rfl ?_
  refine OJ.nil (EJ.next ?_)
  refine CJ.seq ?_
  refine CJ.seq ?_
  refine CJ.region ?_
  refine OJ.pures tU_ok 1 rfl ?_
  refine OJ.nil (EJ.next ?_)
  replace hS := hS.freezeG (i := 0) rfl
  obtain ⟨j383, H, K383⟩ := pbind H
  refine CJ.cut1 (fun F w1 => ∃ (y6 : List Int) (A7 : Option Addr) (c8 : Nat), (some y6 : Option (List Int)) = some j383 ∧ F = [(9, .slice A7 y6.length c8)] ∧ St w no w1 [] [roC (ci .i64) Aa0 ca0 a0, roC (ci .i64) Aa1 ca1 a1, roC (ci .i64) (cutA Aa0 ca0 a2.toNat (ci .i64).sz) (ca0 - a2.toNat) ((a0.drop a2.toNat).take (a0.length - a2.toNat)), roC (ci .i64) A4 c5 (([] : List Int) ++ ((a0.drop a2.toNat).take (a0.length - a2.toNat))), roC (ci .i64) A7 c8 y6]) ?_ ?_
  · skip
    refine CJ.block ?_
    refine CJ.loop (fun k F w1 => ∃ (y9 : Int) (y10 : List Int) (y13 : Int) (A11 : Option Addr) (c12 : Nat), F = [(1, .slice Aa1 a1.length ca1), (3, .int .u16 y9), (9, .slice A11 y10.length c12), (10, .int .i64 y13)] ∧ St w no w1 [] [roC (ci .i64) Aa0 ca0 a0, roC (ci .i64) Aa1 ca1 a1, roC (ci .i64) (cutA Aa0 ca0 a2.toNat (ci .i64).sz) (ca0 - a2.toNat) ((a0.drop a2.toNat).take (a0.length - a2.toNat)), roC (ci .i64) A4 c5 (([] : List Int) ++ ((a0.drop a2.toNat).take (a0.length - a2.toNat))), roC (ci .i64) A11 c12 y10] ∧ spec_l06Enough.l1 a1 k y9 y10 y13 = some j383) k (F' := [(1, .slice Aa1 a1.length ca1), (3, .int .u16 a3), (9, .slice A4 (([] : List Int) ++ ((a0.drop a2.toNat).take (a0.length - a2.toNat))).length c5), (10, .int .i64 0)]) ⟨rfl, rfl, rfl, rfl, trivial⟩ ⟨a3, (([] : List Int) ++ ((a0.drop a2.toNat).take (a0.length - a2.toNat))), 0, A4, c5, rfl, hS.pick [] [0, 1, 2, 3, 3] rfl, H⟩ ?_
    rintro k F w1 ⟨y9, y10, y13, A11, c12, rfl, hS, H⟩
    cases k with
    | zero => rw [spec_l06Enough.l1] at H; cases H
    | succ k =>
      rw [spec_l06Enough.l1] at H
      refine CJ.seq ?_
      refine CJ.seq ?_
      refine CJ.region ?_
      refine OJ.pures tU_ok 4 rfl ?_
      refine OJ.nil (EJ.next ?_)
      refine CJ.cond rfl (fun hb => ?_) (fun hb => ?_)
      · replace H := pif_t (of_decide_eq_true hb) H
        refine CJ.skip (EJ.next ?_)
        obtain ⟨j402, H, K402⟩ := pbind H
        refine CJ.cut (fun F w1 => ∃ (y14 : List Int) (y17 : Int) (A15 : Option Addr) (c16 : Nat), (some (Sum.inr (y14, y17)) : Option ((List Int) ⊕ ((List Int) × Int))) = some j402 ∧ F = [(1, .slice Aa1 a1.length ca1), (3, .int .u16 y17), (9, .slice A15 y14.length c16), (10, .int .i64 y13)] ∧ St w no w1 [] [roC (ci .i64) Aa0 ca0 a0, roC (ci .i64) Aa1 ca1 a1, roC (ci .i64) (cutA Aa0 ca0 a2.toNat (ci .i64).sz) (ca0 - a2.toNat) ((a0.drop a2.toNat).take (a0.length - a2.toNat)), roC (ci .i64) A4 c5 (([] : List Int) ++ ((a0.drop a2.toNat).take (a0.length - a2.toNat))), roC (ci .i64) A11 c12 y10, roC (ci .i64) A15 c16 y14]) ?_ ?_
        · skip
          refine CJ.block ?_
          refine CJ.seq ?_
          refine CJ.region ?_
          refine OJ.pures tU_ok 1 rfl ?_
          refine OJ.nil (EJ.next ?_)
          refine CJ.seq ?_
          refine CJ.seq ?_
          refine CJ.region ?_
          refine OJ.pures tU_ok 1 rfl ?_
          refine OJ.nil (EJ.next ?_)
          obtain ⟨j406, H, K406⟩ := pbind H
          refine CJ.cut1 (fun F w1 => ∃ (y18 : Int) , (some y18 : Option Int) = some j406 ∧ F = [(1, .slice Aa1 a1.length ca1), (3, .int .u16 y9), (9, .slice A11 y10.length c12), (10, .int .i64 y13), (11, .int .i64 y18)] ∧ St w no w1 [] [roC (ci .i64) Aa0 ca0 a0, roC (ci .i64) Aa1 ca1 a1, roC (ci .i64) (cutA Aa0 ca0 a2.toNat (ci .i64).sz) (ca0 - a2.toNat) ((a0.drop a2.toNat).take (a0.length - a2.toNat)), roC (ci .i64) A4 c5 (([] : List Int) ++ ((a0.drop a2.toNat).take (a0.length - a2.toNat))), roC (ci .i64) A11 c12 y10]) ?_ ?_
          · skip
            refine CJ.block ?_
            refine CJ.loop (fun k F w1 => ∃ (y19 : Int) (y20 : Int), F = [(1, .slice Aa1 a1.length ca1), (3, .int .u16 y9), (9, .slice A11 y10.length c12), (10, .int .i64 y13), (11, .int .i64 y19), (12, .int .i64 y20)] ∧ St w no w1 [] [roC (ci .i64) Aa0 ca0 a0, roC (ci .i64) Aa1 ca1 a1, roC (ci .i64) (cutA Aa0 ca0 a2.toNat (ci .i64).sz) (ca0 - a2.toNat) ((a0.drop a2.toNat).take (a0.length - a2.toNat)), roC (ci .i64) A4 c5 (([] : List Int) ++ ((a0.drop a2.toNat).take (a0.length - a2.toNat))), roC (ci .i64) A11 c12 y10] ∧ spec_l06Enough.l2 a1 y9 k y19 y20 = some j406) k (F' := [(1, .slice Aa1 a1.length ca1), (3, .int .u16 y9), (9, .slice A11 y10.length c12), (10, .int .i64 y13), (11, .int .i64 (-1)), (12, .int .i64 0)]) ⟨rfl, rfl, rfl, rfl, rfl, rfl, trivial⟩ ⟨(-1), 0, rfl, hS.pick [] [0, 1, 2, 3, 4] rfl, H⟩ ?_
            rintro k F w1 ⟨y19, y20, rfl, hS, H⟩
            cases k with
            | zero => rw [spec_l06Enough.l2] at H; cases H
            | succ k =>
              rw [spec_l06Enough.l2] at H
              refine CJ.seq ?_
              refine CJ.seq ?_
              refine CJ.region ?_
              refine OJ.pures tU_ok 4 rfl ?_
              refine OJ.nil (EJ.next ?_)
              refine CJ.cond rfl (fun hb => ?_) (fun hb => ?_)
              · replace H := pif_t (of_decide_eq_true hb) H
                refine CJ.skip (EJ.next ?_)
                refine CJ.seq ?_
                refine CJ.block ?_
                refine CJ.seq ?_
                refine CJ.draw [] [0, 1, 2, 3, 4, 5, 6, 7, 8, 9, 10, 11, 12, 13, 14, 15, 16, 17, 18, 19, 20] mixed (by kernel_rfl) hS fun w1 hS => ?_
                refine DJ.pures tU_ok 3 rfl ?_
                obtain ⟨u21, hu21, H⟩ := pbind H
                refine DJ.st rfl rfl rfl rfl rfl (SR.shr rfl rfl rfl (chk_some hu21)) ?_
                refine DJ.st rfl rfl rfl rfl rfl (SR.rem rfl rfl rfl (by decide)) ?_
                refine DJ.pures tU_ok 2 rfl ?_
                refine DJ.split (t := 38) rfl (fun hb => ?_) (fun hb => ?_)
                · replace H := pif_t (of_decide_eq_true hb) H
                  refine DJ.pures tU_ok 3 rfl ?_
                  refine DJ.split (t := 41) rfl (fun hb => ?_) (fun hb => ?_)
                  · replace H := pif_t (of_decide_eq_true hb) H
                    refine DJ.pures tU_ok 11 rfl ?_
                    refine DJ.nil (EJ.next ?_)
                    refine CJ.condT rfl ?_
                    refine CJ.region ?_
                    refine OJ.pures tU_ok 2 rfl ?_
                    refine OJ.nil (EJ.blk (EJ.next ?_))
                    refine CJ.region ?_
                    refine OJ.pures tU_ok 3 rfl ?_
                    refine OJ.nil ?_
                    exact EJ.round k (F' := [(1, .slice Aa1 a1.length ca1), (3, .int .u16 y9), (9, .slice A11 y10.length c12), (10, .int .i64 y13), (11, .int .i64 y20), (12, .int .i64 (IntKind.i64.wrap (y20 + 1)))]) ⟨rfl, rfl, rfl, rfl, rfl, rfl, trivial⟩ (Nat.lt_succ_self _) ⟨y20, (IntKind.i64.wrap (y20 + 1)), rfl, hS.pick [] [0, 1, 2, 3, 4] rfl, H⟩
                  · replace H := pif_f (of_decide_eq_false hb) H
                    refine DJ.pures tU_ok 2 rfl ?_
                    obtain ⟨t22, ht22, H⟩ := pbind H
                    obtain ⟨ad22, e22⟩ := (hS.rd' (i := 1) rfl).some' ht22
                    refine DJ.st rfl rfl rfl rfl rfl (SR.idxS tU_ok tI_ok rfl rfl rfl rfl e22 rfl (getI_some ht22).1) ?_
                    refine DJ.st rfl rfl rfl rfl rfl (SR.load rfl rfl (fun w' hx => ld1 tU_ok rfl rfl (CA.ext ((hS.rd' (i := 1) rfl).at_ e22 ht22) hx) rfl)) ?_
                    refine DJ.pures tU_ok 2 rfl ?_
                    obtain ⟨t23, ht23, H⟩ := pbind H
                    obtain ⟨ad23, e23⟩ := (hS.rd' (i := 1) rfl).some' ht23
                    refine DJ.st rfl rfl rfl rfl rfl (SR.idxS tU_ok tI_ok rfl rfl rfl rfl e23 rfl (getI_some ht23).1) ?_
                    refine DJ.st rfl rfl rfl rfl rfl (SR.load rfl rfl (fun w' hx => ld1 tU_ok rfl rfl (CA.ext ((hS.rd' (i := 1) rfl).at_ e23 ht23) hx) rfl)) ?_
                    refine DJ.pures tU_ok 3 rfl ?_
                    refine DJ.nil (EJ.next ?_)
                    refine CJ.cond rfl (fun hb => ?_) (fun hb => ?_)
                    · replace H := pif_t (of_decide_eq_true hb) H
                      refine CJ.region ?_
                      refine OJ.pures tU_ok 2 rfl ?_
                      refine OJ.nil (EJ.blk (EJ.next ?_))
                      refine CJ.region ?_
                      refine OJ.pures tU_ok 3 rfl ?_
                      refine OJ.nil ?_
                      exact EJ.round k (F' := [(1, .slice Aa1 a1.length ca1), (3, .int .u16 y9), (9, .slice A11 y10.length c12), (10, .int .i64 y13), (11, .int .i64 y20), (12, .int .i64 (IntKind.i64.wrap (y20 + 1)))]) ⟨rfl, rfl, rfl, rfl, rfl, rfl, trivial⟩ (Nat.lt_succ_self _) ⟨y20, (IntKind.i64.wrap (y20 + 1)), rfl, hS.pick [] [0, 1, 2, 3, 4] rfl, H⟩
                    · replace H := pif_f (of_decide_eq_false hb) H
                      refine CJ.skip (EJ.blk (EJ.next ?_))
                      refine CJ.region ?_
                      refine OJ.pures tU_ok 3 rfl ?_
                      refine OJ.nil ?_
                      exact EJ.round k (F' := [(1, .slice Aa1 a1.length ca1), (3, .int .u16 y9), (9, .slice A11 y10.length c12), (10, .int .i64 y13), (11, .int .i64 y19), (12, .int .i64 (IntKind.i64.wrap (y20 + 1)))]) ⟨rfl, rfl, rfl, rfl, rfl, rfl, trivial⟩ (Nat.lt_succ_self _) ⟨y19, (IntKind.i64.wrap (y20 + 1)), rfl, hS.pick [] [0, 1, 2, 3, 4] rfl, H⟩
                · replace H := pif_f (of_decide_eq_false hb) H
                  refine DJ.pures tU_ok 14 rfl ?_
                  refine DJ.nil (EJ.next ?_)
                  refine CJ.condF rfl ?_
                  refine CJ.skip (EJ.blk (EJ.next ?_))
                  refine CJ.region ?_
                  refine OJ.pures tU_ok 3 rfl ?_
                  refine OJ.nil ?_
                  exact EJ.round k (F' := [(1, .slice Aa1 a1.length ca1), (3, .int .u16 y9), (9, .slice A11 y10.length c12), (10, .int .i64 y13), (11, .int .i64 y19), (12, .int .i64 (IntKind.i64.wrap (y20 + 1)))]) ⟨rfl, rfl, rfl, rfl, rfl, rfl, trivial⟩ (Nat.lt_succ_self _) ⟨y19, (IntKind.i64.wrap (y20 + 1)), rfl, hS.pick [] [0, 1, 2, 3, 4] rfl, H⟩
              · replace H := pif_f (of_decide_eq_false hb) H
                refine CJ.exit (EJ.skE (EJ.skE (EJ.hit (?_))))
                exact EJ.meet (F' := [(1, .slice Aa1 a1.length ca1), (3, .int .u16 y9), (9, .slice A11 y10.length c12), (10, .int .i64 y13), (11, .int .i64 y19)]) ⟨rfl, rfl, rfl, rfl, rfl, trivial⟩ ⟨y19, H, rfl, hS.pick [] [0, 1, 2, 3, 4] rfl⟩
          · rintro F w1 ⟨y18, he, rfl, hS⟩
            obtain rfl := Option.some.inj he
            have H := K406
            refine EJ.next ?_
            refine CJ.seq ?_
            obtain ⟨j407, H, K407⟩ := pbind H
            refine CJ.cut (fun F w1 => ∃ (y24 : Bool) , (some y24 : Option Bool) = some j407 ∧ F = [(1, .slice Aa1 a1.length ca1), (3, .int .u16 y9), (9, .slice A11 y10.length c12), (10, .int .i64 y13), (11, .int .i64 y18), (60, .bool y24)] ∧ St w no w1 [] [roC (ci .i64) Aa0 ca0 a0, roC (ci .i64) Aa1 ca1 a1, roC (ci .i64) (cutA Aa0 ca0 a2.toNat (ci .i64).sz) (ca0 - a2.toNat) ((a0.drop a2.toNat).take (a0.length - a2.toNat)), roC (ci .i64) A4 c5 (([] : List Int) ++ ((a0.drop a2.toNat).take (a0.length - a2.toNat))), roC (ci .i64) A11 c12 y10]) ?_ ?_
            · skip
              refine CJ.region ?_
              refine OJ.pures tU_ok 3 rfl ?_
              refine OJ.split (t := 56) rfl (fun hb => ?_) (fun hb => ?_)
              · replace H := pif_t (of_decide_eq_true hb) H
                refine OJ.pures tU_ok 4 rfl ?_
                refine OJ.nil ?_
                exact EJ.meet (F' := [(1, .slice Aa1 a1.length ca1), (3, .int .u16 y9), (9, .slice A11 y10.length c12), (10, .int .i64 y13), (11, .int .i64 y18), (60, .bool true)]) ⟨rfl, rfl, rfl, rfl, rfl, rfl, trivial⟩ ⟨true, H, rfl, hS.pick [] [0, 1, 2, 3, 4] rfl⟩
              · replace H := pif_f (of_decide_eq_false hb) H
                refine OJ.pures tU_ok 4 rfl ?_
                refine OJ.nil ?_
                exact EJ.meet (F' := [(1, .slice Aa1 a1.length ca1), (3, .int .u16 y9), (9, .slice A11 y10.length c12), (10, .int .i64 y13), (11, .int .i64 y18), (60, .bool (decide ((y10.length : Int) = 0)))]) ⟨rfl, rfl, rfl, rfl, rfl, rfl, trivial⟩ ⟨(decide ((y10.length : Int) = 0)), H, rfl, hS.pick [] [0, 1, 2, 3, 4] rfl⟩
            · rintro F w1 ⟨y24, he, rfl, hS⟩
              obtain rfl := Option.some.inj he
              have H := K407
              refine CJ.cond rfl (fun hb => ?_) (fun hb => ?_)
              · replace H := pif_t hb H
                refine CJ.exit (EJ.skE (EJ.bkE rfl (EJ.skE (EJ.skE (EJ.hit (?_))))))
                first | (obtain rfl := Option.some.inj H; have H := K402) | (obtain ⟨q402, H2, e402⟩ := pbind H; obtain rfl := Option.some.inj e402; obtain rfl := Option.some.inj K402; have H := H2)
                exact EJ.meet (F' := [(9, .slice A11 y10.length c12)]) ⟨rfl, trivial⟩ ⟨y10, A11, c12, H, rfl, hS.pick [] [0, 1, 2, 3, 4] rfl⟩
              · replace H := pifb_f hb H
                refine CJ.skip (EJ.next ?_)
                refine CJ.seq ?_
                refine CJ.region ?_
                refine OJ.pures tU_ok 1 rfl ?_
                refine OJ.nil (EJ.next ?_)
                refine CJ.seq ?_
                refine CJ.seq ?_
                refine CJ.region ?_
                refine OJ.pures tU_ok 1 rfl ?_
                refine OJ.nil (EJ.next ?_)
                obtain ⟨j408, H, K408⟩ := pbind H
                refine CJ.cut1 (fun F w1 => ∃ (y25 : Int) , (some y25 : Option Int) = some j408 ∧ F = [(1, .slice Aa1 a1.length ca1), (3, .int .u16 y9), (9, .slice A11 y10.length c12), (10, .int .i64 y13), (11, .int .i64 y18), (13, .int .i64 y25)] ∧ St w no w1 [] [roC (ci .i64) Aa0 ca0 a0, roC (ci .i64) Aa1 ca1 a1, roC (ci .i64) (cutA Aa0 ca0 a2.toNat (ci .i64).sz) (ca0 - a2.toNat) ((a0.drop a2.toNat).take (a0.length - a2.toNat)), roC (ci .i64) A4 c5 (([] : List Int) ++ ((a0.drop a2.toNat).take (a0.length - a2.toNat))), roC (ci .i64) A11 c12 y10]) ?_ ?_
                · skip
                  refine CJ.block ?_
                  refine CJ.loop (fun k F w1 => ∃ (y26 : Int) (y27 : Int), F = [(1, .slice Aa1 a1.length ca1), (3, .int .u16 y9), (9, .slice A11 y10.length c12), (10, .int .i64 y13), (11, .int .i64 y18), (13, .int .i64 y26), (14, .int .i64 y27)] ∧ St w no w1 [] [roC (ci .i64) Aa0 ca0 a0, roC (ci .i64) Aa1 ca1 a1, roC (ci .i64) (cutA Aa0 ca0 a2.toNat (ci .i64).sz) (ca0 - a2.toNat) ((a0.drop a2.toNat).take (a0.length - a2.toNat)), roC (ci .i64) A4 c5 (([] : List Int) ++ ((a0.drop a2.toNat).take (a0.length - a2.toNat))), roC (ci .i64) A11 c12 y10] ∧ spec_l06Enough.l3 y10 k y26 y27 = some j408) k (F' := [(1, .slice Aa1 a1.length ca1), (3, .int .u16 y9), (9, .slice A11 y10.length c12), (10, .int .i64 y13), (11, .int .i64 y18), (13, .int .i64 0), (14, .int .i64 1)]) ⟨rfl, rfl, rfl, rfl, rfl, rfl, rfl, trivial⟩ ⟨0, 1, rfl, hS.pick [] [0, 1, 2, 3, 4] rfl, H⟩ ?_
                  rintro k F w1 ⟨y26, y27, rfl, hS, H⟩
                  cases k with
                  | zero => rw [spec_l06Enough.l3] at H; cases H
                  | succ k =>
                    rw [spec_l06Enough.l3] at H
                    refine CJ.seq ?_
                    refine CJ.seq ?_
                    refine CJ.region ?_
                    refine OJ.pures tU_ok 4 rfl ?_
                    refine OJ.nil (EJ.next ?_)
                    refine CJ.cond rfl (fun hb => ?_) (fun hb => ?_)
                    · replace H := pif_t (of_decide_eq_true hb) H
                      refine CJ.skip (EJ.next ?_)
                      refine CJ.seq ?_
                      refine CJ.block ?_
                      refine CJ.seq ?_
                      refine CJ.draw [] [0, 1, 2, 3, 4, 5, 6, 7, 8] mixed (by kernel_rfl) hS fun w1 hS => ?_
                      refine DJ.pures tU_ok 2 rfl ?_
                      obtain ⟨t28, ht28, H⟩ := pbind H
                      obtain ⟨ad28, e28⟩ := (hS.rd' (i := 4) rfl).some' ht28
                      refine DJ.st rfl rfl rfl rfl rfl (SR.idxS tU_ok tI_ok rfl rfl rfl rfl e28 rfl (getI_some ht28).1) ?_
                      refine DJ.st rfl rfl rfl rfl rfl (SR.load rfl rfl (fun w' hx => ld1 tU_ok rfl rfl (CA.ext ((hS.rd' (i := 4) rfl).at_ e28 ht28) hx) rfl)) ?_
                      refine DJ.pures tU_ok 2 rfl ?_
                      obtain ⟨t29, ht29, H⟩ := pbind H
                      obtain ⟨ad29, e29⟩ := (hS.rd' (i := 4) rfl).some' ht29
                      refine DJ.st rfl rfl rfl rfl rfl (SR.idxS tU_ok tI_ok rfl rfl rfl rfl e29 rfl (getI_some ht29).1) ?_
                      refine DJ.st rfl rfl rfl rfl rfl (SR.load rfl rfl (fun w' hx => ld1 tU_ok rfl rfl (CA.ext ((hS.rd' (i := 4) rfl).at_ e29 ht29) hx) rfl)) ?_
                      refine DJ.pures tU_ok 1 rfl ?_
                      refine DJ.nil (EJ.next ?_)
                      refine CJ.cond rfl (fun hb => ?_) (fun hb => ?_)
                      · replace H := pif_t (of_decide_eq_true hb) H
                        refine CJ.region ?_
                        refine OJ.pures tU_ok 2 rfl ?_
                        refine OJ.nil (EJ.blk (EJ.next ?_))
                        refine CJ.region ?_
                        refine OJ.pures tU_ok 3 rfl ?_
                        refine OJ.nil ?_
                        exact EJ.round k (F' := [(1, .slice Aa1 a1.length ca1), (3, .int .u16 y9), (9, .slice A11 y10.length c12), (10, .int .i64 y13), (11, .int .i64 y18), (13, .int .i64 y27), (14, .int .i64 (IntKind.i64.wrap (y27 + 1)))]) ⟨rfl, rfl, rfl, rfl, rfl, rfl, rfl, trivial⟩ (Nat.lt_succ_self _) ⟨y27, (IntKind.i64.wrap (y27 + 1)), rfl, hS.pick [] [0, 1, 2, 3, 4] rfl, H⟩
                      · replace H := pif_f (of_decide_eq_false hb) H
                        refine CJ.skip (EJ.blk (EJ.next ?_))
                        refine CJ.region ?_
                        refine OJ.pures tU_ok 3 rfl ?_
                        refine OJ.nil ?_
                        exact EJ.round k (F' := [(1, .slice Aa1 a1.length ca1), (3, .int .u16 y9), (9, .slice A11 y10.length c12), (10, .int .i64 y13), (11, .int .i64 y18), (13, .int .i64 y26), (14, .int .i64 (IntKind.i64.wrap (y27 + 1)))]) ⟨rfl, rfl, rfl, rfl, rfl, rfl, rfl, trivial⟩ (Nat.lt_succ_self _) ⟨y26, (IntKind.i64.wrap (y27 + 1)), rfl, hS.pick [] [0, 1, 2, 3, 4] rfl, H⟩
                    · replace H := pif_f (of_decide_eq_false hb) H
                      refine CJ.exit (EJ.skE (EJ.skE (EJ.hit (?_))))
                      exact EJ.meet (F' := [(1, .slice Aa1 a1.length ca1), (3, .int .u16 y9), (9, .slice A11 y10.length c12), (10, .int .i64 y13), (11, .int .i64 y18), (13, .int .i64 y26)]) ⟨rfl, rfl, rfl, rfl, rfl, rfl, trivial⟩ ⟨y26, H, rfl, hS.pick [] [0, 1, 2, 3, 4] rfl⟩
                · rintro F w1 ⟨y25, he, rfl, hS⟩
                  obtain rfl := Option.some.inj he
                  have H := K408
                  refine EJ.next ?_
                  refine CJ.seq ?_
                  refine CJ.seq ?_
                  refine CJ.draw [] [0, 1, 2, 3, 4, 5, 6, 7, 8] mixed (by kernel_rfl) hS fun w1 hS => ?_
                  refine DJ.pures tU_ok 2 rfl ?_
                  obtain ⟨t30, ht30, H⟩ := pbind H
                  obtain ⟨ad30, e30⟩ := (hS.rd' (i := 4) rfl).some' ht30
                  refine DJ.st rfl rfl rfl rfl rfl (SR.idxS tU_ok tI_ok rfl rfl rfl rfl e30 rfl (getI_some ht30).1) ?_
                  refine DJ.st rfl rfl rfl rfl rfl (SR.load rfl rfl (fun w' hx => ld1 tU_ok rfl rfl (CA.ext ((hS.rd' (i := 4) rfl).at_ e30 ht30) hx) rfl)) ?_
                  refine DJ.pures tU_ok 2 rfl ?_
                  obtain ⟨t31, ht31, H⟩ := pbind H
                  obtain ⟨ad31, e31⟩ := (hS.rd' (i := 1) rfl).some' ht31
                  refine DJ.st rfl rfl rfl rfl rfl (SR.idxS tU_ok tI_ok rfl rfl rfl rfl e31 rfl (getI_some ht31).1) ?_
                  refine DJ.st rfl rfl rfl rfl rfl (SR.load rfl rfl (fun w' hx => ld1 tU_ok rfl rfl (CA.ext ((hS.rd' (i := 1) rfl).at_ e31 ht31) hx) rfl)) ?_
                  refine DJ.pures tU_ok 1 rfl ?_
                  refine DJ.nil (EJ.next ?_)
                  refine CJ.cond rfl (fun hb => ?_) (fun hb => ?_)
                  · replace H := pif_t (of_decide_eq_true hb) H
                    obtain ⟨u32, hu32, H⟩ := pbind H
                    obtain ⟨u33, hu33, H⟩ := pbind H
                    obtain ⟨u35, hu35, H⟩ := pbind H
                    obtain ⟨u38, hu38, H⟩ := pbind H
                    refine CJ.cut1 (fun F w1 => ∃ (A39 : Option Addr) (c40 : Nat), F = [(1, .slice Aa1 a1.length ca1), (3, .int .u16 y9), (9, .slice A39 ((([] : List Int) ++ ((y10.drop 0).take (y25.toNat - 0))) ++ ((y10.drop ((IntKind.i64.wrap (y25 + 1)).toNat)).take (y10.length - ((IntKind.i64.wrap (y25 + 1)).toNat)))).length c40), (10, .int .i64 y13), (11, .int .i64 y18)] ∧ St w no w1 [rowC (ci .i64) A39 c40 2 ((([] : List Int) ++ ((y10.drop 0).take (y25.toNat - 0))) ++ ((y10.drop ((IntKind.i64.wrap (y25 + 1)).toNat)).take (y10.length - ((IntKind.i64.wrap (y25 + 1)).toNat))))] [roC (ci .i64) Aa0 ca0 a0, roC (ci .i64) Aa1 ca1 a1, roC (ci .i64) (cutA Aa0 ca0 a2.toNat (ci .i64).sz) (ca0 - a2.toNat) ((a0.drop a2.toNat).take (a0.length - a2.toNat)), roC (ci .i64) A4 c5 (([] : List Int) ++ ((a0.drop a2.toNat).take (a0.length - a2.toNat))), roC (ci .i64) A11 c12 y10, roC (ci .i64) (cutA A11 c12 0 (ci .i64).sz) (c12 - 0) ((y10.drop 0).take (y25.toNat - 0)), roC (ci .i64) (cutA A11 c12 ((IntKind.i64.wrap (y25 + 1)).toNat) (ci .i64).sz) (c12 - ((IntKind.i64.wrap (y25 + 1)).toNat)) ((y10.drop ((IntKind.i64.wrap (y25 + 1)).toNat)).take (y10.length - ((IntKind.i64.wrap (y25 + 1)).toNat)))]) ?_ ?_
                    · skip
                      refine CJ.drawT [] [0, 4, 9] (.one 1 (.one 2 (.one 3 (.one 5 (.one 6 (.one 7 (.one 8 (.one 0 (.one 4 (.one 9 (.one 10 (.fin)))))))))))) mixed (by kernel_rfl) hS [] fun w1 hS hY hV => ?_
                      refine TJ.pures tU_ok 2 rfl ?_
                      refine TJ.st hY rfl rfl rfl rfl rfl (fun w2 hY => SR.cutS tU_ok tI_ok (0) (y25.toNat) rfl rfl rfl rfl rfl rfl (.inl ⟨rfl, rfl⟩) (.inr ⟨_, _, rfl, (by have := (chk_some hu32); omega), rfl⟩) (by have := (chk_some hu32); omega) (by have := (chk_some hu32); have := ((hV w2 hY).le' (i := 4) rfl : y10.length ≤ c12); omega)) ?_
                      replace hS := hS.cutR (i := 4) (lo := 0) (hi := y25.toNat) rfl (by have := (chk_some hu32); omega) (by have := (chk_some hu32); omega)
                      refine TJ.as (t := 89) rfl (show _ = (.slice (cutA A11 c12 0 (ci .i64).sz) ((y10.drop 0).take (y25.toNat - 0)).length (c12 - 0) : Value) by rw [cutLen (by have := (chk_some hu32); omega) (by have := (chk_some hu32); omega)]; rfl) ?_
                      refine TJ.pures tU_ok 3 rfl ?_
                      refine TJ.st hY rfl rfl rfl rfl rfl (fun w2 hY => SR.cutS tU_ok tI_ok ((IntKind.i64.wrap (y25 + 1)).toNat) (y10.length) rfl rfl rfl rfl rfl rfl (.inr ⟨_, _, rfl, (chk_some hu33).1, rfl⟩) (.inl ⟨rfl, rfl⟩) (by have := (chk_some hu33); omega) (by have := (chk_some hu33); have := ((hV w2 hY).le' (i := 4) rfl : y10.length ≤ c12); omega)) ?_
                      replace hS := hS.cutR (i := 4) (lo := (IntKind.i64.wrap (y25 + 1)).toNat) (hi := y10.length) rfl (by have := (chk_some hu33); omega) (by have := (chk_some hu33); omega)
                      refine TJ.as (t := 94) rfl (show _ = (.slice (cutA A11 c12 ((IntKind.i64.wrap (y25 + 1)).toNat) (ci .i64).sz) ((y10.drop ((IntKind.i64.wrap (y25 + 1)).toNat)).take (y10.length - ((IntKind.i64.wrap (y25 + 1)).toNat))).length (c12 - ((IntKind.i64.wrap (y25 + 1)).toNat)) : Value) by rw [cutLen (by have := (chk_some hu33); omega) (by have := (chk_some hu33); omega)]; rfl) ?_
                      refine TJ.ef hY rfl rfl rfl rfl rfl (Ef.lit tU_ok tI_ok hS (C := (ci .i64)) rfl rfl rfl rfl rfl rfl ([] : List Int) rfl rfl rfl rfl) ?_
                      rintro _ w1 hY ⟨A41, rfl, hS⟩
                      have hO := hS
                      refine TJ.ew rfl rfl rfl rfl rfl (Ew.append tU_ok tI_ok (C := (ci .i64)) (xs := ([] : List Int)) (ys := ((y10.drop 0).take (y25.toNat - 0))) (hS.inn []) (i := 0) rfl rfl rfl rfl rfl rfl rfl rfl rfl rfl rfl rfl rfl (hS.rd' (i := 5) rfl) (chk_some hu35)) (by rintro _ w1 ⟨A42, c43, rfl, hS⟩; exact hY.wr (hO.inY [] 5 rfl rfl) hS.chg) ?_
                      rintro _ w1 hY ⟨A42, c43, rfl, hS⟩
                      have hS : St w no w1 [rowC (ci .i64) A42 c43 2 (([] : List Int) ++ ((y10.drop 0).take (y25.toNat - 0)))] [roC (ci .i64) Aa0 ca0 a0, roC (ci .i64) Aa1 ca1 a1, roC (ci .i64) (cutA Aa0 ca0 a2.toNat (ci .i64).sz) (ca0 - a2.toNat) ((a0.drop a2.toNat).take (a0.length - a2.toNat)), roC (ci .i64) A4 c5 (([] : List Int) ++ ((a0.drop a2.toNat).take (a0.length - a2.toNat))), roC (ci .i64) A11 c12 y10, roC (ci .i64) (cutA A11 c12 0 (ci .i64).sz) (c12 - 0) ((y10.drop 0).take (y25.toNat - 0)), roC (ci .i64) (cutA A11 c12 ((IntKind.i64.wrap (y25 + 1)).toNat) (ci .i64).sz) (c12 - ((IntKind.i64.wrap (y25 + 1)).toNat)) ((y10.drop ((IntKind.i64.wrap (y25 + 1)).toNat)).take (y10.length - ((IntKind.i64.wrap (y25 + 1)).toNat)))] := hO.out [] hS
                      have hO := hS
                      refine TJ.ew rfl rfl rfl rfl rfl (Ew.append tU_ok tI_ok (C := (ci .i64)) (xs := (([] : List Int) ++ ((y10.drop 0).take (y25.toNat - 0)))) (ys := ((y10.drop ((IntKind.i64.wrap (y25 + 1)).toNat)).take (y10.length - ((IntKind.i64.wrap (y25 + 1)).toNat)))) (hS.inn []) (i := 0) rfl rfl rfl rfl rfl rfl rfl rfl rfl rfl rfl rfl rfl (hS.rd' (i := 6) rfl) (chk_some hu38)) (by rintro _ w1 ⟨A44, c45, rfl, hS⟩; exact hY.wr (hO.inY [] 5 rfl rfl) hS.chg) ?_
                      rintro _ w1 hY ⟨A44, c45, rfl, hS⟩
                      have hS : St w no w1 [rowC (ci .i64) A44 c45 2 ((([] : List Int) ++ ((y10.drop 0).take (y25.toNat - 0))) ++ ((y10.drop ((IntKind.i64.wrap (y25 + 1)).toNat)).take (y10.length - ((IntKind.i64.wrap (y25 + 1)).toNat))))] [roC (ci .i64) Aa0 ca0 a0, roC (ci .i64) Aa1 ca1 a1, roC (ci .i64) (cutA Aa0 ca0 a2.toNat (ci .i64).sz) (ca0 - a2.toNat) ((a0.drop a2.toNat).take (a0.length - a2.toNat)), roC (ci .i64) A4 c5 (([] : List Int) ++ ((a0.drop a2.toNat).take (a0.length - a2.toNat))), roC (ci .i64) A11 c12 y10, roC (ci .i64) (cutA A11 c12 0 (ci .i64).sz) (c12 - 0) ((y10.drop 0).take (y25.toNat - 0)), roC (ci .i64) (cutA A11 c12 ((IntKind.i64.wrap (y25 + 1)).toNat) (ci .i64).sz) (c12 - ((IntKind.i64.wrap (y25 + 1)).toNat)) ((y10.drop ((IntKind.i64.wrap (y25 + 1)).toNat)).take (y10.length - ((IntKind.i64.wrap (y25 + 1)).toNat)))] := hO.out [] hS
                      refine TJ.pures tU_ok 1 rfl ?_
                      refine TJ.nil ?_
                      exact EJ.meet (F' := [(1, .slice Aa1 a1.length ca1), (3, .int .u16 y9), (9, .slice A44 ((([] : List Int) ++ ((y10.drop 0).take (y25.toNat - 0))) ++ ((y10.drop ((IntKind.i64.wrap (y25 + 1)).toNat)).take (y10.length - ((IntKind.i64.wrap (y25 + 1)).toNat)))).length c45), (10, .int .i64 y13), (11, .int .i64 y18)]) ⟨rfl, rfl, rfl, rfl, rfl, trivial⟩ ⟨A44, c45, rfl, hS.pick [0] [0, 1, 2, 3, 4, 5, 6] rfl⟩
                    · rintro F w1 ⟨A39, c40, rfl, hS⟩
                      refine EJ.next ?_
                      refine CJ.region ?_
                      refine OJ.pures tU_ok 3 rfl ?_
                      obtain ⟨u46, hu46, H⟩ := pbind H
                      refine OJ.st rfl rfl rfl (SR.shl rfl rfl rfl (chk_some hu46)) ?_
                      refine OJ.pures tU_ok 2 rfl ?_
                      refine OJ.nil (EJ.blk (?_))
                      replace hS := hS.freezeG (i := 0) rfl
                      exact EJ.meet (F' := [(1, .slice Aa1 a1.length ca1), (3, .int .u16 (orI .u16 y9 (shlI .u16 1 (IntKind.u64.wrap y18)))), (9, .slice A39 ((([] : List Int) ++ ((y10.drop 0).take (y25.toNat - 0))) ++ ((y10.drop ((IntKind.i64.wrap (y25 + 1)).toNat)).take (y10.length - ((IntKind.i64.wrap (y25 + 1)).toNat)))).length c40), (10, .int .i64 y13)]) ⟨rfl, rfl, rfl, rfl, trivial⟩ ⟨((([] : List Int) ++ ((y10.drop 0).take (y25.toNat - 0))) ++ ((y10.drop ((IntKind.i64.wrap (y25 + 1)).toNat)).take (y10.length - ((IntKind.i64.wrap (y25 + 1)).toNat)))), (orI .u16 y9 (shlI .u16 1 (IntKind.u64.wrap y18))), A39, c40, H, rfl, hS.pick [] [0, 1, 2, 3, 4, 7] rfl⟩
                  · replace H := pif_f (of_decide_eq_false hb) H
                    refine CJ.skip (EJ.next ?_)
                    refine CJ.region ?_
                    refine OJ.pures tU_ok 3 rfl ?_
                    obtain ⟨u47, hu47, H⟩ := pbind H
                    refine OJ.st rfl rfl rfl (SR.shl rfl rfl rfl (chk_some hu47)) ?_
                    refine OJ.pures tU_ok 2 rfl ?_
                    refine OJ.nil (EJ.blk (?_))
                    exact EJ.meet (F' := [(1, .slice Aa1 a1.length ca1), (3, .int .u16 (orI .u16 y9 (shlI .u16 1 (IntKind.u64.wrap y18)))), (9, .slice A11 y10.length c12), (10, .int .i64 y13)]) ⟨rfl, rfl, rfl, rfl, trivial⟩ ⟨y10, (orI .u16 y9 (shlI .u16 1 (IntKind.u64.wrap y18))), A11, c12, H, rfl, hS.pick [] [0, 1, 2, 3, 4, 4] rfl⟩
        · rintro F w1 ⟨y14, y17, A15, c16, he, rfl, hS⟩
          obtain rfl := Option.some.inj he
          have H := K402
          refine CJ.region ?_
          refine OJ.pures tU_ok 3 rfl ?_
          refine OJ.nil ?_
          exact EJ.round k (F' := [(1, .slice Aa1 a1.length ca1), (3, .int .u16 y17), (9, .slice A15 y14.length c16), (10, .int .i64 (IntKind.i64.wrap (y13 + 1)))]) ⟨rfl, rfl, rfl, rfl, trivial⟩ (Nat.lt_succ_self _) ⟨y17, y14, (IntKind.i64.wrap (y13 + 1)), A15, c16, rfl, hS.pick [] [0, 1, 2, 3, 5] rfl, H⟩
      · replace H := pif_f (of_decide_eq_false hb) H
        refine CJ.exit (EJ.skE (EJ.skE (EJ.hit (?_))))
        exact EJ.meet (F' := [(9, .slice A11 y10.length c12)]) ⟨rfl, trivial⟩ ⟨y10, A11, c12, H, rfl, hS.pick [] [0, 1, 2, 3, 4] rfl⟩
  · rintro F w1 ⟨y6, A7, c8, he, rfl, hS⟩
    obtain rfl := Option.some.inj he
    have H := K383
    refine EJ.next ?_
    refine CJ.seq ?_
    refine CJ.region ?_
    refine OJ.pures tU_ok 4 rfl ?_
    refine OJ.nil (EJ.next ?_)
    refine CJ.ret (?_)
    obtain rfl := Option.some.inj H
    exact EJ.fin rfl (.tmp rfl .nil) ⟨rfl, hS.ext⟩

def spec_FitGroups.l1 (a2 : List Int) : Nat → Option Unit
  | 0 => none
  | k + 1 => (if 0 < (a2.length : Int) then (some ()) else (some ())).bind fun _ => some ()
def spec_FitGroups.l2 (a2 : List Int) : Nat → Int → Int → Option Int
  | 0, _, _ => none
  | k + 1, y6, y7 => (if y7 < (a2.length : Int) then (some (decide (y6 = 0))) else (some false)).bind fun y8 => if y8 = true then ((getI a2 y7).bind fun t9 => (spec_l00In.f t9 0 1000000).bind fun t10 => if (!t10) = true then (spec_FitGroups.l2 a2 k 2 (IntKind.i64.wrap (y7 + 1))) else (spec_FitGroups.l2 a2 k y6 (IntKind.i64.wrap (y7 + 1)))) else (some y6)
def spec_FitGroups.l4 (a2 : List Int) (t12 : List Int) (y21 : List Int) (y24 : Int) (y25 : Int) : Nat → Int → Option ((List Int) × Int)
  | 0, _ => none
  | k + 1, y34 => if y34 < (a2.length : Int) then ((chk (0 ≤ (IntKind.u64.wrap y34))).bind fun u35 => ((chk (0 ≤ (IntKind.u64.wrap y34))).bind fun u37 => if (Int.tmod (shrI .u16 y24 (IntKind.u64.wrap y34)) 2) = 0 then ((getI a2 y34).bind fun t38 => (getI t12 y25).bind fun t39 => if t39 ≤ t38 then ((spec_l06Enough.f k t12 a2 (IntKind.i64.wrap (y25 + 1)) (orI .u16 y24 (shlI .u16 1 (IntKind.u64.wrap y34)))).bind fun t40 => some t40) else (some false)) else (some false)).bind fun y36 => if y36 = true then ((chk (y21.length + ([y34] : List Int).length ≤ 4294967296)).bind fun u42 => some (y21 ++ ([y34] : List Int), orI .u16 y24 (shlI .u16 1 (IntKind.u64.wrap y34)))) else (spec_FitGroups.l4 a2 t12 y21 y24 y25 k (IntKind.i64.wrap (y34 + 1)))) else (some (y21, y24))
def spec_FitGroups.l3 (a2 : List Int) (t12 : List Int) : Nat → (List Int) → Int → Int → Option (List Int)
  | 0, _, _, _ => none
  | k + 1, y21, y24, y25 => if y25 < (t12.length : Int) then (((spec_FitGroups.l4 a2 t12 y21 y24 y25 k 0).bind fun (y30, y33) => some (y30, y33)).bind fun (y26, y29) => spec_FitGroups.l3 a2 t12 k y26 y29 (IntKind.i64.wrap (y25 + 1))) else (some y21)
def spec_FitGroups.f (k : Nat) (a0 : Herd) (a1 : List Int) (a2 : List Int) : Option (List Int × Int) := (spec_l06Told.f k a0 a1).bind fun t2 => (if t2 = 0 then (some (decide (14 < (a2.length : Int)))) else (some false)).bind fun y3 => if y3 = true then ((spec_FitGroups.l1 a2 k).bind fun _ => some (([] : List Int), 3)) else ((spec_FitGroups.l2 a2 k t2 0).bind fun y5 => if y5 ≠ 0 then (some (([] : List Int), y5)) else ((spec_l06Needs.f k a0 a1).bind fun t12 => (spec_l06Enough.f k t12 a2 0 0).bind fun t15 => if (!t15) = true then (some (([] : List Int), 6)) else ((spec_FitGroups.l3 a2 t12 k ([] : List Int) 0 0).bind fun y18 => some (y18, 0))))
theorem spec_FitGroups.c (k : Nat) (w : World) (Aa0_0 : Option Addr) (ca0_0 : Nat) (Aa0_1 : Option Addr) (ca0_1 : Nat) (Aa0_2 : Option Addr) (ca0_2 : Nat) (a0 : Herd) (hr0_0 : Rd G.cs w Aa0_0 a0.Names) (hc0_0 : a0.Names.length ≤ ca0_0) (hr0_1 : Rd (ci .i16) w Aa0_1 a0.Eats) (hc0_1 : a0.Eats.length ≤ ca0_1) (hr0_2 : Rd (ci .u16) w Aa0_2 a0.Foes) (hc0_2 : a0.Foes.length ≤ ca0_2) (Aa1 : Option Addr) (ca1 : Nat) (a1 : List Int) (hr1 : Rd (ci .i64) w Aa1 a1) (hc1 : a1.length ≤ ca1) (Aa2 : Option Addr) (ca2 : Nat) (a2 : List Int) (hr2 : Rd (ci .i64) w Aa2 a2) (hc2 : a2.length ≤ ca2) (r : List Int × Int) (H : spec_FitGroups.f k a0 a1 a2 = some r) :
    CV Tryz.prog 22 [.agg [.slice Aa0_0 a0.Names.length ca0_0, .slice Aa0_1 a0.Eats.length ca0_1, .slice Aa0_2 a0.Foes.length ca0_2].toArray, .slice Aa1 a1.length ca1, .slice Aa2 a2.length ca2].toArray w fun v w' => ∃ (A0 : Option Addr) (c0 : Nat), v = .tuple #[.slice A0 r.1.length c0, .int .i64 r.2] ∧ St w no w' [rowC (ci .i64) A0 c0 2 r.1] [] := by
  have hS := ((((((St.init w no).param G.cs Aa0_0 ca0_0 a0.Names hr0_0 hc0_0).param (ci .i16) Aa0_1 ca0_1 a0.Eats hr0_1 hc0_1).param (ci .u16) Aa0_2 ca0_2 a0.Foes hr0_2 hc0_2).param (ci .i64) Aa1 ca1 a1 hr1 hc1).param (ci .i64) Aa2 ca2 a2 hr2 hc2)
  unfold spec_FitGroups.f at H
  refine CV.body Tryz.func22 rfl Tryz.ntmps22 rfl ?_
  refine CJ.seq ?_
  refine CJ.region ?_
  refine OJ.ef rfl rfl rfl (Ef.box hS rfl rfl ([.slice Aa0_0 a0.Names.length ca0_0, .slice Aa0_1 a0.Eats.length ca0_1, .slice Aa0_2 a0.Foes.length ca0_2]) rfl) ?_
  rintro _ w1 ⟨b1, rfl, hS⟩
  refine OJ.pures tU_ok 2 rfl ?_
  refine OJ.nil (EJ.next ?_)
  refine CJ.seq ?_
  refine CJ.region ?_
  refine OJ.pures tU_ok 1 rfl ?_
  obtain ⟨t2, ht2, H⟩ := pbind H
  refine OJ.callF rfl rfl rfl rfl rfl hb52 rfl (spec_l06Told.c k _ Aa0_0 ca0_0 Aa0_1 ca0_1 Aa0_2 ca0_2 a0 (hS.rd' (i := 0) rfl) (hS.le' (i := 0) rfl) (hS.rd' (i := 1) rfl) (hS.le' (i := 1) rfl) (hS.rd' (i := 2) rfl) (hS.le' (i := 2) rfl) ⟨b1, 0, none⟩ (hS.cells (i := 0) rfl) Aa1 ca1 a1 (hS.rd' (i := 3) rfl) (hS.le' (i := 3) rfl) _ ht2) ?_
  rintro _ w1 ⟨rfl, hs⟩
  replace hS := hS.grow hs
  refine OJ.pures tU_ok 1 rfl ?_
  refine OJ.nil (EJ.next ?_)
  refine CJ.seq ?_
  obtain ⟨j373, H, K373⟩ := pbind H
  refine CJ.cut (fun F w1 => ∃ (y3 : Bool) , (some y3 : Option Bool) = some j373 ∧ F = [(1, .slice Aa1 a1.length ca1), (2, .slice Aa2 a2.length ca2), (3, .pointer (some ⟨b1, 0, none⟩)), (8, .int .i64 t2), (24, .bool y3)] ∧ St w no w1 [box b1 ([.slice Aa0_0 a0.Names.length ca0_0, .slice Aa0_1 a0.Eats.length ca0_1, .slice Aa0_2 a0.Foes.length ca0_2]) 28] [roC G.cs Aa0_0 ca0_0 a0.Names, roC (ci .i16) Aa0_1 ca0_1 a0.Eats, roC (ci .u16) Aa0_2 ca0_2 a0.Foes, roC (ci .i64) Aa1 ca1 a1, roC (ci .i64) Aa2 ca2 a2]) ?_ ?_
  · skip
    refine CJ.region ?_
    refine OJ.pures tU_ok 3 rfl ?_
    refine OJ.split (t := 20) rfl (fun hb => ?_) (fun hb => ?_)
    · replace H := pif_t (of_decide_eq_true hb) H
      refine OJ.pures tU_ok 4 rfl ?_
      refine OJ.nil ?_
      exact EJ.meet (F' := [(1, .slice Aa1 a1.length ca1), (2, .slice Aa2 a2.length ca2), (3, .pointer (some ⟨b1, 0, none⟩)), (8, .int .i64 t2), (24, .bool (decide (14 < (a2.length : Int))))]) ⟨rfl, rfl, rfl, rfl, rfl, trivial⟩ ⟨(decide (14 < (a2.length : Int))), H, rfl, hS.pick [0] [0, 1, 2, 3, 4] rfl⟩
    · replace H := pif_f (of_decide_eq_false hb) H
      refine OJ.pures tU_ok 4 rfl ?_
      refine OJ.nil ?_
      exact EJ.meet (F' := [(1, .slice Aa1 a1.length ca1), (2, .slice Aa2 a2.length ca2), (3, .pointer (some ⟨b1, 0, none⟩)), (8, .int .i64 t2), (24, .bool false)]) ⟨rfl, rfl, rfl, rfl, rfl, trivial⟩ ⟨false, H, rfl, hS.pick [0] [0, 1, 2, 3, 4] rfl⟩
  · rintro F w1 ⟨y3, he, rfl, hS⟩
    obtain rfl := Option.some.inj he
    have H := K373
    refine CJ.cond rfl (fun hb => ?_) (fun hb => ?_)
    · replace H := pif_t hb H
      refine CJ.region ?_
      refine OJ.pures tU_ok 1 rfl ?_
      refine OJ.nil (EJ.next ?_)
      refine CJ.seq ?_
      refine CJ.seq ?_
      refine CJ.region ?_
      refine OJ.pures tU_ok 1 rfl ?_
      refine OJ.nil (EJ.next ?_)
      obtain ⟨j374, H, K374⟩ := pbind H
      refine CJ.cut1 (fun F w1 => (some () : Option Unit) = some j374 ∧ F = [(1, .slice Aa1 a1.length ca1), (2, .slice Aa2 a2.length ca2), (3, .pointer (some ⟨b1, 0, none⟩)), (8, .int .i64 3)] ∧ St w no w1 [box b1 ([.slice Aa0_0 a0.Names.length ca0_0, .slice Aa0_1 a0.Eats.length ca0_1, .slice Aa0_2 a0.Foes.length ca0_2]) 28] [roC G.cs Aa0_0 ca0_0 a0.Names, roC (ci .i16) Aa0_1 ca0_1 a0.Eats, roC (ci .u16) Aa0_2 ca0_2 a0.Foes, roC (ci .i64) Aa1 ca1 a1, roC (ci .i64) Aa2 ca2 a2]) ?_ ?_
      · skip
        refine CJ.block ?_
        refine CJ.loop (fun k F w1 => F = [(1, .slice Aa1 a1.length ca1), (2, .slice Aa2 a2.length ca2), (3, .pointer (some ⟨b1, 0, none⟩)), (8, .int .i64 3), (9, .int .i64 0)] ∧ St w no w1 [box b1 ([.slice Aa0_0 a0.Names.length ca0_0, .slice Aa0_1 a0.Eats.length ca0_1, .slice Aa0_2 a0.Foes.length ca0_2]) 28] [roC G.cs Aa0_0 ca0_0 a0.Names, roC (ci .i16) Aa0_1 ca0_1 a0.Eats, roC (ci .u16) Aa0_2 ca0_2 a0.Foes, roC (ci .i64) Aa1 ca1 a1, roC (ci .i64) Aa2 ca2 a2] ∧ spec_FitGroups.l1 a2 k = some j374) k (F' := [(1, .slice Aa1 a1.length ca1), (2, .slice Aa2 a2.length ca2), (3, .pointer (some ⟨b1, 0, none⟩)), (8, .int .i64 3), (9, .int .i64 0)]) ⟨rfl, rfl, rfl, rfl, rfl, trivial⟩ ⟨rfl, hS.pick [0] [0, 1, 2, 3, 4] rfl, H⟩ ?_
        rintro k F w1 ⟨rfl, hS, H⟩
        cases k with
        | zero => rw [spec_FitGroups.l1] at H; cases H
        | succ k =>
          rw [spec_FitGroups.l1] at H
          refine CJ.seq ?_
          obtain ⟨j376, H, K376⟩ := pbind H
          refine CJ.cut (fun F w1 => (some () : Option Unit) = some j376 ∧ F = [(1, .slice Aa1 a1.length ca1), (2, .slice Aa2 a2.length ca2), (3, .pointer (some ⟨b1, 0, none⟩)), (8, .int .i64 3), (9, .int .i64 0), (32, .bool false)] ∧ St w no w1 [box b1 ([.slice Aa0_0 a0.Names.length ca0_0, .slice Aa0_1 a0.Eats.length ca0_1, .slice Aa0_2 a0.Foes.length ca0_2]) 28] [roC G.cs Aa0_0 ca0_0 a0.Names, roC (ci .i16) Aa0_1 ca0_1 a0.Eats, roC (ci .u16) Aa0_2 ca0_2 a0.Foes, roC (ci .i64) Aa1 ca1 a1, roC (ci .i64) Aa2 ca2 a2]) ?_ ?_
          · skip
            refine CJ.region ?_
            refine OJ.pures tU_ok 5 rfl ?_
            refine OJ.split (t := 29) rfl (fun hb => ?_) (fun hb => ?_)
            · replace H := pif_t (of_decide_eq_true hb) H
              refine OJ.pures tU_ok 3 rfl ?_
              refine OJ.nil ?_
              exact EJ.meet (F' := [(1, .slice Aa1 a1.length ca1), (2, .slice Aa2 a2.length ca2), (3, .pointer (some ⟨b1, 0, none⟩)), (8, .int .i64 3), (9, .int .i64 0), (32, .bool false)]) ⟨rfl, rfl, rfl, rfl, rfl, rfl, trivial⟩ ⟨H, rfl, hS.pick [0] [0, 1, 2, 3, 4] rfl⟩
            · replace H := pif_f (of_decide_eq_false hb) H
              refine OJ.pures tU_ok 3 rfl ?_
              refine OJ.nil ?_
              exact EJ.meet (F' := [(1, .slice Aa1 a1.length ca1), (2, .slice Aa2 a2.length ca2), (3, .pointer (some ⟨b1, 0, none⟩)), (8, .int .i64 3), (9, .int .i64 0), (32, .bool false)]) ⟨rfl, rfl, rfl, rfl, rfl, rfl, trivial⟩ ⟨H, rfl, hS.pick [0] [0, 1, 2, 3, 4] rfl⟩
          · rintro F w1 ⟨he, rfl, hS⟩
            obtain rfl := Option.some.inj he
            have H := K376
            refine CJ.condF rfl ?_
            refine CJ.exit (EJ.skE (EJ.skE (EJ.hit (?_))))
            exact EJ.meet (F' := [(1, .slice Aa1 a1.length ca1), (2, .slice Aa2 a2.length ca2), (3, .pointer (some ⟨b1, 0, none⟩)), (8, .int .i64 3)]) ⟨rfl, rfl, rfl, rfl, trivial⟩ ⟨H, rfl, hS.pick [0] [0, 1, 2, 3, 4] rfl⟩
      · rintro F w1 ⟨he, rfl, hS⟩
        obtain rfl := Option.some.inj he
        have H := K374
        refine EJ.next ?_
        refine CJ.seq ?_
        refine CJ.seq ?_
        refine CJ.region ?_
        refine OJ.pures tU_ok 2 rfl ?_
        refine OJ.nil (EJ.next ?_)
        refine CJ.condT rfl ?_
        refine CJ.seq ?_
        refine CJ.region ?_
        refine OJ.ef rfl rfl rfl (Ef.lit tU_ok tI_ok hS (C := (ci .i64)) rfl rfl rfl rfl rfl rfl ([] : List Int) rfl rfl rfl rfl) ?_
        rintro _ w1 ⟨A4, rfl, hS⟩
        refine OJ.pures tU_ok 3 rfl ?_
        refine OJ.nil (EJ.next ?_)
        refine CJ.ret (EJ.skR (?_))
        obtain rfl := Option.some.inj H
        exact EJ.fin rfl (.tmp rfl (.tmp rfl .nil)) ⟨A4, (([] : List Int).length), rfl, hS.pick [1] [] rfl⟩
    · replace H := pifb_f hb H
      refine CJ.skip (EJ.next ?_)
      refine CJ.seq ?_
      refine CJ.seq ?_
      refine CJ.region ?_
      refine OJ.pures tU_ok 1 rfl ?_
      refine OJ.nil (EJ.next ?_)
      obtain ⟨j377, H, K377⟩ := pbind H
      refine CJ.cut1 (fun F w1 => ∃ (y5 : Int) , (some y5 : Option Int) = some j377 ∧ F = [(1, .slice Aa1 a1.length ca1), (2, .slice Aa2 a2.length ca2), (3, .pointer (some ⟨b1, 0, none⟩)), (8, .int .i64 y5)] ∧ St w no w1 [box b1 ([.slice Aa0_0 a0.Names.length ca0_0, .slice Aa0_1 a0.Eats.length ca0_1, .slice Aa0_2 a0.Foes.length ca0_2]) 28] [roC G.cs Aa0_0 ca0_0 a0.Names, roC (ci .i16) Aa0_1 ca0_1 a0.Eats, roC (ci .u16) Aa0_2 ca0_2 a0.Foes, roC (ci .i64) Aa1 ca1 a1, roC (ci .i64) Aa2 ca2 a2]) ?_ ?_
      · skip
        refine CJ.block ?_
        refine CJ.loop (fun k F w1 => ∃ (y6 : Int) (y7 : Int), F = [(1, .slice Aa1 a1.length ca1), (2, .slice Aa2 a2.length ca2), (3, .pointer (some ⟨b1, 0, none⟩)), (8, .int .i64 y6), (9, .int .i64 y7)] ∧ St w no w1 [box b1 ([.slice Aa0_0 a0.Names.length ca0_0, .slice Aa0_1 a0.Eats.length ca0_1, .slice Aa0_2 a0.Foes.length ca0_2]) 28] [roC G.cs Aa0_0 ca0_0 a0.Names, roC (ci .i16) Aa0_1 ca0_1 a0.Eats, roC (ci .u16) Aa0_2 ca0_2 a0.Foes, roC (ci .i64) Aa1 ca1 a1, roC (ci .i64) Aa2 ca2 a2] ∧ spec_FitGroups.l2 a2 k y6 y7 = some j377) k (F' := [(1, .slice Aa1 a1.length ca1), (2, .slice Aa2 a2.length ca2), (3, .pointer (some ⟨b1, 0, none⟩)), (8, .int .i64 t2), (9, .int .i64 0)]) ⟨rfl, rfl, rfl, rfl, rfl, trivial⟩ ⟨t2, 0, rfl, hS.pick [0] [0, 1, 2, 3, 4] rfl, H⟩ ?_
        rintro k F w1 ⟨y6, y7, rfl, hS, H⟩
        cases k with
        | zero => rw [spec_FitGroups.l2] at H; cases H
        | succ k =>
          rw [spec_FitGroups.l2] at H
          refine CJ.seq ?_
          obtain ⟨j380, H, K380⟩ := pbind H
          refine CJ.cut (fun F w1 => ∃ (y8 : Bool) , (some y8 : Option Bool) = some j380 ∧ F = [(1, .slice Aa1 a1.length ca1), (2, .slice Aa2 a2.length ca2), (3, .pointer (some ⟨b1, 0, none⟩)), (8, .int .i64 y6), (9, .int .i64 y7), (32, .bool y8)] ∧ St w no w1 [box b1 ([.slice Aa0_0 a0.Names.length ca0_0, .slice Aa0_1 a0.Eats.length ca0_1, .slice Aa0_2 a0.Foes.length ca0_2]) 28] [roC G.cs Aa0_0 ca0_0 a0.Names, roC (ci .i16) Aa0_1 ca0_1 a0.Eats, roC (ci .u16) Aa0_2 ca0_2 a0.Foes, roC (ci .i64) Aa1 ca1 a1, roC (ci .i64) Aa2 ca2 a2]) ?_ ?_
          · skip
            refine CJ.region ?_
            refine OJ.pures tU_ok 5 rfl ?_
            refine OJ.split (t := 29) rfl (fun hb => ?_) (fun hb => ?_)
            · replace H := pif_t (of_decide_eq_true hb) H
              refine OJ.pures tU_ok 3 rfl ?_
              refine OJ.nil ?_
              exact EJ.meet (F' := [(1, .slice Aa1 a1.length ca1), (2, .slice Aa2 a2.length ca2), (3, .pointer (some ⟨b1, 0, none⟩)), (8, .int .i64 y6), (9, .int .i64 y7), (32, .bool (decide (y6 = 0)))]) ⟨rfl, rfl, rfl, rfl, rfl, rfl, trivial⟩ ⟨(decide (y6 = 0)), H, rfl, hS.pick [0] [0, 1, 2, 3, 4] rfl⟩
            · replace H := pif_f (of_decide_eq_false hb) H
              refine OJ.pures tU_ok 3 rfl ?_
              refine OJ.nil ?_
              exact EJ.meet (F' := [(1, .slice Aa1 a1.length ca1), (2, .slice Aa2 a2.length ca2), (3, .pointer (some ⟨b1, 0, none⟩)), (8, .int .i64 y6), (9, .int .i64 y7), (32, .bool false)]) ⟨rfl, rfl, rfl, rfl, rfl, rfl, trivial⟩ ⟨false, H, rfl, hS.pick [0] [0, 1, 2, 3, 4] rfl⟩
          · rintro F w1 ⟨y8, he, rfl, hS⟩
            obtain rfl := Option.some.inj he
            have H := K380
            refine CJ.cond rfl (fun hb => ?_) (fun hb => ?_)
            · replace H := pif_t hb H
              refine CJ.skip (EJ.next ?_)
              refine CJ.seq ?_
              refine CJ.block ?_
              refine CJ.seq ?_
              refine CJ.region ?_
              refine OJ.pures tU_ok 2 rfl ?_
              obtain ⟨t9, ht9, H⟩ := pbind H
              obtain ⟨ad9, e9⟩ := (hS.rd' (i := 4) rfl).some' ht9
              refine OJ.st rfl rfl rfl (SR.idxS tU_ok tI_ok rfl rfl rfl rfl e9 rfl (getI_some ht9).1) ?_
              refine OJ.st rfl rfl rfl (SR.load rfl rfl (fun w' hx => ld1 tU_ok rfl rfl (CA.ext ((hS.rd' (i := 4) rfl).at_ e9 ht9) hx) rfl)) ?_
              obtain ⟨t10, ht10, H⟩ := pbind H
              refine OJ.callF rfl rfl rfl rfl rfl hb39 rfl (spec_l00In.c _ t9 0 1000000 _ ht10) ?_
              rintro _ w1 ⟨rfl, hs⟩
              replace hS := hS.grow hs
              refine OJ.pures tU_ok 1 rfl ?_
              refine OJ.nil (EJ.next ?_)
              refine CJ.cond rfl (fun hb => ?_) (fun hb => ?_)
              · replace H := pif_t hb H
                refine CJ.region ?_
                refine OJ.pures tU_ok 1 rfl ?_
                refine OJ.nil (EJ.blk (EJ.next ?_))
                refine CJ.region ?_
                refine OJ.pures tU_ok 3 rfl ?_
                refine OJ.nil ?_
                exact EJ.round k (F' := [(1, .slice Aa1 a1.length ca1), (2, .slice Aa2 a2.length ca2), (3, .pointer (some ⟨b1, 0, none⟩)), (8, .int .i64 2), (9, .int .i64 (IntKind.i64.wrap (y7 + 1)))]) ⟨rfl, rfl, rfl, rfl, rfl, trivial⟩ (Nat.lt_succ_self _) ⟨2, (IntKind.i64.wrap (y7 + 1)), rfl, hS.pick [0] [0, 1, 2, 3, 4] rfl, H⟩
              · replace H := pifb_f hb H
                refine CJ.skip (EJ.blk (EJ.next ?_))
                refine CJ.region ?_
                refine OJ.pures tU_ok 3 rfl ?_
                refine OJ.nil ?_
                exact EJ.round k (F' := [(1, .slice Aa1 a1.length ca1), (2, .slice Aa2 a2.length ca2), (3, .pointer (some ⟨b1, 0, none⟩)), (8, .int .i64 y6), (9, .int .i64 (IntKind.i64.wrap (y7 + 1)))]) ⟨rfl, rfl, rfl, rfl, rfl, trivial⟩ (Nat.lt_succ_self _) ⟨y6, (IntKind.i64.wrap (y7 + 1)), rfl, hS.pick [0] [0, 1, 2, 3, 4] rfl, H⟩
            · replace H := pifb_f hb H
              refine CJ.exit (EJ.skE (EJ.skE (EJ.hit (?_))))
              exact EJ.meet (F' := [(1, .slice Aa1 a1.length ca1), (2, .slice Aa2 a2.length ca2), (3, .pointer (some ⟨b1, 0, none⟩)), (8, .int .i64 y6)]) ⟨rfl, rfl, rfl, rfl, trivial⟩ ⟨y6, H, rfl, hS.pick [0] [0, 1, 2, 3, 4] rfl⟩
      · rintro F w1 ⟨y5, he, rfl, hS⟩
        obtain rfl := Option.some.inj he
        have H := K377
        refine EJ.next ?_
        refine CJ.seq ?_
        refine CJ.seq ?_
        refine CJ.region ?_
        refine OJ.pures tU_ok 2 rfl ?_
        refine OJ.nil (EJ.next ?_)
        refine CJ.cond rfl (fun hb => ?_) (fun hb => ?_)
        · replace H := pif_t (of_decide_eq_true hb) H
          refine CJ.seq ?_
          refine CJ.region ?_
          refine OJ.ef rfl rfl rfl (Ef.lit tU_ok tI_ok hS (C := (ci .i64)) rfl rfl rfl rfl rfl rfl ([] : List Int) rfl rfl rfl rfl) ?_
          rintro _ w1 ⟨A11, rfl, hS⟩
          refine OJ.pures tU_ok 3 rfl ?_
          refine OJ.nil (EJ.next ?_)
          refine CJ.ret (EJ.skR (?_))
          obtain rfl := Option.some.inj H
          exact EJ.fin rfl (.tmp rfl (.tmp rfl .nil)) ⟨A11, (([] : List Int).length), rfl, hS.pick [1] [] rfl⟩
        · replace H := pif_f (of_decide_eq_false hb) H
          refine CJ.skip (EJ.next ?_)
          refine CJ.seq ?_
          refine CJ.region ?_
          refine OJ.pures tU_ok 1 rfl ?_
          obtain ⟨t12, ht12, H⟩ := pbind H
          refine OJ.callF rfl rfl rfl rfl rfl hb53 rfl (spec_l06Needs.c k _ Aa0_0 ca0_0 Aa0_1 ca0_1 Aa0_2 ca0_2 a0 (hS.rd' (i := 0) rfl) (hS.le' (i := 0) rfl) (hS.rd' (i := 1) rfl) (hS.le' (i := 1) rfl) (hS.rd' (i := 2) rfl) (hS.le' (i := 2) rfl) ⟨b1, 0, none⟩ (hS.cells (i := 0) rfl) Aa1 ca1 a1 (hS.rd' (i := 3) rfl) (hS.le' (i := 3) rfl) _ ht12) ?_
          rintro _ w1 ⟨A13, c14, rfl, hs⟩
          replace hS := hS.addN hs
          refine OJ.pures tU_ok 1 rfl ?_
          refine OJ.nil (EJ.next ?_)
          refine CJ.seq ?_
          refine CJ.seq ?_
          refine CJ.region ?_
          refine OJ.pures tU_ok 2 rfl ?_
          obtain ⟨t15, ht15, H⟩ := pbind H
          refine OJ.callF rfl rfl rfl rfl rfl hb54 rfl (spec_l06Enough.c k _ A13 c14 t12 (hS.rd (i := 1) rfl) (hS.le (i := 1) rfl) Aa2 ca2 a2 (hS.rd' (i := 4) rfl) (hS.le' (i := 4) rfl) 0 0 _ ht15) ?_
          rintro _ w1 ⟨rfl, hs⟩
          replace hS := hS.grow hs
          refine OJ.pures tU_ok 1 rfl ?_
          refine OJ.nil (EJ.next ?_)
          refine CJ.cond rfl (fun hb => ?_) (fun hb => ?_)
          · replace H := pif_t hb H
            refine CJ.seq ?_
            refine CJ.region ?_
            refine OJ.ef rfl rfl rfl (Ef.lit tU_ok tI_ok hS (C := (ci .i64)) rfl rfl rfl rfl rfl rfl ([] : List Int) rfl rfl rfl rfl) ?_
            rintro _ w1 ⟨A16, rfl, hS⟩
            refine OJ.pures tU_ok 2 rfl ?_
            refine OJ.nil (EJ.next ?_)
            refine CJ.ret (EJ.skR (?_))
            obtain rfl := Option.some.inj H
            exact EJ.fin rfl (.tmp rfl (.tmp rfl .nil)) ⟨A16, (([] : List Int).length), rfl, hS.pick [2] [] rfl⟩
          · replace H := pifb_f hb H
            refine CJ.skip (EJ.next ?_)
            refine CJ.seq ?_
            refine CJ.region ?_
            refine OJ.ef rfl rfl rfl (Ef.lit tU_ok tI_ok hS (C := (ci .i64)) rfl rfl rfl rfl rfl rfl ([] : List Int) rfl rfl rfl rfl) ?_
            rintro _ w1 ⟨A17, rfl, hS⟩
            refine OJ.pures tU_ok 1 rfl ?_
            refine OJ.nil (EJ.next ?_)
            refine CJ.seq ?_
            refine CJ.region ?_
            refine OJ.pures tU_ok 1 rfl ?_
            refine OJ.nil (EJ.next ?_)
            refine CJ.seq ?_
            refine CJ.seq ?_
            refine CJ.region ?_
            refine OJ.pures tU_ok 1 rfl ?_
            refine OJ.nil (EJ.next ?_)
            obtain ⟨j409, H, K409⟩ := pbind H
            refine CJ.cut1 (fun F w1 => ∃ (y18 : List Int) (A19 : Option Addr) (c20 : Nat), (some y18 : Option (List Int)) = some j409 ∧ F = [(11, .slice A19 y18.length c20)] ∧ St w no w1 [rowC (ci .i64) A19 c20 2 y18] [roC G.cs Aa0_0 ca0_0 a0.Names, roC (ci .i16) Aa0_1 ca0_1 a0.Eats, roC (ci .u16) Aa0_2 ca0_2 a0.Foes, roC (ci .i64) Aa1 ca1 a1, roC (ci .i64) Aa2 ca2 a2]) ?_ ?_
            · skip
              refine CJ.block ?_
              refine CJ.loop (fun k F w1 => ∃ (y21 : List Int) (y24 : Int) (y25 : Int) (A22 : Option Addr) (c23 : Nat), F = [(2, .slice Aa2 a2.length ca2), (10, .slice A13 t12.length c14), (11, .slice A22 y21.length c23), (12, .int .u16 y24), (13, .int .i64 y25)] ∧ St w no w1 [rowC (ci .i64) A13 c14 2 t12, rowC (ci .i64) A22 c23 2 y21] [roC G.cs Aa0_0 ca0_0 a0.Names, roC (ci .i16) Aa0_1 ca0_1 a0.Eats, roC (ci .u16) Aa0_2 ca0_2 a0.Foes, roC (ci .i64) Aa1 ca1 a1, roC (ci .i64) Aa2 ca2 a2] ∧ spec_FitGroups.l3 a2 t12 k y21 y24 y25 = some j409) k (F' := [(2, .slice Aa2 a2.length ca2), (10, .slice A13 t12.length c14), (11, .slice A17 ([] : List Int).length (([] : List Int).length)), (12, .int .u16 0), (13, .int .i64 0)]) ⟨rfl, rfl, rfl, rfl, rfl, trivial⟩ ⟨([] : List Int), 0, 0, A17, (([] : List Int).length), rfl, hS.pick [1, 2] [0, 1, 2, 3, 4] rfl, H⟩ ?_
              rintro k F w1 ⟨y21, y24, y25, A22, c23, rfl, hS, H⟩
              cases k with
              | zero => rw [spec_FitGroups.l3] at H; cases H
              | succ k =>
                rw [spec_FitGroups.l3] at H
                refine CJ.seq ?_
                refine CJ.seq ?_
                refine CJ.region ?_
                refine OJ.pures tU_ok 4 rfl ?_
                refine OJ.nil (EJ.next ?_)
                refine CJ.cond rfl (fun hb => ?_) (fun hb => ?_)
                · replace H := pif_t (of_decide_eq_true hb) H
                  refine CJ.skip (EJ.next ?_)
                  obtain ⟨j428, H, K428⟩ := pbind H
                  refine CJ.cut (fun F w1 => ∃ (y26 : List Int) (y29 : Int) (A27 : Option Addr) (c28 : Nat), (some (y26, y29) : Option ((List Int) × Int)) = some j428 ∧ F = [(2, .slice Aa2 a2.length ca2), (10, .slice A13 t12.length c14), (11, .slice A27 y26.length c28), (12, .int .u16 y29), (13, .int .i64 y25)] ∧ St w no w1 [rowC (ci .i64) A13 c14 2 t12, rowC (ci .i64) A27 c28 2 y26] [roC G.cs Aa0_0 ca0_0 a0.Names, roC (ci .i16) Aa0_1 ca0_1 a0.Eats, roC (ci .u16) Aa0_2 ca0_2 a0.Foes, roC (ci .i64) Aa1 ca1 a1, roC (ci .i64) Aa2 ca2 a2]) ?_ ?_
                  · skip
                    refine CJ.block ?_
                    refine CJ.seq ?_
                    refine CJ.region ?_
                    refine OJ.pures tU_ok 1 rfl ?_
                    refine OJ.nil (EJ.next ?_)
                    obtain ⟨j433, H, K433⟩ := pbind H
                    refine CJ.cut1 (fun F w1 => ∃ (y30 : List Int) (y33 : Int) (A31 : Option Addr) (c32 : Nat), (some (y30, y33) : Option ((List Int) × Int)) = some j433 ∧ F = [(2, .slice Aa2 a2.length ca2), (10, .slice A13 t12.length c14), (11, .slice A31 y30.length c32), (12, .int .u16 y33), (13, .int .i64 y25)] ∧ St w no w1 [rowC (ci .i64) A13 c14 2 t12, rowC (ci .i64) A31 c32 2 y30] [roC G.cs Aa0_0 ca0_0 a0.Names, roC (ci .i16) Aa0_1 ca0_1 a0.Eats, roC (ci .u16) Aa0_2 ca0_2 a0.Foes, roC (ci .i64) Aa1 ca1 a1, roC (ci .i64) Aa2 ca2 a2]) ?_ ?_
                    · skip
                      refine CJ.block ?_
                      refine CJ.loop (fun k F w1 => ∃ (y34 : Int), F = [(2, .slice Aa2 a2.length ca2), (10, .slice A13 t12.length c14), (11, .slice A22 y21.length c23), (12, .int .u16 y24), (13, .int .i64 y25), (14, .int .i64 y34)] ∧ St w no w1 [rowC (ci .i64) A13 c14 2 t12, rowC (ci .i64) A22 c23 2 y21] [roC G.cs Aa0_0 ca0_0 a0.Names, roC (ci .i16) Aa0_1 ca0_1 a0.Eats, roC (ci .u16) Aa0_2 ca0_2 a0.Foes, roC (ci .i64) Aa1 ca1 a1, roC (ci .i64) Aa2 ca2 a2] ∧ spec_FitGroups.l4 a2 t12 y21 y24 y25 k y34 = some j433) k (F' := [(2, .slice Aa2 a2.length ca2), (10, .slice A13 t12.length c14), (11, .slice A22 y21.length c23), (12, .int .u16 y24), (13, .int .i64 y25), (14, .int .i64 0)]) ⟨rfl, rfl, rfl, rfl, rfl, rfl, trivial⟩ ⟨0, rfl, hS.pick [0, 1] [0, 1, 2, 3, 4] rfl, H⟩ ?_
                      rintro k F w1 ⟨y34, rfl, hS, H⟩
                      cases k with
                      | zero => rw [spec_FitGroups.l4] at H; cases H
                      | succ k =>
                        rw [spec_FitGroups.l4] at H
                        refine CJ.seq ?_
                        refine CJ.seq ?_
                        refine CJ.region ?_
                        refine OJ.pures tU_ok 4 rfl ?_
                        refine OJ.nil (EJ.next ?_)
                        refine CJ.cond rfl (fun hb => ?_) (fun hb => ?_)
                        · replace H := pif_t (of_decide_eq_true hb) H
                          refine CJ.skip (EJ.next ?_)
                          refine CJ.seq ?_
                          refine CJ.block ?_
                          refine CJ.seq ?_
                          refine CJ.region ?_
                          refine OJ.pures tU_ok 3 rfl ?_
                          obtain ⟨u35, hu35, H⟩ := pbind H
                          refine OJ.st rfl rfl rfl (SR.shl rfl rfl rfl (chk_some hu35)) ?_
                          refine OJ.pures tU_ok 2 rfl ?_
                          refine OJ.nil (EJ.next ?_)
                          obtain ⟨j436, H, K436⟩ := pbind H
                          refine CJ.cut (fun F w1 => ∃ (y36 : Bool) , (some y36 : Option Bool) = some j436 ∧ F = [(2, .slice Aa2 a2.length ca2), (10, .slice A13 t12.length c14), (11, .slice A22 y21.length c23), (12, .int .u16 y24), (13, .int .i64 y25), (14, .int .i64 y34), (15, .int .u16 (orI .u16 y24 (shlI .u16 1 (IntKind.u64.wrap y34)))), (94, .bool y36)] ∧ St w no w1 [rowC (ci .i64) A13 c14 2 t12, rowC (ci .i64) A22 c23 2 y21] [roC G.cs Aa0_0 ca0_0 a0.Names, roC (ci .i16) Aa0_1 ca0_1 a0.Eats, roC (ci .u16) Aa0_2 ca0_2 a0.Foes, roC (ci .i64) Aa1 ca1 a1, roC (ci .i64) Aa2 ca2 a2]) ?_ ?_
                          · skip
                            refine CJ.draw [] [0, 1, 2, 3, 4, 5, 6, 7, 8, 9, 10, 11, 12, 13, 14, 15, 16, 17, 18, 19, 20, 21, 22, 23, 24] mixed (by kernel_rfl) hS fun w1 hS => ?_
                            refine DJ.pures tU_ok 3 rfl ?_
                            obtain ⟨u37, hu37, H⟩ := pbind H
                            refine DJ.st rfl rfl rfl rfl rfl (SR.shr rfl rfl rfl (chk_some hu37)) ?_
                            refine DJ.st rfl rfl rfl rfl rfl (SR.rem rfl rfl rfl (by decide)) ?_
                            refine DJ.pures tU_ok 2 rfl ?_
                            refine DJ.split (t := 76) rfl (fun hb => ?_) (fun hb => ?_)
                            · replace H := pif_t (of_decide_eq_true hb) H
                              refine DJ.pures tU_ok 2 rfl ?_
                              obtain ⟨t38, ht38, H⟩ := pbind H
                              obtain ⟨ad38, e38⟩ := (hS.rd' (i := 4) rfl).some' ht38
                              refine DJ.st rfl rfl rfl rfl rfl (SR.idxS tU_ok tI_ok rfl rfl rfl rfl e38 rfl (getI_some ht38).1) ?_
                              refine DJ.st rfl rfl rfl rfl rfl (SR.load rfl rfl (fun w' hx => ld1 tU_ok rfl rfl (CA.ext ((hS.rd' (i := 4) rfl).at_ e38 ht38) hx) rfl)) ?_
                              refine DJ.pures tU_ok 2 rfl ?_
                              obtain ⟨t39, ht39, H⟩ := pbind H
                              obtain ⟨ad39, e39⟩ := (hS.rd (i := 0) rfl).some' ht39
                              refine DJ.st rfl rfl rfl rfl rfl (SR.idxS tU_ok tI_ok rfl rfl rfl rfl e39 rfl (getI_some ht39).1) ?_
                              refine DJ.st rfl rfl rfl rfl rfl (SR.load rfl rfl (fun w' hx => ld1 tU_ok rfl rfl (CA.ext ((hS.rd (i := 0) rfl).at_ e39 ht39) hx) rfl)) ?_
                              refine DJ.pures tU_ok 3 rfl ?_
                              refine DJ.split (t := 87) rfl (fun hb => ?_) (fun hb => ?_)
                              · replace H := pif_t (of_decide_eq_true hb) H
                                refine DJ.pures tU_ok 5 rfl ?_
                                obtain ⟨t40, ht40, H⟩ := pbind H
                                refine DJ.callF rfl rfl rfl rfl rfl rfl rfl hb54 rfl (spec_l06Enough.c k _ A13 c14 t12 (hS.rd (i := 0) rfl) (hS.le (i := 0) rfl) Aa2 ca2 a2 (hS.rd' (i := 4) rfl) (hS.le' (i := 4) rfl) (IntKind.i64.wrap (y25 + 1)) (orI .u16 y24 (shlI .u16 1 (IntKind.u64.wrap y34))) _ ht40) (by rintro v w' ⟨rfl, hs⟩; exact hs) ?_
                                rintro _ w1 ⟨rfl, hs⟩
                                replace hS := hS.grow hs
                                refine DJ.pures tU_ok 1 rfl ?_
                                refine DJ.nil ?_
                                exact EJ.meet (F' := [(2, .slice Aa2 a2.length ca2), (10, .slice A13 t12.length c14), (11, .slice A22 y21.length c23), (12, .int .u16 y24), (13, .int .i64 y25), (14, .int .i64 y34), (15, .int .u16 (orI .u16 y24 (shlI .u16 1 (IntKind.u64.wrap y34)))), (94, .bool t40)]) ⟨rfl, rfl, rfl, rfl, rfl, rfl, rfl, rfl, trivial⟩ ⟨t40, H, rfl, hS.pick [0, 1] [0, 1, 2, 3, 4] rfl⟩
                              · replace H := pif_f (of_decide_eq_false hb) H
                                refine DJ.pures tU_ok 7 rfl ?_
                                refine DJ.nil ?_
                                exact EJ.meet (F' := [(2, .slice Aa2 a2.length ca2), (10, .slice A13 t12.length c14), (11, .slice A22 y21.length c23), (12, .int .u16 y24), (13, .int .i64 y25), (14, .int .i64 y34), (15, .int .u16 (orI .u16 y24 (shlI .u16 1 (IntKind.u64.wrap y34)))), (94, .bool false)]) ⟨rfl, rfl, rfl, rfl, rfl, rfl, rfl, rfl, trivial⟩ ⟨false, H, rfl, hS.pick [0, 1] [0, 1, 2, 3, 4] rfl⟩
                            · replace H := pif_f (of_decide_eq_false hb) H
                              refine DJ.pures tU_ok 18 rfl ?_
                              refine DJ.nil ?_
                              exact EJ.meet (F' := [(2, .slice Aa2 a2.length ca2), (10, .slice A13 t12.length c14), (11, .slice A22 y21.length c23), (12, .int .u16 y24), (13, .int .i64 y25), (14, .int .i64 y34), (15, .int .u16 (orI .u16 y24 (shlI .u16 1 (IntKind.u64.wrap y34)))), (94, .bool false)]) ⟨rfl, rfl, rfl, rfl, rfl, rfl, rfl, rfl, trivial⟩ ⟨false, H, rfl, hS.pick [0, 1] [0, 1, 2, 3, 4] rfl⟩
                          · rintro F w1 ⟨y36, he, rfl, hS⟩
                            obtain rfl := Option.some.inj he
                            have H := K436
                            refine CJ.cond rfl (fun hb => ?_) (fun hb => ?_)
                            · replace H := pif_t hb H
                              refine CJ.seq ?_
                              refine CJ.region ?_
                              refine OJ.pures tU_ok 2 rfl ?_
                              refine OJ.ef rfl rfl rfl (Ef.lit tU_ok tI_ok hS (C := (ci .i64)) rfl rfl rfl rfl rfl rfl ([y34] : List Int) rfl rfl rfl rfl) ?_
                              rintro _ w1 ⟨A41, rfl, hS⟩
                              obtain ⟨u42, hu42, H⟩ := pbind H
                              refine OJ.ew rfl rfl rfl (Ew.append tU_ok tI_ok (C := (ci .i64)) (xs := y21) (ys := ([y34] : List Int)) hS (i := 1) rfl rfl rfl rfl rfl rfl rfl rfl rfl rfl rfl rfl rfl (hS.rd (i := 2) rfl) (chk_some hu42)) ?_
                              rintro _ w1 ⟨A43, c44, rfl, hS⟩
                              refine OJ.pures tU_ok 1 rfl ?_
                              refine OJ.nil (EJ.next ?_)
                              refine CJ.seq ?_
                              refine CJ.region ?_
                              refine OJ.pures tU_ok 2 rfl ?_
                              refine OJ.nil (EJ.next ?_)
                              refine CJ.exit (EJ.bkE rfl (EJ.skE (EJ.skE (EJ.hit (?_)))))
                              exact EJ.meet (F' := [(2, .slice Aa2 a2.length ca2), (10, .slice A13 t12.length c14), (11, .slice A43 (y21 ++ ([y34] : List Int)).length c44), (12, .int .u16 (orI .u16 y24 (shlI .u16 1 (IntKind.u64.wrap y34)))), (13, .int .i64 y25)]) ⟨rfl, rfl, rfl, rfl, rfl, trivial⟩ ⟨(y21 ++ ([y34] : List Int)), (orI .u16 y24 (shlI .u16 1 (IntKind.u64.wrap y34))), A43, c44, H, rfl, hS.pick [0, 1] [0, 1, 2, 3, 4] rfl⟩
                            · replace H := pifb_f hb H
                              refine CJ.skip (EJ.blk (EJ.next ?_))
                              refine CJ.region ?_
                              refine OJ.pures tU_ok 3 rfl ?_
                              refine OJ.nil ?_
                              exact EJ.round k (F' := [(2, .slice Aa2 a2.length ca2), (10, .slice A13 t12.length c14), (11, .slice A22 y21.length c23), (12, .int .u16 y24), (13, .int .i64 y25), (14, .int .i64 (IntKind.i64.wrap (y34 + 1)))]) ⟨rfl, rfl, rfl, rfl, rfl, rfl, trivial⟩ (Nat.lt_succ_self _) ⟨(IntKind.i64.wrap (y34 + 1)), rfl, hS.pick [0, 1] [0, 1, 2, 3, 4] rfl, H⟩
                        · replace H := pif_f (of_decide_eq_false hb) H
                          refine CJ.exit (EJ.skE (EJ.skE (EJ.hit (?_))))
                          exact EJ.meet (F' := [(2, .slice Aa2 a2.length ca2), (10, .slice A13 t12.length c14), (11, .slice A22 y21.length c23), (12, .int .u16 y24), (13, .int .i64 y25)]) ⟨rfl, rfl, rfl, rfl, rfl, trivial⟩ ⟨y21, y24, A22, c23, H, rfl, hS.pick [0, 1] [0, 1, 2, 3, 4] rfl⟩
                    · rintro F w1 ⟨y30, y33, A31, c32, he, rfl, hS⟩
                      obtain rfl := Option.some.inj he
                      have H := K433
                      refine EJ.blk (?_)
                      exact EJ.meet (F' := [(2, .slice Aa2 a2.length ca2), (10, .slice A13 t12.length c14), (11, .slice A31 y30.length c32), (12, .int .u16 y33), (13, .int .i64 y25)]) ⟨rfl, rfl, rfl, rfl, rfl, trivial⟩ ⟨y30, y33, A31, c32, H, rfl, hS.pick [0, 1] [0, 1, 2, 3, 4] rfl⟩
                  · rintro F w1 ⟨y26, y29, A27, c28, he, rfl, hS⟩
                    obtain rfl := Option.some.inj he
                    have H := K428
                    refine CJ.region ?_
                    refine OJ.pures tU_ok 3 rfl ?_
                    refine OJ.nil ?_
                    exact EJ.round k (F' := [(2, .slice Aa2 a2.length ca2), (10, .slice A13 t12.length c14), (11, .slice A27 y26.length c28), (12, .int .u16 y29), (13, .int .i64 (IntKind.i64.wrap (y25 + 1)))]) ⟨rfl, rfl, rfl, rfl, rfl, trivial⟩ (Nat.lt_succ_self _) ⟨y26, y29, (IntKind.i64.wrap (y25 + 1)), A27, c28, rfl, hS.pick [0, 1] [0, 1, 2, 3, 4] rfl, H⟩
                · replace H := pif_f (of_decide_eq_false hb) H
                  refine CJ.exit (EJ.skE (EJ.skE (EJ.hit (?_))))
                  exact EJ.meet (F' := [(11, .slice A22 y21.length c23)]) ⟨rfl, trivial⟩ ⟨y21, A22, c23, H, rfl, hS.pick [1] [0, 1, 2, 3, 4] rfl⟩
            · rintro F w1 ⟨y18, A19, c20, he, rfl, hS⟩
              obtain rfl := Option.some.inj he
              have H := K409
              refine EJ.next ?_
              refine CJ.seq ?_
              refine CJ.region ?_
              refine OJ.pures tU_ok 3 rfl ?_
              refine OJ.nil (EJ.next ?_)
              refine CJ.ret (?_)
              obtain rfl := Option.some.inj H
              exact EJ.fin rfl (.tmp rfl (.tmp rfl .nil)) ⟨A19, c20, rfl, hS.pick [0] [] rfl⟩
end Go.Proofs.YtonpnkppaflcbaaGreatDoor
