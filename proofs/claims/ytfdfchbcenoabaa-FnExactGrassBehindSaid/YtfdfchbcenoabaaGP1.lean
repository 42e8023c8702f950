/-
  What the functions come to.
-/
import Derived.Test.YtfdfchbcenoabaaGP0
namespace Go.Proofs.Ytfdfchbcenoabaa
open G
set_option linter.unusedVariables false
set_option maxRecDepth 100000
set_option maxHeartbeats 1000000
def spec_LongestGreedy.f (k : Nat) (a0 : List Meadow) (a1 : Int) : Option (Int × Int) := (spec_l07Asked.f k a0 a1 true).bind fun t1 => if t1 ≠ 0 then (some (0, t1)) else ((spec_l07Greedy.f k a0 a1 30).bind fun t2 => some ((t2.length : Int), 0))
theorem spec_LongestGreedy.c (k : Nat) (w : World) (Aa0 : Option Addr) (ca0 : Nat) (a0 : List Meadow) (hr0 : Rd cMeadow w Aa0 a0) (hc0 : a0.length ≤ ca0) (a1 : Int) (r : Int × Int) (H : spec_LongestGreedy.f k a0 a1 = some r) :
    CV Try.prog 34 [.slice Aa0 a0.length ca0, .int .i64 a1].toArray w fun v w' => v = .tuple #[.int .i64 r.1, .int .i64 r.2] ∧ Ext w w' := by
  have hS := ((St.init w no).param cMeadow Aa0 ca0 a0 hr0 hc0)
  unfold spec_LongestGreedy.f at H
  refine CV.body Try.func34 rfl Try.ntmps34 rfl ?_
  refine CJ.seq ?_
  refine CJ.region ?_
  refine OJ.pures tU_ok 2 rfl ?_
  refine OJ.nil (EJ.next ?_)
  refine CJ.seq ?_
  refine CJ.seq ?_
  refine CJ.region ?_
  refine OJ.pures tU_ok 2 rfl ?_
  obtain ⟨t1, ht1, H⟩ := pbind H
  refine OJ.callF rfl rfl rfl rfl rfl hb57 rfl (spec_l07Asked.c k _ Aa0 ca0 a0 (hS.rd' (i := 0) rfl) (hS.le' (i := 0) rfl) a1 true _ ht1) ?_
  rintro _ w1 ⟨rfl, hs⟩
  replace hS := hS.grow hs
  refine OJ.pures tU_ok 1 rfl ?_
  refine OJ.nil (EJ.next ?_)
  refine CJ.seq ?_
  refine CJ.region ?_
  refine OJ.pures tU_ok 2 rfl ?_
  refine OJ.nil (EJ.next ?_)
  refine CJ.cond rfl (fun hb => ?_) (fun hb => ?_)
  · replace H := pif_t (of_decide_eq_true hb) H
    refine CJ.seq ?_
    refine CJ.region ?_
    refine OJ.pures tU_ok 3 rfl ?_
    refine OJ.nil (EJ.next ?_)
    refine CJ.ret (EJ.skR (?_))
    obtain rfl := Option.some.inj H
    exact EJ.fin rfl (.tmp rfl (.tmp rfl .nil)) ⟨rfl, hS.ext⟩
  · replace H := pif_f (of_decide_eq_false hb) H
    refine CJ.skip (EJ.next ?_)
    refine CJ.seq ?_
    refine CJ.region ?_
    refine OJ.pures tU_ok 2 rfl ?_
    obtain ⟨t2, ht2, H⟩ := pbind H
    refine OJ.callF rfl rfl rfl rfl rfl hb65 rfl (spec_l07Greedy.c k _ Aa0 ca0 a0 (hS.rd' (i := 0) rfl) (hS.le' (i := 0) rfl) a1 30 _ ht2) ?_
    rintro _ w1 ⟨A3, c4, rfl, hs⟩
    replace hS := hS.addN hs
    refine OJ.pures tU_ok 3 rfl ?_
    refine OJ.nil (EJ.next ?_)
    refine CJ.ret (?_)
    obtain rfl := Option.some.inj H
    exact EJ.fin rfl (.tmp rfl (.tmp rfl .nil)) ⟨rfl, hS.ext⟩

def impl_greedy.l1 (a0 : List Meadow) : Nat → Int → Int → Option Int
  | 0, _, _ => none
  | k + 1, y3, y4 => if y4 < (a0.length : Int) then ((getI a0 y4).bind fun t5 => (getI a0 y3).bind fun t7 => if t7.Grass < t5.Grass then (impl_greedy.l1 a0 k y4 (IntKind.i64.wrap (y4 + 1))) else (impl_greedy.l1 a0 k y3 (IntKind.i64.wrap (y4 + 1)))) else (some y3)
def impl_greedy.l2 (a0 : List Meadow) : Nat → Int → Int → Option Int
  | 0, _, _ => none
  | k + 1, y9, y10 => if y10 < (a0.length : Int) then ((getI a0 y10).bind fun t11 => (getI a0 y9).bind fun t13 => if t13.Grass < t11.Grass then (impl_greedy.l2 a0 k y10 (IntKind.i64.wrap (y10 + 1))) else (impl_greedy.l2 a0 k y9 (IntKind.i64.wrap (y10 + 1)))) else (some y9)
def impl_greedy.l3 (y24 : List Meadow) : Nat → Int → Int → Option Int
  | 0, _, _ => none
  | k + 1, y29, y30 => if y30 < (y24.length : Int) then ((getI y24 y30).bind fun t31 => (getI y24 y29).bind fun t33 => if t33.Grass < t31.Grass then (impl_greedy.l3 y24 k y30 (IntKind.i64.wrap (y30 + 1))) else (impl_greedy.l3 y24 k y29 (IntKind.i64.wrap (y30 + 1)))) else (some y29)
def impl_greedy.l4 (y24 : List Meadow) : Nat → Int → Int → Option Int
  | 0, _, _ => none
  | k + 1, y35, y36 => if y36 < (y24.length : Int) then ((getI y24 y36).bind fun t37 => (getI y24 y35).bind fun t39 => if t39.Grass < t37.Grass then (impl_greedy.l4 y24 k y36 (IntKind.i64.wrap (y36 + 1))) else (impl_greedy.l4 y24 k y35 (IntKind.i64.wrap (y36 + 1)))) else (some y35)
def impl_greedy.l6 (y8 : List Meadow) : Nat → Int → Int → Option Int
  | 0, _, _ => none
  | k + 1, y13, y14 => if y14 < (y8.length : Int) then ((getI y8 y14).bind fun t15 => (getI y8 y13).bind fun t17 => if t17.Grass < t15.Grass then (impl_greedy.l6 y8 k y14 (IntKind.i64.wrap (y14 + 1))) else (impl_greedy.l6 y8 k y13 (IntKind.i64.wrap (y14 + 1)))) else (some y13)
def impl_greedy.l7 (y8 : List Meadow) : Nat → Int → Int → Option Int
  | 0, _, _ => none
  | k + 1, y19, y20 => if y20 < (y8.length : Int) then ((getI y8 y20).bind fun t21 => (getI y8 y19).bind fun t23 => if t23.Grass < t21.Grass then (impl_greedy.l7 y8 k y20 (IntKind.i64.wrap (y20 + 1))) else (impl_greedy.l7 y8 k y19 (IntKind.i64.wrap (y20 + 1)))) else (some y19)
def impl_greedy.l5 (a1 : Int) (a2 : Int) : Nat → (List Int) → (List Meadow) → Int → Option ((List Int) ⊕ (List Int))
  | 0, _, _, _ => none
  | k + 1, y5, y8, y11 => if y11 < a2 then (((impl_greedy.l7 y8 k 0 0).bind fun y18 => (impl_behind.f k y8 a1 y18).bind fun t24 => if (!t24.2) = true then (some (Sum.inl (Sum.inl y5))) else ((chk (y5.length + ([y18] : List Int).length ≤ 4294967296)).bind fun u28 => some (Sum.inr (y5 ++ ([y18] : List Int), t24.1)))).bind fun s42 => match s42 with | .inl r => some r | .inr (y12, y15) => impl_greedy.l5 a1 a2 k y12 y15 (IntKind.i64.wrap (y11 + 1))) else (some (Sum.inr y5))
def impl_greedy.f (k : Nat) (a0 : List Meadow) (a1 : Int) (a2 : Int) : Option (List Int) := (impl_greedy.l5 a1 a2 k ([] : List Int) a0 0).bind fun s35 => match s35 with | .inl r => some r | .inr y2 => some y2
theorem impl_greedy.c (k : Nat) (w : World) (Aa0 : Option Addr) (ca0 : Nat) (a0 : List Meadow) (hr0 : Rd cMeadow w Aa0 a0) (hc0 : a0.length ≤ ca0) (a1 : Int) (a2 : Int) (r : List Int) (H : impl_greedy.f k a0 a1 a2 = some r) :
    CV Try.prog 67 [.slice Aa0 a0.length ca0, .int .i64 a1, .int .i64 a2].toArray w fun v w' => ∃ (A0 : Option Addr) (c0 : Nat), v = .slice A0 r.length c0 ∧ St w no w' [rowC (ci .i64) A0 c0 2 r] [] := by
  have hS := ((St.init w no).param cMeadow Aa0 ca0 a0 hr0 hc0)
  unfold impl_greedy.f at H
  refine CV.body Try.func67 rfl Try.ntmps67 rfl ?_
  refine CJ.seq ?_
  refine CJ.region ?_
  refine OJ.pures tU_ok 1 rfl ?_
  refine OJ.nil (EJ.next ?_)
  refine CJ.seq ?_
  refine CJ.region ?_
  refine OJ.ef rfl rfl rfl (Ef.lit tU_ok tI_ok hS (C := (ci .i64)) rfl rfl rfl rfl rfl rfl ([] : List Int) rfl rfl rfl rfl) ?_
  rintro _ w1 ⟨A1, rfl, hS⟩
  refine OJ.pures tU_ok 1 rfl ?_
  refine OJ.nil (EJ.next ?_)
  refine CJ.seq ?_
  refine CJ.seq ?_
  refine CJ.region ?_
  refine OJ.pures tU_ok 2 rfl ?_
  refine OJ.nil (EJ.next ?_)
  obtain ⟨j35, H, K35⟩ := pbind H
  refine CJ.cut1 (fun F w1 => ∃ (y2 : List Int) (A3 : Option Addr) (c4 : Nat), (some (Sum.inr y2) : Option ((List Int) ⊕ (List Int))) = some j35 ∧ F = [(7, .slice A3 y2.length c4)] ∧ St w no w1 [rowC (ci .i64) A3 c4 2 y2] [roC cMeadow Aa0 ca0 a0]) ?_ ?_
  · skip
    refine CJ.block ?_
    refine CJ.loop (fun k F w1 => ∃ (y5 : List Int) (y8 : List Meadow) (y11 : Int) (A6 : Option Addr) (c7 : Nat) (A9 : Option Addr) (c10 : Nat), F = [(0, .slice A9 y8.length c10), (1, .int .i64 a1), (7, .slice A6 y5.length c7), (14, .int .i64 a2), (15, .int .i64 y11)] ∧ St w no w1 [rowC (ci .i64) A6 c7 2 y5] [roC cMeadow Aa0 ca0 a0, roC cMeadow A9 c10 y8] ∧ impl_greedy.l5 a1 a2 k y5 y8 y11 = some j35) k (F' := [(0, .slice Aa0 a0.length ca0), (1, .int .i64 a1), (7, .slice A1 ([] : List Int).length (([] : List Int).length)), (14, .int .i64 a2), (15, .int .i64 0)]) ⟨rfl, rfl, rfl, rfl, rfl, trivial⟩ ⟨([] : List Int), a0, 0, A1, (([] : List Int).length), Aa0, ca0, rfl, hS.pick [0] [0, 0] rfl, H⟩ ?_
    rintro k F w1 ⟨y5, y8, y11, A6, c7, A9, c10, rfl, hS, H⟩
    cases k with
    | zero => rw [impl_greedy.l5] at H; cases H
    | succ k =>
      rw [impl_greedy.l5] at H
      refine CJ.seq ?_
      refine CJ.region ?_
      refine OJ.pures tU_ok 1 rfl ?_
      refine OJ.nil (EJ.next ?_)
      refine CJ.seq ?_
      refine CJ.cond rfl (fun hb => ?_) (fun hb => ?_)
      · replace H := pif_t (of_decide_eq_true hb) H
        refine CJ.skip (EJ.next ?_)
        obtain ⟨j42, H, K42⟩ := pbind H
        refine CJ.cut (fun F w1 => ∃ (y12 : List Int) (y15 : List Meadow) (A13 : Option Addr) (c14 : Nat) (A16 : Option Addr) (c17 : Nat), (some (Sum.inr (y12, y15)) : Option (((List Int) ⊕ (List Int)) ⊕ ((List Int) × (List Meadow)))) = some j42 ∧ F = [(0, .slice A16 y15.length c17), (1, .int .i64 a1), (7, .slice A13 y12.length c14), (14, .int .i64 a2), (15, .int .i64 y11)] ∧ St w no w1 [rowC (ci .i64) A13 c14 2 y12, rowC cMeadow A16 c17 57 y15] [roC cMeadow Aa0 ca0 a0, roC cMeadow A9 c10 y8]) ?_ ?_
        · skip
          refine CJ.block ?_
          refine CJ.seq ?_
          refine CJ.region ?_
          refine OJ.pures tU_ok 1 rfl ?_
          refine OJ.nil (EJ.next ?_)
          refine CJ.seq ?_
          refine CJ.seq ?_
          refine CJ.region ?_
          refine OJ.pures tU_ok 3 rfl ?_
          refine OJ.nil (EJ.next ?_)
          obtain ⟨j44, H, K44⟩ := pbind H
          refine CJ.cut1 (fun F w1 => ∃ (y18 : Int) , (some y18 : Option Int) = some j44 ∧ F = [(0, .slice A9 y8.length c10), (1, .int .i64 a1), (7, .slice A6 y5.length c7), (8, .int .i64 y18), (14, .int .i64 a2), (15, .int .i64 y11)] ∧ St w no w1 [rowC (ci .i64) A6 c7 2 y5] [roC cMeadow Aa0 ca0 a0, roC cMeadow A9 c10 y8]) ?_ ?_
          · skip
            refine CJ.block ?_
            refine CJ.loop (fun k F w1 => ∃ (y19 : Int) (y20 : Int), F = [(0, .slice A9 y8.length c10), (1, .int .i64 a1), (7, .slice A6 y5.length c7), (8, .int .i64 y19), (14, .int .i64 a2), (15, .int .i64 y11), (17, .slice A9 y8.length c10), (18, .int .i64 (y8.length : Int)), (19, .int .i64 y20)] ∧ St w no w1 [rowC (ci .i64) A6 c7 2 y5] [roC cMeadow Aa0 ca0 a0, roC cMeadow A9 c10 y8] ∧ impl_greedy.l7 y8 k y19 y20 = some j44) k (F' := [(0, .slice A9 y8.length c10), (1, .int .i64 a1), (7, .slice A6 y5.length c7), (8, .int .i64 0), (14, .int .i64 a2), (15, .int .i64 y11), (17, .slice A9 y8.length c10), (18, .int .i64 (y8.length : Int)), (19, .int .i64 0)]) ⟨rfl, rfl, rfl, rfl, rfl, rfl, rfl, rfl, rfl, trivial⟩ ⟨0, 0, rfl, hS.pick [0] [0, 1] rfl, H⟩ ?_
            rintro k F w1 ⟨y19, y20, rfl, hS, H⟩
            cases k with
            | zero => rw [impl_greedy.l7] at H; cases H
            | succ k =>
              rw [impl_greedy.l7] at H
              refine CJ.seq ?_
              refine CJ.region ?_
              refine OJ.pures tU_ok 1 rfl ?_
              refine OJ.nil (EJ.next ?_)
              refine CJ.seq ?_
              refine CJ.cond rfl (fun hb => ?_) (fun hb => ?_)
              · replace H := pif_t (of_decide_eq_true hb) H
                refine CJ.skip (EJ.next ?_)
                refine CJ.seq ?_
                refine CJ.block ?_
                refine CJ.seq ?_
                refine CJ.region ?_
                refine OJ.pures tU_ok 1 rfl ?_
                obtain ⟨t21, ht21, H⟩ := pbind H
                obtain ⟨ad21, e21⟩ := (hS.rd' (i := 1) rfl).some' ht21
                refine OJ.st rfl rfl rfl (SR.idxS tU_ok tI_ok rfl rfl rfl rfl e21 rfl (getI_some ht21).1) ?_
                refine OJ.st rfl rfl rfl (SR.load rfl rfl (fun w' hx => ldE tU_ok tI_ok rfl rfl rfl (CA.ext ((hS.rd' (i := 1) rfl).at_ e21 ht21) hx) rfl)) ?_
                refine OJ.ef rfl rfl rfl (Ef.alloc hS tI_ok rfl rfl (cMeadow.enc (⟨0, 0, 0⟩ : Meadow)) rfl) ?_
                rintro _ w1 ⟨b22, rfl, hS⟩
                refine OJ.pures tU_ok 1 rfl ?_
                refine OJ.es rfl rfl (Es.store tI_ok hS (i := 1) rfl rfl rfl rfl rfl rfl (vs := cMeadow.enc t21) rfl (cMeadow.len _) (cMeadow.one _) (Nat.le_of_ble_eq_true rfl) (cMeadow.enc t21) rfl) ?_
                intro w1 hS
                refine OJ.nil (EJ.next ?_)
                refine CJ.seq ?_
                refine CJ.draw [] [0, 1, 2, 3, 4, 5, 6, 7] mixed (by kernel_rfl) hS fun w1 hS => ?_
                refine DJ.st rfl rfl rfl rfl rfl (SR.fieldAddr tU_ok tI_ok rfl rfl rfl rfl rfl rfl) ?_
                refine DJ.st rfl rfl rfl rfl rfl (SR.load rfl rfl (fun w' hx => ld1 tU_ok rfl rfl (CA.ext (CA.sub (hS.cells (i := 1) rfl) 0) hx) rfl)) ?_
                refine DJ.pures tU_ok 2 rfl ?_
                obtain ⟨t23, ht23, H⟩ := pbind H
                obtain ⟨ad23, e23⟩ := (hS.rd' (i := 1) rfl).some' ht23
                refine DJ.st rfl rfl rfl rfl rfl (SR.idxS tU_ok tI_ok rfl rfl rfl rfl e23 rfl (getI_some ht23).1) ?_
                refine DJ.st rfl rfl rfl rfl rfl (SR.fieldAddr tU_ok tI_ok rfl rfl rfl rfl rfl rfl) ?_
                refine DJ.st rfl rfl rfl rfl rfl (SR.load rfl rfl (fun w' hx => ld1 tU_ok rfl rfl (CA.ext (CA.sub ((hS.rd' (i := 1) rfl).at_ e23 ht23) 0) hx) rfl)) ?_
                refine DJ.pures tU_ok 1 rfl ?_
                refine DJ.nil (EJ.next ?_)
                refine CJ.cond rfl (fun hb => ?_) (fun hb => ?_)
                · replace H := pif_t (of_decide_eq_true hb) H
                  refine CJ.region ?_
                  refine OJ.pures tU_ok 2 rfl ?_
                  refine OJ.nil (EJ.blk (EJ.next ?_))
                  refine CJ.region ?_
                  refine OJ.pures tU_ok 2 rfl ?_
                  refine OJ.nil ?_
                  exact EJ.round k (F' := [(0, .slice A9 y8.length c10), (1, .int .i64 a1), (7, .slice A6 y5.length c7), (8, .int .i64 y20), (14, .int .i64 a2), (15, .int .i64 y11), (17, .slice A9 y8.length c10), (18, .int .i64 (y8.length : Int)), (19, .int .i64 (IntKind.i64.wrap (y20 + 1)))]) ⟨rfl, rfl, rfl, rfl, rfl, rfl, rfl, rfl, rfl, trivial⟩ (Nat.lt_succ_self _) ⟨y20, (IntKind.i64.wrap (y20 + 1)), rfl, hS.pick [0] [0, 1] rfl, H⟩
                · replace H := pif_f (of_decide_eq_false hb) H
                  refine CJ.skip (EJ.blk (EJ.next ?_))
                  refine CJ.region ?_
                  refine OJ.pures tU_ok 2 rfl ?_
                  refine OJ.nil ?_
                  exact EJ.round k (F' := [(0, .slice A9 y8.length c10), (1, .int .i64 a1), (7, .slice A6 y5.length c7), (8, .int .i64 y19), (14, .int .i64 a2), (15, .int .i64 y11), (17, .slice A9 y8.length c10), (18, .int .i64 (y8.length : Int)), (19, .int .i64 (IntKind.i64.wrap (y20 + 1)))]) ⟨rfl, rfl, rfl, rfl, rfl, rfl, rfl, rfl, rfl, trivial⟩ (Nat.lt_succ_self _) ⟨y19, (IntKind.i64.wrap (y20 + 1)), rfl, hS.pick [0] [0, 1] rfl, H⟩
              · replace H := pif_f (of_decide_eq_false hb) H
                refine CJ.exit (EJ.skE (EJ.skE (EJ.hit (?_))))
                exact EJ.meet (F' := [(0, .slice A9 y8.length c10), (1, .int .i64 a1), (7, .slice A6 y5.length c7), (8, .int .i64 y19), (14, .int .i64 a2), (15, .int .i64 y11)]) ⟨rfl, rfl, rfl, rfl, rfl, rfl, trivial⟩ ⟨y19, H, rfl, hS.pick [0] [0, 1] rfl⟩
          · rintro F w1 ⟨y18, he, rfl, hS⟩
            obtain rfl := Option.some.inj he
            have H := K44
            refine EJ.next ?_
            refine CJ.seq ?_
            refine CJ.region ?_
            refine OJ.pures tU_ok 3 rfl ?_
            obtain ⟨t24, ht24, H⟩ := pbind H
            refine OJ.callF rfl rfl rfl rfl rfl hb64 rfl (impl_behind.c k _ A9 c10 y8 (hS.rd' (i := 1) rfl) (hS.le' (i := 1) rfl) a1 y18 _ ht24) ?_
            rintro _ w1 ⟨A25, c26, rfl, hs⟩
            replace hS := hS.addN hs
            refine OJ.pures tU_ok 5 rfl ?_
            refine OJ.nil (EJ.next ?_)
            refine CJ.seq ?_
            refine CJ.seq ?_
            refine CJ.region ?_
            refine OJ.pures tU_ok 2 rfl ?_
            refine OJ.nil (EJ.next ?_)
            refine CJ.cond rfl (fun hb => ?_) (fun hb => ?_)
            · replace H := pif_t hb H
              refine CJ.seq ?_
              refine CJ.region ?_
              refine OJ.pures tU_ok 2 rfl ?_
              refine OJ.nil (EJ.next ?_)
              refine CJ.ret (EJ.skR (EJ.bkR (EJ.skR (EJ.skR (EJ.bkR (EJ.skR (EJ.skR (?_))))))))
              first | (obtain rfl := Option.some.inj H; have H := K42) | (obtain ⟨q42, H2, e42⟩ := pbind H; obtain rfl := Option.some.inj e42; obtain rfl := Option.some.inj K42; have H := H2)
              first | (obtain rfl := Option.some.inj H; have H := K35) | (obtain ⟨q35, H2, e35⟩ := pbind H; obtain rfl := Option.some.inj e35; obtain rfl := Option.some.inj K35; have H := H2)
              obtain rfl := Option.some.inj H
              exact EJ.fin rfl (.tmp rfl .nil) ⟨A6, c7, rfl, hS.pick [0] [] rfl⟩
            · replace H := pifb_f hb H
              refine CJ.skip (EJ.next ?_)
              refine CJ.region ?_
              refine OJ.pures tU_ok 2 rfl ?_
              refine OJ.ef rfl rfl rfl (Ef.lit tU_ok tI_ok hS (C := (ci .i64)) rfl rfl rfl rfl rfl rfl ([y18] : List Int) rfl rfl rfl rfl) ?_
              rintro _ w1 ⟨A27, rfl, hS⟩
              obtain ⟨u28, hu28, H⟩ := pbind H
              refine OJ.ew rfl rfl rfl (Ew.append tU_ok tI_ok (C := (ci .i64)) (xs := y5) (ys := ([y18] : List Int)) hS (i := 0) rfl rfl rfl rfl rfl rfl rfl rfl rfl rfl rfl rfl rfl (hS.rd (i := 2) rfl) (chk_some hu28)) ?_
              rintro _ w1 ⟨A29, c30, rfl, hS⟩
              refine OJ.pures tU_ok 3 rfl ?_
              refine OJ.nil (EJ.blk (?_))
              exact EJ.meet (F' := [(0, .slice A25 t24.1.length c26), (1, .int .i64 a1), (7, .slice A29 (y5 ++ ([y18] : List Int)).length c30), (14, .int .i64 a2), (15, .int .i64 y11)]) ⟨rfl, rfl, rfl, rfl, rfl, trivial⟩ ⟨(y5 ++ ([y18] : List Int)), t24.1, A29, c30, A25, c26, H, rfl, hS.pick [0, 1] [0, 1] rfl⟩
        · rintro F w1 ⟨y12, y15, A13, c14, A16, c17, he, rfl, hS⟩
          obtain rfl := Option.some.inj he
          have H := K42
          refine CJ.region ?_
          refine OJ.pures tU_ok 2 rfl ?_
          refine OJ.nil ?_
          replace hS := hS.freezeG (i := 1) rfl
          exact EJ.round k (F' := [(0, .slice A16 y15.length c17), (1, .int .i64 a1), (7, .slice A13 y12.length c14), (14, .int .i64 a2), (15, .int .i64 (IntKind.i64.wrap (y11 + 1)))]) ⟨rfl, rfl, rfl, rfl, rfl, trivial⟩ (Nat.lt_succ_self _) ⟨y12, y15, (IntKind.i64.wrap (y11 + 1)), A13, c14, A16, c17, rfl, hS.pick [0] [0, 2] rfl, H⟩
      · replace H := pif_f (of_decide_eq_false hb) H
        refine CJ.exit (EJ.skE (EJ.skE (EJ.hit (?_))))
        exact EJ.meet (F' := [(7, .slice A6 y5.length c7)]) ⟨rfl, trivial⟩ ⟨y5, A6, c7, H, rfl, hS.pick [0] [0] rfl⟩
  · rintro F w1 ⟨y2, A3, c4, he, rfl, hS⟩
    obtain rfl := Option.some.inj he
    have H := K35
    refine EJ.next ?_
    refine CJ.seq ?_
    refine CJ.region ?_
    refine OJ.pures tU_ok 2 rfl ?_
    refine OJ.nil (EJ.next ?_)
    refine CJ.ret (?_)
    obtain rfl := Option.some.inj H
    exact EJ.fin rfl (.tmp rfl .nil) ⟨A3, c4, rfl, hS.pick [0] [] rfl⟩

def impl_size_int64.f (a0 : List Int) : Option Int := some (a0.length : Int)
theorem impl_size_int64.c (w : World) (Aa0 : Option Addr) (ca0 : Nat) (a0 : List Int) (hr0 : Rd (ci .i64) w Aa0 a0) (hc0 : a0.length ≤ ca0) (r : Int) (H : impl_size_int64.f a0 = some r) :
    CV Try.prog 66 [.slice Aa0 a0.length ca0].toArray w fun v w' => v = .int .i64 r ∧ Ext w w' := by
  have hS := ((St.init w no).param (ci .i64) Aa0 ca0 a0 hr0 hc0)
  unfold impl_size_int64.f at H
  refine CV.body Try.func66 rfl Try.ntmps66 rfl ?_
  refine CJ.seq ?_
  refine CJ.region ?_
  refine OJ.pures tU_ok 1 rfl ?_
  refine OJ.nil (EJ.next ?_)
  refine CJ.seq ?_
  refine CJ.region ?_
  refine OJ.pures tU_ok 3 rfl ?_
  refine OJ.nil (EJ.next ?_)
  refine CJ.ret (?_)
  obtain rfl := Option.some.inj H
  exact EJ.fin rfl (.tmp rfl .nil) ⟨rfl, hS.ext⟩

def impl_LongestGreedy.f (k : Nat) (a0 : List Meadow) (a1 : Int) : Option (Int × Int) := (impl_meadowCode.f k a0 a1 []).bind fun t1 => if t1 ≠ 0 then (some (0, t1)) else ((impl_greedy.f k a0 a1 30).bind fun t2 => (impl_size_int64.f t2).bind fun t5 => some (t5, 0))
theorem impl_LongestGreedy.c (k : Nat) (w : World) (Aa0 : Option Addr) (ca0 : Nat) (a0 : List Meadow) (hr0 : Rd cMeadow w Aa0 a0) (hc0 : a0.length ≤ ca0) (a1 : Int) (r : Int × Int) (H : impl_LongestGreedy.f k a0 a1 = some r) :
    CV Try.prog 35 [.slice Aa0 a0.length ca0, .int .i64 a1].toArray w fun v w' => v = .tuple #[.int .i64 r.1, .int .i64 r.2] ∧ Ext w w' := by
  have hS := ((St.init w no).param cMeadow Aa0 ca0 a0 hr0 hc0)
  unfold impl_LongestGreedy.f at H
  refine CV.body Try.func35 rfl Try.ntmps35 rfl ?_
  refine CJ.seq ?_
  refine CJ.region ?_
  refine OJ.pures tU_ok 2 rfl ?_
  refine OJ.nil (EJ.next ?_)
  refine CJ.seq ?_
  refine CJ.seq ?_
  refine CJ.region ?_
  refine OJ.pures tU_ok 2 rfl ?_
  obtain ⟨t1, ht1, H⟩ := pbind H
  refine OJ.callF rfl rfl rfl rfl rfl hb63 rfl (impl_meadowCode.c k _ Aa0 ca0 a0 (hS.rd' (i := 0) rfl) (hS.le' (i := 0) rfl) a1 none 0 [] (Rd.nil (ci .i64) _ _) (Nat.le_refl _) _ ht1) ?_
  rintro _ w1 ⟨rfl, hs⟩
  replace hS := hS.grow hs
  refine OJ.pures tU_ok 1 rfl ?_
  refine OJ.nil (EJ.next ?_)
  refine CJ.seq ?_
  refine CJ.region ?_
  refine OJ.pures tU_ok 2 rfl ?_
  refine OJ.nil (EJ.next ?_)
  refine CJ.cond rfl (fun hb => ?_) (fun hb => ?_)
  · replace H := pif_t (of_decide_eq_true hb) H
    refine CJ.seq ?_
    refine CJ.region ?_
    refine OJ.pures tU_ok 3 rfl ?_
    refine OJ.nil (EJ.next ?_)
    refine CJ.ret (EJ.skR (?_))
    obtain rfl := Option.some.inj H
    exact EJ.fin rfl (.tmp rfl (.tmp rfl .nil)) ⟨rfl, hS.ext⟩
  · replace H := pif_f (of_decide_eq_false hb) H
    refine CJ.skip (EJ.next ?_)
    refine CJ.seq ?_
    refine CJ.region ?_
    refine OJ.pures tU_ok 2 rfl ?_
    obtain ⟨t2, ht2, H⟩ := pbind H
    refine OJ.callF rfl rfl rfl rfl rfl hb67 rfl (impl_greedy.c k _ Aa0 ca0 a0 (hS.rd' (i := 0) rfl) (hS.le' (i := 0) rfl) a1 30 _ ht2) ?_
    rintro _ w1 ⟨A3, c4, rfl, hs⟩
    replace hS := hS.addN hs
    obtain ⟨t5, ht5, H⟩ := pbind H
    refine OJ.callF rfl rfl rfl rfl rfl hb66 rfl (impl_size_int64.c _ A3 c4 t2 (hS.rd (i := 0) rfl) (hS.le (i := 0) rfl) _ ht5) ?_
    rintro _ w1 ⟨rfl, hs⟩
    replace hS := hS.grow hs
    refine OJ.pures tU_ok 2 rfl ?_
    refine OJ.nil (EJ.next ?_)
    refine CJ.ret (?_)
    obtain rfl := Option.some.inj H
    exact EJ.fin rfl (.tmp rfl (.tmp rfl .nil)) ⟨rfl, hS.ext⟩

def laws_FnExactLongestGreedy.f (k : Nat) (a0 : List Meadow) (a1 : Int) : Option Bool := (laws_szMeadowS.f a0 1048576).bind fun t1 => if t1 < 0 then (some true) else ((laws_toMeadowS.f k a0).bind fun t2 => (spec_LongestGreedy.f k t2 a1).bind fun t5 => (laws_toMeadowS.f k a0).bind fun t6 => (impl_LongestGreedy.f k t6 a1).bind fun t9 => (if t9.1 ≠ t5.1 then (some true) else (some (decide (t9.2 ≠ t5.2)))).bind fun y10 => if y10 = true then (some false) else ((laws_toMeadowS.f k a0).bind fun t11 => (laws_eqMeadowS.f k t6 t11).bind fun t14 => if (!t14) = true then (some false) else (some true)))
theorem laws_FnExactLongestGreedy.c (k : Nat) (w : World) (Aa0 : Option Addr) (ca0 : Nat) (a0 : List Meadow) (hr0 : Rd cMeadow w Aa0 a0) (hc0 : a0.length ≤ ca0) (a1 : Int) (r : Bool) (H : laws_FnExactLongestGreedy.f k a0 a1 = some r) :
    CV Try.prog 8 [.slice Aa0 a0.length ca0, .int .i64 a1].toArray w fun v w' => v = .bool r ∧ Ext w w' := by
  have hS := ((St.init w no).param cMeadow Aa0 ca0 a0 hr0 hc0)
  unfold laws_FnExactLongestGreedy.f at H
  refine CV.body Try.func8 rfl Try.ntmps8 rfl ?_
  refine CJ.seq ?_
  refine CJ.region ?_
  refine OJ.pures tU_ok 1 rfl ?_
  refine OJ.nil (EJ.next ?_)
  refine CJ.seq ?_
  refine CJ.region ?_
  refine OJ.pures tU_ok 1 rfl ?_
  refine OJ.nil (EJ.next ?_)
  refine CJ.seq ?_
  refine CJ.region ?_
  refine OJ.pures tU_ok 2 rfl ?_
  obtain ⟨t1, ht1, H⟩ := pbind H
  refine OJ.callF rfl rfl rfl rfl rfl hb15 rfl (laws_szMeadowS.c _ Aa0 ca0 a0 (hS.rd' (i := 0) rfl) (hS.le' (i := 0) rfl) 1048576 _ ht1) ?_
  rintro _ w1 ⟨rfl, hs⟩
  replace hS := hS.grow hs
  refine OJ.pures tU_ok 1 rfl ?_
  refine OJ.nil (EJ.next ?_)
  refine CJ.seq ?_
  refine CJ.seq ?_
  refine CJ.region ?_
  refine OJ.pures tU_ok 2 rfl ?_
  refine OJ.nil (EJ.next ?_)
  refine CJ.cond rfl (fun hb => ?_) (fun hb => ?_)
  · replace H := pif_t (of_decide_eq_true hb) H
    refine CJ.seq ?_
    refine CJ.region ?_
    refine OJ.pures tU_ok 1 rfl ?_
    refine OJ.nil (EJ.next ?_)
    refine CJ.ret (EJ.skR (?_))
    obtain rfl := Option.some.inj H
    exact EJ.fin rfl (.tmp rfl .nil) ⟨rfl, hS.ext⟩
  · replace H := pif_f (of_decide_eq_false hb) H
    refine CJ.skip (EJ.next ?_)
    refine CJ.seq ?_
    refine CJ.region ?_
    refine OJ.pures tU_ok 1 rfl ?_
    obtain ⟨t2, ht2, H⟩ := pbind H
    refine OJ.callF rfl rfl rfl rfl rfl hb17 rfl (laws_toMeadowS.c k _ Aa0 ca0 a0 (hS.rd' (i := 0) rfl) (hS.le' (i := 0) rfl) _ ht2) ?_
    rintro _ w1 ⟨A3, c4, rfl, hs⟩
    replace hS := hS.addN hs
    refine OJ.pures tU_ok 1 rfl ?_
    obtain ⟨t5, ht5, H⟩ := pbind H
    refine OJ.callF rfl rfl rfl rfl rfl hb34 rfl (spec_LongestGreedy.c k _ A3 c4 t2 (hS.rd (i := 0) rfl) (hS.le (i := 0) rfl) a1 _ ht5) ?_
    rintro _ w1 ⟨rfl, hs⟩
    replace hS := hS.grow hs
    refine OJ.pures tU_ok 5 rfl ?_
    refine OJ.nil (EJ.next ?_)
    refine CJ.seq ?_
    refine CJ.region ?_
    refine OJ.pures tU_ok 1 rfl ?_
    obtain ⟨t6, ht6, H⟩ := pbind H
    refine OJ.callF rfl rfl rfl rfl rfl hb17 rfl (laws_toMeadowS.c k _ Aa0 ca0 a0 (hS.rd' (i := 0) rfl) (hS.le' (i := 0) rfl) _ ht6) ?_
    rintro _ w1 ⟨A7, c8, rfl, hs⟩
    replace hS := hS.addN hs
    refine OJ.pures tU_ok 1 rfl ?_
    refine OJ.nil (EJ.next ?_)
    refine CJ.seq ?_
    refine CJ.region ?_
    refine OJ.pures tU_ok 2 rfl ?_
    obtain ⟨t9, ht9, H⟩ := pbind H
    refine OJ.callF rfl rfl rfl rfl rfl hb35 rfl (impl_LongestGreedy.c k _ A7 c8 t6 (hS.rd (i := 1) rfl) (hS.le (i := 1) rfl) a1 _ ht9) ?_
    rintro _ w1 ⟨rfl, hs⟩
    replace hS := hS.grow hs
    refine OJ.pures tU_ok 5 rfl ?_
    refine OJ.nil (EJ.next ?_)
    refine CJ.seq ?_
    obtain ⟨j45, H, K45⟩ := pbind H
    refine CJ.cut (fun F w1 => ∃ (y10 : Bool) , (some y10 : Option Bool) = some j45 ∧ F = [(0, .slice Aa0 a0.length ca0), (8, .slice A7 t6.length c8), (38, .bool y10)] ∧ St w no w1 [rowC cMeadow A7 c8 57 t6] [roC cMeadow Aa0 ca0 a0]) ?_ ?_
    · skip
      refine CJ.region ?_
      refine OJ.pures tU_ok 4 rfl ?_
      refine OJ.split (t := 34) rfl (fun hb => ?_) (fun hb => ?_)
      · replace H := pif_t (of_decide_eq_true hb) H
        refine OJ.pures tU_ok 4 rfl ?_
        refine OJ.nil ?_
        exact EJ.meet (F' := [(0, .slice Aa0 a0.length ca0), (8, .slice A7 t6.length c8), (38, .bool true)]) ⟨rfl, rfl, rfl, trivial⟩ ⟨true, H, rfl, hS.pick [1] [0] rfl⟩
      · replace H := pif_f (of_decide_eq_false hb) H
        refine OJ.pures tU_ok 4 rfl ?_
        refine OJ.nil ?_
        exact EJ.meet (F' := [(0, .slice Aa0 a0.length ca0), (8, .slice A7 t6.length c8), (38, .bool (decide (t9.2 ≠ t5.2)))]) ⟨rfl, rfl, rfl, trivial⟩ ⟨(decide (t9.2 ≠ t5.2)), H, rfl, hS.pick [1] [0] rfl⟩
    · rintro F w1 ⟨y10, he, rfl, hS⟩
      obtain rfl := Option.some.inj he
      have H := K45
      refine CJ.cond rfl (fun hb => ?_) (fun hb => ?_)
      · replace H := pif_t hb H
        refine CJ.seq ?_
        refine CJ.region ?_
        refine OJ.pures tU_ok 1 rfl ?_
        refine OJ.nil (EJ.next ?_)
        refine CJ.ret (EJ.skR (?_))
        obtain rfl := Option.some.inj H
        exact EJ.fin rfl (.tmp rfl .nil) ⟨rfl, hS.ext⟩
      · replace H := pifb_f hb H
        refine CJ.skip (EJ.next ?_)
        refine CJ.seq ?_
        refine CJ.seq ?_
        refine CJ.region ?_
        refine OJ.pures tU_ok 2 rfl ?_
        obtain ⟨t11, ht11, H⟩ := pbind H
        refine OJ.callF rfl rfl rfl rfl rfl hb17 rfl (laws_toMeadowS.c k _ Aa0 ca0 a0 (hS.rd' (i := 0) rfl) (hS.le' (i := 0) rfl) _ ht11) ?_
        rintro _ w1 ⟨A12, c13, rfl, hs⟩
        replace hS := hS.addN hs
        obtain ⟨t14, ht14, H⟩ := pbind H
        refine OJ.callF rfl rfl rfl rfl rfl hb19 rfl (laws_eqMeadowS.c k _ A7 c8 t6 (hS.rd (i := 0) rfl) (hS.le (i := 0) rfl) A12 c13 t11 (hS.rd (i := 1) rfl) (hS.le (i := 1) rfl) _ ht14) ?_
        rintro _ w1 ⟨rfl, hs⟩
        replace hS := hS.grow hs
        refine OJ.pures tU_ok 1 rfl ?_
        refine OJ.nil (EJ.next ?_)
        refine CJ.cond rfl (fun hb => ?_) (fun hb => ?_)
        · replace H := pif_t hb H
          refine CJ.seq ?_
          refine CJ.region ?_
          refine OJ.pures tU_ok 1 rfl ?_
          refine OJ.nil (EJ.next ?_)
          refine CJ.ret (EJ.skR (?_))
          obtain rfl := Option.some.inj H
          exact EJ.fin rfl (.tmp rfl .nil) ⟨rfl, hS.ext⟩
        · replace H := pifb_f hb H
          refine CJ.skip (EJ.next ?_)
          refine CJ.seq ?_
          refine CJ.region ?_
          refine OJ.pures tU_ok 1 rfl ?_
          refine OJ.nil (EJ.next ?_)
          refine CJ.ret (?_)
          obtain rfl := Option.some.inj H
          exact EJ.fin rfl (.tmp rfl .nil) ⟨rfl, hS.ext⟩

def spec_l07Plan.l1 (a0 : List Meadow) (a2 : List Int) : Nat → Bool → Int → Option Bool
  | 0, _, _ => none
  | k + 1, y2, y3 => if y3 < (a2.length : Int) then (if y2 = true then ((getI a2 y3).bind fun t4 => (spec_l07Index.f a0 t4).bind fun t5 => spec_l07Plan.l1 a0 a2 k t5 (IntKind.i64.wrap (y3 + 1))) else (spec_l07Plan.l1 a0 a2 k false (IntKind.i64.wrap (y3 + 1)))) else (some y2)
def spec_l07Plan.f (k : Nat) (a0 : List Meadow) (a1 : Int) (a2 : List Int) : Option Int := (spec_l07Plan.l1 a0 a2 k (decide ((a2.length : Int) ≤ 30)) 0).bind fun y1 => (spec_l07Asked.f k a0 a1 y1).bind fun t6 => some t6
theorem spec_l07Plan.c (k : Nat) (w : World) (Aa0 : Option Addr) (ca0 : Nat) (a0 : List Meadow) (hr0 : Rd cMeadow w Aa0 a0) (hc0 : a0.length ≤ ca0) (a1 : Int) (Aa2 : Option Addr) (ca2 : Nat) (a2 : List Int) (hr2 : Rd (ci .i64) w Aa2 a2) (hc2 : a2.length ≤ ca2) (r : Int) (H : spec_l07Plan.f k a0 a1 a2 = some r) :
    CV Try.prog 68 [.slice Aa0 a0.length ca0, .int .i64 a1, .slice Aa2 a2.length ca2].toArray w fun v w' => v = .int .i64 r ∧ Ext w w' := by
  have hS := (((St.init w no).param cMeadow Aa0 ca0 a0 hr0 hc0).param (ci .i64) Aa2 ca2 a2 hr2 hc2)
  unfold spec_l07Plan.f at H
  refine CV.body Try.func68 rfl Try.ntmps68 rfl ?_
  refine CJ.seq ?_
  refine CJ.region ?_
  refine OJ.pures tU_ok 1 rfl ?_
  refine OJ.nil (EJ.next ?_)
  refine CJ.seq ?_
  refine CJ.region ?_
  refine OJ.pures tU_ok 4 rfl ?_
  refine OJ.nil (EJ.next ?_)
  refine CJ.seq ?_
  refine CJ.seq ?_
  refine CJ.region ?_
  refine OJ.pures tU_ok 1 rfl ?_
  refine OJ.nil (EJ.next ?_)
  obtain ⟨j46, H, K46⟩ := pbind H
  refine CJ.cut1 (fun F w1 => ∃ (y1 : Bool) , (some y1 : Option Bool) = some j46 ∧ F = [(0, .slice Aa0 a0.length ca0), (1, .int .i64 a1), (7, .bool y1)] ∧ St w no w1 [] [roC cMeadow Aa0 ca0 a0, roC (ci .i64) Aa2 ca2 a2]) ?_ ?_
  · skip
    refine CJ.block ?_
    refine CJ.loop (fun k F w1 => ∃ (y2 : Bool) (y3 : Int), F = [(0, .slice Aa0 a0.length ca0), (1, .int .i64 a1), (2, .slice Aa2 a2.length ca2), (7, .bool y2), (8, .int .i64 y3)] ∧ St w no w1 [] [roC cMeadow Aa0 ca0 a0, roC (ci .i64) Aa2 ca2 a2] ∧ spec_l07Plan.l1 a0 a2 k y2 y3 = some j46) k (F' := [(0, .slice Aa0 a0.length ca0), (1, .int .i64 a1), (2, .slice Aa2 a2.length ca2), (7, .bool (decide ((a2.length : Int) ≤ 30))), (8, .int .i64 0)]) ⟨rfl, rfl, rfl, rfl, rfl, trivial⟩ ⟨(decide ((a2.length : Int) ≤ 30)), 0, rfl, hS.pick [] [0, 1] rfl, H⟩ ?_
    rintro k F w1 ⟨y2, y3, rfl, hS, H⟩
    cases k with
    | zero => rw [spec_l07Plan.l1] at H; cases H
    | succ k =>
      rw [spec_l07Plan.l1] at H
      refine CJ.seq ?_
      refine CJ.seq ?_
      refine CJ.region ?_
      refine OJ.pures tU_ok 4 rfl ?_
      refine OJ.nil (EJ.next ?_)
      refine CJ.cond rfl (fun hb => ?_) (fun hb => ?_)
      · replace H := pif_t (of_decide_eq_true hb) H
        refine CJ.skip (EJ.next ?_)
        refine CJ.seq ?_
        refine CJ.block ?_
        refine CJ.region ?_
        refine OJ.pures tU_ok 2 rfl ?_
        refine OJ.split (t := 19) rfl (fun hb => ?_) (fun hb => ?_)
        · replace H := pif_t hb H
          refine OJ.pures tU_ok 3 rfl ?_
          obtain ⟨t4, ht4, H⟩ := pbind H
          obtain ⟨ad4, e4⟩ := (hS.rd' (i := 1) rfl).some' ht4
          refine OJ.st rfl rfl rfl (SR.idxS tU_ok tI_ok rfl rfl rfl rfl e4 rfl (getI_some ht4).1) ?_
          refine OJ.st rfl rfl rfl (SR.load rfl rfl (fun w' hx => ld1 tU_ok rfl rfl (CA.ext ((hS.rd' (i := 1) rfl).at_ e4 ht4) hx) rfl)) ?_
          obtain ⟨t5, ht5, H⟩ := pbind H
          refine OJ.callF rfl rfl rfl rfl rfl hb61 rfl (spec_l07Index.c _ Aa0 ca0 a0 (hS.rd' (i := 0) rfl) (hS.le' (i := 0) rfl) t4 _ ht5) ?_
          rintro _ w1 ⟨rfl, hs⟩
          replace hS := hS.grow hs
          refine OJ.pures tU_ok 2 rfl ?_
          refine OJ.nil (EJ.blk (EJ.next ?_))
          refine CJ.region ?_
          refine OJ.pures tU_ok 3 rfl ?_
          refine OJ.nil ?_
          exact EJ.round k (F' := [(0, .slice Aa0 a0.length ca0), (1, .int .i64 a1), (2, .slice Aa2 a2.length ca2), (7, .bool t5), (8, .int .i64 (IntKind.i64.wrap (y3 + 1)))]) ⟨rfl, rfl, rfl, rfl, rfl, trivial⟩ (Nat.lt_succ_self _) ⟨t5, (IntKind.i64.wrap (y3 + 1)), rfl, hS.pick [] [0, 1] rfl, H⟩
        · replace H := pifb_f hb H
          refine OJ.pures tU_ok 8 rfl ?_
          refine OJ.nil (EJ.blk (EJ.next ?_))
          refine CJ.region ?_
          refine OJ.pures tU_ok 3 rfl ?_
          refine OJ.nil ?_
          exact EJ.round k (F' := [(0, .slice Aa0 a0.length ca0), (1, .int .i64 a1), (2, .slice Aa2 a2.length ca2), (7, .bool false), (8, .int .i64 (IntKind.i64.wrap (y3 + 1)))]) ⟨rfl, rfl, rfl, rfl, rfl, trivial⟩ (Nat.lt_succ_self _) ⟨false, (IntKind.i64.wrap (y3 + 1)), rfl, hS.pick [] [0, 1] rfl, H⟩
      · replace H := pif_f (of_decide_eq_false hb) H
        refine CJ.exit (EJ.skE (EJ.skE (EJ.hit (?_))))
        exact EJ.meet (F' := [(0, .slice Aa0 a0.length ca0), (1, .int .i64 a1), (7, .bool y2)]) ⟨rfl, rfl, rfl, trivial⟩ ⟨y2, H, rfl, hS.pick [] [0, 1] rfl⟩
  · rintro F w1 ⟨y1, he, rfl, hS⟩
    obtain rfl := Option.some.inj he
    have H := K46
    refine EJ.next ?_
    refine CJ.seq ?_
    refine CJ.region ?_
    refine OJ.pures tU_ok 3 rfl ?_
    obtain ⟨t6, ht6, H⟩ := pbind H
    refine OJ.callF rfl rfl rfl rfl rfl hb57 rfl (spec_l07Asked.c k _ Aa0 ca0 a0 (hS.rd' (i := 0) rfl) (hS.le' (i := 0) rfl) a1 y1 _ ht6) ?_
    rintro _ w1 ⟨rfl, hs⟩
    replace hS := hS.grow hs
    refine OJ.pures tU_ok 1 rfl ?_
    refine OJ.nil (EJ.next ?_)
    refine CJ.ret (?_)
    obtain rfl := Option.some.inj H
    exact EJ.fin rfl (.tmp rfl .nil) ⟨rfl, hS.ext⟩

def spec_l07Made.l1 (a1 : Int) (a2 : List Int) : Nat → (List Meadow) → Int → Option ((Int × List Meadow) ⊕ (List Meadow))
  | 0, _, _ => none
  | k + 1, y8, y11 => if y11 < (a2.length : Int) then ((getI a2 y11).bind fun t12 => (getI y8 t12).bind fun t13 => if (IntKind.i64.wrap t13.Grass) < a1 then (some (Sum.inl (y11, y8))) else ((getI a2 y11).bind fun t14 => (spec_l07Day.f k y8 a1 t14).bind fun t15 => spec_l07Made.l1 a1 a2 k t15 (IntKind.i64.wrap (y11 + 1)))) else (some (Sum.inr y8))
def spec_l07Made.f (k : Nat) (a0 : List Meadow) (a1 : Int) (a2 : List Int) : Option (Int × List Meadow) := (chk (([] : List Meadow).length + a0.length ≤ 4294967296)).bind fun u2 => (spec_l07Made.l1 a1 a2 k (([] : List Meadow) ++ a0) 0).bind fun s47 => match s47 with | .inl r => some r | .inr y5 => some ((-1), y5)
theorem spec_l07Made.c (k : Nat) (w : World) (Aa0 : Option Addr) (ca0 : Nat) (a0 : List Meadow) (hr0 : Rd cMeadow w Aa0 a0) (hc0 : a0.length ≤ ca0) (a1 : Int) (Aa2 : Option Addr) (ca2 : Nat) (a2 : List Int) (hr2 : Rd (ci .i64) w Aa2 a2) (hc2 : a2.length ≤ ca2) (r : Int × List Meadow) (H : spec_l07Made.f k a0 a1 a2 = some r) :
    CV Try.prog 69 [.slice Aa0 a0.length ca0, .int .i64 a1, .slice Aa2 a2.length ca2].toArray w fun v w' => ∃ (A1 : Option Addr) (c1 : Nat), v = .tuple #[.int .i64 r.1, .slice A1 r.2.length c1] ∧ St w no w' [rowC cMeadow A1 c1 57 r.2] [] := by
  have hS := (((St.init w no).param cMeadow Aa0 ca0 a0 hr0 hc0).param (ci .i64) Aa2 ca2 a2 hr2 hc2)
  unfold spec_l07Made.f at H
  refine CV.body Try.func69 rfl Try.ntmps69 rfl ?_
  refine CJ.seq ?_
  refine CJ.region ?_
  refine OJ.pures tU_ok 2 rfl ?_
  refine OJ.nil (EJ.next ?_)
  refine CJ.seq ?_
  refine CJ.region ?_
  refine OJ.ef rfl rfl rfl (Ef.lit tU_ok tI_ok hS (C := cMeadow) rfl rfl rfl rfl rfl rfl ([] : List Meadow) rfl rfl rfl rfl) ?_
  rintro _ w1 ⟨A1, rfl, hS⟩
  refine OJ.pures tU_ok 1 rfl ?_
  obtain ⟨u2, hu2, H⟩ := pbind H
  refine OJ.ew rfl rfl rfl (Ew.append tU_ok tI_ok (C := cMeadow) (xs := ([] : List Meadow)) (ys := a0) hS (i := 0) rfl rfl rfl rfl rfl rfl rfl rfl rfl rfl rfl rfl rfl (hS.rd' (i := 0) rfl) (chk_some hu2)) ?_
  rintro _ w1 ⟨A3, c4, rfl, hS⟩
  refine OJ.pures tU_ok 1 rfl ?_
  refine OJ.nil (EJ.next ?_)
  refine CJ.seq ?_
  refine CJ.seq ?_
  refine CJ.region ?_
  refine OJ.pures tU_ok 1 rfl ?_
  refine OJ.nil (EJ.next ?_)
  obtain ⟨j47, H, K47⟩ := pbind H
  refine CJ.cut1 (fun F w1 => ∃ (y5 : List Meadow) (A6 : Option Addr) (c7 : Nat), (some (Sum.inr y5) : Option ((Int × List Meadow) ⊕ (List Meadow))) = some j47 ∧ F = [(8, .slice A6 y5.length c7)] ∧ St w no w1 [rowC cMeadow A6 c7 57 y5] [roC cMeadow Aa0 ca0 a0, roC (ci .i64) Aa2 ca2 a2]) ?_ ?_
  · skip
    refine CJ.block ?_
    refine CJ.loop (fun k F w1 => ∃ (y8 : List Meadow) (y11 : Int) (A9 : Option Addr) (c10 : Nat), F = [(1, .int .i64 a1), (2, .slice Aa2 a2.length ca2), (8, .slice A9 y8.length c10), (9, .int .i64 y11)] ∧ St w no w1 [rowC cMeadow A9 c10 57 y8] [roC cMeadow Aa0 ca0 a0, roC (ci .i64) Aa2 ca2 a2] ∧ spec_l07Made.l1 a1 a2 k y8 y11 = some j47) k (F' := [(1, .int .i64 a1), (2, .slice Aa2 a2.length ca2), (8, .slice A3 (([] : List Meadow) ++ a0).length c4), (9, .int .i64 0)]) ⟨rfl, rfl, rfl, rfl, trivial⟩ ⟨(([] : List Meadow) ++ a0), 0, A3, c4, rfl, hS.pick [0] [0, 1] rfl, H⟩ ?_
    rintro k F w1 ⟨y8, y11, A9, c10, rfl, hS, H⟩
    cases k with
    | zero => rw [spec_l07Made.l1] at H; cases H
    | succ k =>
      rw [spec_l07Made.l1] at H
      refine CJ.seq ?_
      refine CJ.seq ?_
      refine CJ.region ?_
      refine OJ.pures tU_ok 4 rfl ?_
      refine OJ.nil (EJ.next ?_)
      refine CJ.cond rfl (fun hb => ?_) (fun hb => ?_)
      · replace H := pif_t (of_decide_eq_true hb) H
        refine CJ.skip (EJ.next ?_)
        refine CJ.seq ?_
        refine CJ.block ?_
        refine CJ.seq ?_
        refine CJ.seq ?_
        refine CJ.region ?_
        refine OJ.pures tU_ok 3 rfl ?_
        obtain ⟨t12, ht12, H⟩ := pbind H
        obtain ⟨ad12, e12⟩ := (hS.rd' (i := 1) rfl).some' ht12
        refine OJ.st rfl rfl rfl (SR.idxS tU_ok tI_ok rfl rfl rfl rfl e12 rfl (getI_some ht12).1) ?_
        refine OJ.st rfl rfl rfl (SR.load rfl rfl (fun w' hx => ld1 tU_ok rfl rfl (CA.ext ((hS.rd' (i := 1) rfl).at_ e12 ht12) hx) rfl)) ?_
        obtain ⟨t13, ht13, H⟩ := pbind H
        obtain ⟨ad13, e13⟩ := (hS.rd (i := 0) rfl).some' ht13
        refine OJ.st rfl rfl rfl (SR.idxS tU_ok tI_ok rfl rfl rfl rfl e13 rfl (getI_some ht13).1) ?_
        refine OJ.st rfl rfl rfl (SR.fieldAddr tU_ok tI_ok rfl rfl rfl rfl rfl rfl) ?_
        refine OJ.st rfl rfl rfl (SR.load rfl rfl (fun w' hx => ld1 tU_ok rfl rfl (CA.ext (CA.sub ((hS.rd (i := 0) rfl).at_ e13 ht13) 0) hx) rfl)) ?_
        refine OJ.pures tU_ok 3 rfl ?_
        refine OJ.nil (EJ.next ?_)
        refine CJ.cond rfl (fun hb => ?_) (fun hb => ?_)
        · replace H := pif_t (of_decide_eq_true hb) H
          refine CJ.seq ?_
          refine CJ.region ?_
          refine OJ.pures tU_ok 4 rfl ?_
          refine OJ.nil (EJ.next ?_)
          refine CJ.ret (EJ.skR (EJ.bkR (EJ.skR (EJ.skR (EJ.bkR (EJ.skR (EJ.skR (?_))))))))
          first | (obtain rfl := Option.some.inj H; have H := K47) | (obtain ⟨q47, H2, e47⟩ := pbind H; obtain rfl := Option.some.inj e47; obtain rfl := Option.some.inj K47; have H := H2)
          obtain rfl := Option.some.inj H
          exact EJ.fin rfl (.tmp rfl (.tmp rfl .nil)) ⟨A9, c10, rfl, hS.pick [0] [] rfl⟩
        · replace H := pif_f (of_decide_eq_false hb) H
          refine CJ.skip (EJ.next ?_)
          refine CJ.region ?_
          refine OJ.pures tU_ok 4 rfl ?_
          obtain ⟨t14, ht14, H⟩ := pbind H
          obtain ⟨ad14, e14⟩ := (hS.rd' (i := 1) rfl).some' ht14
          refine OJ.st rfl rfl rfl (SR.idxS tU_ok tI_ok rfl rfl rfl rfl e14 rfl (getI_some ht14).1) ?_
          refine OJ.st rfl rfl rfl (SR.load rfl rfl (fun w' hx => ld1 tU_ok rfl rfl (CA.ext ((hS.rd' (i := 1) rfl).at_ e14 ht14) hx) rfl)) ?_
          obtain ⟨t15, ht15, H⟩ := pbind H
          refine OJ.callF rfl rfl rfl rfl rfl hb62 rfl (spec_l07Day.c k _ A9 c10 y8 (hS.rd (i := 0) rfl) (hS.le (i := 0) rfl) a1 t14 _ ht15) ?_
          rintro _ w1 ⟨A16, c17, rfl, hs⟩
          replace hS := hS.addN hs
          refine OJ.pures tU_ok 1 rfl ?_
          refine OJ.nil (EJ.blk (EJ.next ?_))
          refine CJ.region ?_
          refine OJ.pures tU_ok 3 rfl ?_
          refine OJ.nil ?_
          exact EJ.round k (F' := [(1, .int .i64 a1), (2, .slice Aa2 a2.length ca2), (8, .slice A16 t15.length c17), (9, .int .i64 (IntKind.i64.wrap (y11 + 1)))]) ⟨rfl, rfl, rfl, rfl, trivial⟩ (Nat.lt_succ_self _) ⟨t15, (IntKind.i64.wrap (y11 + 1)), A16, c17, rfl, hS.pick [1] [0, 1] rfl, H⟩
      · replace H := pif_f (of_decide_eq_false hb) H
        refine CJ.exit (EJ.skE (EJ.skE (EJ.hit (?_))))
        exact EJ.meet (F' := [(8, .slice A9 y8.length c10)]) ⟨rfl, trivial⟩ ⟨y8, A9, c10, H, rfl, hS.pick [0] [0, 1] rfl⟩
  · rintro F w1 ⟨y5, A6, c7, he, rfl, hS⟩
    obtain rfl := Option.some.inj he
    have H := K47
    refine EJ.next ?_
    refine CJ.seq ?_
    refine CJ.region ?_
    refine OJ.pures tU_ok 3 rfl ?_
    refine OJ.nil (EJ.next ?_)
    refine CJ.ret (?_)
    obtain rfl := Option.some.inj H
    exact EJ.fin rfl (.tmp rfl (.tmp rfl .nil)) ⟨A6, c7, rfl, hS.pick [0] [] rfl⟩

def spec_CheckPlan.f (k : Nat) (a0 : List Meadow) (a1 : Int) (a2 : List Int) : Option (Bool × Int) := (spec_l07Plan.f k a0 a1 a2).bind fun t1 => if t1 ≠ 0 then (some (false, t1)) else ((spec_l07Made.f k a0 a1 a2).bind fun t2 => some (decide (t2.1 < 0), 0))
theorem spec_CheckPlan.c (k : Nat) (w : World) (Aa0 : Option Addr) (ca0 : Nat) (a0 : List Meadow) (hr0 : Rd cMeadow w Aa0 a0) (hc0 : a0.length ≤ ca0) (a1 : Int) (Aa2 : Option Addr) (ca2 : Nat) (a2 : List Int) (hr2 : Rd (ci .i64) w Aa2 a2) (hc2 : a2.length ≤ ca2) (r : Bool × Int) (H : spec_CheckPlan.f k a0 a1 a2 = some r) :
    CV Try.prog 36 [.slice Aa0 a0.length ca0, .int .i64 a1, .slice Aa2 a2.length ca2].toArray w fun v w' => v = .tuple #[.bool r.1, .int .i64 r.2] ∧ Ext w w' := by
  have hS := (((St.init w no).param cMeadow Aa0 ca0 a0 hr0 hc0).param (ci .i64) Aa2 ca2 a2 hr2 hc2)
  unfold spec_CheckPlan.f at H
  refine CV.body Try.func36 rfl Try.ntmps36 rfl ?_
  refine CJ.seq ?_
  refine CJ.region ?_
  refine OJ.pures tU_ok 2 rfl ?_
  refine OJ.nil (EJ.next ?_)
  refine CJ.seq ?_
  refine CJ.seq ?_
  refine CJ.region ?_
  refine OJ.pures tU_ok 3 rfl ?_
  obtain ⟨t1, ht1, H⟩ := pbind H
  refine OJ.callF rfl rfl rfl rfl rfl hb68 rfl (spec_l07Plan.c k _ Aa0 ca0 a0 (hS.rd' (i := 0) rfl) (hS.le' (i := 0) rfl) a1 Aa2 ca2 a2 (hS.rd' (i := 1) rfl) (hS.le' (i := 1) rfl) _ ht1) ?_
  rintro _ w1 ⟨rfl, hs⟩
  replace hS := hS.grow hs
  refine OJ.pures tU_ok 1 rfl ?_
  refine OJ.nil (EJ.next ?_)
  refine CJ.seq ?_
  refine CJ.region ?_
  refine OJ.pures tU_ok 2 rfl ?_
  refine OJ.nil (EJ.next ?_)
  refine CJ.cond rfl (fun hb => ?_) (fun hb => ?_)
  · replace H := pif_t (of_decide_eq_true hb) H
    refine CJ.seq ?_
    refine CJ.region ?_
    refine OJ.pures tU_ok 3 rfl ?_
    refine OJ.nil (EJ.next ?_)
    refine CJ.ret (EJ.skR (?_))
    obtain rfl := Option.some.inj H
    exact EJ.fin rfl (.tmp rfl (.tmp rfl .nil)) ⟨rfl, hS.ext⟩
  · replace H := pif_f (of_decide_eq_false hb) H
    refine CJ.skip (EJ.next ?_)
    refine CJ.seq ?_
    refine CJ.region ?_
    refine OJ.pures tU_ok 3 rfl ?_
    obtain ⟨t2, ht2, H⟩ := pbind H
    refine OJ.callF rfl rfl rfl rfl rfl hb69 rfl (spec_l07Made.c k _ Aa0 ca0 a0 (hS.rd' (i := 0) rfl) (hS.le' (i := 0) rfl) a1 Aa2 ca2 a2 (hS.rd' (i := 1) rfl) (hS.le' (i := 1) rfl) _ ht2) ?_
    rintro _ w1 ⟨A3, c4, rfl, hs⟩
    replace hS := hS.addN hs
    refine OJ.pures tU_ok 5 rfl ?_
    refine OJ.nil (EJ.next ?_)
    refine CJ.seq ?_
    refine CJ.region ?_
    refine OJ.pures tU_ok 4 rfl ?_
    refine OJ.nil (EJ.next ?_)
    refine CJ.ret (?_)
    obtain rfl := Option.some.inj H
    exact EJ.fin rfl (.tmp rfl (.tmp rfl .nil)) ⟨rfl, hS.ext⟩

def impl_planCode.f (k : Nat) (a0 : List Meadow) (a1 : Int) (a2 : List Int) : Option Int := (impl_meadowCode.f k a0 a1 a2).bind fun t1 => (impl_unless.f (decide ((a2.length : Int) ≤ 30)) 2).bind fun t2 => (impl_firstOf.f k ([t1, t2] : List Int)).bind fun t4 => some t4
theorem impl_planCode.c (k : Nat) (w : World) (Aa0 : Option Addr) (ca0 : Nat) (a0 : List Meadow) (hr0 : Rd cMeadow w Aa0 a0) (hc0 : a0.length ≤ ca0) (a1 : Int) (Aa2 : Option Addr) (ca2 : Nat) (a2 : List Int) (hr2 : Rd (ci .i64) w Aa2 a2) (hc2 : a2.length ≤ ca2) (r : Int) (H : impl_planCode.f k a0 a1 a2 = some r) :
    CV Try.prog 70 [.slice Aa0 a0.length ca0, .int .i64 a1, .slice Aa2 a2.length ca2].toArray w fun v w' => v = .int .i64 r ∧ Ext w w' := by
  have hS := (((St.init w no).param cMeadow Aa0 ca0 a0 hr0 hc0).param (ci .i64) Aa2 ca2 a2 hr2 hc2)
  unfold impl_planCode.f at H
  refine CV.body Try.func70 rfl Try.ntmps70 rfl ?_
  refine CJ.seq ?_
  refine CJ.region ?_
  refine OJ.pures tU_ok 1 rfl ?_
  refine OJ.nil (EJ.next ?_)
  refine CJ.seq ?_
  refine CJ.region ?_
  refine OJ.pures tU_ok 3 rfl ?_
  obtain ⟨t1, ht1, H⟩ := pbind H
  refine OJ.callF rfl rfl rfl rfl rfl hb63 rfl (impl_meadowCode.c k _ Aa0 ca0 a0 (hS.rd' (i := 0) rfl) (hS.le' (i := 0) rfl) a1 Aa2 ca2 a2 (hS.rd' (i := 1) rfl) (hS.le' (i := 1) rfl) _ ht1) ?_
  rintro _ w1 ⟨rfl, hs⟩
  replace hS := hS.grow hs
  refine OJ.pures tU_ok 3 rfl ?_
  obtain ⟨t2, ht2, H⟩ := pbind H
  refine OJ.callF rfl rfl rfl rfl rfl hb76 rfl (impl_unless.c _ (decide ((a2.length : Int) ≤ 30)) 2 _ ht2) ?_
  rintro _ w1 ⟨rfl, hs⟩
  replace hS := hS.grow hs
  refine OJ.ef rfl rfl rfl (Ef.lit tU_ok tI_ok hS (C := (ci .i64)) rfl rfl rfl rfl rfl rfl ([t1, t2] : List Int) rfl rfl rfl rfl) ?_
  rintro _ w1 ⟨A3, rfl, hS⟩
  obtain ⟨t4, ht4, H⟩ := pbind H
  refine OJ.callF rfl rfl rfl rfl rfl hb75 rfl (impl_firstOf.c k _ A3 (([t1, t2] : List Int).length) ([t1, t2] : List Int) (hS.rd (i := 0) rfl) (hS.le (i := 0) rfl) _ ht4) ?_
  rintro _ w1 ⟨rfl, hs⟩
  replace hS := hS.grow hs
  refine OJ.pures tU_ok 1 rfl ?_
  refine OJ.nil (EJ.next ?_)
  refine CJ.ret (?_)
  obtain rfl := Option.some.inj H
  exact EJ.fin rfl (.tmp rfl .nil) ⟨rfl, hS.ext⟩

def impl_follow.l1 (a1 : Int) (a2 : List Int) : Nat → (List Meadow) → Int → Option ((Int × List Meadow) ⊕ (List Meadow))
  | 0, _, _ => none
  | k + 1, y4, y7 => if y7 < (a2.length : Int) then ((getI a2 y7).bind fun t8 => (impl_behind.f k y4 a1 t8).bind fun t9 => if (!t9.2) = true then (some (Sum.inl (y7, y4))) else (impl_follow.l1 a1 a2 k t9.1 (IntKind.i64.wrap (y7 + 1)))) else (some (Sum.inr y4))
def impl_follow.f (k : Nat) (a0 : List Meadow) (a1 : Int) (a2 : List Int) : Option (Int × List Meadow) := (impl_follow.l1 a1 a2 k a0 0).bind fun s49 => match s49 with | .inl r => some r | .inr y1 => some ((a2.length : Int), y1)
theorem impl_follow.c (k : Nat) (w : World) (Aa0 : Option Addr) (ca0 : Nat) (a0 : List Meadow) (hr0 : Rd cMeadow w Aa0 a0) (hc0 : a0.length ≤ ca0) (a1 : Int) (Aa2 : Option Addr) (ca2 : Nat) (a2 : List Int) (hr2 : Rd (ci .i64) w Aa2 a2) (hc2 : a2.length ≤ ca2) (r : Int × List Meadow) (H : impl_follow.f k a0 a1 a2 = some r) :
    CV Try.prog 71 [.slice Aa0 a0.length ca0, .int .i64 a1, .slice Aa2 a2.length ca2].toArray w fun v w' => ∃ (A1 : Option Addr) (c1 : Nat), v = .tuple #[.int .i64 r.1, .slice A1 r.2.length c1] ∧ Ext w w' ∧ (roO (fun b => w.heap.size ≤ b ∨ (roC cMeadow Aa0 ca0 a0).fp b ∨ (roC (ci .i64) Aa2 ca2 a2).fp b ∨ False) cMeadow A1 c1 r.2).holds w' := by
  have hS := (((St.init w no).paramO (O := (fun b => w.heap.size ≤ b ∨ (roC cMeadow Aa0 ca0 a0).fp b ∨ (roC (ci .i64) Aa2 ca2 a2).fp b ∨ False)) cMeadow Aa0 ca0 a0 hr0 hc0 (fun b hb => .inr (.inl hb))).paramO (O := (fun b => w.heap.size ≤ b ∨ (roC cMeadow Aa0 ca0 a0).fp b ∨ (roC (ci .i64) Aa2 ca2 a2).fp b ∨ False)) (ci .i64) Aa2 ca2 a2 hr2 hc2 (fun b hb => .inr (.inr (.inl hb))))
  unfold impl_follow.f at H
  refine CV.body Try.func71 rfl Try.ntmps71 rfl ?_
  refine CJ.seq ?_
  refine CJ.region ?_
  refine OJ.pures tU_ok 2 rfl ?_
  refine OJ.nil (EJ.next ?_)
  refine CJ.seq ?_
  refine CJ.seq ?_
  refine CJ.region ?_
  refine OJ.pures tU_ok 3 rfl ?_
  refine OJ.nil (EJ.next ?_)
  obtain ⟨j49, H, K49⟩ := pbind H
  refine CJ.cut1 (fun F w1 => ∃ (y1 : List Meadow) (A2 : Option Addr) (c3 : Nat), (some (Sum.inr y1) : Option ((Int × List Meadow) ⊕ (List Meadow))) = some j49 ∧ F = [(0, .slice A2 y1.length c3), (2, .slice Aa2 a2.length ca2)] ∧ St w no w1 [] [roO (fun b => w.heap.size ≤ b ∨ (roC cMeadow Aa0 ca0 a0).fp b ∨ (roC (ci .i64) Aa2 ca2 a2).fp b ∨ False) cMeadow Aa0 ca0 a0, roO (fun b => w.heap.size ≤ b ∨ (roC cMeadow Aa0 ca0 a0).fp b ∨ (roC (ci .i64) Aa2 ca2 a2).fp b ∨ False) (ci .i64) Aa2 ca2 a2, roO (fun b => w.heap.size ≤ b ∨ (roC cMeadow Aa0 ca0 a0).fp b ∨ (roC (ci .i64) Aa2 ca2 a2).fp b ∨ False) cMeadow A2 c3 y1]) ?_ ?_
  · skip
    refine CJ.block ?_
    refine CJ.loop (fun k F w1 => ∃ (y4 : List Meadow) (y7 : Int) (A5 : Option Addr) (c6 : Nat), F = [(0, .slice A5 y4.length c6), (1, .int .i64 a1), (2, .slice Aa2 a2.length ca2), (12, .slice Aa2 a2.length ca2), (13, .int .i64 (a2.length : Int)), (14, .int .i64 y7)] ∧ St w no w1 [] [roO (fun b => w.heap.size ≤ b ∨ (roC cMeadow Aa0 ca0 a0).fp b ∨ (roC (ci .i64) Aa2 ca2 a2).fp b ∨ False) cMeadow Aa0 ca0 a0, roO (fun b => w.heap.size ≤ b ∨ (roC cMeadow Aa0 ca0 a0).fp b ∨ (roC (ci .i64) Aa2 ca2 a2).fp b ∨ False) (ci .i64) Aa2 ca2 a2, roO (fun b => w.heap.size ≤ b ∨ (roC cMeadow Aa0 ca0 a0).fp b ∨ (roC (ci .i64) Aa2 ca2 a2).fp b ∨ False) cMeadow A5 c6 y4] ∧ impl_follow.l1 a1 a2 k y4 y7 = some j49) k (F' := [(0, .slice Aa0 a0.length ca0), (1, .int .i64 a1), (2, .slice Aa2 a2.length ca2), (12, .slice Aa2 a2.length ca2), (13, .int .i64 (a2.length : Int)), (14, .int .i64 0)]) ⟨rfl, rfl, rfl, rfl, rfl, rfl, trivial⟩ ⟨a0, 0, Aa0, ca0, rfl, hS.pick [] [0, 1, 0] rfl, H⟩ ?_
    rintro k F w1 ⟨y4, y7, A5, c6, rfl, hS, H⟩
    cases k with
    | zero => rw [impl_follow.l1] at H; cases H
    | succ k =>
      rw [impl_follow.l1] at H
      refine CJ.seq ?_
      refine CJ.region ?_
      refine OJ.pures tU_ok 1 rfl ?_
      refine OJ.nil (EJ.next ?_)
      refine CJ.seq ?_
      refine CJ.cond rfl (fun hb => ?_) (fun hb => ?_)
      · replace H := pif_t (of_decide_eq_true hb) H
        refine CJ.skip (EJ.next ?_)
        refine CJ.seq ?_
        refine CJ.block ?_
        refine CJ.seq ?_
        refine CJ.region ?_
        refine OJ.pures tU_ok 1 rfl ?_
        obtain ⟨t8, ht8, H⟩ := pbind H
        obtain ⟨ad8, e8⟩ := (hS.rdO (i := 1) rfl).some' ht8
        refine OJ.st rfl rfl rfl (SR.idxS tU_ok tI_ok rfl rfl rfl rfl e8 rfl (getI_some ht8).1) ?_
        refine OJ.st rfl rfl rfl (SR.load rfl rfl (fun w' hx => ld1 tU_ok rfl rfl (CA.ext ((hS.rdO (i := 1) rfl).at_ e8 ht8) hx) rfl)) ?_
        refine OJ.pures tU_ok 2 rfl ?_
        refine OJ.nil (EJ.next ?_)
        refine CJ.seq ?_
        refine CJ.region ?_
        refine OJ.pures tU_ok 3 rfl ?_
        obtain ⟨t9, ht9, H⟩ := pbind H
        refine OJ.callF rfl rfl rfl rfl rfl hb64 rfl (impl_behind.c k _ A5 c6 y4 (hS.rdO (i := 2) rfl) (hS.leO (i := 2) rfl) a1 t8 _ ht9) ?_
        rintro _ w1 ⟨A10, c11, rfl, hs⟩
        replace hS := hS.addN hs
        refine OJ.pures tU_ok 5 rfl ?_
        refine OJ.nil (EJ.next ?_)
        refine CJ.seq ?_
        refine CJ.seq ?_
        refine CJ.region ?_
        refine OJ.pures tU_ok 2 rfl ?_
        refine OJ.nil (EJ.next ?_)
        refine CJ.cond rfl (fun hb => ?_) (fun hb => ?_)
        · replace H := pif_t hb H
          refine CJ.seq ?_
          refine CJ.region ?_
          refine OJ.pures tU_ok 4 rfl ?_
          refine OJ.nil (EJ.next ?_)
          refine CJ.ret (EJ.skR (EJ.bkR (EJ.skR (EJ.skR (EJ.bkR (EJ.skR (EJ.skR (?_))))))))
          first | (obtain rfl := Option.some.inj H; have H := K49) | (obtain ⟨q49, H2, e49⟩ := pbind H; obtain rfl := Option.some.inj e49; obtain rfl := Option.some.inj K49; have H := H2)
          obtain rfl := Option.some.inj H
          exact EJ.fin rfl (.tmp rfl (.tmp rfl .nil)) ⟨A5, c6, rfl, hS.ext, hS.holdsO (i := 2) rfl⟩
        · replace H := pifb_f hb H
          refine CJ.skip (EJ.next ?_)
          refine CJ.region ?_
          refine OJ.pures tU_ok 2 rfl ?_
          refine OJ.nil (EJ.blk (EJ.next ?_))
          refine CJ.region ?_
          refine OJ.pures tU_ok 2 rfl ?_
          refine OJ.nil ?_
          replace hS := hS.freezeO (O := (fun b => w.heap.size ≤ b ∨ (roC cMeadow Aa0 ca0 a0).fp b ∨ (roC (ci .i64) Aa2 ca2 a2).fp b ∨ False)) (fun b hb => .inl hb) (i := 0) rfl
          exact EJ.round k (F' := [(0, .slice A10 t9.1.length c11), (1, .int .i64 a1), (2, .slice Aa2 a2.length ca2), (12, .slice Aa2 a2.length ca2), (13, .int .i64 (a2.length : Int)), (14, .int .i64 (IntKind.i64.wrap (y7 + 1)))]) ⟨rfl, rfl, rfl, rfl, rfl, rfl, trivial⟩ (Nat.lt_succ_self _) ⟨t9.1, (IntKind.i64.wrap (y7 + 1)), A10, c11, rfl, hS.pick [] [0, 1, 3] rfl, H⟩
      · replace H := pif_f (of_decide_eq_false hb) H
        refine CJ.exit (EJ.skE (EJ.skE (EJ.hit (?_))))
        exact EJ.meet (F' := [(0, .slice A5 y4.length c6), (2, .slice Aa2 a2.length ca2)]) ⟨rfl, rfl, trivial⟩ ⟨y4, A5, c6, H, rfl, hS.pick [] [0, 1, 2] rfl⟩
  · rintro F w1 ⟨y1, A2, c3, he, rfl, hS⟩
    obtain rfl := Option.some.inj he
    have H := K49
    refine EJ.next ?_
    refine CJ.seq ?_
    refine CJ.region ?_
    refine OJ.pures tU_ok 5 rfl ?_
    refine OJ.nil (EJ.next ?_)
    refine CJ.ret (?_)
    obtain rfl := Option.some.inj H
    exact EJ.fin rfl (.tmp rfl (.tmp rfl .nil)) ⟨A2, c3, rfl, hS.ext, hS.holdsO (i := 2) rfl⟩

def impl_CheckPlan.f (k : Nat) (a0 : List Meadow) (a1 : Int) (a2 : List Int) : Option (Bool × Int) := (impl_planCode.f k a0 a1 a2).bind fun t1 => if t1 ≠ 0 then (some (false, t1)) else ((impl_follow.f k a0 a1 a2).bind fun t2 => some (decide (t2.1 = (a2.length : Int)), 0))
theorem impl_CheckPlan.c (k : Nat) (w : World) (Aa0 : Option Addr) (ca0 : Nat) (a0 : List Meadow) (hr0 : Rd cMeadow w Aa0 a0) (hc0 : a0.length ≤ ca0) (a1 : Int) (Aa2 : Option Addr) (ca2 : Nat) (a2 : List Int) (hr2 : Rd (ci .i64) w Aa2 a2) (hc2 : a2.length ≤ ca2) (r : Bool × Int) (H : impl_CheckPlan.f k a0 a1 a2 = some r) :
    CV Try.prog 37 [.slice Aa0 a0.length ca0, .int .i64 a1, .slice Aa2 a2.length ca2].toArray w fun v w' => v = .tuple #[.bool r.1, .int .i64 r.2] ∧ Ext w w' := by
  have hS := (((St.init w no).param cMeadow Aa0 ca0 a0 hr0 hc0).param (ci .i64) Aa2 ca2 a2 hr2 hc2)
  unfold impl_CheckPlan.f at H
  refine CV.body Try.func37 rfl Try.ntmps37 rfl ?_
  refine CJ.seq ?_
  refine CJ.region ?_
  refine OJ.pures tU_ok 2 rfl ?_
  refine OJ.nil (EJ.next ?_)
  refine CJ.seq ?_
  refine CJ.seq ?_
  refine CJ.region ?_
  refine OJ.pures tU_ok 3 rfl ?_
  obtain ⟨t1, ht1, H⟩ := pbind H
  refine OJ.callF rfl rfl rfl rfl rfl hb70 rfl (impl_planCode.c k _ Aa0 ca0 a0 (hS.rd' (i := 0) rfl) (hS.le' (i := 0) rfl) a1 Aa2 ca2 a2 (hS.rd' (i := 1) rfl) (hS.le' (i := 1) rfl) _ ht1) ?_
  rintro _ w1 ⟨rfl, hs⟩
  replace hS := hS.grow hs
  refine OJ.pures tU_ok 1 rfl ?_
  refine OJ.nil (EJ.next ?_)
  refine CJ.seq ?_
  refine CJ.region ?_
  refine OJ.pures tU_ok 2 rfl ?_
  refine OJ.nil (EJ.next ?_)
  refine CJ.cond rfl (fun hb => ?_) (fun hb => ?_)
  · replace H := pif_t (of_decide_eq_true hb) H
    refine CJ.seq ?_
    refine CJ.region ?_
    refine OJ.pures tU_ok 3 rfl ?_
    refine OJ.nil (EJ.next ?_)
    refine CJ.ret (EJ.skR (?_))
    obtain rfl := Option.some.inj H
    exact EJ.fin rfl (.tmp rfl (.tmp rfl .nil)) ⟨rfl, hS.ext⟩
  · replace H := pif_f (of_decide_eq_false hb) H
    refine CJ.skip (EJ.next ?_)
    refine CJ.seq ?_
    refine CJ.region ?_
    refine OJ.pures tU_ok 3 rfl ?_
    obtain ⟨t2, ht2, H⟩ := pbind H
    refine OJ.callF rfl rfl rfl rfl rfl hb71 rfl (impl_follow.c k _ Aa0 ca0 a0 (hS.rd' (i := 0) rfl) (hS.le' (i := 0) rfl) a1 Aa2 ca2 a2 (hS.rd' (i := 1) rfl) (hS.le' (i := 1) rfl) _ ht2) ?_
    rintro _ w1 ⟨A3, c4, rfl, hx, hr⟩
    replace hS := hS.addRo hx hr (fun b hb => by rcases hb with hb | hb | hb | hb; exact .inl hb; exact .inr ⟨_, List.mem_of_getElem? (i := 0) rfl, hb⟩; exact .inr ⟨_, List.mem_of_getElem? (i := 1) rfl, hb⟩; exact hb.elim)
    refine OJ.pures tU_ok 5 rfl ?_
    refine OJ.nil (EJ.next ?_)
    refine CJ.seq ?_
    refine CJ.region ?_
    refine OJ.pures tU_ok 6 rfl ?_
    refine OJ.nil (EJ.next ?_)
    refine CJ.ret (?_)
    obtain rfl := Option.some.inj H
    exact EJ.fin rfl (.tmp rfl (.tmp rfl .nil)) ⟨rfl, hS.ext⟩

def laws_FnExactCheckPlan.f (k : Nat) (a0 : List Meadow) (a1 : Int) (a2 : List Int) : Option Bool := if 1048576 < (a2.length : Int) then (some true) else ((laws_szMeadowS.f a0 1048576).bind fun t1 => if t1 < 0 then (some true) else ((laws_toMeadowS.f k a0).bind fun t2 => (laws_toInt64S.f k a2).bind fun t5 => (spec_CheckPlan.f k t2 a1 t5).bind fun t8 => (laws_toMeadowS.f k a0).bind fun t9 => (laws_toInt64S.f k a2).bind fun t12 => (impl_CheckPlan.f k t9 a1 t12).bind fun t15 => (if t15.1 ≠ t8.1 then (some true) else (some (decide (t15.2 ≠ t8.2)))).bind fun y16 => if y16 = true then (some false) else ((laws_toMeadowS.f k a0).bind fun t17 => (laws_eqMeadowS.f k t9 t17).bind fun t20 => if (!t20) = true then (some false) else ((laws_toInt64S.f k a2).bind fun t21 => (laws_eqInt64S.f k t12 t21).bind fun t24 => if (!t24) = true then (some false) else (some true)))))
theorem laws_FnExactCheckPlan.c (k : Nat) (w : World) (Aa0 : Option Addr) (ca0 : Nat) (a0 : List Meadow) (hr0 : Rd cMeadow w Aa0 a0) (hc0 : a0.length ≤ ca0) (a1 : Int) (Aa2 : Option Addr) (ca2 : Nat) (a2 : List Int) (hr2 : Rd (ci .i64) w Aa2 a2) (hc2 : a2.length ≤ ca2) (r : Bool) (H : laws_FnExactCheckPlan.f k a0 a1 a2 = some r) :
    CV Try.prog 9 [.slice Aa0 a0.length ca0, .int .i64 a1, .slice Aa2 a2.length ca2].toArray w fun v w' => v = .bool r ∧ Ext w w' := by
  have hS := (((St.init w no).param cMeadow Aa0 ca0 a0 hr0 hc0).param (ci .i64) Aa2 ca2 a2 hr2 hc2)
  unfold laws_FnExactCheckPlan.f at H
  refine CV.body Try.func9 rfl Try.ntmps9 rfl ?_
  refine CJ.seq ?_
  refine CJ.region ?_
  refine OJ.pures tU_ok 1 rfl ?_
  refine OJ.nil (EJ.next ?_)
  refine CJ.seq ?_
  refine CJ.seq ?_
  refine CJ.region ?_
  refine OJ.pures tU_ok 3 rfl ?_
  refine OJ.nil (EJ.next ?_)
  refine CJ.cond rfl (fun hb => ?_) (fun hb => ?_)
  · replace H := pif_t (of_decide_eq_true hb) H
    refine CJ.seq ?_
    refine CJ.region ?_
    refine OJ.pures tU_ok 1 rfl ?_
    refine OJ.nil (EJ.next ?_)
    refine CJ.ret (EJ.skR (?_))
    obtain rfl := Option.some.inj H
    exact EJ.fin rfl (.tmp rfl .nil) ⟨rfl, hS.ext⟩
  · replace H := pif_f (of_decide_eq_false hb) H
    refine CJ.skip (EJ.next ?_)
    refine CJ.seq ?_
    refine CJ.region ?_
    refine OJ.pures tU_ok 1 rfl ?_
    refine OJ.nil (EJ.next ?_)
    refine CJ.seq ?_
    refine CJ.region ?_
    refine OJ.pures tU_ok 2 rfl ?_
    obtain ⟨t1, ht1, H⟩ := pbind H
    refine OJ.callF rfl rfl rfl rfl rfl hb15 rfl (laws_szMeadowS.c _ Aa0 ca0 a0 (hS.rd' (i := 0) rfl) (hS.le' (i := 0) rfl) 1048576 _ ht1) ?_
    rintro _ w1 ⟨rfl, hs⟩
    replace hS := hS.grow hs
    refine OJ.pures tU_ok 1 rfl ?_
    refine OJ.nil (EJ.next ?_)
    refine CJ.seq ?_
    refine CJ.seq ?_
    refine CJ.region ?_
    refine OJ.pures tU_ok 2 rfl ?_
    refine OJ.nil (EJ.next ?_)
    refine CJ.cond rfl (fun hb => ?_) (fun hb => ?_)
    · replace H := pif_t (of_decide_eq_true hb) H
      refine CJ.seq ?_
      refine CJ.region ?_
      refine OJ.pures tU_ok 1 rfl ?_
      refine OJ.nil (EJ.next ?_)
      refine CJ.ret (EJ.skR (?_))
      obtain rfl := Option.some.inj H
      exact EJ.fin rfl (.tmp rfl .nil) ⟨rfl, hS.ext⟩
    · replace H := pif_f (of_decide_eq_false hb) H
      refine CJ.skip (EJ.next ?_)
      refine CJ.seq ?_
      refine CJ.region ?_
      refine OJ.pures tU_ok 1 rfl ?_
      obtain ⟨t2, ht2, H⟩ := pbind H
      refine OJ.callF rfl rfl rfl rfl rfl hb17 rfl (laws_toMeadowS.c k _ Aa0 ca0 a0 (hS.rd' (i := 0) rfl) (hS.le' (i := 0) rfl) _ ht2) ?_
      rintro _ w1 ⟨A3, c4, rfl, hs⟩
      replace hS := hS.addN hs
      refine OJ.pures tU_ok 2 rfl ?_
      obtain ⟨t5, ht5, H⟩ := pbind H
      refine OJ.callF rfl rfl rfl rfl rfl hb23 rfl (laws_toInt64S.c k _ Aa2 ca2 a2 (hS.rd' (i := 1) rfl) (hS.le' (i := 1) rfl) _ ht5) ?_
      rintro _ w1 ⟨A6, c7, rfl, hs⟩
      replace hS := hS.addN hs
      obtain ⟨t8, ht8, H⟩ := pbind H
      refine OJ.callF rfl rfl rfl rfl rfl hb36 rfl (spec_CheckPlan.c k _ A3 c4 t2 (hS.rd (i := 0) rfl) (hS.le (i := 0) rfl) a1 A6 c7 t5 (hS.rd (i := 1) rfl) (hS.le (i := 1) rfl) _ ht8) ?_
      rintro _ w1 ⟨rfl, hs⟩
      replace hS := hS.grow hs
      refine OJ.pures tU_ok 5 rfl ?_
      refine OJ.nil (EJ.next ?_)
      refine CJ.seq ?_
      refine CJ.region ?_
      refine OJ.pures tU_ok 1 rfl ?_
      obtain ⟨t9, ht9, H⟩ := pbind H
      refine OJ.callF rfl rfl rfl rfl rfl hb17 rfl (laws_toMeadowS.c k _ Aa0 ca0 a0 (hS.rd' (i := 0) rfl) (hS.le' (i := 0) rfl) _ ht9) ?_
      rintro _ w1 ⟨A10, c11, rfl, hs⟩
      replace hS := hS.addN hs
      refine OJ.pures tU_ok 1 rfl ?_
      refine OJ.nil (EJ.next ?_)
      refine CJ.seq ?_
      refine CJ.region ?_
      refine OJ.pures tU_ok 1 rfl ?_
      obtain ⟨t12, ht12, H⟩ := pbind H
      refine OJ.callF rfl rfl rfl rfl rfl hb23 rfl (laws_toInt64S.c k _ Aa2 ca2 a2 (hS.rd' (i := 1) rfl) (hS.le' (i := 1) rfl) _ ht12) ?_
      rintro _ w1 ⟨A13, c14, rfl, hs⟩
      replace hS := hS.addN hs
      refine OJ.pures tU_ok 1 rfl ?_
      refine OJ.nil (EJ.next ?_)
      refine CJ.seq ?_
      refine CJ.region ?_
      refine OJ.pures tU_ok 3 rfl ?_
      obtain ⟨t15, ht15, H⟩ := pbind H
      refine OJ.callF rfl rfl rfl rfl rfl hb37 rfl (impl_CheckPlan.c k _ A10 c11 t9 (hS.rd (i := 2) rfl) (hS.le (i := 2) rfl) a1 A13 c14 t12 (hS.rd (i := 3) rfl) (hS.le (i := 3) rfl) _ ht15) ?_
      rintro _ w1 ⟨rfl, hs⟩
      replace hS := hS.grow hs
      refine OJ.pures tU_ok 5 rfl ?_
      refine OJ.nil (EJ.next ?_)
      refine CJ.seq ?_
      obtain ⟨j50, H, K50⟩ := pbind H
      refine CJ.cut (fun F w1 => ∃ (y16 : Bool) , (some y16 : Option Bool) = some j50 ∧ F = [(0, .slice Aa0 a0.length ca0), (2, .slice Aa2 a2.length ca2), (10, .slice A10 t9.length c11), (11, .slice A13 t12.length c14), (49, .bool y16)] ∧ St w no w1 [rowC cMeadow A10 c11 57 t9, rowC (ci .i64) A13 c14 2 t12] [roC cMeadow Aa0 ca0 a0, roC (ci .i64) Aa2 ca2 a2]) ?_ ?_
      · skip
        refine CJ.region ?_
        refine OJ.pures tU_ok 2 rfl ?_
        refine OJ.st rfl rfl rfl (SR.neB tU_ok rfl rfl rfl rfl) ?_
        refine OJ.pures tU_ok 1 rfl ?_
        refine OJ.split (t := 45) rfl (fun hb => ?_) (fun hb => ?_)
        · replace H := pif_t (of_decide_eq_true hb) H
          refine OJ.pures tU_ok 4 rfl ?_
          refine OJ.nil ?_
          exact EJ.meet (F' := [(0, .slice Aa0 a0.length ca0), (2, .slice Aa2 a2.length ca2), (10, .slice A10 t9.length c11), (11, .slice A13 t12.length c14), (49, .bool true)]) ⟨rfl, rfl, rfl, rfl, rfl, trivial⟩ ⟨true, H, rfl, hS.pick [2, 3] [0, 1] rfl⟩
        · replace H := pif_f (of_decide_eq_false hb) H
          refine OJ.pures tU_ok 4 rfl ?_
          refine OJ.nil ?_
          exact EJ.meet (F' := [(0, .slice Aa0 a0.length ca0), (2, .slice Aa2 a2.length ca2), (10, .slice A10 t9.length c11), (11, .slice A13 t12.length c14), (49, .bool (decide (t15.2 ≠ t8.2)))]) ⟨rfl, rfl, rfl, rfl, rfl, trivial⟩ ⟨(decide (t15.2 ≠ t8.2)), H, rfl, hS.pick [2, 3] [0, 1] rfl⟩
      · rintro F w1 ⟨y16, he, rfl, hS⟩
        obtain rfl := Option.some.inj he
        have H := K50
        refine CJ.cond rfl (fun hb => ?_) (fun hb => ?_)
        · replace H := pif_t hb H
          refine CJ.seq ?_
          refine CJ.region ?_
          refine OJ.pures tU_ok 1 rfl ?_
          refine OJ.nil (EJ.next ?_)
          refine CJ.ret (EJ.skR (?_))
          obtain rfl := Option.some.inj H
          exact EJ.fin rfl (.tmp rfl .nil) ⟨rfl, hS.ext⟩
        · replace H := pifb_f hb H
          refine CJ.skip (EJ.next ?_)
          refine CJ.seq ?_
          refine CJ.seq ?_
          refine CJ.region ?_
          refine OJ.pures tU_ok 2 rfl ?_
          obtain ⟨t17, ht17, H⟩ := pbind H
          refine OJ.callF rfl rfl rfl rfl rfl hb17 rfl (laws_toMeadowS.c k _ Aa0 ca0 a0 (hS.rd' (i := 0) rfl) (hS.le' (i := 0) rfl) _ ht17) ?_
          rintro _ w1 ⟨A18, c19, rfl, hs⟩
          replace hS := hS.addN hs
          obtain ⟨t20, ht20, H⟩ := pbind H
          refine OJ.callF rfl rfl rfl rfl rfl hb19 rfl (laws_eqMeadowS.c k _ A10 c11 t9 (hS.rd (i := 0) rfl) (hS.le (i := 0) rfl) A18 c19 t17 (hS.rd (i := 2) rfl) (hS.le (i := 2) rfl) _ ht20) ?_
          rintro _ w1 ⟨rfl, hs⟩
          replace hS := hS.grow hs
          refine OJ.pures tU_ok 1 rfl ?_
          refine OJ.nil (EJ.next ?_)
          refine CJ.cond rfl (fun hb => ?_) (fun hb => ?_)
          · replace H := pif_t hb H
            refine CJ.seq ?_
            refine CJ.region ?_
            refine OJ.pures tU_ok 1 rfl ?_
            refine OJ.nil (EJ.next ?_)
            refine CJ.ret (EJ.skR (?_))
            obtain rfl := Option.some.inj H
            exact EJ.fin rfl (.tmp rfl .nil) ⟨rfl, hS.ext⟩
          · replace H := pifb_f hb H
            refine CJ.skip (EJ.next ?_)
            refine CJ.seq ?_
            refine CJ.seq ?_
            refine CJ.region ?_
            refine OJ.pures tU_ok 2 rfl ?_
            obtain ⟨t21, ht21, H⟩ := pbind H
            refine OJ.callF rfl rfl rfl rfl rfl hb23 rfl (laws_toInt64S.c k _ Aa2 ca2 a2 (hS.rd' (i := 1) rfl) (hS.le' (i := 1) rfl) _ ht21) ?_
            rintro _ w1 ⟨A22, c23, rfl, hs⟩
            replace hS := hS.addN hs
            obtain ⟨t24, ht24, H⟩ := pbind H
            refine OJ.callF rfl rfl rfl rfl rfl hb25 rfl (laws_eqInt64S.c k _ A13 c14 t12 (hS.rd (i := 1) rfl) (hS.le (i := 1) rfl) A22 c23 t21 (hS.rd (i := 3) rfl) (hS.le (i := 3) rfl) _ ht24) ?_
            rintro _ w1 ⟨rfl, hs⟩
            replace hS := hS.grow hs
            refine OJ.pures tU_ok 1 rfl ?_
            refine OJ.nil (EJ.next ?_)
            refine CJ.cond rfl (fun hb => ?_) (fun hb => ?_)
            · replace H := pif_t hb H
              refine CJ.seq ?_
              refine CJ.region ?_
              refine OJ.pures tU_ok 1 rfl ?_
              refine OJ.nil (EJ.next ?_)
              refine CJ.ret (EJ.skR (?_))
              obtain rfl := Option.some.inj H
              exact EJ.fin rfl (.tmp rfl .nil) ⟨rfl, hS.ext⟩
            · replace H := pifb_f hb H
              refine CJ.skip (EJ.next ?_)
              refine CJ.seq ?_
              refine CJ.region ?_
              refine OJ.pures tU_ok 1 rfl ?_
              refine OJ.nil (EJ.next ?_)
              refine CJ.ret (?_)
              obtain rfl := Option.some.inj H
              exact EJ.fin rfl (.tmp rfl .nil) ⟨rfl, hS.ext⟩

def spec_FirstHungry.f (k : Nat) (a0 : List Meadow) (a1 : Int) (a2 : List Int) : Option (Int × Int) := (spec_l07Plan.f k a0 a1 a2).bind fun t1 => if t1 ≠ 0 then (some (0, t1)) else ((spec_l07Made.f k a0 a1 a2).bind fun t2 => if t2.1 < 0 then (some (0, 6)) else (some (t2.1, 0)))
theorem spec_FirstHungry.c (k : Nat) (w : World) (Aa0 : Option Addr) (ca0 : Nat) (a0 : List Meadow) (hr0 : Rd cMeadow w Aa0 a0) (hc0 : a0.length ≤ ca0) (a1 : Int) (Aa2 : Option Addr) (ca2 : Nat) (a2 : List Int) (hr2 : Rd (ci .i64) w Aa2 a2) (hc2 : a2.length ≤ ca2) (r : Int × Int) (H : spec_FirstHungry.f k a0 a1 a2 = some r) :
    CV Try.prog 38 [.slice Aa0 a0.length ca0, .int .i64 a1, .slice Aa2 a2.length ca2].toArray w fun v w' => v = .tuple #[.int .i64 r.1, .int .i64 r.2] ∧ Ext w w' := by
  have hS := (((St.init w no).param cMeadow Aa0 ca0 a0 hr0 hc0).param (ci .i64) Aa2 ca2 a2 hr2 hc2)
  unfold spec_FirstHungry.f at H
  refine CV.body Try.func38 rfl Try.ntmps38 rfl ?_
  refine CJ.seq ?_
  refine CJ.region ?_
  refine OJ.pures tU_ok 2 rfl ?_
  refine OJ.nil (EJ.next ?_)
  refine CJ.seq ?_
  refine CJ.seq ?_
  refine CJ.region ?_
  refine OJ.pures tU_ok 3 rfl ?_
  obtain ⟨t1, ht1, H⟩ := pbind H
  refine OJ.callF rfl rfl rfl rfl rfl hb68 rfl (spec_l07Plan.c k _ Aa0 ca0 a0 (hS.rd' (i := 0) rfl) (hS.le' (i := 0) rfl) a1 Aa2 ca2 a2 (hS.rd' (i := 1) rfl) (hS.le' (i := 1) rfl) _ ht1) ?_
  rintro _ w1 ⟨rfl, hs⟩
  replace hS := hS.grow hs
  refine OJ.pures tU_ok 1 rfl ?_
  refine OJ.nil (EJ.next ?_)
  refine CJ.seq ?_
  refine CJ.region ?_
  refine OJ.pures tU_ok 2 rfl ?_
  refine OJ.nil (EJ.next ?_)
  refine CJ.cond rfl (fun hb => ?_) (fun hb => ?_)
  · replace H := pif_t (of_decide_eq_true hb) H
    refine CJ.seq ?_
    refine CJ.region ?_
    refine OJ.pures tU_ok 3 rfl ?_
    refine OJ.nil (EJ.next ?_)
    refine CJ.ret (EJ.skR (?_))
    obtain rfl := Option.some.inj H
    exact EJ.fin rfl (.tmp rfl (.tmp rfl .nil)) ⟨rfl, hS.ext⟩
  · replace H := pif_f (of_decide_eq_false hb) H
    refine CJ.skip (EJ.next ?_)
    refine CJ.seq ?_
    refine CJ.region ?_
    refine OJ.pures tU_ok 3 rfl ?_
    obtain ⟨t2, ht2, H⟩ := pbind H
    refine OJ.callF rfl rfl rfl rfl rfl hb69 rfl (spec_l07Made.c k _ Aa0 ca0 a0 (hS.rd' (i := 0) rfl) (hS.le' (i := 0) rfl) a1 Aa2 ca2 a2 (hS.rd' (i := 1) rfl) (hS.le' (i := 1) rfl) _ ht2) ?_
    rintro _ w1 ⟨A3, c4, rfl, hs⟩
    replace hS := hS.addN hs
    refine OJ.pures tU_ok 5 rfl ?_
    refine OJ.nil (EJ.next ?_)
    refine CJ.seq ?_
    refine CJ.seq ?_
    refine CJ.region ?_
    refine OJ.pures tU_ok 2 rfl ?_
    refine OJ.nil (EJ.next ?_)
    refine CJ.cond rfl (fun hb => ?_) (fun hb => ?_)
    · replace H := pif_t (of_decide_eq_true hb) H
      refine CJ.seq ?_
      refine CJ.region ?_
      refine OJ.pures tU_ok 2 rfl ?_
      refine OJ.nil (EJ.next ?_)
      refine CJ.ret (EJ.skR (?_))
      obtain rfl := Option.some.inj H
      exact EJ.fin rfl (.tmp rfl (.tmp rfl .nil)) ⟨rfl, hS.ext⟩
    · replace H := pif_f (of_decide_eq_false hb) H
      refine CJ.skip (EJ.next ?_)
      refine CJ.seq ?_
      refine CJ.region ?_
      refine OJ.pures tU_ok 3 rfl ?_
      refine OJ.nil (EJ.next ?_)
      refine CJ.ret (?_)
      obtain rfl := Option.some.inj H
      exact EJ.fin rfl (.tmp rfl (.tmp rfl .nil)) ⟨rfl, hS.ext⟩

def impl_FirstHungry.f (k : Nat) (a0 : List Meadow) (a1 : Int) (a2 : List Int) : Option (Int × Int) := (impl_planCode.f k a0 a1 a2).bind fun t1 => if t1 ≠ 0 then (some (0, t1)) else ((impl_follow.f k a0 a1 a2).bind fun t2 => if t2.1 = (a2.length : Int) then (some (0, 6)) else (some (t2.1, 0)))
theorem impl_FirstHungry.c (k : Nat) (w : World) (Aa0 : Option Addr) (ca0 : Nat) (a0 : List Meadow) (hr0 : Rd cMeadow w Aa0 a0) (hc0 : a0.length ≤ ca0) (a1 : Int) (Aa2 : Option Addr) (ca2 : Nat) (a2 : List Int) (hr2 : Rd (ci .i64) w Aa2 a2) (hc2 : a2.length ≤ ca2) (r : Int × Int) (H : impl_FirstHungry.f k a0 a1 a2 = some r) :
    CV Try.prog 39 [.slice Aa0 a0.length ca0, .int .i64 a1, .slice Aa2 a2.length ca2].toArray w fun v w' => v = .tuple #[.int .i64 r.1, .int .i64 r.2] ∧ Ext w w' := by
  have hS := (((St.init w no).param cMeadow Aa0 ca0 a0 hr0 hc0).param (ci .i64) Aa2 ca2 a2 hr2 hc2)
  unfold impl_FirstHungry.f at H
  refine CV.body Try.func39 rfl Try.ntmps39 rfl ?_
  refine CJ.seq ?_
  refine CJ.region ?_
  refine OJ.pures tU_ok 2 rfl ?_
  refine OJ.nil (EJ.next ?_)
  refine CJ.seq ?_
  refine CJ.seq ?_
  refine CJ.region ?_
  refine OJ.pures tU_ok 3 rfl ?_
  obtain ⟨t1, ht1, H⟩ := pbind H
  refine OJ.callF rfl rfl rfl rfl rfl hb70 rfl (impl_planCode.c k _ Aa0 ca0 a0 (hS.rd' (i := 0) rfl) (hS.le' (i := 0) rfl) a1 Aa2 ca2 a2 (hS.rd' (i := 1) rfl) (hS.le' (i := 1) rfl) _ ht1) ?_
  rintro _ w1 ⟨rfl, hs⟩
  replace hS := hS.grow hs
  refine OJ.pures tU_ok 1 rfl ?_
  refine OJ.nil (EJ.next ?_)
  refine CJ.seq ?_
  refine CJ.region ?_
  refine OJ.pures tU_ok 2 rfl ?_
  refine OJ.nil (EJ.next ?_)
  refine CJ.cond rfl (fun hb => ?_) (fun hb => ?_)
  · replace H := pif_t (of_decide_eq_true hb) H
    refine CJ.seq ?_
    refine CJ.region ?_
    refine OJ.pures tU_ok 3 rfl ?_
    refine OJ.nil (EJ.next ?_)
    refine CJ.ret (EJ.skR (?_))
    obtain rfl := Option.some.inj H
    exact EJ.fin rfl (.tmp rfl (.tmp rfl .nil)) ⟨rfl, hS.ext⟩
  · replace H := pif_f (of_decide_eq_false hb) H
    refine CJ.skip (EJ.next ?_)
    refine CJ.seq ?_
    refine CJ.region ?_
    refine OJ.pures tU_ok 3 rfl ?_
    obtain ⟨t2, ht2, H⟩ := pbind H
    refine OJ.callF rfl rfl rfl rfl rfl hb71 rfl (impl_follow.c k _ Aa0 ca0 a0 (hS.rd' (i := 0) rfl) (hS.le' (i := 0) rfl) a1 Aa2 ca2 a2 (hS.rd' (i := 1) rfl) (hS.le' (i := 1) rfl) _ ht2) ?_
    rintro _ w1 ⟨A3, c4, rfl, hx, hr⟩
    replace hS := hS.addRo hx hr (fun b hb => by rcases hb with hb | hb | hb | hb; exact .inl hb; exact .inr ⟨_, List.mem_of_getElem? (i := 0) rfl, hb⟩; exact .inr ⟨_, List.mem_of_getElem? (i := 1) rfl, hb⟩; exact hb.elim)
    refine OJ.pures tU_ok 5 rfl ?_
    refine OJ.nil (EJ.next ?_)
    refine CJ.seq ?_
    refine CJ.seq ?_
    refine CJ.region ?_
    refine OJ.pures tU_ok 4 rfl ?_
    refine OJ.nil (EJ.next ?_)
    refine CJ.cond rfl (fun hb => ?_) (fun hb => ?_)
    · replace H := pif_t (of_decide_eq_true hb) H
      refine CJ.seq ?_
      refine CJ.region ?_
      refine OJ.pures tU_ok 2 rfl ?_
      refine OJ.nil (EJ.next ?_)
      refine CJ.ret (EJ.skR (?_))
      obtain rfl := Option.some.inj H
      exact EJ.fin rfl (.tmp rfl (.tmp rfl .nil)) ⟨rfl, hS.ext⟩
    · replace H := pif_f (of_decide_eq_false hb) H
      refine CJ.skip (EJ.next ?_)
      refine CJ.seq ?_
      refine CJ.region ?_
      refine OJ.pures tU_ok 3 rfl ?_
      refine OJ.nil (EJ.next ?_)
      refine CJ.ret (?_)
      obtain rfl := Option.some.inj H
      exact EJ.fin rfl (.tmp rfl (.tmp rfl .nil)) ⟨rfl, hS.ext⟩

def laws_FnExactFirstHungry.f (k : Nat) (a0 : List Meadow) (a1 : Int) (a2 : List Int) : Option Bool := if 1048576 < (a2.length : Int) then (some true) else ((laws_szMeadowS.f a0 1048576).bind fun t1 => if t1 < 0 then (some true) else ((laws_toMeadowS.f k a0).bind fun t2 => (laws_toInt64S.f k a2).bind fun t5 => (spec_FirstHungry.f k t2 a1 t5).bind fun t8 => (laws_toMeadowS.f k a0).bind fun t9 => (laws_toInt64S.f k a2).bind fun t12 => (impl_FirstHungry.f k t9 a1 t12).bind fun t15 => (if t15.1 ≠ t8.1 then (some true) else (some (decide (t15.2 ≠ t8.2)))).bind fun y16 => if y16 = true then (some false) else ((laws_toMeadowS.f k a0).bind fun t17 => (laws_eqMeadowS.f k t9 t17).bind fun t20 => if (!t20) = true then (some false) else ((laws_toInt64S.f k a2).bind fun t21 => (laws_eqInt64S.f k t12 t21).bind fun t24 => if (!t24) = true then (some false) else (some true)))))
theorem laws_FnExactFirstHungry.c (k : Nat) (w : World) (Aa0 : Option Addr) (ca0 : Nat) (a0 : List Meadow) (hr0 : Rd cMeadow w Aa0 a0) (hc0 : a0.length ≤ ca0) (a1 : Int) (Aa2 : Option Addr) (ca2 : Nat) (a2 : List Int) (hr2 : Rd (ci .i64) w Aa2 a2) (hc2 : a2.length ≤ ca2) (r : Bool) (H : laws_FnExactFirstHungry.f k a0 a1 a2 = some r) :
    CV Try.prog 10 [.slice Aa0 a0.length ca0, .int .i64 a1, .slice Aa2 a2.length ca2].toArray w fun v w' => v = .bool r ∧ Ext w w' := by
  have hS := (((St.init w no).param cMeadow Aa0 ca0 a0 hr0 hc0).param (ci .i64) Aa2 ca2 a2 hr2 hc2)
  unfold laws_FnExactFirstHungry.f at H
  refine CV.body Try.func10 rfl Try.ntmps10 rfl ?_
  refine CJ.seq ?_
  refine CJ.region ?_
  refine OJ.pures tU_ok 1 rfl ?_
  refine OJ.nil (EJ.next ?_)
  refine CJ.seq ?_
  refine CJ.seq ?_
  refine CJ.region ?_
  refine OJ.pures tU_ok 3 rfl ?_
  refine OJ.nil (EJ.next ?_)
  refine CJ.cond rfl (fun hb => ?_) (fun hb => ?_)
  · replace H := pif_t (of_decide_eq_true hb) H
    refine CJ.seq ?_
    refine CJ.region ?_
    refine OJ.pures tU_ok 1 rfl ?_
    refine OJ.nil (EJ.next ?_)
    refine CJ.ret (EJ.skR (?_))
    obtain rfl := Option.some.inj H
    exact EJ.fin rfl (.tmp rfl .nil) ⟨rfl, hS.ext⟩
  · replace H := pif_f (of_decide_eq_false hb) H
    refine CJ.skip (EJ.next ?_)
    refine CJ.seq ?_
    refine CJ.region ?_
    refine OJ.pures tU_ok 1 rfl ?_
    refine OJ.nil (EJ.next ?_)
    refine CJ.seq ?_
    refine CJ.region ?_
    refine OJ.pures tU_ok 2 rfl ?_
    obtain ⟨t1, ht1, H⟩ := pbind H
    refine OJ.callF rfl rfl rfl rfl rfl hb15 rfl (laws_szMeadowS.c _ Aa0 ca0 a0 (hS.rd' (i := 0) rfl) (hS.le' (i := 0) rfl) 1048576 _ ht1) ?_
    rintro _ w1 ⟨rfl, hs⟩
    replace hS := hS.grow hs
    refine OJ.pures tU_ok 1 rfl ?_
    refine OJ.nil (EJ.next ?_)
    refine CJ.seq ?_
    refine CJ.seq ?_
    refine CJ.region ?_
    refine OJ.pures tU_ok 2 rfl ?_
    refine OJ.nil (EJ.next ?_)
    refine CJ.cond rfl (fun hb => ?_) (fun hb => ?_)
    · replace H := pif_t (of_decide_eq_true hb) H
      refine CJ.seq ?_
      refine CJ.region ?_
      refine OJ.pures tU_ok 1 rfl ?_
      refine OJ.nil (EJ.next ?_)
      refine CJ.ret (EJ.skR (?_))
      obtain rfl := Option.some.inj H
      exact EJ.fin rfl (.tmp rfl .nil) ⟨rfl, hS.ext⟩
    · replace H := pif_f (of_decide_eq_false hb) H
      refine CJ.skip (EJ.next ?_)
      refine CJ.seq ?_
      refine CJ.region ?_
      refine OJ.pures tU_ok 1 rfl ?_
      obtain ⟨t2, ht2, H⟩ := pbind H
      refine OJ.callF rfl rfl rfl rfl rfl hb17 rfl (laws_toMeadowS.c k _ Aa0 ca0 a0 (hS.rd' (i := 0) rfl) (hS.le' (i := 0) rfl) _ ht2) ?_
      rintro _ w1 ⟨A3, c4, rfl, hs⟩
      replace hS := hS.addN hs
      refine OJ.pures tU_ok 2 rfl ?_
      obtain ⟨t5, ht5, H⟩ := pbind H
      refine OJ.callF rfl rfl rfl rfl rfl hb23 rfl (laws_toInt64S.c k _ Aa2 ca2 a2 (hS.rd' (i := 1) rfl) (hS.le' (i := 1) rfl) _ ht5) ?_
      rintro _ w1 ⟨A6, c7, rfl, hs⟩
      replace hS := hS.addN hs
      obtain ⟨t8, ht8, H⟩ := pbind H
      refine OJ.callF rfl rfl rfl rfl rfl hb38 rfl (spec_FirstHungry.c k _ A3 c4 t2 (hS.rd (i := 0) rfl) (hS.le (i := 0) rfl) a1 A6 c7 t5 (hS.rd (i := 1) rfl) (hS.le (i := 1) rfl) _ ht8) ?_
      rintro _ w1 ⟨rfl, hs⟩
      replace hS := hS.grow hs
      refine OJ.pures tU_ok 5 rfl ?_
      refine OJ.nil (EJ.next ?_)
      refine CJ.seq ?_
      refine CJ.region ?_
      refine OJ.pures tU_ok 1 rfl ?_
      obtain ⟨t9, ht9, H⟩ := pbind H
      refine OJ.callF rfl rfl rfl rfl rfl hb17 rfl (laws_toMeadowS.c k _ Aa0 ca0 a0 (hS.rd' (i := 0) rfl) (hS.le' (i := 0) rfl) _ ht9) ?_
      rintro _ w1 ⟨A10, c11, rfl, hs⟩
      replace hS := hS.addN hs
      refine OJ.pures tU_ok 1 rfl ?_
      refine OJ.nil (EJ.next ?_)
      refine CJ.seq ?_
      refine CJ.region ?_
      refine OJ.pures tU_ok 1 rfl ?_
      obtain ⟨t12, ht12, H⟩ := pbind H
      refine OJ.callF rfl rfl rfl rfl rfl hb23 rfl (laws_toInt64S.c k _ Aa2 ca2 a2 (hS.rd' (i := 1) rfl) (hS.le' (i := 1) rfl) _ ht12) ?_
      rintro _ w1 ⟨A13, c14, rfl, hs⟩
      replace hS := hS.addN hs
      refine OJ.pures tU_ok 1 rfl ?_
      refine OJ.nil (EJ.next ?_)
      refine CJ.seq ?_
      refine CJ.region ?_
      refine OJ.pures tU_ok 3 rfl ?_
      obtain ⟨t15, ht15, H⟩ := pbind H
      refine OJ.callF rfl rfl rfl rfl rfl hb39 rfl (impl_FirstHungry.c k _ A10 c11 t9 (hS.rd (i := 2) rfl) (hS.le (i := 2) rfl) a1 A13 c14 t12 (hS.rd (i := 3) rfl) (hS.le (i := 3) rfl) _ ht15) ?_
      rintro _ w1 ⟨rfl, hs⟩
      replace hS := hS.grow hs
      refine OJ.pures tU_ok 5 rfl ?_
      refine OJ.nil (EJ.next ?_)
      refine CJ.seq ?_
      obtain ⟨j51, H, K51⟩ := pbind H
      refine CJ.cut (fun F w1 => ∃ (y16 : Bool) , (some y16 : Option Bool) = some j51 ∧ F = [(0, .slice Aa0 a0.length ca0), (2, .slice Aa2 a2.length ca2), (10, .slice A10 t9.length c11), (11, .slice A13 t12.length c14), (49, .bool y16)] ∧ St w no w1 [rowC cMeadow A10 c11 57 t9, rowC (ci .i64) A13 c14 2 t12] [roC cMeadow Aa0 ca0 a0, roC (ci .i64) Aa2 ca2 a2]) ?_ ?_
      · skip
        refine CJ.region ?_
        refine OJ.pures tU_ok 4 rfl ?_
        refine OJ.split (t := 45) rfl (fun hb => ?_) (fun hb => ?_)
        · replace H := pif_t (of_decide_eq_true hb) H
          refine OJ.pures tU_ok 4 rfl ?_
          refine OJ.nil ?_
          exact EJ.meet (F' := [(0, .slice Aa0 a0.length ca0), (2, .slice Aa2 a2.length ca2), (10, .slice A10 t9.length c11), (11, .slice A13 t12.length c14), (49, .bool true)]) ⟨rfl, rfl, rfl, rfl, rfl, trivial⟩ ⟨true, H, rfl, hS.pick [2, 3] [0, 1] rfl⟩
        · replace H := pif_f (of_decide_eq_false hb) H
          refine OJ.pures tU_ok 4 rfl ?_
          refine OJ.nil ?_
          exact EJ.meet (F' := [(0, .slice Aa0 a0.length ca0), (2, .slice Aa2 a2.length ca2), (10, .slice A10 t9.length c11), (11, .slice A13 t12.length c14), (49, .bool (decide (t15.2 ≠ t8.2)))]) ⟨rfl, rfl, rfl, rfl, rfl, trivial⟩ ⟨(decide (t15.2 ≠ t8.2)), H, rfl, hS.pick [2, 3] [0, 1] rfl⟩
      · rintro F w1 ⟨y16, he, rfl, hS⟩
        obtain rfl := Option.some.inj he
        have H := K51
        refine CJ.cond rfl (fun hb => ?_) (fun hb => ?_)
        · replace H := pif_t hb H
          refine CJ.seq ?_
          refine CJ.region ?_
          refine OJ.pures tU_ok 1 rfl ?_
          refine OJ.nil (EJ.next ?_)
          refine CJ.ret (EJ.skR (?_))
          obtain rfl := Option.some.inj H
          exact EJ.fin rfl (.tmp rfl .nil) ⟨rfl, hS.ext⟩
        · replace H := pifb_f hb H
          refine CJ.skip (EJ.next ?_)
          refine CJ.seq ?_
          refine CJ.seq ?_
          refine CJ.region ?_
          refine OJ.pures tU_ok 2 rfl ?_
          obtain ⟨t17, ht17, H⟩ := pbind H
          refine OJ.callF rfl rfl rfl rfl rfl hb17 rfl (laws_toMeadowS.c k _ Aa0 ca0 a0 (hS.rd' (i := 0) rfl) (hS.le' (i := 0) rfl) _ ht17) ?_
          rintro _ w1 ⟨A18, c19, rfl, hs⟩
          replace hS := hS.addN hs
          obtain ⟨t20, ht20, H⟩ := pbind H
          refine OJ.callF rfl rfl rfl rfl rfl hb19 rfl (laws_eqMeadowS.c k _ A10 c11 t9 (hS.rd (i := 0) rfl) (hS.le (i := 0) rfl) A18 c19 t17 (hS.rd (i := 2) rfl) (hS.le (i := 2) rfl) _ ht20) ?_
          rintro _ w1 ⟨rfl, hs⟩
          replace hS := hS.grow hs
          refine OJ.pures tU_ok 1 rfl ?_
          refine OJ.nil (EJ.next ?_)
          refine CJ.cond rfl (fun hb => ?_) (fun hb => ?_)
          · replace H := pif_t hb H
            refine CJ.seq ?_
            refine CJ.region ?_
            refine OJ.pures tU_ok 1 rfl ?_
            refine OJ.nil (EJ.next ?_)
            refine CJ.ret (EJ.skR (?_))
            obtain rfl := Option.some.inj H
            exact EJ.fin rfl (.tmp rfl .nil) ⟨rfl, hS.ext⟩
          · replace H := pifb_f hb H
            refine CJ.skip (EJ.next ?_)
            refine CJ.seq ?_
            refine CJ.seq ?_
            refine CJ.region ?_
            refine OJ.pures tU_ok 2 rfl ?_
            obtain ⟨t21, ht21, H⟩ := pbind H
            refine OJ.callF rfl rfl rfl rfl rfl hb23 rfl (laws_toInt64S.c k _ Aa2 ca2 a2 (hS.rd' (i := 1) rfl) (hS.le' (i := 1) rfl) _ ht21) ?_
            rintro _ w1 ⟨A22, c23, rfl, hs⟩
            replace hS := hS.addN hs
            obtain ⟨t24, ht24, H⟩ := pbind H
            refine OJ.callF rfl rfl rfl rfl rfl hb25 rfl (laws_eqInt64S.c k _ A13 c14 t12 (hS.rd (i := 1) rfl) (hS.le (i := 1) rfl) A22 c23 t21 (hS.rd (i := 3) rfl) (hS.le (i := 3) rfl) _ ht24) ?_
            rintro _ w1 ⟨rfl, hs⟩
            replace hS := hS.grow hs
            refine OJ.pures tU_ok 1 rfl ?_
            refine OJ.nil (EJ.next ?_)
            refine CJ.cond rfl (fun hb => ?_) (fun hb => ?_)
            · replace H := pif_t hb H
              refine CJ.seq ?_
              refine CJ.region ?_
              refine OJ.pures tU_ok 1 rfl ?_
              refine OJ.nil (EJ.next ?_)
              refine CJ.ret (EJ.skR (?_))
              obtain rfl := Option.some.inj H
              exact EJ.fin rfl (.tmp rfl .nil) ⟨rfl, hS.ext⟩
            · replace H := pifb_f hb H
              refine CJ.skip (EJ.next ?_)
              refine CJ.seq ?_
              refine CJ.region ?_
              refine OJ.pures tU_ok 1 rfl ?_
              refine OJ.nil (EJ.next ?_)
              refine CJ.ret (?_)
              obtain rfl := Option.some.inj H
              exact EJ.fin rfl (.tmp rfl .nil) ⟨rfl, hS.ext⟩

def spec_GreedyPlan.f (k : Nat) (a0 : List Meadow) (a1 : Int) (a2 : Int) : Option (List Int × Int) := (spec_l07Days.f a2).bind fun t1 => (spec_l07Asked.f k a0 a1 t1).bind fun t2 => if t2 ≠ 0 then (some (([] : List Int), t2)) else ((spec_l07Greedy.f k a0 a1 a2).bind fun t4 => if (t4.length : Int) < a2 then (some (([] : List Int), 6)) else (some (t4, 0)))
theorem spec_GreedyPlan.c (k : Nat) (w : World) (Aa0 : Option Addr) (ca0 : Nat) (a0 : List Meadow) (hr0 : Rd cMeadow w Aa0 a0) (hc0 : a0.length ≤ ca0) (a1 : Int) (a2 : Int) (r : List Int × Int) (H : spec_GreedyPlan.f k a0 a1 a2 = some r) :
    CV Try.prog 40 [.slice Aa0 a0.length ca0, .int .i64 a1, .int .i64 a2].toArray w fun v w' => ∃ (A0 : Option Addr) (c0 : Nat), v = .tuple #[.slice A0 r.1.length c0, .int .i64 r.2] ∧ St w no w' [rowC (ci .i64) A0 c0 2 r.1] [] := by
  have hS := ((St.init w no).param cMeadow Aa0 ca0 a0 hr0 hc0)
  unfold spec_GreedyPlan.f at H
  refine CV.body Try.func40 rfl Try.ntmps40 rfl ?_
  refine CJ.seq ?_
  refine CJ.region ?_
  refine OJ.pures tU_ok 2 rfl ?_
  refine OJ.nil (EJ.next ?_)
  refine CJ.seq ?_
  refine CJ.seq ?_
  refine CJ.region ?_
  refine OJ.pures tU_ok 3 rfl ?_
  obtain ⟨t1, ht1, H⟩ := pbind H
  refine OJ.callF rfl rfl rfl rfl rfl hb58 rfl (spec_l07Days.c _ a2 _ ht1) ?_
  rintro _ w1 ⟨rfl, hs⟩
  replace hS := hS.grow hs
  obtain ⟨t2, ht2, H⟩ := pbind H
  refine OJ.callF rfl rfl rfl rfl rfl hb57 rfl (spec_l07Asked.c k _ Aa0 ca0 a0 (hS.rd' (i := 0) rfl) (hS.le' (i := 0) rfl) a1 t1 _ ht2) ?_
  rintro _ w1 ⟨rfl, hs⟩
  replace hS := hS.grow hs
  refine OJ.pures tU_ok 1 rfl ?_
  refine OJ.nil (EJ.next ?_)
  refine CJ.seq ?_
  refine CJ.region ?_
  refine OJ.pures tU_ok 2 rfl ?_
  refine OJ.nil (EJ.next ?_)
  refine CJ.cond rfl (fun hb => ?_) (fun hb => ?_)
  · replace H := pif_t (of_decide_eq_true hb) H
    refine CJ.seq ?_
    refine CJ.region ?_
    refine OJ.ef rfl rfl rfl (Ef.lit tU_ok tI_ok hS (C := (ci .i64)) rfl rfl rfl rfl rfl rfl ([] : List Int) rfl rfl rfl rfl) ?_
    rintro _ w1 ⟨A3, rfl, hS⟩
    refine OJ.pures tU_ok 3 rfl ?_
    refine OJ.nil (EJ.next ?_)
    refine CJ.ret (EJ.skR (?_))
    obtain rfl := Option.some.inj H
    exact EJ.fin rfl (.tmp rfl (.tmp rfl .nil)) ⟨A3, (([] : List Int).length), rfl, hS.pick [0] [] rfl⟩
  · replace H := pif_f (of_decide_eq_false hb) H
    refine CJ.skip (EJ.next ?_)
    refine CJ.seq ?_
    refine CJ.region ?_
    refine OJ.pures tU_ok 3 rfl ?_
    obtain ⟨t4, ht4, H⟩ := pbind H
    refine OJ.callF rfl rfl rfl rfl rfl hb65 rfl (spec_l07Greedy.c k _ Aa0 ca0 a0 (hS.rd' (i := 0) rfl) (hS.le' (i := 0) rfl) a1 a2 _ ht4) ?_
    rintro _ w1 ⟨A5, c6, rfl, hs⟩
    replace hS := hS.addN hs
    refine OJ.pures tU_ok 1 rfl ?_
    refine OJ.nil (EJ.next ?_)
    refine CJ.seq ?_
    refine CJ.seq ?_
    refine CJ.region ?_
    refine OJ.pures tU_ok 4 rfl ?_
    refine OJ.nil (EJ.next ?_)
    refine CJ.cond rfl (fun hb => ?_) (fun hb => ?_)
    · replace H := pif_t (of_decide_eq_true hb) H
      refine CJ.seq ?_
      refine CJ.region ?_
      refine OJ.ef rfl rfl rfl (Ef.lit tU_ok tI_ok hS (C := (ci .i64)) rfl rfl rfl rfl rfl rfl ([] : List Int) rfl rfl rfl rfl) ?_
      rintro _ w1 ⟨A7, rfl, hS⟩
      refine OJ.pures tU_ok 2 rfl ?_
      refine OJ.nil (EJ.next ?_)
      refine CJ.ret (EJ.skR (?_))
      obtain rfl := Option.some.inj H
      exact EJ.fin rfl (.tmp rfl (.tmp rfl .nil)) ⟨A7, (([] : List Int).length), rfl, hS.pick [1] [] rfl⟩
    · replace H := pif_f (of_decide_eq_false hb) H
      refine CJ.skip (EJ.next ?_)
      refine CJ.seq ?_
      refine CJ.region ?_
      refine OJ.pures tU_ok 3 rfl ?_
      refine OJ.nil (EJ.next ?_)
      refine CJ.ret (?_)
      obtain rfl := Option.some.inj H
      exact EJ.fin rfl (.tmp rfl (.tmp rfl .nil)) ⟨A5, c6, rfl, hS.pick [0] [] rfl⟩

def impl_GreedyPlan.f (k : Nat) (a0 : List Meadow) (a1 : Int) (a2 : Int) : Option (List Int × Int) := (impl_spanCode.f k a0 a1 a2 0).bind fun t1 => if t1 ≠ 0 then (some ([], t1)) else ((impl_greedy.f k a0 a1 a2).bind fun t2 => (impl_size_int64.f t2).bind fun t5 => if t5 < a2 then (some ([], 6)) else (some (t2, 0)))
theorem impl_GreedyPlan.c (k : Nat) (w : World) (Aa0 : Option Addr) (ca0 : Nat) (a0 : List Meadow) (hr0 : Rd cMeadow w Aa0 a0) (hc0 : a0.length ≤ ca0) (a1 : Int) (a2 : Int) (r : List Int × Int) (H : impl_GreedyPlan.f k a0 a1 a2 = some r) :
    CV Try.prog 41 [.slice Aa0 a0.length ca0, .int .i64 a1, .int .i64 a2].toArray w fun v w' => ∃ (A0 : Option Addr) (c0 : Nat), v = .tuple #[.slice A0 r.1.length c0, .int .i64 r.2] ∧ St w no w' [rowC (ci .i64) A0 c0 2 r.1] [] := by
  have hS := ((St.init w no).param cMeadow Aa0 ca0 a0 hr0 hc0)
  unfold impl_GreedyPlan.f at H
  refine CV.body Try.func41 rfl Try.ntmps41 rfl ?_
  refine CJ.seq ?_
  refine CJ.region ?_
  refine OJ.pures tU_ok 2 rfl ?_
  refine OJ.nil (EJ.next ?_)
  refine CJ.seq ?_
  refine CJ.seq ?_
  refine CJ.region ?_
  refine OJ.pures tU_ok 3 rfl ?_
  obtain ⟨t1, ht1, H⟩ := pbind H
  refine OJ.callF rfl rfl rfl rfl rfl hb60 rfl (impl_spanCode.c k _ Aa0 ca0 a0 (hS.rd' (i := 0) rfl) (hS.le' (i := 0) rfl) a1 a2 0 _ ht1) ?_
  rintro _ w1 ⟨rfl, hs⟩
  replace hS := hS.grow hs
  refine OJ.pures tU_ok 1 rfl ?_
  refine OJ.nil (EJ.next ?_)
  refine CJ.seq ?_
  refine CJ.region ?_
  refine OJ.pures tU_ok 2 rfl ?_
  refine OJ.nil (EJ.next ?_)
  refine CJ.cond rfl (fun hb => ?_) (fun hb => ?_)
  · replace H := pif_t (of_decide_eq_true hb) H
    refine CJ.seq ?_
    refine CJ.region ?_
    refine OJ.pures tU_ok 3 rfl ?_
    refine OJ.nil (EJ.next ?_)
    refine CJ.ret (EJ.skR (?_))
    replace hS := hS.addNil (ci .i64) 2 none
    obtain rfl := Option.some.inj H
    exact EJ.fin rfl (.tmp rfl (.tmp rfl .nil)) ⟨none, 0, rfl, hS.pick [0] [] rfl⟩
  · replace H := pif_f (of_decide_eq_false hb) H
    refine CJ.skip (EJ.next ?_)
    refine CJ.seq ?_
    refine CJ.region ?_
    refine OJ.pures tU_ok 3 rfl ?_
    obtain ⟨t2, ht2, H⟩ := pbind H
    refine OJ.callF rfl rfl rfl rfl rfl hb67 rfl (impl_greedy.c k _ Aa0 ca0 a0 (hS.rd' (i := 0) rfl) (hS.le' (i := 0) rfl) a1 a2 _ ht2) ?_
    rintro _ w1 ⟨A3, c4, rfl, hs⟩
    replace hS := hS.addN hs
    refine OJ.pures tU_ok 1 rfl ?_
    refine OJ.nil (EJ.next ?_)
    refine CJ.seq ?_
    refine CJ.seq ?_
    refine CJ.region ?_
    refine OJ.pures tU_ok 1 rfl ?_
    obtain ⟨t5, ht5, H⟩ := pbind H
    refine OJ.callF rfl rfl rfl rfl rfl hb66 rfl (impl_size_int64.c _ A3 c4 t2 (hS.rd (i := 0) rfl) (hS.le (i := 0) rfl) _ ht5) ?_
    rintro _ w1 ⟨rfl, hs⟩
    replace hS := hS.grow hs
    refine OJ.pures tU_ok 2 rfl ?_
    refine OJ.nil (EJ.next ?_)
    refine CJ.cond rfl (fun hb => ?_) (fun hb => ?_)
    · replace H := pif_t (of_decide_eq_true hb) H
      refine CJ.seq ?_
      refine CJ.region ?_
      refine OJ.pures tU_ok 2 rfl ?_
      refine OJ.nil (EJ.next ?_)
      refine CJ.ret (EJ.skR (?_))
      replace hS := hS.addNil (ci .i64) 2 none
      obtain rfl := Option.some.inj H
      exact EJ.fin rfl (.tmp rfl (.tmp rfl .nil)) ⟨none, 0, rfl, hS.pick [1] [] rfl⟩
    · replace H := pif_f (of_decide_eq_false hb) H
      refine CJ.skip (EJ.next ?_)
      refine CJ.seq ?_
      refine CJ.region ?_
      refine OJ.pures tU_ok 3 rfl ?_
      refine OJ.nil (EJ.next ?_)
      refine CJ.ret (?_)
      obtain rfl := Option.some.inj H
      exact EJ.fin rfl (.tmp rfl (.tmp rfl .nil)) ⟨A3, c4, rfl, hS.pick [0] [] rfl⟩

def laws_FnExactGreedyPlan.f (k : Nat) (a0 : List Meadow) (a1 : Int) (a2 : Int) : Option Bool := (laws_szMeadowS.f a0 1048576).bind fun t1 => if t1 < 0 then (some true) else ((laws_toMeadowS.f k a0).bind fun t2 => (spec_GreedyPlan.f k t2 a1 a2).bind fun t5 => (laws_toMeadowS.f k a0).bind fun t8 => (impl_GreedyPlan.f k t8 a1 a2).bind fun t11 => ((laws_eqInt64S.f k t11.1 t5.1).bind fun t15 => if (!t15) = true then (some true) else (some (decide (t11.2 ≠ t5.2)))).bind fun y14 => if y14 = true then (some false) else ((laws_toMeadowS.f k a0).bind fun t16 => (laws_eqMeadowS.f k t8 t16).bind fun t19 => if (!t19) = true then (some false) else ((laws_markMeadowS.f k t8 1).bind fun t20 => (if t20.1 < 0 then (some true) else ((laws_eqInt64S.f k t11.1 t5.1).bind fun t22 => if (!t22) = true then (some true) else (some (decide (t11.2 ≠ t5.2))))).bind fun y21 => if y21 = true then (some false) else ((laws_markInt64S.f k t11.1 1).bind fun t23 => (laws_heldInt64S.f k t23.2 1).bind fun t24 => if t24 < 0 then (some false) else (if t24 ≠ t23.1 then (some false) else ((laws_toMeadowS.f k a0).bind fun t25 => (impl_GreedyPlan.f k t25 a1 a2).bind fun t28 => ((laws_eqInt64S.f k t28.1 t5.1).bind fun t32 => if (!t32) = true then (some true) else (some (decide (t28.2 ≠ t5.2)))).bind fun y31 => if y31 = true then (some false) else ((laws_heldInt64S.f k t23.2 1).bind fun t33 => if t33 < 0 then (some false) else (if t33 ≠ t23.1 then (some false) else (some true)))))))))
theorem laws_FnExactGreedyPlan.c (k : Nat) (w : World) (Aa0 : Option Addr) (ca0 : Nat) (a0 : List Meadow) (hr0 : Rd cMeadow w Aa0 a0) (hc0 : a0.length ≤ ca0) (a1 : Int) (a2 : Int) (r : Bool) (H : laws_FnExactGreedyPlan.f k a0 a1 a2 = some r) :
    CV Try.prog 11 [.slice Aa0 a0.length ca0, .int .i64 a1, .int .i64 a2].toArray w fun v w' => v = .bool r ∧ Ext w w' := by
  have hS := ((St.init w no).param cMeadow Aa0 ca0 a0 hr0 hc0)
  unfold laws_FnExactGreedyPlan.f at H
  refine CV.body Try.func11 rfl Try.ntmps11 rfl ?_
  refine CJ.seq ?_
  refine CJ.region ?_
  refine OJ.pures tU_ok 1 rfl ?_
  refine OJ.nil (EJ.next ?_)
  refine CJ.seq ?_
  refine CJ.region ?_
  refine OJ.pures tU_ok 1 rfl ?_
  refine OJ.nil (EJ.next ?_)
  refine CJ.seq ?_
  refine CJ.region ?_
  refine OJ.pures tU_ok 2 rfl ?_
  obtain ⟨t1, ht1, H⟩ := pbind H
  refine OJ.callF rfl rfl rfl rfl rfl hb15 rfl (laws_szMeadowS.c _ Aa0 ca0 a0 (hS.rd' (i := 0) rfl) (hS.le' (i := 0) rfl) 1048576 _ ht1) ?_
  rintro _ w1 ⟨rfl, hs⟩
  replace hS := hS.grow hs
  refine OJ.pures tU_ok 1 rfl ?_
  refine OJ.nil (EJ.next ?_)
  refine CJ.seq ?_
  refine CJ.seq ?_
  refine CJ.region ?_
  refine OJ.pures tU_ok 2 rfl ?_
  refine OJ.nil (EJ.next ?_)
  refine CJ.cond rfl (fun hb => ?_) (fun hb => ?_)
  · replace H := pif_t (of_decide_eq_true hb) H
    refine CJ.seq ?_
    refine CJ.region ?_
    refine OJ.pures tU_ok 1 rfl ?_
    refine OJ.nil (EJ.next ?_)
    refine CJ.ret (EJ.skR (?_))
    obtain rfl := Option.some.inj H
    exact EJ.fin rfl (.tmp rfl .nil) ⟨rfl, hS.ext⟩
  · replace H := pif_f (of_decide_eq_false hb) H
    refine CJ.skip (EJ.next ?_)
    refine CJ.seq ?_
    refine CJ.region ?_
    refine OJ.pures tU_ok 1 rfl ?_
    obtain ⟨t2, ht2, H⟩ := pbind H
    refine OJ.callF rfl rfl rfl rfl rfl hb17 rfl (laws_toMeadowS.c k _ Aa0 ca0 a0 (hS.rd' (i := 0) rfl) (hS.le' (i := 0) rfl) _ ht2) ?_
    rintro _ w1 ⟨A3, c4, rfl, hs⟩
    replace hS := hS.addN hs
    refine OJ.pures tU_ok 2 rfl ?_
    obtain ⟨t5, ht5, H⟩ := pbind H
    refine OJ.callF rfl rfl rfl rfl rfl hb40 rfl (spec_GreedyPlan.c k _ A3 c4 t2 (hS.rd (i := 0) rfl) (hS.le (i := 0) rfl) a1 a2 _ ht5) ?_
    rintro _ w1 ⟨A6, c7, rfl, hs⟩
    replace hS := hS.addN hs
    refine OJ.pures tU_ok 5 rfl ?_
    refine OJ.nil (EJ.next ?_)
    refine CJ.seq ?_
    refine CJ.region ?_
    refine OJ.pures tU_ok 1 rfl ?_
    obtain ⟨t8, ht8, H⟩ := pbind H
    refine OJ.callF rfl rfl rfl rfl rfl hb17 rfl (laws_toMeadowS.c k _ Aa0 ca0 a0 (hS.rd' (i := 0) rfl) (hS.le' (i := 0) rfl) _ ht8) ?_
    rintro _ w1 ⟨A9, c10, rfl, hs⟩
    replace hS := hS.addN hs
    refine OJ.pures tU_ok 1 rfl ?_
    refine OJ.nil (EJ.next ?_)
    refine CJ.seq ?_
    refine CJ.region ?_
    refine OJ.pures tU_ok 3 rfl ?_
    obtain ⟨t11, ht11, H⟩ := pbind H
    refine OJ.callF rfl rfl rfl rfl rfl hb41 rfl (impl_GreedyPlan.c k _ A9 c10 t8 (hS.rd (i := 2) rfl) (hS.le (i := 2) rfl) a1 a2 _ ht11) ?_
    rintro _ w1 ⟨A12, c13, rfl, hs⟩
    replace hS := hS.addN hs
    refine OJ.pures tU_ok 5 rfl ?_
    refine OJ.nil (EJ.next ?_)
    refine CJ.seq ?_
    obtain ⟨j52, H, K52⟩ := pbind H
    refine CJ.cut (fun F w1 => ∃ (y14 : Bool) , (some y14 : Option Bool) = some j52 ∧ F = [(0, .slice Aa0 a0.length ca0), (1, .int .i64 a1), (2, .int .i64 a2), (8, .slice A6 t5.1.length c7), (9, .int .i64 t5.2), (10, .slice A9 t8.length c10), (11, .slice A12 t11.1.length c13), (12, .int .i64 t11.2), (48, .bool y14)] ∧ St w no w1 [rowC (ci .i64) A6 c7 2 t5.1, rowC cMeadow A9 c10 57 t8, rowC (ci .i64) A12 c13 2 t11.1] [roC cMeadow Aa0 ca0 a0]) ?_ ?_
    · skip
      refine CJ.region ?_
      refine OJ.pures tU_ok 2 rfl ?_
      obtain ⟨t15, ht15, H⟩ := pbind H
      refine OJ.callF rfl rfl rfl rfl rfl hb25 rfl (laws_eqInt64S.c k _ A12 c13 t11.1 (hS.rd (i := 3) rfl) (hS.le (i := 3) rfl) A6 c7 t5.1 (hS.rd (i := 1) rfl) (hS.le (i := 1) rfl) _ ht15) ?_
      rintro _ w1 ⟨rfl, hs⟩
      replace hS := hS.grow hs
      refine OJ.pures tU_ok 2 rfl ?_
      refine OJ.split (t := 44) rfl (fun hb => ?_) (fun hb => ?_)
      · replace H := pif_t hb H
        refine OJ.pures tU_ok 4 rfl ?_
        refine OJ.nil ?_
        exact EJ.meet (F' := [(0, .slice Aa0 a0.length ca0), (1, .int .i64 a1), (2, .int .i64 a2), (8, .slice A6 t5.1.length c7), (9, .int .i64 t5.2), (10, .slice A9 t8.length c10), (11, .slice A12 t11.1.length c13), (12, .int .i64 t11.2), (48, .bool true)]) ⟨rfl, rfl, rfl, rfl, rfl, rfl, rfl, rfl, rfl, trivial⟩ ⟨true, H, rfl, hS.pick [1, 2, 3] [0] rfl⟩
      · replace H := pifb_f hb H
        refine OJ.pures tU_ok 4 rfl ?_
        refine OJ.nil ?_
        exact EJ.meet (F' := [(0, .slice Aa0 a0.length ca0), (1, .int .i64 a1), (2, .int .i64 a2), (8, .slice A6 t5.1.length c7), (9, .int .i64 t5.2), (10, .slice A9 t8.length c10), (11, .slice A12 t11.1.length c13), (12, .int .i64 t11.2), (48, .bool (decide (t11.2 ≠ t5.2)))]) ⟨rfl, rfl, rfl, rfl, rfl, rfl, rfl, rfl, rfl, trivial⟩ ⟨(decide (t11.2 ≠ t5.2)), H, rfl, hS.pick [1, 2, 3] [0] rfl⟩
    · rintro F w1 ⟨y14, he, rfl, hS⟩
      obtain rfl := Option.some.inj he
      have H := K52
      refine CJ.cond rfl (fun hb => ?_) (fun hb => ?_)
      · replace H := pif_t hb H
        refine CJ.seq ?_
        refine CJ.region ?_
        refine OJ.pures tU_ok 1 rfl ?_
        refine OJ.nil (EJ.next ?_)
        refine CJ.ret (EJ.skR (?_))
        obtain rfl := Option.some.inj H
        exact EJ.fin rfl (.tmp rfl .nil) ⟨rfl, hS.ext⟩
      · replace H := pifb_f hb H
        refine CJ.skip (EJ.next ?_)
        refine CJ.seq ?_
        refine CJ.seq ?_
        refine CJ.region ?_
        refine OJ.pures tU_ok 2 rfl ?_
        obtain ⟨t16, ht16, H⟩ := pbind H
        refine OJ.callF rfl rfl rfl rfl rfl hb17 rfl (laws_toMeadowS.c k _ Aa0 ca0 a0 (hS.rd' (i := 0) rfl) (hS.le' (i := 0) rfl) _ ht16) ?_
        rintro _ w1 ⟨A17, c18, rfl, hs⟩
        replace hS := hS.addN hs
        obtain ⟨t19, ht19, H⟩ := pbind H
        refine OJ.callF rfl rfl rfl rfl rfl hb19 rfl (laws_eqMeadowS.c k _ A9 c10 t8 (hS.rd (i := 1) rfl) (hS.le (i := 1) rfl) A17 c18 t16 (hS.rd (i := 3) rfl) (hS.le (i := 3) rfl) _ ht19) ?_
        rintro _ w1 ⟨rfl, hs⟩
        replace hS := hS.grow hs
        refine OJ.pures tU_ok 1 rfl ?_
        refine OJ.nil (EJ.next ?_)
        refine CJ.cond rfl (fun hb => ?_) (fun hb => ?_)
        · replace H := pif_t hb H
          refine CJ.seq ?_
          refine CJ.region ?_
          refine OJ.pures tU_ok 1 rfl ?_
          refine OJ.nil (EJ.next ?_)
          refine CJ.ret (EJ.skR (?_))
          obtain rfl := Option.some.inj H
          exact EJ.fin rfl (.tmp rfl .nil) ⟨rfl, hS.ext⟩
        · replace H := pifb_f hb H
          refine CJ.skip (EJ.next ?_)
          refine CJ.seq ?_
          refine CJ.region ?_
          refine OJ.pures tU_ok 1 rfl ?_
          refine OJ.nil (EJ.next ?_)
          refine CJ.seq ?_
          refine CJ.region ?_
          refine OJ.pures tU_ok 2 rfl ?_
          obtain ⟨t20, ht20, H⟩ := pbind H
          refine OJ.callF rfl rfl rfl rfl rfl hb32 rfl (laws_markMeadowS.c k _ A9 c10 t8 (hS.row (i := 1) rfl) 1 _ ht20) ?_
          rintro _ w1 ⟨rfl, hx, hr, hl⟩
          replace hS := hS.rowSet (i := 1) rfl hx hr
          refine OJ.as (t := 10) rfl (show _ = Value.slice A9 t20.2.length c10 by rw [hl]) ?_
          refine OJ.as (t := 49) rfl (show _ = Value.slice A9 t20.2.length c10 by rw [hl]) ?_
          refine OJ.as (t := 54) rfl (show _ = Value.slice A9 t20.2.length c10 by rw [hl]) ?_
          refine OJ.pures tU_ok 1 rfl ?_
          refine OJ.nil (EJ.next ?_)
          refine CJ.seq ?_
          obtain ⟨j53, H, K53⟩ := pbind H
          refine CJ.cut (fun F w1 => ∃ (y21 : Bool) , (some y21 : Option Bool) = some j53 ∧ F = [(0, .slice Aa0 a0.length ca0), (1, .int .i64 a1), (2, .int .i64 a2), (8, .slice A6 t5.1.length c7), (9, .int .i64 t5.2), (11, .slice A12 t11.1.length c13), (69, .bool y21)] ∧ St w no w1 [rowC (ci .i64) A6 c7 2 t5.1, rowC (ci .i64) A12 c13 2 t11.1] [roC cMeadow Aa0 ca0 a0]) ?_ ?_
          · skip
            refine CJ.region ?_
            refine OJ.pures tU_ok 3 rfl ?_
            refine OJ.split (t := 59) rfl (fun hb => ?_) (fun hb => ?_)
            · replace H := pif_t (of_decide_eq_true hb) H
              refine OJ.pures tU_ok 10 rfl ?_
              refine OJ.nil ?_
              exact EJ.meet (F' := [(0, .slice Aa0 a0.length ca0), (1, .int .i64 a1), (2, .int .i64 a2), (8, .slice A6 t5.1.length c7), (9, .int .i64 t5.2), (11, .slice A12 t11.1.length c13), (69, .bool true)]) ⟨rfl, rfl, rfl, rfl, rfl, rfl, rfl, trivial⟩ ⟨true, H, rfl, hS.pick [0, 2] [0] rfl⟩
            · replace H := pif_f (of_decide_eq_false hb) H
              refine OJ.pures tU_ok 2 rfl ?_
              obtain ⟨t22, ht22, H⟩ := pbind H
              refine OJ.callF rfl rfl rfl rfl rfl hb25 rfl (laws_eqInt64S.c k _ A12 c13 t11.1 (hS.rd (i := 2) rfl) (hS.le (i := 2) rfl) A6 c7 t5.1 (hS.rd (i := 0) rfl) (hS.le (i := 0) rfl) _ ht22) ?_
              rintro _ w1 ⟨rfl, hs⟩
              replace hS := hS.grow hs
              refine OJ.pures tU_ok 3 rfl ?_
              refine OJ.split (t := 65) rfl (fun hb => ?_) (fun hb => ?_)
              · replace H := pif_t hb H
                refine OJ.pures tU_ok 4 rfl ?_
                refine OJ.nil ?_
                exact EJ.meet (F' := [(0, .slice Aa0 a0.length ca0), (1, .int .i64 a1), (2, .int .i64 a2), (8, .slice A6 t5.1.length c7), (9, .int .i64 t5.2), (11, .slice A12 t11.1.length c13), (69, .bool true)]) ⟨rfl, rfl, rfl, rfl, rfl, rfl, rfl, trivial⟩ ⟨true, H, rfl, hS.pick [0, 2] [0] rfl⟩
              · replace H := pifb_f hb H
                refine OJ.pures tU_ok 4 rfl ?_
                refine OJ.nil ?_
                exact EJ.meet (F' := [(0, .slice Aa0 a0.length ca0), (1, .int .i64 a1), (2, .int .i64 a2), (8, .slice A6 t5.1.length c7), (9, .int .i64 t5.2), (11, .slice A12 t11.1.length c13), (69, .bool (decide (t11.2 ≠ t5.2)))]) ⟨rfl, rfl, rfl, rfl, rfl, rfl, rfl, trivial⟩ ⟨(decide (t11.2 ≠ t5.2)), H, rfl, hS.pick [0, 2] [0] rfl⟩
          · rintro F w1 ⟨y21, he, rfl, hS⟩
            obtain rfl := Option.some.inj he
            have H := K53
            refine CJ.cond rfl (fun hb => ?_) (fun hb => ?_)
            · replace H := pif_t hb H
              refine CJ.seq ?_
              refine CJ.region ?_
              refine OJ.pures tU_ok 1 rfl ?_
              refine OJ.nil (EJ.next ?_)
              refine CJ.ret (EJ.skR (?_))
              obtain rfl := Option.some.inj H
              exact EJ.fin rfl (.tmp rfl .nil) ⟨rfl, hS.ext⟩
            · replace H := pifb_f hb H
              refine CJ.skip (EJ.next ?_)
              refine CJ.seq ?_
              refine CJ.region ?_
              refine OJ.pures tU_ok 1 rfl ?_
              refine OJ.nil (EJ.next ?_)
              refine CJ.seq ?_
              refine CJ.region ?_
              refine OJ.pures tU_ok 2 rfl ?_
              obtain ⟨t23, ht23, H⟩ := pbind H
              refine OJ.callF rfl rfl rfl rfl rfl hb26 rfl (laws_markInt64S.c k _ A12 c13 t11.1 (hS.row (i := 1) rfl) 1 _ ht23) ?_
              rintro _ w1 ⟨rfl, hx, hr, hl⟩
              replace hS := hS.rowSet (i := 1) rfl hx hr
              refine OJ.as (t := 11) rfl (show _ = Value.slice A12 t23.2.length c13 by rw [hl]) ?_
              refine OJ.as (t := 70) rfl (show _ = Value.slice A12 t23.2.length c13 by rw [hl]) ?_
              refine OJ.pures tU_ok 1 rfl ?_
              refine OJ.nil (EJ.next ?_)
              refine CJ.seq ?_
              refine CJ.region ?_
              refine OJ.pures tU_ok 1 rfl ?_
              refine OJ.nil (EJ.next ?_)
              refine CJ.seq ?_
              refine CJ.region ?_
              refine OJ.pures tU_ok 2 rfl ?_
              obtain ⟨t24, ht24, H⟩ := pbind H
              refine OJ.callF rfl rfl rfl rfl rfl hb27 rfl (laws_heldInt64S.c k _ A12 c13 t23.2 (hS.rd (i := 1) rfl) (hS.le (i := 1) rfl) 1 _ ht24) ?_
              rintro _ w1 ⟨rfl, hs⟩
              replace hS := hS.grow hs
              refine OJ.pures tU_ok 1 rfl ?_
              refine OJ.nil (EJ.next ?_)
              refine CJ.seq ?_
              refine CJ.seq ?_
              refine CJ.region ?_
              refine OJ.pures tU_ok 2 rfl ?_
              refine OJ.nil (EJ.next ?_)
              refine CJ.cond rfl (fun hb => ?_) (fun hb => ?_)
              · replace H := pif_t (of_decide_eq_true hb) H
                refine CJ.seq ?_
                refine CJ.region ?_
                refine OJ.pures tU_ok 1 rfl ?_
                refine OJ.nil (EJ.next ?_)
                refine CJ.ret (EJ.skR (?_))
                obtain rfl := Option.some.inj H
                exact EJ.fin rfl (.tmp rfl .nil) ⟨rfl, hS.ext⟩
              · replace H := pif_f (of_decide_eq_false hb) H
                refine CJ.skip (EJ.next ?_)
                refine CJ.seq ?_
                refine CJ.seq ?_
                refine CJ.region ?_
                refine OJ.pures tU_ok 3 rfl ?_
                refine OJ.nil (EJ.next ?_)
                refine CJ.cond rfl (fun hb => ?_) (fun hb => ?_)
                · replace H := pif_t (of_decide_eq_true hb) H
                  refine CJ.seq ?_
                  refine CJ.region ?_
                  refine OJ.pures tU_ok 1 rfl ?_
                  refine OJ.nil (EJ.next ?_)
                  refine CJ.ret (EJ.skR (?_))
                  obtain rfl := Option.some.inj H
                  exact EJ.fin rfl (.tmp rfl .nil) ⟨rfl, hS.ext⟩
                · replace H := pif_f (of_decide_eq_false hb) H
                  refine CJ.skip (EJ.next ?_)
                  refine CJ.seq ?_
                  refine CJ.region ?_
                  refine OJ.pures tU_ok 1 rfl ?_
                  obtain ⟨t25, ht25, H⟩ := pbind H
                  refine OJ.callF rfl rfl rfl rfl rfl hb17 rfl (laws_toMeadowS.c k _ Aa0 ca0 a0 (hS.rd' (i := 0) rfl) (hS.le' (i := 0) rfl) _ ht25) ?_
                  rintro _ w1 ⟨A26, c27, rfl, hs⟩
                  replace hS := hS.addN hs
                  refine OJ.pures tU_ok 2 rfl ?_
                  obtain ⟨t28, ht28, H⟩ := pbind H
                  refine OJ.callF rfl rfl rfl rfl rfl hb41 rfl (impl_GreedyPlan.c k _ A26 c27 t25 (hS.rd (i := 2) rfl) (hS.le (i := 2) rfl) a1 a2 _ ht28) ?_
                  rintro _ w1 ⟨A29, c30, rfl, hs⟩
                  replace hS := hS.addN hs
                  refine OJ.pures tU_ok 5 rfl ?_
                  refine OJ.nil (EJ.next ?_)
                  refine CJ.seq ?_
                  obtain ⟨j54, H, K54⟩ := pbind H
                  refine CJ.cut (fun F w1 => ∃ (y31 : Bool) , (some y31 : Option Bool) = some j54 ∧ F = [(11, .slice A12 t23.2.length c13), (14, .int .i64 t23.1), (97, .bool y31)] ∧ St w no w1 [rowC (ci .i64) A12 c13 2 t23.2] [roC cMeadow Aa0 ca0 a0]) ?_ ?_
                  · skip
                    refine CJ.region ?_
                    refine OJ.pures tU_ok 2 rfl ?_
                    obtain ⟨t32, ht32, H⟩ := pbind H
                    refine OJ.callF rfl rfl rfl rfl rfl hb25 rfl (laws_eqInt64S.c k _ A29 c30 t28.1 (hS.rd (i := 3) rfl) (hS.le (i := 3) rfl) A6 c7 t5.1 (hS.rd (i := 0) rfl) (hS.le (i := 0) rfl) _ ht32) ?_
                    rintro _ w1 ⟨rfl, hs⟩
                    replace hS := hS.grow hs
                    refine OJ.pures tU_ok 2 rfl ?_
                    refine OJ.split (t := 93) rfl (fun hb => ?_) (fun hb => ?_)
                    · replace H := pif_t hb H
                      refine OJ.pures tU_ok 4 rfl ?_
                      refine OJ.nil ?_
                      exact EJ.meet (F' := [(11, .slice A12 t23.2.length c13), (14, .int .i64 t23.1), (97, .bool true)]) ⟨rfl, rfl, rfl, trivial⟩ ⟨true, H, rfl, hS.pick [1] [0] rfl⟩
                    · replace H := pifb_f hb H
                      refine OJ.pures tU_ok 4 rfl ?_
                      refine OJ.nil ?_
                      exact EJ.meet (F' := [(11, .slice A12 t23.2.length c13), (14, .int .i64 t23.1), (97, .bool (decide (t28.2 ≠ t5.2)))]) ⟨rfl, rfl, rfl, trivial⟩ ⟨(decide (t28.2 ≠ t5.2)), H, rfl, hS.pick [1] [0] rfl⟩
                  · rintro F w1 ⟨y31, he, rfl, hS⟩
                    obtain rfl := Option.some.inj he
                    have H := K54
                    refine CJ.cond rfl (fun hb => ?_) (fun hb => ?_)
                    · replace H := pif_t hb H
                      refine CJ.seq ?_
                      refine CJ.region ?_
                      refine OJ.pures tU_ok 1 rfl ?_
                      refine OJ.nil (EJ.next ?_)
                      refine CJ.ret (EJ.skR (?_))
                      obtain rfl := Option.some.inj H
                      exact EJ.fin rfl (.tmp rfl .nil) ⟨rfl, hS.ext⟩
                    · replace H := pifb_f hb H
                      refine CJ.skip (EJ.next ?_)
                      refine CJ.seq ?_
                      refine CJ.region ?_
                      refine OJ.pures tU_ok 1 rfl ?_
                      refine OJ.nil (EJ.next ?_)
                      refine CJ.seq ?_
                      refine CJ.region ?_
                      refine OJ.pures tU_ok 2 rfl ?_
                      obtain ⟨t33, ht33, H⟩ := pbind H
                      refine OJ.callF rfl rfl rfl rfl rfl hb27 rfl (laws_heldInt64S.c k _ A12 c13 t23.2 (hS.rd (i := 0) rfl) (hS.le (i := 0) rfl) 1 _ ht33) ?_
                      rintro _ w1 ⟨rfl, hs⟩
                      replace hS := hS.grow hs
                      refine OJ.pures tU_ok 1 rfl ?_
                      refine OJ.nil (EJ.next ?_)
                      refine CJ.seq ?_
                      refine CJ.seq ?_
                      refine CJ.region ?_
                      refine OJ.pures tU_ok 2 rfl ?_
                      refine OJ.nil (EJ.next ?_)
                      refine CJ.cond rfl (fun hb => ?_) (fun hb => ?_)
                      · replace H := pif_t (of_decide_eq_true hb) H
                        refine CJ.seq ?_
                        refine CJ.region ?_
                        refine OJ.pures tU_ok 1 rfl ?_
                        refine OJ.nil (EJ.next ?_)
                        refine CJ.ret (EJ.skR (?_))
                        obtain rfl := Option.some.inj H
                        exact EJ.fin rfl (.tmp rfl .nil) ⟨rfl, hS.ext⟩
                      · replace H := pif_f (of_decide_eq_false hb) H
                        refine CJ.skip (EJ.next ?_)
                        refine CJ.seq ?_
                        refine CJ.seq ?_
                        refine CJ.region ?_
                        refine OJ.pures tU_ok 3 rfl ?_
                        refine OJ.nil (EJ.next ?_)
                        refine CJ.cond rfl (fun hb => ?_) (fun hb => ?_)
                        · replace H := pif_t (of_decide_eq_true hb) H
                          refine CJ.seq ?_
                          refine CJ.region ?_
                          refine OJ.pures tU_ok 1 rfl ?_
                          refine OJ.nil (EJ.next ?_)
                          refine CJ.ret (EJ.skR (?_))
                          obtain rfl := Option.some.inj H
                          exact EJ.fin rfl (.tmp rfl .nil) ⟨rfl, hS.ext⟩
                        · replace H := pif_f (of_decide_eq_false hb) H
                          refine CJ.skip (EJ.next ?_)
                          refine CJ.seq ?_
                          refine CJ.region ?_
                          refine OJ.pures tU_ok 1 rfl ?_
                          refine OJ.nil (EJ.next ?_)
                          refine CJ.ret (?_)
                          obtain rfl := Option.some.inj H
                          exact EJ.fin rfl (.tmp rfl .nil) ⟨rfl, hS.ext⟩

def spec_GrassBehind.f (k : Nat) (a0 : List Meadow) (a1 : Int) (a2 : List Int) : Option (List Meadow × Int) := (spec_l07Plan.f k a0 a1 a2).bind fun t1 => if t1 ≠ 0 then (some (([] : List Meadow), t1)) else ((spec_l07Made.f k a0 a1 a2).bind fun t3 => if 0 ≤ t3.1 then (some (([] : List Meadow), 4)) else (some (t3.2, 0)))
theorem spec_GrassBehind.c (k : Nat) (w : World) (Aa0 : Option Addr) (ca0 : Nat) (a0 : List Meadow) (hr0 : Rd cMeadow w Aa0 a0) (hc0 : a0.length ≤ ca0) (a1 : Int) (Aa2 : Option Addr) (ca2 : Nat) (a2 : List Int) (hr2 : Rd (ci .i64) w Aa2 a2) (hc2 : a2.length ≤ ca2) (r : List Meadow × Int) (H : spec_GrassBehind.f k a0 a1 a2 = some r) :
    CV Try.prog 42 [.slice Aa0 a0.length ca0, .int .i64 a1, .slice Aa2 a2.length ca2].toArray w fun v w' => ∃ (A0 : Option Addr) (c0 : Nat), v = .tuple #[.slice A0 r.1.length c0, .int .i64 r.2] ∧ St w no w' [rowC cMeadow A0 c0 57 r.1] [] := by
  have hS := (((St.init w no).param cMeadow Aa0 ca0 a0 hr0 hc0).param (ci .i64) Aa2 ca2 a2 hr2 hc2)
  unfold spec_GrassBehind.f at H
  refine CV.body Try.func42 rfl Try.ntmps42 rfl ?_
  refine CJ.seq ?_
  refine CJ.region ?_
  refine OJ.pures tU_ok 2 rfl ?_
  refine OJ.nil (EJ.next ?_)
  refine CJ.seq ?_
  refine CJ.seq ?_
  refine CJ.region ?_
  refine OJ.pures tU_ok 3 rfl ?_
  obtain ⟨t1, ht1, H⟩ := pbind H
  refine OJ.callF rfl rfl rfl rfl rfl hb68 rfl (spec_l07Plan.c k _ Aa0 ca0 a0 (hS.rd' (i := 0) rfl) (hS.le' (i := 0) rfl) a1 Aa2 ca2 a2 (hS.rd' (i := 1) rfl) (hS.le' (i := 1) rfl) _ ht1) ?_
  rintro _ w1 ⟨rfl, hs⟩
  replace hS := hS.grow hs
  refine OJ.pures tU_ok 1 rfl ?_
  refine OJ.nil (EJ.next ?_)
  refine CJ.seq ?_
  refine CJ.region ?_
  refine OJ.pures tU_ok 2 rfl ?_
  refine OJ.nil (EJ.next ?_)
  refine CJ.cond rfl (fun hb => ?_) (fun hb => ?_)
  · replace H := pif_t (of_decide_eq_true hb) H
    refine CJ.seq ?_
    refine CJ.region ?_
    refine OJ.ef rfl rfl rfl (Ef.lit tU_ok tI_ok hS (C := cMeadow) rfl rfl rfl rfl rfl rfl ([] : List Meadow) rfl rfl rfl rfl) ?_
    rintro _ w1 ⟨A2, rfl, hS⟩
    refine OJ.pures tU_ok 3 rfl ?_
    refine OJ.nil (EJ.next ?_)
    refine CJ.ret (EJ.skR (?_))
    obtain rfl := Option.some.inj H
    exact EJ.fin rfl (.tmp rfl (.tmp rfl .nil)) ⟨A2, (([] : List Meadow).length), rfl, hS.pick [0] [] rfl⟩
  · replace H := pif_f (of_decide_eq_false hb) H
    refine CJ.skip (EJ.next ?_)
    refine CJ.seq ?_
    refine CJ.region ?_
    refine OJ.pures tU_ok 3 rfl ?_
    obtain ⟨t3, ht3, H⟩ := pbind H
    refine OJ.callF rfl rfl rfl rfl rfl hb69 rfl (spec_l07Made.c k _ Aa0 ca0 a0 (hS.rd' (i := 0) rfl) (hS.le' (i := 0) rfl) a1 Aa2 ca2 a2 (hS.rd' (i := 1) rfl) (hS.le' (i := 1) rfl) _ ht3) ?_
    rintro _ w1 ⟨A4, c5, rfl, hs⟩
    replace hS := hS.addN hs
    refine OJ.pures tU_ok 5 rfl ?_
    refine OJ.nil (EJ.next ?_)
    refine CJ.seq ?_
    refine CJ.seq ?_
    refine CJ.region ?_
    refine OJ.pures tU_ok 2 rfl ?_
    refine OJ.nil (EJ.next ?_)
    refine CJ.cond rfl (fun hb => ?_) (fun hb => ?_)
    · replace H := pif_t (of_decide_eq_true hb) H
      refine CJ.seq ?_
      refine CJ.region ?_
      refine OJ.ef rfl rfl rfl (Ef.lit tU_ok tI_ok hS (C := cMeadow) rfl rfl rfl rfl rfl rfl ([] : List Meadow) rfl rfl rfl rfl) ?_
      rintro _ w1 ⟨A6, rfl, hS⟩
      refine OJ.pures tU_ok 2 rfl ?_
      refine OJ.nil (EJ.next ?_)
      refine CJ.ret (EJ.skR (?_))
      obtain rfl := Option.some.inj H
      exact EJ.fin rfl (.tmp rfl (.tmp rfl .nil)) ⟨A6, (([] : List Meadow).length), rfl, hS.pick [1] [] rfl⟩
    · replace H := pif_f (of_decide_eq_false hb) H
      refine CJ.skip (EJ.next ?_)
      refine CJ.seq ?_
      refine CJ.region ?_
      refine OJ.pures tU_ok 3 rfl ?_
      refine OJ.nil (EJ.next ?_)
      refine CJ.ret (?_)
      obtain rfl := Option.some.inj H
      exact EJ.fin rfl (.tmp rfl (.tmp rfl .nil)) ⟨A4, c5, rfl, hS.pick [0] [] rfl⟩

def impl_GrassBehind.f (k : Nat) (a0 : List Meadow) (a1 : Int) (a2 : List Int) : Option (List Meadow × Int) := (impl_planCode.f k a0 a1 a2).bind fun t1 => if t1 ≠ 0 then (some ([], t1)) else ((impl_follow.f k a0 a1 a2).bind fun t2 => if t2.1 < (a2.length : Int) then (some ([], 4)) else ((slices_Clone_impl_Meadow_impl_Meadow.f t2.2).bind fun t5 => some (t5, 0)))
theorem impl_GrassBehind.c (k : Nat) (w : World) (Aa0 : Option Addr) (ca0 : Nat) (a0 : List Meadow) (hr0 : Rd cMeadow w Aa0 a0) (hc0 : a0.length ≤ ca0) (a1 : Int) (Aa2 : Option Addr) (ca2 : Nat) (a2 : List Int) (hr2 : Rd (ci .i64) w Aa2 a2) (hc2 : a2.length ≤ ca2) (r : List Meadow × Int) (H : impl_GrassBehind.f k a0 a1 a2 = some r) :
    CV Try.prog 43 [.slice Aa0 a0.length ca0, .int .i64 a1, .slice Aa2 a2.length ca2].toArray w fun v w' => ∃ (A0 : Option Addr) (c0 : Nat), v = .tuple #[.slice A0 r.1.length c0, .int .i64 r.2] ∧ St w no w' [rowC cMeadow A0 c0 57 r.1] [] := by
  have hS := (((St.init w no).param cMeadow Aa0 ca0 a0 hr0 hc0).param (ci .i64) Aa2 ca2 a2 hr2 hc2)
  unfold impl_GrassBehind.f at H
  refine CV.body Try.func43 rfl Try.ntmps43 rfl ?_
  refine CJ.seq ?_
  refine CJ.region ?_
  refine OJ.pures tU_ok 2 rfl ?_
  refine OJ.nil (EJ.next ?_)
  refine CJ.seq ?_
  refine CJ.seq ?_
  refine CJ.region ?_
  refine OJ.pures tU_ok 3 rfl ?_
  obtain ⟨t1, ht1, H⟩ := pbind H
  refine OJ.callF rfl rfl rfl rfl rfl hb70 rfl (impl_planCode.c k _ Aa0 ca0 a0 (hS.rd' (i := 0) rfl) (hS.le' (i := 0) rfl) a1 Aa2 ca2 a2 (hS.rd' (i := 1) rfl) (hS.le' (i := 1) rfl) _ ht1) ?_
  rintro _ w1 ⟨rfl, hs⟩
  replace hS := hS.grow hs
  refine OJ.pures tU_ok 1 rfl ?_
  refine OJ.nil (EJ.next ?_)
  refine CJ.seq ?_
  refine CJ.region ?_
  refine OJ.pures tU_ok 2 rfl ?_
  refine OJ.nil (EJ.next ?_)
  refine CJ.cond rfl (fun hb => ?_) (fun hb => ?_)
  · replace H := pif_t (of_decide_eq_true hb) H
    refine CJ.seq ?_
    refine CJ.region ?_
    refine OJ.pures tU_ok 3 rfl ?_
    refine OJ.nil (EJ.next ?_)
    refine CJ.ret (EJ.skR (?_))
    replace hS := hS.addNil cMeadow 57 none
    obtain rfl := Option.some.inj H
    exact EJ.fin rfl (.tmp rfl (.tmp rfl .nil)) ⟨none, 0, rfl, hS.pick [0] [] rfl⟩
  · replace H := pif_f (of_decide_eq_false hb) H
    refine CJ.skip (EJ.next ?_)
    refine CJ.seq ?_
    refine CJ.region ?_
    refine OJ.pures tU_ok 3 rfl ?_
    obtain ⟨t2, ht2, H⟩ := pbind H
    refine OJ.callF rfl rfl rfl rfl rfl hb71 rfl (impl_follow.c k _ Aa0 ca0 a0 (hS.rd' (i := 0) rfl) (hS.le' (i := 0) rfl) a1 Aa2 ca2 a2 (hS.rd' (i := 1) rfl) (hS.le' (i := 1) rfl) _ ht2) ?_
    rintro _ w1 ⟨A3, c4, rfl, hx, hr⟩
    replace hS := hS.addRo hx hr (fun b hb => by rcases hb with hb | hb | hb | hb; exact .inl hb; exact .inr ⟨_, List.mem_of_getElem? (i := 0) rfl, hb⟩; exact .inr ⟨_, List.mem_of_getElem? (i := 1) rfl, hb⟩; exact hb.elim)
    refine OJ.pures tU_ok 5 rfl ?_
    refine OJ.nil (EJ.next ?_)
    refine CJ.seq ?_
    refine CJ.seq ?_
    refine CJ.region ?_
    refine OJ.pures tU_ok 4 rfl ?_
    refine OJ.nil (EJ.next ?_)
    refine CJ.cond rfl (fun hb => ?_) (fun hb => ?_)
    · replace H := pif_t (of_decide_eq_true hb) H
      refine CJ.seq ?_
      refine CJ.region ?_
      refine OJ.pures tU_ok 2 rfl ?_
      refine OJ.nil (EJ.next ?_)
      refine CJ.ret (EJ.skR (?_))
      replace hS := hS.addNil cMeadow 57 none
      obtain rfl := Option.some.inj H
      exact EJ.fin rfl (.tmp rfl (.tmp rfl .nil)) ⟨none, 0, rfl, hS.pick [0] [] rfl⟩
    · replace H := pif_f (of_decide_eq_false hb) H
      refine CJ.skip (EJ.next ?_)
      refine CJ.seq ?_
      refine CJ.region ?_
      refine OJ.pures tU_ok 1 rfl ?_
      obtain ⟨t5, ht5, H⟩ := pbind H
      refine OJ.callF rfl rfl rfl rfl rfl hb72 rfl (slices_Clone_impl_Meadow_impl_Meadow.c _ A3 c4 t2.2 (hS.rd' (i := 2) rfl) (hS.le' (i := 2) rfl) _ ht5) ?_
      rintro _ w1 ⟨A6, c7, rfl, hs⟩
      replace hS := hS.addN hs
      refine OJ.pures tU_ok 2 rfl ?_
      refine OJ.nil (EJ.next ?_)
      refine CJ.ret (?_)
      obtain rfl := Option.some.inj H
      exact EJ.fin rfl (.tmp rfl (.tmp rfl .nil)) ⟨A6, c7, rfl, hS.pick [0] [] rfl⟩

def laws_FnExactGrassBehind.f (k : Nat) (a0 : List Meadow) (a1 : Int) (a2 : List Int) : Option Bool := if 1048576 < (a2.length : Int) then (some true) else ((laws_szMeadowS.f a0 1048576).bind fun t1 => if t1 < 0 then (some true) else ((laws_toMeadowS.f k a0).bind fun t2 => (laws_toInt64S.f k a2).bind fun t5 => (spec_GrassBehind.f k t2 a1 t5).bind fun t8 => (laws_toMeadowS.f k a0).bind fun t11 => (laws_toInt64S.f k a2).bind fun t14 => (impl_GrassBehind.f k t11 a1 t14).bind fun t17 => ((laws_eqMeadowS.f k t17.1 t8.1).bind fun t21 => if (!t21) = true then (some true) else (some (decide (t17.2 ≠ t8.2)))).bind fun y20 => if y20 = true then (some false) else ((laws_toMeadowS.f k a0).bind fun t22 => (laws_eqMeadowS.f k t11 t22).bind fun t25 => if (!t25) = true then (some false) else ((laws_toInt64S.f k a2).bind fun t26 => (laws_eqInt64S.f k t14 t26).bind fun t29 => if (!t29) = true then (some false) else ((laws_markMeadowS.f k t11 1).bind fun t30 => (laws_markInt64S.f k t14 t30.1).bind fun t31 => (if t31.1 < 0 then (some true) else ((laws_eqMeadowS.f k t17.1 t8.1).bind fun t33 => if (!t33) = true then (some true) else (some (decide (t17.2 ≠ t8.2))))).bind fun y32 => if y32 = true then (some false) else ((laws_markMeadowS.f k t17.1 1).bind fun t34 => (laws_heldMeadowS.f k t34.2 1).bind fun t35 => if t35 < 0 then (some false) else (if t35 ≠ t34.1 then (some false) else ((laws_toMeadowS.f k a0).bind fun t36 => (laws_toInt64S.f k a2).bind fun t39 => (impl_GrassBehind.f k t36 a1 t39).bind fun t42 => ((laws_eqMeadowS.f k t42.1 t8.1).bind fun t46 => if (!t46) = true then (some true) else (some (decide (t42.2 ≠ t8.2)))).bind fun y45 => if y45 = true then (some false) else ((laws_heldMeadowS.f k t34.2 1).bind fun t47 => if t47 < 0 then (some false) else (if t47 ≠ t34.1 then (some false) else (some true)))))))))))
theorem laws_FnExactGrassBehind.c (k : Nat) (w : World) (Aa0 : Option Addr) (ca0 : Nat) (a0 : List Meadow) (hr0 : Rd cMeadow w Aa0 a0) (hc0 : a0.length ≤ ca0) (a1 : Int) (Aa2 : Option Addr) (ca2 : Nat) (a2 : List Int) (hr2 : Rd (ci .i64) w Aa2 a2) (hc2 : a2.length ≤ ca2) (r : Bool) (H : laws_FnExactGrassBehind.f k a0 a1 a2 = some r) :
    CV Try.prog 12 [.slice Aa0 a0.length ca0, .int .i64 a1, .slice Aa2 a2.length ca2].toArray w fun v w' => v = .bool r ∧ Ext w w' := by
  have hS := (((St.init w no).param cMeadow Aa0 ca0 a0 hr0 hc0).param (ci .i64) Aa2 ca2 a2 hr2 hc2)
  unfold laws_FnExactGrassBehind.f at H
  refine CV.body Try.func12 rfl Try.ntmps12 rfl ?_
  refine CJ.seq ?_
  refine CJ.region ?_
  refine OJ.pures tU_ok 1 rfl ?_
  refine OJ.nil (EJ.next ?_)
  refine CJ.seq ?_
  refine CJ.seq ?_
  refine CJ.region ?_
  refine OJ.pures tU_ok 3 rfl ?_
  refine OJ.nil (EJ.next ?_)
  refine CJ.cond rfl (fun hb => ?_) (fun hb => ?_)
  · replace H := pif_t (of_decide_eq_true hb) H
    refine CJ.seq ?_
    refine CJ.region ?_
    refine OJ.pures tU_ok 1 rfl ?_
    refine OJ.nil (EJ.next ?_)
    refine CJ.ret (EJ.skR (?_))
    obtain rfl := Option.some.inj H
    exact EJ.fin rfl (.tmp rfl .nil) ⟨rfl, hS.ext⟩
  · replace H := pif_f (of_decide_eq_false hb) H
    refine CJ.skip (EJ.next ?_)
    refine CJ.seq ?_
    refine CJ.region ?_
    refine OJ.pures tU_ok 1 rfl ?_
    refine OJ.nil (EJ.next ?_)
    refine CJ.seq ?_
    refine CJ.region ?_
    refine OJ.pures tU_ok 2 rfl ?_
    obtain ⟨t1, ht1, H⟩ := pbind H
    refine OJ.callF rfl rfl rfl rfl rfl hb15 rfl (laws_szMeadowS.c _ Aa0 ca0 a0 (hS.rd' (i := 0) rfl) (hS.le' (i := 0) rfl) 1048576 _ ht1) ?_
    rintro _ w1 ⟨rfl, hs⟩
    replace hS := hS.grow hs
    refine OJ.pures tU_ok 1 rfl ?_
    refine OJ.nil (EJ.next ?_)
    refine CJ.seq ?_
    refine CJ.seq ?_
    refine CJ.region ?_
    refine OJ.pures tU_ok 2 rfl ?_
    refine OJ.nil (EJ.next ?_)
    refine CJ.cond rfl (fun hb => ?_) (fun hb => ?_)
    · replace H := pif_t (of_decide_eq_true hb) H
      refine CJ.seq ?_
      refine CJ.region ?_
      refine OJ.pures tU_ok 1 rfl ?_
      refine OJ.nil (EJ.next ?_)
      refine CJ.ret (EJ.skR (?_))
      obtain rfl := Option.some.inj H
      exact EJ.fin rfl (.tmp rfl .nil) ⟨rfl, hS.ext⟩
    · replace H := pif_f (of_decide_eq_false hb) H
      refine CJ.skip (EJ.next ?_)
      refine CJ.seq ?_
      refine CJ.region ?_
      refine OJ.pures tU_ok 1 rfl ?_
      obtain ⟨t2, ht2, H⟩ := pbind H
      refine OJ.callF rfl rfl rfl rfl rfl hb17 rfl (laws_toMeadowS.c k _ Aa0 ca0 a0 (hS.rd' (i := 0) rfl) (hS.le' (i := 0) rfl) _ ht2) ?_
      rintro _ w1 ⟨A3, c4, rfl, hs⟩
      replace hS := hS.addN hs
      refine OJ.pures tU_ok 2 rfl ?_
      obtain ⟨t5, ht5, H⟩ := pbind H
      refine OJ.callF rfl rfl rfl rfl rfl hb23 rfl (laws_toInt64S.c k _ Aa2 ca2 a2 (hS.rd' (i := 1) rfl) (hS.le' (i := 1) rfl) _ ht5) ?_
      rintro _ w1 ⟨A6, c7, rfl, hs⟩
      replace hS := hS.addN hs
      obtain ⟨t8, ht8, H⟩ := pbind H
      refine OJ.callF rfl rfl rfl rfl rfl hb42 rfl (spec_GrassBehind.c k _ A3 c4 t2 (hS.rd (i := 0) rfl) (hS.le (i := 0) rfl) a1 A6 c7 t5 (hS.rd (i := 1) rfl) (hS.le (i := 1) rfl) _ ht8) ?_
      rintro _ w1 ⟨A9, c10, rfl, hs⟩
      replace hS := hS.addN hs
      refine OJ.pures tU_ok 5 rfl ?_
      refine OJ.nil (EJ.next ?_)
      refine CJ.seq ?_
      refine CJ.region ?_
      refine OJ.pures tU_ok 1 rfl ?_
      obtain ⟨t11, ht11, H⟩ := pbind H
      refine OJ.callF rfl rfl rfl rfl rfl hb17 rfl (laws_toMeadowS.c k _ Aa0 ca0 a0 (hS.rd' (i := 0) rfl) (hS.le' (i := 0) rfl) _ ht11) ?_
      rintro _ w1 ⟨A12, c13, rfl, hs⟩
      replace hS := hS.addN hs
      refine OJ.pures tU_ok 1 rfl ?_
      refine OJ.nil (EJ.next ?_)
      refine CJ.seq ?_
      refine CJ.region ?_
      refine OJ.pures tU_ok 1 rfl ?_
      obtain ⟨t14, ht14, H⟩ := pbind H
      refine OJ.callF rfl rfl rfl rfl rfl hb23 rfl (laws_toInt64S.c k _ Aa2 ca2 a2 (hS.rd' (i := 1) rfl) (hS.le' (i := 1) rfl) _ ht14) ?_
      rintro _ w1 ⟨A15, c16, rfl, hs⟩
      replace hS := hS.addN hs
      refine OJ.pures tU_ok 1 rfl ?_
      refine OJ.nil (EJ.next ?_)
      refine CJ.seq ?_
      refine CJ.region ?_
      refine OJ.pures tU_ok 3 rfl ?_
      obtain ⟨t17, ht17, H⟩ := pbind H
      refine OJ.callF rfl rfl rfl rfl rfl hb43 rfl (impl_GrassBehind.c k _ A12 c13 t11 (hS.rd (i := 3) rfl) (hS.le (i := 3) rfl) a1 A15 c16 t14 (hS.rd (i := 4) rfl) (hS.le (i := 4) rfl) _ ht17) ?_
      rintro _ w1 ⟨A18, c19, rfl, hs⟩
      replace hS := hS.addN hs
      refine OJ.pures tU_ok 5 rfl ?_
      refine OJ.nil (EJ.next ?_)
      refine CJ.seq ?_
      obtain ⟨j55, H, K55⟩ := pbind H
      refine CJ.cut (fun F w1 => ∃ (y20 : Bool) , (some y20 : Option Bool) = some j55 ∧ F = [(0, .slice Aa0 a0.length ca0), (1, .int .i64 a1), (2, .slice Aa2 a2.length ca2), (8, .slice A9 t8.1.length c10), (9, .int .i64 t8.2), (10, .slice A12 t11.length c13), (11, .slice A15 t14.length c16), (12, .slice A18 t17.1.length c19), (13, .int .i64 t17.2), (55, .bool y20)] ∧ St w no w1 [rowC cMeadow A9 c10 57 t8.1, rowC cMeadow A12 c13 57 t11, rowC (ci .i64) A15 c16 2 t14, rowC cMeadow A18 c19 57 t17.1] [roC cMeadow Aa0 ca0 a0, roC (ci .i64) Aa2 ca2 a2]) ?_ ?_
      · skip
        refine CJ.region ?_
        refine OJ.pures tU_ok 2 rfl ?_
        obtain ⟨t21, ht21, H⟩ := pbind H
        refine OJ.callF rfl rfl rfl rfl rfl hb19 rfl (laws_eqMeadowS.c k _ A18 c19 t17.1 (hS.rd (i := 5) rfl) (hS.le (i := 5) rfl) A9 c10 t8.1 (hS.rd (i := 2) rfl) (hS.le (i := 2) rfl) _ ht21) ?_
        rintro _ w1 ⟨rfl, hs⟩
        replace hS := hS.grow hs
        refine OJ.pures tU_ok 2 rfl ?_
        refine OJ.split (t := 51) rfl (fun hb => ?_) (fun hb => ?_)
        · replace H := pif_t hb H
          refine OJ.pures tU_ok 4 rfl ?_
          refine OJ.nil ?_
          exact EJ.meet (F' := [(0, .slice Aa0 a0.length ca0), (1, .int .i64 a1), (2, .slice Aa2 a2.length ca2), (8, .slice A9 t8.1.length c10), (9, .int .i64 t8.2), (10, .slice A12 t11.length c13), (11, .slice A15 t14.length c16), (12, .slice A18 t17.1.length c19), (13, .int .i64 t17.2), (55, .bool true)]) ⟨rfl, rfl, rfl, rfl, rfl, rfl, rfl, rfl, rfl, rfl, trivial⟩ ⟨true, H, rfl, hS.pick [2, 3, 4, 5] [0, 1] rfl⟩
        · replace H := pifb_f hb H
          refine OJ.pures tU_ok 4 rfl ?_
          refine OJ.nil ?_
          exact EJ.meet (F' := [(0, .slice Aa0 a0.length ca0), (1, .int .i64 a1), (2, .slice Aa2 a2.length ca2), (8, .slice A9 t8.1.length c10), (9, .int .i64 t8.2), (10, .slice A12 t11.length c13), (11, .slice A15 t14.length c16), (12, .slice A18 t17.1.length c19), (13, .int .i64 t17.2), (55, .bool (decide (t17.2 ≠ t8.2)))]) ⟨rfl, rfl, rfl, rfl, rfl, rfl, rfl, rfl, rfl, rfl, trivial⟩ ⟨(decide (t17.2 ≠ t8.2)), H, rfl, hS.pick [2, 3, 4, 5] [0, 1] rfl⟩
      · rintro F w1 ⟨y20, he, rfl, hS⟩
        obtain rfl := Option.some.inj he
        have H := K55
        refine CJ.cond rfl (fun hb => ?_) (fun hb => ?_)
        · replace H := pif_t hb H
          refine CJ.seq ?_
          refine CJ.region ?_
          refine OJ.pures tU_ok 1 rfl ?_
          refine OJ.nil (EJ.next ?_)
          refine CJ.ret (EJ.skR (?_))
          obtain rfl := Option.some.inj H
          exact EJ.fin rfl (.tmp rfl .nil) ⟨rfl, hS.ext⟩
        · replace H := pifb_f hb H
          refine CJ.skip (EJ.next ?_)
          refine CJ.seq ?_
          refine CJ.seq ?_
          refine CJ.region ?_
          refine OJ.pures tU_ok 2 rfl ?_
          obtain ⟨t22, ht22, H⟩ := pbind H
          refine OJ.callF rfl rfl rfl rfl rfl hb17 rfl (laws_toMeadowS.c k _ Aa0 ca0 a0 (hS.rd' (i := 0) rfl) (hS.le' (i := 0) rfl) _ ht22) ?_
          rintro _ w1 ⟨A23, c24, rfl, hs⟩
          replace hS := hS.addN hs
          obtain ⟨t25, ht25, H⟩ := pbind H
          refine OJ.callF rfl rfl rfl rfl rfl hb19 rfl (laws_eqMeadowS.c k _ A12 c13 t11 (hS.rd (i := 1) rfl) (hS.le (i := 1) rfl) A23 c24 t22 (hS.rd (i := 4) rfl) (hS.le (i := 4) rfl) _ ht25) ?_
          rintro _ w1 ⟨rfl, hs⟩
          replace hS := hS.grow hs
          refine OJ.pures tU_ok 1 rfl ?_
          refine OJ.nil (EJ.next ?_)
          refine CJ.cond rfl (fun hb => ?_) (fun hb => ?_)
          · replace H := pif_t hb H
            refine CJ.seq ?_
            refine CJ.region ?_
            refine OJ.pures tU_ok 1 rfl ?_
            refine OJ.nil (EJ.next ?_)
            refine CJ.ret (EJ.skR (?_))
            obtain rfl := Option.some.inj H
            exact EJ.fin rfl (.tmp rfl .nil) ⟨rfl, hS.ext⟩
          · replace H := pifb_f hb H
            refine CJ.skip (EJ.next ?_)
            refine CJ.seq ?_
            refine CJ.seq ?_
            refine CJ.region ?_
            refine OJ.pures tU_ok 2 rfl ?_
            obtain ⟨t26, ht26, H⟩ := pbind H
            refine OJ.callF rfl rfl rfl rfl rfl hb23 rfl (laws_toInt64S.c k _ Aa2 ca2 a2 (hS.rd' (i := 1) rfl) (hS.le' (i := 1) rfl) _ ht26) ?_
            rintro _ w1 ⟨A27, c28, rfl, hs⟩
            replace hS := hS.addN hs
            obtain ⟨t29, ht29, H⟩ := pbind H
            refine OJ.callF rfl rfl rfl rfl rfl hb25 rfl (laws_eqInt64S.c k _ A15 c16 t14 (hS.rd (i := 2) rfl) (hS.le (i := 2) rfl) A27 c28 t26 (hS.rd (i := 5) rfl) (hS.le (i := 5) rfl) _ ht29) ?_
            rintro _ w1 ⟨rfl, hs⟩
            replace hS := hS.grow hs
            refine OJ.pures tU_ok 1 rfl ?_
            refine OJ.nil (EJ.next ?_)
            refine CJ.cond rfl (fun hb => ?_) (fun hb => ?_)
            · replace H := pif_t hb H
              refine CJ.seq ?_
              refine CJ.region ?_
              refine OJ.pures tU_ok 1 rfl ?_
              refine OJ.nil (EJ.next ?_)
              refine CJ.ret (EJ.skR (?_))
              obtain rfl := Option.some.inj H
              exact EJ.fin rfl (.tmp rfl .nil) ⟨rfl, hS.ext⟩
            · replace H := pifb_f hb H
              refine CJ.skip (EJ.next ?_)
              refine CJ.seq ?_
              refine CJ.region ?_
              refine OJ.pures tU_ok 1 rfl ?_
              refine OJ.nil (EJ.next ?_)
              refine CJ.seq ?_
              refine CJ.region ?_
              refine OJ.pures tU_ok 2 rfl ?_
              obtain ⟨t30, ht30, H⟩ := pbind H
              refine OJ.callF rfl rfl rfl rfl rfl hb32 rfl (laws_markMeadowS.c k _ A12 c13 t11 (hS.row (i := 1) rfl) 1 _ ht30) ?_
              rintro _ w1 ⟨rfl, hx, hr, hl⟩
              replace hS := hS.rowSet (i := 1) rfl hx hr
              refine OJ.as (t := 10) rfl (show _ = Value.slice A12 t30.2.length c13 by rw [hl]) ?_
              refine OJ.as (t := 56) rfl (show _ = Value.slice A12 t30.2.length c13 by rw [hl]) ?_
              refine OJ.as (t := 66) rfl (show _ = Value.slice A12 t30.2.length c13 by rw [hl]) ?_
              refine OJ.pures tU_ok 1 rfl ?_
              refine OJ.nil (EJ.next ?_)
              refine CJ.seq ?_
              refine CJ.region ?_
              refine OJ.pures tU_ok 2 rfl ?_
              obtain ⟨t31, ht31, H⟩ := pbind H
              refine OJ.callF rfl rfl rfl rfl rfl hb26 rfl (laws_markInt64S.c k _ A15 c16 t14 (hS.row (i := 2) rfl) t30.1 _ ht31) ?_
              rintro _ w1 ⟨rfl, hx, hr, hl⟩
              replace hS := hS.rowSet (i := 2) rfl hx hr
              refine OJ.as (t := 11) rfl (show _ = Value.slice A15 t31.2.length c16 by rw [hl]) ?_
              refine OJ.as (t := 61) rfl (show _ = Value.slice A15 t31.2.length c16 by rw [hl]) ?_
              refine OJ.as (t := 69) rfl (show _ = Value.slice A15 t31.2.length c16 by rw [hl]) ?_
              refine OJ.pures tU_ok 1 rfl ?_
              refine OJ.nil (EJ.next ?_)
              refine CJ.seq ?_
              obtain ⟨j56, H, K56⟩ := pbind H
              refine CJ.cut (fun F w1 => ∃ (y32 : Bool) , (some y32 : Option Bool) = some j56 ∧ F = [(0, .slice Aa0 a0.length ca0), (1, .int .i64 a1), (2, .slice Aa2 a2.length ca2), (8, .slice A9 t8.1.length c10), (9, .int .i64 t8.2), (12, .slice A18 t17.1.length c19), (84, .bool y32)] ∧ St w no w1 [rowC cMeadow A9 c10 57 t8.1, rowC cMeadow A18 c19 57 t17.1] [roC cMeadow Aa0 ca0 a0, roC (ci .i64) Aa2 ca2 a2]) ?_ ?_
              · skip
                refine CJ.region ?_
                refine OJ.pures tU_ok 3 rfl ?_
                refine OJ.split (t := 74) rfl (fun hb => ?_) (fun hb => ?_)
                · replace H := pif_t (of_decide_eq_true hb) H
                  refine OJ.pures tU_ok 10 rfl ?_
                  refine OJ.nil ?_
                  exact EJ.meet (F' := [(0, .slice Aa0 a0.length ca0), (1, .int .i64 a1), (2, .slice Aa2 a2.length ca2), (8, .slice A9 t8.1.length c10), (9, .int .i64 t8.2), (12, .slice A18 t17.1.length c19), (84, .bool true)]) ⟨rfl, rfl, rfl, rfl, rfl, rfl, rfl, trivial⟩ ⟨true, H, rfl, hS.pick [0, 3] [0, 1] rfl⟩
                · replace H := pif_f (of_decide_eq_false hb) H
                  refine OJ.pures tU_ok 2 rfl ?_
                  obtain ⟨t33, ht33, H⟩ := pbind H
                  refine OJ.callF rfl rfl rfl rfl rfl hb19 rfl (laws_eqMeadowS.c k _ A18 c19 t17.1 (hS.rd (i := 3) rfl) (hS.le (i := 3) rfl) A9 c10 t8.1 (hS.rd (i := 0) rfl) (hS.le (i := 0) rfl) _ ht33) ?_
                  rintro _ w1 ⟨rfl, hs⟩
                  replace hS := hS.grow hs
                  refine OJ.pures tU_ok 3 rfl ?_
                  refine OJ.split (t := 80) rfl (fun hb => ?_) (fun hb => ?_)
                  · replace H := pif_t hb H
                    refine OJ.pures tU_ok 4 rfl ?_
                    refine OJ.nil ?_
                    exact EJ.meet (F' := [(0, .slice Aa0 a0.length ca0), (1, .int .i64 a1), (2, .slice Aa2 a2.length ca2), (8, .slice A9 t8.1.length c10), (9, .int .i64 t8.2), (12, .slice A18 t17.1.length c19), (84, .bool true)]) ⟨rfl, rfl, rfl, rfl, rfl, rfl, rfl, trivial⟩ ⟨true, H, rfl, hS.pick [0, 3] [0, 1] rfl⟩
                  · replace H := pifb_f hb H
                    refine OJ.pures tU_ok 4 rfl ?_
                    refine OJ.nil ?_
                    exact EJ.meet (F' := [(0, .slice Aa0 a0.length ca0), (1, .int .i64 a1), (2, .slice Aa2 a2.length ca2), (8, .slice A9 t8.1.length c10), (9, .int .i64 t8.2), (12, .slice A18 t17.1.length c19), (84, .bool (decide (t17.2 ≠ t8.2)))]) ⟨rfl, rfl, rfl, rfl, rfl, rfl, rfl, trivial⟩ ⟨(decide (t17.2 ≠ t8.2)), H, rfl, hS.pick [0, 3] [0, 1] rfl⟩
              · rintro F w1 ⟨y32, he, rfl, hS⟩
                obtain rfl := Option.some.inj he
                have H := K56
                refine CJ.cond rfl (fun hb => ?_) (fun hb => ?_)
                · replace H := pif_t hb H
                  refine CJ.seq ?_
                  refine CJ.region ?_
                  refine OJ.pures tU_ok 1 rfl ?_
                  refine OJ.nil (EJ.next ?_)
                  refine CJ.ret (EJ.skR (?_))
                  obtain rfl := Option.some.inj H
                  exact EJ.fin rfl (.tmp rfl .nil) ⟨rfl, hS.ext⟩
                · replace H := pifb_f hb H
                  refine CJ.skip (EJ.next ?_)
                  refine CJ.seq ?_
                  refine CJ.region ?_
                  refine OJ.pures tU_ok 1 rfl ?_
                  refine OJ.nil (EJ.next ?_)
                  refine CJ.seq ?_
                  refine CJ.region ?_
                  refine OJ.pures tU_ok 2 rfl ?_
                  obtain ⟨t34, ht34, H⟩ := pbind H
                  refine OJ.callF rfl rfl rfl rfl rfl hb32 rfl (laws_markMeadowS.c k _ A18 c19 t17.1 (hS.row (i := 1) rfl) 1 _ ht34) ?_
                  rintro _ w1 ⟨rfl, hx, hr, hl⟩
                  replace hS := hS.rowSet (i := 1) rfl hx hr
                  refine OJ.as (t := 12) rfl (show _ = Value.slice A18 t34.2.length c19 by rw [hl]) ?_
                  refine OJ.as (t := 85) rfl (show _ = Value.slice A18 t34.2.length c19 by rw [hl]) ?_
                  refine OJ.pures tU_ok 1 rfl ?_
                  refine OJ.nil (EJ.next ?_)
                  refine CJ.seq ?_
                  refine CJ.region ?_
                  refine OJ.pures tU_ok 1 rfl ?_
                  refine OJ.nil (EJ.next ?_)
                  refine CJ.seq ?_
                  refine CJ.region ?_
                  refine OJ.pures tU_ok 2 rfl ?_
                  obtain ⟨t35, ht35, H⟩ := pbind H
                  refine OJ.callF rfl rfl rfl rfl rfl hb33 rfl (laws_heldMeadowS.c k _ A18 c19 t34.2 (hS.rd (i := 1) rfl) (hS.le (i := 1) rfl) 1 _ ht35) ?_
                  rintro _ w1 ⟨rfl, hs⟩
                  replace hS := hS.grow hs
                  refine OJ.pures tU_ok 1 rfl ?_
                  refine OJ.nil (EJ.next ?_)
                  refine CJ.seq ?_
                  refine CJ.seq ?_
                  refine CJ.region ?_
                  refine OJ.pures tU_ok 2 rfl ?_
                  refine OJ.nil (EJ.next ?_)
                  refine CJ.cond rfl (fun hb => ?_) (fun hb => ?_)
                  · replace H := pif_t (of_decide_eq_true hb) H
                    refine CJ.seq ?_
                    refine CJ.region ?_
                    refine OJ.pures tU_ok 1 rfl ?_
                    refine OJ.nil (EJ.next ?_)
                    refine CJ.ret (EJ.skR (?_))
                    obtain rfl := Option.some.inj H
                    exact EJ.fin rfl (.tmp rfl .nil) ⟨rfl, hS.ext⟩
                  · replace H := pif_f (of_decide_eq_false hb) H
                    refine CJ.skip (EJ.next ?_)
                    refine CJ.seq ?_
                    refine CJ.seq ?_
                    refine CJ.region ?_
                    refine OJ.pures tU_ok 3 rfl ?_
                    refine OJ.nil (EJ.next ?_)
                    refine CJ.cond rfl (fun hb => ?_) (fun hb => ?_)
                    · replace H := pif_t (of_decide_eq_true hb) H
                      refine CJ.seq ?_
                      refine CJ.region ?_
                      refine OJ.pures tU_ok 1 rfl ?_
                      refine OJ.nil (EJ.next ?_)
                      refine CJ.ret (EJ.skR (?_))
                      obtain rfl := Option.some.inj H
                      exact EJ.fin rfl (.tmp rfl .nil) ⟨rfl, hS.ext⟩
                    · replace H := pif_f (of_decide_eq_false hb) H
                      refine CJ.skip (EJ.next ?_)
                      refine CJ.seq ?_
                      refine CJ.region ?_
                      refine OJ.pures tU_ok 1 rfl ?_
                      obtain ⟨t36, ht36, H⟩ := pbind H
                      refine OJ.callF rfl rfl rfl rfl rfl hb17 rfl (laws_toMeadowS.c k _ Aa0 ca0 a0 (hS.rd' (i := 0) rfl) (hS.le' (i := 0) rfl) _ ht36) ?_
                      rintro _ w1 ⟨A37, c38, rfl, hs⟩
                      replace hS := hS.addN hs
                      refine OJ.pures tU_ok 2 rfl ?_
                      obtain ⟨t39, ht39, H⟩ := pbind H
                      refine OJ.callF rfl rfl rfl rfl rfl hb23 rfl (laws_toInt64S.c k _ Aa2 ca2 a2 (hS.rd' (i := 1) rfl) (hS.le' (i := 1) rfl) _ ht39) ?_
                      rintro _ w1 ⟨A40, c41, rfl, hs⟩
                      replace hS := hS.addN hs
                      obtain ⟨t42, ht42, H⟩ := pbind H
                      refine OJ.callF rfl rfl rfl rfl rfl hb43 rfl (impl_GrassBehind.c k _ A37 c38 t36 (hS.rd (i := 2) rfl) (hS.le (i := 2) rfl) a1 A40 c41 t39 (hS.rd (i := 3) rfl) (hS.le (i := 3) rfl) _ ht42) ?_
                      rintro _ w1 ⟨A43, c44, rfl, hs⟩
                      replace hS := hS.addN hs
                      refine OJ.pures tU_ok 5 rfl ?_
                      refine OJ.nil (EJ.next ?_)
                      refine CJ.seq ?_
                      obtain ⟨j57, H, K57⟩ := pbind H
                      refine CJ.cut (fun F w1 => ∃ (y45 : Bool) , (some y45 : Option Bool) = some j57 ∧ F = [(12, .slice A18 t34.2.length c19), (15, .int .i64 t34.1), (113, .bool y45)] ∧ St w no w1 [rowC cMeadow A18 c19 57 t34.2] [roC cMeadow Aa0 ca0 a0, roC (ci .i64) Aa2 ca2 a2]) ?_ ?_
                      · skip
                        refine CJ.region ?_
                        refine OJ.pures tU_ok 2 rfl ?_
                        obtain ⟨t46, ht46, H⟩ := pbind H
                        refine OJ.callF rfl rfl rfl rfl rfl hb19 rfl (laws_eqMeadowS.c k _ A43 c44 t42.1 (hS.rd (i := 4) rfl) (hS.le (i := 4) rfl) A9 c10 t8.1 (hS.rd (i := 0) rfl) (hS.le (i := 0) rfl) _ ht46) ?_
                        rintro _ w1 ⟨rfl, hs⟩
                        replace hS := hS.grow hs
                        refine OJ.pures tU_ok 2 rfl ?_
                        refine OJ.split (t := 109) rfl (fun hb => ?_) (fun hb => ?_)
                        · replace H := pif_t hb H
                          refine OJ.pures tU_ok 4 rfl ?_
                          refine OJ.nil ?_
                          exact EJ.meet (F' := [(12, .slice A18 t34.2.length c19), (15, .int .i64 t34.1), (113, .bool true)]) ⟨rfl, rfl, rfl, trivial⟩ ⟨true, H, rfl, hS.pick [1] [0, 1] rfl⟩
                        · replace H := pifb_f hb H
                          refine OJ.pures tU_ok 4 rfl ?_
                          refine OJ.nil ?_
                          exact EJ.meet (F' := [(12, .slice A18 t34.2.length c19), (15, .int .i64 t34.1), (113, .bool (decide (t42.2 ≠ t8.2)))]) ⟨rfl, rfl, rfl, trivial⟩ ⟨(decide (t42.2 ≠ t8.2)), H, rfl, hS.pick [1] [0, 1] rfl⟩
                      · rintro F w1 ⟨y45, he, rfl, hS⟩
                        obtain rfl := Option.some.inj he
                        have H := K57
                        refine CJ.cond rfl (fun hb => ?_) (fun hb => ?_)
                        · replace H := pif_t hb H
                          refine CJ.seq ?_
                          refine CJ.region ?_
                          refine OJ.pures tU_ok 1 rfl ?_
                          refine OJ.nil (EJ.next ?_)
                          refine CJ.ret (EJ.skR (?_))
                          obtain rfl := Option.some.inj H
                          exact EJ.fin rfl (.tmp rfl .nil) ⟨rfl, hS.ext⟩
                        · replace H := pifb_f hb H
                          refine CJ.skip (EJ.next ?_)
                          refine CJ.seq ?_
                          refine CJ.region ?_
                          refine OJ.pures tU_ok 1 rfl ?_
                          refine OJ.nil (EJ.next ?_)
                          refine CJ.seq ?_
                          refine CJ.region ?_
                          refine OJ.pures tU_ok 2 rfl ?_
                          obtain ⟨t47, ht47, H⟩ := pbind H
                          refine OJ.callF rfl rfl rfl rfl rfl hb33 rfl (laws_heldMeadowS.c k _ A18 c19 t34.2 (hS.rd (i := 0) rfl) (hS.le (i := 0) rfl) 1 _ ht47) ?_
                          rintro _ w1 ⟨rfl, hs⟩
                          replace hS := hS.grow hs
                          refine OJ.pures tU_ok 1 rfl ?_
                          refine OJ.nil (EJ.next ?_)
                          refine CJ.seq ?_
                          refine CJ.seq ?_
                          refine CJ.region ?_
                          refine OJ.pures tU_ok 2 rfl ?_
                          refine OJ.nil (EJ.next ?_)
                          refine CJ.cond rfl (fun hb => ?_) (fun hb => ?_)
                          · replace H := pif_t (of_decide_eq_true hb) H
                            refine CJ.seq ?_
                            refine CJ.region ?_
                            refine OJ.pures tU_ok 1 rfl ?_
                            refine OJ.nil (EJ.next ?_)
                            refine CJ.ret (EJ.skR (?_))
                            obtain rfl := Option.some.inj H
                            exact EJ.fin rfl (.tmp rfl .nil) ⟨rfl, hS.ext⟩
                          · replace H := pif_f (of_decide_eq_false hb) H
                            refine CJ.skip (EJ.next ?_)
                            refine CJ.seq ?_
                            refine CJ.seq ?_
                            refine CJ.region ?_
                            refine OJ.pures tU_ok 3 rfl ?_
                            refine OJ.nil (EJ.next ?_)
                            refine CJ.cond rfl (fun hb => ?_) (fun hb => ?_)
                            · replace H := pif_t (of_decide_eq_true hb) H
                              refine CJ.seq ?_
                              refine CJ.region ?_
                              refine OJ.pures tU_ok 1 rfl ?_
                              refine OJ.nil (EJ.next ?_)
                              refine CJ.ret (EJ.skR (?_))
                              obtain rfl := Option.some.inj H
                              exact EJ.fin rfl (.tmp rfl .nil) ⟨rfl, hS.ext⟩
                            · replace H := pif_f (of_decide_eq_false hb) H
                              refine CJ.skip (EJ.next ?_)
                              refine CJ.seq ?_
                              refine CJ.region ?_
                              refine OJ.pures tU_ok 1 rfl ?_
                              refine OJ.nil (EJ.next ?_)
                              refine CJ.ret (?_)
                              obtain rfl := Option.some.inj H
                              exact EJ.fin rfl (.tmp rfl .nil) ⟨rfl, hS.ext⟩

def spec_l07Budget.f (a0 : Int) : Option Bool := (spec_l00In.f a0 0 20000).bind fun t1 => some t1
theorem spec_l07Budget.c (w : World) (a0 : Int) (r : Bool) (H : spec_l07Budget.f a0 = some r) :
    CV Try.prog 73 [.int .i64 a0].toArray w fun v w' => v = .bool r ∧ Ext w w' := by
  have hS := (St.init w no)
  unfold spec_l07Budget.f at H
  refine CV.body Try.func73 rfl Try.ntmps73 rfl ?_
  refine CJ.seq ?_
  refine CJ.region ?_
  refine OJ.pures tU_ok 1 rfl ?_
  refine OJ.nil (EJ.next ?_)
  refine CJ.seq ?_
  refine CJ.region ?_
  refine OJ.pures tU_ok 1 rfl ?_
  obtain ⟨t1, ht1, H⟩ := pbind H
  refine OJ.callF rfl rfl rfl rfl rfl hb56 rfl (spec_l00In.c _ a0 0 20000 _ ht1) ?_
  rintro _ w1 ⟨rfl, hs⟩
  replace hS := hS.grow hs
  refine OJ.pures tU_ok 1 rfl ?_
  refine OJ.nil (EJ.next ?_)
  refine CJ.ret (?_)
  obtain rfl := Option.some.inj H
  exact EJ.fin rfl (.tmp rfl .nil) ⟨rfl, hS.ext⟩

def slices_Clone_int64_int64.f (a0 : List Int) : Option (List Int) := (chk (([] : List Int).length + a0.length ≤ 4294967296)).bind fun _ => some a0
theorem slices_Clone_int64_int64.c (w : World) (A : Option Addr) (c : Nat) (a0 : List Int) (hr0 : Rd (ci .i64) w A a0) (hc0 : a0.length ≤ c) (r : List Int) (H : slices_Clone_int64_int64.f a0 = some r) :
    CV Try.prog 87 [.slice A a0.length c].toArray w fun v w' => ∃ (A0 : Option Addr) (c0 : Nat), v = .slice A0 r.length c0 ∧ St w no w' [rowC (ci .i64) A0 c0 2 r] [] := by
  have hS := ((St.init w no).param (ci .i64) A c a0 hr0 hc0)
  obtain ⟨u, hu, H⟩ := pbind H
  obtain rfl := Option.some.inj H
  refine CV.body Try.func87 rfl Try.ntmps87 rfl ?_
  refine CJ.seq ?_
  refine CJ.region ?_
  refine OJ.pures tU_ok 1 rfl ?_
  refine OJ.nil (EJ.next ?_)
  refine CJ.seq ?_
  refine CJ.seq ?_
  refine CJ.region ?_
  refine OJ.pures tU_ok 1 rfl ?_
  refine OJ.st rfl rfl rfl (SR.eqNil tU_ok rfl rfl rfl rfl) ?_
  refine OJ.nil (EJ.next ?_)
  refine CJ.cond rfl (fun hb => ?_) (fun hb => ?_)
  · obtain rfl := hr0.isNone hb
    refine CJ.seq ?_
    refine CJ.region ?_
    refine OJ.pures tU_ok 1 rfl ?_
    refine OJ.nil (EJ.next ?_)
    refine CJ.ret (EJ.skR ?_)
    replace hS := hS.addNil (ci .i64) 2 none
    exact EJ.fin rfl (.tmp rfl .nil) ⟨none, 0, rfl, hS.pick [0] [] rfl⟩
  · refine CJ.skip (EJ.next ?_)
    refine CJ.seq ?_
    refine CJ.region ?_
    refine OJ.ef rfl rfl rfl (Ef.lit tU_ok tI_ok hS (C := (ci .i64)) rfl rfl rfl rfl rfl rfl ([] : List Int) rfl rfl rfl rfl) ?_
    rintro _ w1 ⟨A1, rfl, hS⟩
    refine OJ.pures tU_ok 1 rfl ?_
    refine OJ.ew rfl rfl rfl (Ew.append tU_ok tI_ok (C := (ci .i64)) (xs := ([] : List Int)) (ys := a0) hS (i := 0) rfl rfl rfl rfl rfl rfl rfl rfl rfl rfl rfl rfl rfl (hS.rd' (i := 0) rfl) (chk_some hu)) ?_
    rintro _ w1 ⟨A2, c2, rfl, hS⟩
    refine OJ.pures tU_ok 1 rfl ?_
    refine OJ.nil (EJ.next ?_)
    exact CJ.ret (EJ.fin rfl (.tmp rfl .nil) ⟨A2, c2, rfl, hS.pick [0] [] rfl⟩)
end Go.Proofs.Ytfdfchbcenoabaa
