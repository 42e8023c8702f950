/-
  What the functions come to.
-/
import Derived.Test.YtonpnkppaflcbaaGreatDoorGP0
namespace Go.Proofs.YtonpnkppaflcbaaGreatDoor
open G
set_option linter.unusedVariables false
set_option linter.unusedSimpArgs false
set_option maxRecDepth 100000
set_option maxHeartbeats 4000000
def spec_l06Ok.l2 (a0 : Herd) (y2 : Int) : Nat → Int → Option (((Bool ⊕ Unit) ⊕ Unit) ⊕ Unit)
  | 0, _ => none
  | k + 1, y11 => if y11 < y2 then ((getI a0.Names y11).bind fun t12 => (getI a0.Names y2).bind fun t13 => if t12 = t13 then (some (Sum.inl (Sum.inl (Sum.inl false)))) else ((spec_l06Are.f a0 y2 y11).bind fun t14 => (spec_l06Are.f a0 y11 y2).bind fun t15 => if t14 ≠ t15 then (some (Sum.inl (Sum.inl (Sum.inl false)))) else (spec_l06Ok.l2 a0 y2 k (IntKind.i64.wrap (y11 + 1))))) else (some (Sum.inr ()))
def spec_l06Ok.l1 (a0 : Herd) : Nat → Int → Option (Bool ⊕ Unit)
  | 0, _ => none
  | k + 1, y2 => if y2 < (a0.Names.length : Int) then ((((getI a0.Names y2).bind fun t4 => (spec_l06Name.f k t4).bind fun t5 => if (!t5) = true then (some true) else ((getI a0.Eats y2).bind fun t6 => (spec_l00In.f (IntKind.i64.wrap t6) 0 100).bind fun t7 => if (!t7) = true then (some true) else ((getI a0.Foes y2).bind fun t8 => (chk (0 ≤ (IntKind.u64.wrap (a0.Names.length : Int)))).bind fun u9 => if (shrI .u16 t8 (IntKind.u64.wrap (a0.Names.length : Int))) ≠ 0 then (some true) else ((spec_l06Are.f a0 y2 y2).bind fun t10 => some t10)))).bind fun y3 => if y3 = true then (some (Sum.inl (Sum.inl false))) else ((spec_l06Ok.l2 a0 y2 k 0).bind fun s65 => match s65 with | .inl r => some r | .inr _ => some (Sum.inr ()))).bind fun s61 => match s61 with | .inl r => some r | .inr _ => spec_l06Ok.l1 a0 k (IntKind.i64.wrap (y2 + 1))) else (some (Sum.inr ()))
def spec_l06Ok.f (k : Nat) (a0 : Herd) : Option Bool := (if 14 < (a0.Names.length : Int) then (some true) else (if (a0.Eats.length : Int) ≠ (a0.Names.length : Int) then (some true) else (some (decide ((a0.Foes.length : Int) ≠ (a0.Names.length : Int)))))).bind fun y1 => if y1 = true then (some false) else ((spec_l06Ok.l1 a0 k 0).bind fun s49 => match s49 with | .inl r => some r | .inr _ => some true)
theorem spec_l06Ok.c (k : Nat) (w : World) (Aa0_0 : Option Addr) (ca0_0 : Nat) (Aa0_1 : Option Addr) (ca0_1 : Nat) (Aa0_2 : Option Addr) (ca0_2 : Nat) (a0 : Herd) (hr0_0 : Rd G.cs w Aa0_0 a0.Names) (hc0_0 : a0.Names.length ≤ ca0_0) (hr0_1 : Rd (ci .i16) w Aa0_1 a0.Eats) (hc0_1 : a0.Eats.length ≤ ca0_1) (hr0_2 : Rd (ci .u16) w Aa0_2 a0.Foes) (hc0_2 : a0.Foes.length ≤ ca0_2) (pa0 : Addr) (hp0 : CA w pa0 ([.slice Aa0_0 a0.Names.length ca0_0, .slice Aa0_1 a0.Eats.length ca0_1, .slice Aa0_2 a0.Foes.length ca0_2])) (r : Bool) (H : spec_l06Ok.f k a0 = some r) :
    CV Tryz.prog 29 [.pointer (some pa0)].toArray w fun v w' => v = .bool r ∧ Ext w w' := by
  have hS := (((((St.init w no).param G.cs Aa0_0 ca0_0 a0.Names hr0_0 hc0_0).param (ci .i16) Aa0_1 ca0_1 a0.Eats hr0_1 hc0_1).param (ci .u16) Aa0_2 ca0_2 a0.Foes hr0_2 hc0_2).paramP pa0 ([.slice Aa0_0 a0.Names.length ca0_0, .slice Aa0_1 a0.Eats.length ca0_1, .slice Aa0_2 a0.Foes.length ca0_2]) hp0)
  unfold spec_l06Ok.f at H
  refine CV.body Tryz.func29 rfl Tryz.ntmps29 rfl ?_
  refine CJ.seq ?_
  refine CJ.region ?_
  refine OJ.pures tU_ok 1 rfl ?_
  refine OJ.nil (EJ.next ?_)
  refine CJ.seq ?_
  refine CJ.region ?_
  refine OJ.pures tU_ok 2 rfl ?_
  refine OJ.st rfl rfl rfl (SR.fieldAddr tU_ok tI_ok rfl rfl rfl rfl rfl rfl) ?_
  refine OJ.st rfl rfl rfl (SR.load rfl rfl (fun w' hx => ld1 tU_ok rfl rfl (CA.ext (CA.sub (hS.ca (i := 3) rfl) 0) hx) rfl)) ?_
  refine OJ.pures tU_ok 2 rfl ?_
  refine OJ.nil (EJ.next ?_)
  refine CJ.seq ?_
  obtain ⟨j48, H, K48⟩ := pbind H
  refine CJ.cut (fun F w1 => ∃ (y1 : Bool) , (some y1 : Option Bool) = some j48 ∧ F = [(0, .pointer (some pa0)), (3, .int .i64 (a0.Names.length : Int)), (30, .bool y1)] ∧ St w no w1 [] [roC G.cs Aa0_0 ca0_0 a0.Names, roC (ci .i16) Aa0_1 ca0_1 a0.Eats, roC (ci .u16) Aa0_2 ca0_2 a0.Foes, roP pa0 ([.slice Aa0_0 a0.Names.length ca0_0, .slice Aa0_1 a0.Eats.length ca0_1, .slice Aa0_2 a0.Foes.length ca0_2])]) ?_ ?_
  · skip
    refine CJ.region ?_
    refine OJ.pures tU_ok 3 rfl ?_
    refine OJ.split (t := 13) rfl (fun hb => ?_) (fun hb => ?_)
    · replace H := pif_t (of_decide_eq_true hb) H
      refine OJ.pures tU_ok 17 rfl ?_
      refine OJ.nil ?_
      exact EJ.meet (F' := [(0, .pointer (some pa0)), (3, .int .i64 (a0.Names.length : Int)), (30, .bool true)]) ⟨rfl, rfl, rfl, trivial⟩ ⟨true, H, rfl, hS.pick [] [0, 1, 2, 3] rfl⟩
    · replace H := pif_f (of_decide_eq_false hb) H
      refine OJ.pures tU_ok 2 rfl ?_
      refine OJ.st rfl rfl rfl (SR.fieldAddr tU_ok tI_ok rfl rfl rfl rfl rfl rfl) ?_
      refine OJ.st rfl rfl rfl (SR.load rfl rfl (fun w' hx => ld1 tU_ok rfl rfl (CA.ext (CA.sub (hS.ca (i := 3) rfl) 1) hx) rfl)) ?_
      refine OJ.pures tU_ok 5 rfl ?_
      refine OJ.split (t := 22) rfl (fun hb => ?_) (fun hb => ?_)
      · replace H := pif_t (of_decide_eq_true hb) H
        refine OJ.pures tU_ok 8 rfl ?_
        refine OJ.nil ?_
        exact EJ.meet (F' := [(0, .pointer (some pa0)), (3, .int .i64 (a0.Names.length : Int)), (30, .bool true)]) ⟨rfl, rfl, rfl, trivial⟩ ⟨true, H, rfl, hS.pick [] [0, 1, 2, 3] rfl⟩
      · replace H := pif_f (of_decide_eq_false hb) H
        refine OJ.pures tU_ok 2 rfl ?_
        refine OJ.st rfl rfl rfl (SR.fieldAddr tU_ok tI_ok rfl rfl rfl rfl rfl rfl) ?_
        refine OJ.st rfl rfl rfl (SR.load rfl rfl (fun w' hx => ld1 tU_ok rfl rfl (CA.ext (CA.sub (hS.ca (i := 3) rfl) 2) hx) rfl)) ?_
        refine OJ.pures tU_ok 4 rfl ?_
        refine OJ.nil ?_
        exact EJ.meet (F' := [(0, .pointer (some pa0)), (3, .int .i64 (a0.Names.length : Int)), (30, .bool (decide ((a0.Foes.length : Int) ≠ (a0.Names.length : Int))))]) ⟨rfl, rfl, rfl, trivial⟩ ⟨(decide ((a0.Foes.length : Int) ≠ (a0.Names.length : Int))), H, rfl, hS.pick [] [0, 1, 2, 3] rfl⟩
  · rintro F w1 ⟨y1, he, rfl, hS⟩
    obtain rfl := Option.some.inj he
    have H := K48
    refine CJ.cond rfl (fun hb => ?_) (fun hb => ?_)
    · replace H := pif_t hb H
      refine CJ.seq ?_
      refine CJ.region ?_
      refine OJ.pures tU_ok 1 rfl ?_
      refine OJ.nil (EJ.next ?_)
      refine CJ.ret (EJ.skR (?_))
      obtain rfl := Option.some.inj H
      exact EJ.fin rfl (.tmp rfl .nil) ⟨rfl, hS.ext⟩
    · replace H := pifb_f hb H
      refine CJ.skip (EJ.next ?_)
      refine CJ.seq ?_
      refine CJ.seq ?_
      refine CJ.region ?_
      refine OJ.pures tU_ok 1 rfl ?_
      refine OJ.nil (EJ.next ?_)
      obtain ⟨j49, H, K49⟩ := pbind H
      refine CJ.cut1 (fun F w1 => (some (Sum.inr ()) : Option (Bool ⊕ Unit)) = some j49 ∧ F = [] ∧ St w no w1 [] [roC G.cs Aa0_0 ca0_0 a0.Names, roC (ci .i16) Aa0_1 ca0_1 a0.Eats, roC (ci .u16) Aa0_2 ca0_2 a0.Foes, roP pa0 ([.slice Aa0_0 a0.Names.length ca0_0, .slice Aa0_1 a0.Eats.length ca0_1, .slice Aa0_2 a0.Foes.length ca0_2])]) ?_ ?_
      · skip
        refine CJ.block ?_
        refine CJ.loop (fun k F w1 => ∃ (y2 : Int), F = [(0, .pointer (some pa0)), (3, .int .i64 (a0.Names.length : Int)), (4, .int .i64 y2)] ∧ St w no w1 [] [roC G.cs Aa0_0 ca0_0 a0.Names, roC (ci .i16) Aa0_1 ca0_1 a0.Eats, roC (ci .u16) Aa0_2 ca0_2 a0.Foes, roP pa0 ([.slice Aa0_0 a0.Names.length ca0_0, .slice Aa0_1 a0.Eats.length ca0_1, .slice Aa0_2 a0.Foes.length ca0_2])] ∧ spec_l06Ok.l1 a0 k y2 = some j49) k (F' := [(0, .pointer (some pa0)), (3, .int .i64 (a0.Names.length : Int)), (4, .int .i64 0)]) ⟨rfl, rfl, rfl, trivial⟩ ⟨0, rfl, hS.pick [] [0, 1, 2, 3] rfl, H⟩ ?_
        rintro k F w1 ⟨y2, rfl, hS, H⟩
        cases k with
        | zero => rw [spec_l06Ok.l1] at H; cases H
        | succ k =>
          rw [spec_l06Ok.l1] at H
          refine CJ.seq ?_
          refine CJ.seq ?_
          refine CJ.region ?_
          refine OJ.pures tU_ok 3 rfl ?_
          refine OJ.nil (EJ.next ?_)
          refine CJ.cond rfl (fun hb => ?_) (fun hb => ?_)
          · replace H := pif_t (of_decide_eq_true hb) H
            refine CJ.skip (EJ.next ?_)
            obtain ⟨j61, H, K61⟩ := pbind H
            refine CJ.cut (fun F w1 => (some (Sum.inr ()) : Option ((Bool ⊕ Unit) ⊕ Unit)) = some j61 ∧ F = [(0, .pointer (some pa0)), (3, .int .i64 (a0.Names.length : Int)), (4, .int .i64 y2)] ∧ St w no w1 [] [roC G.cs Aa0_0 ca0_0 a0.Names, roC (ci .i16) Aa0_1 ca0_1 a0.Eats, roC (ci .u16) Aa0_2 ca0_2 a0.Foes, roP pa0 ([.slice Aa0_0 a0.Names.length ca0_0, .slice Aa0_1 a0.Eats.length ca0_1, .slice Aa0_2 a0.Foes.length ca0_2])]) ?_ ?_
            · skip
              refine CJ.block ?_
              refine CJ.seq ?_
              obtain ⟨j64, H, K64⟩ := pbind H
              refine CJ.cut (fun F w1 => ∃ (y3 : Bool) , (some y3 : Option Bool) = some j64 ∧ F = [(0, .pointer (some pa0)), (3, .int .i64 (a0.Names.length : Int)), (4, .int .i64 y2), (75, .bool y3)] ∧ St w no w1 [] [roC G.cs Aa0_0 ca0_0 a0.Names, roC (ci .i16) Aa0_1 ca0_1 a0.Eats, roC (ci .u16) Aa0_2 ca0_2 a0.Foes, roP pa0 ([.slice Aa0_0 a0.Names.length ca0_0, .slice Aa0_1 a0.Eats.length ca0_1, .slice Aa0_2 a0.Foes.length ca0_2])]) ?_ ?_
              · skip
                refine CJ.region ?_
                refine OJ.pures tU_ok 2 rfl ?_
                refine OJ.st rfl rfl rfl (SR.fieldAddr tU_ok tI_ok rfl rfl rfl rfl rfl rfl) ?_
                refine OJ.st rfl rfl rfl (SR.load rfl rfl (fun w' hx => ld1 tU_ok rfl rfl (CA.ext (CA.sub (hS.ca (i := 3) rfl) 0) hx) rfl)) ?_
                refine OJ.pures tU_ok 1 rfl ?_
                obtain ⟨t4, ht4, H⟩ := pbind H
                obtain ⟨ad4, e4⟩ := (hS.rd' (i := 0) rfl).some' ht4
                refine OJ.st rfl rfl rfl (SR.idxS tU_ok tI_ok rfl rfl rfl rfl e4 rfl (getI_some ht4).1) ?_
                refine OJ.st rfl rfl rfl (SR.load rfl rfl (fun w' hx => ld1 tU_ok rfl rfl (CA.ext ((hS.rd' (i := 0) rfl).at_ e4 ht4) hx) rfl)) ?_
                obtain ⟨t5, ht5, H⟩ := pbind H
                refine OJ.callF rfl rfl rfl rfl rfl hb63 rfl (spec_l06Name.c k _ t4 _ ht5) ?_
                rintro _ w1 ⟨rfl, hs⟩
                replace hS := hS.grow hs
                refine OJ.pures tU_ok 2 rfl ?_
                refine OJ.split (t := 45) rfl (fun hb => ?_) (fun hb => ?_)
                · replace H := pif_t hb H
                  refine OJ.pures tU_ok 30 rfl ?_
                  refine OJ.nil ?_
                  exact EJ.meet (F' := [(0, .pointer (some pa0)), (3, .int .i64 (a0.Names.length : Int)), (4, .int .i64 y2), (75, .bool true)]) ⟨rfl, rfl, rfl, rfl, trivial⟩ ⟨true, H, rfl, hS.pick [] [0, 1, 2, 3] rfl⟩
                · replace H := pifb_f hb H
                  refine OJ.pures tU_ok 2 rfl ?_
                  refine OJ.st rfl rfl rfl (SR.fieldAddr tU_ok tI_ok rfl rfl rfl rfl rfl rfl) ?_
                  refine OJ.st rfl rfl rfl (SR.load rfl rfl (fun w' hx => ld1 tU_ok rfl rfl (CA.ext (CA.sub (hS.ca (i := 3) rfl) 1) hx) rfl)) ?_
                  refine OJ.pures tU_ok 1 rfl ?_
                  obtain ⟨t6, ht6, H⟩ := pbind H
                  obtain ⟨ad6, e6⟩ := (hS.rd' (i := 1) rfl).some' ht6
                  refine OJ.st rfl rfl rfl (SR.idxS tU_ok tI_ok rfl rfl rfl rfl e6 rfl (getI_some ht6).1) ?_
                  refine OJ.st rfl rfl rfl (SR.load rfl rfl (fun w' hx => ld1 tU_ok rfl rfl (CA.ext ((hS.rd' (i := 1) rfl).at_ e6 ht6) hx) rfl)) ?_
                  refine OJ.pures tU_ok 1 rfl ?_
                  obtain ⟨t7, ht7, H⟩ := pbind H
                  refine OJ.callF rfl rfl rfl rfl rfl hb39 rfl (spec_l00In.c _ (IntKind.i64.wrap t6) 0 100 _ ht7) ?_
                  rintro _ w1 ⟨rfl, hs⟩
                  replace hS := hS.grow hs
                  refine OJ.pures tU_ok 3 rfl ?_
                  refine OJ.split (t := 57) rfl (fun hb => ?_) (fun hb => ?_)
                  · replace H := pif_t hb H
                    refine OJ.pures tU_ok 18 rfl ?_
                    refine OJ.nil ?_
                    exact EJ.meet (F' := [(0, .pointer (some pa0)), (3, .int .i64 (a0.Names.length : Int)), (4, .int .i64 y2), (75, .bool true)]) ⟨rfl, rfl, rfl, rfl, trivial⟩ ⟨true, H, rfl, hS.pick [] [0, 1, 2, 3] rfl⟩
                  · replace H := pifb_f hb H
                    refine OJ.pures tU_ok 2 rfl ?_
                    refine OJ.st rfl rfl rfl (SR.fieldAddr tU_ok tI_ok rfl rfl rfl rfl rfl rfl) ?_
                    refine OJ.st rfl rfl rfl (SR.load rfl rfl (fun w' hx => ld1 tU_ok rfl rfl (CA.ext (CA.sub (hS.ca (i := 3) rfl) 2) hx) rfl)) ?_
                    refine OJ.pures tU_ok 1 rfl ?_
                    obtain ⟨t8, ht8, H⟩ := pbind H
                    obtain ⟨ad8, e8⟩ := (hS.rd' (i := 2) rfl).some' ht8
                    refine OJ.st rfl rfl rfl (SR.idxS tU_ok tI_ok rfl rfl rfl rfl e8 rfl (getI_some ht8).1) ?_
                    refine OJ.st rfl rfl rfl (SR.load rfl rfl (fun w' hx => ld1 tU_ok rfl rfl (CA.ext ((hS.rd' (i := 2) rfl).at_ e8 ht8) hx) rfl)) ?_
                    refine OJ.pures tU_ok 2 rfl ?_
                    obtain ⟨u9, hu9, H⟩ := pbind H
                    refine OJ.st rfl rfl rfl (SR.shr rfl rfl rfl (chk_some hu9)) ?_
                    refine OJ.pures tU_ok 3 rfl ?_
                    refine OJ.split (t := 70) rfl (fun hb => ?_) (fun hb => ?_)
                    · replace H := pif_t (of_decide_eq_true hb) H
                      refine OJ.pures tU_ok 5 rfl ?_
                      refine OJ.nil ?_
                      exact EJ.meet (F' := [(0, .pointer (some pa0)), (3, .int .i64 (a0.Names.length : Int)), (4, .int .i64 y2), (75, .bool true)]) ⟨rfl, rfl, rfl, rfl, trivial⟩ ⟨true, H, rfl, hS.pick [] [0, 1, 2, 3] rfl⟩
                    · replace H := pif_f (of_decide_eq_false hb) H
                      refine OJ.pures tU_ok 3 rfl ?_
                      obtain ⟨t10, ht10, H⟩ := pbind H
                      refine OJ.callF rfl rfl rfl rfl rfl hb64 rfl (spec_l06Are.c _ Aa0_0 ca0_0 Aa0_1 ca0_1 Aa0_2 ca0_2 a0 (hS.rd' (i := 0) rfl) (hS.le' (i := 0) rfl) (hS.rd' (i := 1) rfl) (hS.le' (i := 1) rfl) (hS.rd' (i := 2) rfl) (hS.le' (i := 2) rfl) pa0 (hS.ca (i := 3) rfl) y2 y2 _ ht10) ?_
                      rintro _ w1 ⟨rfl, hs⟩
                      replace hS := hS.grow hs
                      refine OJ.pures tU_ok 1 rfl ?_
                      refine OJ.nil ?_
                      exact EJ.meet (F' := [(0, .pointer (some pa0)), (3, .int .i64 (a0.Names.length : Int)), (4, .int .i64 y2), (75, .bool t10)]) ⟨rfl, rfl, rfl, rfl, trivial⟩ ⟨t10, H, rfl, hS.pick [] [0, 1, 2, 3] rfl⟩
              · rintro F w1 ⟨y3, he, rfl, hS⟩
                obtain rfl := Option.some.inj he
                have H := K64
                refine CJ.cond rfl (fun hb => ?_) (fun hb => ?_)
                · replace H := pif_t hb H
                  refine CJ.seq ?_
                  refine CJ.region ?_
                  refine OJ.pures tU_ok 1 rfl ?_
                  refine OJ.nil (EJ.next ?_)
                  refine CJ.ret (EJ.skR (EJ.bkR (EJ.skR (EJ.skR (EJ.bkR (EJ.skR (EJ.skR (?_))))))))
                  first | (obtain rfl := Option.some.inj H; have H := K61) | (obtain ⟨q61, H2, e61⟩ := pbind H; obtain rfl := Option.some.inj e61; obtain rfl := Option.some.inj K61; have H := H2)
                  first | (obtain rfl := Option.some.inj H; have H := K49) | (obtain ⟨q49, H2, e49⟩ := pbind H; obtain rfl := Option.some.inj e49; obtain rfl := Option.some.inj K49; have H := H2)
                  obtain rfl := Option.some.inj H
                  exact EJ.fin rfl (.tmp rfl .nil) ⟨rfl, hS.ext⟩
                · replace H := pifb_f hb H
                  refine CJ.skip (EJ.next ?_)
                  refine CJ.seq ?_
                  refine CJ.region ?_
                  refine OJ.pures tU_ok 1 rfl ?_
                  refine OJ.nil (EJ.next ?_)
                  obtain ⟨j65, H, K65⟩ := pbind H
                  refine CJ.cut1 (fun F w1 => (some (Sum.inr ()) : Option (((Bool ⊕ Unit) ⊕ Unit) ⊕ Unit)) = some j65 ∧ F = [(0, .pointer (some pa0)), (3, .int .i64 (a0.Names.length : Int)), (4, .int .i64 y2)] ∧ St w no w1 [] [roC G.cs Aa0_0 ca0_0 a0.Names, roC (ci .i16) Aa0_1 ca0_1 a0.Eats, roC (ci .u16) Aa0_2 ca0_2 a0.Foes, roP pa0 ([.slice Aa0_0 a0.Names.length ca0_0, .slice Aa0_1 a0.Eats.length ca0_1, .slice Aa0_2 a0.Foes.length ca0_2])]) ?_ ?_
                  · skip
                    refine CJ.block ?_
                    refine CJ.loop (fun k F w1 => ∃ (y11 : Int), F = [(0, .pointer (some pa0)), (3, .int .i64 (a0.Names.length : Int)), (4, .int .i64 y2), (5, .int .i64 y11)] ∧ St w no w1 [] [roC G.cs Aa0_0 ca0_0 a0.Names, roC (ci .i16) Aa0_1 ca0_1 a0.Eats, roC (ci .u16) Aa0_2 ca0_2 a0.Foes, roP pa0 ([.slice Aa0_0 a0.Names.length ca0_0, .slice Aa0_1 a0.Eats.length ca0_1, .slice Aa0_2 a0.Foes.length ca0_2])] ∧ spec_l06Ok.l2 a0 y2 k y11 = some j65) k (F' := [(0, .pointer (some pa0)), (3, .int .i64 (a0.Names.length : Int)), (4, .int .i64 y2), (5, .int .i64 0)]) ⟨rfl, rfl, rfl, rfl, trivial⟩ ⟨0, rfl, hS.pick [] [0, 1, 2, 3] rfl, H⟩ ?_
                    rintro k F w1 ⟨y11, rfl, hS, H⟩
                    cases k with
                    | zero => rw [spec_l06Ok.l2] at H; cases H
                    | succ k =>
                      rw [spec_l06Ok.l2] at H
                      refine CJ.seq ?_
                      refine CJ.seq ?_
                      refine CJ.region ?_
                      refine OJ.pures tU_ok 3 rfl ?_
                      refine OJ.nil (EJ.next ?_)
                      refine CJ.cond rfl (fun hb => ?_) (fun hb => ?_)
                      · replace H := pif_t (of_decide_eq_true hb) H
                        refine CJ.skip (EJ.next ?_)
                        refine CJ.seq ?_
                        refine CJ.block ?_
                        refine CJ.seq ?_
                        refine CJ.draw [] [0, 1, 2, 3, 4, 5, 6, 7, 8, 9, 10, 11, 12, 13, 14, 15, 16, 17, 18, 20, 21, 22, 19, 23, 24, 25] mixed (by kernel_rfl) hS fun w1 hS => ?_
                        refine DJ.pures tU_ok 2 rfl ?_
                        refine DJ.st rfl rfl rfl rfl rfl (SR.fieldAddr tU_ok tI_ok rfl rfl rfl rfl rfl rfl) ?_
                        refine DJ.st rfl rfl rfl rfl rfl (SR.load rfl rfl (fun w' hx => ld1 tU_ok rfl rfl (CA.ext (CA.sub (hS.ca (i := 3) rfl) 0) hx) rfl)) ?_
                        refine DJ.pures tU_ok 1 rfl ?_
                        obtain ⟨t12, ht12, H⟩ := pbind H
                        obtain ⟨ad12, e12⟩ := (hS.rd' (i := 0) rfl).some' ht12
                        refine DJ.st rfl rfl rfl rfl rfl (SR.idxS tU_ok tI_ok rfl rfl rfl rfl e12 rfl (getI_some ht12).1) ?_
                        refine DJ.st rfl rfl rfl rfl rfl (SR.load rfl rfl (fun w' hx => ld1 tU_ok rfl rfl (CA.ext ((hS.rd' (i := 0) rfl).at_ e12 ht12) hx) rfl)) ?_
                        refine DJ.pures tU_ok 2 rfl ?_
                        refine DJ.st rfl rfl rfl rfl rfl (SR.fieldAddr tU_ok tI_ok rfl rfl rfl rfl rfl rfl) ?_
                        refine DJ.st rfl rfl rfl rfl rfl (SR.load rfl rfl (fun w' hx => ld1 tU_ok rfl rfl (CA.ext (CA.sub (hS.ca (i := 3) rfl) 0) hx) rfl)) ?_
                        refine DJ.pures tU_ok 1 rfl ?_
                        obtain ⟨t13, ht13, H⟩ := pbind H
                        obtain ⟨ad13, e13⟩ := (hS.rd' (i := 0) rfl).some' ht13
                        refine DJ.st rfl rfl rfl rfl rfl (SR.idxS tU_ok tI_ok rfl rfl rfl rfl e13 rfl (getI_some ht13).1) ?_
                        refine DJ.st rfl rfl rfl rfl rfl (SR.load rfl rfl (fun w' hx => ld1 tU_ok rfl rfl (CA.ext ((hS.rd' (i := 0) rfl).at_ e13 ht13) hx) rfl)) ?_
                        refine DJ.pures tU_ok 2 rfl ?_
                        refine DJ.split (t := 96) rfl (fun hb => ?_) (fun hb => ?_)
                        · replace H := pif_t (of_decide_eq_true hb) H
                          refine DJ.pures tU_ok 10 rfl ?_
                          refine DJ.nil (EJ.next ?_)
                          refine CJ.condT rfl ?_
                          refine CJ.seq ?_
                          refine CJ.region ?_
                          refine OJ.pures tU_ok 1 rfl ?_
                          refine OJ.nil (EJ.next ?_)
                          refine CJ.ret (EJ.bkR (EJ.skR (EJ.skR (EJ.bkR (EJ.skR (EJ.bkR (EJ.skR (EJ.skR (EJ.bkR (EJ.skR (EJ.skR (?_))))))))))))
                          first | (obtain rfl := Option.some.inj H; have H := K65) | (obtain ⟨q65, H2, e65⟩ := pbind H; obtain rfl := Option.some.inj e65; obtain rfl := Option.some.inj K65; have H := H2)
                          first | (obtain rfl := Option.some.inj H; have H := K61) | (obtain ⟨q61, H2, e61⟩ := pbind H; obtain rfl := Option.some.inj e61; obtain rfl := Option.some.inj K61; have H := H2)
                          first | (obtain rfl := Option.some.inj H; have H := K49) | (obtain ⟨q49, H2, e49⟩ := pbind H; obtain rfl := Option.some.inj e49; obtain rfl := Option.some.inj K49; have H := H2)
                          obtain rfl := Option.some.inj H
                          exact EJ.fin rfl (.tmp rfl .nil) ⟨rfl, hS.ext⟩
                        · replace H := pif_f (of_decide_eq_false hb) H
                          refine DJ.pures tU_ok 6 rfl ?_
                          obtain ⟨t14, ht14, H⟩ := pbind H
                          refine DJ.callF rfl rfl rfl rfl rfl rfl rfl hb64 rfl (spec_l06Are.c _ Aa0_0 ca0_0 Aa0_1 ca0_1 Aa0_2 ca0_2 a0 (hS.rd' (i := 0) rfl) (hS.le' (i := 0) rfl) (hS.rd' (i := 1) rfl) (hS.le' (i := 1) rfl) (hS.rd' (i := 2) rfl) (hS.le' (i := 2) rfl) pa0 (hS.ca (i := 3) rfl) y2 y11 _ ht14) (by rintro v w' ⟨rfl, hs⟩; exact hs) ?_
                          rintro _ w1 ⟨rfl, hs⟩
                          replace hS := hS.grow hs
                          obtain ⟨t15, ht15, H⟩ := pbind H
                          refine DJ.callF rfl rfl rfl rfl rfl rfl rfl hb64 rfl (spec_l06Are.c _ Aa0_0 ca0_0 Aa0_1 ca0_1 Aa0_2 ca0_2 a0 (hS.rd' (i := 0) rfl) (hS.le' (i := 0) rfl) (hS.rd' (i := 1) rfl) (hS.le' (i := 1) rfl) (hS.rd' (i := 2) rfl) (hS.le' (i := 2) rfl) pa0 (hS.ca (i := 3) rfl) y11 y2 _ ht15) (by rintro v w' ⟨rfl, hs⟩; exact hs) ?_
                          rintro _ w1 ⟨rfl, hs⟩
                          replace hS := hS.grow hs
                          refine DJ.st rfl rfl rfl rfl rfl (SR.neB tU_ok rfl rfl rfl rfl) ?_
                          refine DJ.pures tU_ok 1 rfl ?_
                          refine DJ.nil (EJ.next ?_)
                          refine CJ.cond rfl (fun hb => ?_) (fun hb => ?_)
                          · replace H := pif_t (of_decide_eq_true hb) H
                            refine CJ.seq ?_
                            refine CJ.region ?_
                            refine OJ.pures tU_ok 1 rfl ?_
                            refine OJ.nil (EJ.next ?_)
                            refine CJ.ret (EJ.bkR (EJ.skR (EJ.skR (EJ.bkR (EJ.skR (EJ.bkR (EJ.skR (EJ.skR (EJ.bkR (EJ.skR (EJ.skR (?_))))))))))))
                            first | (obtain rfl := Option.some.inj H; have H := K65) | (obtain ⟨q65, H2, e65⟩ := pbind H; obtain rfl := Option.some.inj e65; obtain rfl := Option.some.inj K65; have H := H2)
                            first | (obtain rfl := Option.some.inj H; have H := K61) | (obtain ⟨q61, H2, e61⟩ := pbind H; obtain rfl := Option.some.inj e61; obtain rfl := Option.some.inj K61; have H := H2)
                            first | (obtain rfl := Option.some.inj H; have H := K49) | (obtain ⟨q49, H2, e49⟩ := pbind H; obtain rfl := Option.some.inj e49; obtain rfl := Option.some.inj K49; have H := H2)
                            obtain rfl := Option.some.inj H
                            exact EJ.fin rfl (.tmp rfl .nil) ⟨rfl, hS.ext⟩
                          · replace H := pif_f (of_decide_eq_false hb) H
                            refine CJ.skip (EJ.blk (EJ.next ?_))
                            refine CJ.region ?_
                            refine OJ.pures tU_ok 3 rfl ?_
                            refine OJ.nil ?_
                            exact EJ.round k (F' := [(0, .pointer (some pa0)), (3, .int .i64 (a0.Names.length : Int)), (4, .int .i64 y2), (5, .int .i64 (IntKind.i64.wrap (y11 + 1)))]) ⟨rfl, rfl, rfl, rfl, trivial⟩ (Nat.lt_succ_self _) ⟨(IntKind.i64.wrap (y11 + 1)), rfl, hS.pick [] [0, 1, 2, 3] rfl, H⟩
                      · replace H := pif_f (of_decide_eq_false hb) H
                        refine CJ.exit (EJ.skE (EJ.skE (EJ.hit (?_))))
                        exact EJ.meet (F' := [(0, .pointer (some pa0)), (3, .int .i64 (a0.Names.length : Int)), (4, .int .i64 y2)]) ⟨rfl, rfl, rfl, trivial⟩ ⟨H, rfl, hS.pick [] [0, 1, 2, 3] rfl⟩
                  · rintro F w1 ⟨he, rfl, hS⟩
                    obtain rfl := Option.some.inj he
                    have H := K65
                    refine EJ.blk (?_)
                    exact EJ.meet (F' := [(0, .pointer (some pa0)), (3, .int .i64 (a0.Names.length : Int)), (4, .int .i64 y2)]) ⟨rfl, rfl, rfl, trivial⟩ ⟨H, rfl, hS.pick [] [0, 1, 2, 3] rfl⟩
            · rintro F w1 ⟨he, rfl, hS⟩
              obtain rfl := Option.some.inj he
              have H := K61
              refine CJ.region ?_
              refine OJ.pures tU_ok 3 rfl ?_
              refine OJ.nil ?_
              exact EJ.round k (F' := [(0, .pointer (some pa0)), (3, .int .i64 (a0.Names.length : Int)), (4, .int .i64 (IntKind.i64.wrap (y2 + 1)))]) ⟨rfl, rfl, rfl, trivial⟩ (Nat.lt_succ_self _) ⟨(IntKind.i64.wrap (y2 + 1)), rfl, hS.pick [] [0, 1, 2, 3] rfl, H⟩
          · replace H := pif_f (of_decide_eq_false hb) H
            refine CJ.exit (EJ.skE (EJ.skE (EJ.hit (?_))))
            exact EJ.meet (F' := []) trivial ⟨H, rfl, hS.pick [] [0, 1, 2, 3] rfl⟩
      · rintro F w1 ⟨he, rfl, hS⟩
        obtain rfl := Option.some.inj he
        have H := K49
        refine EJ.next ?_
        refine CJ.seq ?_
        refine CJ.region ?_
        refine OJ.pures tU_ok 1 rfl ?_
        refine OJ.nil (EJ.next ?_)
        refine CJ.ret (?_)
        obtain rfl := Option.some.inj H
        exact EJ.fin rfl (.tmp rfl .nil) ⟨rfl, hS.ext⟩

def spec_l00Max.f (a0 : Int) (a1 : Int) : Option Int := if a1 < a0 then (some a0) else (some a1)
theorem spec_l00Max.c (w : World) (a0 : Int) (a1 : Int) (r : Int) (H : spec_l00Max.f a0 a1 = some r) :
    CV Tryz.prog 65 [.int .i64 a0, .int .i64 a1].toArray w fun v w' => v = .int .i64 r ∧ Ext w w' := by
  have hS := (St.init w no)
  unfold spec_l00Max.f at H
  refine CV.body Tryz.func65 rfl Tryz.ntmps65 rfl ?_
  refine CJ.seq ?_
  refine CJ.region ?_
  refine OJ.pures tU_ok 1 rfl ?_
  refine OJ.nil (EJ.next ?_)
  refine CJ.seq ?_
  refine CJ.seq ?_
  refine CJ.region ?_
  refine OJ.pures tU_ok 3 rfl ?_
  refine OJ.nil (EJ.next ?_)
  refine CJ.cond rfl (fun hb => ?_) (fun hb => ?_)
  · replace H := pif_t (of_decide_eq_true hb) H
    refine CJ.seq ?_
    refine CJ.region ?_
    refine OJ.pures tU_ok 2 rfl ?_
    refine OJ.nil (EJ.next ?_)
    refine CJ.ret (EJ.skR (?_))
    obtain rfl := Option.some.inj H
    exact EJ.fin rfl (.tmp rfl .nil) ⟨rfl, hS.ext⟩
  · replace H := pif_f (of_decide_eq_false hb) H
    refine CJ.skip (EJ.next ?_)
    refine CJ.seq ?_
    refine CJ.region ?_
    refine OJ.pures tU_ok 2 rfl ?_
    refine OJ.nil (EJ.next ?_)
    refine CJ.ret (?_)
    obtain rfl := Option.some.inj H
    exact EJ.fin rfl (.tmp rfl .nil) ⟨rfl, hS.ext⟩

def spec_l06Colour.l1 (self : Herd → (List Int) → Int → Int → Option (List Int × Bool)) (a1 : List Int) (a2 : Int) : Nat → Int → Int → Option Int
  | 0, _, _ => none
  | k + 1, y6, y7 => if y7 < a2 then ((getI a1 y7).bind fun t8 => (spec_l00Max.f y6 (IntKind.i64.wrap (t8 + 1))).bind fun t9 => spec_l06Colour.l1 self a1 a2 k t9 (IntKind.i64.wrap (y7 + 1))) else (some y6)
def spec_l06Colour.l3 (self : Herd → (List Int) → Int → Int → Option (List Int × Bool)) (a0 : Herd) (a1 : List Int) (a2 : Int) (y10 : Int) : Nat → Bool → Int → Option Bool
  | 0, _, _ => none
  | k + 1, y13, y14 => if y14 < a2 then (if y13 = true then ((getI a1 y14).bind fun t15 => if t15 = y10 then ((spec_l06Are.f a0 a2 y14).bind fun t16 => spec_l06Colour.l3 self a0 a1 a2 y10 k (!t16) (IntKind.i64.wrap (y14 + 1))) else (spec_l06Colour.l3 self a0 a1 a2 y10 k true (IntKind.i64.wrap (y14 + 1)))) else (spec_l06Colour.l3 self a0 a1 a2 y10 k false (IntKind.i64.wrap (y14 + 1)))) else (some y13)
def spec_l06Colour.l2 (self : Herd → (List Int) → Int → Int → Option (List Int × Bool)) (a0 : Herd) (a1 : List Int) (a2 : Int) (a3 : Int) (y5 : Int) : Nat → Int → Option ((List Int × Bool) ⊕ Unit)
  | 0, _ => none
  | k + 1, y10 => (if y10 < a3 then (some (decide (y10 ≤ y5))) else (some false)).bind fun y11 => if y11 = true then (((spec_l06Colour.l3 self a0 a1 a2 y10 k true 0).bind fun y12 => if (!y12) = true then (some (Sum.inr ())) else ((chk (([] : List Int).length + a1.length ≤ 4294967296)).bind fun u18 => (chk ((([] : List Int) ++ a1).length + ([y10] : List Int).length ≤ 4294967296)).bind fun u22 => (self a0 ((([] : List Int) ++ a1) ++ ([y10] : List Int)) (IntKind.i64.wrap (a2 + 1)) a3).bind fun t25 => if t25.2 = true then (some (Sum.inl (Sum.inl (t25.1, true)))) else (some (Sum.inr ())))).bind fun s83 => match s83 with | .inl r => some r | .inr _ => spec_l06Colour.l2 self a0 a1 a2 a3 y5 k (IntKind.i64.wrap (y10 + 1))) else (some (Sum.inr ()))
def spec_l06Colour.f : Nat → Herd → (List Int) → Int → Int → Option (List Int × Bool)
  | 0, _, _, _, _ => none
  | k + 1, a0, a1, a2, a3 => if a2 = (a0.Names.length : Int) then ((chk (([] : List Int).length + a1.length ≤ 4294967296)).bind fun u2 => some (([] : List Int) ++ a1, true)) else ((spec_l06Colour.l1 (spec_l06Colour.f k) a1 a2 k 0 0).bind fun y5 => (spec_l06Colour.l2 (spec_l06Colour.f k) a0 a1 a2 a3 y5 k 0).bind fun s73 => match s73 with | .inl r => some r | .inr _ => some (([] : List Int), false))
theorem spec_l06Colour.c : ∀ (k : Nat) (w : World) (Aa0_0 : Option Addr) (ca0_0 : Nat) (Aa0_1 : Option Addr) (ca0_1 : Nat) (Aa0_2 : Option Addr) (ca0_2 : Nat) (a0 : Herd) (hr0_0 : Rd G.cs w Aa0_0 a0.Names) (hc0_0 : a0.Names.length ≤ ca0_0) (hr0_1 : Rd (ci .i16) w Aa0_1 a0.Eats) (hc0_1 : a0.Eats.length ≤ ca0_1) (hr0_2 : Rd (ci .u16) w Aa0_2 a0.Foes) (hc0_2 : a0.Foes.length ≤ ca0_2) (pa0 : Addr) (hp0 : CA w pa0 ([.slice Aa0_0 a0.Names.length ca0_0, .slice Aa0_1 a0.Eats.length ca0_1, .slice Aa0_2 a0.Foes.length ca0_2])) (Aa1 : Option Addr) (ca1 : Nat) (a1 : List Int) (hr1 : Rd (ci .i64) w Aa1 a1) (hc1 : a1.length ≤ ca1) (a2 : Int) (a3 : Int) (r : List Int × Bool) (H : spec_l06Colour.f k a0 a1 a2 a3 = some r),
    CV Tryz.prog 30 [.pointer (some pa0), .slice Aa1 a1.length ca1, .int .i64 a2, .int .i64 a3].toArray w fun v w' => ∃ (A0 : Option Addr) (c0 : Nat), v = .tuple #[.slice A0 r.1.length c0, .bool r.2] ∧ St w no w' [rowC (ci .i64) A0 c0 2 r.1] [] := by
  intro k
  induction k
  · intro w Aa0_0 ca0_0 Aa0_1 ca0_1 Aa0_2 ca0_2 a0 hr0_0 hc0_0 hr0_1 hc0_1 hr0_2 hc0_2 pa0 hp0 Aa1 ca1 a1 hr1 hc1 a2 a3 r H; rw [spec_l06Colour.f] at H; cases H
  rename_i k ih
  intro w Aa0_0 ca0_0 Aa0_1 ca0_1 Aa0_2 ca0_2 a0 hr0_0 hc0_0 hr0_1 hc0_1 hr0_2 hc0_2 pa0 hp0 Aa1 ca1 a1 hr1 hc1 a2 a3 r H
  have hS := ((((((St.init w no).param G.cs Aa0_0 ca0_0 a0.Names hr0_0 hc0_0).param (ci .i16) Aa0_1 ca0_1 a0.Eats hr0_1 hc0_1).param (ci .u16) Aa0_2 ca0_2 a0.Foes hr0_2 hc0_2).paramP pa0 ([.slice Aa0_0 a0.Names.length ca0_0, .slice Aa0_1 a0.Eats.length ca0_1, .slice Aa0_2 a0.Foes.length ca0_2]) hp0).param (ci .i64) Aa1 ca1 a1 hr1 hc1)
  rw [spec_l06Colour.f] at H
  generalize spec_l06Colour.f k = self at H ih
  refine CV.body Tryz.func30 rfl Tryz.ntmps30 rfl ?_
  refine CJ.seq ?_
  refine CJ.region ?_
  refine OJ.pures tU_ok 2 rfl ?_
  refine OJ.nil (EJ.next ?_)
  refine CJ.seq ?_
  refine CJ.seq ?_
  refine CJ.region ?_
  refine OJ.pures tU_ok 3 rfl ?_
  refine OJ.st rfl rfl rfl (SR.fieldAddr tU_ok tI_ok rfl rfl rfl rfl rfl rfl) ?_
  refine OJ.st rfl rfl rfl (SR.load rfl rfl (fun w' hx => ld1 tU_ok rfl rfl (CA.ext (CA.sub (hS.ca (i := 3) rfl) 0) hx) rfl)) ?_
  refine OJ.pures tU_ok 2 rfl ?_
  refine OJ.nil (EJ.next ?_)
  refine CJ.cond rfl (fun hb => ?_) (fun hb => ?_)
  · replace H := pif_t (of_decide_eq_true hb) H
    refine CJ.seq ?_
    refine CJ.region ?_
    refine OJ.ef rfl rfl rfl (Ef.lit tU_ok tI_ok hS (C := (ci .i64)) rfl rfl rfl rfl rfl rfl ([] : List Int) rfl rfl rfl rfl) ?_
    rintro _ w1 ⟨A1, rfl, hS⟩
    refine OJ.pures tU_ok 1 rfl ?_
    obtain ⟨u2, hu2, H⟩ := pbind H
    refine OJ.ew rfl rfl rfl (Ew.append tU_ok tI_ok (C := (ci .i64)) (xs := ([] : List Int)) (ys := a1) hS (i := 0) rfl rfl rfl rfl rfl rfl rfl rfl rfl rfl rfl rfl rfl (hS.rd' (i := 4) rfl) (chk_some hu2)) ?_
    rintro _ w1 ⟨A3, c4, rfl, hS⟩
    refine OJ.pures tU_ok 2 rfl ?_
    refine OJ.nil (EJ.next ?_)
    refine CJ.ret (EJ.skR (?_))
    obtain rfl := Option.some.inj H
    exact EJ.fin rfl (.tmp rfl (.tmp rfl .nil)) ⟨A3, c4, rfl, hS.pick [0] [] rfl⟩
  · replace H := pif_f (of_decide_eq_false hb) H
    refine CJ.skip (EJ.next ?_)
    refine CJ.seq ?_
    refine CJ.region ?_
    refine OJ.pures tU_ok 1 rfl ?_
    refine OJ.nil (EJ.next ?_)
    refine CJ.seq ?_
    refine CJ.seq ?_
    refine CJ.region ?_
    refine OJ.pures tU_ok 1 rfl ?_
    refine OJ.nil (EJ.next ?_)
    obtain ⟨j72, H, K72⟩ := pbind H
    refine CJ.cut1 (fun F w1 => ∃ (y5 : Int) , (some y5 : Option Int) = some j72 ∧ F = [(0, .pointer (some pa0)), (1, .slice Aa1 a1.length ca1), (2, .int .i64 a2), (3, .int .i64 a3), (10, .int .i64 y5)] ∧ St w no w1 [] [roC G.cs Aa0_0 ca0_0 a0.Names, roC (ci .i16) Aa0_1 ca0_1 a0.Eats, roC (ci .u16) Aa0_2 ca0_2 a0.Foes, roP pa0 ([.slice Aa0_0 a0.Names.length ca0_0, .slice Aa0_1 a0.Eats.length ca0_1, .slice Aa0_2 a0.Foes.length ca0_2]), roC (ci .i64) Aa1 ca1 a1]) ?_ ?_
    · skip
      refine CJ.block ?_
      refine CJ.loop (fun k F w1 => ∃ (y6 : Int) (y7 : Int), F = [(0, .pointer (some pa0)), (1, .slice Aa1 a1.length ca1), (2, .int .i64 a2), (3, .int .i64 a3), (10, .int .i64 y6), (11, .int .i64 y7)] ∧ St w no w1 [] [roC G.cs Aa0_0 ca0_0 a0.Names, roC (ci .i16) Aa0_1 ca0_1 a0.Eats, roC (ci .u16) Aa0_2 ca0_2 a0.Foes, roP pa0 ([.slice Aa0_0 a0.Names.length ca0_0, .slice Aa0_1 a0.Eats.length ca0_1, .slice Aa0_2 a0.Foes.length ca0_2]), roC (ci .i64) Aa1 ca1 a1] ∧ spec_l06Colour.l1 self a1 a2 k y6 y7 = some j72) k (F' := [(0, .pointer (some pa0)), (1, .slice Aa1 a1.length ca1), (2, .int .i64 a2), (3, .int .i64 a3), (10, .int .i64 0), (11, .int .i64 0)]) ⟨rfl, rfl, rfl, rfl, rfl, rfl, trivial⟩ ⟨0, 0, rfl, hS.pick [] [0, 1, 2, 3, 4] rfl, H⟩ ?_
      rintro k F w1 ⟨y6, y7, rfl, hS, H⟩
      cases k with
      | zero => rw [spec_l06Colour.l1] at H; cases H
      | succ k =>
        rw [spec_l06Colour.l1] at H
        refine CJ.seq ?_
        refine CJ.seq ?_
        refine CJ.region ?_
        refine OJ.pures tU_ok 3 rfl ?_
        refine OJ.nil (EJ.next ?_)
        refine CJ.cond rfl (fun hb => ?_) (fun hb => ?_)
        · replace H := pif_t (of_decide_eq_true hb) H
          refine CJ.skip (EJ.next ?_)
          refine CJ.seq ?_
          refine CJ.block ?_
          refine CJ.region ?_
          refine OJ.pures tU_ok 3 rfl ?_
          obtain ⟨t8, ht8, H⟩ := pbind H
          obtain ⟨ad8, e8⟩ := (hS.rd' (i := 4) rfl).some' ht8
          refine OJ.st rfl rfl rfl (SR.idxS tU_ok tI_ok rfl rfl rfl rfl e8 rfl (getI_some ht8).1) ?_
          refine OJ.st rfl rfl rfl (SR.load rfl rfl (fun w' hx => ld1 tU_ok rfl rfl (CA.ext ((hS.rd' (i := 4) rfl).at_ e8 ht8) hx) rfl)) ?_
          refine OJ.pures tU_ok 1 rfl ?_
          obtain ⟨t9, ht9, H⟩ := pbind H
          refine OJ.callF rfl rfl rfl rfl rfl hb65 rfl (spec_l00Max.c _ y6 (IntKind.i64.wrap (t8 + 1)) _ ht9) ?_
          rintro _ w1 ⟨rfl, hs⟩
          replace hS := hS.grow hs
          refine OJ.pures tU_ok 1 rfl ?_
          refine OJ.nil (EJ.blk (EJ.next ?_))
          refine CJ.region ?_
          refine OJ.pures tU_ok 3 rfl ?_
          refine OJ.nil ?_
          exact EJ.round k (F' := [(0, .pointer (some pa0)), (1, .slice Aa1 a1.length ca1), (2, .int .i64 a2), (3, .int .i64 a3), (10, .int .i64 t9), (11, .int .i64 (IntKind.i64.wrap (y7 + 1)))]) ⟨rfl, rfl, rfl, rfl, rfl, rfl, trivial⟩ (Nat.lt_succ_self _) ⟨t9, (IntKind.i64.wrap (y7 + 1)), rfl, hS.pick [] [0, 1, 2, 3, 4] rfl, H⟩
        · replace H := pif_f (of_decide_eq_false hb) H
          refine CJ.exit (EJ.skE (EJ.skE (EJ.hit (?_))))
          exact EJ.meet (F' := [(0, .pointer (some pa0)), (1, .slice Aa1 a1.length ca1), (2, .int .i64 a2), (3, .int .i64 a3), (10, .int .i64 y6)]) ⟨rfl, rfl, rfl, rfl, rfl, trivial⟩ ⟨y6, H, rfl, hS.pick [] [0, 1, 2, 3, 4] rfl⟩
    · rintro F w1 ⟨y5, he, rfl, hS⟩
      obtain rfl := Option.some.inj he
      have H := K72
      refine EJ.next ?_
      refine CJ.seq ?_
      refine CJ.seq ?_
      refine CJ.region ?_
      refine OJ.pures tU_ok 1 rfl ?_
      refine OJ.nil (EJ.next ?_)
      obtain ⟨j73, H, K73⟩ := pbind H
      refine CJ.cut1 (fun F w1 => (some (Sum.inr ()) : Option ((List Int × Bool) ⊕ Unit)) = some j73 ∧ F = [] ∧ St w no w1 [] [roC G.cs Aa0_0 ca0_0 a0.Names, roC (ci .i16) Aa0_1 ca0_1 a0.Eats, roC (ci .u16) Aa0_2 ca0_2 a0.Foes, roP pa0 ([.slice Aa0_0 a0.Names.length ca0_0, .slice Aa0_1 a0.Eats.length ca0_1, .slice Aa0_2 a0.Foes.length ca0_2]), roC (ci .i64) Aa1 ca1 a1]) ?_ ?_
      · skip
        refine CJ.block ?_
        refine CJ.loop (fun k F w1 => ∃ (y10 : Int), F = [(0, .pointer (some pa0)), (1, .slice Aa1 a1.length ca1), (2, .int .i64 a2), (3, .int .i64 a3), (10, .int .i64 y5), (12, .int .i64 y10)] ∧ St w no w1 [] [roC G.cs Aa0_0 ca0_0 a0.Names, roC (ci .i16) Aa0_1 ca0_1 a0.Eats, roC (ci .u16) Aa0_2 ca0_2 a0.Foes, roP pa0 ([.slice Aa0_0 a0.Names.length ca0_0, .slice Aa0_1 a0.Eats.length ca0_1, .slice Aa0_2 a0.Foes.length ca0_2]), roC (ci .i64) Aa1 ca1 a1] ∧ spec_l06Colour.l2 self a0 a1 a2 a3 y5 k y10 = some j73) k (F' := [(0, .pointer (some pa0)), (1, .slice Aa1 a1.length ca1), (2, .int .i64 a2), (3, .int .i64 a3), (10, .int .i64 y5), (12, .int .i64 0)]) ⟨rfl, rfl, rfl, rfl, rfl, rfl, trivial⟩ ⟨0, rfl, hS.pick [] [0, 1, 2, 3, 4] rfl, H⟩ ?_
        rintro k F w1 ⟨y10, rfl, hS, H⟩
        cases k with
        | zero => rw [spec_l06Colour.l2] at H; cases H
        | succ k =>
          rw [spec_l06Colour.l2] at H
          refine CJ.seq ?_
          obtain ⟨j82, H, K82⟩ := pbind H
          refine CJ.cut (fun F w1 => ∃ (y11 : Bool) , (some y11 : Option Bool) = some j82 ∧ F = [(0, .pointer (some pa0)), (1, .slice Aa1 a1.length ca1), (2, .int .i64 a2), (3, .int .i64 a3), (10, .int .i64 y5), (12, .int .i64 y10), (46, .bool y11)] ∧ St w no w1 [] [roC G.cs Aa0_0 ca0_0 a0.Names, roC (ci .i16) Aa0_1 ca0_1 a0.Eats, roC (ci .u16) Aa0_2 ca0_2 a0.Foes, roP pa0 ([.slice Aa0_0 a0.Names.length ca0_0, .slice Aa0_1 a0.Eats.length ca0_1, .slice Aa0_2 a0.Foes.length ca0_2]), roC (ci .i64) Aa1 ca1 a1]) ?_ ?_
          · skip
            refine CJ.region ?_
            refine OJ.pures tU_ok 4 rfl ?_
            refine OJ.split (t := 42) rfl (fun hb => ?_) (fun hb => ?_)
            · replace H := pif_t (of_decide_eq_true hb) H
              refine OJ.pures tU_ok 4 rfl ?_
              refine OJ.nil ?_
              exact EJ.meet (F' := [(0, .pointer (some pa0)), (1, .slice Aa1 a1.length ca1), (2, .int .i64 a2), (3, .int .i64 a3), (10, .int .i64 y5), (12, .int .i64 y10), (46, .bool (decide (y10 ≤ y5)))]) ⟨rfl, rfl, rfl, rfl, rfl, rfl, rfl, trivial⟩ ⟨(decide (y10 ≤ y5)), H, rfl, hS.pick [] [0, 1, 2, 3, 4] rfl⟩
            · replace H := pif_f (of_decide_eq_false hb) H
              refine OJ.pures tU_ok 4 rfl ?_
              refine OJ.nil ?_
              exact EJ.meet (F' := [(0, .pointer (some pa0)), (1, .slice Aa1 a1.length ca1), (2, .int .i64 a2), (3, .int .i64 a3), (10, .int .i64 y5), (12, .int .i64 y10), (46, .bool false)]) ⟨rfl, rfl, rfl, rfl, rfl, rfl, rfl, trivial⟩ ⟨false, H, rfl, hS.pick [] [0, 1, 2, 3, 4] rfl⟩
          · rintro F w1 ⟨y11, he, rfl, hS⟩
            obtain rfl := Option.some.inj he
            have H := K82
            refine CJ.cond rfl (fun hb => ?_) (fun hb => ?_)
            · replace H := pif_t hb H
              refine CJ.skip (EJ.next ?_)
              obtain ⟨j83, H, K83⟩ := pbind H
              refine CJ.cut (fun F w1 => (some (Sum.inr ()) : Option (((List Int × Bool) ⊕ Unit) ⊕ Unit)) = some j83 ∧ F = [(0, .pointer (some pa0)), (1, .slice Aa1 a1.length ca1), (2, .int .i64 a2), (3, .int .i64 a3), (10, .int .i64 y5), (12, .int .i64 y10)] ∧ St w no w1 [] [roC G.cs Aa0_0 ca0_0 a0.Names, roC (ci .i16) Aa0_1 ca0_1 a0.Eats, roC (ci .u16) Aa0_2 ca0_2 a0.Foes, roP pa0 ([.slice Aa0_0 a0.Names.length ca0_0, .slice Aa0_1 a0.Eats.length ca0_1, .slice Aa0_2 a0.Foes.length ca0_2]), roC (ci .i64) Aa1 ca1 a1]) ?_ ?_
              · skip
                refine CJ.block ?_
                refine CJ.seq ?_
                refine CJ.region ?_
                refine OJ.pures tU_ok 1 rfl ?_
                refine OJ.nil (EJ.next ?_)
                refine CJ.seq ?_
                refine CJ.seq ?_
                refine CJ.region ?_
                refine OJ.pures tU_ok 1 rfl ?_
                refine OJ.nil (EJ.next ?_)
                obtain ⟨j85, H, K85⟩ := pbind H
                refine CJ.cut1 (fun F w1 => ∃ (y12 : Bool) , (some y12 : Option Bool) = some j85 ∧ F = [(0, .pointer (some pa0)), (1, .slice Aa1 a1.length ca1), (2, .int .i64 a2), (3, .int .i64 a3), (10, .int .i64 y5), (12, .int .i64 y10), (13, .bool y12)] ∧ St w no w1 [] [roC G.cs Aa0_0 ca0_0 a0.Names, roC (ci .i16) Aa0_1 ca0_1 a0.Eats, roC (ci .u16) Aa0_2 ca0_2 a0.Foes, roP pa0 ([.slice Aa0_0 a0.Names.length ca0_0, .slice Aa0_1 a0.Eats.length ca0_1, .slice Aa0_2 a0.Foes.length ca0_2]), roC (ci .i64) Aa1 ca1 a1]) ?_ ?_
                · skip
                  refine CJ.block ?_
                  refine CJ.loop (fun k F w1 => ∃ (y13 : Bool) (y14 : Int), F = [(0, .pointer (some pa0)), (1, .slice Aa1 a1.length ca1), (2, .int .i64 a2), (3, .int .i64 a3), (10, .int .i64 y5), (12, .int .i64 y10), (13, .bool y13), (14, .int .i64 y14)] ∧ St w no w1 [] [roC G.cs Aa0_0 ca0_0 a0.Names, roC (ci .i16) Aa0_1 ca0_1 a0.Eats, roC (ci .u16) Aa0_2 ca0_2 a0.Foes, roP pa0 ([.slice Aa0_0 a0.Names.length ca0_0, .slice Aa0_1 a0.Eats.length ca0_1, .slice Aa0_2 a0.Foes.length ca0_2]), roC (ci .i64) Aa1 ca1 a1] ∧ spec_l06Colour.l3 self a0 a1 a2 y10 k y13 y14 = some j85) k (F' := [(0, .pointer (some pa0)), (1, .slice Aa1 a1.length ca1), (2, .int .i64 a2), (3, .int .i64 a3), (10, .int .i64 y5), (12, .int .i64 y10), (13, .bool true), (14, .int .i64 0)]) ⟨rfl, rfl, rfl, rfl, rfl, rfl, rfl, rfl, trivial⟩ ⟨true, 0, rfl, hS.pick [] [0, 1, 2, 3, 4] rfl, H⟩ ?_
                  rintro k F w1 ⟨y13, y14, rfl, hS, H⟩
                  cases k with
                  | zero => rw [spec_l06Colour.l3] at H; cases H
                  | succ k =>
                    rw [spec_l06Colour.l3] at H
                    refine CJ.seq ?_
                    refine CJ.seq ?_
                    refine CJ.region ?_
                    refine OJ.pures tU_ok 3 rfl ?_
                    refine OJ.nil (EJ.next ?_)
                    refine CJ.cond rfl (fun hb => ?_) (fun hb => ?_)
                    · replace H := pif_t (of_decide_eq_true hb) H
                      refine CJ.skip (EJ.next ?_)
                      refine CJ.seq ?_
                      refine CJ.block ?_
                      refine CJ.region ?_
                      refine OJ.pures tU_ok 2 rfl ?_
                      refine OJ.split (t := 55) rfl (fun hb => ?_) (fun hb => ?_)
                      · replace H := pif_t hb H
                        refine OJ.pures tU_ok 2 rfl ?_
                        obtain ⟨t15, ht15, H⟩ := pbind H
                        obtain ⟨ad15, e15⟩ := (hS.rd' (i := 4) rfl).some' ht15
                        refine OJ.st rfl rfl rfl (SR.idxS tU_ok tI_ok rfl rfl rfl rfl e15 rfl (getI_some ht15).1) ?_
                        refine OJ.st rfl rfl rfl (SR.load rfl rfl (fun w' hx => ld1 tU_ok rfl rfl (CA.ext ((hS.rd' (i := 4) rfl).at_ e15 ht15) hx) rfl)) ?_
                        refine OJ.pures tU_ok 3 rfl ?_
                        refine OJ.split (t := 62) rfl (fun hb => ?_) (fun hb => ?_)
                        · replace H := pif_t (of_decide_eq_true hb) H
                          refine OJ.pures tU_ok 3 rfl ?_
                          obtain ⟨t16, ht16, H⟩ := pbind H
                          refine OJ.callF rfl rfl rfl rfl rfl hb64 rfl (spec_l06Are.c _ Aa0_0 ca0_0 Aa0_1 ca0_1 Aa0_2 ca0_2 a0 (hS.rd' (i := 0) rfl) (hS.le' (i := 0) rfl) (hS.rd' (i := 1) rfl) (hS.le' (i := 1) rfl) (hS.rd' (i := 2) rfl) (hS.le' (i := 2) rfl) pa0 (hS.ca (i := 3) rfl) a2 y14 _ ht16) ?_
                          rintro _ w1 ⟨rfl, hs⟩
                          replace hS := hS.grow hs
                          refine OJ.pures tU_ok 4 rfl ?_
                          refine OJ.nil (EJ.blk (EJ.next ?_))
                          refine CJ.region ?_
                          refine OJ.pures tU_ok 3 rfl ?_
                          refine OJ.nil ?_
                          exact EJ.round k (F' := [(0, .pointer (some pa0)), (1, .slice Aa1 a1.length ca1), (2, .int .i64 a2), (3, .int .i64 a3), (10, .int .i64 y5), (12, .int .i64 y10), (13, .bool (!t16)), (14, .int .i64 (IntKind.i64.wrap (y14 + 1)))]) ⟨rfl, rfl, rfl, rfl, rfl, rfl, rfl, rfl, trivial⟩ (Nat.lt_succ_self _) ⟨(!t16), (IntKind.i64.wrap (y14 + 1)), rfl, hS.pick [] [0, 1, 2, 3, 4] rfl, H⟩
                        · replace H := pif_f (of_decide_eq_false hb) H
                          refine OJ.pures tU_ok 8 rfl ?_
                          refine OJ.nil (EJ.blk (EJ.next ?_))
                          refine CJ.region ?_
                          refine OJ.pures tU_ok 3 rfl ?_
                          refine OJ.nil ?_
                          exact EJ.round k (F' := [(0, .pointer (some pa0)), (1, .slice Aa1 a1.length ca1), (2, .int .i64 a2), (3, .int .i64 a3), (10, .int .i64 y5), (12, .int .i64 y10), (13, .bool true), (14, .int .i64 (IntKind.i64.wrap (y14 + 1)))]) ⟨rfl, rfl, rfl, rfl, rfl, rfl, rfl, rfl, trivial⟩ (Nat.lt_succ_self _) ⟨true, (IntKind.i64.wrap (y14 + 1)), rfl, hS.pick [] [0, 1, 2, 3, 4] rfl, H⟩
                      · replace H := pifb_f hb H
                        refine OJ.pures tU_ok 15 rfl ?_
                        refine OJ.nil (EJ.blk (EJ.next ?_))
                        refine CJ.region ?_
                        refine OJ.pures tU_ok 3 rfl ?_
                        refine OJ.nil ?_
                        exact EJ.round k (F' := [(0, .pointer (some pa0)), (1, .slice Aa1 a1.length ca1), (2, .int .i64 a2), (3, .int .i64 a3), (10, .int .i64 y5), (12, .int .i64 y10), (13, .bool false), (14, .int .i64 (IntKind.i64.wrap (y14 + 1)))]) ⟨rfl, rfl, rfl, rfl, rfl, rfl, rfl, rfl, trivial⟩ (Nat.lt_succ_self _) ⟨false, (IntKind.i64.wrap (y14 + 1)), rfl, hS.pick [] [0, 1, 2, 3, 4] rfl, H⟩
                    · replace H := pif_f (of_decide_eq_false hb) H
                      refine CJ.exit (EJ.skE (EJ.skE (EJ.hit (?_))))
                      exact EJ.meet (F' := [(0, .pointer (some pa0)), (1, .slice Aa1 a1.length ca1), (2, .int .i64 a2), (3, .int .i64 a3), (10, .int .i64 y5), (12, .int .i64 y10), (13, .bool y13)]) ⟨rfl, rfl, rfl, rfl, rfl, rfl, rfl, trivial⟩ ⟨y13, H, rfl, hS.pick [] [0, 1, 2, 3, 4] rfl⟩
                · rintro F w1 ⟨y12, he, rfl, hS⟩
                  obtain rfl := Option.some.inj he
                  have H := K85
                  refine EJ.next ?_
                  refine CJ.seq ?_
                  refine CJ.seq ?_
                  refine CJ.region ?_
                  refine OJ.pures tU_ok 2 rfl ?_
                  refine OJ.nil (EJ.next ?_)
                  refine CJ.cond rfl (fun hb => ?_) (fun hb => ?_)
                  · replace H := pif_t hb H
                    refine CJ.exit (EJ.skE (EJ.hit (?_)))
                    exact EJ.meet (F' := [(0, .pointer (some pa0)), (1, .slice Aa1 a1.length ca1), (2, .int .i64 a2), (3, .int .i64 a3), (10, .int .i64 y5), (12, .int .i64 y10)]) ⟨rfl, rfl, rfl, rfl, rfl, rfl, trivial⟩ ⟨H, rfl, hS.pick [] [0, 1, 2, 3, 4] rfl⟩
                  · replace H := pifb_f hb H
                    refine CJ.skip (EJ.next ?_)
                    refine CJ.seq ?_
                    refine CJ.region ?_
                    refine OJ.pures tU_ok 1 rfl ?_
                    refine OJ.ef rfl rfl rfl (Ef.lit tU_ok tI_ok hS (C := (ci .i64)) rfl rfl rfl rfl rfl rfl ([] : List Int) rfl rfl rfl rfl) ?_
                    rintro _ w1 ⟨A17, rfl, hS⟩
                    refine OJ.pures tU_ok 1 rfl ?_
                    obtain ⟨u18, hu18, H⟩ := pbind H
                    refine OJ.ew rfl rfl rfl (Ew.append tU_ok tI_ok (C := (ci .i64)) (xs := ([] : List Int)) (ys := a1) hS (i := 0) rfl rfl rfl rfl rfl rfl rfl rfl rfl rfl rfl rfl rfl (hS.rd' (i := 4) rfl) (chk_some hu18)) ?_
                    rintro _ w1 ⟨A19, c20, rfl, hS⟩
                    refine OJ.pures tU_ok 1 rfl ?_
                    refine OJ.ef rfl rfl rfl (Ef.lit tU_ok tI_ok hS (C := (ci .i64)) rfl rfl rfl rfl rfl rfl ([y10] : List Int) rfl rfl rfl rfl) ?_
                    rintro _ w1 ⟨A21, rfl, hS⟩
                    obtain ⟨u22, hu22, H⟩ := pbind H
                    refine OJ.ew rfl rfl rfl (Ew.append tU_ok tI_ok (C := (ci .i64)) (xs := (([] : List Int) ++ a1)) (ys := ([y10] : List Int)) hS (i := 0) rfl rfl rfl rfl rfl rfl rfl rfl rfl rfl rfl rfl rfl (hS.rd (i := 1) rfl) (chk_some hu22)) ?_
                    rintro _ w1 ⟨A23, c24, rfl, hS⟩
                    refine OJ.pures tU_ok 3 rfl ?_
                    obtain ⟨t25, ht25, H⟩ := pbind H
                    refine OJ.callF rfl rfl rfl rfl rfl hb30 rfl (ih _ Aa0_0 ca0_0 Aa0_1 ca0_1 Aa0_2 ca0_2 a0 (hS.rd' (i := 0) rfl) (hS.le' (i := 0) rfl) (hS.rd' (i := 1) rfl) (hS.le' (i := 1) rfl) (hS.rd' (i := 2) rfl) (hS.le' (i := 2) rfl) pa0 (hS.ca (i := 3) rfl) A23 c24 ((([] : List Int) ++ a1) ++ ([y10] : List Int)) (hS.rd (i := 0) rfl) (hS.le (i := 0) rfl) (IntKind.i64.wrap (a2 + 1)) a3 _ ht25) ?_
                    rintro _ w1 ⟨A26, c27, rfl, hs⟩
                    replace hS := hS.addN hs
                    refine OJ.pures tU_ok 5 rfl ?_
                    refine OJ.nil (EJ.next ?_)
                    refine CJ.seq ?_
                    refine CJ.region ?_
                    refine OJ.pures tU_ok 1 rfl ?_
                    refine OJ.nil (EJ.next ?_)
                    refine CJ.cond rfl (fun hb => ?_) (fun hb => ?_)
                    · replace H := pif_t hb H
                      refine CJ.seq ?_
                      refine CJ.region ?_
                      refine OJ.pures tU_ok 3 rfl ?_
                      refine OJ.nil (EJ.next ?_)
                      refine CJ.ret (EJ.bkR (EJ.skR (EJ.skR (EJ.bkR (EJ.skR (EJ.skR (?_)))))))
                      first | (obtain rfl := Option.some.inj H; have H := K83) | (obtain ⟨q83, H2, e83⟩ := pbind H; obtain rfl := Option.some.inj e83; obtain rfl := Option.some.inj K83; have H := H2)
                      first | (obtain rfl := Option.some.inj H; have H := K73) | (obtain ⟨q73, H2, e73⟩ := pbind H; obtain rfl := Option.some.inj e73; obtain rfl := Option.some.inj K73; have H := H2)
                      obtain rfl := Option.some.inj H
                      exact EJ.fin rfl (.tmp rfl (.tmp rfl .nil)) ⟨A26, c27, rfl, hS.pick [2] [] rfl⟩
                    · replace H := pifb_f hb H
                      refine CJ.skip (EJ.blk (?_))
                      exact EJ.meet (F' := [(0, .pointer (some pa0)), (1, .slice Aa1 a1.length ca1), (2, .int .i64 a2), (3, .int .i64 a3), (10, .int .i64 y5), (12, .int .i64 y10)]) ⟨rfl, rfl, rfl, rfl, rfl, rfl, trivial⟩ ⟨H, rfl, hS.pick [] [0, 1, 2, 3, 4] rfl⟩
              · rintro F w1 ⟨he, rfl, hS⟩
                obtain rfl := Option.some.inj he
                have H := K83
                refine CJ.region ?_
                refine OJ.pures tU_ok 3 rfl ?_
                refine OJ.nil ?_
                exact EJ.round k (F' := [(0, .pointer (some pa0)), (1, .slice Aa1 a1.length ca1), (2, .int .i64 a2), (3, .int .i64 a3), (10, .int .i64 y5), (12, .int .i64 (IntKind.i64.wrap (y10 + 1)))]) ⟨rfl, rfl, rfl, rfl, rfl, rfl, trivial⟩ (Nat.lt_succ_self _) ⟨(IntKind.i64.wrap (y10 + 1)), rfl, hS.pick [] [0, 1, 2, 3, 4] rfl, H⟩
            · replace H := pifb_f hb H
              refine CJ.exit (EJ.skE (EJ.skE (EJ.hit (?_))))
              exact EJ.meet (F' := []) trivial ⟨H, rfl, hS.pick [] [0, 1, 2, 3, 4] rfl⟩
      · rintro F w1 ⟨he, rfl, hS⟩
        obtain rfl := Option.some.inj he
        have H := K73
        refine EJ.next ?_
        refine CJ.seq ?_
        refine CJ.region ?_
        refine OJ.ef rfl rfl rfl (Ef.lit tU_ok tI_ok hS (C := (ci .i64)) rfl rfl rfl rfl rfl rfl ([] : List Int) rfl rfl rfl rfl) ?_
        rintro _ w1 ⟨A28, rfl, hS⟩
        refine OJ.pures tU_ok 2 rfl ?_
        refine OJ.nil (EJ.next ?_)
        refine CJ.ret (?_)
        obtain rfl := Option.some.inj H
        exact EJ.fin rfl (.tmp rfl (.tmp rfl .nil)) ⟨A28, (([] : List Int).length), rfl, hS.pick [0] [] rfl⟩

def spec_FewestGroups.l1 (a0 : Herd) : Nat → Int → Option ((List Int × Int × Int) ⊕ Unit)
  | 0, _ => none
  | k + 1, y4 => (spec_l06Colour.f k a0 ([] : List Int) 0 y4).bind fun t6 => if t6.2 = true then (some (Sum.inl (t6.1, y4, 0))) else (spec_FewestGroups.l1 a0 k (IntKind.i64.wrap (y4 + 1)))
def spec_FewestGroups.f (k : Nat) (a0 : Herd) : Option (List Int × Int × Int) := (spec_l06Ok.f k a0).bind fun t2 => if (!t2) = true then (some (([] : List Int), 0, 1)) else ((spec_FewestGroups.l1 a0 k 0).bind fun s66 => match s66 with | .inl r => some r | .inr _ => none)
theorem spec_FewestGroups.c (k : Nat) (w : World) (Aa0_0 : Option Addr) (ca0_0 : Nat) (Aa0_1 : Option Addr) (ca0_1 : Nat) (Aa0_2 : Option Addr) (ca0_2 : Nat) (a0 : Herd) (hr0_0 : Rd G.cs w Aa0_0 a0.Names) (hc0_0 : a0.Names.length ≤ ca0_0) (hr0_1 : Rd (ci .i16) w Aa0_1 a0.Eats) (hc0_1 : a0.Eats.length ≤ ca0_1) (hr0_2 : Rd (ci .u16) w Aa0_2 a0.Foes) (hc0_2 : a0.Foes.length ≤ ca0_2) (r : List Int × Int × Int) (H : spec_FewestGroups.f k a0 = some r) :
    CV Tryz.prog 8 [.agg [.slice Aa0_0 a0.Names.length ca0_0, .slice Aa0_1 a0.Eats.length ca0_1, .slice Aa0_2 a0.Foes.length ca0_2].toArray].toArray w fun v w' => ∃ (A0 : Option Addr) (c0 : Nat), v = .tuple #[.slice A0 r.1.length c0, .int .i64 r.2.1, .int .i64 r.2.2] ∧ St w no w' [rowC (ci .i64) A0 c0 2 r.1] [] := by
  have hS := ((((St.init w no).param G.cs Aa0_0 ca0_0 a0.Names hr0_0 hc0_0).param (ci .i16) Aa0_1 ca0_1 a0.Eats hr0_1 hc0_1).param (ci .u16) Aa0_2 ca0_2 a0.Foes hr0_2 hc0_2)
  unfold spec_FewestGroups.f at H
  refine CV.body Tryz.func8 rfl Tryz.ntmps8 rfl ?_
  refine CJ.seq ?_
  refine CJ.region ?_
  refine OJ.ef rfl rfl rfl (Ef.box hS rfl rfl ([.slice Aa0_0 a0.Names.length ca0_0, .slice Aa0_1 a0.Eats.length ca0_1, .slice Aa0_2 a0.Foes.length ca0_2]) rfl) ?_
  rintro _ w1 ⟨b1, rfl, hS⟩
  refine OJ.pures tU_ok 3 rfl ?_
  refine OJ.nil (EJ.next ?_)
  refine CJ.seq ?_
  refine CJ.seq ?_
  refine CJ.region ?_
  obtain ⟨t2, ht2, H⟩ := pbind H
  refine OJ.callF rfl rfl rfl rfl rfl hb29 rfl (spec_l06Ok.c k _ Aa0_0 ca0_0 Aa0_1 ca0_1 Aa0_2 ca0_2 a0 (hS.rd' (i := 0) rfl) (hS.le' (i := 0) rfl) (hS.rd' (i := 1) rfl) (hS.le' (i := 1) rfl) (hS.rd' (i := 2) rfl) (hS.le' (i := 2) rfl) ⟨b1, 0, none⟩ (hS.cells (i := 0) rfl) _ ht2) ?_
  rintro _ w1 ⟨rfl, hs⟩
  replace hS := hS.grow hs
  refine OJ.pures tU_ok 1 rfl ?_
  refine OJ.nil (EJ.next ?_)
  refine CJ.cond rfl (fun hb => ?_) (fun hb => ?_)
  · replace H := pif_t hb H
    refine CJ.seq ?_
    refine CJ.region ?_
    refine OJ.ef rfl rfl rfl (Ef.lit tU_ok tI_ok hS (C := (ci .i64)) rfl rfl rfl rfl rfl rfl ([] : List Int) rfl rfl rfl rfl) ?_
    rintro _ w1 ⟨A3, rfl, hS⟩
    refine OJ.pures tU_ok 3 rfl ?_
    refine OJ.nil (EJ.next ?_)
    refine CJ.ret (EJ.skR (?_))
    obtain rfl := Option.some.inj H
    exact EJ.fin rfl (.tmp rfl (.tmp rfl (.tmp rfl .nil))) ⟨A3, (([] : List Int).length), rfl, hS.pick [1] [] rfl⟩
  · replace H := pifb_f hb H
    refine CJ.skip (EJ.next ?_)
    refine CJ.seq ?_
    refine CJ.region ?_
    refine OJ.pures tU_ok 1 rfl ?_
    refine OJ.nil (EJ.next ?_)
    obtain ⟨j66, H, K66⟩ := pbind H
    refine CJ.cut1 (fun _ _ => False) ?_ ?_
    · skip
      refine CJ.block ?_
      refine CJ.loop (fun k F w1 => ∃ (y4 : Int), F = [(1, .pointer (some ⟨b1, 0, none⟩)), (2, .slice none 0 0), (3, .int .i64 0), (4, .int .i64 0), (5, .int .i64 y4)] ∧ St w no w1 [box b1 ([.slice Aa0_0 a0.Names.length ca0_0, .slice Aa0_1 a0.Eats.length ca0_1, .slice Aa0_2 a0.Foes.length ca0_2]) 28] [roC G.cs Aa0_0 ca0_0 a0.Names, roC (ci .i16) Aa0_1 ca0_1 a0.Eats, roC (ci .u16) Aa0_2 ca0_2 a0.Foes] ∧ spec_FewestGroups.l1 a0 k y4 = some j66) k (F' := [(1, .pointer (some ⟨b1, 0, none⟩)), (2, .slice none 0 0), (3, .int .i64 0), (4, .int .i64 0), (5, .int .i64 0)]) ⟨rfl, rfl, rfl, rfl, rfl, trivial⟩ ⟨0, rfl, hS.pick [0] [0, 1, 2] rfl, H⟩ ?_
      rintro k F w1 ⟨y4, rfl, hS, H⟩
      cases k with
      | zero => rw [spec_FewestGroups.l1] at H; cases H
      | succ k =>
        rw [spec_FewestGroups.l1] at H
        refine CJ.block ?_
        refine CJ.seq ?_
        refine CJ.region ?_
        refine OJ.ef rfl rfl rfl (Ef.lit tU_ok tI_ok hS (C := (ci .i64)) rfl rfl rfl rfl rfl rfl ([] : List Int) rfl rfl rfl rfl) ?_
        rintro _ w1 ⟨A5, rfl, hS⟩
        refine OJ.pures tU_ok 1 rfl ?_
        obtain ⟨t6, ht6, H⟩ := pbind H
        refine OJ.callF rfl rfl rfl rfl rfl hb30 rfl (spec_l06Colour.c k _ Aa0_0 ca0_0 Aa0_1 ca0_1 Aa0_2 ca0_2 a0 (hS.rd' (i := 0) rfl) (hS.le' (i := 0) rfl) (hS.rd' (i := 1) rfl) (hS.le' (i := 1) rfl) (hS.rd' (i := 2) rfl) (hS.le' (i := 2) rfl) ⟨b1, 0, none⟩ (hS.cells (i := 0) rfl) A5 (([] : List Int).length) ([] : List Int) (hS.rd (i := 1) rfl) (hS.le (i := 1) rfl) 0 y4 _ ht6) ?_
        rintro _ w1 ⟨A7, c8, rfl, hs⟩
        replace hS := hS.addN hs
        refine OJ.pures tU_ok 5 rfl ?_
        refine OJ.nil (EJ.next ?_)
        refine CJ.seq ?_
        refine CJ.seq ?_
        refine CJ.region ?_
        refine OJ.pures tU_ok 1 rfl ?_
        refine OJ.nil (EJ.next ?_)
        refine CJ.cond rfl (fun hb => ?_) (fun hb => ?_)
        · replace H := pif_t hb H
          refine CJ.seq ?_
          refine CJ.region ?_
          refine OJ.pures tU_ok 5 rfl ?_
          refine OJ.nil (EJ.next ?_)
          refine CJ.ret (EJ.skR (EJ.bkR (EJ.skR (EJ.bkR (EJ.skR (?_))))))
          first | (obtain rfl := Option.some.inj H; have H := K66) | (obtain ⟨q66, H2, e66⟩ := pbind H; obtain rfl := Option.some.inj e66; obtain rfl := Option.some.inj K66; have H := H2)
          obtain rfl := Option.some.inj H
          exact EJ.fin rfl (.tmp rfl (.tmp rfl (.tmp rfl .nil))) ⟨A7, c8, rfl, hS.pick [2] [] rfl⟩
        · replace H := pifb_f hb H
          refine CJ.skip (EJ.next ?_)
          refine CJ.region ?_
          refine OJ.pures tU_ok 3 rfl ?_
          refine OJ.nil (EJ.blk (?_))
          exact EJ.round k (F' := [(1, .pointer (some ⟨b1, 0, none⟩)), (2, .slice none 0 0), (3, .int .i64 0), (4, .int .i64 0), (5, .int .i64 (IntKind.i64.wrap (y4 + 1)))]) ⟨rfl, rfl, rfl, rfl, rfl, trivial⟩ (Nat.lt_succ_self _) ⟨(IntKind.i64.wrap (y4 + 1)), rfl, hS.pick [0] [0, 1, 2] rfl, H⟩
    · rintro F w1 h
      exact h.elim

def impl_size_int64.f (a0 : List Int) : Option Int := some (a0.length : Int)
theorem impl_size_int64.c (w : World) (Aa0 : Option Addr) (ca0 : Nat) (a0 : List Int) (hr0 : Rd (ci .i64) w Aa0 a0) (hc0 : a0.length ≤ ca0) (r : Int) (H : impl_size_int64.f a0 = some r) :
    CV Tryz.prog 31 [.slice Aa0 a0.length ca0].toArray w fun v w' => v = .int .i64 r ∧ Ext w w' := by
  have hS := ((St.init w no).param (ci .i64) Aa0 ca0 a0 hr0 hc0)
  unfold impl_size_int64.f at H
  refine CV.body Tryz.func31 rfl Tryz.ntmps31 rfl ?_
  refine CJ.seq ?_
  refine CJ.region ?_
  refine OJ.pures tU_ok 1 rfl ?_
  refine OJ.nil (EJ.next ?_)
  refine CJ.seq ?_
  refine CJ.region ?_
  refine OJ.pures tU_ok 3 rfl ?_
  refine OJ.nil (EJ.next ?_)
  refine CJ.ret (?_)
  obtain rfl := Option.some.inj H
  exact EJ.fin rfl (.tmp rfl .nil) ⟨rfl, hS.ext⟩

def impl_size_string.f (a0 : List ByteArray) : Option Int := some (a0.length : Int)
theorem impl_size_string.c (w : World) (Aa0 : Option Addr) (ca0 : Nat) (a0 : List ByteArray) (hr0 : Rd G.cs w Aa0 a0) (hc0 : a0.length ≤ ca0) (r : Int) (H : impl_size_string.f a0 = some r) :
    CV Tryz.prog 66 [.slice Aa0 a0.length ca0].toArray w fun v w' => v = .int .i64 r ∧ Ext w w' := by
  have hS := ((St.init w no).param G.cs Aa0 ca0 a0 hr0 hc0)
  unfold impl_size_string.f at H
  refine CV.body Tryz.func66 rfl Tryz.ntmps66 rfl ?_
  refine CJ.seq ?_
  refine CJ.region ?_
  refine OJ.pures tU_ok 1 rfl ?_
  refine OJ.nil (EJ.next ?_)
  refine CJ.seq ?_
  refine CJ.region ?_
  refine OJ.pures tU_ok 3 rfl ?_
  refine OJ.nil (EJ.next ?_)
  refine CJ.ret (?_)
  obtain rfl := Option.some.inj H
  exact EJ.fin rfl (.tmp rfl .nil) ⟨rfl, hS.ext⟩

def impl_Herd_many.f (a0 : Herd) : Option Int := (impl_size_string.f a0.Names).bind fun t2 => some t2
theorem impl_Herd_many.c (w : World) (Aa0_0 : Option Addr) (ca0_0 : Nat) (Aa0_1 : Option Addr) (ca0_1 : Nat) (Aa0_2 : Option Addr) (ca0_2 : Nat) (a0 : Herd) (hr0_0 : Rd G.cs w Aa0_0 a0.Names) (hc0_0 : a0.Names.length ≤ ca0_0) (hr0_1 : Rd (ci .i16) w Aa0_1 a0.Eats) (hc0_1 : a0.Eats.length ≤ ca0_1) (hr0_2 : Rd (ci .u16) w Aa0_2 a0.Foes) (hc0_2 : a0.Foes.length ≤ ca0_2) (r : Int) (H : impl_Herd_many.f a0 = some r) :
    CV Tryz.prog 32 [.agg [.slice Aa0_0 a0.Names.length ca0_0, .slice Aa0_1 a0.Eats.length ca0_1, .slice Aa0_2 a0.Foes.length ca0_2].toArray].toArray w fun v w' => v = .int .i64 r ∧ Ext w w' := by
  have hS := ((((St.init w no).param G.cs Aa0_0 ca0_0 a0.Names hr0_0 hc0_0).param (ci .i16) Aa0_1 ca0_1 a0.Eats hr0_1 hc0_1).param (ci .u16) Aa0_2 ca0_2 a0.Foes hr0_2 hc0_2)
  unfold impl_Herd_many.f at H
  refine CV.body Tryz.func32 rfl Tryz.ntmps32 rfl ?_
  refine CJ.seq ?_
  refine CJ.region ?_
  refine OJ.ef rfl rfl rfl (Ef.box hS rfl rfl ([.slice Aa0_0 a0.Names.length ca0_0, .slice Aa0_1 a0.Eats.length ca0_1, .slice Aa0_2 a0.Foes.length ca0_2]) rfl) ?_
  rintro _ w1 ⟨b1, rfl, hS⟩
  refine OJ.pures tU_ok 1 rfl ?_
  refine OJ.nil (EJ.next ?_)
  refine CJ.seq ?_
  refine CJ.region ?_
  refine OJ.st rfl rfl rfl (SR.fieldAddr tU_ok tI_ok rfl rfl rfl rfl rfl rfl) ?_
  refine OJ.st rfl rfl rfl (SR.load rfl rfl (fun w' hx => ld1 tU_ok rfl rfl (CA.ext (CA.sub (hS.cells (i := 0) rfl) 0) hx) rfl)) ?_
  obtain ⟨t2, ht2, H⟩ := pbind H
  refine OJ.callF rfl rfl rfl rfl rfl hb66 rfl (impl_size_string.c _ Aa0_0 ca0_0 a0.Names (hS.rd' (i := 0) rfl) (hS.le' (i := 0) rfl) _ ht2) ?_
  rintro _ w1 ⟨rfl, hs⟩
  replace hS := hS.grow hs
  refine OJ.pures tU_ok 1 rfl ?_
  refine OJ.nil (EJ.next ?_)
  refine CJ.ret (?_)
  obtain rfl := Option.some.inj H
  exact EJ.fin rfl (.tmp rfl .nil) ⟨rfl, hS.ext⟩

def slices_Sort_int64_int64.f (a0 : List Int) : Option (List Int) := (chk (a0.length ≤ 4294967296)).bind fun _ => some (sortI a0)
theorem slices_Sort_int64_int64.c (w : World) (Aa0 : Option Addr) (ca0 : Nat) (a0 : List Int) (hin : St w (fpU [rowC (ci .i64) Aa0 ca0 2 a0]) w [rowC (ci .i64) Aa0 ca0 2 a0] []) (r : List Int) (H : slices_Sort_int64_int64.f a0 = some r) :
    CV Tryz.prog 67 [.slice Aa0 a0.length ca0].toArray w fun v w' => v = .tuple #[] ∧ St w (fpU [rowC (ci .i64) Aa0 ca0 2 a0]) w' [rowC (ci .i64) Aa0 ca0 2 r] [] ∧ r.length = a0.length := by
  unfold slices_Sort_int64_int64.f at H
  obtain ⟨u, hu, H⟩ := pbind H
  obtain rfl := Option.some.inj H
  exact sort_cv hin (fun blk off cap zs w h1 h2 h3 => AnyM.slices_Sort_int laySort blk off cap zs w h1 h2 h3) (fun p cap w => AnyM.slices_Sort_int_none laySort p cap w) (chk_some hu)

def slices_Compact_int64_int64.f (a0 : List Int) : Option (List Int) := (chk (a0.length ≤ 4294967296)).bind fun _ => some (cmpI a0)
theorem slices_Compact_int64_int64.c (w : World) (Aa0 : Option Addr) (ca0 : Nat) (a0 : List Int) (hin : St w (fpU [rowC (ci .i64) Aa0 ca0 2 a0]) w [rowC (ci .i64) Aa0 ca0 2 a0] []) (r : List Int) (H : slices_Compact_int64_int64.f a0 = some r) :
    CV Tryz.prog 68 [.slice Aa0 a0.length ca0].toArray w fun v w' => ∃ (A0 : Option Addr) (c0 : Nat), v = .slice A0 r.length c0 ∧ St w (fpU [rowC (ci .i64) Aa0 ca0 2 a0]) w' [rowC (ci .i64) A0 c0 2 r] [] := by
  unfold slices_Compact_int64_int64.f at H
  obtain ⟨u, hu, H⟩ := pbind H
  obtain rfl := Option.some.inj H
  exact compact_cv hin (fun blk off cap zs w h1 h2 h3 => AnyG.slices_Compact_int layCompact blk off cap zs w h1 h2 h3) (fun p cap w => AnyG.slices_Compact_int_empty layCompact p cap w) (chk_some hu)

def impl_isEach.f (a0 : List Int) : Option Bool := (slices_Clone_int64_int64.f a0).bind fun t1 => (slices_Sort_int64_int64.f t1).bind fun t4 => (slices_Compact_int64_int64.f t4).bind fun t5 => some (decide ((t5.length : Int) = (a0.length : Int)))
theorem impl_isEach.c (w : World) (Aa0 : Option Addr) (ca0 : Nat) (a0 : List Int) (hr0 : Rd (ci .i64) w Aa0 a0) (hc0 : a0.length ≤ ca0) (r : Bool) (H : impl_isEach.f a0 = some r) :
    CV Tryz.prog 33 [.slice Aa0 a0.length ca0].toArray w fun v w' => v = .bool r ∧ Ext w w' := by
  have hS := ((St.init w no).param (ci .i64) Aa0 ca0 a0 hr0 hc0)
  unfold impl_isEach.f at H
  refine CV.body Tryz.func33 rfl Tryz.ntmps33 rfl ?_
  refine CJ.seq ?_
  refine CJ.region ?_
  refine OJ.pures tU_ok 1 rfl ?_
  refine OJ.nil (EJ.next ?_)
  refine CJ.seq ?_
  refine CJ.region ?_
  refine OJ.pures tU_ok 1 rfl ?_
  obtain ⟨t1, ht1, H⟩ := pbind H
  refine OJ.callF rfl rfl rfl rfl rfl hb62 rfl (slices_Clone_int64_int64.c _ Aa0 ca0 a0 (hS.rd' (i := 0) rfl) (hS.le' (i := 0) rfl) _ ht1) ?_
  rintro _ w1 ⟨A2, c3, rfl, hs⟩
  replace hS := hS.addN hs
  refine OJ.pures tU_ok 1 rfl ?_
  refine OJ.nil (EJ.next ?_)
  refine CJ.seq ?_
  refine CJ.region ?_
  refine OJ.pures tU_ok 1 rfl ?_
  obtain ⟨t4, ht4, H⟩ := pbind H
  refine OJ.callF rfl rfl rfl rfl rfl hb67 rfl (slices_Sort_int64_int64.c _ A2 c3 t1 ((hS.subs [0] [] [] rfl).pick [0] [] rfl) _ ht4) ?_
  rintro _ w1 ⟨rfl, hs, hlc0⟩
  replace hS := hS.back [0] rfl rfl [rowC (ci .i64) A2 c3 2 t4] [] hs ⟨fun _ => Iff.rfl, trivial⟩
  refine OJ.as (t := 5) rfl (show _ = (.slice A2 t4.length c3 : Value) by simp only [hlc0]) ?_
  refine OJ.as (t := 3) rfl (show _ = (.slice A2 t4.length c3 : Value) by simp only [hlc0]) ?_
  refine OJ.as (t := 6) rfl (show _ = (.slice A2 t4.length c3 : Value) by simp only [hlc0]) ?_
  refine OJ.nil (EJ.next ?_)
  refine CJ.seq ?_
  refine CJ.region ?_
  refine OJ.pures tU_ok 1 rfl ?_
  obtain ⟨t5, ht5, H⟩ := pbind H
  refine OJ.callF rfl rfl rfl rfl rfl hb68 rfl (slices_Compact_int64_int64.c _ A2 c3 t4 ((hS.subs [0] [] [] rfl).pick [0] [] rfl) _ ht5) ?_
  rintro _ w1 ⟨A6, c7, rfl, hs⟩
  replace hS := hS.back' [] [0] rfl rfl [] [rowC (ci .i64) A6 c7 2 t5] [] hs trivial (fun _ h => by cases h) (.inr rfl)
  refine OJ.pures tU_ok 5 rfl ?_
  refine OJ.nil (EJ.next ?_)
  refine CJ.ret (?_)
  obtain rfl := Option.some.inj H
  exact EJ.fin rfl (.tmp rfl .nil) ⟨rfl, hS.ext⟩

def impl_herdCode_1.f (a1 : Herd) (a0 : Int) : Option Bool := (impl_Herd_many.f a1).bind fun t1 => (impl_within.f a0 0 (IntKind.i64.wrap (t1 - 1))).bind fun t2 => some (!t2)
theorem impl_herdCode_1.c (w : World) (Aa1_0 : Option Addr) (ca1_0 : Nat) (Aa1_1 : Option Addr) (ca1_1 : Nat) (Aa1_2 : Option Addr) (ca1_2 : Nat) (a1 : Herd) (hr1_0 : Rd G.cs w Aa1_0 a1.Names) (hc1_0 : a1.Names.length ≤ ca1_0) (hr1_1 : Rd (ci .i16) w Aa1_1 a1.Eats) (hc1_1 : a1.Eats.length ≤ ca1_1) (hr1_2 : Rd (ci .u16) w Aa1_2 a1.Foes) (hc1_2 : a1.Foes.length ≤ ca1_2) (pa1 : Addr) (hp1 : CA w pa1 ([.slice Aa1_0 a1.Names.length ca1_0, .slice Aa1_1 a1.Eats.length ca1_1, .slice Aa1_2 a1.Foes.length ca1_2])) (a0 : Int) (r : Bool) (H : impl_herdCode_1.f a1 a0 = some r) :
    CV Tryz.prog 70 [.int .i64 a0, .pointer (some pa1)].toArray w fun v w' => v = .bool r ∧ Ext w w' := by
  have hS := (((((St.init w no).param G.cs Aa1_0 ca1_0 a1.Names hr1_0 hc1_0).param (ci .i16) Aa1_1 ca1_1 a1.Eats hr1_1 hc1_1).param (ci .u16) Aa1_2 ca1_2 a1.Foes hr1_2 hc1_2).paramP pa1 ([.slice Aa1_0 a1.Names.length ca1_0, .slice Aa1_1 a1.Eats.length ca1_1, .slice Aa1_2 a1.Foes.length ca1_2]) hp1)
  unfold impl_herdCode_1.f at H
  refine CV.body Tryz.func70 rfl Tryz.ntmps70 rfl ?_
  refine CJ.seq ?_
  refine CJ.region ?_
  refine OJ.pures tU_ok 1 rfl ?_
  refine OJ.nil (EJ.next ?_)
  refine CJ.seq ?_
  refine CJ.region ?_
  refine OJ.pures tU_ok 1 rfl ?_
  refine OJ.st rfl rfl rfl (SR.load rfl rfl (fun w' hx => ldN tU_ok tI_ok rfl rfl rfl (CA.ext (hS.ca (i := 3) rfl) hx) (ds := [.slice Aa1_0 a1.Names.length ca1_0, .slice Aa1_1 a1.Eats.length ca1_1, .slice Aa1_2 a1.Foes.length ca1_2]) rfl rfl)) ?_
  obtain ⟨t1, ht1, H⟩ := pbind H
  refine OJ.callF rfl rfl rfl rfl rfl hb32 rfl (impl_Herd_many.c _ Aa1_0 ca1_0 Aa1_1 ca1_1 Aa1_2 ca1_2 a1 (hS.rd' (i := 0) rfl) (hS.le' (i := 0) rfl) (hS.rd' (i := 1) rfl) (hS.le' (i := 1) rfl) (hS.rd' (i := 2) rfl) (hS.le' (i := 2) rfl) _ ht1) ?_
  rintro _ w1 ⟨rfl, hs⟩
  replace hS := hS.grow hs
  refine OJ.pures tU_ok 1 rfl ?_
  obtain ⟨t2, ht2, H⟩ := pbind H
  refine OJ.callF rfl rfl rfl rfl rfl hb49 rfl (impl_within.c _ a0 0 (IntKind.i64.wrap (t1 - 1)) _ ht2) ?_
  rintro _ w1 ⟨rfl, hs⟩
  replace hS := hS.grow hs
  refine OJ.pures tU_ok 2 rfl ?_
  refine OJ.nil (EJ.next ?_)
  refine CJ.ret (?_)
  obtain rfl := Option.some.inj H
  exact EJ.fin rfl (.tmp rfl .nil) ⟨rfl, hS.ext⟩

def impl_unless.f (a0 : Bool) (a1 : Int) : Option Int := if a0 = true then (some 0) else (some a1)
theorem impl_unless.c (w : World) (a0 : Bool) (a1 : Int) (r : Int) (H : impl_unless.f a0 a1 = some r) :
    CV Tryz.prog 69 [.bool a0, .int .i64 a1].toArray w fun v w' => v = .int .i64 r ∧ Ext w w' := by
  have hS := (St.init w no)
  unfold impl_unless.f at H
  refine CV.body Tryz.func69 rfl Tryz.ntmps69 rfl ?_
  refine CJ.seq ?_
  refine CJ.region ?_
  refine OJ.pures tU_ok 1 rfl ?_
  refine OJ.nil (EJ.next ?_)
  refine CJ.seq ?_
  refine CJ.seq ?_
  refine CJ.region ?_
  refine OJ.pures tU_ok 1 rfl ?_
  refine OJ.nil (EJ.next ?_)
  refine CJ.cond rfl (fun hb => ?_) (fun hb => ?_)
  · replace H := pif_t hb H
    refine CJ.seq ?_
    refine CJ.region ?_
    refine OJ.pures tU_ok 1 rfl ?_
    refine OJ.nil (EJ.next ?_)
    refine CJ.ret (EJ.skR (?_))
    obtain rfl := Option.some.inj H
    exact EJ.fin rfl (.tmp rfl .nil) ⟨rfl, hS.ext⟩
  · replace H := pifb_f hb H
    refine CJ.skip (EJ.next ?_)
    refine CJ.seq ?_
    refine CJ.region ?_
    refine OJ.pures tU_ok 2 rfl ?_
    refine OJ.nil (EJ.next ?_)
    refine CJ.ret (?_)
    obtain rfl := Option.some.inj H
    exact EJ.fin rfl (.tmp rfl .nil) ⟨rfl, hS.ext⟩

def impl_herdCode.f (k : Nat) (a0 : Herd) (a1 : List Int) : Option Int := (impl_ValidHerd.f k a0).bind fun t2 => if (!t2) = true then (some 1) else ((slices_ContainsFunc_int64_int64.f k a1 (impl_herdCode_1.f a0)).bind fun t3 => (impl_unless.f (!t3) 2).bind fun t4 => some t4)
theorem impl_herdCode.c (k : Nat) (w : World) (Aa0_0 : Option Addr) (ca0_0 : Nat) (Aa0_1 : Option Addr) (ca0_1 : Nat) (Aa0_2 : Option Addr) (ca0_2 : Nat) (a0 : Herd) (hr0_0 : Rd G.cs w Aa0_0 a0.Names) (hc0_0 : a0.Names.length ≤ ca0_0) (hr0_1 : Rd (ci .i16) w Aa0_1 a0.Eats) (hc0_1 : a0.Eats.length ≤ ca0_1) (hr0_2 : Rd (ci .u16) w Aa0_2 a0.Foes) (hc0_2 : a0.Foes.length ≤ ca0_2) (Aa1 : Option Addr) (ca1 : Nat) (a1 : List Int) (hr1 : Rd (ci .i64) w Aa1 a1) (hc1 : a1.length ≤ ca1) (r : Int) (H : impl_herdCode.f k a0 a1 = some r) :
    CV Tryz.prog 34 [.agg [.slice Aa0_0 a0.Names.length ca0_0, .slice Aa0_1 a0.Eats.length ca0_1, .slice Aa0_2 a0.Foes.length ca0_2].toArray, .slice Aa1 a1.length ca1].toArray w fun v w' => v = .int .i64 r ∧ Ext w w' := by
  have hS := (((((St.init w no).param G.cs Aa0_0 ca0_0 a0.Names hr0_0 hc0_0).param (ci .i16) Aa0_1 ca0_1 a0.Eats hr0_1 hc0_1).param (ci .u16) Aa0_2 ca0_2 a0.Foes hr0_2 hc0_2).param (ci .i64) Aa1 ca1 a1 hr1 hc1)
  unfold impl_herdCode.f at H
  refine CV.body Tryz.func34 rfl Tryz.ntmps34 rfl ?_
  refine CJ.seq ?_
  refine CJ.region ?_
  refine OJ.ef rfl rfl rfl (Ef.box hS rfl rfl ([.slice Aa0_0 a0.Names.length ca0_0, .slice Aa0_1 a0.Eats.length ca0_1, .slice Aa0_2 a0.Foes.length ca0_2]) rfl) ?_
  rintro _ w1 ⟨b1, rfl, hS⟩
  refine OJ.pures tU_ok 1 rfl ?_
  refine OJ.nil (EJ.next ?_)
  refine CJ.seq ?_
  refine CJ.seq ?_
  refine CJ.region ?_
  refine OJ.st rfl rfl rfl (SR.load rfl rfl (fun w' hx => ldN tU_ok tI_ok rfl rfl rfl (CA.ext (hS.cells (i := 0) rfl) hx) (ds := [.slice Aa0_0 a0.Names.length ca0_0, .slice Aa0_1 a0.Eats.length ca0_1, .slice Aa0_2 a0.Foes.length ca0_2]) rfl rfl)) ?_
  obtain ⟨t2, ht2, H⟩ := pbind H
  refine OJ.callF rfl rfl rfl rfl rfl hb27 rfl (impl_ValidHerd.c k _ Aa0_0 ca0_0 Aa0_1 ca0_1 Aa0_2 ca0_2 a0 (hS.rd' (i := 0) rfl) (hS.le' (i := 0) rfl) (hS.rd' (i := 1) rfl) (hS.le' (i := 1) rfl) (hS.rd' (i := 2) rfl) (hS.le' (i := 2) rfl) _ ht2) ?_
  rintro _ w1 ⟨rfl, hs⟩
  replace hS := hS.grow hs
  refine OJ.pures tU_ok 1 rfl ?_
  refine OJ.nil (EJ.next ?_)
  refine CJ.cond rfl (fun hb => ?_) (fun hb => ?_)
  · replace H := pif_t hb H
    refine CJ.seq ?_
    refine CJ.region ?_
    refine OJ.pures tU_ok 1 rfl ?_
    refine OJ.nil (EJ.next ?_)
    refine CJ.ret (EJ.skR (?_))
    obtain rfl := Option.some.inj H
    exact EJ.fin rfl (.tmp rfl .nil) ⟨rfl, hS.ext⟩
  · replace H := pifb_f hb H
    refine CJ.skip (EJ.next ?_)
    refine CJ.seq ?_
    refine CJ.region ?_
    refine OJ.pures tU_ok 2 rfl ?_
    obtain ⟨t3, ht3, H⟩ := pbind H
    refine OJ.callF rfl rfl rfl rfl rfl hb36 rfl (slices_ContainsFunc_int64_int64.c k _ Aa1 ca1 a1 (hS.rd' (i := 3) rfl) (hS.le' (i := 3) rfl) 70 #[] #[.pointer (some ⟨b1, 0, none⟩)] hb70 (impl_herdCode_1.f a0) (fun z0 r h w' hx => CV.cast (impl_herdCode_1.c w' Aa0_0 ca0_0 Aa0_1 ca0_1 Aa0_2 ca0_2 a0 ((hS.rd' (i := 0) rfl).ext hx) (hS.le' (i := 0) rfl) ((hS.rd' (i := 1) rfl).ext hx) (hS.le' (i := 1) rfl) ((hS.rd' (i := 2) rfl).ext hx) (hS.le' (i := 2) rfl) ⟨b1, 0, none⟩ (CA.ext (hS.cells (i := 0) rfl) hx)  z0 r h) (by simp)) _ ht3) ?_
    rintro _ w1 ⟨rfl, hs⟩
    replace hS := hS.grow hs
    refine OJ.pures tU_ok 1 rfl ?_
    obtain ⟨t4, ht4, H⟩ := pbind H
    refine OJ.callF rfl rfl rfl rfl rfl hb69 rfl (impl_unless.c _ (!t3) 2 _ ht4) ?_
    rintro _ w1 ⟨rfl, hs⟩
    replace hS := hS.grow hs
    refine OJ.pures tU_ok 1 rfl ?_
    refine OJ.nil (EJ.next ?_)
    refine CJ.ret (?_)
    obtain rfl := Option.some.inj H
    exact EJ.fin rfl (.tmp rfl .nil) ⟨rfl, hS.ext⟩

def math_bits_Mul64.f (a0 : Int) (a1 : Int) : Option (Int × Int) := some (IntKind.u64.wrap ((IntKind.u64.wrap ((IntKind.u64.wrap ((shrI .u64 a0 32) * (shrI .u64 a1 32))) + (shrI .u64 (IntKind.u64.wrap ((IntKind.u64.wrap ((shrI .u64 a0 32) * (andI .u64 a1 4294967295))) + (shrI .u64 (IntKind.u64.wrap ((andI .u64 a0 4294967295) * (andI .u64 a1 4294967295))) 32))) 32))) + (shrI .u64 (IntKind.u64.wrap ((andI .u64 (IntKind.u64.wrap ((IntKind.u64.wrap ((shrI .u64 a0 32) * (andI .u64 a1 4294967295))) + (shrI .u64 (IntKind.u64.wrap ((andI .u64 a0 4294967295) * (andI .u64 a1 4294967295))) 32))) 4294967295) + (IntKind.u64.wrap ((andI .u64 a0 4294967295) * (shrI .u64 a1 32))))) 32)), IntKind.u64.wrap (a0 * a1))
theorem math_bits_Mul64.c (w : World) (a0 : Int) (a1 : Int) (r : Int × Int) (H : math_bits_Mul64.f a0 a1 = some r) :
    CV Tryz.prog 84 [.int .u64 a0, .int .u64 a1].toArray w fun v w' => v = .tuple #[.int .u64 r.1, .int .u64 r.2] ∧ Ext w w' := by
  have hS := (St.init w no)
  unfold math_bits_Mul64.f at H
  refine CV.body Tryz.func84 rfl Tryz.ntmps84 rfl ?_
  refine CJ.seq ?_
  refine CJ.region ?_
  refine OJ.pures tU_ok 2 rfl ?_
  refine OJ.nil (EJ.next ?_)
  refine CJ.seq ?_
  refine CJ.region ?_
  refine OJ.pures tU_ok 3 rfl ?_
  refine OJ.nil (EJ.next ?_)
  refine CJ.seq ?_
  refine CJ.region ?_
  refine OJ.pures tU_ok 1 rfl ?_
  refine OJ.st rfl rfl rfl (SR.shr rfl rfl rfl (by decide)) ?_
  refine OJ.pures tU_ok 1 rfl ?_
  refine OJ.nil (EJ.next ?_)
  refine CJ.seq ?_
  refine CJ.region ?_
  refine OJ.pures tU_ok 3 rfl ?_
  refine OJ.nil (EJ.next ?_)
  refine CJ.seq ?_
  refine CJ.region ?_
  refine OJ.pures tU_ok 1 rfl ?_
  refine OJ.st rfl rfl rfl (SR.shr rfl rfl rfl (by decide)) ?_
  refine OJ.pures tU_ok 1 rfl ?_
  refine OJ.nil (EJ.next ?_)
  refine CJ.seq ?_
  refine CJ.region ?_
  refine OJ.pures tU_ok 4 rfl ?_
  refine OJ.nil (EJ.next ?_)
  refine CJ.seq ?_
  refine CJ.region ?_
  refine OJ.pures tU_ok 4 rfl ?_
  refine OJ.st rfl rfl rfl (SR.shr rfl rfl rfl (by decide)) ?_
  refine OJ.pures tU_ok 2 rfl ?_
  refine OJ.nil (EJ.next ?_)
  refine CJ.seq ?_
  refine CJ.region ?_
  refine OJ.pures tU_ok 3 rfl ?_
  refine OJ.nil (EJ.next ?_)
  refine CJ.seq ?_
  refine CJ.region ?_
  refine OJ.pures tU_ok 1 rfl ?_
  refine OJ.st rfl rfl rfl (SR.shr rfl rfl rfl (by decide)) ?_
  refine OJ.pures tU_ok 1 rfl ?_
  refine OJ.nil (EJ.next ?_)
  refine CJ.seq ?_
  refine CJ.region ?_
  refine OJ.pures tU_ok 6 rfl ?_
  refine OJ.nil (EJ.next ?_)
  refine CJ.seq ?_
  refine CJ.region ?_
  refine OJ.pures tU_ok 6 rfl ?_
  refine OJ.st rfl rfl rfl (SR.shr rfl rfl rfl (by decide)) ?_
  refine OJ.pures tU_ok 2 rfl ?_
  refine OJ.nil (EJ.next ?_)
  refine CJ.seq ?_
  refine CJ.region ?_
  refine OJ.pures tU_ok 4 rfl ?_
  refine OJ.nil (EJ.next ?_)
  refine CJ.ret (?_)
  obtain rfl := Option.some.inj H
  exact EJ.fin rfl (.tmp rfl (.tmp rfl .nil)) ⟨rfl, hS.ext⟩

def math_bits_Mul.f (a0 : Int) (a1 : Int) : Option (Int × Int) := (math_bits_Mul64.f a0 a1).bind fun t1 => some (t1.1, t1.2)
theorem math_bits_Mul.c (w : World) (a0 : Int) (a1 : Int) (r : Int × Int) (H : math_bits_Mul.f a0 a1 = some r) :
    CV Tryz.prog 71 [.int .u64 a0, .int .u64 a1].toArray w fun v w' => v = .tuple #[.int .u64 r.1, .int .u64 r.2] ∧ Ext w w' := by
  have hS := (St.init w no)
  unfold math_bits_Mul.f at H
  refine CV.body Tryz.func71 rfl Tryz.ntmps71 rfl ?_
  refine CJ.seq ?_
  refine CJ.region ?_
  refine OJ.pures tU_ok 2 rfl ?_
  refine OJ.nil (EJ.next ?_)
  refine CJ.seq ?_
  refine CJ.condF rfl ?_
  refine CJ.skip (EJ.next ?_)
  refine CJ.seq ?_
  refine CJ.region ?_
  refine OJ.pures tU_ok 2 rfl ?_
  obtain ⟨t1, ht1, H⟩ := pbind H
  refine OJ.callF rfl rfl rfl rfl rfl hb84 rfl (math_bits_Mul64.c _ a0 a1 _ ht1) ?_
  rintro _ w1 ⟨rfl, hs⟩
  replace hS := hS.grow hs
  refine OJ.pures tU_ok 5 rfl ?_
  refine OJ.nil (EJ.next ?_)
  refine CJ.seq ?_
  refine CJ.region ?_
  refine OJ.pures tU_ok 4 rfl ?_
  refine OJ.nil (EJ.next ?_)
  refine CJ.ret (?_)
  obtain rfl := Option.some.inj H
  exact EJ.fin rfl (.tmp rfl (.tmp rfl .nil)) ⟨rfl, hS.ext⟩

def slices_Repeat_int64_int64.l1 : Nat → (List Int) → Int → Option (List Int)
  | 0, _, _ => none
  | k + 1, y6, y7 => if y7 < (y6.length : Int) then ((chk ((0 : Int) ≤ y7 ∧ y7 ≤ (y6.length : Int) ∧ (y6.length : Int) ≤ (y6.length : Int))).bind fun u8 => (chk ((0 : Int) ≤ 0 ∧ 0 ≤ y7 ∧ y7 ≤ (y6.length : Int))).bind fun u9 => slices_Repeat_int64_int64.l1 k (cpy y6 y7.toNat (y6.length - y7.toNat) (y6.take y7.toNat)) (IntKind.i64.wrap (y7 + (cpyN (y6.length - y7.toNat) (y6.take y7.toNat) : Nat)))) else (some y6)
def slices_Repeat_int64_int64.f (k : Nat) (a0 : List Int) (a1 : Int) : Option (List Int) := if a1 < 0 then none else ((math_bits_Mul.f (IntKind.u64.wrap (a0.length : Int)) (IntKind.u64.wrap a1)).bind fun t1 => (if 0 < t1.1 then (some true) else (some (decide (9223372036854775807 < t1.2)))).bind fun y2 => if y2 = true then none else ((chk (0 ≤ (IntKind.i64.wrap t1.2) ∧ (IntKind.i64.wrap t1.2) ≤ 4294967296)).bind fun u3 => (slices_Repeat_int64_int64.l1 k (cpy (List.replicate ((IntKind.i64.wrap t1.2).toNat) 0 : List Int) 0 ((List.replicate ((IntKind.i64.wrap t1.2).toNat) 0 : List Int).length) a0) (cpyN ((List.replicate ((IntKind.i64.wrap t1.2).toNat) 0 : List Int).length) a0 : Nat)).bind fun y5 => some y5))
theorem slices_Repeat_int64_int64.c (k : Nat) (w : World) (Aa0 : Option Addr) (ca0 : Nat) (a0 : List Int) (hr0 : Rd (ci .i64) w Aa0 a0) (hc0 : a0.length ≤ ca0) (a1 : Int) (r : List Int) (H : slices_Repeat_int64_int64.f k a0 a1 = some r) :
    CV Tryz.prog 35 [.slice Aa0 a0.length ca0, .int .i64 a1].toArray w fun v w' => ∃ (A0 : Option Addr) (c0 : Nat), v = .slice A0 r.length c0 ∧ St w no w' [rowC (ci .i64) A0 c0 2 r] [] := by
  have hS := ((St.init w no).param (ci .i64) Aa0 ca0 a0 hr0 hc0)
  unfold slices_Repeat_int64_int64.f at H
  refine CV.body Tryz.func35 rfl Tryz.ntmps35 rfl ?_
  refine CJ.seq ?_
  refine CJ.region ?_
  refine OJ.pures tU_ok 1 rfl ?_
  refine OJ.nil (EJ.next ?_)
  refine CJ.seq ?_
  refine CJ.seq ?_
  refine CJ.region ?_
  refine OJ.pures tU_ok 2 rfl ?_
  refine OJ.nil (EJ.next ?_)
  refine CJ.cond rfl (fun hb => ?_) (fun hb => ?_)
  · replace H := pif_t (of_decide_eq_true hb) H
    cases H
  · replace H := pif_f (of_decide_eq_false hb) H
    refine CJ.skip (EJ.next ?_)
    refine CJ.seq ?_
    refine CJ.region ?_
    refine OJ.pures tU_ok 5 rfl ?_
    obtain ⟨t1, ht1, H⟩ := pbind H
    refine OJ.callF rfl rfl rfl rfl rfl hb71 rfl (math_bits_Mul.c _ (IntKind.u64.wrap (a0.length : Int)) (IntKind.u64.wrap a1) _ ht1) ?_
    rintro _ w1 ⟨rfl, hs⟩
    replace hS := hS.grow hs
    refine OJ.pures tU_ok 5 rfl ?_
    refine OJ.nil (EJ.next ?_)
    refine CJ.seq ?_
    obtain ⟨j87, H, K87⟩ := pbind H
    refine CJ.cut (fun F w1 => ∃ (y2 : Bool) , (some y2 : Option Bool) = some j87 ∧ F = [(0, .slice Aa0 a0.length ca0), (6, .int .u64 t1.2), (26, .bool y2)] ∧ St w no w1 [] [roC (ci .i64) Aa0 ca0 a0]) ?_ ?_
    · skip
      refine CJ.region ?_
      refine OJ.pures tU_ok 3 rfl ?_
      refine OJ.split (t := 23) rfl (fun hb => ?_) (fun hb => ?_)
      · replace H := pif_t (of_decide_eq_true hb) H
        refine OJ.pures tU_ok 3 rfl ?_
        refine OJ.nil ?_
        exact EJ.meet (F' := [(0, .slice Aa0 a0.length ca0), (6, .int .u64 t1.2), (26, .bool true)]) ⟨rfl, rfl, rfl, trivial⟩ ⟨true, H, rfl, hS.pick [] [0] rfl⟩
      · replace H := pif_f (of_decide_eq_false hb) H
        refine OJ.pures tU_ok 3 rfl ?_
        refine OJ.nil ?_
        exact EJ.meet (F' := [(0, .slice Aa0 a0.length ca0), (6, .int .u64 t1.2), (26, .bool (decide (9223372036854775807 < t1.2)))]) ⟨rfl, rfl, rfl, trivial⟩ ⟨(decide (9223372036854775807 < t1.2)), H, rfl, hS.pick [] [0] rfl⟩
    · rintro F w1 ⟨y2, he, rfl, hS⟩
      obtain rfl := Option.some.inj he
      have H := K87
      refine CJ.cond rfl (fun hb => ?_) (fun hb => ?_)
      · replace H := pif_t hb H
        cases H
      · replace H := pifb_f hb H
        refine CJ.skip (EJ.next ?_)
        refine CJ.seq ?_
        refine CJ.region ?_
        refine OJ.pures tU_ok 2 rfl ?_
        obtain ⟨u3, hu3, H⟩ := pbind H
        refine OJ.ef rfl rfl rfl (Ef.make tU_ok tI_ok hS (C := (ci .i64)) rfl rfl rfl rfl rfl rfl rfl rfl (chk_some hu3) 0 rfl) ?_
        rintro _ w1 ⟨A4, rfl, hS⟩
        refine OJ.pures tU_ok 1 rfl ?_
        refine OJ.nil (EJ.next ?_)
        refine CJ.seq ?_
        refine CJ.region ?_
        refine OJ.pures tU_ok 2 rfl ?_
        refine OJ.ew rfl rfl rfl (Ew.copy tU_ok tI_ok (C := (ci .i64)) (lo := 0) (n1 := (List.replicate ((IntKind.i64.wrap t1.2).toNat) 0 : List Int).length) (ys := a0) hS (i := 0) rfl rfl rfl rfl rfl rfl rfl rfl rfl rfl (by omega) (fun g h0 hA => hA) rfl rfl (hS.rd' (i := 0) rfl)) ?_
        rintro _ w1 ⟨rfl, hS⟩
        refine OJ.as (t := 30) rfl (show _ = (.slice A4 (cpy (List.replicate ((IntKind.i64.wrap t1.2).toNat) 0 : List Int) 0 ((List.replicate ((IntKind.i64.wrap t1.2).toNat) 0 : List Int).length) a0).length ((IntKind.i64.wrap t1.2).toNat) : Value) by rw [cpy_len (by omega)]) ?_
        refine OJ.as (t := 7) rfl (show _ = (.slice A4 (cpy (List.replicate ((IntKind.i64.wrap t1.2).toNat) 0 : List Int) 0 ((List.replicate ((IntKind.i64.wrap t1.2).toNat) 0 : List Int).length) a0).length ((IntKind.i64.wrap t1.2).toNat) : Value) by rw [cpy_len (by omega)]) ?_
        refine OJ.as (t := 31) rfl (show _ = (.slice A4 (cpy (List.replicate ((IntKind.i64.wrap t1.2).toNat) 0 : List Int) 0 ((List.replicate ((IntKind.i64.wrap t1.2).toNat) 0 : List Int).length) a0).length ((IntKind.i64.wrap t1.2).toNat) : Value) by rw [cpy_len (by omega)]) ?_
        refine OJ.pures tU_ok 1 rfl ?_
        refine OJ.nil (EJ.next ?_)
        obtain ⟨j88, H, K88⟩ := pbind H
        refine CJ.cut (fun F w1 => ∃ (y5 : List Int) , (some y5 : Option (List Int)) = some j88 ∧ F = [(7, .slice A4 y5.length ((IntKind.i64.wrap t1.2).toNat))] ∧ St w no w1 [rowC (ci .i64) A4 ((IntKind.i64.wrap t1.2).toNat) 2 y5] [roC (ci .i64) Aa0 ca0 a0]) ?_ ?_
        · skip
          refine CJ.block ?_
          refine CJ.loop (fun k F w1 => ∃ (y6 : List Int) (y7 : Int), F = [(7, .slice A4 y6.length ((IntKind.i64.wrap t1.2).toNat)), (8, .int .i64 y7)] ∧ St w no w1 [rowC (ci .i64) A4 ((IntKind.i64.wrap t1.2).toNat) 2 y6] [roC (ci .i64) Aa0 ca0 a0] ∧ slices_Repeat_int64_int64.l1 k y6 y7 = some j88) k (F' := [(7, .slice A4 (cpy (List.replicate ((IntKind.i64.wrap t1.2).toNat) 0 : List Int) 0 ((List.replicate ((IntKind.i64.wrap t1.2).toNat) 0 : List Int).length) a0).length ((IntKind.i64.wrap t1.2).toNat)), (8, .int .i64 (cpyN ((List.replicate ((IntKind.i64.wrap t1.2).toNat) 0 : List Int).length) a0 : Nat))]) ⟨rfl, rfl, trivial⟩ ⟨(cpy (List.replicate ((IntKind.i64.wrap t1.2).toNat) 0 : List Int) 0 ((List.replicate ((IntKind.i64.wrap t1.2).toNat) 0 : List Int).length) a0), (cpyN ((List.replicate ((IntKind.i64.wrap t1.2).toNat) 0 : List Int).length) a0 : Nat), rfl, hS.pick [0] [0] rfl, H⟩ ?_
          rintro k F w1 ⟨y6, y7, rfl, hS, H⟩
          cases k with
          | zero => rw [slices_Repeat_int64_int64.l1] at H; cases H
          | succ k =>
            rw [slices_Repeat_int64_int64.l1] at H
            refine CJ.seq ?_
            refine CJ.seq ?_
            refine CJ.region ?_
            refine OJ.pures tU_ok 4 rfl ?_
            refine OJ.nil (EJ.next ?_)
            refine CJ.cond rfl (fun hb => ?_) (fun hb => ?_)
            · replace H := pif_t (of_decide_eq_true hb) H
              refine CJ.skip (EJ.next ?_)
              refine CJ.block ?_
              obtain ⟨u8, hu8, H⟩ := pbind H
              obtain ⟨u9, hu9, H⟩ := pbind H
              refine CJ.cut1 (fun F w1 => F = [(7, .slice A4 (cpy y6 y7.toNat (y6.length - y7.toNat) (y6.take y7.toNat)).length ((IntKind.i64.wrap t1.2).toNat)), (8, .int .i64 (IntKind.i64.wrap (y7 + (cpyN (y6.length - y7.toNat) (y6.take y7.toNat) : Nat))))] ∧ St w no w1 [rowC (ci .i64) A4 ((IntKind.i64.wrap t1.2).toNat) 2 (cpy y6 y7.toNat (y6.length - y7.toNat) (y6.take y7.toNat))] [roC (ci .i64) Aa0 ca0 a0]) ?_ ?_
              · skip
                refine CJ.drawT [] [3, 6, 7] (.one 0 (.one 1 (.one 2 (.one 4 (.one 5 (.br (.alt 3 (.one 6 (.one 7 (.one 8 (.one 9 (.fin))))) (.alt 6 (.one 3 (.one 7 (.one 8 (.one 9 (.fin))))) (.stop))))))))) mixed (by kernel_rfl) hS [] fun w1 hS hY hV => ?_
                refine TJ.pures tU_ok 5 rfl ?_
                refine TJ.br ?_
                refine TJ.alt ?_ ?_
                · skip
                  refine TJ.se hY rfl rfl rfl rfl rfl (SR.cutS tU_ok tI_ok (y7.toNat) (y6.length) rfl rfl rfl rfl rfl rfl (.inr ⟨_, _, rfl, (chk_some hu8).1, rfl⟩) (.inl ⟨rfl, rfl⟩) (by have := (chk_some hu8); omega) (by have := (chk_some hu8); have := (hS.le (i := 0) rfl : y6.length ≤ ((IntKind.i64.wrap t1.2).toNat)); omega)) ?_
                  refine TJ.se hY rfl rfl rfl rfl rfl (SR.cut0 tU_ok tI_ok rfl rfl rfl rfl rfl (by have := (chk_some hu9); omega) (by have := (chk_some hu9); have := (hS.le (i := 0) rfl : y6.length ≤ ((IntKind.i64.wrap t1.2).toNat)); omega)) ?_
                  have hO := hS
                  refine TJ.ew rfl rfl rfl rfl rfl (Ew.copy tU_ok tI_ok (C := (ci .i64)) (lo := y7.toNat) (n1 := (y6.length - y7.toNat)) (ys := (y6.take y7.toNat)) (hS.inn []) (i := 0) rfl rfl rfl rfl rfl rfl rfl rfl rfl rfl (by have := (by have := (chk_some hu8); omega); omega) (fun g h0 hA => cutA_at (hS.le (i := 0) rfl) h0 hA) rfl (by rw [List.length_take]; have := (by have := (chk_some hu9); omega); omega) ((hS.rd (i := 0) rfl).take y7.toNat)) (by rintro _ w1 ⟨rfl, hS⟩; exact hY.wr (hO.inY [] 1 rfl rfl) hS.chg) ?_
                  rintro _ w1 hY ⟨rfl, hS⟩
                  refine TJ.as (t := 7) rfl (show _ = (.slice A4 (cpy y6 y7.toNat (y6.length - y7.toNat) (y6.take y7.toNat)).length ((IntKind.i64.wrap t1.2).toNat) : Value) by rw [cpy_len (by have := (by have := (chk_some hu8); omega); omega)]) ?_
                  refine TJ.as (t := 35) rfl (show _ = (.slice A4 (cpy y6 y7.toNat (y6.length - y7.toNat) (y6.take y7.toNat)).length ((IntKind.i64.wrap t1.2).toNat) : Value) by rw [cpy_len (by have := (by have := (chk_some hu8); omega); omega)]) ?_
                  refine TJ.as (t := 39) rfl (show _ = (.slice A4 (cpy y6 y7.toNat (y6.length - y7.toNat) (y6.take y7.toNat)).length ((IntKind.i64.wrap t1.2).toNat) : Value) by rw [cpy_len (by have := (by have := (chk_some hu8); omega); omega)]) ?_
                  refine TJ.as (t := 42) rfl (show _ = (.slice A4 (cpy y6 y7.toNat (y6.length - y7.toNat) (y6.take y7.toNat)).length ((IntKind.i64.wrap t1.2).toNat) : Value) by rw [cpy_len (by have := (by have := (chk_some hu8); omega); omega)]) ?_
                  have hS : St w no w1 [rowC (ci .i64) A4 ((IntKind.i64.wrap t1.2).toNat) 2 (cpy y6 y7.toNat (y6.length - y7.toNat) (y6.take y7.toNat))] [roC (ci .i64) Aa0 ca0 a0] := hO.out [] hS
                  refine TJ.pures tU_ok 2 rfl ?_
                  refine TJ.nil ?_
                  exact EJ.meet (F' := [(7, .slice A4 (cpy y6 y7.toNat (y6.length - y7.toNat) (y6.take y7.toNat)).length ((IntKind.i64.wrap t1.2).toNat)), (8, .int .i64 (IntKind.i64.wrap (y7 + (cpyN (y6.length - y7.toNat) (y6.take y7.toNat) : Nat))))]) ⟨rfl, rfl, trivial⟩ ⟨rfl, hS.pick [0] [0] rfl⟩
                refine TJ.alt ?_ ?_
                · skip
                  refine TJ.se hY rfl rfl rfl rfl rfl (SR.cut0 tU_ok tI_ok rfl rfl rfl rfl rfl (by have := (chk_some hu9); omega) (by have := (chk_some hu9); have := (hS.le (i := 0) rfl : y6.length ≤ ((IntKind.i64.wrap t1.2).toNat)); omega)) ?_
                  refine TJ.se hY rfl rfl rfl rfl rfl (SR.cutS tU_ok tI_ok (y7.toNat) (y6.length) rfl rfl rfl rfl rfl rfl (.inr ⟨_, _, rfl, (chk_some hu8).1, rfl⟩) (.inl ⟨rfl, rfl⟩) (by have := (chk_some hu8); omega) (by have := (chk_some hu8); have := (hS.le (i := 0) rfl : y6.length ≤ ((IntKind.i64.wrap t1.2).toNat)); omega)) ?_
                  have hO := hS
                  refine TJ.ew rfl rfl rfl rfl rfl (Ew.copy tU_ok tI_ok (C := (ci .i64)) (lo := y7.toNat) (n1 := (y6.length - y7.toNat)) (ys := (y6.take y7.toNat)) (hS.inn []) (i := 0) rfl rfl rfl rfl rfl rfl rfl rfl rfl rfl (by have := (by have := (chk_some hu8); omega); omega) (fun g h0 hA => cutA_at (hS.le (i := 0) rfl) h0 hA) rfl (by rw [List.length_take]; have := (by have := (chk_some hu9); omega); omega) ((hS.rd (i := 0) rfl).take y7.toNat)) (by rintro _ w1 ⟨rfl, hS⟩; exact hY.wr (hO.inY [] 1 rfl rfl) hS.chg) ?_
                  rintro _ w1 hY ⟨rfl, hS⟩
                  refine TJ.as (t := 7) rfl (show _ = (.slice A4 (cpy y6 y7.toNat (y6.length - y7.toNat) (y6.take y7.toNat)).length ((IntKind.i64.wrap t1.2).toNat) : Value) by rw [cpy_len (by have := (by have := (chk_some hu8); omega); omega)]) ?_
                  refine TJ.as (t := 35) rfl (show _ = (.slice A4 (cpy y6 y7.toNat (y6.length - y7.toNat) (y6.take y7.toNat)).length ((IntKind.i64.wrap t1.2).toNat) : Value) by rw [cpy_len (by have := (by have := (chk_some hu8); omega); omega)]) ?_
                  refine TJ.as (t := 39) rfl (show _ = (.slice A4 (cpy y6 y7.toNat (y6.length - y7.toNat) (y6.take y7.toNat)).length ((IntKind.i64.wrap t1.2).toNat) : Value) by rw [cpy_len (by have := (by have := (chk_some hu8); omega); omega)]) ?_
                  refine TJ.as (t := 42) rfl (show _ = (.slice A4 (cpy y6 y7.toNat (y6.length - y7.toNat) (y6.take y7.toNat)).length ((IntKind.i64.wrap t1.2).toNat) : Value) by rw [cpy_len (by have := (by have := (chk_some hu8); omega); omega)]) ?_
                  have hS : St w no w1 [rowC (ci .i64) A4 ((IntKind.i64.wrap t1.2).toNat) 2 (cpy y6 y7.toNat (y6.length - y7.toNat) (y6.take y7.toNat))] [roC (ci .i64) Aa0 ca0 a0] := hO.out [] hS
                  refine TJ.pures tU_ok 2 rfl ?_
                  refine TJ.nil ?_
                  exact EJ.meet (F' := [(7, .slice A4 (cpy y6 y7.toNat (y6.length - y7.toNat) (y6.take y7.toNat)).length ((IntKind.i64.wrap t1.2).toNat)), (8, .int .i64 (IntKind.i64.wrap (y7 + (cpyN (y6.length - y7.toNat) (y6.take y7.toNat) : Nat))))]) ⟨rfl, rfl, trivial⟩ ⟨rfl, hS.pick [0] [0] rfl⟩
                exact TJ.stop
              · rintro F w1 ⟨rfl, hS⟩
                refine EJ.blk (?_)
                exact EJ.round k (F' := [(7, .slice A4 (cpy y6 y7.toNat (y6.length - y7.toNat) (y6.take y7.toNat)).length ((IntKind.i64.wrap t1.2).toNat)), (8, .int .i64 (IntKind.i64.wrap (y7 + (cpyN (y6.length - y7.toNat) (y6.take y7.toNat) : Nat))))]) ⟨rfl, rfl, trivial⟩ (Nat.lt_succ_self _) ⟨(cpy y6 y7.toNat (y6.length - y7.toNat) (y6.take y7.toNat)), (IntKind.i64.wrap (y7 + (cpyN (y6.length - y7.toNat) (y6.take y7.toNat) : Nat))), rfl, hS.pick [0] [0] rfl, H⟩
            · replace H := pif_f (of_decide_eq_false hb) H
              refine CJ.exit (EJ.skE (EJ.skE (EJ.hit (?_))))
              exact EJ.meet (F' := [(7, .slice A4 y6.length ((IntKind.i64.wrap t1.2).toNat))]) ⟨rfl, trivial⟩ ⟨y6, H, rfl, hS.pick [0] [0] rfl⟩
        · rintro F w1 ⟨y5, he, rfl, hS⟩
          obtain rfl := Option.some.inj he
          have H := K88
          refine CJ.seq ?_
          refine CJ.region ?_
          refine OJ.pures tU_ok 2 rfl ?_
          refine OJ.nil (EJ.next ?_)
          refine CJ.ret (?_)
          obtain rfl := Option.some.inj H
          exact EJ.fin rfl (.tmp rfl .nil) ⟨A4, ((IntKind.i64.wrap t1.2).toNat), rfl, hS.pick [0] [] rfl⟩

def impl_GreedyGroups_1.f (a1 : List Int) (a2 : Int) (a0 : Int) : Option Bool := (getI a1 a0).bind fun t1 => some (decide (t1 = a2))
theorem impl_GreedyGroups_1.c (w : World) (Aa1 : Option Addr) (ca1 : Nat) (a1 : List Int) (hr1 : Rd (ci .i64) w Aa1 a1) (hc1 : a1.length ≤ ca1) (pa1 : Addr) (hp1 : CA w pa1 [.slice Aa1 a1.length ca1]) (pa2 : Addr) (a2 : Int) (hp2 : CA w pa2 ((ci .i64).enc a2)) (a0 : Int) (r : Bool) (H : impl_GreedyGroups_1.f a1 a2 a0 = some r) :
    CV Tryz.prog 38 [.int .i64 a0, .pointer (some pa1), .pointer (some pa2)].toArray w fun v w' => v = .bool r ∧ Ext w w' := by
  have hS := ((((St.init w no).param (ci .i64) Aa1 ca1 a1 hr1 hc1).paramP pa1 [.slice Aa1 a1.length ca1] hp1).paramP pa2 ((ci .i64).enc a2) hp2)
  unfold impl_GreedyGroups_1.f at H
  refine CV.body Tryz.func38 rfl Tryz.ntmps38 rfl ?_
  refine CJ.seq ?_
  refine CJ.region ?_
  refine OJ.pures tU_ok 1 rfl ?_
  refine OJ.nil (EJ.next ?_)
  refine CJ.seq ?_
  refine CJ.draw [] [0, 1, 2, 3, 4, 5, 6] mixed (by kernel_rfl) hS fun w1 hS => ?_
  refine DJ.st rfl rfl rfl rfl rfl (SR.load rfl rfl (fun w' hx => ld1 tU_ok rfl rfl (CA.ext (hS.ca (i := 1) rfl) hx) rfl)) ?_
  refine DJ.pures tU_ok 1 rfl ?_
  obtain ⟨t1, ht1, H⟩ := pbind H
  obtain ⟨ad1, e1⟩ := (hS.rd' (i := 0) rfl).some' ht1
  refine DJ.st rfl rfl rfl rfl rfl (SR.idxS tU_ok tI_ok rfl rfl rfl rfl e1 rfl (getI_some ht1).1) ?_
  refine DJ.st rfl rfl rfl rfl rfl (SR.load rfl rfl (fun w' hx => ld1 tU_ok rfl rfl (CA.ext ((hS.rd' (i := 0) rfl).at_ e1 ht1) hx) rfl)) ?_
  refine DJ.st rfl rfl rfl rfl rfl (SR.load rfl rfl (fun w' hx => ld1 tU_ok rfl rfl (CA.ext (hS.ca (i := 2) rfl) hx) rfl)) ?_
  refine DJ.pures tU_ok 2 rfl ?_
  refine DJ.nil (EJ.next ?_)
  refine CJ.ret (?_)
  obtain rfl := Option.some.inj H
  exact EJ.fin rfl (.tmp rfl .nil) ⟨rfl, hS.ext⟩

def impl_GreedyGroups.l2 (a0 : Herd) (y14 : List Int) (t17 : Int) : Nat → Int → Option Int
  | 0, _ => none
  | k + 1, y20 => (getI a0.Foes t17).bind fun t21 => (impl_listed.f k t21).bind fun t22 => (slices_ContainsFunc_int64_int64.f k t22 (impl_GreedyGroups_1.f y14 y20)).bind fun t25 => if t25 = true then (impl_GreedyGroups.l2 a0 y14 t17 k (IntKind.i64.wrap (y20 + 1))) else (some y20)
def impl_GreedyGroups.l1 (a0 : Herd) (a1 : List Int) : Nat → (List Int) → Int → Option (List Int)
  | 0, _, _ => none
  | k + 1, y14, y15 => if y15 < (a1.length : Int) then (((getI a1 y15).bind fun t17 => (impl_GreedyGroups.l2 a0 y14 t17 k 0).bind fun y19 => (getI y14 t17).bind fun t26 => some (y14.set t17.toNat y19)).bind fun y16 => impl_GreedyGroups.l1 a0 a1 k y16 (IntKind.i64.wrap (y15 + 1))) else (some y14)
def impl_GreedyGroups.f (k : Nat) (a0 : Herd) (a1 : List Int) : Option (List Int × Int) := (impl_ValidHerd.f k a0).bind fun t2 => if (!t2) = true then (some ([], 1)) else (((impl_size_int64.f a1).bind fun t4 => (impl_Herd_many.f a0).bind fun t5 => if t4 ≠ t5 then (some true) else ((impl_isEach.f a1).bind fun t6 => if (!t6) = true then (some true) else ((impl_herdCode.f k a0 a1).bind fun t7 => some (decide (t7 ≠ 0))))).bind fun y3 => if y3 = true then (some ([], 4)) else ((slices_Repeat_int64_int64.f k ([(-1)] : List Int) (a1.length : Int)).bind fun t9 => (impl_GreedyGroups.l1 a0 a1 k t9 0).bind fun y13 => some (y13, 0)))
theorem impl_GreedyGroups.c (k : Nat) (w : World) (Aa0_0 : Option Addr) (ca0_0 : Nat) (Aa0_1 : Option Addr) (ca0_1 : Nat) (Aa0_2 : Option Addr) (ca0_2 : Nat) (a0 : Herd) (hr0_0 : Rd G.cs w Aa0_0 a0.Names) (hc0_0 : a0.Names.length ≤ ca0_0) (hr0_1 : Rd (ci .i16) w Aa0_1 a0.Eats) (hc0_1 : a0.Eats.length ≤ ca0_1) (hr0_2 : Rd (ci .u16) w Aa0_2 a0.Foes) (hc0_2 : a0.Foes.length ≤ ca0_2) (Aa1 : Option Addr) (ca1 : Nat) (a1 : List Int) (hr1 : Rd (ci .i64) w Aa1 a1) (hc1 : a1.length ≤ ca1) (r : List Int × Int) (H : impl_GreedyGroups.f k a0 a1 = some r) :
    CV Tryz.prog 9 [.agg [.slice Aa0_0 a0.Names.length ca0_0, .slice Aa0_1 a0.Eats.length ca0_1, .slice Aa0_2 a0.Foes.length ca0_2].toArray, .slice Aa1 a1.length ca1].toArray w fun v w' => ∃ (A0 : Option Addr) (c0 : Nat), v = .tuple #[.slice A0 r.1.length c0, .int .i64 r.2] ∧ St w no w' [rowC (ci .i64) A0 c0 2 r.1] [] := by
  have hS := (((((St.init w no).param G.cs Aa0_0 ca0_0 a0.Names hr0_0 hc0_0).param (ci .i16) Aa0_1 ca0_1 a0.Eats hr0_1 hc0_1).param (ci .u16) Aa0_2 ca0_2 a0.Foes hr0_2 hc0_2).param (ci .i64) Aa1 ca1 a1 hr1 hc1)
  unfold impl_GreedyGroups.f at H
  refine CV.body Tryz.func9 rfl Tryz.ntmps9 rfl ?_
  refine CJ.seq ?_
  refine CJ.region ?_
  refine OJ.ef rfl rfl rfl (Ef.box hS rfl rfl ([.slice Aa0_0 a0.Names.length ca0_0, .slice Aa0_1 a0.Eats.length ca0_1, .slice Aa0_2 a0.Foes.length ca0_2]) rfl) ?_
  rintro _ w1 ⟨b1, rfl, hS⟩
  refine OJ.pures tU_ok 2 rfl ?_
  refine OJ.nil (EJ.next ?_)
  refine CJ.seq ?_
  refine CJ.seq ?_
  refine CJ.region ?_
  refine OJ.st rfl rfl rfl (SR.load rfl rfl (fun w' hx => ldN tU_ok tI_ok rfl rfl rfl (CA.ext (hS.cells (i := 0) rfl) hx) (ds := [.slice Aa0_0 a0.Names.length ca0_0, .slice Aa0_1 a0.Eats.length ca0_1, .slice Aa0_2 a0.Foes.length ca0_2]) rfl rfl)) ?_
  obtain ⟨t2, ht2, H⟩ := pbind H
  refine OJ.callF rfl rfl rfl rfl rfl hb27 rfl (impl_ValidHerd.c k _ Aa0_0 ca0_0 Aa0_1 ca0_1 Aa0_2 ca0_2 a0 (hS.rd' (i := 0) rfl) (hS.le' (i := 0) rfl) (hS.rd' (i := 1) rfl) (hS.le' (i := 1) rfl) (hS.rd' (i := 2) rfl) (hS.le' (i := 2) rfl) _ ht2) ?_
  rintro _ w1 ⟨rfl, hs⟩
  replace hS := hS.grow hs
  refine OJ.pures tU_ok 1 rfl ?_
  refine OJ.nil (EJ.next ?_)
  refine CJ.cond rfl (fun hb => ?_) (fun hb => ?_)
  · replace H := pif_t hb H
    refine CJ.seq ?_
    refine CJ.region ?_
    refine OJ.pures tU_ok 2 rfl ?_
    refine OJ.nil (EJ.next ?_)
    refine CJ.ret (EJ.skR (?_))
    replace hS := hS.addNil (ci .i64) 2 none
    obtain rfl := Option.some.inj H
    exact EJ.fin rfl (.tmp rfl (.tmp rfl .nil)) ⟨none, 0, rfl, hS.pick [1] [] rfl⟩
  · replace H := pifb_f hb H
    refine CJ.skip (EJ.next ?_)
    refine CJ.seq ?_
    obtain ⟨j86, H, K86⟩ := pbind H
    refine CJ.cut (fun F w1 => ∃ (y3 : Bool) , (some y3 : Option Bool) = some j86 ∧ F = [(1, .slice Aa1 a1.length ca1), (2, .pointer (some ⟨b1, 0, none⟩)), (28, .bool y3)] ∧ St w no w1 [box b1 ([.slice Aa0_0 a0.Names.length ca0_0, .slice Aa0_1 a0.Eats.length ca0_1, .slice Aa0_2 a0.Foes.length ca0_2]) 28] [roC G.cs Aa0_0 ca0_0 a0.Names, roC (ci .i16) Aa0_1 ca0_1 a0.Eats, roC (ci .u16) Aa0_2 ca0_2 a0.Foes, roC (ci .i64) Aa1 ca1 a1]) ?_ ?_
    · skip
      refine CJ.draw [] [0, 2, 1, 3, 4, 5, 6, 7, 8, 9, 10, 11, 12, 13, 14, 15] mixed (by kernel_rfl) hS fun w1 hS => ?_
      refine DJ.pures tU_ok 1 rfl ?_
      refine DJ.st rfl rfl rfl rfl rfl (SR.load rfl rfl (fun w' hx => ldN tU_ok tI_ok rfl rfl rfl (CA.ext (hS.cells (i := 0) rfl) hx) (ds := [.slice Aa0_0 a0.Names.length ca0_0, .slice Aa0_1 a0.Eats.length ca0_1, .slice Aa0_2 a0.Foes.length ca0_2]) rfl rfl)) ?_
      obtain ⟨t4, ht4, H⟩ := pbind H
      refine DJ.callF rfl rfl rfl rfl rfl rfl rfl hb31 rfl (impl_size_int64.c _ Aa1 ca1 a1 (hS.rd' (i := 3) rfl) (hS.le' (i := 3) rfl) _ ht4) (by rintro v w' ⟨rfl, hs⟩; exact hs) ?_
      rintro _ w1 ⟨rfl, hs⟩
      replace hS := hS.grow hs
      obtain ⟨t5, ht5, H⟩ := pbind H
      refine DJ.callF rfl rfl rfl rfl rfl rfl rfl hb32 rfl (impl_Herd_many.c _ Aa0_0 ca0_0 Aa0_1 ca0_1 Aa0_2 ca0_2 a0 (hS.rd' (i := 0) rfl) (hS.le' (i := 0) rfl) (hS.rd' (i := 1) rfl) (hS.le' (i := 1) rfl) (hS.rd' (i := 2) rfl) (hS.le' (i := 2) rfl) _ ht5) (by rintro v w' ⟨rfl, hs⟩; exact hs) ?_
      rintro _ w1 ⟨rfl, hs⟩
      replace hS := hS.grow hs
      refine DJ.pures tU_ok 2 rfl ?_
      refine DJ.split (t := 18) rfl (fun hb => ?_) (fun hb => ?_)
      · replace H := pif_t (of_decide_eq_true hb) H
        refine DJ.pures tU_ok 10 rfl ?_
        refine DJ.nil ?_
        exact EJ.meet (F' := [(1, .slice Aa1 a1.length ca1), (2, .pointer (some ⟨b1, 0, none⟩)), (28, .bool true)]) ⟨rfl, rfl, rfl, trivial⟩ ⟨true, H, rfl, hS.pick [0] [0, 1, 2, 3] rfl⟩
      · replace H := pif_f (of_decide_eq_false hb) H
        refine DJ.pures tU_ok 1 rfl ?_
        obtain ⟨t6, ht6, H⟩ := pbind H
        refine DJ.callF rfl rfl rfl rfl rfl rfl rfl hb33 rfl (impl_isEach.c _ Aa1 ca1 a1 (hS.rd' (i := 3) rfl) (hS.le' (i := 3) rfl) _ ht6) (by rintro v w' ⟨rfl, hs⟩; exact hs) ?_
        rintro _ w1 ⟨rfl, hs⟩
        replace hS := hS.grow hs
        refine DJ.pures tU_ok 3 rfl ?_
        refine DJ.split (t := 23) rfl (fun hb => ?_) (fun hb => ?_)
        · replace H := pif_t hb H
          refine DJ.pures tU_ok 5 rfl ?_
          refine DJ.nil ?_
          exact EJ.meet (F' := [(1, .slice Aa1 a1.length ca1), (2, .pointer (some ⟨b1, 0, none⟩)), (28, .bool true)]) ⟨rfl, rfl, rfl, trivial⟩ ⟨true, H, rfl, hS.pick [0] [0, 1, 2, 3] rfl⟩
        · replace H := pifb_f hb H
          refine DJ.st rfl rfl rfl rfl rfl (SR.load rfl rfl (fun w' hx => ldN tU_ok tI_ok rfl rfl rfl (CA.ext (hS.cells (i := 0) rfl) hx) (ds := [.slice Aa0_0 a0.Names.length ca0_0, .slice Aa0_1 a0.Eats.length ca0_1, .slice Aa0_2 a0.Foes.length ca0_2]) rfl rfl)) ?_
          refine DJ.pures tU_ok 1 rfl ?_
          obtain ⟨t7, ht7, H⟩ := pbind H
          refine DJ.callF rfl rfl rfl rfl rfl rfl rfl hb34 rfl (impl_herdCode.c k _ Aa0_0 ca0_0 Aa0_1 ca0_1 Aa0_2 ca0_2 a0 (hS.rd' (i := 0) rfl) (hS.le' (i := 0) rfl) (hS.rd' (i := 1) rfl) (hS.le' (i := 1) rfl) (hS.rd' (i := 2) rfl) (hS.le' (i := 2) rfl) Aa1 ca1 a1 (hS.rd' (i := 3) rfl) (hS.le' (i := 3) rfl) _ ht7) (by rintro v w' ⟨rfl, hs⟩; exact hs) ?_
          rintro _ w1 ⟨rfl, hs⟩
          replace hS := hS.grow hs
          refine DJ.pures tU_ok 2 rfl ?_
          refine DJ.nil ?_
          exact EJ.meet (F' := [(1, .slice Aa1 a1.length ca1), (2, .pointer (some ⟨b1, 0, none⟩)), (28, .bool (decide (t7 ≠ 0)))]) ⟨rfl, rfl, rfl, trivial⟩ ⟨(decide (t7 ≠ 0)), H, rfl, hS.pick [0] [0, 1, 2, 3] rfl⟩
    · rintro F w1 ⟨y3, he, rfl, hS⟩
      obtain rfl := Option.some.inj he
      have H := K86
      refine CJ.cond rfl (fun hb => ?_) (fun hb => ?_)
      · replace H := pif_t hb H
        refine CJ.seq ?_
        refine CJ.region ?_
        refine OJ.pures tU_ok 2 rfl ?_
        refine OJ.nil (EJ.next ?_)
        refine CJ.ret (EJ.skR (?_))
        replace hS := hS.addNil (ci .i64) 2 none
        obtain rfl := Option.some.inj H
        exact EJ.fin rfl (.tmp rfl (.tmp rfl .nil)) ⟨none, 0, rfl, hS.pick [1] [] rfl⟩
      · replace H := pifb_f hb H
        refine CJ.skip (EJ.next ?_)
        refine CJ.seq ?_
        refine CJ.region ?_
        refine OJ.ef rfl rfl rfl (Ef.lit tU_ok tI_ok hS (C := (ci .i64)) rfl rfl rfl rfl rfl rfl ([(-1)] : List Int) rfl rfl rfl rfl) ?_
        rintro _ w1 ⟨A8, rfl, hS⟩
        refine OJ.pures tU_ok 2 rfl ?_
        obtain ⟨t9, ht9, H⟩ := pbind H
        refine OJ.callF rfl rfl rfl rfl rfl hb35 rfl (slices_Repeat_int64_int64.c k _ A8 (([(-1)] : List Int).length) ([(-1)] : List Int) (hS.rd (i := 1) rfl) (hS.le (i := 1) rfl) (a1.length : Int) _ ht9) ?_
        rintro _ w1 ⟨A10, c11, rfl, hs⟩
        replace hS := hS.addN hs
        refine OJ.ef rfl rfl rfl (Ef.alloc hS tI_ok rfl rfl ([.slice none 0 0]) rfl) ?_
        rintro _ w1 ⟨b12, rfl, hS⟩
        refine OJ.es rfl rfl (Es.store tI_ok hS (i := 3) (vs := [.slice A10 t9.length c11]) rfl rfl rfl rfl rfl rfl rfl rfl (one1 rfl) (Nat.le_of_ble_eq_true rfl) ([.slice A10 t9.length c11]) rfl) ?_
        intro w1 hS
        refine OJ.nil (EJ.next ?_)
        refine CJ.seq ?_
        refine CJ.seq ?_
        refine CJ.region ?_
        refine OJ.pures tU_ok 3 rfl ?_
        refine OJ.nil (EJ.next ?_)
        obtain ⟨j89, H, K89⟩ := pbind H
        refine CJ.cut1 (fun F w1 => ∃ (y13 : List Int) , (some y13 : Option (List Int)) = some j89 ∧ F = [(6, .pointer (some ⟨b12, 0, none⟩))] ∧ St w no w1 [rowC (ci .i64) A10 c11 2 y13, box b12 ([.slice A10 y13.length c11]) 30] [roC G.cs Aa0_0 ca0_0 a0.Names, roC (ci .i16) Aa0_1 ca0_1 a0.Eats, roC (ci .u16) Aa0_2 ca0_2 a0.Foes, roC (ci .i64) Aa1 ca1 a1]) ?_ ?_
        · skip
          refine CJ.block ?_
          refine CJ.loop (fun k F w1 => ∃ (y14 : List Int) (y15 : Int), F = [(2, .pointer (some ⟨b1, 0, none⟩)), (6, .pointer (some ⟨b12, 0, none⟩)), (33, .slice Aa1 a1.length ca1), (34, .int .i64 (a1.length : Int)), (35, .int .i64 y15)] ∧ St w no w1 [box b1 ([.slice Aa0_0 a0.Names.length ca0_0, .slice Aa0_1 a0.Eats.length ca0_1, .slice Aa0_2 a0.Foes.length ca0_2]) 28, rowC (ci .i64) A10 c11 2 y14, box b12 ([.slice A10 y14.length c11]) 30] [roC G.cs Aa0_0 ca0_0 a0.Names, roC (ci .i16) Aa0_1 ca0_1 a0.Eats, roC (ci .u16) Aa0_2 ca0_2 a0.Foes, roC (ci .i64) Aa1 ca1 a1] ∧ impl_GreedyGroups.l1 a0 a1 k y14 y15 = some j89) k (F' := [(2, .pointer (some ⟨b1, 0, none⟩)), (6, .pointer (some ⟨b12, 0, none⟩)), (33, .slice Aa1 a1.length ca1), (34, .int .i64 (a1.length : Int)), (35, .int .i64 0)]) ⟨rfl, rfl, rfl, rfl, rfl, trivial⟩ ⟨t9, 0, rfl, hS.pick [0, 2, 3] [0, 1, 2, 3] rfl, H⟩ ?_
          rintro k F w1 ⟨y14, y15, rfl, hS, H⟩
          cases k with
          | zero => rw [impl_GreedyGroups.l1] at H; cases H
          | succ k =>
            rw [impl_GreedyGroups.l1] at H
            refine CJ.seq ?_
            refine CJ.region ?_
            refine OJ.pures tU_ok 1 rfl ?_
            refine OJ.nil (EJ.next ?_)
            refine CJ.seq ?_
            refine CJ.cond rfl (fun hb => ?_) (fun hb => ?_)
            · replace H := pif_t (of_decide_eq_true hb) H
              refine CJ.skip (EJ.next ?_)
              obtain ⟨j96, H, K96⟩ := pbind H
              refine CJ.cut (fun F w1 => ∃ (y16 : List Int) , (some y16 : Option (List Int)) = some j96 ∧ F = [(2, .pointer (some ⟨b1, 0, none⟩)), (6, .pointer (some ⟨b12, 0, none⟩)), (33, .slice Aa1 a1.length ca1), (34, .int .i64 (a1.length : Int)), (35, .int .i64 y15)] ∧ St w no w1 [box b1 ([.slice Aa0_0 a0.Names.length ca0_0, .slice Aa0_1 a0.Eats.length ca0_1, .slice Aa0_2 a0.Foes.length ca0_2]) 28, rowC (ci .i64) A10 c11 2 y16, box b12 ([.slice A10 y16.length c11]) 30] [roC G.cs Aa0_0 ca0_0 a0.Names, roC (ci .i16) Aa0_1 ca0_1 a0.Eats, roC (ci .u16) Aa0_2 ca0_2 a0.Foes, roC (ci .i64) Aa1 ca1 a1]) ?_ ?_
              · skip
                refine CJ.block ?_
                refine CJ.seq ?_
                refine CJ.region ?_
                obtain ⟨t17, ht17, H⟩ := pbind H
                obtain ⟨ad17, e17⟩ := (hS.rd' (i := 3) rfl).some' ht17
                refine OJ.st rfl rfl rfl (SR.idxS tU_ok tI_ok rfl rfl rfl rfl e17 rfl (getI_some ht17).1) ?_
                refine OJ.st rfl rfl rfl (SR.load rfl rfl (fun w' hx => ld1 tU_ok rfl rfl (CA.ext ((hS.rd' (i := 3) rfl).at_ e17 ht17) hx) rfl)) ?_
                refine OJ.pures tU_ok 1 rfl ?_
                refine OJ.nil (EJ.next ?_)
                refine CJ.seq ?_
                refine CJ.region ?_
                refine OJ.ef rfl rfl rfl (Ef.alloc hS tI_ok rfl rfl ((ci .i64).enc 0) rfl) ?_
                rintro _ w1 ⟨b18, rfl, hS⟩
                refine OJ.es rfl rfl (Es.store tI_ok hS (i := 3) rfl rfl rfl rfl rfl rfl (vs := (ci .i64).enc 0) rfl rfl (one1 rfl) (Nat.le_of_ble_eq_true rfl) ((ci .i64).enc 0) rfl) ?_
                intro w1 hS
                refine OJ.nil (EJ.next ?_)
                obtain ⟨j98, H, K98⟩ := pbind H
                refine CJ.cut (fun F w1 => ∃ (y19 : Int) , (some y19 : Option Int) = some j98 ∧ F = [(2, .pointer (some ⟨b1, 0, none⟩)), (6, .pointer (some ⟨b12, 0, none⟩)), (8, .int .i64 t17), (9, .pointer (some ⟨b18, 0, none⟩)), (33, .slice Aa1 a1.length ca1), (34, .int .i64 (a1.length : Int)), (35, .int .i64 y15)] ∧ St w no w1 [box b1 ([.slice Aa0_0 a0.Names.length ca0_0, .slice Aa0_1 a0.Eats.length ca0_1, .slice Aa0_2 a0.Foes.length ca0_2]) 28, rowC (ci .i64) A10 c11 2 y14, box b12 ([.slice A10 y14.length c11]) 30, box b18 ((ci .i64).enc y19) 2] [roC G.cs Aa0_0 ca0_0 a0.Names, roC (ci .i16) Aa0_1 ca0_1 a0.Eats, roC (ci .u16) Aa0_2 ca0_2 a0.Foes, roC (ci .i64) Aa1 ca1 a1]) ?_ ?_
                · skip
                  refine CJ.block ?_
                  refine CJ.loop (fun k F w1 => ∃ (y20 : Int), F = [(2, .pointer (some ⟨b1, 0, none⟩)), (6, .pointer (some ⟨b12, 0, none⟩)), (8, .int .i64 t17), (9, .pointer (some ⟨b18, 0, none⟩)), (33, .slice Aa1 a1.length ca1), (34, .int .i64 (a1.length : Int)), (35, .int .i64 y15)] ∧ St w no w1 [box b1 ([.slice Aa0_0 a0.Names.length ca0_0, .slice Aa0_1 a0.Eats.length ca0_1, .slice Aa0_2 a0.Foes.length ca0_2]) 28, rowC (ci .i64) A10 c11 2 y14, box b12 ([.slice A10 y14.length c11]) 30, box b18 ((ci .i64).enc y20) 2] [roC G.cs Aa0_0 ca0_0 a0.Names, roC (ci .i16) Aa0_1 ca0_1 a0.Eats, roC (ci .u16) Aa0_2 ca0_2 a0.Foes, roC (ci .i64) Aa1 ca1 a1] ∧ impl_GreedyGroups.l2 a0 y14 t17 k y20 = some j98) k (F' := [(2, .pointer (some ⟨b1, 0, none⟩)), (6, .pointer (some ⟨b12, 0, none⟩)), (8, .int .i64 t17), (9, .pointer (some ⟨b18, 0, none⟩)), (33, .slice Aa1 a1.length ca1), (34, .int .i64 (a1.length : Int)), (35, .int .i64 y15)]) ⟨rfl, rfl, rfl, rfl, rfl, rfl, rfl, trivial⟩ ⟨0, rfl, hS.pick [0, 1, 2, 3] [0, 1, 2, 3] rfl, H⟩ ?_
                  rintro k F w1 ⟨y20, rfl, hS, H⟩
                  cases k with
                  | zero => rw [impl_GreedyGroups.l2] at H; cases H
                  | succ k =>
                    rw [impl_GreedyGroups.l2] at H
                    refine CJ.seq ?_
                    refine CJ.seq ?_
                    refine CJ.region ?_
                    refine OJ.st rfl rfl rfl (SR.fieldAddr tU_ok tI_ok rfl rfl rfl rfl rfl rfl) ?_
                    refine OJ.st rfl rfl rfl (SR.load rfl rfl (fun w' hx => ld1 tU_ok rfl rfl (CA.ext (CA.sub (hS.cells (i := 0) rfl) 2) hx) rfl)) ?_
                    refine OJ.pures tU_ok 1 rfl ?_
                    obtain ⟨t21, ht21, H⟩ := pbind H
                    obtain ⟨ad21, e21⟩ := (hS.rd' (i := 2) rfl).some' ht21
                    refine OJ.st rfl rfl rfl (SR.idxS tU_ok tI_ok rfl rfl rfl rfl e21 rfl (getI_some ht21).1) ?_
                    refine OJ.st rfl rfl rfl (SR.load rfl rfl (fun w' hx => ld1 tU_ok rfl rfl (CA.ext ((hS.rd' (i := 2) rfl).at_ e21 ht21) hx) rfl)) ?_
                    obtain ⟨t22, ht22, H⟩ := pbind H
                    refine OJ.callF rfl rfl rfl rfl rfl hb37 rfl (impl_listed.c k _ t21 _ ht22) ?_
                    rintro _ w1 ⟨A23, c24, rfl, hs⟩
                    replace hS := hS.addN hs
                    refine OJ.pures tU_ok 1 rfl ?_
                    obtain ⟨t25, ht25, H⟩ := pbind H
                    refine OJ.callF rfl rfl rfl rfl rfl hb36 rfl (slices_ContainsFunc_int64_int64.c k _ A23 c24 t22 (hS.rd (i := 4) rfl) (hS.le (i := 4) rfl) 38 #[] #[.pointer (some ⟨b12, 0, none⟩), .pointer (some ⟨b18, 0, none⟩)] hb38 (impl_GreedyGroups_1.f y14 y20) (fun z0 r h w' hx => CV.cast (impl_GreedyGroups_1.c w' A10 c11 y14 ((hS.rd (i := 1) rfl).ext hx) (hS.le (i := 1) rfl) ⟨b12, 0, none⟩ (CA.ext (hS.cells (i := 2) rfl) hx) ⟨b18, 0, none⟩ y20 (CA.ext (hS.cells (i := 3) rfl) hx)  z0 r h) (by simp)) _ ht25) ?_
                    rintro _ w1 ⟨rfl, hs⟩
                    replace hS := hS.grow hs
                    refine OJ.nil (EJ.next ?_)
                    refine CJ.cond rfl (fun hb => ?_) (fun hb => ?_)
                    · replace H := pif_t hb H
                      refine CJ.skip (EJ.next ?_)
                      refine CJ.block ?_
                      refine CJ.region ?_
                      refine OJ.st rfl rfl rfl (SR.load rfl rfl (fun w' hx => ld1 tU_ok rfl rfl (CA.ext (hS.cells (i := 3) rfl) hx) rfl)) ?_
                      refine OJ.pures tU_ok 1 rfl ?_
                      refine OJ.es rfl rfl (Es.store tI_ok hS (i := 3) rfl rfl rfl rfl rfl rfl (vs := (ci .i64).enc (IntKind.i64.wrap (y20 + 1))) rfl rfl (one1 rfl) (Nat.le_of_ble_eq_true rfl) ((ci .i64).enc (IntKind.i64.wrap (y20 + 1))) rfl) ?_
                      intro w1 hS
                      refine OJ.nil (EJ.blk (?_))
                      exact EJ.round k (F' := [(2, .pointer (some ⟨b1, 0, none⟩)), (6, .pointer (some ⟨b12, 0, none⟩)), (8, .int .i64 t17), (9, .pointer (some ⟨b18, 0, none⟩)), (33, .slice Aa1 a1.length ca1), (34, .int .i64 (a1.length : Int)), (35, .int .i64 y15)]) ⟨rfl, rfl, rfl, rfl, rfl, rfl, rfl, trivial⟩ (Nat.lt_succ_self _) ⟨(IntKind.i64.wrap (y20 + 1)), rfl, hS.pick [0, 1, 2, 3] [0, 1, 2, 3] rfl, H⟩
                    · replace H := pifb_f hb H
                      refine CJ.exit (EJ.skE (EJ.skE (EJ.hit (?_))))
                      exact EJ.meet (F' := [(2, .pointer (some ⟨b1, 0, none⟩)), (6, .pointer (some ⟨b12, 0, none⟩)), (8, .int .i64 t17), (9, .pointer (some ⟨b18, 0, none⟩)), (33, .slice Aa1 a1.length ca1), (34, .int .i64 (a1.length : Int)), (35, .int .i64 y15)]) ⟨rfl, rfl, rfl, rfl, rfl, rfl, rfl, trivial⟩ ⟨y20, H, rfl, hS.pick [0, 1, 2, 3] [0, 1, 2, 3] rfl⟩
                · rintro F w1 ⟨y19, he, rfl, hS⟩
                  obtain rfl := Option.some.inj he
                  have H := K98
                  refine CJ.region ?_
                  refine OJ.st rfl rfl rfl (SR.load rfl rfl (fun w' hx => ld1 tU_ok rfl rfl (CA.ext (hS.cells (i := 2) rfl) hx) rfl)) ?_
                  refine OJ.pures tU_ok 1 rfl ?_
                  refine OJ.st rfl rfl rfl (SR.load rfl rfl (fun w' hx => ld1 tU_ok rfl rfl (CA.ext (hS.cells (i := 3) rfl) hx) rfl)) ?_
                  obtain ⟨t26, ht26, H⟩ := pbind H
                  obtain ⟨ad26, e26⟩ := (hS.rd (i := 1) rfl).some' ht26
                  refine OJ.st rfl rfl rfl (SR.idxS tU_ok tI_ok rfl rfl rfl rfl e26 rfl (getI_some ht26).1) ?_
                  refine OJ.es rfl rfl (Es.storeR tI_ok hS (i := 1) (off := 0) rfl rfl ht26 e26 rfl rfl rfl rfl (vs := (ci .i64).enc y19) rfl rfl (one1 rfl) (Nat.le_of_ble_eq_true rfl) y19 rfl) ?_
                  intro w1 hS
                  refine OJ.as (t := 49) rfl (show _ = (.slice A10 (y14.set t17.toNat y19).length c11 : Value) by simp only [List.length_set]) ?_
                  replace hS := hS.boxAs (i := 2) rfl (show _ = ([.slice A10 (y14.set t17.toNat y19).length c11] : List Value) by simp only [List.length_set])
                  refine OJ.nil (EJ.blk (?_))
                  exact EJ.meet (F' := [(2, .pointer (some ⟨b1, 0, none⟩)), (6, .pointer (some ⟨b12, 0, none⟩)), (33, .slice Aa1 a1.length ca1), (34, .int .i64 (a1.length : Int)), (35, .int .i64 y15)]) ⟨rfl, rfl, rfl, rfl, rfl, trivial⟩ ⟨(y14.set t17.toNat y19), H, rfl, hS.pick [0, 1, 2] [0, 1, 2, 3] rfl⟩
              · rintro F w1 ⟨y16, he, rfl, hS⟩
                obtain rfl := Option.some.inj he
                have H := K96
                refine CJ.region ?_
                refine OJ.pures tU_ok 2 rfl ?_
                refine OJ.nil ?_
                exact EJ.round k (F' := [(2, .pointer (some ⟨b1, 0, none⟩)), (6, .pointer (some ⟨b12, 0, none⟩)), (33, .slice Aa1 a1.length ca1), (34, .int .i64 (a1.length : Int)), (35, .int .i64 (IntKind.i64.wrap (y15 + 1)))]) ⟨rfl, rfl, rfl, rfl, rfl, trivial⟩ (Nat.lt_succ_self _) ⟨y16, (IntKind.i64.wrap (y15 + 1)), rfl, hS.pick [0, 1, 2] [0, 1, 2, 3] rfl, H⟩
            · replace H := pif_f (of_decide_eq_false hb) H
              refine CJ.exit (EJ.skE (EJ.skE (EJ.hit (?_))))
              exact EJ.meet (F' := [(6, .pointer (some ⟨b12, 0, none⟩))]) ⟨rfl, trivial⟩ ⟨y14, H, rfl, hS.pick [1, 2] [0, 1, 2, 3] rfl⟩
        · rintro F w1 ⟨y13, he, rfl, hS⟩
          obtain rfl := Option.some.inj he
          have H := K89
          refine EJ.next ?_
          refine CJ.seq ?_
          refine CJ.region ?_
          refine OJ.st rfl rfl rfl (SR.load rfl rfl (fun w' hx => ld1 tU_ok rfl rfl (CA.ext (hS.cells (i := 1) rfl) hx) rfl)) ?_
          refine OJ.pures tU_ok 2 rfl ?_
          refine OJ.nil (EJ.next ?_)
          refine CJ.ret (?_)
          obtain rfl := Option.some.inj H
          exact EJ.fin rfl (.tmp rfl (.tmp rfl .nil)) ⟨A10, c11, rfl, hS.pick [0] [] rfl⟩

def spec_l06Least.l2 (a0 : Herd) (a1 : List Int) (a2 : Int) (y1 : Int) : Nat → Bool → Int → Option Bool
  | 0, _, _ => none
  | k + 1, y3, y4 => if y4 < (a1.length : Int) then (if y3 = true then ((getI a1 y4).bind fun t5 => if t5 = y1 then ((spec_l06Are.f a0 a2 y4).bind fun t6 => spec_l06Least.l2 a0 a1 a2 y1 k (!t6) (IntKind.i64.wrap (y4 + 1))) else (spec_l06Least.l2 a0 a1 a2 y1 k true (IntKind.i64.wrap (y4 + 1)))) else (spec_l06Least.l2 a0 a1 a2 y1 k false (IntKind.i64.wrap (y4 + 1)))) else (some y3)
def spec_l06Least.l1 (a0 : Herd) (a1 : List Int) (a2 : Int) : Nat → Int → Option (Int ⊕ Unit)
  | 0, _ => none
  | k + 1, y1 => ((spec_l06Least.l2 a0 a1 a2 y1 k true 0).bind fun y2 => if y2 = true then (some (Sum.inl (Sum.inl y1))) else (some (Sum.inr ()))).bind fun s109 => match s109 with | .inl r => some r | .inr _ => spec_l06Least.l1 a0 a1 a2 k (IntKind.i64.wrap (y1 + 1))
def spec_l06Least.f (k : Nat) (a0 : Herd) (a1 : List Int) (a2 : Int) : Option Int := (spec_l06Least.l1 a0 a1 a2 k 0).bind fun s102 => match s102 with | .inl r => some r | .inr _ => none
theorem spec_l06Least.c (k : Nat) (w : World) (Aa0_0 : Option Addr) (ca0_0 : Nat) (Aa0_1 : Option Addr) (ca0_1 : Nat) (Aa0_2 : Option Addr) (ca0_2 : Nat) (a0 : Herd) (hr0_0 : Rd G.cs w Aa0_0 a0.Names) (hc0_0 : a0.Names.length ≤ ca0_0) (hr0_1 : Rd (ci .i16) w Aa0_1 a0.Eats) (hc0_1 : a0.Eats.length ≤ ca0_1) (hr0_2 : Rd (ci .u16) w Aa0_2 a0.Foes) (hc0_2 : a0.Foes.length ≤ ca0_2) (pa0 : Addr) (hp0 : CA w pa0 ([.slice Aa0_0 a0.Names.length ca0_0, .slice Aa0_1 a0.Eats.length ca0_1, .slice Aa0_2 a0.Foes.length ca0_2])) (Aa1 : Option Addr) (ca1 : Nat) (a1 : List Int) (hr1 : Rd (ci .i64) w Aa1 a1) (hc1 : a1.length ≤ ca1) (a2 : Int) (r : Int) (H : spec_l06Least.f k a0 a1 a2 = some r) :
    CV Tryz.prog 40 [.pointer (some pa0), .slice Aa1 a1.length ca1, .int .i64 a2].toArray w fun v w' => v = .int .i64 r ∧ Ext w w' := by
  have hS := ((((((St.init w no).param G.cs Aa0_0 ca0_0 a0.Names hr0_0 hc0_0).param (ci .i16) Aa0_1 ca0_1 a0.Eats hr0_1 hc0_1).param (ci .u16) Aa0_2 ca0_2 a0.Foes hr0_2 hc0_2).paramP pa0 ([.slice Aa0_0 a0.Names.length ca0_0, .slice Aa0_1 a0.Eats.length ca0_1, .slice Aa0_2 a0.Foes.length ca0_2]) hp0).param (ci .i64) Aa1 ca1 a1 hr1 hc1)
  unfold spec_l06Least.f at H
  refine CV.body Tryz.func40 rfl Tryz.ntmps40 rfl ?_
  refine CJ.seq ?_
  refine CJ.region ?_
  refine OJ.pures tU_ok 1 rfl ?_
  refine OJ.nil (EJ.next ?_)
  refine CJ.seq ?_
  refine CJ.region ?_
  refine OJ.pures tU_ok 1 rfl ?_
  refine OJ.nil (EJ.next ?_)
  obtain ⟨j102, H, K102⟩ := pbind H
  refine CJ.cut1 (fun _ _ => False) ?_ ?_
  · skip
    refine CJ.block ?_
    refine CJ.loop (fun k F w1 => ∃ (y1 : Int), F = [(0, .pointer (some pa0)), (1, .slice Aa1 a1.length ca1), (2, .int .i64 a2), (6, .int .i64 0), (7, .int .i64 y1)] ∧ St w no w1 [] [roC G.cs Aa0_0 ca0_0 a0.Names, roC (ci .i16) Aa0_1 ca0_1 a0.Eats, roC (ci .u16) Aa0_2 ca0_2 a0.Foes, roP pa0 ([.slice Aa0_0 a0.Names.length ca0_0, .slice Aa0_1 a0.Eats.length ca0_1, .slice Aa0_2 a0.Foes.length ca0_2]), roC (ci .i64) Aa1 ca1 a1] ∧ spec_l06Least.l1 a0 a1 a2 k y1 = some j102) k (F' := [(0, .pointer (some pa0)), (1, .slice Aa1 a1.length ca1), (2, .int .i64 a2), (6, .int .i64 0), (7, .int .i64 0)]) ⟨rfl, rfl, rfl, rfl, rfl, trivial⟩ ⟨0, rfl, hS.pick [] [0, 1, 2, 3, 4] rfl, H⟩ ?_
    rintro k F w1 ⟨y1, rfl, hS, H⟩
    cases k with
    | zero => rw [spec_l06Least.l1] at H; cases H
    | succ k =>
      rw [spec_l06Least.l1] at H
      obtain ⟨j109, H, K109⟩ := pbind H
      refine CJ.cut (fun F w1 => (some (Sum.inr ()) : Option ((Int ⊕ Unit) ⊕ Unit)) = some j109 ∧ F = [(0, .pointer (some pa0)), (1, .slice Aa1 a1.length ca1), (2, .int .i64 a2), (6, .int .i64 0), (7, .int .i64 y1)] ∧ St w no w1 [] [roC G.cs Aa0_0 ca0_0 a0.Names, roC (ci .i16) Aa0_1 ca0_1 a0.Eats, roC (ci .u16) Aa0_2 ca0_2 a0.Foes, roP pa0 ([.slice Aa0_0 a0.Names.length ca0_0, .slice Aa0_1 a0.Eats.length ca0_1, .slice Aa0_2 a0.Foes.length ca0_2]), roC (ci .i64) Aa1 ca1 a1]) ?_ ?_
      · skip
        refine CJ.block ?_
        refine CJ.seq ?_
        refine CJ.region ?_
        refine OJ.pures tU_ok 1 rfl ?_
        refine OJ.nil (EJ.next ?_)
        refine CJ.seq ?_
        refine CJ.seq ?_
        refine CJ.region ?_
        refine OJ.pures tU_ok 1 rfl ?_
        refine OJ.nil (EJ.next ?_)
        obtain ⟨j111, H, K111⟩ := pbind H
        refine CJ.cut1 (fun F w1 => ∃ (y2 : Bool) , (some y2 : Option Bool) = some j111 ∧ F = [(0, .pointer (some pa0)), (1, .slice Aa1 a1.length ca1), (2, .int .i64 a2), (6, .int .i64 0), (7, .int .i64 y1), (8, .bool y2)] ∧ St w no w1 [] [roC G.cs Aa0_0 ca0_0 a0.Names, roC (ci .i16) Aa0_1 ca0_1 a0.Eats, roC (ci .u16) Aa0_2 ca0_2 a0.Foes, roP pa0 ([.slice Aa0_0 a0.Names.length ca0_0, .slice Aa0_1 a0.Eats.length ca0_1, .slice Aa0_2 a0.Foes.length ca0_2]), roC (ci .i64) Aa1 ca1 a1]) ?_ ?_
        · skip
          refine CJ.block ?_
          refine CJ.loop (fun k F w1 => ∃ (y3 : Bool) (y4 : Int), F = [(0, .pointer (some pa0)), (1, .slice Aa1 a1.length ca1), (2, .int .i64 a2), (6, .int .i64 0), (7, .int .i64 y1), (8, .bool y3), (9, .int .i64 y4)] ∧ St w no w1 [] [roC G.cs Aa0_0 ca0_0 a0.Names, roC (ci .i16) Aa0_1 ca0_1 a0.Eats, roC (ci .u16) Aa0_2 ca0_2 a0.Foes, roP pa0 ([.slice Aa0_0 a0.Names.length ca0_0, .slice Aa0_1 a0.Eats.length ca0_1, .slice Aa0_2 a0.Foes.length ca0_2]), roC (ci .i64) Aa1 ca1 a1] ∧ spec_l06Least.l2 a0 a1 a2 y1 k y3 y4 = some j111) k (F' := [(0, .pointer (some pa0)), (1, .slice Aa1 a1.length ca1), (2, .int .i64 a2), (6, .int .i64 0), (7, .int .i64 y1), (8, .bool true), (9, .int .i64 0)]) ⟨rfl, rfl, rfl, rfl, rfl, rfl, rfl, trivial⟩ ⟨true, 0, rfl, hS.pick [] [0, 1, 2, 3, 4] rfl, H⟩ ?_
          rintro k F w1 ⟨y3, y4, rfl, hS, H⟩
          cases k with
          | zero => rw [spec_l06Least.l2] at H; cases H
          | succ k =>
            rw [spec_l06Least.l2] at H
            refine CJ.seq ?_
            refine CJ.seq ?_
            refine CJ.region ?_
            refine OJ.pures tU_ok 4 rfl ?_
            refine OJ.nil (EJ.next ?_)
            refine CJ.cond rfl (fun hb => ?_) (fun hb => ?_)
            · replace H := pif_t (of_decide_eq_true hb) H
              refine CJ.skip (EJ.next ?_)
              refine CJ.seq ?_
              refine CJ.block ?_
              refine CJ.region ?_
              refine OJ.pures tU_ok 2 rfl ?_
              refine OJ.split (t := 19) rfl (fun hb => ?_) (fun hb => ?_)
              · replace H := pif_t hb H
                refine OJ.pures tU_ok 2 rfl ?_
                obtain ⟨t5, ht5, H⟩ := pbind H
                obtain ⟨ad5, e5⟩ := (hS.rd' (i := 4) rfl).some' ht5
                refine OJ.st rfl rfl rfl (SR.idxS tU_ok tI_ok rfl rfl rfl rfl e5 rfl (getI_some ht5).1) ?_
                refine OJ.st rfl rfl rfl (SR.load rfl rfl (fun w' hx => ld1 tU_ok rfl rfl (CA.ext ((hS.rd' (i := 4) rfl).at_ e5 ht5) hx) rfl)) ?_
                refine OJ.pures tU_ok 3 rfl ?_
                refine OJ.split (t := 26) rfl (fun hb => ?_) (fun hb => ?_)
                · replace H := pif_t (of_decide_eq_true hb) H
                  refine OJ.pures tU_ok 3 rfl ?_
                  obtain ⟨t6, ht6, H⟩ := pbind H
                  refine OJ.callF rfl rfl rfl rfl rfl hb64 rfl (spec_l06Are.c _ Aa0_0 ca0_0 Aa0_1 ca0_1 Aa0_2 ca0_2 a0 (hS.rd' (i := 0) rfl) (hS.le' (i := 0) rfl) (hS.rd' (i := 1) rfl) (hS.le' (i := 1) rfl) (hS.rd' (i := 2) rfl) (hS.le' (i := 2) rfl) pa0 (hS.ca (i := 3) rfl) a2 y4 _ ht6) ?_
                  rintro _ w1 ⟨rfl, hs⟩
                  replace hS := hS.grow hs
                  refine OJ.pures tU_ok 4 rfl ?_
                  refine OJ.nil (EJ.blk (EJ.next ?_))
                  refine CJ.region ?_
                  refine OJ.pures tU_ok 3 rfl ?_
                  refine OJ.nil ?_
                  exact EJ.round k (F' := [(0, .pointer (some pa0)), (1, .slice Aa1 a1.length ca1), (2, .int .i64 a2), (6, .int .i64 0), (7, .int .i64 y1), (8, .bool (!t6)), (9, .int .i64 (IntKind.i64.wrap (y4 + 1)))]) ⟨rfl, rfl, rfl, rfl, rfl, rfl, rfl, trivial⟩ (Nat.lt_succ_self _) ⟨(!t6), (IntKind.i64.wrap (y4 + 1)), rfl, hS.pick [] [0, 1, 2, 3, 4] rfl, H⟩
                · replace H := pif_f (of_decide_eq_false hb) H
                  refine OJ.pures tU_ok 8 rfl ?_
                  refine OJ.nil (EJ.blk (EJ.next ?_))
                  refine CJ.region ?_
                  refine OJ.pures tU_ok 3 rfl ?_
                  refine OJ.nil ?_
                  exact EJ.round k (F' := [(0, .pointer (some pa0)), (1, .slice Aa1 a1.length ca1), (2, .int .i64 a2), (6, .int .i64 0), (7, .int .i64 y1), (8, .bool true), (9, .int .i64 (IntKind.i64.wrap (y4 + 1)))]) ⟨rfl, rfl, rfl, rfl, rfl, rfl, rfl, trivial⟩ (Nat.lt_succ_self _) ⟨true, (IntKind.i64.wrap (y4 + 1)), rfl, hS.pick [] [0, 1, 2, 3, 4] rfl, H⟩
              · replace H := pifb_f hb H
                refine OJ.pures tU_ok 15 rfl ?_
                refine OJ.nil (EJ.blk (EJ.next ?_))
                refine CJ.region ?_
                refine OJ.pures tU_ok 3 rfl ?_
                refine OJ.nil ?_
                exact EJ.round k (F' := [(0, .pointer (some pa0)), (1, .slice Aa1 a1.length ca1), (2, .int .i64 a2), (6, .int .i64 0), (7, .int .i64 y1), (8, .bool false), (9, .int .i64 (IntKind.i64.wrap (y4 + 1)))]) ⟨rfl, rfl, rfl, rfl, rfl, rfl, rfl, trivial⟩ (Nat.lt_succ_self _) ⟨false, (IntKind.i64.wrap (y4 + 1)), rfl, hS.pick [] [0, 1, 2, 3, 4] rfl, H⟩
            · replace H := pif_f (of_decide_eq_false hb) H
              refine CJ.exit (EJ.skE (EJ.skE (EJ.hit (?_))))
              exact EJ.meet (F' := [(0, .pointer (some pa0)), (1, .slice Aa1 a1.length ca1), (2, .int .i64 a2), (6, .int .i64 0), (7, .int .i64 y1), (8, .bool y3)]) ⟨rfl, rfl, rfl, rfl, rfl, rfl, trivial⟩ ⟨y3, H, rfl, hS.pick [] [0, 1, 2, 3, 4] rfl⟩
        · rintro F w1 ⟨y2, he, rfl, hS⟩
          obtain rfl := Option.some.inj he
          have H := K111
          refine EJ.next ?_
          refine CJ.seq ?_
          refine CJ.region ?_
          refine OJ.pures tU_ok 1 rfl ?_
          refine OJ.nil (EJ.next ?_)
          refine CJ.cond rfl (fun hb => ?_) (fun hb => ?_)
          · replace H := pif_t hb H
            refine CJ.seq ?_
            refine CJ.region ?_
            refine OJ.pures tU_ok 2 rfl ?_
            refine OJ.nil (EJ.next ?_)
            refine CJ.ret (EJ.bkR (EJ.skR (EJ.skR (EJ.bkR (EJ.skR (?_))))))
            first | (obtain rfl := Option.some.inj H; have H := K109) | (obtain ⟨q109, H2, e109⟩ := pbind H; obtain rfl := Option.some.inj e109; obtain rfl := Option.some.inj K109; have H := H2)
            first | (obtain rfl := Option.some.inj H; have H := K102) | (obtain ⟨q102, H2, e102⟩ := pbind H; obtain rfl := Option.some.inj e102; obtain rfl := Option.some.inj K102; have H := H2)
            obtain rfl := Option.some.inj H
            exact EJ.fin rfl (.tmp rfl .nil) ⟨rfl, hS.ext⟩
          · replace H := pifb_f hb H
            refine CJ.skip (EJ.blk (?_))
            exact EJ.meet (F' := [(0, .pointer (some pa0)), (1, .slice Aa1 a1.length ca1), (2, .int .i64 a2), (6, .int .i64 0), (7, .int .i64 y1)]) ⟨rfl, rfl, rfl, rfl, rfl, trivial⟩ ⟨H, rfl, hS.pick [] [0, 1, 2, 3, 4] rfl⟩
      · rintro F w1 ⟨he, rfl, hS⟩
        obtain rfl := Option.some.inj he
        have H := K109
        refine CJ.region ?_
        refine OJ.pures tU_ok 3 rfl ?_
        refine OJ.nil ?_
        exact EJ.round k (F' := [(0, .pointer (some pa0)), (1, .slice Aa1 a1.length ca1), (2, .int .i64 a2), (6, .int .i64 0), (7, .int .i64 (IntKind.i64.wrap (y1 + 1)))]) ⟨rfl, rfl, rfl, rfl, rfl, trivial⟩ (Nat.lt_succ_self _) ⟨(IntKind.i64.wrap (y1 + 1)), rfl, hS.pick [] [0, 1, 2, 3, 4] rfl, H⟩
  · rintro F w1 h
    exact h.elim

def spec_GreedyGroups.l1 : Nat → (List Int) → Int → Option (List Int)
  | 0, _, _ => none
  | k + 1, y8, y9 => if y9 < (y8.length : Int) then ((getI y8 y9).bind fun t10 => spec_GreedyGroups.l1 k (y8.set y9.toNat (-1)) (IntKind.i64.wrap (y9 + 1))) else (some y8)
def spec_GreedyGroups.l2 (a0 : Herd) (a1 : List Int) : Nat → (List Int) → Int → Option ((List Int × Int) ⊕ (List Int))
  | 0, _, _ => none
  | k + 1, y12, y13 => if y13 < (a1.length : Int) then (((getI a1 y13).bind fun t15 => (spec_l00In.f t15 0 (IntKind.i64.wrap ((a1.length : Int) - 1))).bind fun t16 => if (!t16) = true then (some true) else ((getI a1 y13).bind fun t17 => (getI y12 t17).bind fun t18 => some (decide (0 ≤ t18)))).bind fun y14 => if y14 = true then (some (Sum.inl (([] : List Int), 4))) else ((getI a1 y13).bind fun t20 => (getI a1 y13).bind fun t21 => (spec_l06Least.f k a0 y12 t21).bind fun t22 => (getI y12 t20).bind fun t23 => spec_GreedyGroups.l2 a0 a1 k (y12.set t20.toNat t22) (IntKind.i64.wrap (y13 + 1)))) else (some (Sum.inr y12))
def spec_GreedyGroups.f (k : Nat) (a0 : Herd) (a1 : List Int) : Option (List Int × Int) := (spec_l06Ok.f k a0).bind fun t2 => if (!t2) = true then (some (([] : List Int), 1)) else (if (a1.length : Int) ≠ (a0.Names.length : Int) then (some (([] : List Int), 4)) else ((chk (0 ≤ (a1.length : Int) ∧ (a1.length : Int) ≤ 4294967296)).bind fun u5 => (spec_GreedyGroups.l1 k (List.replicate ((a1.length : Int).toNat) 0 : List Int) 0).bind fun y7 => (spec_GreedyGroups.l2 a0 a1 k y7 0).bind fun s100 => match s100 with | .inl r => some r | .inr y11 => some (y11, 0)))
theorem spec_GreedyGroups.c (k : Nat) (w : World) (Aa0_0 : Option Addr) (ca0_0 : Nat) (Aa0_1 : Option Addr) (ca0_1 : Nat) (Aa0_2 : Option Addr) (ca0_2 : Nat) (a0 : Herd) (hr0_0 : Rd G.cs w Aa0_0 a0.Names) (hc0_0 : a0.Names.length ≤ ca0_0) (hr0_1 : Rd (ci .i16) w Aa0_1 a0.Eats) (hc0_1 : a0.Eats.length ≤ ca0_1) (hr0_2 : Rd (ci .u16) w Aa0_2 a0.Foes) (hc0_2 : a0.Foes.length ≤ ca0_2) (Aa1 : Option Addr) (ca1 : Nat) (a1 : List Int) (hr1 : Rd (ci .i64) w Aa1 a1) (hc1 : a1.length ≤ ca1) (r : List Int × Int) (H : spec_GreedyGroups.f k a0 a1 = some r) :
    CV Tryz.prog 10 [.agg [.slice Aa0_0 a0.Names.length ca0_0, .slice Aa0_1 a0.Eats.length ca0_1, .slice Aa0_2 a0.Foes.length ca0_2].toArray, .slice Aa1 a1.length ca1].toArray w fun v w' => ∃ (A0 : Option Addr) (c0 : Nat), v = .tuple #[.slice A0 r.1.length c0, .int .i64 r.2] ∧ St w no w' [rowC (ci .i64) A0 c0 2 r.1] [] := by
  have hS := (((((St.init w no).param G.cs Aa0_0 ca0_0 a0.Names hr0_0 hc0_0).param (ci .i16) Aa0_1 ca0_1 a0.Eats hr0_1 hc0_1).param (ci .u16) Aa0_2 ca0_2 a0.Foes hr0_2 hc0_2).param (ci .i64) Aa1 ca1 a1 hr1 hc1)
  unfold spec_GreedyGroups.f at H
  refine CV.body Tryz.func10 rfl Tryz.ntmps10 rfl ?_
  refine CJ.seq ?_
  refine CJ.region ?_
  refine OJ.ef rfl rfl rfl (Ef.box hS rfl rfl ([.slice Aa0_0 a0.Names.length ca0_0, .slice Aa0_1 a0.Eats.length ca0_1, .slice Aa0_2 a0.Foes.length ca0_2]) rfl) ?_
  rintro _ w1 ⟨b1, rfl, hS⟩
  refine OJ.pures tU_ok 2 rfl ?_
  refine OJ.nil (EJ.next ?_)
  refine CJ.seq ?_
  refine CJ.seq ?_
  refine CJ.region ?_
  obtain ⟨t2, ht2, H⟩ := pbind H
  refine OJ.callF rfl rfl rfl rfl rfl hb29 rfl (spec_l06Ok.c k _ Aa0_0 ca0_0 Aa0_1 ca0_1 Aa0_2 ca0_2 a0 (hS.rd' (i := 0) rfl) (hS.le' (i := 0) rfl) (hS.rd' (i := 1) rfl) (hS.le' (i := 1) rfl) (hS.rd' (i := 2) rfl) (hS.le' (i := 2) rfl) ⟨b1, 0, none⟩ (hS.cells (i := 0) rfl) _ ht2) ?_
  rintro _ w1 ⟨rfl, hs⟩
  replace hS := hS.grow hs
  refine OJ.pures tU_ok 1 rfl ?_
  refine OJ.nil (EJ.next ?_)
  refine CJ.cond rfl (fun hb => ?_) (fun hb => ?_)
  · replace H := pif_t hb H
    refine CJ.seq ?_
    refine CJ.region ?_
    refine OJ.ef rfl rfl rfl (Ef.lit tU_ok tI_ok hS (C := (ci .i64)) rfl rfl rfl rfl rfl rfl ([] : List Int) rfl rfl rfl rfl) ?_
    rintro _ w1 ⟨A3, rfl, hS⟩
    refine OJ.pures tU_ok 2 rfl ?_
    refine OJ.nil (EJ.next ?_)
    refine CJ.ret (EJ.skR (?_))
    obtain rfl := Option.some.inj H
    exact EJ.fin rfl (.tmp rfl (.tmp rfl .nil)) ⟨A3, (([] : List Int).length), rfl, hS.pick [1] [] rfl⟩
  · replace H := pifb_f hb H
    refine CJ.skip (EJ.next ?_)
    refine CJ.seq ?_
    refine CJ.seq ?_
    refine CJ.region ?_
    refine OJ.pures tU_ok 2 rfl ?_
    refine OJ.st rfl rfl rfl (SR.fieldAddr tU_ok tI_ok rfl rfl rfl rfl rfl rfl) ?_
    refine OJ.st rfl rfl rfl (SR.load rfl rfl (fun w' hx => ld1 tU_ok rfl rfl (CA.ext (CA.sub (hS.cells (i := 0) rfl) 0) hx) rfl)) ?_
    refine OJ.pures tU_ok 2 rfl ?_
    refine OJ.nil (EJ.next ?_)
    refine CJ.cond rfl (fun hb => ?_) (fun hb => ?_)
    · replace H := pif_t (of_decide_eq_true hb) H
      refine CJ.seq ?_
      refine CJ.region ?_
      refine OJ.ef rfl rfl rfl (Ef.lit tU_ok tI_ok hS (C := (ci .i64)) rfl rfl rfl rfl rfl rfl ([] : List Int) rfl rfl rfl rfl) ?_
      rintro _ w1 ⟨A4, rfl, hS⟩
      refine OJ.pures tU_ok 2 rfl ?_
      refine OJ.nil (EJ.next ?_)
      refine CJ.ret (EJ.skR (?_))
      obtain rfl := Option.some.inj H
      exact EJ.fin rfl (.tmp rfl (.tmp rfl .nil)) ⟨A4, (([] : List Int).length), rfl, hS.pick [1] [] rfl⟩
    · replace H := pif_f (of_decide_eq_false hb) H
      refine CJ.skip (EJ.next ?_)
      refine CJ.seq ?_
      refine CJ.region ?_
      refine OJ.pures tU_ok 2 rfl ?_
      obtain ⟨u5, hu5, H⟩ := pbind H
      refine OJ.ef rfl rfl rfl (Ef.make tU_ok tI_ok hS (C := (ci .i64)) rfl rfl rfl rfl rfl rfl rfl rfl (chk_some hu5) 0 rfl) ?_
      rintro _ w1 ⟨A6, rfl, hS⟩
      refine OJ.pures tU_ok 1 rfl ?_
      refine OJ.nil (EJ.next ?_)
      refine CJ.seq ?_
      refine CJ.seq ?_
      refine CJ.region ?_
      refine OJ.pures tU_ok 1 rfl ?_
      refine OJ.nil (EJ.next ?_)
      obtain ⟨j99, H, K99⟩ := pbind H
      refine CJ.cut1 (fun F w1 => ∃ (y7 : List Int) , (some y7 : Option (List Int)) = some j99 ∧ F = [(1, .slice Aa1 a1.length ca1), (2, .pointer (some ⟨b1, 0, none⟩)), (6, .slice A6 y7.length ((a1.length : Int).toNat))] ∧ St w no w1 [box b1 ([.slice Aa0_0 a0.Names.length ca0_0, .slice Aa0_1 a0.Eats.length ca0_1, .slice Aa0_2 a0.Foes.length ca0_2]) 28, rowC (ci .i64) A6 ((a1.length : Int).toNat) 2 y7] [roC G.cs Aa0_0 ca0_0 a0.Names, roC (ci .i16) Aa0_1 ca0_1 a0.Eats, roC (ci .u16) Aa0_2 ca0_2 a0.Foes, roC (ci .i64) Aa1 ca1 a1]) ?_ ?_
      · skip
        refine CJ.block ?_
        refine CJ.loop (fun k F w1 => ∃ (y8 : List Int) (y9 : Int), F = [(1, .slice Aa1 a1.length ca1), (2, .pointer (some ⟨b1, 0, none⟩)), (6, .slice A6 y8.length ((a1.length : Int).toNat)), (7, .int .i64 y9)] ∧ St w no w1 [box b1 ([.slice Aa0_0 a0.Names.length ca0_0, .slice Aa0_1 a0.Eats.length ca0_1, .slice Aa0_2 a0.Foes.length ca0_2]) 28, rowC (ci .i64) A6 ((a1.length : Int).toNat) 2 y8] [roC G.cs Aa0_0 ca0_0 a0.Names, roC (ci .i16) Aa0_1 ca0_1 a0.Eats, roC (ci .u16) Aa0_2 ca0_2 a0.Foes, roC (ci .i64) Aa1 ca1 a1] ∧ spec_GreedyGroups.l1 k y8 y9 = some j99) k (F' := [(1, .slice Aa1 a1.length ca1), (2, .pointer (some ⟨b1, 0, none⟩)), (6, .slice A6 (List.replicate ((a1.length : Int).toNat) 0 : List Int).length ((a1.length : Int).toNat)), (7, .int .i64 0)]) ⟨rfl, rfl, rfl, rfl, trivial⟩ ⟨(List.replicate ((a1.length : Int).toNat) 0 : List Int), 0, rfl, hS.pick [0, 1] [0, 1, 2, 3] rfl, H⟩ ?_
        rintro k F w1 ⟨y8, y9, rfl, hS, H⟩
        cases k with
        | zero => rw [spec_GreedyGroups.l1] at H; cases H
        | succ k =>
          rw [spec_GreedyGroups.l1] at H
          refine CJ.seq ?_
          refine CJ.seq ?_
          refine CJ.region ?_
          refine OJ.pures tU_ok 4 rfl ?_
          refine OJ.nil (EJ.next ?_)
          refine CJ.cond rfl (fun hb => ?_) (fun hb => ?_)
          · replace H := pif_t (of_decide_eq_true hb) H
            refine CJ.skip (EJ.next ?_)
            refine CJ.seq ?_
            refine CJ.block ?_
            refine CJ.region ?_
            refine OJ.pures tU_ok 2 rfl ?_
            obtain ⟨t10, ht10, H⟩ := pbind H
            obtain ⟨ad10, e10⟩ := (hS.rd (i := 1) rfl).some' ht10
            refine OJ.st rfl rfl rfl (SR.idxS tU_ok tI_ok rfl rfl rfl rfl e10 rfl (getI_some ht10).1) ?_
            refine OJ.es rfl rfl (Es.storeR tI_ok hS (i := 1) (off := 0) rfl rfl ht10 e10 rfl rfl rfl rfl (vs := (ci .i64).enc (-1)) rfl rfl (one1 rfl) (Nat.le_of_ble_eq_true rfl) (-1) rfl) ?_
            intro w1 hS
            refine OJ.as (t := 6) rfl (show _ = (.slice A6 (y8.set y9.toNat (-1)).length ((a1.length : Int).toNat) : Value) by simp only [List.length_set]) ?_
            refine OJ.as (t := 23) rfl (show _ = (.slice A6 (y8.set y9.toNat (-1)).length ((a1.length : Int).toNat) : Value) by simp only [List.length_set]) ?_
            refine OJ.as (t := 28) rfl (show _ = (.slice A6 (y8.set y9.toNat (-1)).length ((a1.length : Int).toNat) : Value) by simp only [List.length_set]) ?_
            refine OJ.nil (EJ.blk (EJ.next ?_))
            refine CJ.region ?_
            refine OJ.pures tU_ok 3 rfl ?_
            refine OJ.nil ?_
            exact EJ.round k (F' := [(1, .slice Aa1 a1.length ca1), (2, .pointer (some ⟨b1, 0, none⟩)), (6, .slice A6 (y8.set y9.toNat (-1)).length ((a1.length : Int).toNat)), (7, .int .i64 (IntKind.i64.wrap (y9 + 1)))]) ⟨rfl, rfl, rfl, rfl, trivial⟩ (Nat.lt_succ_self _) ⟨(y8.set y9.toNat (-1)), (IntKind.i64.wrap (y9 + 1)), rfl, hS.pick [0, 1] [0, 1, 2, 3] rfl, H⟩
          · replace H := pif_f (of_decide_eq_false hb) H
            refine CJ.exit (EJ.skE (EJ.skE (EJ.hit (?_))))
            exact EJ.meet (F' := [(1, .slice Aa1 a1.length ca1), (2, .pointer (some ⟨b1, 0, none⟩)), (6, .slice A6 y8.length ((a1.length : Int).toNat))]) ⟨rfl, rfl, rfl, trivial⟩ ⟨y8, H, rfl, hS.pick [0, 1] [0, 1, 2, 3] rfl⟩
      · rintro F w1 ⟨y7, he, rfl, hS⟩
        obtain rfl := Option.some.inj he
        have H := K99
        refine EJ.next ?_
        refine CJ.seq ?_
        refine CJ.seq ?_
        refine CJ.region ?_
        refine OJ.pures tU_ok 1 rfl ?_
        refine OJ.nil (EJ.next ?_)
        obtain ⟨j100, H, K100⟩ := pbind H
        refine CJ.cut1 (fun F w1 => ∃ (y11 : List Int) , (some (Sum.inr y11) : Option ((List Int × Int) ⊕ (List Int))) = some j100 ∧ F = [(6, .slice A6 y11.length ((a1.length : Int).toNat))] ∧ St w no w1 [rowC (ci .i64) A6 ((a1.length : Int).toNat) 2 y11] [roC G.cs Aa0_0 ca0_0 a0.Names, roC (ci .i16) Aa0_1 ca0_1 a0.Eats, roC (ci .u16) Aa0_2 ca0_2 a0.Foes, roC (ci .i64) Aa1 ca1 a1]) ?_ ?_
        · skip
          refine CJ.block ?_
          refine CJ.loop (fun k F w1 => ∃ (y12 : List Int) (y13 : Int), F = [(1, .slice Aa1 a1.length ca1), (2, .pointer (some ⟨b1, 0, none⟩)), (6, .slice A6 y12.length ((a1.length : Int).toNat)), (8, .int .i64 y13)] ∧ St w no w1 [box b1 ([.slice Aa0_0 a0.Names.length ca0_0, .slice Aa0_1 a0.Eats.length ca0_1, .slice Aa0_2 a0.Foes.length ca0_2]) 28, rowC (ci .i64) A6 ((a1.length : Int).toNat) 2 y12] [roC G.cs Aa0_0 ca0_0 a0.Names, roC (ci .i16) Aa0_1 ca0_1 a0.Eats, roC (ci .u16) Aa0_2 ca0_2 a0.Foes, roC (ci .i64) Aa1 ca1 a1] ∧ spec_GreedyGroups.l2 a0 a1 k y12 y13 = some j100) k (F' := [(1, .slice Aa1 a1.length ca1), (2, .pointer (some ⟨b1, 0, none⟩)), (6, .slice A6 y7.length ((a1.length : Int).toNat)), (8, .int .i64 0)]) ⟨rfl, rfl, rfl, rfl, trivial⟩ ⟨y7, 0, rfl, hS.pick [0, 1] [0, 1, 2, 3] rfl, H⟩ ?_
          rintro k F w1 ⟨y12, y13, rfl, hS, H⟩
          cases k with
          | zero => rw [spec_GreedyGroups.l2] at H; cases H
          | succ k =>
            rw [spec_GreedyGroups.l2] at H
            refine CJ.seq ?_
            refine CJ.seq ?_
            refine CJ.region ?_
            refine OJ.pures tU_ok 4 rfl ?_
            refine OJ.nil (EJ.next ?_)
            refine CJ.cond rfl (fun hb => ?_) (fun hb => ?_)
            · replace H := pif_t (of_decide_eq_true hb) H
              refine CJ.skip (EJ.next ?_)
              refine CJ.seq ?_
              refine CJ.block ?_
              refine CJ.seq ?_
              obtain ⟨j113, H, K113⟩ := pbind H
              refine CJ.cut (fun F w1 => ∃ (y14 : Bool) , (some y14 : Option Bool) = some j113 ∧ F = [(1, .slice Aa1 a1.length ca1), (2, .pointer (some ⟨b1, 0, none⟩)), (6, .slice A6 y12.length ((a1.length : Int).toNat)), (8, .int .i64 y13), (55, .bool y14)] ∧ St w no w1 [box b1 ([.slice Aa0_0 a0.Names.length ca0_0, .slice Aa0_1 a0.Eats.length ca0_1, .slice Aa0_2 a0.Foes.length ca0_2]) 28, rowC (ci .i64) A6 ((a1.length : Int).toNat) 2 y12] [roC G.cs Aa0_0 ca0_0 a0.Names, roC (ci .i16) Aa0_1 ca0_1 a0.Eats, roC (ci .u16) Aa0_2 ca0_2 a0.Foes, roC (ci .i64) Aa1 ca1 a1]) ?_ ?_
              · skip
                refine CJ.region ?_
                refine OJ.pures tU_ok 2 rfl ?_
                obtain ⟨t15, ht15, H⟩ := pbind H
                obtain ⟨ad15, e15⟩ := (hS.rd' (i := 3) rfl).some' ht15
                refine OJ.st rfl rfl rfl (SR.idxS tU_ok tI_ok rfl rfl rfl rfl e15 rfl (getI_some ht15).1) ?_
                refine OJ.st rfl rfl rfl (SR.load rfl rfl (fun w' hx => ld1 tU_ok rfl rfl (CA.ext ((hS.rd' (i := 3) rfl).at_ e15 ht15) hx) rfl)) ?_
                refine OJ.pures tU_ok 3 rfl ?_
                obtain ⟨t16, ht16, H⟩ := pbind H
                refine OJ.callF rfl rfl rfl rfl rfl hb39 rfl (spec_l00In.c _ t15 0 (IntKind.i64.wrap ((a1.length : Int) - 1)) _ ht16) ?_
                rintro _ w1 ⟨rfl, hs⟩
                replace hS := hS.grow hs
                refine OJ.pures tU_ok 2 rfl ?_
                refine OJ.split (t := 46) rfl (fun hb => ?_) (fun hb => ?_)
                · replace H := pif_t hb H
                  refine OJ.pures tU_ok 9 rfl ?_
                  refine OJ.nil ?_
                  exact EJ.meet (F' := [(1, .slice Aa1 a1.length ca1), (2, .pointer (some ⟨b1, 0, none⟩)), (6, .slice A6 y12.length ((a1.length : Int).toNat)), (8, .int .i64 y13), (55, .bool true)]) ⟨rfl, rfl, rfl, rfl, rfl, trivial⟩ ⟨true, H, rfl, hS.pick [0, 1] [0, 1, 2, 3] rfl⟩
                · replace H := pifb_f hb H
                  refine OJ.pures tU_ok 3 rfl ?_
                  obtain ⟨t17, ht17, H⟩ := pbind H
                  obtain ⟨ad17, e17⟩ := (hS.rd' (i := 3) rfl).some' ht17
                  refine OJ.st rfl rfl rfl (SR.idxS tU_ok tI_ok rfl rfl rfl rfl e17 rfl (getI_some ht17).1) ?_
                  refine OJ.st rfl rfl rfl (SR.load rfl rfl (fun w' hx => ld1 tU_ok rfl rfl (CA.ext ((hS.rd' (i := 3) rfl).at_ e17 ht17) hx) rfl)) ?_
                  obtain ⟨t18, ht18, H⟩ := pbind H
                  obtain ⟨ad18, e18⟩ := (hS.rd (i := 1) rfl).some' ht18
                  refine OJ.st rfl rfl rfl (SR.idxS tU_ok tI_ok rfl rfl rfl rfl e18 rfl (getI_some ht18).1) ?_
                  refine OJ.st rfl rfl rfl (SR.load rfl rfl (fun w' hx => ld1 tU_ok rfl rfl (CA.ext ((hS.rd (i := 1) rfl).at_ e18 ht18) hx) rfl)) ?_
                  refine OJ.pures tU_ok 2 rfl ?_
                  refine OJ.nil ?_
                  exact EJ.meet (F' := [(1, .slice Aa1 a1.length ca1), (2, .pointer (some ⟨b1, 0, none⟩)), (6, .slice A6 y12.length ((a1.length : Int).toNat)), (8, .int .i64 y13), (55, .bool (decide (0 ≤ t18)))]) ⟨rfl, rfl, rfl, rfl, rfl, trivial⟩ ⟨(decide (0 ≤ t18)), H, rfl, hS.pick [0, 1] [0, 1, 2, 3] rfl⟩
              · rintro F w1 ⟨y14, he, rfl, hS⟩
                obtain rfl := Option.some.inj he
                have H := K113
                refine CJ.cond rfl (fun hb => ?_) (fun hb => ?_)
                · replace H := pif_t hb H
                  refine CJ.seq ?_
                  refine CJ.region ?_
                  refine OJ.ef rfl rfl rfl (Ef.lit tU_ok tI_ok hS (C := (ci .i64)) rfl rfl rfl rfl rfl rfl ([] : List Int) rfl rfl rfl rfl) ?_
                  rintro _ w1 ⟨A19, rfl, hS⟩
                  refine OJ.pures tU_ok 2 rfl ?_
                  refine OJ.nil (EJ.next ?_)
                  refine CJ.ret (EJ.skR (EJ.bkR (EJ.skR (EJ.skR (EJ.bkR (EJ.skR (EJ.skR (?_))))))))
                  first | (obtain rfl := Option.some.inj H; have H := K100) | (obtain ⟨q100, H2, e100⟩ := pbind H; obtain rfl := Option.some.inj e100; obtain rfl := Option.some.inj K100; have H := H2)
                  obtain rfl := Option.some.inj H
                  exact EJ.fin rfl (.tmp rfl (.tmp rfl .nil)) ⟨A19, (([] : List Int).length), rfl, hS.pick [2] [] rfl⟩
                · replace H := pifb_f hb H
                  refine CJ.skip (EJ.next ?_)
                  refine CJ.draw [] [0, 1, 2, 3, 4, 5, 6, 7, 8, 9, 10, 11, 12] mixed (by kernel_rfl) hS fun w1 hS => ?_
                  refine DJ.pures tU_ok 3 rfl ?_
                  obtain ⟨t20, ht20, H⟩ := pbind H
                  obtain ⟨ad20, e20⟩ := (hS.rd' (i := 3) rfl).some' ht20
                  refine DJ.st rfl rfl rfl rfl rfl (SR.idxS tU_ok tI_ok rfl rfl rfl rfl e20 rfl (getI_some ht20).1) ?_
                  refine DJ.st rfl rfl rfl rfl rfl (SR.load rfl rfl (fun w' hx => ld1 tU_ok rfl rfl (CA.ext ((hS.rd' (i := 3) rfl).at_ e20 ht20) hx) rfl)) ?_
                  refine DJ.pures tU_ok 3 rfl ?_
                  obtain ⟨t21, ht21, H⟩ := pbind H
                  obtain ⟨ad21, e21⟩ := (hS.rd' (i := 3) rfl).some' ht21
                  refine DJ.st rfl rfl rfl rfl rfl (SR.idxS tU_ok tI_ok rfl rfl rfl rfl e21 rfl (getI_some ht21).1) ?_
                  refine DJ.st rfl rfl rfl rfl rfl (SR.load rfl rfl (fun w' hx => ld1 tU_ok rfl rfl (CA.ext ((hS.rd' (i := 3) rfl).at_ e21 ht21) hx) rfl)) ?_
                  obtain ⟨t22, ht22, H⟩ := pbind H
                  refine DJ.callF rfl rfl rfl rfl rfl rfl rfl hb40 rfl (spec_l06Least.c k _ Aa0_0 ca0_0 Aa0_1 ca0_1 Aa0_2 ca0_2 a0 (hS.rd' (i := 0) rfl) (hS.le' (i := 0) rfl) (hS.rd' (i := 1) rfl) (hS.le' (i := 1) rfl) (hS.rd' (i := 2) rfl) (hS.le' (i := 2) rfl) ⟨b1, 0, none⟩ (hS.cells (i := 0) rfl) A6 ((a1.length : Int).toNat) y12 (hS.rd (i := 1) rfl) (hS.le (i := 1) rfl) t21 _ ht22) (by rintro v w' ⟨rfl, hs⟩; exact hs) ?_
                  rintro _ w1 ⟨rfl, hs⟩
                  replace hS := hS.grow hs
                  obtain ⟨t23, ht23, H⟩ := pbind H
                  obtain ⟨ad23, e23⟩ := (hS.rd (i := 1) rfl).some' ht23
                  refine DJ.st rfl rfl rfl rfl rfl (SR.idxS tU_ok tI_ok rfl rfl rfl rfl e23 rfl (getI_some ht23).1) ?_
                  refine DJ.es rfl rfl rfl rfl (Es.storeR tI_ok hS (i := 1) (off := 0) rfl rfl ht23 e23 rfl rfl rfl rfl (vs := (ci .i64).enc t22) rfl rfl (one1 rfl) (Nat.le_of_ble_eq_true rfl) t22 rfl) ?_
                  intro w1 hS
                  refine DJ.as (t := 6) rfl (show _ = (.slice A6 (y12.set t20.toNat t22).length ((a1.length : Int).toNat) : Value) by simp only [List.length_set]) ?_
                  refine DJ.as (t := 57) rfl (show _ = (.slice A6 (y12.set t20.toNat t22).length ((a1.length : Int).toNat) : Value) by simp only [List.length_set]) ?_
                  refine DJ.as (t := 62) rfl (show _ = (.slice A6 (y12.set t20.toNat t22).length ((a1.length : Int).toNat) : Value) by simp only [List.length_set]) ?_
                  refine DJ.nil (EJ.blk (EJ.next ?_))
                  refine CJ.region ?_
                  refine OJ.pures tU_ok 3 rfl ?_
                  refine OJ.nil ?_
                  exact EJ.round k (F' := [(1, .slice Aa1 a1.length ca1), (2, .pointer (some ⟨b1, 0, none⟩)), (6, .slice A6 (y12.set t20.toNat t22).length ((a1.length : Int).toNat)), (8, .int .i64 (IntKind.i64.wrap (y13 + 1)))]) ⟨rfl, rfl, rfl, rfl, trivial⟩ (Nat.lt_succ_self _) ⟨(y12.set t20.toNat t22), (IntKind.i64.wrap (y13 + 1)), rfl, hS.pick [0, 1] [0, 1, 2, 3] rfl, H⟩
            · replace H := pif_f (of_decide_eq_false hb) H
              refine CJ.exit (EJ.skE (EJ.skE (EJ.hit (?_))))
              exact EJ.meet (F' := [(6, .slice A6 y12.length ((a1.length : Int).toNat))]) ⟨rfl, trivial⟩ ⟨y12, H, rfl, hS.pick [1] [0, 1, 2, 3] rfl⟩
        · rintro F w1 ⟨y11, he, rfl, hS⟩
          obtain rfl := Option.some.inj he
          have H := K100
          refine EJ.next ?_
          refine CJ.seq ?_
          refine CJ.region ?_
          refine OJ.pures tU_ok 3 rfl ?_
          refine OJ.nil (EJ.next ?_)
          refine CJ.ret (?_)
          obtain rfl := Option.some.inj H
          exact EJ.fin rfl (.tmp rfl (.tmp rfl .nil)) ⟨A6, ((a1.length : Int).toNat), rfl, hS.pick [0] [] rfl⟩

def math_bits_OnesCount16.f (a0 : Int) : Option Int := (getB (⟨#[0, 1, 1, 2, 1, 2, 2, 3, 1, 2, 2, 3, 2, 3, 3, 4, 1, 2, 2, 3, 2, 3, 3, 4, 2, 3, 3, 4, 3, 4, 4, 5, 1, 2, 2, 3, 2, 3, 3, 4, 2, 3, 3, 4, 3, 4, 4, 5, 2, 3, 3, 4, 3, 4, 4, 5, 3, 4, 4, 5, 4, 5, 5, 6, 1, 2, 2, 3, 2, 3, 3, 4, 2, 3, 3, 4, 3, 4, 4, 5, 2, 3, 3, 4, 3, 4, 4, 5, 3, 4, 4, 5, 4, 5, 5, 6, 2, 3, 3, 4, 3, 4, 4, 5, 3, 4, 4, 5, 4, 5, 5, 6, 3, 4, 4, 5, 4, 5, 5, 6, 4, 5, 5, 6, 5, 6, 6, 7, 1, 2, 2, 3, 2, 3, 3, 4, 2, 3, 3, 4, 3, 4, 4, 5, 2, 3, 3, 4, 3, 4, 4, 5, 3, 4, 4, 5, 4, 5, 5, 6, 2, 3, 3, 4, 3, 4, 4, 5, 3, 4, 4, 5, 4, 5, 5, 6, 3, 4, 4, 5, 4, 5, 5, 6, 4, 5, 5, 6, 5, 6, 6, 7, 2, 3, 3, 4, 3, 4, 4, 5, 3, 4, 4, 5, 4, 5, 5, 6, 3, 4, 4, 5, 4, 5, 5, 6, 4, 5, 5, 6, 5, 6, 6, 7, 3, 4, 4, 5, 4, 5, 5, 6, 4, 5, 5, 6, 5, 6, 6, 7, 4, 5, 5, 6, 5, 6, 6, 7, 5, 6, 6, 7, 6, 7, 7, 8]⟩ : ByteArray) (shrI .u16 a0 8)).bind fun t1 => (getB (⟨#[0, 1, 1, 2, 1, 2, 2, 3, 1, 2, 2, 3, 2, 3, 3, 4, 1, 2, 2, 3, 2, 3, 3, 4, 2, 3, 3, 4, 3, 4, 4, 5, 1, 2, 2, 3, 2, 3, 3, 4, 2, 3, 3, 4, 3, 4, 4, 5, 2, 3, 3, 4, 3, 4, 4, 5, 3, 4, 4, 5, 4, 5, 5, 6, 1, 2, 2, 3, 2, 3, 3, 4, 2, 3, 3, 4, 3, 4, 4, 5, 2, 3, 3, 4, 3, 4, 4, 5, 3, 4, 4, 5, 4, 5, 5, 6, 2, 3, 3, 4, 3, 4, 4, 5, 3, 4, 4, 5, 4, 5, 5, 6, 3, 4, 4, 5, 4, 5, 5, 6, 4, 5, 5, 6, 5, 6, 6, 7, 1, 2, 2, 3, 2, 3, 3, 4, 2, 3, 3, 4, 3, 4, 4, 5, 2, 3, 3, 4, 3, 4, 4, 5, 3, 4, 4, 5, 4, 5, 5, 6, 2, 3, 3, 4, 3, 4, 4, 5, 3, 4, 4, 5, 4, 5, 5, 6, 3, 4, 4, 5, 4, 5, 5, 6, 4, 5, 5, 6, 5, 6, 6, 7, 2, 3, 3, 4, 3, 4, 4, 5, 3, 4, 4, 5, 4, 5, 5, 6, 3, 4, 4, 5, 4, 5, 5, 6, 4, 5, 5, 6, 5, 6, 6, 7, 3, 4, 4, 5, 4, 5, 5, 6, 4, 5, 5, 6, 5, 6, 6, 7, 4, 5, 5, 6, 5, 6, 6, 7, 5, 6, 6, 7, 6, 7, 7, 8]⟩ : ByteArray) (andI .u16 a0 255)).bind fun t2 => some (IntKind.i64.wrap (IntKind.u8.wrap (t1 + t2)))
theorem math_bits_OnesCount16.c (w : World) (a0 : Int) (r : Int) (H : math_bits_OnesCount16.f a0 = some r) :
    CV Tryz.prog 73 [.int .u16 a0].toArray w fun v w' => v = .int .i64 r ∧ Ext w w' := by
  have hS := (St.init w no)
  unfold math_bits_OnesCount16.f at H
  refine CV.body Tryz.func73 rfl Tryz.ntmps73 rfl ?_
  refine CJ.seq ?_
  refine CJ.region ?_
  refine OJ.pures tU_ok 1 rfl ?_
  refine OJ.nil (EJ.next ?_)
  refine CJ.seq ?_
  refine CJ.draw [] [0, 1, 2, 3, 4, 5, 6, 7, 8] mixed (by kernel_rfl) hS fun w1 hS => ?_
  refine DJ.pures tU_ok 1 rfl ?_
  refine DJ.st rfl rfl rfl rfl rfl (SR.shr rfl rfl rfl (by decide)) ?_
  obtain ⟨t1, ht1, H⟩ := pbind H
  refine DJ.st rfl rfl rfl rfl rfl (SR.idxStr tU_ok rfl rfl rfl rfl ht1) ?_
  refine DJ.pures tU_ok 2 rfl ?_
  obtain ⟨t2, ht2, H⟩ := pbind H
  refine DJ.st rfl rfl rfl rfl rfl (SR.idxStr tU_ok rfl rfl rfl rfl ht2) ?_
  refine DJ.pures tU_ok 3 rfl ?_
  refine DJ.nil (EJ.next ?_)
  refine CJ.ret (?_)
  obtain rfl := Option.some.inj H
  exact EJ.fin rfl (.tmp rfl .nil) ⟨rfl, hS.ext⟩

def cmp_isNaN_int64.f (a0 : Int) : Option Bool := some (decide (a0 ≠ a0))
theorem cmp_isNaN_int64.c (w : World) (a0 : Int) (r : Bool) (H : cmp_isNaN_int64.f a0 = some r) :
    CV Tryz.prog 104 [.int .i64 a0].toArray w fun v w' => v = .bool r ∧ Ext w w' := by
  have hS := (St.init w no)
  unfold cmp_isNaN_int64.f at H
  refine CV.body Tryz.func104 rfl Tryz.ntmps104 rfl ?_
  refine CJ.seq ?_
  refine CJ.region ?_
  refine OJ.pures tU_ok 1 rfl ?_
  refine OJ.nil (EJ.next ?_)
  refine CJ.seq ?_
  refine CJ.region ?_
  refine OJ.pures tU_ok 4 rfl ?_
  refine OJ.nil (EJ.next ?_)
  refine CJ.ret (?_)
  obtain rfl := Option.some.inj H
  exact EJ.fin rfl (.tmp rfl .nil) ⟨rfl, hS.ext⟩

def cmp_Compare_int64.f (a0 : Int) (a1 : Int) : Option Int := (cmp_isNaN_int64.f a0).bind fun t1 => (cmp_isNaN_int64.f a1).bind fun t2 => if t1 = true then (if t2 = true then (some 0) else (some (-1))) else (if t2 = true then (some 1) else (if a0 < a1 then (some (-1)) else (if a1 < a0 then (some 1) else (some 0))))
theorem cmp_Compare_int64.c (w : World) (a0 : Int) (a1 : Int) (r : Int) (H : cmp_Compare_int64.f a0 a1 = some r) :
    CV Tryz.prog 85 [.int .i64 a0, .int .i64 a1].toArray w fun v w' => v = .int .i64 r ∧ Ext w w' := by
  have hS := (St.init w no)
  unfold cmp_Compare_int64.f at H
  refine CV.body Tryz.func85 rfl Tryz.ntmps85 rfl ?_
  refine CJ.seq ?_
  refine CJ.region ?_
  refine OJ.pures tU_ok 1 rfl ?_
  refine OJ.nil (EJ.next ?_)
  refine CJ.seq ?_
  refine CJ.region ?_
  refine OJ.pures tU_ok 1 rfl ?_
  obtain ⟨t1, ht1, H⟩ := pbind H
  refine OJ.callF rfl rfl rfl rfl rfl hb104 rfl (cmp_isNaN_int64.c _ a0 _ ht1) ?_
  rintro _ w1 ⟨rfl, hs⟩
  replace hS := hS.grow hs
  refine OJ.pures tU_ok 1 rfl ?_
  refine OJ.nil (EJ.next ?_)
  refine CJ.seq ?_
  refine CJ.region ?_
  refine OJ.pures tU_ok 1 rfl ?_
  obtain ⟨t2, ht2, H⟩ := pbind H
  refine OJ.callF rfl rfl rfl rfl rfl hb104 rfl (cmp_isNaN_int64.c _ a1 _ ht2) ?_
  rintro _ w1 ⟨rfl, hs⟩
  replace hS := hS.grow hs
  refine OJ.pures tU_ok 1 rfl ?_
  refine OJ.nil (EJ.next ?_)
  refine CJ.seq ?_
  refine CJ.seq ?_
  refine CJ.region ?_
  refine OJ.pures tU_ok 1 rfl ?_
  refine OJ.nil (EJ.next ?_)
  refine CJ.cond rfl (fun hb => ?_) (fun hb => ?_)
  · replace H := pif_t hb H
    refine CJ.seq ?_
    refine CJ.seq ?_
    refine CJ.region ?_
    refine OJ.pures tU_ok 1 rfl ?_
    refine OJ.nil (EJ.next ?_)
    refine CJ.cond rfl (fun hb => ?_) (fun hb => ?_)
    · replace H := pif_t hb H
      refine CJ.seq ?_
      refine CJ.region ?_
      refine OJ.pures tU_ok 1 rfl ?_
      refine OJ.nil (EJ.next ?_)
      refine CJ.ret (EJ.skR (EJ.skR (?_)))
      obtain rfl := Option.some.inj H
      exact EJ.fin rfl (.tmp rfl .nil) ⟨rfl, hS.ext⟩
    · replace H := pifb_f hb H
      refine CJ.skip (EJ.next ?_)
      refine CJ.seq ?_
      refine CJ.region ?_
      refine OJ.pures tU_ok 1 rfl ?_
      refine OJ.nil (EJ.next ?_)
      refine CJ.ret (EJ.skR (?_))
      obtain rfl := Option.some.inj H
      exact EJ.fin rfl (.tmp rfl .nil) ⟨rfl, hS.ext⟩
  · replace H := pifb_f hb H
    refine CJ.skip (EJ.next ?_)
    refine CJ.seq ?_
    refine CJ.seq ?_
    refine CJ.region ?_
    refine OJ.pures tU_ok 1 rfl ?_
    refine OJ.nil (EJ.next ?_)
    refine CJ.cond rfl (fun hb => ?_) (fun hb => ?_)
    · replace H := pif_t hb H
      refine CJ.seq ?_
      refine CJ.region ?_
      refine OJ.pures tU_ok 1 rfl ?_
      refine OJ.nil (EJ.next ?_)
      refine CJ.ret (EJ.skR (?_))
      obtain rfl := Option.some.inj H
      exact EJ.fin rfl (.tmp rfl .nil) ⟨rfl, hS.ext⟩
    · replace H := pifb_f hb H
      refine CJ.skip (EJ.next ?_)
      refine CJ.seq ?_
      refine CJ.seq ?_
      refine CJ.region ?_
      refine OJ.pures tU_ok 3 rfl ?_
      refine OJ.nil (EJ.next ?_)
      refine CJ.cond rfl (fun hb => ?_) (fun hb => ?_)
      · replace H := pif_t (of_decide_eq_true hb) H
        refine CJ.seq ?_
        refine CJ.region ?_
        refine OJ.pures tU_ok 1 rfl ?_
        refine OJ.nil (EJ.next ?_)
        refine CJ.ret (EJ.skR (?_))
        obtain rfl := Option.some.inj H
        exact EJ.fin rfl (.tmp rfl .nil) ⟨rfl, hS.ext⟩
      · replace H := pif_f (of_decide_eq_false hb) H
        refine CJ.skip (EJ.next ?_)
        refine CJ.seq ?_
        refine CJ.seq ?_
        refine CJ.region ?_
        refine OJ.pures tU_ok 3 rfl ?_
        refine OJ.nil (EJ.next ?_)
        refine CJ.cond rfl (fun hb => ?_) (fun hb => ?_)
        · replace H := pif_t (of_decide_eq_true hb) H
          refine CJ.seq ?_
          refine CJ.region ?_
          refine OJ.pures tU_ok 1 rfl ?_
          refine OJ.nil (EJ.next ?_)
          refine CJ.ret (EJ.skR (?_))
          obtain rfl := Option.some.inj H
          exact EJ.fin rfl (.tmp rfl .nil) ⟨rfl, hS.ext⟩
        · replace H := pif_f (of_decide_eq_false hb) H
          refine CJ.skip (EJ.next ?_)
          refine CJ.seq ?_
          refine CJ.region ?_
          refine OJ.pures tU_ok 1 rfl ?_
          refine OJ.nil (EJ.next ?_)
          refine CJ.ret (?_)
          obtain rfl := Option.some.inj H
          exact EJ.fin rfl (.tmp rfl .nil) ⟨rfl, hS.ext⟩

def slices_Compare_int64_int64.l1 (a0 : List Int) (a1 : List Int) : Nat → Int → Option (Int ⊕ Unit)
  | 0, _ => none
  | k + 1, y1 => if y1 < (a0.length : Int) then ((getI a0 y1).bind fun t2 => if (a1.length : Int) ≤ y1 then (some (Sum.inl 1)) else ((getI a1 y1).bind fun t3 => (cmp_Compare_int64.f t2 t3).bind fun t4 => if t4 ≠ 0 then (some (Sum.inl t4)) else (slices_Compare_int64_int64.l1 a0 a1 k (IntKind.i64.wrap (y1 + 1))))) else (some (Sum.inr ()))
def slices_Compare_int64_int64.f (k : Nat) (a0 : List Int) (a1 : List Int) : Option Int := (slices_Compare_int64_int64.l1 a0 a1 k 0).bind fun s117 => match s117 with | .inl r => some r | .inr _ => if (a0.length : Int) < (a1.length : Int) then (some (-1)) else (some 0)
theorem slices_Compare_int64_int64.c (k : Nat) (w : World) (Aa0 : Option Addr) (ca0 : Nat) (a0 : List Int) (hr0 : Rd (ci .i64) w Aa0 a0) (hc0 : a0.length ≤ ca0) (Aa1 : Option Addr) (ca1 : Nat) (a1 : List Int) (hr1 : Rd (ci .i64) w Aa1 a1) (hc1 : a1.length ≤ ca1) (r : Int) (H : slices_Compare_int64_int64.f k a0 a1 = some r) :
    CV Tryz.prog 74 [.slice Aa0 a0.length ca0, .slice Aa1 a1.length ca1].toArray w fun v w' => v = .int .i64 r ∧ Ext w w' := by
  have hS := (((St.init w no).param (ci .i64) Aa0 ca0 a0 hr0 hc0).param (ci .i64) Aa1 ca1 a1 hr1 hc1)
  unfold slices_Compare_int64_int64.f at H
  refine CV.body Tryz.func74 rfl Tryz.ntmps74 rfl ?_
  refine CJ.seq ?_
  refine CJ.region ?_
  refine OJ.pures tU_ok 1 rfl ?_
  refine OJ.nil (EJ.next ?_)
  refine CJ.seq ?_
  refine CJ.seq ?_
  refine CJ.region ?_
  refine OJ.pures tU_ok 3 rfl ?_
  refine OJ.nil (EJ.next ?_)
  obtain ⟨j117, H, K117⟩ := pbind H
  refine CJ.cut1 (fun F w1 => (some (Sum.inr ()) : Option (Int ⊕ Unit)) = some j117 ∧ F = [(0, .slice Aa0 a0.length ca0), (1, .slice Aa1 a1.length ca1)] ∧ St w no w1 [] [roC (ci .i64) Aa0 ca0 a0, roC (ci .i64) Aa1 ca1 a1]) ?_ ?_
  · skip
    refine CJ.block ?_
    refine CJ.loop (fun k F w1 => ∃ (y1 : Int), F = [(0, .slice Aa0 a0.length ca0), (1, .slice Aa1 a1.length ca1), (9, .slice Aa0 a0.length ca0), (10, .int .i64 (a0.length : Int)), (11, .int .i64 y1)] ∧ St w no w1 [] [roC (ci .i64) Aa0 ca0 a0, roC (ci .i64) Aa1 ca1 a1] ∧ slices_Compare_int64_int64.l1 a0 a1 k y1 = some j117) k (F' := [(0, .slice Aa0 a0.length ca0), (1, .slice Aa1 a1.length ca1), (9, .slice Aa0 a0.length ca0), (10, .int .i64 (a0.length : Int)), (11, .int .i64 0)]) ⟨rfl, rfl, rfl, rfl, rfl, trivial⟩ ⟨0, rfl, hS.pick [] [0, 1] rfl, H⟩ ?_
    rintro k F w1 ⟨y1, rfl, hS, H⟩
    cases k with
    | zero => rw [slices_Compare_int64_int64.l1] at H; cases H
    | succ k =>
      rw [slices_Compare_int64_int64.l1] at H
      refine CJ.seq ?_
      refine CJ.region ?_
      refine OJ.pures tU_ok 1 rfl ?_
      refine OJ.nil (EJ.next ?_)
      refine CJ.seq ?_
      refine CJ.cond rfl (fun hb => ?_) (fun hb => ?_)
      · replace H := pif_t (of_decide_eq_true hb) H
        refine CJ.skip (EJ.next ?_)
        refine CJ.seq ?_
        refine CJ.block ?_
        refine CJ.seq ?_
        refine CJ.region ?_
        refine OJ.pures tU_ok 1 rfl ?_
        obtain ⟨t2, ht2, H⟩ := pbind H
        obtain ⟨ad2, e2⟩ := (hS.rd' (i := 0) rfl).some' ht2
        refine OJ.st rfl rfl rfl (SR.idxS tU_ok tI_ok rfl rfl rfl rfl e2 rfl (getI_some ht2).1) ?_
        refine OJ.st rfl rfl rfl (SR.load rfl rfl (fun w' hx => ld1 tU_ok rfl rfl (CA.ext ((hS.rd' (i := 0) rfl).at_ e2 ht2) hx) rfl)) ?_
        refine OJ.pures tU_ok 2 rfl ?_
        refine OJ.nil (EJ.next ?_)
        refine CJ.seq ?_
        refine CJ.seq ?_
        refine CJ.region ?_
        refine OJ.pures tU_ok 4 rfl ?_
        refine OJ.nil (EJ.next ?_)
        refine CJ.cond rfl (fun hb => ?_) (fun hb => ?_)
        · replace H := pif_t (of_decide_eq_true hb) H
          refine CJ.seq ?_
          refine CJ.region ?_
          refine OJ.pures tU_ok 1 rfl ?_
          refine OJ.nil (EJ.next ?_)
          refine CJ.ret (EJ.skR (EJ.bkR (EJ.skR (EJ.skR (EJ.bkR (EJ.skR (EJ.skR (?_))))))))
          first | (obtain rfl := Option.some.inj H; have H := K117) | (obtain ⟨q117, H2, e117⟩ := pbind H; obtain rfl := Option.some.inj e117; obtain rfl := Option.some.inj K117; have H := H2)
          obtain rfl := Option.some.inj H
          exact EJ.fin rfl (.tmp rfl .nil) ⟨rfl, hS.ext⟩
        · replace H := pif_f (of_decide_eq_false hb) H
          refine CJ.skip (EJ.next ?_)
          refine CJ.seq ?_
          refine CJ.region ?_
          refine OJ.pures tU_ok 2 rfl ?_
          obtain ⟨t3, ht3, H⟩ := pbind H
          obtain ⟨ad3, e3⟩ := (hS.rd' (i := 1) rfl).some' ht3
          refine OJ.st rfl rfl rfl (SR.idxS tU_ok tI_ok rfl rfl rfl rfl e3 rfl (getI_some ht3).1) ?_
          refine OJ.st rfl rfl rfl (SR.load rfl rfl (fun w' hx => ld1 tU_ok rfl rfl (CA.ext ((hS.rd' (i := 1) rfl).at_ e3 ht3) hx) rfl)) ?_
          refine OJ.pures tU_ok 1 rfl ?_
          refine OJ.nil (EJ.next ?_)
          refine CJ.seq ?_
          refine CJ.region ?_
          refine OJ.pures tU_ok 2 rfl ?_
          obtain ⟨t4, ht4, H⟩ := pbind H
          refine OJ.callF rfl rfl rfl rfl rfl hb85 rfl (cmp_Compare_int64.c _ t2 t3 _ ht4) ?_
          rintro _ w1 ⟨rfl, hs⟩
          replace hS := hS.grow hs
          refine OJ.pures tU_ok 1 rfl ?_
          refine OJ.nil (EJ.next ?_)
          refine CJ.seq ?_
          refine CJ.region ?_
          refine OJ.pures tU_ok 2 rfl ?_
          refine OJ.nil (EJ.next ?_)
          refine CJ.cond rfl (fun hb => ?_) (fun hb => ?_)
          · replace H := pif_t (of_decide_eq_true hb) H
            refine CJ.seq ?_
            refine CJ.region ?_
            refine OJ.pures tU_ok 2 rfl ?_
            refine OJ.nil (EJ.next ?_)
            refine CJ.ret (EJ.bkR (EJ.skR (EJ.skR (EJ.bkR (EJ.skR (EJ.skR (?_)))))))
            first | (obtain rfl := Option.some.inj H; have H := K117) | (obtain ⟨q117, H2, e117⟩ := pbind H; obtain rfl := Option.some.inj e117; obtain rfl := Option.some.inj K117; have H := H2)
            obtain rfl := Option.some.inj H
            exact EJ.fin rfl (.tmp rfl .nil) ⟨rfl, hS.ext⟩
          · replace H := pif_f (of_decide_eq_false hb) H
            refine CJ.skip (EJ.blk (EJ.next ?_))
            refine CJ.region ?_
            refine OJ.pures tU_ok 2 rfl ?_
            refine OJ.nil ?_
            exact EJ.round k (F' := [(0, .slice Aa0 a0.length ca0), (1, .slice Aa1 a1.length ca1), (9, .slice Aa0 a0.length ca0), (10, .int .i64 (a0.length : Int)), (11, .int .i64 (IntKind.i64.wrap (y1 + 1)))]) ⟨rfl, rfl, rfl, rfl, rfl, trivial⟩ (Nat.lt_succ_self _) ⟨(IntKind.i64.wrap (y1 + 1)), rfl, hS.pick [] [0, 1] rfl, H⟩
      · replace H := pif_f (of_decide_eq_false hb) H
        refine CJ.exit (EJ.skE (EJ.skE (EJ.hit (?_))))
        exact EJ.meet (F' := [(0, .slice Aa0 a0.length ca0), (1, .slice Aa1 a1.length ca1)]) ⟨rfl, rfl, trivial⟩ ⟨H, rfl, hS.pick [] [0, 1] rfl⟩
  · rintro F w1 ⟨he, rfl, hS⟩
    obtain rfl := Option.some.inj he
    have H := K117
    refine EJ.next ?_
    refine CJ.seq ?_
    refine CJ.seq ?_
    refine CJ.region ?_
    refine OJ.pures tU_ok 5 rfl ?_
    refine OJ.nil (EJ.next ?_)
    refine CJ.cond rfl (fun hb => ?_) (fun hb => ?_)
    · replace H := pif_t (of_decide_eq_true hb) H
      refine CJ.seq ?_
      refine CJ.region ?_
      refine OJ.pures tU_ok 1 rfl ?_
      refine OJ.nil (EJ.next ?_)
      refine CJ.ret (EJ.skR (?_))
      obtain rfl := Option.some.inj H
      exact EJ.fin rfl (.tmp rfl .nil) ⟨rfl, hS.ext⟩
    · replace H := pif_f (of_decide_eq_false hb) H
      refine CJ.skip (EJ.next ?_)
      refine CJ.seq ?_
      refine CJ.region ?_
      refine OJ.pures tU_ok 1 rfl ?_
      refine OJ.nil (EJ.next ?_)
      refine CJ.ret (?_)
      obtain rfl := Option.some.inj H
      exact EJ.fin rfl (.tmp rfl .nil) ⟨rfl, hS.ext⟩

def impl_Herd_largest.l2 (a0 : Herd) (a1 : Bool) (y5 : Int) (t7 : List Int) : Nat → Bool → Int → Option Bool
  | 0, _, _ => none
  | k + 1, y11, y12 => if y12 < (t7.length : Int) then ((getI t7 y12).bind fun t13 => (chk (0 ≤ t13)).bind fun u14 => if a1 = true then (if y11 = true then ((getI a0.Foes t13).bind fun t15 => impl_Herd_largest.l2 a0 a1 y5 t7 k (decide ((andNotI .u16 (andNotI .u16 (IntKind.u16.wrap y5) (shlI .u16 1 t13)) t15) = 0)) (IntKind.i64.wrap (y12 + 1))) else (impl_Herd_largest.l2 a0 a1 y5 t7 k false (IntKind.i64.wrap (y12 + 1)))) else (if y11 = true then ((getI a0.Foes t13).bind fun t16 => impl_Herd_largest.l2 a0 a1 y5 t7 k (decide ((andI .u16 (andNotI .u16 (IntKind.u16.wrap y5) (shlI .u16 1 t13)) t16) = 0)) (IntKind.i64.wrap (y12 + 1))) else (impl_Herd_largest.l2 a0 a1 y5 t7 k false (IntKind.i64.wrap (y12 + 1))))) else (some y11)
def impl_Herd_largest.l1 (a0 : Herd) (a1 : Bool) : Nat → Int → Int → Option Int
  | 0, _, _ => none
  | k + 1, y4, y5 => if y5 < (shlI .u32 1 (a0.Names.length : Int)) then (((impl_listed.f k (IntKind.u16.wrap y5)).bind fun t7 => (impl_Herd_largest.l2 a0 a1 y5 t7 k true 0).bind fun y10 => (math_bits_OnesCount16.f (IntKind.u16.wrap y5)).bind fun t17 => (math_bits_OnesCount16.f y4).bind fun t18 => if y10 = true then (if 0 < (IntKind.i64.wrap (t17 - t18)) then (some (IntKind.u16.wrap y5)) else (if (IntKind.i64.wrap (t17 - t18)) = 0 then ((impl_listed.f k (IntKind.u16.wrap y5)).bind fun t19 => (impl_listed.f k y4).bind fun t22 => (slices_Compare_int64_int64.f k t19 t22).bind fun t25 => if t25 < 0 then (some (IntKind.u16.wrap y5)) else (some y4)) else (some y4))) else (some y4)).bind fun y6 => impl_Herd_largest.l1 a0 a1 k y6 (IntKind.u32.wrap (y5 + 1))) else (some y4)
def impl_Herd_largest.f (k : Nat) (a0 : Herd) (a1 : Bool) : Option (List Int) := (chk (0 ≤ (a0.Names.length : Int))).bind fun u2 => (impl_Herd_largest.l1 a0 a1 k 0 0).bind fun y3 => (impl_listed.f k y3).bind fun t26 => some t26
theorem impl_Herd_largest.c (k : Nat) (w : World) (Aa0_0 : Option Addr) (ca0_0 : Nat) (Aa0_1 : Option Addr) (ca0_1 : Nat) (Aa0_2 : Option Addr) (ca0_2 : Nat) (a0 : Herd) (hr0_0 : Rd G.cs w Aa0_0 a0.Names) (hc0_0 : a0.Names.length ≤ ca0_0) (hr0_1 : Rd (ci .i16) w Aa0_1 a0.Eats) (hc0_1 : a0.Eats.length ≤ ca0_1) (hr0_2 : Rd (ci .u16) w Aa0_2 a0.Foes) (hc0_2 : a0.Foes.length ≤ ca0_2) (a1 : Bool) (r : List Int) (H : impl_Herd_largest.f k a0 a1 = some r) :
    CV Tryz.prog 41 [.agg [.slice Aa0_0 a0.Names.length ca0_0, .slice Aa0_1 a0.Eats.length ca0_1, .slice Aa0_2 a0.Foes.length ca0_2].toArray, .bool a1].toArray w fun v w' => ∃ (A0 : Option Addr) (c0 : Nat), v = .slice A0 r.length c0 ∧ St w no w' [rowC (ci .i64) A0 c0 2 r] [] := by
  have hS := ((((St.init w no).param G.cs Aa0_0 ca0_0 a0.Names hr0_0 hc0_0).param (ci .i16) Aa0_1 ca0_1 a0.Eats hr0_1 hc0_1).param (ci .u16) Aa0_2 ca0_2 a0.Foes hr0_2 hc0_2)
  unfold impl_Herd_largest.f at H
  refine CV.body Tryz.func41 rfl Tryz.ntmps41 rfl ?_
  refine CJ.seq ?_
  refine CJ.region ?_
  refine OJ.ef rfl rfl rfl (Ef.box hS rfl rfl ([.slice Aa0_0 a0.Names.length ca0_0, .slice Aa0_1 a0.Eats.length ca0_1, .slice Aa0_2 a0.Foes.length ca0_2]) rfl) ?_
  rintro _ w1 ⟨b1, rfl, hS⟩
  refine OJ.pures tU_ok 1 rfl ?_
  refine OJ.nil (EJ.next ?_)
  refine CJ.seq ?_
  refine CJ.region ?_
  refine OJ.pures tU_ok 1 rfl ?_
  refine OJ.nil (EJ.next ?_)
  refine CJ.seq ?_
  refine CJ.seq ?_
  refine CJ.region ?_
  refine OJ.st rfl rfl rfl (SR.fieldAddr tU_ok tI_ok rfl rfl rfl rfl rfl rfl) ?_
  refine OJ.st rfl rfl rfl (SR.load rfl rfl (fun w' hx => ld1 tU_ok rfl rfl (CA.ext (CA.sub (hS.cells (i := 0) rfl) 0) hx) rfl)) ?_
  refine OJ.pures tU_ok 1 rfl ?_
  obtain ⟨u2, hu2, H⟩ := pbind H
  refine OJ.st rfl rfl rfl (SR.shl rfl rfl rfl (chk_some hu2)) ?_
  refine OJ.pures tU_ok 1 rfl ?_
  refine OJ.nil (EJ.next ?_)
  obtain ⟨j114, H, K114⟩ := pbind H
  refine CJ.cut1 (fun F w1 => ∃ (y3 : Int) , (some y3 : Option Int) = some j114 ∧ F = [(5, .int .u16 y3)] ∧ St w no w1 [] [roC G.cs Aa0_0 ca0_0 a0.Names, roC (ci .i16) Aa0_1 ca0_1 a0.Eats, roC (ci .u16) Aa0_2 ca0_2 a0.Foes]) ?_ ?_
  · skip
    refine CJ.block ?_
    refine CJ.loop (fun k F w1 => ∃ (y4 : Int) (y5 : Int), F = [(1, .bool a1), (2, .pointer (some ⟨b1, 0, none⟩)), (5, .int .u16 y4), (16, .int .u32 (shlI .u32 1 (a0.Names.length : Int))), (17, .int .u32 y5)] ∧ St w no w1 [box b1 ([.slice Aa0_0 a0.Names.length ca0_0, .slice Aa0_1 a0.Eats.length ca0_1, .slice Aa0_2 a0.Foes.length ca0_2]) 28] [roC G.cs Aa0_0 ca0_0 a0.Names, roC (ci .i16) Aa0_1 ca0_1 a0.Eats, roC (ci .u16) Aa0_2 ca0_2 a0.Foes] ∧ impl_Herd_largest.l1 a0 a1 k y4 y5 = some j114) k (F' := [(1, .bool a1), (2, .pointer (some ⟨b1, 0, none⟩)), (5, .int .u16 0), (16, .int .u32 (shlI .u32 1 (a0.Names.length : Int))), (17, .int .u32 0)]) ⟨rfl, rfl, rfl, rfl, rfl, trivial⟩ ⟨0, 0, rfl, hS.pick [0] [0, 1, 2] rfl, H⟩ ?_
    rintro k F w1 ⟨y4, y5, rfl, hS, H⟩
    cases k with
    | zero => rw [impl_Herd_largest.l1] at H; cases H
    | succ k =>
      rw [impl_Herd_largest.l1] at H
      refine CJ.seq ?_
      refine CJ.region ?_
      refine OJ.pures tU_ok 1 rfl ?_
      refine OJ.nil (EJ.next ?_)
      refine CJ.seq ?_
      refine CJ.cond rfl (fun hb => ?_) (fun hb => ?_)
      · replace H := pif_t (of_decide_eq_true hb) H
        refine CJ.skip (EJ.next ?_)
        obtain ⟨j122, H, K122⟩ := pbind H
        refine CJ.cut (fun F w1 => ∃ (y6 : Int) , (some y6 : Option Int) = some j122 ∧ F = [(1, .bool a1), (2, .pointer (some ⟨b1, 0, none⟩)), (5, .int .u16 y6), (16, .int .u32 (shlI .u32 1 (a0.Names.length : Int))), (17, .int .u32 y5)] ∧ St w no w1 [box b1 ([.slice Aa0_0 a0.Names.length ca0_0, .slice Aa0_1 a0.Eats.length ca0_1, .slice Aa0_2 a0.Foes.length ca0_2]) 28] [roC G.cs Aa0_0 ca0_0 a0.Names, roC (ci .i16) Aa0_1 ca0_1 a0.Eats, roC (ci .u16) Aa0_2 ca0_2 a0.Foes]) ?_ ?_
        · skip
          refine CJ.block ?_
          refine CJ.seq ?_
          refine CJ.region ?_
          refine OJ.pures tU_ok 2 rfl ?_
          refine OJ.nil (EJ.next ?_)
          refine CJ.seq ?_
          refine CJ.region ?_
          refine OJ.pures tU_ok 4 rfl ?_
          refine OJ.nil (EJ.next ?_)
          refine CJ.seq ?_
          refine CJ.seq ?_
          refine CJ.region ?_
          refine OJ.pures tU_ok 1 rfl ?_
          obtain ⟨t7, ht7, H⟩ := pbind H
          refine OJ.callF rfl rfl rfl rfl rfl hb37 rfl (impl_listed.c k _ (IntKind.u16.wrap y5) _ ht7) ?_
          rintro _ w1 ⟨A8, c9, rfl, hs⟩
          replace hS := hS.addN hs
          refine OJ.pures tU_ok 2 rfl ?_
          refine OJ.nil (EJ.next ?_)
          obtain ⟨j124, H, K124⟩ := pbind H
          refine CJ.cut1 (fun F w1 => ∃ (y10 : Bool) , (some y10 : Option Bool) = some j124 ∧ F = [(1, .bool a1), (2, .pointer (some ⟨b1, 0, none⟩)), (5, .int .u16 y4), (7, .int .u16 (IntKind.u16.wrap y5)), (8, .bool y10), (16, .int .u32 (shlI .u32 1 (a0.Names.length : Int))), (17, .int .u32 y5)] ∧ St w no w1 [box b1 ([.slice Aa0_0 a0.Names.length ca0_0, .slice Aa0_1 a0.Eats.length ca0_1, .slice Aa0_2 a0.Foes.length ca0_2]) 28] [roC G.cs Aa0_0 ca0_0 a0.Names, roC (ci .i16) Aa0_1 ca0_1 a0.Eats, roC (ci .u16) Aa0_2 ca0_2 a0.Foes]) ?_ ?_
          · skip
            refine CJ.block ?_
            refine CJ.loop (fun k F w1 => ∃ (y11 : Bool) (y12 : Int), F = [(1, .bool a1), (2, .pointer (some ⟨b1, 0, none⟩)), (5, .int .u16 y4), (7, .int .u16 (IntKind.u16.wrap y5)), (8, .bool y11), (16, .int .u32 (shlI .u32 1 (a0.Names.length : Int))), (17, .int .u32 y5), (23, .slice A8 t7.length c9), (24, .int .i64 (t7.length : Int)), (25, .int .i64 y12)] ∧ St w no w1 [box b1 ([.slice Aa0_0 a0.Names.length ca0_0, .slice Aa0_1 a0.Eats.length ca0_1, .slice Aa0_2 a0.Foes.length ca0_2]) 28, rowC (ci .i64) A8 c9 2 t7] [roC G.cs Aa0_0 ca0_0 a0.Names, roC (ci .i16) Aa0_1 ca0_1 a0.Eats, roC (ci .u16) Aa0_2 ca0_2 a0.Foes] ∧ impl_Herd_largest.l2 a0 a1 y5 t7 k y11 y12 = some j124) k (F' := [(1, .bool a1), (2, .pointer (some ⟨b1, 0, none⟩)), (5, .int .u16 y4), (7, .int .u16 (IntKind.u16.wrap y5)), (8, .bool true), (16, .int .u32 (shlI .u32 1 (a0.Names.length : Int))), (17, .int .u32 y5), (23, .slice A8 t7.length c9), (24, .int .i64 (t7.length : Int)), (25, .int .i64 0)]) ⟨rfl, rfl, rfl, rfl, rfl, rfl, rfl, rfl, rfl, rfl, trivial⟩ ⟨true, 0, rfl, hS.pick [0, 1] [0, 1, 2] rfl, H⟩ ?_
            rintro k F w1 ⟨y11, y12, rfl, hS, H⟩
            cases k with
            | zero => rw [impl_Herd_largest.l2] at H; cases H
            | succ k =>
              rw [impl_Herd_largest.l2] at H
              refine CJ.seq ?_
              refine CJ.region ?_
              refine OJ.pures tU_ok 1 rfl ?_
              refine OJ.nil (EJ.next ?_)
              refine CJ.seq ?_
              refine CJ.cond rfl (fun hb => ?_) (fun hb => ?_)
              · replace H := pif_t (of_decide_eq_true hb) H
                refine CJ.skip (EJ.next ?_)
                refine CJ.seq ?_
                refine CJ.block ?_
                refine CJ.seq ?_
                refine CJ.region ?_
                obtain ⟨t13, ht13, H⟩ := pbind H
                obtain ⟨ad13, e13⟩ := (hS.rd (i := 1) rfl).some' ht13
                refine OJ.st rfl rfl rfl (SR.idxS tU_ok tI_ok rfl rfl rfl rfl e13 rfl (getI_some ht13).1) ?_
                refine OJ.st rfl rfl rfl (SR.load rfl rfl (fun w' hx => ld1 tU_ok rfl rfl (CA.ext ((hS.rd (i := 1) rfl).at_ e13 ht13) hx) rfl)) ?_
                refine OJ.pures tU_ok 1 rfl ?_
                refine OJ.nil (EJ.next ?_)
                refine CJ.seq ?_
                refine CJ.region ?_
                refine OJ.pures tU_ok 2 rfl ?_
                obtain ⟨u14, hu14, H⟩ := pbind H
                refine OJ.st rfl rfl rfl (SR.shl rfl rfl rfl (chk_some hu14)) ?_
                refine OJ.pures tU_ok 2 rfl ?_
                refine OJ.nil (EJ.next ?_)
                refine CJ.seq ?_
                refine CJ.region ?_
                refine OJ.pures tU_ok 1 rfl ?_
                refine OJ.nil (EJ.next ?_)
                refine CJ.cond rfl (fun hb => ?_) (fun hb => ?_)
                · replace H := pif_t hb H
                  refine CJ.region ?_
                  refine OJ.pures tU_ok 2 rfl ?_
                  refine OJ.split (t := 35) rfl (fun hb => ?_) (fun hb => ?_)
                  · replace H := pif_t hb H
                    refine OJ.pures tU_ok 1 rfl ?_
                    refine OJ.st rfl rfl rfl (SR.fieldAddr tU_ok tI_ok rfl rfl rfl rfl rfl rfl) ?_
                    refine OJ.st rfl rfl rfl (SR.load rfl rfl (fun w' hx => ld1 tU_ok rfl rfl (CA.ext (CA.sub (hS.cells (i := 0) rfl) 2) hx) rfl)) ?_
                    refine OJ.pures tU_ok 1 rfl ?_
                    obtain ⟨t15, ht15, H⟩ := pbind H
                    obtain ⟨ad15, e15⟩ := (hS.rd' (i := 2) rfl).some' ht15
                    refine OJ.st rfl rfl rfl (SR.idxS tU_ok tI_ok rfl rfl rfl rfl e15 rfl (getI_some ht15).1) ?_
                    refine OJ.st rfl rfl rfl (SR.load rfl rfl (fun w' hx => ld1 tU_ok rfl rfl (CA.ext ((hS.rd' (i := 2) rfl).at_ e15 ht15) hx) rfl)) ?_
                    refine OJ.pures tU_ok 4 rfl ?_
                    refine OJ.nil (EJ.blk (EJ.next ?_))
                    refine CJ.region ?_
                    refine OJ.pures tU_ok 2 rfl ?_
                    refine OJ.nil ?_
                    exact EJ.round k (F' := [(1, .bool a1), (2, .pointer (some ⟨b1, 0, none⟩)), (5, .int .u16 y4), (7, .int .u16 (IntKind.u16.wrap y5)), (8, .bool (decide ((andNotI .u16 (andNotI .u16 (IntKind.u16.wrap y5) (shlI .u16 1 t13)) t15) = 0))), (16, .int .u32 (shlI .u32 1 (a0.Names.length : Int))), (17, .int .u32 y5), (23, .slice A8 t7.length c9), (24, .int .i64 (t7.length : Int)), (25, .int .i64 (IntKind.i64.wrap (y12 + 1)))]) ⟨rfl, rfl, rfl, rfl, rfl, rfl, rfl, rfl, rfl, rfl, trivial⟩ (Nat.lt_succ_self _) ⟨(decide ((andNotI .u16 (andNotI .u16 (IntKind.u16.wrap y5) (shlI .u16 1 t13)) t15) = 0)), (IntKind.i64.wrap (y12 + 1)), rfl, hS.pick [0, 1] [0, 1, 2] rfl, H⟩
                  · replace H := pifb_f hb H
                    refine OJ.pures tU_ok 10 rfl ?_
                    refine OJ.nil (EJ.blk (EJ.next ?_))
                    refine CJ.region ?_
                    refine OJ.pures tU_ok 2 rfl ?_
                    refine OJ.nil ?_
                    exact EJ.round k (F' := [(1, .bool a1), (2, .pointer (some ⟨b1, 0, none⟩)), (5, .int .u16 y4), (7, .int .u16 (IntKind.u16.wrap y5)), (8, .bool false), (16, .int .u32 (shlI .u32 1 (a0.Names.length : Int))), (17, .int .u32 y5), (23, .slice A8 t7.length c9), (24, .int .i64 (t7.length : Int)), (25, .int .i64 (IntKind.i64.wrap (y12 + 1)))]) ⟨rfl, rfl, rfl, rfl, rfl, rfl, rfl, rfl, rfl, rfl, trivial⟩ (Nat.lt_succ_self _) ⟨false, (IntKind.i64.wrap (y12 + 1)), rfl, hS.pick [0, 1] [0, 1, 2] rfl, H⟩
                · replace H := pifb_f hb H
                  refine CJ.region ?_
                  refine OJ.pures tU_ok 2 rfl ?_
                  refine OJ.split (t := 46) rfl (fun hb => ?_) (fun hb => ?_)
                  · replace H := pif_t hb H
                    refine OJ.pures tU_ok 1 rfl ?_
                    refine OJ.st rfl rfl rfl (SR.fieldAddr tU_ok tI_ok rfl rfl rfl rfl rfl rfl) ?_
                    refine OJ.st rfl rfl rfl (SR.load rfl rfl (fun w' hx => ld1 tU_ok rfl rfl (CA.ext (CA.sub (hS.cells (i := 0) rfl) 2) hx) rfl)) ?_
                    refine OJ.pures tU_ok 1 rfl ?_
                    obtain ⟨t16, ht16, H⟩ := pbind H
                    obtain ⟨ad16, e16⟩ := (hS.rd' (i := 2) rfl).some' ht16
                    refine OJ.st rfl rfl rfl (SR.idxS tU_ok tI_ok rfl rfl rfl rfl e16 rfl (getI_some ht16).1) ?_
                    refine OJ.st rfl rfl rfl (SR.load rfl rfl (fun w' hx => ld1 tU_ok rfl rfl (CA.ext ((hS.rd' (i := 2) rfl).at_ e16 ht16) hx) rfl)) ?_
                    refine OJ.pures tU_ok 4 rfl ?_
                    refine OJ.nil (EJ.blk (EJ.next ?_))
                    refine CJ.region ?_
                    refine OJ.pures tU_ok 2 rfl ?_
                    refine OJ.nil ?_
                    exact EJ.round k (F' := [(1, .bool a1), (2, .pointer (some ⟨b1, 0, none⟩)), (5, .int .u16 y4), (7, .int .u16 (IntKind.u16.wrap y5)), (8, .bool (decide ((andI .u16 (andNotI .u16 (IntKind.u16.wrap y5) (shlI .u16 1 t13)) t16) = 0))), (16, .int .u32 (shlI .u32 1 (a0.Names.length : Int))), (17, .int .u32 y5), (23, .slice A8 t7.length c9), (24, .int .i64 (t7.length : Int)), (25, .int .i64 (IntKind.i64.wrap (y12 + 1)))]) ⟨rfl, rfl, rfl, rfl, rfl, rfl, rfl, rfl, rfl, rfl, trivial⟩ (Nat.lt_succ_self _) ⟨(decide ((andI .u16 (andNotI .u16 (IntKind.u16.wrap y5) (shlI .u16 1 t13)) t16) = 0)), (IntKind.i64.wrap (y12 + 1)), rfl, hS.pick [0, 1] [0, 1, 2] rfl, H⟩
                  · replace H := pifb_f hb H
                    refine OJ.pures tU_ok 10 rfl ?_
                    refine OJ.nil (EJ.blk (EJ.next ?_))
                    refine CJ.region ?_
                    refine OJ.pures tU_ok 2 rfl ?_
                    refine OJ.nil ?_
                    exact EJ.round k (F' := [(1, .bool a1), (2, .pointer (some ⟨b1, 0, none⟩)), (5, .int .u16 y4), (7, .int .u16 (IntKind.u16.wrap y5)), (8, .bool false), (16, .int .u32 (shlI .u32 1 (a0.Names.length : Int))), (17, .int .u32 y5), (23, .slice A8 t7.length c9), (24, .int .i64 (t7.length : Int)), (25, .int .i64 (IntKind.i64.wrap (y12 + 1)))]) ⟨rfl, rfl, rfl, rfl, rfl, rfl, rfl, rfl, rfl, rfl, trivial⟩ (Nat.lt_succ_self _) ⟨false, (IntKind.i64.wrap (y12 + 1)), rfl, hS.pick [0, 1] [0, 1, 2] rfl, H⟩
              · replace H := pif_f (of_decide_eq_false hb) H
                refine CJ.exit (EJ.skE (EJ.skE (EJ.hit (?_))))
                exact EJ.meet (F' := [(1, .bool a1), (2, .pointer (some ⟨b1, 0, none⟩)), (5, .int .u16 y4), (7, .int .u16 (IntKind.u16.wrap y5)), (8, .bool y11), (16, .int .u32 (shlI .u32 1 (a0.Names.length : Int))), (17, .int .u32 y5)]) ⟨rfl, rfl, rfl, rfl, rfl, rfl, rfl, trivial⟩ ⟨y11, H, rfl, hS.pick [0] [0, 1, 2] rfl⟩
          · rintro F w1 ⟨y10, he, rfl, hS⟩
            obtain rfl := Option.some.inj he
            have H := K124
            refine EJ.next ?_
            refine CJ.seq ?_
            refine CJ.region ?_
            refine OJ.pures tU_ok 1 rfl ?_
            obtain ⟨t17, ht17, H⟩ := pbind H
            refine OJ.callF rfl rfl rfl rfl rfl hb73 rfl (math_bits_OnesCount16.c _ (IntKind.u16.wrap y5) _ ht17) ?_
            rintro _ w1 ⟨rfl, hs⟩
            replace hS := hS.grow hs
            refine OJ.pures tU_ok 1 rfl ?_
            obtain ⟨t18, ht18, H⟩ := pbind H
            refine OJ.callF rfl rfl rfl rfl rfl hb73 rfl (math_bits_OnesCount16.c _ y4 _ ht18) ?_
            rintro _ w1 ⟨rfl, hs⟩
            replace hS := hS.grow hs
            refine OJ.pures tU_ok 2 rfl ?_
            refine OJ.nil (EJ.next ?_)
            refine CJ.seq ?_
            refine CJ.region ?_
            refine OJ.pures tU_ok 2 rfl ?_
            refine OJ.split (t := 63) rfl (fun hb => ?_) (fun hb => ?_)
            · replace H := pif_t hb H
              refine OJ.pures tU_ok 3 rfl ?_
              refine OJ.split (t := 66) rfl (fun hb => ?_) (fun hb => ?_)
              · replace H := pif_t (of_decide_eq_true hb) H
                refine OJ.pures tU_ok 12 rfl ?_
                refine OJ.nil (EJ.next ?_)
                refine CJ.condT rfl ?_
                refine CJ.region ?_
                refine OJ.pures tU_ok 2 rfl ?_
                refine OJ.nil (EJ.blk (?_))
                exact EJ.meet (F' := [(1, .bool a1), (2, .pointer (some ⟨b1, 0, none⟩)), (5, .int .u16 (IntKind.u16.wrap y5)), (16, .int .u32 (shlI .u32 1 (a0.Names.length : Int))), (17, .int .u32 y5)]) ⟨rfl, rfl, rfl, rfl, rfl, trivial⟩ ⟨(IntKind.u16.wrap y5), H, rfl, hS.pick [0] [0, 1, 2] rfl⟩
              · replace H := pif_f (of_decide_eq_false hb) H
                refine OJ.pures tU_ok 3 rfl ?_
                refine OJ.split (t := 69) rfl (fun hb => ?_) (fun hb => ?_)
                · replace H := pif_t (of_decide_eq_true hb) H
                  refine OJ.pures tU_ok 1 rfl ?_
                  obtain ⟨t19, ht19, H⟩ := pbind H
                  refine OJ.callF rfl rfl rfl rfl rfl hb37 rfl (impl_listed.c k _ (IntKind.u16.wrap y5) _ ht19) ?_
                  rintro _ w1 ⟨A20, c21, rfl, hs⟩
                  replace hS := hS.addN hs
                  refine OJ.pures tU_ok 1 rfl ?_
                  obtain ⟨t22, ht22, H⟩ := pbind H
                  refine OJ.callF rfl rfl rfl rfl rfl hb37 rfl (impl_listed.c k _ y4 _ ht22) ?_
                  rintro _ w1 ⟨A23, c24, rfl, hs⟩
                  replace hS := hS.addN hs
                  obtain ⟨t25, ht25, H⟩ := pbind H
                  refine OJ.callF rfl rfl rfl rfl rfl hb74 rfl (slices_Compare_int64_int64.c k _ A20 c21 t19 (hS.rd (i := 1) rfl) (hS.le (i := 1) rfl) A23 c24 t22 (hS.rd (i := 2) rfl) (hS.le (i := 2) rfl) _ ht25) ?_
                  rintro _ w1 ⟨rfl, hs⟩
                  replace hS := hS.grow hs
                  refine OJ.pures tU_ok 4 rfl ?_
                  refine OJ.nil (EJ.next ?_)
                  refine CJ.cond rfl (fun hb => ?_) (fun hb => ?_)
                  · replace H := pif_t (of_decide_eq_true hb) H
                    refine CJ.region ?_
                    refine OJ.pures tU_ok 2 rfl ?_
                    refine OJ.nil (EJ.blk (?_))
                    exact EJ.meet (F' := [(1, .bool a1), (2, .pointer (some ⟨b1, 0, none⟩)), (5, .int .u16 (IntKind.u16.wrap y5)), (16, .int .u32 (shlI .u32 1 (a0.Names.length : Int))), (17, .int .u32 y5)]) ⟨rfl, rfl, rfl, rfl, rfl, trivial⟩ ⟨(IntKind.u16.wrap y5), H, rfl, hS.pick [0] [0, 1, 2] rfl⟩
                  · replace H := pif_f (of_decide_eq_false hb) H
                    refine CJ.skip (EJ.blk (?_))
                    exact EJ.meet (F' := [(1, .bool a1), (2, .pointer (some ⟨b1, 0, none⟩)), (5, .int .u16 y4), (16, .int .u32 (shlI .u32 1 (a0.Names.length : Int))), (17, .int .u32 y5)]) ⟨rfl, rfl, rfl, rfl, rfl, trivial⟩ ⟨y4, H, rfl, hS.pick [0] [0, 1, 2] rfl⟩
                · replace H := pif_f (of_decide_eq_false hb) H
                  refine OJ.pures tU_ok 9 rfl ?_
                  refine OJ.nil (EJ.next ?_)
                  refine CJ.condF rfl ?_
                  refine CJ.skip (EJ.blk (?_))
                  exact EJ.meet (F' := [(1, .bool a1), (2, .pointer (some ⟨b1, 0, none⟩)), (5, .int .u16 y4), (16, .int .u32 (shlI .u32 1 (a0.Names.length : Int))), (17, .int .u32 y5)]) ⟨rfl, rfl, rfl, rfl, rfl, trivial⟩ ⟨y4, H, rfl, hS.pick [0] [0, 1, 2] rfl⟩
            · replace H := pifb_f hb H
              refine OJ.pures tU_ok 15 rfl ?_
              refine OJ.nil (EJ.next ?_)
              refine CJ.condF rfl ?_
              refine CJ.skip (EJ.blk (?_))
              exact EJ.meet (F' := [(1, .bool a1), (2, .pointer (some ⟨b1, 0, none⟩)), (5, .int .u16 y4), (16, .int .u32 (shlI .u32 1 (a0.Names.length : Int))), (17, .int .u32 y5)]) ⟨rfl, rfl, rfl, rfl, rfl, trivial⟩ ⟨y4, H, rfl, hS.pick [0] [0, 1, 2] rfl⟩
        · rintro F w1 ⟨y6, he, rfl, hS⟩
          obtain rfl := Option.some.inj he
          have H := K122
          refine CJ.region ?_
          refine OJ.pures tU_ok 2 rfl ?_
          refine OJ.nil ?_
          exact EJ.round k (F' := [(1, .bool a1), (2, .pointer (some ⟨b1, 0, none⟩)), (5, .int .u16 y6), (16, .int .u32 (shlI .u32 1 (a0.Names.length : Int))), (17, .int .u32 (IntKind.u32.wrap (y5 + 1)))]) ⟨rfl, rfl, rfl, rfl, rfl, trivial⟩ (Nat.lt_succ_self _) ⟨y6, (IntKind.u32.wrap (y5 + 1)), rfl, hS.pick [0] [0, 1, 2] rfl, H⟩
      · replace H := pif_f (of_decide_eq_false hb) H
        refine CJ.exit (EJ.skE (EJ.skE (EJ.hit (?_))))
        exact EJ.meet (F' := [(5, .int .u16 y4)]) ⟨rfl, trivial⟩ ⟨y4, H, rfl, hS.pick [] [0, 1, 2] rfl⟩
  · rintro F w1 ⟨y3, he, rfl, hS⟩
    obtain rfl := Option.some.inj he
    have H := K114
    refine EJ.next ?_
    refine CJ.seq ?_
    refine CJ.region ?_
    refine OJ.pures tU_ok 1 rfl ?_
    obtain ⟨t26, ht26, H⟩ := pbind H
    refine OJ.callF rfl rfl rfl rfl rfl hb37 rfl (impl_listed.c k _ y3 _ ht26) ?_
    rintro _ w1 ⟨A27, c28, rfl, hs⟩
    replace hS := hS.addN hs
    refine OJ.pures tU_ok 1 rfl ?_
    refine OJ.nil (EJ.next ?_)
    refine CJ.ret (?_)
    obtain rfl := Option.some.inj H
    exact EJ.fin rfl (.tmp rfl .nil) ⟨A27, c28, rfl, hS.pick [0] [] rfl⟩

def impl_AllFoes.f (k : Nat) (a0 : Herd) : Option (List Int × Int) := (impl_ValidHerd.f k a0).bind fun t2 => if (!t2) = true then (some ([], 1)) else ((impl_Herd_largest.f k a0 true).bind fun t3 => some (t3, 0))
theorem impl_AllFoes.c (k : Nat) (w : World) (Aa0_0 : Option Addr) (ca0_0 : Nat) (Aa0_1 : Option Addr) (ca0_1 : Nat) (Aa0_2 : Option Addr) (ca0_2 : Nat) (a0 : Herd) (hr0_0 : Rd G.cs w Aa0_0 a0.Names) (hc0_0 : a0.Names.length ≤ ca0_0) (hr0_1 : Rd (ci .i16) w Aa0_1 a0.Eats) (hc0_1 : a0.Eats.length ≤ ca0_1) (hr0_2 : Rd (ci .u16) w Aa0_2 a0.Foes) (hc0_2 : a0.Foes.length ≤ ca0_2) (r : List Int × Int) (H : impl_AllFoes.f k a0 = some r) :
    CV Tryz.prog 11 [.agg [.slice Aa0_0 a0.Names.length ca0_0, .slice Aa0_1 a0.Eats.length ca0_1, .slice Aa0_2 a0.Foes.length ca0_2].toArray].toArray w fun v w' => ∃ (A0 : Option Addr) (c0 : Nat), v = .tuple #[.slice A0 r.1.length c0, .int .i64 r.2] ∧ St w no w' [rowC (ci .i64) A0 c0 2 r.1] [] := by
  have hS := ((((St.init w no).param G.cs Aa0_0 ca0_0 a0.Names hr0_0 hc0_0).param (ci .i16) Aa0_1 ca0_1 a0.Eats hr0_1 hc0_1).param (ci .u16) Aa0_2 ca0_2 a0.Foes hr0_2 hc0_2)
  unfold impl_AllFoes.f at H
  refine CV.body Tryz.func11 rfl Tryz.ntmps11 rfl ?_
  refine CJ.seq ?_
  refine CJ.region ?_
  refine OJ.ef rfl rfl rfl (Ef.box hS rfl rfl ([.slice Aa0_0 a0.Names.length ca0_0, .slice Aa0_1 a0.Eats.length ca0_1, .slice Aa0_2 a0.Foes.length ca0_2]) rfl) ?_
  rintro _ w1 ⟨b1, rfl, hS⟩
  refine OJ.pures tU_ok 2 rfl ?_
  refine OJ.nil (EJ.next ?_)
  refine CJ.seq ?_
  refine CJ.seq ?_
  refine CJ.region ?_
  refine OJ.st rfl rfl rfl (SR.load rfl rfl (fun w' hx => ldN tU_ok tI_ok rfl rfl rfl (CA.ext (hS.cells (i := 0) rfl) hx) (ds := [.slice Aa0_0 a0.Names.length ca0_0, .slice Aa0_1 a0.Eats.length ca0_1, .slice Aa0_2 a0.Foes.length ca0_2]) rfl rfl)) ?_
  obtain ⟨t2, ht2, H⟩ := pbind H
  refine OJ.callF rfl rfl rfl rfl rfl hb27 rfl (impl_ValidHerd.c k _ Aa0_0 ca0_0 Aa0_1 ca0_1 Aa0_2 ca0_2 a0 (hS.rd' (i := 0) rfl) (hS.le' (i := 0) rfl) (hS.rd' (i := 1) rfl) (hS.le' (i := 1) rfl) (hS.rd' (i := 2) rfl) (hS.le' (i := 2) rfl) _ ht2) ?_
  rintro _ w1 ⟨rfl, hs⟩
  replace hS := hS.grow hs
  refine OJ.pures tU_ok 1 rfl ?_
  refine OJ.nil (EJ.next ?_)
  refine CJ.cond rfl (fun hb => ?_) (fun hb => ?_)
  · replace H := pif_t hb H
    refine CJ.seq ?_
    refine CJ.region ?_
    refine OJ.pures tU_ok 2 rfl ?_
    refine OJ.nil (EJ.next ?_)
    refine CJ.ret (EJ.skR (?_))
    replace hS := hS.addNil (ci .i64) 2 none
    obtain rfl := Option.some.inj H
    exact EJ.fin rfl (.tmp rfl (.tmp rfl .nil)) ⟨none, 0, rfl, hS.pick [1] [] rfl⟩
  · replace H := pifb_f hb H
    refine CJ.skip (EJ.next ?_)
    refine CJ.seq ?_
    refine CJ.region ?_
    refine OJ.st rfl rfl rfl (SR.load rfl rfl (fun w' hx => ldN tU_ok tI_ok rfl rfl rfl (CA.ext (hS.cells (i := 0) rfl) hx) (ds := [.slice Aa0_0 a0.Names.length ca0_0, .slice Aa0_1 a0.Eats.length ca0_1, .slice Aa0_2 a0.Foes.length ca0_2]) rfl rfl)) ?_
    obtain ⟨t3, ht3, H⟩ := pbind H
    refine OJ.callF rfl rfl rfl rfl rfl hb41 rfl (impl_Herd_largest.c k _ Aa0_0 ca0_0 Aa0_1 ca0_1 Aa0_2 ca0_2 a0 (hS.rd' (i := 0) rfl) (hS.le' (i := 0) rfl) (hS.rd' (i := 1) rfl) (hS.le' (i := 1) rfl) (hS.rd' (i := 2) rfl) (hS.le' (i := 2) rfl) true _ ht3) ?_
    rintro _ w1 ⟨A4, c5, rfl, hs⟩
    replace hS := hS.addN hs
    refine OJ.pures tU_ok 2 rfl ?_
    refine OJ.nil (EJ.next ?_)
    refine CJ.ret (?_)
    obtain rfl := Option.some.inj H
    exact EJ.fin rfl (.tmp rfl (.tmp rfl .nil)) ⟨A4, c5, rfl, hS.pick [1] [] rfl⟩

def spec_l06Less.l1 (a0 : List Int) (a1 : List Int) : Nat → Int → Option (Bool ⊕ Unit)
  | 0, _ => none
  | k + 1, y1 => if y1 < (a0.length : Int) then ((getI a0 y1).bind fun t2 => (getI a1 y1).bind fun t3 => if t2 ≠ t3 then ((getI a0 y1).bind fun t4 => (getI a1 y1).bind fun t5 => some (Sum.inl (decide (t4 < t5)))) else (spec_l06Less.l1 a0 a1 k (IntKind.i64.wrap (y1 + 1)))) else (some (Sum.inr ()))
def spec_l06Less.f (k : Nat) (a0 : List Int) (a1 : List Int) : Option Bool := (spec_l06Less.l1 a0 a1 k 0).bind fun s140 => match s140 with | .inl r => some r | .inr _ => some false
theorem spec_l06Less.c (k : Nat) (w : World) (Aa0 : Option Addr) (ca0 : Nat) (a0 : List Int) (hr0 : Rd (ci .i64) w Aa0 a0) (hc0 : a0.length ≤ ca0) (Aa1 : Option Addr) (ca1 : Nat) (a1 : List Int) (hr1 : Rd (ci .i64) w Aa1 a1) (hc1 : a1.length ≤ ca1) (r : Bool) (H : spec_l06Less.f k a0 a1 = some r) :
    CV Tryz.prog 75 [.slice Aa0 a0.length ca0, .slice Aa1 a1.length ca1].toArray w fun v w' => v = .bool r ∧ Ext w w' := by
  have hS := (((St.init w no).param (ci .i64) Aa0 ca0 a0 hr0 hc0).param (ci .i64) Aa1 ca1 a1 hr1 hc1)
  unfold spec_l06Less.f at H
  refine CV.body Tryz.func75 rfl Tryz.ntmps75 rfl ?_
  refine CJ.seq ?_
  refine CJ.region ?_
  refine OJ.pures tU_ok 1 rfl ?_
  refine OJ.nil (EJ.next ?_)
  refine CJ.seq ?_
  refine CJ.seq ?_
  refine CJ.region ?_
  refine OJ.pures tU_ok 1 rfl ?_
  refine OJ.nil (EJ.next ?_)
  obtain ⟨j140, H, K140⟩ := pbind H
  refine CJ.cut1 (fun F w1 => (some (Sum.inr ()) : Option (Bool ⊕ Unit)) = some j140 ∧ F = [] ∧ St w no w1 [] [roC (ci .i64) Aa0 ca0 a0, roC (ci .i64) Aa1 ca1 a1]) ?_ ?_
  · skip
    refine CJ.block ?_
    refine CJ.loop (fun k F w1 => ∃ (y1 : Int), F = [(0, .slice Aa0 a0.length ca0), (1, .slice Aa1 a1.length ca1), (5, .int .i64 y1)] ∧ St w no w1 [] [roC (ci .i64) Aa0 ca0 a0, roC (ci .i64) Aa1 ca1 a1] ∧ spec_l06Less.l1 a0 a1 k y1 = some j140) k (F' := [(0, .slice Aa0 a0.length ca0), (1, .slice Aa1 a1.length ca1), (5, .int .i64 0)]) ⟨rfl, rfl, rfl, trivial⟩ ⟨0, rfl, hS.pick [] [0, 1] rfl, H⟩ ?_
    rintro k F w1 ⟨y1, rfl, hS, H⟩
    cases k with
    | zero => rw [spec_l06Less.l1] at H; cases H
    | succ k =>
      rw [spec_l06Less.l1] at H
      refine CJ.seq ?_
      refine CJ.seq ?_
      refine CJ.region ?_
      refine OJ.pures tU_ok 4 rfl ?_
      refine OJ.nil (EJ.next ?_)
      refine CJ.cond rfl (fun hb => ?_) (fun hb => ?_)
      · replace H := pif_t (of_decide_eq_true hb) H
        refine CJ.skip (EJ.next ?_)
        refine CJ.seq ?_
        refine CJ.block ?_
        refine CJ.seq ?_
        refine CJ.draw [] [0, 1, 2, 3, 4, 5, 6, 7, 8] mixed (by kernel_rfl) hS fun w1 hS => ?_
        refine DJ.pures tU_ok 2 rfl ?_
        obtain ⟨t2, ht2, H⟩ := pbind H
        obtain ⟨ad2, e2⟩ := (hS.rd' (i := 0) rfl).some' ht2
        refine DJ.st rfl rfl rfl rfl rfl (SR.idxS tU_ok tI_ok rfl rfl rfl rfl e2 rfl (getI_some ht2).1) ?_
        refine DJ.st rfl rfl rfl rfl rfl (SR.load rfl rfl (fun w' hx => ld1 tU_ok rfl rfl (CA.ext ((hS.rd' (i := 0) rfl).at_ e2 ht2) hx) rfl)) ?_
        refine DJ.pures tU_ok 2 rfl ?_
        obtain ⟨t3, ht3, H⟩ := pbind H
        obtain ⟨ad3, e3⟩ := (hS.rd' (i := 1) rfl).some' ht3
        refine DJ.st rfl rfl rfl rfl rfl (SR.idxS tU_ok tI_ok rfl rfl rfl rfl e3 rfl (getI_some ht3).1) ?_
        refine DJ.st rfl rfl rfl rfl rfl (SR.load rfl rfl (fun w' hx => ld1 tU_ok rfl rfl (CA.ext ((hS.rd' (i := 1) rfl).at_ e3 ht3) hx) rfl)) ?_
        refine DJ.pures tU_ok 1 rfl ?_
        refine DJ.nil (EJ.next ?_)
        refine CJ.cond rfl (fun hb => ?_) (fun hb => ?_)
        · replace H := pif_t (of_decide_eq_true hb) H
          refine CJ.seq ?_
          refine CJ.draw [] [0, 1, 2, 3, 4, 5, 6, 7, 8, 9] mixed (by kernel_rfl) hS fun w1 hS => ?_
          refine DJ.pures tU_ok 2 rfl ?_
          obtain ⟨t4, ht4, H⟩ := pbind H
          obtain ⟨ad4, e4⟩ := (hS.rd' (i := 0) rfl).some' ht4
          refine DJ.st rfl rfl rfl rfl rfl (SR.idxS tU_ok tI_ok rfl rfl rfl rfl e4 rfl (getI_some ht4).1) ?_
          refine DJ.st rfl rfl rfl rfl rfl (SR.load rfl rfl (fun w' hx => ld1 tU_ok rfl rfl (CA.ext ((hS.rd' (i := 0) rfl).at_ e4 ht4) hx) rfl)) ?_
          refine DJ.pures tU_ok 2 rfl ?_
          obtain ⟨t5, ht5, H⟩ := pbind H
          obtain ⟨ad5, e5⟩ := (hS.rd' (i := 1) rfl).some' ht5
          refine DJ.st rfl rfl rfl rfl rfl (SR.idxS tU_ok tI_ok rfl rfl rfl rfl e5 rfl (getI_some ht5).1) ?_
          refine DJ.st rfl rfl rfl rfl rfl (SR.load rfl rfl (fun w' hx => ld1 tU_ok rfl rfl (CA.ext ((hS.rd' (i := 1) rfl).at_ e5 ht5) hx) rfl)) ?_
          refine DJ.pures tU_ok 2 rfl ?_
          refine DJ.nil (EJ.next ?_)
          refine CJ.ret (EJ.bkR (EJ.skR (EJ.skR (EJ.bkR (EJ.skR (EJ.skR (?_)))))))
          first | (obtain rfl := Option.some.inj H; have H := K140) | (obtain ⟨q140, H2, e140⟩ := pbind H; obtain rfl := Option.some.inj e140; obtain rfl := Option.some.inj K140; have H := H2)
          obtain rfl := Option.some.inj H
          exact EJ.fin rfl (.tmp rfl .nil) ⟨rfl, hS.ext⟩
        · replace H := pif_f (of_decide_eq_false hb) H
          refine CJ.skip (EJ.blk (EJ.next ?_))
          refine CJ.region ?_
          refine OJ.pures tU_ok 3 rfl ?_
          refine OJ.nil ?_
          exact EJ.round k (F' := [(0, .slice Aa0 a0.length ca0), (1, .slice Aa1 a1.length ca1), (5, .int .i64 (IntKind.i64.wrap (y1 + 1)))]) ⟨rfl, rfl, rfl, trivial⟩ (Nat.lt_succ_self _) ⟨(IntKind.i64.wrap (y1 + 1)), rfl, hS.pick [] [0, 1] rfl, H⟩
      · replace H := pif_f (of_decide_eq_false hb) H
        refine CJ.exit (EJ.skE (EJ.skE (EJ.hit (?_))))
        exact EJ.meet (F' := []) trivial ⟨H, rfl, hS.pick [] [0, 1] rfl⟩
  · rintro F w1 ⟨he, rfl, hS⟩
    obtain rfl := Option.some.inj he
    have H := K140
    refine EJ.next ?_
    refine CJ.seq ?_
    refine CJ.region ?_
    refine OJ.pures tU_ok 1 rfl ?_
    refine OJ.nil (EJ.next ?_)
    refine CJ.ret (?_)
    obtain rfl := Option.some.inj H
    exact EJ.fin rfl (.tmp rfl .nil) ⟨rfl, hS.ext⟩

def spec_l06Largest.l3 (a0 : Herd) (a1 : Bool) (y18 : List Int) (y22 : Int) : Nat → Bool → Int → Option Bool
  | 0, _, _ => none
  | k + 1, y30, y31 => if y31 < (y18.length : Int) then (if y30 = true then ((getI y18 y31).bind fun t32 => (spec_l06Are.f a0 y22 t32).bind fun t33 => spec_l06Largest.l3 a0 a1 y18 y22 k (decide (t33 = a1)) (IntKind.i64.wrap (y31 + 1))) else (spec_l06Largest.l3 a0 a1 y18 y22 k false (IntKind.i64.wrap (y31 + 1)))) else (some y30)
def spec_l06Largest.l2 (a0 : Herd) (a1 : Bool) (y8 : Int) : Nat → (List Int) → Bool → Int → Option ((List Int) × Bool)
  | 0, _, _, _ => none
  | k + 1, y18, y21, y22 => (if y22 < (a0.Names.length : Int) then (some y21) else (some false)).bind fun y23 => if y23 = true then (((chk (0 ≤ (IntKind.u64.wrap y22))).bind fun u28 => if (Int.tmod (shrI .i64 y8 (IntKind.u64.wrap y22)) 2) = 0 then (some (y18, y21)) else ((spec_l06Largest.l3 a0 a1 y18 y22 k y21 0).bind fun y29 => (chk (y18.length + ([y22] : List Int).length ≤ 4294967296)).bind fun u35 => some (y18 ++ ([y22] : List Int), y29))).bind fun (y24, y27) => spec_l06Largest.l2 a0 a1 y8 k y24 y27 (IntKind.i64.wrap (y22 + 1))) else (some (y18, y21))
def spec_l06Largest.l1 (a0 : Herd) (a1 : Bool) : Nat → (List Int) → Int → Option (List Int)
  | 0, _, _ => none
  | k + 1, y5, y8 => (chk (0 ≤ (IntKind.u64.wrap (a0.Names.length : Int)))).bind fun u9 => if y8 < (shlI .i64 1 (IntKind.u64.wrap (a0.Names.length : Int))) then (((spec_l06Largest.l2 a0 a1 y8 k ([] : List Int) true 0).bind fun (y14, y17) => if y17 = true then (if (y5.length : Int) < (y14.length : Int) then (some y14) else (if (y14.length : Int) = (y5.length : Int) then ((spec_l06Less.f k y14 y5).bind fun t38 => if t38 = true then (some y14) else (some y5)) else (some y5))) else (some y5)).bind fun y10 => spec_l06Largest.l1 a0 a1 k y10 (IntKind.i64.wrap (y8 + 1))) else (some y5)
def spec_l06Largest.f (k : Nat) (a0 : Herd) (a1 : Bool) : Option (List Int) := (spec_l06Largest.l1 a0 a1 k ([] : List Int) 0).bind fun y2 => some y2
theorem spec_l06Largest.c (k : Nat) (w : World) (Aa0_0 : Option Addr) (ca0_0 : Nat) (Aa0_1 : Option Addr) (ca0_1 : Nat) (Aa0_2 : Option Addr) (ca0_2 : Nat) (a0 : Herd) (hr0_0 : Rd G.cs w Aa0_0 a0.Names) (hc0_0 : a0.Names.length ≤ ca0_0) (hr0_1 : Rd (ci .i16) w Aa0_1 a0.Eats) (hc0_1 : a0.Eats.length ≤ ca0_1) (hr0_2 : Rd (ci .u16) w Aa0_2 a0.Foes) (hc0_2 : a0.Foes.length ≤ ca0_2) (pa0 : Addr) (hp0 : CA w pa0 ([.slice Aa0_0 a0.Names.length ca0_0, .slice Aa0_1 a0.Eats.length ca0_1, .slice Aa0_2 a0.Foes.length ca0_2])) (a1 : Bool) (r : List Int) (H : spec_l06Largest.f k a0 a1 = some r) :
    CV Tryz.prog 42 [.pointer (some pa0), .bool a1].toArray w fun v w' => ∃ (A0 : Option Addr) (c0 : Nat), v = .slice A0 r.length c0 ∧ St w no w' [rowC (ci .i64) A0 c0 2 r] [] := by
  have hS := (((((St.init w no).param G.cs Aa0_0 ca0_0 a0.Names hr0_0 hc0_0).param (ci .i16) Aa0_1 ca0_1 a0.Eats hr0_1 hc0_1).param (ci .u16) Aa0_2 ca0_2 a0.Foes hr0_2 hc0_2).paramP pa0 ([.slice Aa0_0 a0.Names.length ca0_0, .slice Aa0_1 a0.Eats.length ca0_1, .slice Aa0_2 a0.Foes.length ca0_2]) hp0)
  unfold spec_l06Largest.f at H
  refine CV.body Tryz.func42 rfl Tryz.ntmps42 rfl ?_
  refine CJ.seq ?_
  refine CJ.region ?_
  refine OJ.pures tU_ok 1 rfl ?_
  refine OJ.nil (EJ.next ?_)
  refine CJ.seq ?_
  refine CJ.region ?_
  refine OJ.ef rfl rfl rfl (Ef.lit tU_ok tI_ok hS (C := (ci .i64)) rfl rfl rfl rfl rfl rfl ([] : List Int) rfl rfl rfl rfl) ?_
  rintro _ w1 ⟨A1, rfl, hS⟩
  refine OJ.pures tU_ok 1 rfl ?_
  refine OJ.nil (EJ.next ?_)
  refine CJ.seq ?_
  refine CJ.seq ?_
  refine CJ.region ?_
  refine OJ.pures tU_ok 1 rfl ?_
  refine OJ.nil (EJ.next ?_)
  obtain ⟨j125, H, K125⟩ := pbind H
  refine CJ.cut1 (fun F w1 => ∃ (y2 : List Int) (A3 : Option Addr) (c4 : Nat), (some y2 : Option (List Int)) = some j125 ∧ F = [(5, .slice A3 y2.length c4)] ∧ St w no w1 [rowC (ci .i64) A3 c4 2 y2] [roC G.cs Aa0_0 ca0_0 a0.Names, roC (ci .i16) Aa0_1 ca0_1 a0.Eats, roC (ci .u16) Aa0_2 ca0_2 a0.Foes, roP pa0 ([.slice Aa0_0 a0.Names.length ca0_0, .slice Aa0_1 a0.Eats.length ca0_1, .slice Aa0_2 a0.Foes.length ca0_2])]) ?_ ?_
  · skip
    refine CJ.block ?_
    refine CJ.loop (fun k F w1 => ∃ (y5 : List Int) (y8 : Int) (A6 : Option Addr) (c7 : Nat), F = [(0, .pointer (some pa0)), (1, .bool a1), (5, .slice A6 y5.length c7), (6, .int .i64 y8)] ∧ St w no w1 [rowC (ci .i64) A6 c7 2 y5] [roC G.cs Aa0_0 ca0_0 a0.Names, roC (ci .i16) Aa0_1 ca0_1 a0.Eats, roC (ci .u16) Aa0_2 ca0_2 a0.Foes, roP pa0 ([.slice Aa0_0 a0.Names.length ca0_0, .slice Aa0_1 a0.Eats.length ca0_1, .slice Aa0_2 a0.Foes.length ca0_2])] ∧ spec_l06Largest.l1 a0 a1 k y5 y8 = some j125) k (F' := [(0, .pointer (some pa0)), (1, .bool a1), (5, .slice A1 ([] : List Int).length (([] : List Int).length)), (6, .int .i64 0)]) ⟨rfl, rfl, rfl, rfl, trivial⟩ ⟨([] : List Int), 0, A1, (([] : List Int).length), rfl, hS.pick [0] [0, 1, 2, 3] rfl, H⟩ ?_
    rintro k F w1 ⟨y5, y8, A6, c7, rfl, hS, H⟩
    cases k with
    | zero => rw [spec_l06Largest.l1] at H; cases H
    | succ k =>
      rw [spec_l06Largest.l1] at H
      refine CJ.seq ?_
      refine CJ.seq ?_
      refine CJ.region ?_
      refine OJ.pures tU_ok 3 rfl ?_
      refine OJ.st rfl rfl rfl (SR.fieldAddr tU_ok tI_ok rfl rfl rfl rfl rfl rfl) ?_
      refine OJ.st rfl rfl rfl (SR.load rfl rfl (fun w' hx => ld1 tU_ok rfl rfl (CA.ext (CA.sub (hS.ca (i := 3) rfl) 0) hx) rfl)) ?_
      refine OJ.pures tU_ok 2 rfl ?_
      obtain ⟨u9, hu9, H⟩ := pbind H
      refine OJ.st rfl rfl rfl (SR.shl rfl rfl rfl (chk_some hu9)) ?_
      refine OJ.pures tU_ok 1 rfl ?_
      refine OJ.nil (EJ.next ?_)
      refine CJ.cond rfl (fun hb => ?_) (fun hb => ?_)
      · replace H := pif_t (of_decide_eq_true hb) H
        refine CJ.skip (EJ.next ?_)
        obtain ⟨j181, H, K181⟩ := pbind H
        refine CJ.cut (fun F w1 => ∃ (y10 : List Int) (A11 : Option Addr) (c12 : Nat), (some y10 : Option (List Int)) = some j181 ∧ F = [(0, .pointer (some pa0)), (1, .bool a1), (5, .slice A11 y10.length c12), (6, .int .i64 y8)] ∧ St w no w1 [rowC (ci .i64) A11 c12 2 y10] [roC G.cs Aa0_0 ca0_0 a0.Names, roC (ci .i16) Aa0_1 ca0_1 a0.Eats, roC (ci .u16) Aa0_2 ca0_2 a0.Foes, roP pa0 ([.slice Aa0_0 a0.Names.length ca0_0, .slice Aa0_1 a0.Eats.length ca0_1, .slice Aa0_2 a0.Foes.length ca0_2])]) ?_ ?_
        · skip
          refine CJ.block ?_
          refine CJ.seq ?_
          refine CJ.region ?_
          refine OJ.ef rfl rfl rfl (Ef.lit tU_ok tI_ok hS (C := (ci .i64)) rfl rfl rfl rfl rfl rfl ([] : List Int) rfl rfl rfl rfl) ?_
          rintro _ w1 ⟨A13, rfl, hS⟩
          refine OJ.pures tU_ok 1 rfl ?_
          refine OJ.nil (EJ.next ?_)
          refine CJ.seq ?_
          refine CJ.region ?_
          refine OJ.pures tU_ok 1 rfl ?_
          refine OJ.nil (EJ.next ?_)
          refine CJ.seq ?_
          refine CJ.seq ?_
          refine CJ.region ?_
          refine OJ.pures tU_ok 1 rfl ?_
          refine OJ.nil (EJ.next ?_)
          obtain ⟨j195, H, K195⟩ := pbind H
          refine CJ.cut1 (fun F w1 => ∃ (y14 : List Int) (y17 : Bool) (A15 : Option Addr) (c16 : Nat), (some (y14, y17) : Option ((List Int) × Bool)) = some j195 ∧ F = [(0, .pointer (some pa0)), (1, .bool a1), (5, .slice A6 y5.length c7), (6, .int .i64 y8), (7, .slice A15 y14.length c16), (8, .bool y17)] ∧ St w no w1 [rowC (ci .i64) A6 c7 2 y5, rowC (ci .i64) A15 c16 2 y14] [roC G.cs Aa0_0 ca0_0 a0.Names, roC (ci .i16) Aa0_1 ca0_1 a0.Eats, roC (ci .u16) Aa0_2 ca0_2 a0.Foes, roP pa0 ([.slice Aa0_0 a0.Names.length ca0_0, .slice Aa0_1 a0.Eats.length ca0_1, .slice Aa0_2 a0.Foes.length ca0_2])]) ?_ ?_
          · skip
            refine CJ.block ?_
            refine CJ.loop (fun k F w1 => ∃ (y18 : List Int) (y21 : Bool) (y22 : Int) (A19 : Option Addr) (c20 : Nat), F = [(0, .pointer (some pa0)), (1, .bool a1), (5, .slice A6 y5.length c7), (6, .int .i64 y8), (7, .slice A19 y18.length c20), (8, .bool y21), (9, .int .i64 y22)] ∧ St w no w1 [rowC (ci .i64) A6 c7 2 y5, rowC (ci .i64) A19 c20 2 y18] [roC G.cs Aa0_0 ca0_0 a0.Names, roC (ci .i16) Aa0_1 ca0_1 a0.Eats, roC (ci .u16) Aa0_2 ca0_2 a0.Foes, roP pa0 ([.slice Aa0_0 a0.Names.length ca0_0, .slice Aa0_1 a0.Eats.length ca0_1, .slice Aa0_2 a0.Foes.length ca0_2])] ∧ spec_l06Largest.l2 a0 a1 y8 k y18 y21 y22 = some j195) k (F' := [(0, .pointer (some pa0)), (1, .bool a1), (5, .slice A6 y5.length c7), (6, .int .i64 y8), (7, .slice A13 ([] : List Int).length (([] : List Int).length)), (8, .bool true), (9, .int .i64 0)]) ⟨rfl, rfl, rfl, rfl, rfl, rfl, rfl, trivial⟩ ⟨([] : List Int), true, 0, A13, (([] : List Int).length), rfl, hS.pick [0, 1] [0, 1, 2, 3] rfl, H⟩ ?_
            rintro k F w1 ⟨y18, y21, y22, A19, c20, rfl, hS, H⟩
            cases k with
            | zero => rw [spec_l06Largest.l2] at H; cases H
            | succ k =>
              rw [spec_l06Largest.l2] at H
              refine CJ.seq ?_
              obtain ⟨j204, H, K204⟩ := pbind H
              refine CJ.cut (fun F w1 => ∃ (y23 : Bool) , (some y23 : Option Bool) = some j204 ∧ F = [(0, .pointer (some pa0)), (1, .bool a1), (5, .slice A6 y5.length c7), (6, .int .i64 y8), (7, .slice A19 y18.length c20), (8, .bool y21), (9, .int .i64 y22), (33, .bool y23)] ∧ St w no w1 [rowC (ci .i64) A6 c7 2 y5, rowC (ci .i64) A19 c20 2 y18] [roC G.cs Aa0_0 ca0_0 a0.Names, roC (ci .i16) Aa0_1 ca0_1 a0.Eats, roC (ci .u16) Aa0_2 ca0_2 a0.Foes, roP pa0 ([.slice Aa0_0 a0.Names.length ca0_0, .slice Aa0_1 a0.Eats.length ca0_1, .slice Aa0_2 a0.Foes.length ca0_2])]) ?_ ?_
              · skip
                refine CJ.region ?_
                refine OJ.pures tU_ok 3 rfl ?_
                refine OJ.st rfl rfl rfl (SR.fieldAddr tU_ok tI_ok rfl rfl rfl rfl rfl rfl) ?_
                refine OJ.st rfl rfl rfl (SR.load rfl rfl (fun w' hx => ld1 tU_ok rfl rfl (CA.ext (CA.sub (hS.ca (i := 3) rfl) 0) hx) rfl)) ?_
                refine OJ.pures tU_ok 3 rfl ?_
                refine OJ.split (t := 31) rfl (fun hb => ?_) (fun hb => ?_)
                · replace H := pif_t (of_decide_eq_true hb) H
                  refine OJ.pures tU_ok 2 rfl ?_
                  refine OJ.nil ?_
                  exact EJ.meet (F' := [(0, .pointer (some pa0)), (1, .bool a1), (5, .slice A6 y5.length c7), (6, .int .i64 y8), (7, .slice A19 y18.length c20), (8, .bool y21), (9, .int .i64 y22), (33, .bool y21)]) ⟨rfl, rfl, rfl, rfl, rfl, rfl, rfl, rfl, trivial⟩ ⟨y21, H, rfl, hS.pick [0, 1] [0, 1, 2, 3] rfl⟩
                · replace H := pif_f (of_decide_eq_false hb) H
                  refine OJ.pures tU_ok 2 rfl ?_
                  refine OJ.nil ?_
                  exact EJ.meet (F' := [(0, .pointer (some pa0)), (1, .bool a1), (5, .slice A6 y5.length c7), (6, .int .i64 y8), (7, .slice A19 y18.length c20), (8, .bool y21), (9, .int .i64 y22), (33, .bool false)]) ⟨rfl, rfl, rfl, rfl, rfl, rfl, rfl, rfl, trivial⟩ ⟨false, H, rfl, hS.pick [0, 1] [0, 1, 2, 3] rfl⟩
              · rintro F w1 ⟨y23, he, rfl, hS⟩
                obtain rfl := Option.some.inj he
                have H := K204
                refine CJ.cond rfl (fun hb => ?_) (fun hb => ?_)
                · replace H := pif_t hb H
                  refine CJ.skip (EJ.next ?_)
                  obtain ⟨j205, H, K205⟩ := pbind H
                  refine CJ.cut (fun F w1 => ∃ (y24 : List Int) (y27 : Bool) (A25 : Option Addr) (c26 : Nat), (some (y24, y27) : Option ((List Int) × Bool)) = some j205 ∧ F = [(0, .pointer (some pa0)), (1, .bool a1), (5, .slice A6 y5.length c7), (6, .int .i64 y8), (7, .slice A25 y24.length c26), (8, .bool y27), (9, .int .i64 y22)] ∧ St w no w1 [rowC (ci .i64) A6 c7 2 y5, rowC (ci .i64) A25 c26 2 y24] [roC G.cs Aa0_0 ca0_0 a0.Names, roC (ci .i16) Aa0_1 ca0_1 a0.Eats, roC (ci .u16) Aa0_2 ca0_2 a0.Foes, roP pa0 ([.slice Aa0_0 a0.Names.length ca0_0, .slice Aa0_1 a0.Eats.length ca0_1, .slice Aa0_2 a0.Foes.length ca0_2])]) ?_ ?_
                  · skip
                    refine CJ.block ?_
                    refine CJ.seq ?_
                    refine CJ.seq ?_
                    refine CJ.region ?_
                    refine OJ.pures tU_ok 3 rfl ?_
                    obtain ⟨u28, hu28, H⟩ := pbind H
                    refine OJ.st rfl rfl rfl (SR.shr rfl rfl rfl (chk_some hu28)) ?_
                    refine OJ.st rfl rfl rfl (SR.rem rfl rfl rfl (by decide)) ?_
                    refine OJ.pures tU_ok 1 rfl ?_
                    refine OJ.nil (EJ.next ?_)
                    refine CJ.cond rfl (fun hb => ?_) (fun hb => ?_)
                    · replace H := pif_t (of_decide_eq_true hb) H
                      refine CJ.exit (EJ.skE (EJ.hit (?_)))
                      exact EJ.meet (F' := [(0, .pointer (some pa0)), (1, .bool a1), (5, .slice A6 y5.length c7), (6, .int .i64 y8), (7, .slice A19 y18.length c20), (8, .bool y21), (9, .int .i64 y22)]) ⟨rfl, rfl, rfl, rfl, rfl, rfl, rfl, trivial⟩ ⟨y18, y21, A19, c20, H, rfl, hS.pick [0, 1] [0, 1, 2, 3] rfl⟩
                    · replace H := pif_f (of_decide_eq_false hb) H
                      refine CJ.skip (EJ.next ?_)
                      refine CJ.seq ?_
                      refine CJ.seq ?_
                      refine CJ.region ?_
                      refine OJ.pures tU_ok 1 rfl ?_
                      refine OJ.nil (EJ.next ?_)
                      obtain ⟨j207, H, K207⟩ := pbind H
                      refine CJ.cut1 (fun F w1 => ∃ (y29 : Bool) , (some y29 : Option Bool) = some j207 ∧ F = [(0, .pointer (some pa0)), (1, .bool a1), (5, .slice A6 y5.length c7), (6, .int .i64 y8), (7, .slice A19 y18.length c20), (8, .bool y29), (9, .int .i64 y22)] ∧ St w no w1 [rowC (ci .i64) A6 c7 2 y5, rowC (ci .i64) A19 c20 2 y18] [roC G.cs Aa0_0 ca0_0 a0.Names, roC (ci .i16) Aa0_1 ca0_1 a0.Eats, roC (ci .u16) Aa0_2 ca0_2 a0.Foes, roP pa0 ([.slice Aa0_0 a0.Names.length ca0_0, .slice Aa0_1 a0.Eats.length ca0_1, .slice Aa0_2 a0.Foes.length ca0_2])]) ?_ ?_
                      · skip
                        refine CJ.block ?_
                        refine CJ.loop (fun k F w1 => ∃ (y30 : Bool) (y31 : Int), F = [(0, .pointer (some pa0)), (1, .bool a1), (5, .slice A6 y5.length c7), (6, .int .i64 y8), (7, .slice A19 y18.length c20), (8, .bool y30), (9, .int .i64 y22), (10, .int .i64 y31)] ∧ St w no w1 [rowC (ci .i64) A6 c7 2 y5, rowC (ci .i64) A19 c20 2 y18] [roC G.cs Aa0_0 ca0_0 a0.Names, roC (ci .i16) Aa0_1 ca0_1 a0.Eats, roC (ci .u16) Aa0_2 ca0_2 a0.Foes, roP pa0 ([.slice Aa0_0 a0.Names.length ca0_0, .slice Aa0_1 a0.Eats.length ca0_1, .slice Aa0_2 a0.Foes.length ca0_2])] ∧ spec_l06Largest.l3 a0 a1 y18 y22 k y30 y31 = some j207) k (F' := [(0, .pointer (some pa0)), (1, .bool a1), (5, .slice A6 y5.length c7), (6, .int .i64 y8), (7, .slice A19 y18.length c20), (8, .bool y21), (9, .int .i64 y22), (10, .int .i64 0)]) ⟨rfl, rfl, rfl, rfl, rfl, rfl, rfl, rfl, trivial⟩ ⟨y21, 0, rfl, hS.pick [0, 1] [0, 1, 2, 3] rfl, H⟩ ?_
                        rintro k F w1 ⟨y30, y31, rfl, hS, H⟩
                        cases k with
                        | zero => rw [spec_l06Largest.l3] at H; cases H
                        | succ k =>
                          rw [spec_l06Largest.l3] at H
                          refine CJ.seq ?_
                          refine CJ.seq ?_
                          refine CJ.region ?_
                          refine OJ.pures tU_ok 4 rfl ?_
                          refine OJ.nil (EJ.next ?_)
                          refine CJ.cond rfl (fun hb => ?_) (fun hb => ?_)
                          · replace H := pif_t (of_decide_eq_true hb) H
                            refine CJ.skip (EJ.next ?_)
                            refine CJ.seq ?_
                            refine CJ.block ?_
                            refine CJ.region ?_
                            refine OJ.pures tU_ok 2 rfl ?_
                            refine OJ.split (t := 49) rfl (fun hb => ?_) (fun hb => ?_)
                            · replace H := pif_t hb H
                              refine OJ.pures tU_ok 4 rfl ?_
                              obtain ⟨t32, ht32, H⟩ := pbind H
                              obtain ⟨ad32, e32⟩ := (hS.rd (i := 1) rfl).some' ht32
                              refine OJ.st rfl rfl rfl (SR.idxS tU_ok tI_ok rfl rfl rfl rfl e32 rfl (getI_some ht32).1) ?_
                              refine OJ.st rfl rfl rfl (SR.load rfl rfl (fun w' hx => ld1 tU_ok rfl rfl (CA.ext ((hS.rd (i := 1) rfl).at_ e32 ht32) hx) rfl)) ?_
                              obtain ⟨t33, ht33, H⟩ := pbind H
                              refine OJ.callF rfl rfl rfl rfl rfl hb64 rfl (spec_l06Are.c _ Aa0_0 ca0_0 Aa0_1 ca0_1 Aa0_2 ca0_2 a0 (hS.rd' (i := 0) rfl) (hS.le' (i := 0) rfl) (hS.rd' (i := 1) rfl) (hS.le' (i := 1) rfl) (hS.rd' (i := 2) rfl) (hS.le' (i := 2) rfl) pa0 (hS.ca (i := 3) rfl) y22 t32 _ ht33) ?_
                              rintro _ w1 ⟨rfl, hs⟩
                              replace hS := hS.grow hs
                              refine OJ.pures tU_ok 1 rfl ?_
                              refine OJ.st rfl rfl rfl (SR.eqB tU_ok rfl rfl rfl rfl) ?_
                              refine OJ.pures tU_ok 2 rfl ?_
                              refine OJ.nil (EJ.blk (EJ.next ?_))
                              refine CJ.region ?_
                              refine OJ.pures tU_ok 3 rfl ?_
                              refine OJ.nil ?_
                              exact EJ.round k (F' := [(0, .pointer (some pa0)), (1, .bool a1), (5, .slice A6 y5.length c7), (6, .int .i64 y8), (7, .slice A19 y18.length c20), (8, .bool (decide (t33 = a1))), (9, .int .i64 y22), (10, .int .i64 (IntKind.i64.wrap (y31 + 1)))]) ⟨rfl, rfl, rfl, rfl, rfl, rfl, rfl, rfl, trivial⟩ (Nat.lt_succ_self _) ⟨(decide (t33 = a1)), (IntKind.i64.wrap (y31 + 1)), rfl, hS.pick [0, 1] [0, 1, 2, 3] rfl, H⟩
                            · replace H := pifb_f hb H
                              refine OJ.pures tU_ok 11 rfl ?_
                              refine OJ.nil (EJ.blk (EJ.next ?_))
                              refine CJ.region ?_
                              refine OJ.pures tU_ok 3 rfl ?_
                              refine OJ.nil ?_
                              exact EJ.round k (F' := [(0, .pointer (some pa0)), (1, .bool a1), (5, .slice A6 y5.length c7), (6, .int .i64 y8), (7, .slice A19 y18.length c20), (8, .bool false), (9, .int .i64 y22), (10, .int .i64 (IntKind.i64.wrap (y31 + 1)))]) ⟨rfl, rfl, rfl, rfl, rfl, rfl, rfl, rfl, trivial⟩ (Nat.lt_succ_self _) ⟨false, (IntKind.i64.wrap (y31 + 1)), rfl, hS.pick [0, 1] [0, 1, 2, 3] rfl, H⟩
                          · replace H := pif_f (of_decide_eq_false hb) H
                            refine CJ.exit (EJ.skE (EJ.skE (EJ.hit (?_))))
                            exact EJ.meet (F' := [(0, .pointer (some pa0)), (1, .bool a1), (5, .slice A6 y5.length c7), (6, .int .i64 y8), (7, .slice A19 y18.length c20), (8, .bool y30), (9, .int .i64 y22)]) ⟨rfl, rfl, rfl, rfl, rfl, rfl, rfl, trivial⟩ ⟨y30, H, rfl, hS.pick [0, 1] [0, 1, 2, 3] rfl⟩
                      · rintro F w1 ⟨y29, he, rfl, hS⟩
                        obtain rfl := Option.some.inj he
                        have H := K207
                        refine EJ.next ?_
                        refine CJ.region ?_
                        refine OJ.pures tU_ok 2 rfl ?_
                        refine OJ.ef rfl rfl rfl (Ef.lit tU_ok tI_ok hS (C := (ci .i64)) rfl rfl rfl rfl rfl rfl ([y22] : List Int) rfl rfl rfl rfl) ?_
                        rintro _ w1 ⟨A34, rfl, hS⟩
                        obtain ⟨u35, hu35, H⟩ := pbind H
                        refine OJ.ew rfl rfl rfl (Ew.append tU_ok tI_ok (C := (ci .i64)) (xs := y18) (ys := ([y22] : List Int)) hS (i := 1) rfl rfl rfl rfl rfl rfl rfl rfl rfl rfl rfl rfl rfl (hS.rd (i := 2) rfl) (chk_some hu35)) ?_
                        rintro _ w1 ⟨A36, c37, rfl, hS⟩
                        refine OJ.pures tU_ok 1 rfl ?_
                        refine OJ.nil (EJ.blk (?_))
                        exact EJ.meet (F' := [(0, .pointer (some pa0)), (1, .bool a1), (5, .slice A6 y5.length c7), (6, .int .i64 y8), (7, .slice A36 (y18 ++ ([y22] : List Int)).length c37), (8, .bool y29), (9, .int .i64 y22)]) ⟨rfl, rfl, rfl, rfl, rfl, rfl, rfl, trivial⟩ ⟨(y18 ++ ([y22] : List Int)), y29, A36, c37, H, rfl, hS.pick [0, 1] [0, 1, 2, 3] rfl⟩
                  · rintro F w1 ⟨y24, y27, A25, c26, he, rfl, hS⟩
                    obtain rfl := Option.some.inj he
                    have H := K205
                    refine CJ.region ?_
                    refine OJ.pures tU_ok 3 rfl ?_
                    refine OJ.nil ?_
                    exact EJ.round k (F' := [(0, .pointer (some pa0)), (1, .bool a1), (5, .slice A6 y5.length c7), (6, .int .i64 y8), (7, .slice A25 y24.length c26), (8, .bool y27), (9, .int .i64 (IntKind.i64.wrap (y22 + 1)))]) ⟨rfl, rfl, rfl, rfl, rfl, rfl, rfl, trivial⟩ (Nat.lt_succ_self _) ⟨y24, y27, (IntKind.i64.wrap (y22 + 1)), A25, c26, rfl, hS.pick [0, 1] [0, 1, 2, 3] rfl, H⟩
                · replace H := pifb_f hb H
                  refine CJ.exit (EJ.skE (EJ.skE (EJ.hit (?_))))
                  exact EJ.meet (F' := [(0, .pointer (some pa0)), (1, .bool a1), (5, .slice A6 y5.length c7), (6, .int .i64 y8), (7, .slice A19 y18.length c20), (8, .bool y21)]) ⟨rfl, rfl, rfl, rfl, rfl, rfl, trivial⟩ ⟨y18, y21, A19, c20, H, rfl, hS.pick [0, 1] [0, 1, 2, 3] rfl⟩
          · rintro F w1 ⟨y14, y17, A15, c16, he, rfl, hS⟩
            obtain rfl := Option.some.inj he
            have H := K195
            refine EJ.next ?_
            refine CJ.seq ?_
            refine CJ.region ?_
            refine OJ.pures tU_ok 2 rfl ?_
            refine OJ.split (t := 65) rfl (fun hb => ?_) (fun hb => ?_)
            · replace H := pif_t hb H
              refine OJ.pures tU_ok 6 rfl ?_
              refine OJ.split (t := 71) rfl (fun hb => ?_) (fun hb => ?_)
              · replace H := pif_t (of_decide_eq_true hb) H
                refine OJ.pures tU_ok 12 rfl ?_
                refine OJ.nil (EJ.next ?_)
                refine CJ.condT rfl ?_
                refine CJ.region ?_
                refine OJ.pures tU_ok 2 rfl ?_
                refine OJ.nil (EJ.blk (?_))
                exact EJ.meet (F' := [(0, .pointer (some pa0)), (1, .bool a1), (5, .slice A15 y14.length c16), (6, .int .i64 y8)]) ⟨rfl, rfl, rfl, rfl, trivial⟩ ⟨y14, A15, c16, H, rfl, hS.pick [1] [0, 1, 2, 3] rfl⟩
              · replace H := pif_f (of_decide_eq_false hb) H
                refine OJ.pures tU_ok 6 rfl ?_
                refine OJ.split (t := 77) rfl (fun hb => ?_) (fun hb => ?_)
                · replace H := pif_t (of_decide_eq_true hb) H
                  refine OJ.pures tU_ok 2 rfl ?_
                  obtain ⟨t38, ht38, H⟩ := pbind H
                  refine OJ.callF rfl rfl rfl rfl rfl hb75 rfl (spec_l06Less.c k _ A15 c16 y14 (hS.rd (i := 1) rfl) (hS.le (i := 1) rfl) A6 c7 y5 (hS.rd (i := 0) rfl) (hS.le (i := 0) rfl) _ ht38) ?_
                  rintro _ w1 ⟨rfl, hs⟩
                  replace hS := hS.grow hs
                  refine OJ.pures tU_ok 3 rfl ?_
                  refine OJ.nil (EJ.next ?_)
                  refine CJ.cond rfl (fun hb => ?_) (fun hb => ?_)
                  · replace H := pif_t hb H
                    refine CJ.region ?_
                    refine OJ.pures tU_ok 2 rfl ?_
                    refine OJ.nil (EJ.blk (?_))
                    exact EJ.meet (F' := [(0, .pointer (some pa0)), (1, .bool a1), (5, .slice A15 y14.length c16), (6, .int .i64 y8)]) ⟨rfl, rfl, rfl, rfl, trivial⟩ ⟨y14, A15, c16, H, rfl, hS.pick [1] [0, 1, 2, 3] rfl⟩
                  · replace H := pifb_f hb H
                    refine CJ.skip (EJ.blk (?_))
                    exact EJ.meet (F' := [(0, .pointer (some pa0)), (1, .bool a1), (5, .slice A6 y5.length c7), (6, .int .i64 y8)]) ⟨rfl, rfl, rfl, rfl, trivial⟩ ⟨y5, A6, c7, H, rfl, hS.pick [0] [0, 1, 2, 3] rfl⟩
                · replace H := pif_f (of_decide_eq_false hb) H
                  refine OJ.pures tU_ok 6 rfl ?_
                  refine OJ.nil (EJ.next ?_)
                  refine CJ.condF rfl ?_
                  refine CJ.skip (EJ.blk (?_))
                  exact EJ.meet (F' := [(0, .pointer (some pa0)), (1, .bool a1), (5, .slice A6 y5.length c7), (6, .int .i64 y8)]) ⟨rfl, rfl, rfl, rfl, trivial⟩ ⟨y5, A6, c7, H, rfl, hS.pick [0] [0, 1, 2, 3] rfl⟩
            · replace H := pifb_f hb H
              refine OJ.pures tU_ok 18 rfl ?_
              refine OJ.nil (EJ.next ?_)
              refine CJ.condF rfl ?_
              refine CJ.skip (EJ.blk (?_))
              exact EJ.meet (F' := [(0, .pointer (some pa0)), (1, .bool a1), (5, .slice A6 y5.length c7), (6, .int .i64 y8)]) ⟨rfl, rfl, rfl, rfl, trivial⟩ ⟨y5, A6, c7, H, rfl, hS.pick [0] [0, 1, 2, 3] rfl⟩
        · rintro F w1 ⟨y10, A11, c12, he, rfl, hS⟩
          obtain rfl := Option.some.inj he
          have H := K181
          refine CJ.region ?_
          refine OJ.pures tU_ok 3 rfl ?_
          refine OJ.nil ?_
          exact EJ.round k (F' := [(0, .pointer (some pa0)), (1, .bool a1), (5, .slice A11 y10.length c12), (6, .int .i64 (IntKind.i64.wrap (y8 + 1)))]) ⟨rfl, rfl, rfl, rfl, trivial⟩ (Nat.lt_succ_self _) ⟨y10, (IntKind.i64.wrap (y8 + 1)), A11, c12, rfl, hS.pick [0] [0, 1, 2, 3] rfl, H⟩
      · replace H := pif_f (of_decide_eq_false hb) H
        refine CJ.exit (EJ.skE (EJ.skE (EJ.hit (?_))))
        exact EJ.meet (F' := [(5, .slice A6 y5.length c7)]) ⟨rfl, trivial⟩ ⟨y5, A6, c7, H, rfl, hS.pick [0] [0, 1, 2, 3] rfl⟩
  · rintro F w1 ⟨y2, A3, c4, he, rfl, hS⟩
    obtain rfl := Option.some.inj he
    have H := K125
    refine EJ.next ?_
    refine CJ.seq ?_
    refine CJ.region ?_
    refine OJ.pures tU_ok 2 rfl ?_
    refine OJ.nil (EJ.next ?_)
    refine CJ.ret (?_)
    obtain rfl := Option.some.inj H
    exact EJ.fin rfl (.tmp rfl .nil) ⟨A3, c4, rfl, hS.pick [0] [] rfl⟩

def spec_AllFoes.f (k : Nat) (a0 : Herd) : Option (List Int × Int) := (spec_l06Ok.f k a0).bind fun t2 => if (!t2) = true then (some (([] : List Int), 1)) else ((spec_l06Largest.f k a0 true).bind fun t4 => some (t4, 0))
theorem spec_AllFoes.c (k : Nat) (w : World) (Aa0_0 : Option Addr) (ca0_0 : Nat) (Aa0_1 : Option Addr) (ca0_1 : Nat) (Aa0_2 : Option Addr) (ca0_2 : Nat) (a0 : Herd) (hr0_0 : Rd G.cs w Aa0_0 a0.Names) (hc0_0 : a0.Names.length ≤ ca0_0) (hr0_1 : Rd (ci .i16) w Aa0_1 a0.Eats) (hc0_1 : a0.Eats.length ≤ ca0_1) (hr0_2 : Rd (ci .u16) w Aa0_2 a0.Foes) (hc0_2 : a0.Foes.length ≤ ca0_2) (r : List Int × Int) (H : spec_AllFoes.f k a0 = some r) :
    CV Tryz.prog 12 [.agg [.slice Aa0_0 a0.Names.length ca0_0, .slice Aa0_1 a0.Eats.length ca0_1, .slice Aa0_2 a0.Foes.length ca0_2].toArray].toArray w fun v w' => ∃ (A0 : Option Addr) (c0 : Nat), v = .tuple #[.slice A0 r.1.length c0, .int .i64 r.2] ∧ St w no w' [rowC (ci .i64) A0 c0 2 r.1] [] := by
  have hS := ((((St.init w no).param G.cs Aa0_0 ca0_0 a0.Names hr0_0 hc0_0).param (ci .i16) Aa0_1 ca0_1 a0.Eats hr0_1 hc0_1).param (ci .u16) Aa0_2 ca0_2 a0.Foes hr0_2 hc0_2)
  unfold spec_AllFoes.f at H
  refine CV.body Tryz.func12 rfl Tryz.ntmps12 rfl ?_
  refine CJ.seq ?_
  refine CJ.region ?_
  refine OJ.ef rfl rfl rfl (Ef.box hS rfl rfl ([.slice Aa0_0 a0.Names.length ca0_0, .slice Aa0_1 a0.Eats.length ca0_1, .slice Aa0_2 a0.Foes.length ca0_2]) rfl) ?_
  rintro _ w1 ⟨b1, rfl, hS⟩
  refine OJ.pures tU_ok 2 rfl ?_
  refine OJ.nil (EJ.next ?_)
  refine CJ.seq ?_
  refine CJ.seq ?_
  refine CJ.region ?_
  obtain ⟨t2, ht2, H⟩ := pbind H
  refine OJ.callF rfl rfl rfl rfl rfl hb29 rfl (spec_l06Ok.c k _ Aa0_0 ca0_0 Aa0_1 ca0_1 Aa0_2 ca0_2 a0 (hS.rd' (i := 0) rfl) (hS.le' (i := 0) rfl) (hS.rd' (i := 1) rfl) (hS.le' (i := 1) rfl) (hS.rd' (i := 2) rfl) (hS.le' (i := 2) rfl) ⟨b1, 0, none⟩ (hS.cells (i := 0) rfl) _ ht2) ?_
  rintro _ w1 ⟨rfl, hs⟩
  replace hS := hS.grow hs
  refine OJ.pures tU_ok 1 rfl ?_
  refine OJ.nil (EJ.next ?_)
  refine CJ.cond rfl (fun hb => ?_) (fun hb => ?_)
  · replace H := pif_t hb H
    refine CJ.seq ?_
    refine CJ.region ?_
    refine OJ.ef rfl rfl rfl (Ef.lit tU_ok tI_ok hS (C := (ci .i64)) rfl rfl rfl rfl rfl rfl ([] : List Int) rfl rfl rfl rfl) ?_
    rintro _ w1 ⟨A3, rfl, hS⟩
    refine OJ.pures tU_ok 2 rfl ?_
    refine OJ.nil (EJ.next ?_)
    refine CJ.ret (EJ.skR (?_))
    obtain rfl := Option.some.inj H
    exact EJ.fin rfl (.tmp rfl (.tmp rfl .nil)) ⟨A3, (([] : List Int).length), rfl, hS.pick [1] [] rfl⟩
  · replace H := pifb_f hb H
    refine CJ.skip (EJ.next ?_)
    refine CJ.seq ?_
    refine CJ.region ?_
    obtain ⟨t4, ht4, H⟩ := pbind H
    refine OJ.callF rfl rfl rfl rfl rfl hb42 rfl (spec_l06Largest.c k _ Aa0_0 ca0_0 Aa0_1 ca0_1 Aa0_2 ca0_2 a0 (hS.rd' (i := 0) rfl) (hS.le' (i := 0) rfl) (hS.rd' (i := 1) rfl) (hS.le' (i := 1) rfl) (hS.rd' (i := 2) rfl) (hS.le' (i := 2) rfl) ⟨b1, 0, none⟩ (hS.cells (i := 0) rfl) true _ ht4) ?_
    rintro _ w1 ⟨A5, c6, rfl, hs⟩
    replace hS := hS.addN hs
    refine OJ.pures tU_ok 2 rfl ?_
    refine OJ.nil (EJ.next ?_)
    refine CJ.ret (?_)
    obtain rfl := Option.some.inj H
    exact EJ.fin rfl (.tmp rfl (.tmp rfl .nil)) ⟨A5, c6, rfl, hS.pick [1] [] rfl⟩

def impl_MostPeaceful.f (k : Nat) (a0 : Herd) : Option (List Int × Int) := (impl_ValidHerd.f k a0).bind fun t2 => if (!t2) = true then (some ([], 1)) else ((impl_Herd_largest.f k a0 false).bind fun t3 => some (t3, 0))
theorem impl_MostPeaceful.c (k : Nat) (w : World) (Aa0_0 : Option Addr) (ca0_0 : Nat) (Aa0_1 : Option Addr) (ca0_1 : Nat) (Aa0_2 : Option Addr) (ca0_2 : Nat) (a0 : Herd) (hr0_0 : Rd G.cs w Aa0_0 a0.Names) (hc0_0 : a0.Names.length ≤ ca0_0) (hr0_1 : Rd (ci .i16) w Aa0_1 a0.Eats) (hc0_1 : a0.Eats.length ≤ ca0_1) (hr0_2 : Rd (ci .u16) w Aa0_2 a0.Foes) (hc0_2 : a0.Foes.length ≤ ca0_2) (r : List Int × Int) (H : impl_MostPeaceful.f k a0 = some r) :
    CV Tryz.prog 13 [.agg [.slice Aa0_0 a0.Names.length ca0_0, .slice Aa0_1 a0.Eats.length ca0_1, .slice Aa0_2 a0.Foes.length ca0_2].toArray].toArray w fun v w' => ∃ (A0 : Option Addr) (c0 : Nat), v = .tuple #[.slice A0 r.1.length c0, .int .i64 r.2] ∧ St w no w' [rowC (ci .i64) A0 c0 2 r.1] [] := by
  have hS := ((((St.init w no).param G.cs Aa0_0 ca0_0 a0.Names hr0_0 hc0_0).param (ci .i16) Aa0_1 ca0_1 a0.Eats hr0_1 hc0_1).param (ci .u16) Aa0_2 ca0_2 a0.Foes hr0_2 hc0_2)
  unfold impl_MostPeaceful.f at H
  refine CV.body Tryz.func13 rfl Tryz.ntmps13 rfl ?_
  refine CJ.seq ?_
  refine CJ.region ?_
  refine OJ.ef rfl rfl rfl (Ef.box hS rfl rfl ([.slice Aa0_0 a0.Names.length ca0_0, .slice Aa0_1 a0.Eats.length ca0_1, .slice Aa0_2 a0.Foes.length ca0_2]) rfl) ?_
  rintro _ w1 ⟨b1, rfl, hS⟩
  refine OJ.pures tU_ok 2 rfl ?_
  refine OJ.nil (EJ.next ?_)
  refine CJ.seq ?_
  refine CJ.seq ?_
  refine CJ.region ?_
  refine OJ.st rfl rfl rfl (SR.load rfl rfl (fun w' hx => ldN tU_ok tI_ok rfl rfl rfl (CA.ext (hS.cells (i := 0) rfl) hx) (ds := [.slice Aa0_0 a0.Names.length ca0_0, .slice Aa0_1 a0.Eats.length ca0_1, .slice Aa0_2 a0.Foes.length ca0_2]) rfl rfl)) ?_
  obtain ⟨t2, ht2, H⟩ := pbind H
  refine OJ.callF rfl rfl rfl rfl rfl hb27 rfl (impl_ValidHerd.c k _ Aa0_0 ca0_0 Aa0_1 ca0_1 Aa0_2 ca0_2 a0 (hS.rd' (i := 0) rfl) (hS.le' (i := 0) rfl) (hS.rd' (i := 1) rfl) (hS.le' (i := 1) rfl) (hS.rd' (i := 2) rfl) (hS.le' (i := 2) rfl) _ ht2) ?_
  rintro _ w1 ⟨rfl, hs⟩
  replace hS := hS.grow hs
  refine OJ.pures tU_ok 1 rfl ?_
  refine OJ.nil (EJ.next ?_)
  refine CJ.cond rfl (fun hb => ?_) (fun hb => ?_)
  · replace H := pif_t hb H
    refine CJ.seq ?_
    refine CJ.region ?_
    refine OJ.pures tU_ok 2 rfl ?_
    refine OJ.nil (EJ.next ?_)
    refine CJ.ret (EJ.skR (?_))
    replace hS := hS.addNil (ci .i64) 2 none
    obtain rfl := Option.some.inj H
    exact EJ.fin rfl (.tmp rfl (.tmp rfl .nil)) ⟨none, 0, rfl, hS.pick [1] [] rfl⟩
  · replace H := pifb_f hb H
    refine CJ.skip (EJ.next ?_)
    refine CJ.seq ?_
    refine CJ.region ?_
    refine OJ.st rfl rfl rfl (SR.load rfl rfl (fun w' hx => ldN tU_ok tI_ok rfl rfl rfl (CA.ext (hS.cells (i := 0) rfl) hx) (ds := [.slice Aa0_0 a0.Names.length ca0_0, .slice Aa0_1 a0.Eats.length ca0_1, .slice Aa0_2 a0.Foes.length ca0_2]) rfl rfl)) ?_
    obtain ⟨t3, ht3, H⟩ := pbind H
    refine OJ.callF rfl rfl rfl rfl rfl hb41 rfl (impl_Herd_largest.c k _ Aa0_0 ca0_0 Aa0_1 ca0_1 Aa0_2 ca0_2 a0 (hS.rd' (i := 0) rfl) (hS.le' (i := 0) rfl) (hS.rd' (i := 1) rfl) (hS.le' (i := 1) rfl) (hS.rd' (i := 2) rfl) (hS.le' (i := 2) rfl) false _ ht3) ?_
    rintro _ w1 ⟨A4, c5, rfl, hs⟩
    replace hS := hS.addN hs
    refine OJ.pures tU_ok 2 rfl ?_
    refine OJ.nil (EJ.next ?_)
    refine CJ.ret (?_)
    obtain rfl := Option.some.inj H
    exact EJ.fin rfl (.tmp rfl (.tmp rfl .nil)) ⟨A4, c5, rfl, hS.pick [1] [] rfl⟩

def spec_MostPeaceful.f (k : Nat) (a0 : Herd) : Option (List Int × Int) := (spec_l06Ok.f k a0).bind fun t2 => if (!t2) = true then (some (([] : List Int), 1)) else ((spec_l06Largest.f k a0 false).bind fun t4 => some (t4, 0))
theorem spec_MostPeaceful.c (k : Nat) (w : World) (Aa0_0 : Option Addr) (ca0_0 : Nat) (Aa0_1 : Option Addr) (ca0_1 : Nat) (Aa0_2 : Option Addr) (ca0_2 : Nat) (a0 : Herd) (hr0_0 : Rd G.cs w Aa0_0 a0.Names) (hc0_0 : a0.Names.length ≤ ca0_0) (hr0_1 : Rd (ci .i16) w Aa0_1 a0.Eats) (hc0_1 : a0.Eats.length ≤ ca0_1) (hr0_2 : Rd (ci .u16) w Aa0_2 a0.Foes) (hc0_2 : a0.Foes.length ≤ ca0_2) (r : List Int × Int) (H : spec_MostPeaceful.f k a0 = some r) :
    CV Tryz.prog 14 [.agg [.slice Aa0_0 a0.Names.length ca0_0, .slice Aa0_1 a0.Eats.length ca0_1, .slice Aa0_2 a0.Foes.length ca0_2].toArray].toArray w fun v w' => ∃ (A0 : Option Addr) (c0 : Nat), v = .tuple #[.slice A0 r.1.length c0, .int .i64 r.2] ∧ St w no w' [rowC (ci .i64) A0 c0 2 r.1] [] := by
  have hS := ((((St.init w no).param G.cs Aa0_0 ca0_0 a0.Names hr0_0 hc0_0).param (ci .i16) Aa0_1 ca0_1 a0.Eats hr0_1 hc0_1).param (ci .u16) Aa0_2 ca0_2 a0.Foes hr0_2 hc0_2)
  unfold spec_MostPeaceful.f at H
  refine CV.body Tryz.func14 rfl Tryz.ntmps14 rfl ?_
  refine CJ.seq ?_
  refine CJ.region ?_
  refine OJ.ef rfl rfl rfl (Ef.box hS rfl rfl ([.slice Aa0_0 a0.Names.length ca0_0, .slice Aa0_1 a0.Eats.length ca0_1, .slice Aa0_2 a0.Foes.length ca0_2]) rfl) ?_
  rintro _ w1 ⟨b1, rfl, hS⟩
  refine OJ.pures tU_ok 2 rfl ?_
  refine OJ.nil (EJ.next ?_)
  refine CJ.seq ?_
  refine CJ.seq ?_
  refine CJ.region ?_
  obtain ⟨t2, ht2, H⟩ := pbind H
  refine OJ.callF rfl rfl rfl rfl rfl hb29 rfl (spec_l06Ok.c k _ Aa0_0 ca0_0 Aa0_1 ca0_1 Aa0_2 ca0_2 a0 (hS.rd' (i := 0) rfl) (hS.le' (i := 0) rfl) (hS.rd' (i := 1) rfl) (hS.le' (i := 1) rfl) (hS.rd' (i := 2) rfl) (hS.le' (i := 2) rfl) ⟨b1, 0, none⟩ (hS.cells (i := 0) rfl) _ ht2) ?_
  rintro _ w1 ⟨rfl, hs⟩
  replace hS := hS.grow hs
  refine OJ.pures tU_ok 1 rfl ?_
  refine OJ.nil (EJ.next ?_)
  refine CJ.cond rfl (fun hb => ?_) (fun hb => ?_)
  · replace H := pif_t hb H
    refine CJ.seq ?_
    refine CJ.region ?_
    refine OJ.ef rfl rfl rfl (Ef.lit tU_ok tI_ok hS (C := (ci .i64)) rfl rfl rfl rfl rfl rfl ([] : List Int) rfl rfl rfl rfl) ?_
    rintro _ w1 ⟨A3, rfl, hS⟩
    refine OJ.pures tU_ok 2 rfl ?_
    refine OJ.nil (EJ.next ?_)
    refine CJ.ret (EJ.skR (?_))
    obtain rfl := Option.some.inj H
    exact EJ.fin rfl (.tmp rfl (.tmp rfl .nil)) ⟨A3, (([] : List Int).length), rfl, hS.pick [1] [] rfl⟩
  · replace H := pifb_f hb H
    refine CJ.skip (EJ.next ?_)
    refine CJ.seq ?_
    refine CJ.region ?_
    obtain ⟨t4, ht4, H⟩ := pbind H
    refine OJ.callF rfl rfl rfl rfl rfl hb42 rfl (spec_l06Largest.c k _ Aa0_0 ca0_0 Aa0_1 ca0_1 Aa0_2 ca0_2 a0 (hS.rd' (i := 0) rfl) (hS.le' (i := 0) rfl) (hS.rd' (i := 1) rfl) (hS.le' (i := 1) rfl) (hS.rd' (i := 2) rfl) (hS.le' (i := 2) rfl) ⟨b1, 0, none⟩ (hS.cells (i := 0) rfl) false _ ht4) ?_
    rintro _ w1 ⟨A5, c6, rfl, hs⟩
    replace hS := hS.addN hs
    refine OJ.pures tU_ok 2 rfl ?_
    refine OJ.nil (EJ.next ?_)
    refine CJ.ret (?_)
    obtain rfl := Option.some.inj H
    exact EJ.fin rfl (.tmp rfl (.tmp rfl .nil)) ⟨A5, c6, rfl, hS.pick [1] [] rfl⟩

def impl_Herd_areGroups_1.f (a0 : Int) : Option Bool := (impl_within.f a0 0 13).bind fun t1 => some (!t1)
theorem impl_Herd_areGroups_1.c (w : World) (a0 : Int) (r : Bool) (H : impl_Herd_areGroups_1.f a0 = some r) :
    CV Tryz.prog 76 [.int .i64 a0].toArray w fun v w' => v = .bool r ∧ Ext w w' := by
  have hS := (St.init w no)
  unfold impl_Herd_areGroups_1.f at H
  refine CV.body Tryz.func76 rfl Tryz.ntmps76 rfl ?_
  refine CJ.seq ?_
  refine CJ.region ?_
  refine OJ.pures tU_ok 1 rfl ?_
  refine OJ.nil (EJ.next ?_)
  refine CJ.seq ?_
  refine CJ.region ?_
  refine OJ.pures tU_ok 1 rfl ?_
  obtain ⟨t1, ht1, H⟩ := pbind H
  refine OJ.callF rfl rfl rfl rfl rfl hb49 rfl (impl_within.c _ a0 0 13 _ ht1) ?_
  rintro _ w1 ⟨rfl, hs⟩
  replace hS := hS.grow hs
  refine OJ.pures tU_ok 2 rfl ?_
  refine OJ.nil (EJ.next ?_)
  refine CJ.ret (?_)
  obtain rfl := Option.some.inj H
  exact EJ.fin rfl (.tmp rfl .nil) ⟨rfl, hS.ext⟩

def impl_Herd_areGroups.f (k : Nat) (a0 : Herd) (a1 : List Int) : Option Bool := (impl_size_int64.f a1).bind fun t2 => (impl_Herd_many.f a0).bind fun t3 => if t2 = t3 then ((slices_ContainsFunc_int64_int64.f k a1 impl_Herd_areGroups_1.f).bind fun t4 => some (!t4)) else (some false)
theorem impl_Herd_areGroups.c (k : Nat) (w : World) (Aa0_0 : Option Addr) (ca0_0 : Nat) (Aa0_1 : Option Addr) (ca0_1 : Nat) (Aa0_2 : Option Addr) (ca0_2 : Nat) (a0 : Herd) (hr0_0 : Rd G.cs w Aa0_0 a0.Names) (hc0_0 : a0.Names.length ≤ ca0_0) (hr0_1 : Rd (ci .i16) w Aa0_1 a0.Eats) (hc0_1 : a0.Eats.length ≤ ca0_1) (hr0_2 : Rd (ci .u16) w Aa0_2 a0.Foes) (hc0_2 : a0.Foes.length ≤ ca0_2) (Aa1 : Option Addr) (ca1 : Nat) (a1 : List Int) (hr1 : Rd (ci .i64) w Aa1 a1) (hc1 : a1.length ≤ ca1) (r : Bool) (H : impl_Herd_areGroups.f k a0 a1 = some r) :
    CV Tryz.prog 43 [.agg [.slice Aa0_0 a0.Names.length ca0_0, .slice Aa0_1 a0.Eats.length ca0_1, .slice Aa0_2 a0.Foes.length ca0_2].toArray, .slice Aa1 a1.length ca1].toArray w fun v w' => v = .bool r ∧ Ext w w' := by
  have hS := (((((St.init w no).param G.cs Aa0_0 ca0_0 a0.Names hr0_0 hc0_0).param (ci .i16) Aa0_1 ca0_1 a0.Eats hr0_1 hc0_1).param (ci .u16) Aa0_2 ca0_2 a0.Foes hr0_2 hc0_2).param (ci .i64) Aa1 ca1 a1 hr1 hc1)
  unfold impl_Herd_areGroups.f at H
  refine CV.body Tryz.func43 rfl Tryz.ntmps43 rfl ?_
  refine CJ.seq ?_
  refine CJ.region ?_
  refine OJ.ef rfl rfl rfl (Ef.box hS rfl rfl ([.slice Aa0_0 a0.Names.length ca0_0, .slice Aa0_1 a0.Eats.length ca0_1, .slice Aa0_2 a0.Foes.length ca0_2]) rfl) ?_
  rintro _ w1 ⟨b1, rfl, hS⟩
  refine OJ.pures tU_ok 1 rfl ?_
  refine OJ.nil (EJ.next ?_)
  refine CJ.seq ?_
  refine CJ.draw [] [0, 2, 1, 3, 4, 5, 6, 7, 8, 9, 10] mixed (by kernel_rfl) hS fun w1 hS => ?_
  refine DJ.pures tU_ok 1 rfl ?_
  refine DJ.st rfl rfl rfl rfl rfl (SR.load rfl rfl (fun w' hx => ldN tU_ok tI_ok rfl rfl rfl (CA.ext (hS.cells (i := 0) rfl) hx) (ds := [.slice Aa0_0 a0.Names.length ca0_0, .slice Aa0_1 a0.Eats.length ca0_1, .slice Aa0_2 a0.Foes.length ca0_2]) rfl rfl)) ?_
  obtain ⟨t2, ht2, H⟩ := pbind H
  refine DJ.callF rfl rfl rfl rfl rfl rfl rfl hb31 rfl (impl_size_int64.c _ Aa1 ca1 a1 (hS.rd' (i := 3) rfl) (hS.le' (i := 3) rfl) _ ht2) (by rintro v w' ⟨rfl, hs⟩; exact hs) ?_
  rintro _ w1 ⟨rfl, hs⟩
  replace hS := hS.grow hs
  obtain ⟨t3, ht3, H⟩ := pbind H
  refine DJ.callF rfl rfl rfl rfl rfl rfl rfl hb32 rfl (impl_Herd_many.c _ Aa0_0 ca0_0 Aa0_1 ca0_1 Aa0_2 ca0_2 a0 (hS.rd' (i := 0) rfl) (hS.le' (i := 0) rfl) (hS.rd' (i := 1) rfl) (hS.le' (i := 1) rfl) (hS.rd' (i := 2) rfl) (hS.le' (i := 2) rfl) _ ht3) (by rintro v w' ⟨rfl, hs⟩; exact hs) ?_
  rintro _ w1 ⟨rfl, hs⟩
  replace hS := hS.grow hs
  refine DJ.pures tU_ok 2 rfl ?_
  refine DJ.split (t := 10) rfl (fun hb => ?_) (fun hb => ?_)
  · replace H := pif_t (of_decide_eq_true hb) H
    refine DJ.pures tU_ok 1 rfl ?_
    obtain ⟨t4, ht4, H⟩ := pbind H
    refine DJ.callF rfl rfl rfl rfl rfl rfl rfl hb36 rfl (slices_ContainsFunc_int64_int64.c k _ Aa1 ca1 a1 (hS.rd' (i := 3) rfl) (hS.le' (i := 3) rfl) 76 #[] #[] hb76 impl_Herd_areGroups_1.f (fun z0 r h w' hx => CV.cast (impl_Herd_areGroups_1.c w'   z0 r h) (by simp)) _ ht4) (by rintro v w' ⟨rfl, hs⟩; exact hs) ?_
    rintro _ w1 ⟨rfl, hs⟩
    replace hS := hS.grow hs
    refine DJ.pures tU_ok 3 rfl ?_
    refine DJ.nil (EJ.next ?_)
    refine CJ.ret (?_)
    obtain rfl := Option.some.inj H
    exact EJ.fin rfl (.tmp rfl .nil) ⟨rfl, hS.ext⟩
  · replace H := pif_f (of_decide_eq_false hb) H
    refine DJ.pures tU_ok 5 rfl ?_
    refine DJ.nil (EJ.next ?_)
    refine CJ.ret (?_)
    obtain rfl := Option.some.inj H
    exact EJ.fin rfl (.tmp rfl .nil) ⟨rfl, hS.ext⟩

def impl_Herd_quarrel.l2 (a0 : Herd) (a1 : List Int) (y2 : Int) (t3 : Int) : Nat → Int → Option ((((Int × Int × Bool) ⊕ Unit) ⊕ Unit) ⊕ Unit)
  | 0, _ => none
  | k + 1, y4 => if y4 < (a1.length : Int) then (((getI a1 y4).bind fun t6 => if t3 = t6 then ((impl_Herd_areFoes.f a0 y2 y4).bind fun t7 => some t7) else (some false)).bind fun y5 => if y5 = true then (some (Sum.inl (Sum.inl (Sum.inl (y2, y4, true))))) else (impl_Herd_quarrel.l2 a0 a1 y2 t3 k (IntKind.i64.wrap (y4 + 1)))) else (some (Sum.inr ()))
def impl_Herd_quarrel.l1 (a0 : Herd) (a1 : List Int) : Nat → Int → Option ((Int × Int × Bool) ⊕ Unit)
  | 0, _ => none
  | k + 1, y2 => if y2 < (a1.length : Int) then (((getI a1 y2).bind fun t3 => (impl_Herd_quarrel.l2 a0 a1 y2 t3 k (IntKind.i64.wrap (y2 + 1))).bind fun s232 => match s232 with | .inl r => some r | .inr _ => some (Sum.inr ())).bind fun s227 => match s227 with | .inl r => some r | .inr _ => impl_Herd_quarrel.l1 a0 a1 k (IntKind.i64.wrap (y2 + 1))) else (some (Sum.inr ()))
def impl_Herd_quarrel.f (k : Nat) (a0 : Herd) (a1 : List Int) : Option (Int × Int × Bool) := (impl_Herd_quarrel.l1 a0 a1 k 0).bind fun s208 => match s208 with | .inl r => some r | .inr _ => some (0, 0, false)
theorem impl_Herd_quarrel.c (k : Nat) (w : World) (Aa0_0 : Option Addr) (ca0_0 : Nat) (Aa0_1 : Option Addr) (ca0_1 : Nat) (Aa0_2 : Option Addr) (ca0_2 : Nat) (a0 : Herd) (hr0_0 : Rd G.cs w Aa0_0 a0.Names) (hc0_0 : a0.Names.length ≤ ca0_0) (hr0_1 : Rd (ci .i16) w Aa0_1 a0.Eats) (hc0_1 : a0.Eats.length ≤ ca0_1) (hr0_2 : Rd (ci .u16) w Aa0_2 a0.Foes) (hc0_2 : a0.Foes.length ≤ ca0_2) (Aa1 : Option Addr) (ca1 : Nat) (a1 : List Int) (hr1 : Rd (ci .i64) w Aa1 a1) (hc1 : a1.length ≤ ca1) (r : Int × Int × Bool) (H : impl_Herd_quarrel.f k a0 a1 = some r) :
    CV Tryz.prog 44 [.agg [.slice Aa0_0 a0.Names.length ca0_0, .slice Aa0_1 a0.Eats.length ca0_1, .slice Aa0_2 a0.Foes.length ca0_2].toArray, .slice Aa1 a1.length ca1].toArray w fun v w' => v = .tuple #[.int .i64 r.1, .int .i64 r.2.1, .bool r.2.2] ∧ Ext w w' := by
  have hS := (((((St.init w no).param G.cs Aa0_0 ca0_0 a0.Names hr0_0 hc0_0).param (ci .i16) Aa0_1 ca0_1 a0.Eats hr0_1 hc0_1).param (ci .u16) Aa0_2 ca0_2 a0.Foes hr0_2 hc0_2).param (ci .i64) Aa1 ca1 a1 hr1 hc1)
  unfold impl_Herd_quarrel.f at H
  refine CV.body Tryz.func44 rfl Tryz.ntmps44 rfl ?_
  refine CJ.seq ?_
  refine CJ.region ?_
  refine OJ.ef rfl rfl rfl (Ef.box hS rfl rfl ([.slice Aa0_0 a0.Names.length ca0_0, .slice Aa0_1 a0.Eats.length ca0_1, .slice Aa0_2 a0.Foes.length ca0_2]) rfl) ?_
  rintro _ w1 ⟨b1, rfl, hS⟩
  refine OJ.pures tU_ok 3 rfl ?_
  refine OJ.nil (EJ.next ?_)
  refine CJ.seq ?_
  refine CJ.seq ?_
  refine CJ.region ?_
  refine OJ.pures tU_ok 3 rfl ?_
  refine OJ.nil (EJ.next ?_)
  obtain ⟨j208, H, K208⟩ := pbind H
  refine CJ.cut1 (fun F w1 => (some (Sum.inr ()) : Option ((Int × Int × Bool) ⊕ Unit)) = some j208 ∧ F = [] ∧ St w no w1 [] [roC G.cs Aa0_0 ca0_0 a0.Names, roC (ci .i16) Aa0_1 ca0_1 a0.Eats, roC (ci .u16) Aa0_2 ca0_2 a0.Foes, roC (ci .i64) Aa1 ca1 a1]) ?_ ?_
  · skip
    refine CJ.block ?_
    refine CJ.loop (fun k F w1 => ∃ (y2 : Int), F = [(1, .slice Aa1 a1.length ca1), (2, .pointer (some ⟨b1, 0, none⟩)), (10, .slice Aa1 a1.length ca1), (11, .int .i64 (a1.length : Int)), (12, .int .i64 y2)] ∧ St w no w1 [box b1 ([.slice Aa0_0 a0.Names.length ca0_0, .slice Aa0_1 a0.Eats.length ca0_1, .slice Aa0_2 a0.Foes.length ca0_2]) 28] [roC G.cs Aa0_0 ca0_0 a0.Names, roC (ci .i16) Aa0_1 ca0_1 a0.Eats, roC (ci .u16) Aa0_2 ca0_2 a0.Foes, roC (ci .i64) Aa1 ca1 a1] ∧ impl_Herd_quarrel.l1 a0 a1 k y2 = some j208) k (F' := [(1, .slice Aa1 a1.length ca1), (2, .pointer (some ⟨b1, 0, none⟩)), (10, .slice Aa1 a1.length ca1), (11, .int .i64 (a1.length : Int)), (12, .int .i64 0)]) ⟨rfl, rfl, rfl, rfl, rfl, trivial⟩ ⟨0, rfl, hS.pick [0] [0, 1, 2, 3] rfl, H⟩ ?_
    rintro k F w1 ⟨y2, rfl, hS, H⟩
    cases k with
    | zero => rw [impl_Herd_quarrel.l1] at H; cases H
    | succ k =>
      rw [impl_Herd_quarrel.l1] at H
      refine CJ.seq ?_
      refine CJ.region ?_
      refine OJ.pures tU_ok 1 rfl ?_
      refine OJ.nil (EJ.next ?_)
      refine CJ.seq ?_
      refine CJ.cond rfl (fun hb => ?_) (fun hb => ?_)
      · replace H := pif_t (of_decide_eq_true hb) H
        refine CJ.skip (EJ.next ?_)
        obtain ⟨j227, H, K227⟩ := pbind H
        refine CJ.cut (fun F w1 => (some (Sum.inr ()) : Option (((Int × Int × Bool) ⊕ Unit) ⊕ Unit)) = some j227 ∧ F = [(1, .slice Aa1 a1.length ca1), (2, .pointer (some ⟨b1, 0, none⟩)), (10, .slice Aa1 a1.length ca1), (11, .int .i64 (a1.length : Int)), (12, .int .i64 y2)] ∧ St w no w1 [box b1 ([.slice Aa0_0 a0.Names.length ca0_0, .slice Aa0_1 a0.Eats.length ca0_1, .slice Aa0_2 a0.Foes.length ca0_2]) 28] [roC G.cs Aa0_0 ca0_0 a0.Names, roC (ci .i16) Aa0_1 ca0_1 a0.Eats, roC (ci .u16) Aa0_2 ca0_2 a0.Foes, roC (ci .i64) Aa1 ca1 a1]) ?_ ?_
        · skip
          refine CJ.block ?_
          refine CJ.seq ?_
          refine CJ.region ?_
          refine OJ.pures tU_ok 1 rfl ?_
          obtain ⟨t3, ht3, H⟩ := pbind H
          obtain ⟨ad3, e3⟩ := (hS.rd' (i := 3) rfl).some' ht3
          refine OJ.st rfl rfl rfl (SR.idxS tU_ok tI_ok rfl rfl rfl rfl e3 rfl (getI_some ht3).1) ?_
          refine OJ.st rfl rfl rfl (SR.load rfl rfl (fun w' hx => ld1 tU_ok rfl rfl (CA.ext ((hS.rd' (i := 3) rfl).at_ e3 ht3) hx) rfl)) ?_
          refine OJ.pures tU_ok 2 rfl ?_
          refine OJ.nil (EJ.next ?_)
          refine CJ.seq ?_
          refine CJ.region ?_
          refine OJ.pures tU_ok 3 rfl ?_
          refine OJ.nil (EJ.next ?_)
          obtain ⟨j232, H, K232⟩ := pbind H
          refine CJ.cut1 (fun F w1 => (some (Sum.inr ()) : Option ((((Int × Int × Bool) ⊕ Unit) ⊕ Unit) ⊕ Unit)) = some j232 ∧ F = [(1, .slice Aa1 a1.length ca1), (2, .pointer (some ⟨b1, 0, none⟩)), (10, .slice Aa1 a1.length ca1), (11, .int .i64 (a1.length : Int)), (12, .int .i64 y2)] ∧ St w no w1 [box b1 ([.slice Aa0_0 a0.Names.length ca0_0, .slice Aa0_1 a0.Eats.length ca0_1, .slice Aa0_2 a0.Foes.length ca0_2]) 28] [roC G.cs Aa0_0 ca0_0 a0.Names, roC (ci .i16) Aa0_1 ca0_1 a0.Eats, roC (ci .u16) Aa0_2 ca0_2 a0.Foes, roC (ci .i64) Aa1 ca1 a1]) ?_ ?_
          · skip
            refine CJ.block ?_
            refine CJ.loop (fun k F w1 => ∃ (y4 : Int), F = [(1, .slice Aa1 a1.length ca1), (2, .pointer (some ⟨b1, 0, none⟩)), (7, .int .i64 y2), (8, .int .i64 t3), (9, .int .i64 y4), (10, .slice Aa1 a1.length ca1), (11, .int .i64 (a1.length : Int)), (12, .int .i64 y2)] ∧ St w no w1 [box b1 ([.slice Aa0_0 a0.Names.length ca0_0, .slice Aa0_1 a0.Eats.length ca0_1, .slice Aa0_2 a0.Foes.length ca0_2]) 28] [roC G.cs Aa0_0 ca0_0 a0.Names, roC (ci .i16) Aa0_1 ca0_1 a0.Eats, roC (ci .u16) Aa0_2 ca0_2 a0.Foes, roC (ci .i64) Aa1 ca1 a1] ∧ impl_Herd_quarrel.l2 a0 a1 y2 t3 k y4 = some j232) k (F' := [(1, .slice Aa1 a1.length ca1), (2, .pointer (some ⟨b1, 0, none⟩)), (7, .int .i64 y2), (8, .int .i64 t3), (9, .int .i64 (IntKind.i64.wrap (y2 + 1))), (10, .slice Aa1 a1.length ca1), (11, .int .i64 (a1.length : Int)), (12, .int .i64 y2)]) ⟨rfl, rfl, rfl, rfl, rfl, rfl, rfl, rfl, trivial⟩ ⟨(IntKind.i64.wrap (y2 + 1)), rfl, hS.pick [0] [0, 1, 2, 3] rfl, H⟩ ?_
            rintro k F w1 ⟨y4, rfl, hS, H⟩
            cases k with
            | zero => rw [impl_Herd_quarrel.l2] at H; cases H
            | succ k =>
              rw [impl_Herd_quarrel.l2] at H
              refine CJ.seq ?_
              refine CJ.seq ?_
              refine CJ.region ?_
              refine OJ.pures tU_ok 4 rfl ?_
              refine OJ.nil (EJ.next ?_)
              refine CJ.cond rfl (fun hb => ?_) (fun hb => ?_)
              · replace H := pif_t (of_decide_eq_true hb) H
                refine CJ.skip (EJ.next ?_)
                refine CJ.seq ?_
                refine CJ.block ?_
                obtain ⟨j235, H, K235⟩ := pbind H
                refine CJ.cut (fun F w1 => ∃ (y5 : Bool) , (some y5 : Option Bool) = some j235 ∧ F = [(1, .slice Aa1 a1.length ca1), (2, .pointer (some ⟨b1, 0, none⟩)), (7, .int .i64 y2), (8, .int .i64 t3), (9, .int .i64 y4), (10, .slice Aa1 a1.length ca1), (11, .int .i64 (a1.length : Int)), (12, .int .i64 y2), (36, .bool y5)] ∧ St w no w1 [box b1 ([.slice Aa0_0 a0.Names.length ca0_0, .slice Aa0_1 a0.Eats.length ca0_1, .slice Aa0_2 a0.Foes.length ca0_2]) 28] [roC G.cs Aa0_0 ca0_0 a0.Names, roC (ci .i16) Aa0_1 ca0_1 a0.Eats, roC (ci .u16) Aa0_2 ca0_2 a0.Foes, roC (ci .i64) Aa1 ca1 a1]) ?_ ?_
                · skip
                  refine CJ.region ?_
                  refine OJ.pures tU_ok 3 rfl ?_
                  obtain ⟨t6, ht6, H⟩ := pbind H
                  obtain ⟨ad6, e6⟩ := (hS.rd' (i := 3) rfl).some' ht6
                  refine OJ.st rfl rfl rfl (SR.idxS tU_ok tI_ok rfl rfl rfl rfl e6 rfl (getI_some ht6).1) ?_
                  refine OJ.st rfl rfl rfl (SR.load rfl rfl (fun w' hx => ld1 tU_ok rfl rfl (CA.ext ((hS.rd' (i := 3) rfl).at_ e6 ht6) hx) rfl)) ?_
                  refine OJ.pures tU_ok 2 rfl ?_
                  refine OJ.split (t := 31) rfl (fun hb => ?_) (fun hb => ?_)
                  · replace H := pif_t (of_decide_eq_true hb) H
                    refine OJ.st rfl rfl rfl (SR.load rfl rfl (fun w' hx => ldN tU_ok tI_ok rfl rfl rfl (CA.ext (hS.cells (i := 0) rfl) hx) (ds := [.slice Aa0_0 a0.Names.length ca0_0, .slice Aa0_1 a0.Eats.length ca0_1, .slice Aa0_2 a0.Foes.length ca0_2]) rfl rfl)) ?_
                    refine OJ.pures tU_ok 2 rfl ?_
                    obtain ⟨t7, ht7, H⟩ := pbind H
                    refine OJ.callF rfl rfl rfl rfl rfl hb46 rfl (impl_Herd_areFoes.c _ Aa0_0 ca0_0 Aa0_1 ca0_1 Aa0_2 ca0_2 a0 (hS.rd' (i := 0) rfl) (hS.le' (i := 0) rfl) (hS.rd' (i := 1) rfl) (hS.le' (i := 1) rfl) (hS.rd' (i := 2) rfl) (hS.le' (i := 2) rfl) y2 y4 _ ht7) ?_
                    rintro _ w1 ⟨rfl, hs⟩
                    replace hS := hS.grow hs
                    refine OJ.pures tU_ok 1 rfl ?_
                    refine OJ.nil ?_
                    exact EJ.meet (F' := [(1, .slice Aa1 a1.length ca1), (2, .pointer (some ⟨b1, 0, none⟩)), (7, .int .i64 y2), (8, .int .i64 t3), (9, .int .i64 y4), (10, .slice Aa1 a1.length ca1), (11, .int .i64 (a1.length : Int)), (12, .int .i64 y2), (36, .bool t7)]) ⟨rfl, rfl, rfl, rfl, rfl, rfl, rfl, rfl, rfl, trivial⟩ ⟨t7, H, rfl, hS.pick [0] [0, 1, 2, 3] rfl⟩
                  · replace H := pif_f (of_decide_eq_false hb) H
                    refine OJ.pures tU_ok 5 rfl ?_
                    refine OJ.nil ?_
                    exact EJ.meet (F' := [(1, .slice Aa1 a1.length ca1), (2, .pointer (some ⟨b1, 0, none⟩)), (7, .int .i64 y2), (8, .int .i64 t3), (9, .int .i64 y4), (10, .slice Aa1 a1.length ca1), (11, .int .i64 (a1.length : Int)), (12, .int .i64 y2), (36, .bool false)]) ⟨rfl, rfl, rfl, rfl, rfl, rfl, rfl, rfl, rfl, trivial⟩ ⟨false, H, rfl, hS.pick [0] [0, 1, 2, 3] rfl⟩
                · rintro F w1 ⟨y5, he, rfl, hS⟩
                  obtain rfl := Option.some.inj he
                  have H := K235
                  refine CJ.cond rfl (fun hb => ?_) (fun hb => ?_)
                  · replace H := pif_t hb H
                    refine CJ.seq ?_
                    refine CJ.region ?_
                    refine OJ.pures tU_ok 5 rfl ?_
                    refine OJ.nil (EJ.next ?_)
                    refine CJ.ret (EJ.bkR (EJ.skR (EJ.skR (EJ.bkR (EJ.skR (EJ.bkR (EJ.skR (EJ.skR (EJ.bkR (EJ.skR (EJ.skR (?_))))))))))))
                    first | (obtain rfl := Option.some.inj H; have H := K232) | (obtain ⟨q232, H2, e232⟩ := pbind H; obtain rfl := Option.some.inj e232; obtain rfl := Option.some.inj K232; have H := H2)
                    first | (obtain rfl := Option.some.inj H; have H := K227) | (obtain ⟨q227, H2, e227⟩ := pbind H; obtain rfl := Option.some.inj e227; obtain rfl := Option.some.inj K227; have H := H2)
                    first | (obtain rfl := Option.some.inj H; have H := K208) | (obtain ⟨q208, H2, e208⟩ := pbind H; obtain rfl := Option.some.inj e208; obtain rfl := Option.some.inj K208; have H := H2)
                    obtain rfl := Option.some.inj H
                    exact EJ.fin rfl (.tmp rfl (.tmp rfl (.tmp rfl .nil))) ⟨rfl, hS.ext⟩
                  · replace H := pifb_f hb H
                    refine CJ.skip (EJ.blk (EJ.next ?_))
                    refine CJ.region ?_
                    refine OJ.pures tU_ok 3 rfl ?_
                    refine OJ.nil ?_
                    exact EJ.round k (F' := [(1, .slice Aa1 a1.length ca1), (2, .pointer (some ⟨b1, 0, none⟩)), (7, .int .i64 y2), (8, .int .i64 t3), (9, .int .i64 (IntKind.i64.wrap (y4 + 1))), (10, .slice Aa1 a1.length ca1), (11, .int .i64 (a1.length : Int)), (12, .int .i64 y2)]) ⟨rfl, rfl, rfl, rfl, rfl, rfl, rfl, rfl, trivial⟩ (Nat.lt_succ_self _) ⟨(IntKind.i64.wrap (y4 + 1)), rfl, hS.pick [0] [0, 1, 2, 3] rfl, H⟩
              · replace H := pif_f (of_decide_eq_false hb) H
                refine CJ.exit (EJ.skE (EJ.skE (EJ.hit (?_))))
                exact EJ.meet (F' := [(1, .slice Aa1 a1.length ca1), (2, .pointer (some ⟨b1, 0, none⟩)), (10, .slice Aa1 a1.length ca1), (11, .int .i64 (a1.length : Int)), (12, .int .i64 y2)]) ⟨rfl, rfl, rfl, rfl, rfl, trivial⟩ ⟨H, rfl, hS.pick [0] [0, 1, 2, 3] rfl⟩
          · rintro F w1 ⟨he, rfl, hS⟩
            obtain rfl := Option.some.inj he
            have H := K232
            refine EJ.blk (?_)
            exact EJ.meet (F' := [(1, .slice Aa1 a1.length ca1), (2, .pointer (some ⟨b1, 0, none⟩)), (10, .slice Aa1 a1.length ca1), (11, .int .i64 (a1.length : Int)), (12, .int .i64 y2)]) ⟨rfl, rfl, rfl, rfl, rfl, trivial⟩ ⟨H, rfl, hS.pick [0] [0, 1, 2, 3] rfl⟩
        · rintro F w1 ⟨he, rfl, hS⟩
          obtain rfl := Option.some.inj he
          have H := K227
          refine CJ.region ?_
          refine OJ.pures tU_ok 2 rfl ?_
          refine OJ.nil ?_
          exact EJ.round k (F' := [(1, .slice Aa1 a1.length ca1), (2, .pointer (some ⟨b1, 0, none⟩)), (10, .slice Aa1 a1.length ca1), (11, .int .i64 (a1.length : Int)), (12, .int .i64 (IntKind.i64.wrap (y2 + 1)))]) ⟨rfl, rfl, rfl, rfl, rfl, trivial⟩ (Nat.lt_succ_self _) ⟨(IntKind.i64.wrap (y2 + 1)), rfl, hS.pick [0] [0, 1, 2, 3] rfl, H⟩
      · replace H := pif_f (of_decide_eq_false hb) H
        refine CJ.exit (EJ.skE (EJ.skE (EJ.hit (?_))))
        exact EJ.meet (F' := []) trivial ⟨H, rfl, hS.pick [] [0, 1, 2, 3] rfl⟩
  · rintro F w1 ⟨he, rfl, hS⟩
    obtain rfl := Option.some.inj he
    have H := K208
    refine EJ.next ?_
    refine CJ.seq ?_
    refine CJ.region ?_
    refine OJ.pures tU_ok 3 rfl ?_
    refine OJ.nil (EJ.next ?_)
    refine CJ.ret (?_)
    obtain rfl := Option.some.inj H
    exact EJ.fin rfl (.tmp rfl (.tmp rfl (.tmp rfl .nil))) ⟨rfl, hS.ext⟩

def impl_CheckGroups.f (k : Nat) (a0 : Herd) (a1 : List Int) : Option (Bool × Int) := (impl_ValidHerd.f k a0).bind fun t2 => if (!t2) = true then (some (false, 1)) else ((impl_Herd_areGroups.f k a0 a1).bind fun t3 => if (!t3) = true then (some (false, 0)) else ((impl_Herd_quarrel.f k a0 a1).bind fun t4 => some ((!t4.2.2), 0)))
theorem impl_CheckGroups.c (k : Nat) (w : World) (Aa0_0 : Option Addr) (ca0_0 : Nat) (Aa0_1 : Option Addr) (ca0_1 : Nat) (Aa0_2 : Option Addr) (ca0_2 : Nat) (a0 : Herd) (hr0_0 : Rd G.cs w Aa0_0 a0.Names) (hc0_0 : a0.Names.length ≤ ca0_0) (hr0_1 : Rd (ci .i16) w Aa0_1 a0.Eats) (hc0_1 : a0.Eats.length ≤ ca0_1) (hr0_2 : Rd (ci .u16) w Aa0_2 a0.Foes) (hc0_2 : a0.Foes.length ≤ ca0_2) (Aa1 : Option Addr) (ca1 : Nat) (a1 : List Int) (hr1 : Rd (ci .i64) w Aa1 a1) (hc1 : a1.length ≤ ca1) (r : Bool × Int) (H : impl_CheckGroups.f k a0 a1 = some r) :
    CV Tryz.prog 15 [.agg [.slice Aa0_0 a0.Names.length ca0_0, .slice Aa0_1 a0.Eats.length ca0_1, .slice Aa0_2 a0.Foes.length ca0_2].toArray, .slice Aa1 a1.length ca1].toArray w fun v w' => v = .tuple #[.bool r.1, .int .i64 r.2] ∧ Ext w w' := by
  have hS := (((((St.init w no).param G.cs Aa0_0 ca0_0 a0.Names hr0_0 hc0_0).param (ci .i16) Aa0_1 ca0_1 a0.Eats hr0_1 hc0_1).param (ci .u16) Aa0_2 ca0_2 a0.Foes hr0_2 hc0_2).param (ci .i64) Aa1 ca1 a1 hr1 hc1)
  unfold impl_CheckGroups.f at H
  refine CV.body Tryz.func15 rfl Tryz.ntmps15 rfl ?_
  refine CJ.seq ?_
  refine CJ.region ?_
  refine OJ.ef rfl rfl rfl (Ef.box hS rfl rfl ([.slice Aa0_0 a0.Names.length ca0_0, .slice Aa0_1 a0.Eats.length ca0_1, .slice Aa0_2 a0.Foes.length ca0_2]) rfl) ?_
  rintro _ w1 ⟨b1, rfl, hS⟩
  refine OJ.pures tU_ok 2 rfl ?_
  refine OJ.nil (EJ.next ?_)
  refine CJ.seq ?_
  refine CJ.seq ?_
  refine CJ.region ?_
  refine OJ.st rfl rfl rfl (SR.load rfl rfl (fun w' hx => ldN tU_ok tI_ok rfl rfl rfl (CA.ext (hS.cells (i := 0) rfl) hx) (ds := [.slice Aa0_0 a0.Names.length ca0_0, .slice Aa0_1 a0.Eats.length ca0_1, .slice Aa0_2 a0.Foes.length ca0_2]) rfl rfl)) ?_
  obtain ⟨t2, ht2, H⟩ := pbind H
  refine OJ.callF rfl rfl rfl rfl rfl hb27 rfl (impl_ValidHerd.c k _ Aa0_0 ca0_0 Aa0_1 ca0_1 Aa0_2 ca0_2 a0 (hS.rd' (i := 0) rfl) (hS.le' (i := 0) rfl) (hS.rd' (i := 1) rfl) (hS.le' (i := 1) rfl) (hS.rd' (i := 2) rfl) (hS.le' (i := 2) rfl) _ ht2) ?_
  rintro _ w1 ⟨rfl, hs⟩
  replace hS := hS.grow hs
  refine OJ.pures tU_ok 1 rfl ?_
  refine OJ.nil (EJ.next ?_)
  refine CJ.cond rfl (fun hb => ?_) (fun hb => ?_)
  · replace H := pif_t hb H
    refine CJ.seq ?_
    refine CJ.region ?_
    refine OJ.pures tU_ok 2 rfl ?_
    refine OJ.nil (EJ.next ?_)
    refine CJ.ret (EJ.skR (?_))
    obtain rfl := Option.some.inj H
    exact EJ.fin rfl (.tmp rfl (.tmp rfl .nil)) ⟨rfl, hS.ext⟩
  · replace H := pifb_f hb H
    refine CJ.skip (EJ.next ?_)
    refine CJ.seq ?_
    refine CJ.seq ?_
    refine CJ.region ?_
    refine OJ.st rfl rfl rfl (SR.load rfl rfl (fun w' hx => ldN tU_ok tI_ok rfl rfl rfl (CA.ext (hS.cells (i := 0) rfl) hx) (ds := [.slice Aa0_0 a0.Names.length ca0_0, .slice Aa0_1 a0.Eats.length ca0_1, .slice Aa0_2 a0.Foes.length ca0_2]) rfl rfl)) ?_
    refine OJ.pures tU_ok 1 rfl ?_
    obtain ⟨t3, ht3, H⟩ := pbind H
    refine OJ.callF rfl rfl rfl rfl rfl hb43 rfl (impl_Herd_areGroups.c k _ Aa0_0 ca0_0 Aa0_1 ca0_1 Aa0_2 ca0_2 a0 (hS.rd' (i := 0) rfl) (hS.le' (i := 0) rfl) (hS.rd' (i := 1) rfl) (hS.le' (i := 1) rfl) (hS.rd' (i := 2) rfl) (hS.le' (i := 2) rfl) Aa1 ca1 a1 (hS.rd' (i := 3) rfl) (hS.le' (i := 3) rfl) _ ht3) ?_
    rintro _ w1 ⟨rfl, hs⟩
    replace hS := hS.grow hs
    refine OJ.pures tU_ok 1 rfl ?_
    refine OJ.nil (EJ.next ?_)
    refine CJ.cond rfl (fun hb => ?_) (fun hb => ?_)
    · replace H := pif_t hb H
      refine CJ.seq ?_
      refine CJ.region ?_
      refine OJ.pures tU_ok 2 rfl ?_
      refine OJ.nil (EJ.next ?_)
      refine CJ.ret (EJ.skR (?_))
      obtain rfl := Option.some.inj H
      exact EJ.fin rfl (.tmp rfl (.tmp rfl .nil)) ⟨rfl, hS.ext⟩
    · replace H := pifb_f hb H
      refine CJ.skip (EJ.next ?_)
      refine CJ.seq ?_
      refine CJ.region ?_
      refine OJ.st rfl rfl rfl (SR.load rfl rfl (fun w' hx => ldN tU_ok tI_ok rfl rfl rfl (CA.ext (hS.cells (i := 0) rfl) hx) (ds := [.slice Aa0_0 a0.Names.length ca0_0, .slice Aa0_1 a0.Eats.length ca0_1, .slice Aa0_2 a0.Foes.length ca0_2]) rfl rfl)) ?_
      refine OJ.pures tU_ok 1 rfl ?_
      obtain ⟨t4, ht4, H⟩ := pbind H
      refine OJ.callF rfl rfl rfl rfl rfl hb44 rfl (impl_Herd_quarrel.c k _ Aa0_0 ca0_0 Aa0_1 ca0_1 Aa0_2 ca0_2 a0 (hS.rd' (i := 0) rfl) (hS.le' (i := 0) rfl) (hS.rd' (i := 1) rfl) (hS.le' (i := 1) rfl) (hS.rd' (i := 2) rfl) (hS.le' (i := 2) rfl) Aa1 ca1 a1 (hS.rd' (i := 3) rfl) (hS.le' (i := 3) rfl) _ ht4) ?_
      rintro _ w1 ⟨rfl, hs⟩
      replace hS := hS.grow hs
      refine OJ.pures tU_ok 7 rfl ?_
      refine OJ.nil (EJ.next ?_)
      refine CJ.seq ?_
      refine CJ.region ?_
      refine OJ.pures tU_ok 4 rfl ?_
      refine OJ.nil (EJ.next ?_)
      refine CJ.ret (?_)
      obtain rfl := Option.some.inj H
      exact EJ.fin rfl (.tmp rfl (.tmp rfl .nil)) ⟨rfl, hS.ext⟩

def impl_FirstQuarrel.f (k : Nat) (a0 : Herd) (a1 : List Int) : Option (Int × Int × Int) := (impl_ValidHerd.f k a0).bind fun t2 => if (!t2) = true then (some (0, 0, 1)) else ((impl_Herd_areGroups.f k a0 a1).bind fun t3 => if (!t3) = true then (some (0, 0, 4)) else ((impl_Herd_quarrel.f k a0 a1).bind fun t4 => if (!t4.2.2) = true then (some (0, 0, 6)) else (some (t4.1, t4.2.1, 0))))
theorem impl_FirstQuarrel.c (k : Nat) (w : World) (Aa0_0 : Option Addr) (ca0_0 : Nat) (Aa0_1 : Option Addr) (ca0_1 : Nat) (Aa0_2 : Option Addr) (ca0_2 : Nat) (a0 : Herd) (hr0_0 : Rd G.cs w Aa0_0 a0.Names) (hc0_0 : a0.Names.length ≤ ca0_0) (hr0_1 : Rd (ci .i16) w Aa0_1 a0.Eats) (hc0_1 : a0.Eats.length ≤ ca0_1) (hr0_2 : Rd (ci .u16) w Aa0_2 a0.Foes) (hc0_2 : a0.Foes.length ≤ ca0_2) (Aa1 : Option Addr) (ca1 : Nat) (a1 : List Int) (hr1 : Rd (ci .i64) w Aa1 a1) (hc1 : a1.length ≤ ca1) (r : Int × Int × Int) (H : impl_FirstQuarrel.f k a0 a1 = some r) :
    CV Tryz.prog 16 [.agg [.slice Aa0_0 a0.Names.length ca0_0, .slice Aa0_1 a0.Eats.length ca0_1, .slice Aa0_2 a0.Foes.length ca0_2].toArray, .slice Aa1 a1.length ca1].toArray w fun v w' => v = .tuple #[.int .i64 r.1, .int .i64 r.2.1, .int .i64 r.2.2] ∧ Ext w w' := by
  have hS := (((((St.init w no).param G.cs Aa0_0 ca0_0 a0.Names hr0_0 hc0_0).param (ci .i16) Aa0_1 ca0_1 a0.Eats hr0_1 hc0_1).param (ci .u16) Aa0_2 ca0_2 a0.Foes hr0_2 hc0_2).param (ci .i64) Aa1 ca1 a1 hr1 hc1)
  unfold impl_FirstQuarrel.f at H
  refine CV.body Tryz.func16 rfl Tryz.ntmps16 rfl ?_
  refine CJ.seq ?_
  refine CJ.region ?_
  refine OJ.ef rfl rfl rfl (Ef.box hS rfl rfl ([.slice Aa0_0 a0.Names.length ca0_0, .slice Aa0_1 a0.Eats.length ca0_1, .slice Aa0_2 a0.Foes.length ca0_2]) rfl) ?_
  rintro _ w1 ⟨b1, rfl, hS⟩
  refine OJ.pures tU_ok 3 rfl ?_
  refine OJ.nil (EJ.next ?_)
  refine CJ.seq ?_
  refine CJ.block ?_
  refine CJ.seq ?_
  refine CJ.region ?_
  refine OJ.st rfl rfl rfl (SR.load rfl rfl (fun w' hx => ldN tU_ok tI_ok rfl rfl rfl (CA.ext (hS.cells (i := 0) rfl) hx) (ds := [.slice Aa0_0 a0.Names.length ca0_0, .slice Aa0_1 a0.Eats.length ca0_1, .slice Aa0_2 a0.Foes.length ca0_2]) rfl rfl)) ?_
  obtain ⟨t2, ht2, H⟩ := pbind H
  refine OJ.callF rfl rfl rfl rfl rfl hb27 rfl (impl_ValidHerd.c k _ Aa0_0 ca0_0 Aa0_1 ca0_1 Aa0_2 ca0_2 a0 (hS.rd' (i := 0) rfl) (hS.le' (i := 0) rfl) (hS.rd' (i := 1) rfl) (hS.le' (i := 1) rfl) (hS.rd' (i := 2) rfl) (hS.le' (i := 2) rfl) _ ht2) ?_
  rintro _ w1 ⟨rfl, hs⟩
  replace hS := hS.grow hs
  refine OJ.pures tU_ok 2 rfl ?_
  refine OJ.nil (EJ.next ?_)
  refine CJ.cond rfl (fun hb => ?_) (fun hb => ?_)
  · replace H := pif_t hb H
    refine CJ.seq ?_
    refine CJ.region ?_
    refine OJ.pures tU_ok 3 rfl ?_
    refine OJ.nil (EJ.next ?_)
    refine CJ.ret (EJ.bkR (EJ.skR (?_)))
    obtain rfl := Option.some.inj H
    exact EJ.fin rfl (.tmp rfl (.tmp rfl (.tmp rfl .nil))) ⟨rfl, hS.ext⟩
  · replace H := pifb_f hb H
    refine CJ.seq ?_
    refine CJ.region ?_
    refine OJ.st rfl rfl rfl (SR.load rfl rfl (fun w' hx => ldN tU_ok tI_ok rfl rfl rfl (CA.ext (hS.cells (i := 0) rfl) hx) (ds := [.slice Aa0_0 a0.Names.length ca0_0, .slice Aa0_1 a0.Eats.length ca0_1, .slice Aa0_2 a0.Foes.length ca0_2]) rfl rfl)) ?_
    refine OJ.pures tU_ok 1 rfl ?_
    obtain ⟨t3, ht3, H⟩ := pbind H
    refine OJ.callF rfl rfl rfl rfl rfl hb43 rfl (impl_Herd_areGroups.c k _ Aa0_0 ca0_0 Aa0_1 ca0_1 Aa0_2 ca0_2 a0 (hS.rd' (i := 0) rfl) (hS.le' (i := 0) rfl) (hS.rd' (i := 1) rfl) (hS.le' (i := 1) rfl) (hS.rd' (i := 2) rfl) (hS.le' (i := 2) rfl) Aa1 ca1 a1 (hS.rd' (i := 3) rfl) (hS.le' (i := 3) rfl) _ ht3) ?_
    rintro _ w1 ⟨rfl, hs⟩
    replace hS := hS.grow hs
    refine OJ.pures tU_ok 2 rfl ?_
    refine OJ.nil (EJ.next ?_)
    refine CJ.cond rfl (fun hb => ?_) (fun hb => ?_)
    · replace H := pif_t hb H
      refine CJ.seq ?_
      refine CJ.region ?_
      refine OJ.pures tU_ok 3 rfl ?_
      refine OJ.nil (EJ.next ?_)
      refine CJ.ret (EJ.bkR (EJ.skR (?_)))
      obtain rfl := Option.some.inj H
      exact EJ.fin rfl (.tmp rfl (.tmp rfl (.tmp rfl .nil))) ⟨rfl, hS.ext⟩
    · replace H := pifb_f hb H
      refine CJ.skip (EJ.blk (EJ.next ?_))
      refine CJ.seq ?_
      refine CJ.region ?_
      refine OJ.st rfl rfl rfl (SR.load rfl rfl (fun w' hx => ldN tU_ok tI_ok rfl rfl rfl (CA.ext (hS.cells (i := 0) rfl) hx) (ds := [.slice Aa0_0 a0.Names.length ca0_0, .slice Aa0_1 a0.Eats.length ca0_1, .slice Aa0_2 a0.Foes.length ca0_2]) rfl rfl)) ?_
      refine OJ.pures tU_ok 1 rfl ?_
      obtain ⟨t4, ht4, H⟩ := pbind H
      refine OJ.callF rfl rfl rfl rfl rfl hb44 rfl (impl_Herd_quarrel.c k _ Aa0_0 ca0_0 Aa0_1 ca0_1 Aa0_2 ca0_2 a0 (hS.rd' (i := 0) rfl) (hS.le' (i := 0) rfl) (hS.rd' (i := 1) rfl) (hS.le' (i := 1) rfl) (hS.rd' (i := 2) rfl) (hS.le' (i := 2) rfl) Aa1 ca1 a1 (hS.rd' (i := 3) rfl) (hS.le' (i := 3) rfl) _ ht4) ?_
      rintro _ w1 ⟨rfl, hs⟩
      replace hS := hS.grow hs
      refine OJ.pures tU_ok 7 rfl ?_
      refine OJ.nil (EJ.next ?_)
      refine CJ.seq ?_
      refine CJ.seq ?_
      refine CJ.region ?_
      refine OJ.pures tU_ok 2 rfl ?_
      refine OJ.nil (EJ.next ?_)
      refine CJ.cond rfl (fun hb => ?_) (fun hb => ?_)
      · replace H := pif_t hb H
        refine CJ.seq ?_
        refine CJ.region ?_
        refine OJ.pures tU_ok 3 rfl ?_
        refine OJ.nil (EJ.next ?_)
        refine CJ.ret (EJ.skR (?_))
        obtain rfl := Option.some.inj H
        exact EJ.fin rfl (.tmp rfl (.tmp rfl (.tmp rfl .nil))) ⟨rfl, hS.ext⟩
      · replace H := pifb_f hb H
        refine CJ.skip (EJ.next ?_)
        refine CJ.seq ?_
        refine CJ.region ?_
        refine OJ.pures tU_ok 5 rfl ?_
        refine OJ.nil (EJ.next ?_)
        refine CJ.ret (?_)
        obtain rfl := Option.some.inj H
        exact EJ.fin rfl (.tmp rfl (.tmp rfl (.tmp rfl .nil))) ⟨rfl, hS.ext⟩

def spec_l00Same.l1 (a0 : List Int) (a1 : List Int) : Nat → Int → Option (Bool ⊕ Unit)
  | 0, _ => none
  | k + 1, y1 => if y1 < (a0.length : Int) then ((getI a0 y1).bind fun t2 => (getI a1 y1).bind fun t3 => if t2 ≠ t3 then (some (Sum.inl false)) else (spec_l00Same.l1 a0 a1 k (IntKind.i64.wrap (y1 + 1)))) else (some (Sum.inr ()))
def spec_l00Same.f (k : Nat) (a0 : List Int) (a1 : List Int) : Option Bool := if (a0.length : Int) ≠ (a1.length : Int) then (some false) else ((spec_l00Same.l1 a0 a1 k 0).bind fun s237 => match s237 with | .inl r => some r | .inr _ => some true)
theorem spec_l00Same.c (k : Nat) (w : World) (Aa0 : Option Addr) (ca0 : Nat) (a0 : List Int) (hr0 : Rd (ci .i64) w Aa0 a0) (hc0 : a0.length ≤ ca0) (Aa1 : Option Addr) (ca1 : Nat) (a1 : List Int) (hr1 : Rd (ci .i64) w Aa1 a1) (hc1 : a1.length ≤ ca1) (r : Bool) (H : spec_l00Same.f k a0 a1 = some r) :
    CV Tryz.prog 45 [.slice Aa0 a0.length ca0, .slice Aa1 a1.length ca1].toArray w fun v w' => v = .bool r ∧ Ext w w' := by
  have hS := (((St.init w no).param (ci .i64) Aa0 ca0 a0 hr0 hc0).param (ci .i64) Aa1 ca1 a1 hr1 hc1)
  unfold spec_l00Same.f at H
  refine CV.body Tryz.func45 rfl Tryz.ntmps45 rfl ?_
  refine CJ.seq ?_
  refine CJ.region ?_
  refine OJ.pures tU_ok 1 rfl ?_
  refine OJ.nil (EJ.next ?_)
  refine CJ.seq ?_
  refine CJ.seq ?_
  refine CJ.region ?_
  refine OJ.pures tU_ok 5 rfl ?_
  refine OJ.nil (EJ.next ?_)
  refine CJ.cond rfl (fun hb => ?_) (fun hb => ?_)
  · replace H := pif_t (of_decide_eq_true hb) H
    refine CJ.seq ?_
    refine CJ.region ?_
    refine OJ.pures tU_ok 1 rfl ?_
    refine OJ.nil (EJ.next ?_)
    refine CJ.ret (EJ.skR (?_))
    obtain rfl := Option.some.inj H
    exact EJ.fin rfl (.tmp rfl .nil) ⟨rfl, hS.ext⟩
  · replace H := pif_f (of_decide_eq_false hb) H
    refine CJ.skip (EJ.next ?_)
    refine CJ.seq ?_
    refine CJ.seq ?_
    refine CJ.region ?_
    refine OJ.pures tU_ok 1 rfl ?_
    refine OJ.nil (EJ.next ?_)
    obtain ⟨j237, H, K237⟩ := pbind H
    refine CJ.cut1 (fun F w1 => (some (Sum.inr ()) : Option (Bool ⊕ Unit)) = some j237 ∧ F = [] ∧ St w no w1 [] [roC (ci .i64) Aa0 ca0 a0, roC (ci .i64) Aa1 ca1 a1]) ?_ ?_
    · skip
      refine CJ.block ?_
      refine CJ.loop (fun k F w1 => ∃ (y1 : Int), F = [(0, .slice Aa0 a0.length ca0), (1, .slice Aa1 a1.length ca1), (5, .int .i64 y1)] ∧ St w no w1 [] [roC (ci .i64) Aa0 ca0 a0, roC (ci .i64) Aa1 ca1 a1] ∧ spec_l00Same.l1 a0 a1 k y1 = some j237) k (F' := [(0, .slice Aa0 a0.length ca0), (1, .slice Aa1 a1.length ca1), (5, .int .i64 0)]) ⟨rfl, rfl, rfl, trivial⟩ ⟨0, rfl, hS.pick [] [0, 1] rfl, H⟩ ?_
      rintro k F w1 ⟨y1, rfl, hS, H⟩
      cases k with
      | zero => rw [spec_l00Same.l1] at H; cases H
      | succ k =>
        rw [spec_l00Same.l1] at H
        refine CJ.seq ?_
        refine CJ.seq ?_
        refine CJ.region ?_
        refine OJ.pures tU_ok 4 rfl ?_
        refine OJ.nil (EJ.next ?_)
        refine CJ.cond rfl (fun hb => ?_) (fun hb => ?_)
        · replace H := pif_t (of_decide_eq_true hb) H
          refine CJ.skip (EJ.next ?_)
          refine CJ.seq ?_
          refine CJ.block ?_
          refine CJ.seq ?_
          refine CJ.draw [] [0, 1, 2, 3, 4, 5, 6, 7, 8] mixed (by kernel_rfl) hS fun w1 hS => ?_
          refine DJ.pures tU_ok 2 rfl ?_
          obtain ⟨t2, ht2, H⟩ := pbind H
          obtain ⟨ad2, e2⟩ := (hS.rd' (i := 0) rfl).some' ht2
          refine DJ.st rfl rfl rfl rfl rfl (SR.idxS tU_ok tI_ok rfl rfl rfl rfl e2 rfl (getI_some ht2).1) ?_
          refine DJ.st rfl rfl rfl rfl rfl (SR.load rfl rfl (fun w' hx => ld1 tU_ok rfl rfl (CA.ext ((hS.rd' (i := 0) rfl).at_ e2 ht2) hx) rfl)) ?_
          refine DJ.pures tU_ok 2 rfl ?_
          obtain ⟨t3, ht3, H⟩ := pbind H
          obtain ⟨ad3, e3⟩ := (hS.rd' (i := 1) rfl).some' ht3
          refine DJ.st rfl rfl rfl rfl rfl (SR.idxS tU_ok tI_ok rfl rfl rfl rfl e3 rfl (getI_some ht3).1) ?_
          refine DJ.st rfl rfl rfl rfl rfl (SR.load rfl rfl (fun w' hx => ld1 tU_ok rfl rfl (CA.ext ((hS.rd' (i := 1) rfl).at_ e3 ht3) hx) rfl)) ?_
          refine DJ.pures tU_ok 1 rfl ?_
          refine DJ.nil (EJ.next ?_)
          refine CJ.cond rfl (fun hb => ?_) (fun hb => ?_)
          · replace H := pif_t (of_decide_eq_true hb) H
            refine CJ.seq ?_
            refine CJ.region ?_
            refine OJ.pures tU_ok 1 rfl ?_
            refine OJ.nil (EJ.next ?_)
            refine CJ.ret (EJ.bkR (EJ.skR (EJ.skR (EJ.bkR (EJ.skR (EJ.skR (?_)))))))
            first | (obtain rfl := Option.some.inj H; have H := K237) | (obtain ⟨q237, H2, e237⟩ := pbind H; obtain rfl := Option.some.inj e237; obtain rfl := Option.some.inj K237; have H := H2)
            obtain rfl := Option.some.inj H
            exact EJ.fin rfl (.tmp rfl .nil) ⟨rfl, hS.ext⟩
          · replace H := pif_f (of_decide_eq_false hb) H
            refine CJ.skip (EJ.blk (EJ.next ?_))
            refine CJ.region ?_
            refine OJ.pures tU_ok 3 rfl ?_
            refine OJ.nil ?_
            exact EJ.round k (F' := [(0, .slice Aa0 a0.length ca0), (1, .slice Aa1 a1.length ca1), (5, .int .i64 (IntKind.i64.wrap (y1 + 1)))]) ⟨rfl, rfl, rfl, trivial⟩ (Nat.lt_succ_self _) ⟨(IntKind.i64.wrap (y1 + 1)), rfl, hS.pick [] [0, 1] rfl, H⟩
        · replace H := pif_f (of_decide_eq_false hb) H
          refine CJ.exit (EJ.skE (EJ.skE (EJ.hit (?_))))
          exact EJ.meet (F' := []) trivial ⟨H, rfl, hS.pick [] [0, 1] rfl⟩
    · rintro F w1 ⟨he, rfl, hS⟩
      obtain rfl := Option.some.inj he
      have H := K237
      refine EJ.next ?_
      refine CJ.seq ?_
      refine CJ.region ?_
      refine OJ.pures tU_ok 1 rfl ?_
      refine OJ.nil (EJ.next ?_)
      refine CJ.ret (?_)
      obtain rfl := Option.some.inj H
      exact EJ.fin rfl (.tmp rfl .nil) ⟨rfl, hS.ext⟩

def spec_A2Same.f (k : Nat) (a0 : List Int) (a1 : List Int) : Option Bool := (spec_l00Same.f k a0 a1).bind fun t1 => some t1
theorem spec_A2Same.c (k : Nat) (w : World) (Aa0 : Option Addr) (ca0 : Nat) (a0 : List Int) (hr0 : Rd (ci .i64) w Aa0 a0) (hc0 : a0.length ≤ ca0) (Aa1 : Option Addr) (ca1 : Nat) (a1 : List Int) (hr1 : Rd (ci .i64) w Aa1 a1) (hc1 : a1.length ≤ ca1) (r : Bool) (H : spec_A2Same.f k a0 a1 = some r) :
    CV Tryz.prog 17 [.slice Aa0 a0.length ca0, .slice Aa1 a1.length ca1].toArray w fun v w' => v = .bool r ∧ Ext w w' := by
  have hS := (((St.init w no).param (ci .i64) Aa0 ca0 a0 hr0 hc0).param (ci .i64) Aa1 ca1 a1 hr1 hc1)
  unfold spec_A2Same.f at H
  refine CV.body Tryz.func17 rfl Tryz.ntmps17 rfl ?_
  refine CJ.seq ?_
  refine CJ.region ?_
  refine OJ.pures tU_ok 1 rfl ?_
  refine OJ.nil (EJ.next ?_)
  refine CJ.seq ?_
  refine CJ.region ?_
  refine OJ.pures tU_ok 2 rfl ?_
  obtain ⟨t1, ht1, H⟩ := pbind H
  refine OJ.callF rfl rfl rfl rfl rfl hb45 rfl (spec_l00Same.c k _ Aa0 ca0 a0 (hS.rd' (i := 0) rfl) (hS.le' (i := 0) rfl) Aa1 ca1 a1 (hS.rd' (i := 1) rfl) (hS.le' (i := 1) rfl) _ ht1) ?_
  rintro _ w1 ⟨rfl, hs⟩
  replace hS := hS.grow hs
  refine OJ.pures tU_ok 1 rfl ?_
  refine OJ.nil (EJ.next ?_)
  refine CJ.ret (?_)
  obtain rfl := Option.some.inj H
  exact EJ.fin rfl (.tmp rfl .nil) ⟨rfl, hS.ext⟩

def impl_AreFoes.f (k : Nat) (a0 : Herd) (a1 : Int) (a2 : Int) : Option (Bool × Int) := (impl_herdCode.f k a0 ([a1, a2] : List Int)).bind fun t3 => if t3 ≠ 0 then (some (false, t3)) else ((impl_Herd_areFoes.f a0 a1 a2).bind fun t4 => some (t4, 0))
theorem impl_AreFoes.c (k : Nat) (w : World) (Aa0_0 : Option Addr) (ca0_0 : Nat) (Aa0_1 : Option Addr) (ca0_1 : Nat) (Aa0_2 : Option Addr) (ca0_2 : Nat) (a0 : Herd) (hr0_0 : Rd G.cs w Aa0_0 a0.Names) (hc0_0 : a0.Names.length ≤ ca0_0) (hr0_1 : Rd (ci .i16) w Aa0_1 a0.Eats) (hc0_1 : a0.Eats.length ≤ ca0_1) (hr0_2 : Rd (ci .u16) w Aa0_2 a0.Foes) (hc0_2 : a0.Foes.length ≤ ca0_2) (a1 : Int) (a2 : Int) (r : Bool × Int) (H : impl_AreFoes.f k a0 a1 a2 = some r) :
    CV Tryz.prog 18 [.agg [.slice Aa0_0 a0.Names.length ca0_0, .slice Aa0_1 a0.Eats.length ca0_1, .slice Aa0_2 a0.Foes.length ca0_2].toArray, .int .i64 a1, .int .i64 a2].toArray w fun v w' => v = .tuple #[.bool r.1, .int .i64 r.2] ∧ Ext w w' := by
  have hS := ((((St.init w no).param G.cs Aa0_0 ca0_0 a0.Names hr0_0 hc0_0).param (ci .i16) Aa0_1 ca0_1 a0.Eats hr0_1 hc0_1).param (ci .u16) Aa0_2 ca0_2 a0.Foes hr0_2 hc0_2)
  unfold impl_AreFoes.f at H
  refine CV.body Tryz.func18 rfl Tryz.ntmps18 rfl ?_
  refine CJ.seq ?_
  refine CJ.region ?_
  refine OJ.ef rfl rfl rfl (Ef.box hS rfl rfl ([.slice Aa0_0 a0.Names.length ca0_0, .slice Aa0_1 a0.Eats.length ca0_1, .slice Aa0_2 a0.Foes.length ca0_2]) rfl) ?_
  rintro _ w1 ⟨b1, rfl, hS⟩
  refine OJ.pures tU_ok 2 rfl ?_
  refine OJ.nil (EJ.next ?_)
  refine CJ.seq ?_
  refine CJ.seq ?_
  refine CJ.region ?_
  refine OJ.st rfl rfl rfl (SR.load rfl rfl (fun w' hx => ldN tU_ok tI_ok rfl rfl rfl (CA.ext (hS.cells (i := 0) rfl) hx) (ds := [.slice Aa0_0 a0.Names.length ca0_0, .slice Aa0_1 a0.Eats.length ca0_1, .slice Aa0_2 a0.Foes.length ca0_2]) rfl rfl)) ?_
  refine OJ.pures tU_ok 2 rfl ?_
  refine OJ.ef rfl rfl rfl (Ef.lit tU_ok tI_ok hS (C := (ci .i64)) rfl rfl rfl rfl rfl rfl ([a1, a2] : List Int) rfl rfl rfl rfl) ?_
  rintro _ w1 ⟨A2, rfl, hS⟩
  obtain ⟨t3, ht3, H⟩ := pbind H
  refine OJ.callF rfl rfl rfl rfl rfl hb34 rfl (impl_herdCode.c k _ Aa0_0 ca0_0 Aa0_1 ca0_1 Aa0_2 ca0_2 a0 (hS.rd' (i := 0) rfl) (hS.le' (i := 0) rfl) (hS.rd' (i := 1) rfl) (hS.le' (i := 1) rfl) (hS.rd' (i := 2) rfl) (hS.le' (i := 2) rfl) A2 (([a1, a2] : List Int).length) ([a1, a2] : List Int) (hS.rd (i := 1) rfl) (hS.le (i := 1) rfl) _ ht3) ?_
  rintro _ w1 ⟨rfl, hs⟩
  replace hS := hS.grow hs
  refine OJ.pures tU_ok 1 rfl ?_
  refine OJ.nil (EJ.next ?_)
  refine CJ.seq ?_
  refine CJ.region ?_
  refine OJ.pures tU_ok 2 rfl ?_
  refine OJ.nil (EJ.next ?_)
  refine CJ.cond rfl (fun hb => ?_) (fun hb => ?_)
  · replace H := pif_t (of_decide_eq_true hb) H
    refine CJ.seq ?_
    refine CJ.region ?_
    refine OJ.pures tU_ok 3 rfl ?_
    refine OJ.nil (EJ.next ?_)
    refine CJ.ret (EJ.skR (?_))
    obtain rfl := Option.some.inj H
    exact EJ.fin rfl (.tmp rfl (.tmp rfl .nil)) ⟨rfl, hS.ext⟩
  · replace H := pif_f (of_decide_eq_false hb) H
    refine CJ.skip (EJ.next ?_)
    refine CJ.seq ?_
    refine CJ.region ?_
    refine OJ.st rfl rfl rfl (SR.load rfl rfl (fun w' hx => ldN tU_ok tI_ok rfl rfl rfl (CA.ext (hS.cells (i := 0) rfl) hx) (ds := [.slice Aa0_0 a0.Names.length ca0_0, .slice Aa0_1 a0.Eats.length ca0_1, .slice Aa0_2 a0.Foes.length ca0_2]) rfl rfl)) ?_
    refine OJ.pures tU_ok 2 rfl ?_
    obtain ⟨t4, ht4, H⟩ := pbind H
    refine OJ.callF rfl rfl rfl rfl rfl hb46 rfl (impl_Herd_areFoes.c _ Aa0_0 ca0_0 Aa0_1 ca0_1 Aa0_2 ca0_2 a0 (hS.rd' (i := 0) rfl) (hS.le' (i := 0) rfl) (hS.rd' (i := 1) rfl) (hS.le' (i := 1) rfl) (hS.rd' (i := 2) rfl) (hS.le' (i := 2) rfl) a1 a2 _ ht4) ?_
    rintro _ w1 ⟨rfl, hs⟩
    replace hS := hS.grow hs
    refine OJ.pures tU_ok 2 rfl ?_
    refine OJ.nil (EJ.next ?_)
    refine CJ.ret (?_)
    obtain rfl := Option.some.inj H
    exact EJ.fin rfl (.tmp rfl (.tmp rfl .nil)) ⟨rfl, hS.ext⟩
end Go.Proofs.YtonpnkppaflcbaaGreatDoor
