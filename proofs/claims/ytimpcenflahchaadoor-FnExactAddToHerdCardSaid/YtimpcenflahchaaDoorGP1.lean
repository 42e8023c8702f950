/-
  What the functions come to.
-/
import Derived.Test.YtimpcenflahchaaDoorGP0
namespace Go.Proofs.YtimpcenflahchaaDoor
open G
set_option linter.unusedVariables false
set_option linter.unusedSimpArgs false
set_option maxRecDepth 100000
set_option maxHeartbeats 4000000
def impl_ValidHerd.l2 (a0 : Herd) (y3 : Int) : Nat → Int → Option (((Bool ⊕ Unit) ⊕ Unit) ⊕ Unit)
  | 0, _ => none
  | k + 1, y14 => if y14 < y3 then ((impl_Herd_areFoes.f a0 y3 y14).bind fun t15 => (impl_Herd_areFoes.f a0 y14 y3).bind fun t16 => if t15 ≠ t16 then (some (Sum.inl (Sum.inl (Sum.inl false)))) else (impl_ValidHerd.l2 a0 y3 k (IntKind.i64.wrap (y14 + 1)))) else (some (Sum.inr ()))
def impl_ValidHerd.l1 (a0 : Herd) : Nat → Int → Option (Bool ⊕ Unit)
  | 0, _ => none
  | k + 1, y3 => if y3 < (a0.Names.length : Int) then (((getI a0.Names y3).bind fun t4 => ((impl_isName.f k t4).bind fun t6 => if (!t6) = true then (some true) else ((chk ((0 : Int) ≤ 0 ∧ 0 ≤ y3 ∧ y3 ≤ (a0.Names.length : Int))).bind fun u7 => (slices_Contains_string_string.f k ((a0.Names.drop 0).take (y3.toNat - 0)) t4).bind fun t8 => if t8 = true then (some true) else ((getI a0.Eats y3).bind fun t9 => (impl_within.f (IntKind.i64.wrap t9) 0 100).bind fun t10 => if (!t10) = true then (some true) else ((getI a0.Foes y3).bind fun t11 => (chk (0 ≤ (a0.Names.length : Int))).bind fun u12 => if (shrI .u16 t11 (a0.Names.length : Int)) ≠ 0 then (some true) else ((impl_Herd_areFoes.f a0 y3 y3).bind fun t13 => some t13))))).bind fun y5 => if y5 = true then (some (Sum.inl (Sum.inl false))) else ((impl_ValidHerd.l2 a0 y3 k 0).bind fun s58 => match s58 with | .inl r => some r | .inr _ => some (Sum.inr ()))).bind fun s54 => match s54 with | .inl r => some r | .inr _ => impl_ValidHerd.l1 a0 k (IntKind.i64.wrap (y3 + 1))) else (some (Sum.inr ()))
def impl_ValidHerd.f (k : Nat) (a0 : Herd) : Option Bool := (if 14 < (a0.Names.length : Int) then (some true) else (if (a0.Eats.length : Int) ≠ (a0.Names.length : Int) then (some true) else (some (decide ((a0.Foes.length : Int) ≠ (a0.Names.length : Int)))))).bind fun y2 => if y2 = true then (some false) else ((impl_ValidHerd.l1 a0 k 0).bind fun s29 => match s29 with | .inl r => some r | .inr _ => some true)
theorem impl_ValidHerd.c (k : Nat) (w : World) (Aa0_0 : Option Addr) (ca0_0 : Nat) (Aa0_1 : Option Addr) (ca0_1 : Nat) (Aa0_2 : Option Addr) (ca0_2 : Nat) (a0 : Herd) (hr0_0 : Rd G.cs w Aa0_0 a0.Names) (hc0_0 : a0.Names.length ≤ ca0_0) (hr0_1 : Rd (ci .i16) w Aa0_1 a0.Eats) (hc0_1 : a0.Eats.length ≤ ca0_1) (hr0_2 : Rd (ci .u16) w Aa0_2 a0.Foes) (hc0_2 : a0.Foes.length ≤ ca0_2) (r : Bool) (H : impl_ValidHerd.f k a0 = some r) :
    CV Tryd.prog 17 [.agg [.slice Aa0_0 a0.Names.length ca0_0, .slice Aa0_1 a0.Eats.length ca0_1, .slice Aa0_2 a0.Foes.length ca0_2].toArray].toArray w fun v w' => v = .bool r ∧ Ext w w' := by
  have hS := ((((St.init w no).param G.cs Aa0_0 ca0_0 a0.Names hr0_0 hc0_0).param (ci .i16) Aa0_1 ca0_1 a0.Eats hr0_1 hc0_1).param (ci .u16) Aa0_2 ca0_2 a0.Foes hr0_2 hc0_2)
  unfold impl_ValidHerd.f at H
  refine CV.body Tryd.func17 rfl Tryd.ntmps17 rfl ?_
  refine CJ.seq ?_
  refine CJ.region ?_
  refine OJ.ef rfl rfl rfl (Ef.box hS rfl rfl ([.slice Aa0_0 a0.Names.length ca0_0, .slice Aa0_1 a0.Eats.length ca0_1, .slice Aa0_2 a0.Foes.length ca0_2]) rfl) ?_
  rintro _ w1 ⟨b1, rfl, hS⟩
  refine OJ.pures tU_ok 1 rfl ?_
  refine OJ.nil (EJ.next ?_)
  refine CJ.seq ?_
  refine CJ.region ?_
  refine OJ.st rfl rfl rfl (SR.fieldAddr tU_ok tI_ok rfl rfl rfl rfl rfl rfl) ?_
  refine OJ.st rfl rfl rfl (SR.load rfl rfl (fun w' hx => ld1 tU_ok rfl rfl (CA.ext (CA.sub (hS.cells (i := 0) rfl) 0) hx) rfl)) ?_
  refine OJ.pures tU_ok 2 rfl ?_
  refine OJ.nil (EJ.next ?_)
  refine CJ.seq ?_
  obtain ⟨j28, H, K28⟩ := pbind H
  refine CJ.cut (fun F w1 => ∃ (y2 : Bool) , (some y2 : Option Bool) = some j28 ∧ F = [(1, .pointer (some ⟨b1, 0, none⟩)), (3, .int .i64 (a0.Names.length : Int)), (25, .bool y2)] ∧ St w no w1 [box b1 ([.slice Aa0_0 a0.Names.length ca0_0, .slice Aa0_1 a0.Eats.length ca0_1, .slice Aa0_2 a0.Foes.length ca0_2]) 29] [roC G.cs Aa0_0 ca0_0 a0.Names, roC (ci .i16) Aa0_1 ca0_1 a0.Eats, roC (ci .u16) Aa0_2 ca0_2 a0.Foes]) ?_ ?_
  · skip
    refine CJ.region ?_
    refine OJ.pures tU_ok 3 rfl ?_
    refine OJ.split (t := 12) rfl (fun hb => ?_) (fun hb => ?_)
    · replace H := pif_t (of_decide_eq_true hb) H
      refine OJ.pures tU_ok 13 rfl ?_
      refine OJ.nil ?_
      exact EJ.meet (F' := [(1, .pointer (some ⟨b1, 0, none⟩)), (3, .int .i64 (a0.Names.length : Int)), (25, .bool true)]) ⟨rfl, rfl, rfl, trivial⟩ ⟨true, H, rfl, hS.pick [0] [0, 1, 2] rfl⟩
    · replace H := pif_f (of_decide_eq_false hb) H
      refine OJ.st rfl rfl rfl (SR.fieldAddr tU_ok tI_ok rfl rfl rfl rfl rfl rfl) ?_
      refine OJ.st rfl rfl rfl (SR.load rfl rfl (fun w' hx => ld1 tU_ok rfl rfl (CA.ext (CA.sub (hS.cells (i := 0) rfl) 1) hx) rfl)) ?_
      refine OJ.pures tU_ok 5 rfl ?_
      refine OJ.split (t := 19) rfl (fun hb => ?_) (fun hb => ?_)
      · replace H := pif_t (of_decide_eq_true hb) H
        refine OJ.pures tU_ok 6 rfl ?_
        refine OJ.nil ?_
        exact EJ.meet (F' := [(1, .pointer (some ⟨b1, 0, none⟩)), (3, .int .i64 (a0.Names.length : Int)), (25, .bool true)]) ⟨rfl, rfl, rfl, trivial⟩ ⟨true, H, rfl, hS.pick [0] [0, 1, 2] rfl⟩
      · replace H := pif_f (of_decide_eq_false hb) H
        refine OJ.st rfl rfl rfl (SR.fieldAddr tU_ok tI_ok rfl rfl rfl rfl rfl rfl) ?_
        refine OJ.st rfl rfl rfl (SR.load rfl rfl (fun w' hx => ld1 tU_ok rfl rfl (CA.ext (CA.sub (hS.cells (i := 0) rfl) 2) hx) rfl)) ?_
        refine OJ.pures tU_ok 4 rfl ?_
        refine OJ.nil ?_
        exact EJ.meet (F' := [(1, .pointer (some ⟨b1, 0, none⟩)), (3, .int .i64 (a0.Names.length : Int)), (25, .bool (decide ((a0.Foes.length : Int) ≠ (a0.Names.length : Int))))]) ⟨rfl, rfl, rfl, trivial⟩ ⟨(decide ((a0.Foes.length : Int) ≠ (a0.Names.length : Int))), H, rfl, hS.pick [0] [0, 1, 2] rfl⟩
  · rintro F w1 ⟨y2, he, rfl, hS⟩
    obtain rfl := Option.some.inj he
    have H := K28
    refine CJ.cond rfl (fun hb => ?_) (fun hb => ?_)
    · replace H := pif_t hb H
      refine CJ.seq ?_
      refine CJ.region ?_
      refine OJ.pures tU_ok 1 rfl ?_
      refine OJ.nil (EJ.next ?_)
      refine CJ.ret (EJ.skR (?_))
      obtain rfl := Option.some.inj H
      exact EJ.fin rfl (.tmp rfl .nil) ⟨rfl, hS.ext⟩
    · replace H := pifb_f hb H
      refine CJ.skip (EJ.next ?_)
      refine CJ.seq ?_
      refine CJ.seq ?_
      refine CJ.region ?_
      refine OJ.st rfl rfl rfl (SR.fieldAddr tU_ok tI_ok rfl rfl rfl rfl rfl rfl) ?_
      refine OJ.st rfl rfl rfl (SR.load rfl rfl (fun w' hx => ld1 tU_ok rfl rfl (CA.ext (CA.sub (hS.cells (i := 0) rfl) 0) hx) rfl)) ?_
      refine OJ.pures tU_ok 2 rfl ?_
      refine OJ.nil (EJ.next ?_)
      obtain ⟨j29, H, K29⟩ := pbind H
      refine CJ.cut1 (fun F w1 => (some (Sum.inr ()) : Option (Bool ⊕ Unit)) = some j29 ∧ F = [] ∧ St w no w1 [] [roC G.cs Aa0_0 ca0_0 a0.Names, roC (ci .i16) Aa0_1 ca0_1 a0.Eats, roC (ci .u16) Aa0_2 ca0_2 a0.Foes]) ?_ ?_
      · skip
        refine CJ.block ?_
        refine CJ.loop (fun k F w1 => ∃ (y3 : Int), F = [(1, .pointer (some ⟨b1, 0, none⟩)), (3, .int .i64 (a0.Names.length : Int)), (27, .slice Aa0_0 a0.Names.length ca0_0), (28, .int .i64 (a0.Names.length : Int)), (29, .int .i64 y3)] ∧ St w no w1 [box b1 ([.slice Aa0_0 a0.Names.length ca0_0, .slice Aa0_1 a0.Eats.length ca0_1, .slice Aa0_2 a0.Foes.length ca0_2]) 29] [roC G.cs Aa0_0 ca0_0 a0.Names, roC (ci .i16) Aa0_1 ca0_1 a0.Eats, roC (ci .u16) Aa0_2 ca0_2 a0.Foes] ∧ impl_ValidHerd.l1 a0 k y3 = some j29) k (F' := [(1, .pointer (some ⟨b1, 0, none⟩)), (3, .int .i64 (a0.Names.length : Int)), (27, .slice Aa0_0 a0.Names.length ca0_0), (28, .int .i64 (a0.Names.length : Int)), (29, .int .i64 0)]) ⟨rfl, rfl, rfl, rfl, rfl, trivial⟩ ⟨0, rfl, hS.pick [0] [0, 1, 2] rfl, H⟩ ?_
        rintro k F w1 ⟨y3, rfl, hS, H⟩
        cases k with
        | zero => rw [impl_ValidHerd.l1] at H; cases H
        | succ k =>
          rw [impl_ValidHerd.l1] at H
          refine CJ.seq ?_
          refine CJ.region ?_
          refine OJ.pures tU_ok 1 rfl ?_
          refine OJ.nil (EJ.next ?_)
          refine CJ.seq ?_
          refine CJ.cond rfl (fun hb => ?_) (fun hb => ?_)
          · replace H := pif_t (of_decide_eq_true hb) H
            refine CJ.skip (EJ.next ?_)
            obtain ⟨j54, H, K54⟩ := pbind H
            refine CJ.cut (fun F w1 => (some (Sum.inr ()) : Option ((Bool ⊕ Unit) ⊕ Unit)) = some j54 ∧ F = [(1, .pointer (some ⟨b1, 0, none⟩)), (3, .int .i64 (a0.Names.length : Int)), (27, .slice Aa0_0 a0.Names.length ca0_0), (28, .int .i64 (a0.Names.length : Int)), (29, .int .i64 y3)] ∧ St w no w1 [box b1 ([.slice Aa0_0 a0.Names.length ca0_0, .slice Aa0_1 a0.Eats.length ca0_1, .slice Aa0_2 a0.Foes.length ca0_2]) 29] [roC G.cs Aa0_0 ca0_0 a0.Names, roC (ci .i16) Aa0_1 ca0_1 a0.Eats, roC (ci .u16) Aa0_2 ca0_2 a0.Foes]) ?_ ?_
            · skip
              refine CJ.block ?_
              refine CJ.seq ?_
              refine CJ.region ?_
              refine OJ.pures tU_ok 1 rfl ?_
              obtain ⟨t4, ht4, H⟩ := pbind H
              obtain ⟨ad4, e4⟩ := (hS.rd' (i := 0) rfl).some' ht4
              refine OJ.st rfl rfl rfl (SR.idxS tU_ok tI_ok rfl rfl rfl rfl e4 rfl (getI_some ht4).1) ?_
              refine OJ.st rfl rfl rfl (SR.load rfl rfl (fun w' hx => ld1 tU_ok rfl rfl (CA.ext ((hS.rd' (i := 0) rfl).at_ e4 ht4) hx) rfl)) ?_
              refine OJ.pures tU_ok 2 rfl ?_
              refine OJ.nil (EJ.next ?_)
              refine CJ.seq ?_
              obtain ⟨j57, H, K57⟩ := pbind H
              refine CJ.cut (fun F w1 => ∃ (y5 : Bool) , (some y5 : Option Bool) = some j57 ∧ F = [(1, .pointer (some ⟨b1, 0, none⟩)), (3, .int .i64 (a0.Names.length : Int)), (4, .int .i64 y3), (27, .slice Aa0_0 a0.Names.length ca0_0), (28, .int .i64 (a0.Names.length : Int)), (29, .int .i64 y3), (70, .bool y5)] ∧ St w no w1 [box b1 ([.slice Aa0_0 a0.Names.length ca0_0, .slice Aa0_1 a0.Eats.length ca0_1, .slice Aa0_2 a0.Foes.length ca0_2]) 29] [roC G.cs Aa0_0 ca0_0 a0.Names, roC (ci .i16) Aa0_1 ca0_1 a0.Eats, roC (ci .u16) Aa0_2 ca0_2 a0.Foes]) ?_ ?_
              · skip
                refine CJ.region ?_
                refine OJ.pures tU_ok 1 rfl ?_
                obtain ⟨t6, ht6, H⟩ := pbind H
                refine OJ.callF rfl rfl rfl rfl rfl hb55 rfl (impl_isName.c k _ t4 _ ht6) ?_
                rintro _ w1 ⟨rfl, hs⟩
                replace hS := hS.grow hs
                refine OJ.pures tU_ok 2 rfl ?_
                refine OJ.split (t := 37) rfl (fun hb => ?_) (fun hb => ?_)
                · replace H := pif_t hb H
                  refine OJ.pures tU_ok 33 rfl ?_
                  refine OJ.nil ?_
                  exact EJ.meet (F' := [(1, .pointer (some ⟨b1, 0, none⟩)), (3, .int .i64 (a0.Names.length : Int)), (4, .int .i64 y3), (27, .slice Aa0_0 a0.Names.length ca0_0), (28, .int .i64 (a0.Names.length : Int)), (29, .int .i64 y3), (70, .bool true)]) ⟨rfl, rfl, rfl, rfl, rfl, rfl, rfl, trivial⟩ ⟨true, H, rfl, hS.pick [0] [0, 1, 2] rfl⟩
                · replace H := pifb_f hb H
                  refine OJ.st rfl rfl rfl (SR.fieldAddr tU_ok tI_ok rfl rfl rfl rfl rfl rfl) ?_
                  refine OJ.st rfl rfl rfl (SR.load rfl rfl (fun w' hx => ld1 tU_ok rfl rfl (CA.ext (CA.sub (hS.cells (i := 0) rfl) 0) hx) rfl)) ?_
                  refine OJ.pures tU_ok 1 rfl ?_
                  obtain ⟨u7, hu7, H⟩ := pbind H
                  refine OJ.st rfl rfl rfl (SR.cutS tU_ok tI_ok (0) (y3.toNat) rfl rfl rfl rfl rfl rfl (.inl ⟨rfl, rfl⟩) (.inr ⟨_, _, rfl, (by have := (chk_some hu7); omega), rfl⟩) (by have := (chk_some hu7); omega) (by have := (chk_some hu7); have := (hS.le' (i := 0) rfl : a0.Names.length ≤ ca0_0); omega)) ?_
                  replace hS := hS.cutR (i := 0) (lo := 0) (hi := y3.toNat) rfl (by have := (chk_some hu7); omega) (by have := (chk_some hu7); omega)
                  refine OJ.as (t := 41) rfl (show _ = (.slice (cutA Aa0_0 ca0_0 0 G.cs.sz) ((a0.Names.drop 0).take (y3.toNat - 0)).length (ca0_0 - 0) : Value) by rw [cutLen (by have := (chk_some hu7); omega) (by have := (chk_some hu7); omega)]; rfl) ?_
                  refine OJ.pures tU_ok 1 rfl ?_
                  obtain ⟨t8, ht8, H⟩ := pbind H
                  refine OJ.callF rfl rfl rfl rfl rfl hb56 rfl (slices_Contains_string_string.c k _ (cutA Aa0_0 ca0_0 0 G.cs.sz) (ca0_0 - 0) ((a0.Names.drop 0).take (y3.toNat - 0)) (hS.rd' (i := 3) rfl) (hS.le' (i := 3) rfl) t4 _ ht8) ?_
                  rintro _ w1 ⟨rfl, hs⟩
                  replace hS := hS.grow hs
                  refine OJ.pures tU_ok 2 rfl ?_
                  refine OJ.split (t := 45) rfl (fun hb => ?_) (fun hb => ?_)
                  · replace H := pif_t hb H
                    refine OJ.pures tU_ok 25 rfl ?_
                    refine OJ.nil ?_
                    exact EJ.meet (F' := [(1, .pointer (some ⟨b1, 0, none⟩)), (3, .int .i64 (a0.Names.length : Int)), (4, .int .i64 y3), (27, .slice Aa0_0 a0.Names.length ca0_0), (28, .int .i64 (a0.Names.length : Int)), (29, .int .i64 y3), (70, .bool true)]) ⟨rfl, rfl, rfl, rfl, rfl, rfl, rfl, trivial⟩ ⟨true, H, rfl, hS.pick [0] [0, 1, 2] rfl⟩
                  · replace H := pifb_f hb H
                    refine OJ.st rfl rfl rfl (SR.fieldAddr tU_ok tI_ok rfl rfl rfl rfl rfl rfl) ?_
                    refine OJ.st rfl rfl rfl (SR.load rfl rfl (fun w' hx => ld1 tU_ok rfl rfl (CA.ext (CA.sub (hS.cells (i := 0) rfl) 1) hx) rfl)) ?_
                    refine OJ.pures tU_ok 1 rfl ?_
                    obtain ⟨t9, ht9, H⟩ := pbind H
                    obtain ⟨ad9, e9⟩ := (hS.rd' (i := 1) rfl).some' ht9
                    refine OJ.st rfl rfl rfl (SR.idxS tU_ok tI_ok rfl rfl rfl rfl e9 rfl (getI_some ht9).1) ?_
                    refine OJ.st rfl rfl rfl (SR.load rfl rfl (fun w' hx => ld1 tU_ok rfl rfl (CA.ext ((hS.rd' (i := 1) rfl).at_ e9 ht9) hx) rfl)) ?_
                    refine OJ.pures tU_ok 1 rfl ?_
                    obtain ⟨t10, ht10, H⟩ := pbind H
                    refine OJ.callF rfl rfl rfl rfl rfl hb57 rfl (impl_within.c _ (IntKind.i64.wrap t9) 0 100 _ ht10) ?_
                    rintro _ w1 ⟨rfl, hs⟩
                    replace hS := hS.grow hs
                    refine OJ.pures tU_ok 3 rfl ?_
                    refine OJ.split (t := 55) rfl (fun hb => ?_) (fun hb => ?_)
                    · replace H := pif_t hb H
                      refine OJ.pures tU_ok 15 rfl ?_
                      refine OJ.nil ?_
                      exact EJ.meet (F' := [(1, .pointer (some ⟨b1, 0, none⟩)), (3, .int .i64 (a0.Names.length : Int)), (4, .int .i64 y3), (27, .slice Aa0_0 a0.Names.length ca0_0), (28, .int .i64 (a0.Names.length : Int)), (29, .int .i64 y3), (70, .bool true)]) ⟨rfl, rfl, rfl, rfl, rfl, rfl, rfl, trivial⟩ ⟨true, H, rfl, hS.pick [0] [0, 1, 2] rfl⟩
                    · replace H := pifb_f hb H
                      refine OJ.st rfl rfl rfl (SR.fieldAddr tU_ok tI_ok rfl rfl rfl rfl rfl rfl) ?_
                      refine OJ.st rfl rfl rfl (SR.load rfl rfl (fun w' hx => ld1 tU_ok rfl rfl (CA.ext (CA.sub (hS.cells (i := 0) rfl) 2) hx) rfl)) ?_
                      refine OJ.pures tU_ok 1 rfl ?_
                      obtain ⟨t11, ht11, H⟩ := pbind H
                      obtain ⟨ad11, e11⟩ := (hS.rd' (i := 2) rfl).some' ht11
                      refine OJ.st rfl rfl rfl (SR.idxS tU_ok tI_ok rfl rfl rfl rfl e11 rfl (getI_some ht11).1) ?_
                      refine OJ.st rfl rfl rfl (SR.load rfl rfl (fun w' hx => ld1 tU_ok rfl rfl (CA.ext ((hS.rd' (i := 2) rfl).at_ e11 ht11) hx) rfl)) ?_
                      refine OJ.pures tU_ok 1 rfl ?_
                      obtain ⟨u12, hu12, H⟩ := pbind H
                      refine OJ.st rfl rfl rfl (SR.shr rfl rfl rfl (chk_some hu12)) ?_
                      refine OJ.pures tU_ok 3 rfl ?_
                      refine OJ.split (t := 65) rfl (fun hb => ?_) (fun hb => ?_)
                      · replace H := pif_t (of_decide_eq_true hb) H
                        refine OJ.pures tU_ok 5 rfl ?_
                        refine OJ.nil ?_
                        exact EJ.meet (F' := [(1, .pointer (some ⟨b1, 0, none⟩)), (3, .int .i64 (a0.Names.length : Int)), (4, .int .i64 y3), (27, .slice Aa0_0 a0.Names.length ca0_0), (28, .int .i64 (a0.Names.length : Int)), (29, .int .i64 y3), (70, .bool true)]) ⟨rfl, rfl, rfl, rfl, rfl, rfl, rfl, trivial⟩ ⟨true, H, rfl, hS.pick [0] [0, 1, 2] rfl⟩
                      · replace H := pif_f (of_decide_eq_false hb) H
                        refine OJ.st rfl rfl rfl (SR.load rfl rfl (fun w' hx => ldN tU_ok tI_ok rfl rfl rfl (CA.ext (hS.cells (i := 0) rfl) hx) (ds := [.slice Aa0_0 a0.Names.length ca0_0, .slice Aa0_1 a0.Eats.length ca0_1, .slice Aa0_2 a0.Foes.length ca0_2]) rfl rfl)) ?_
                        refine OJ.pures tU_ok 2 rfl ?_
                        obtain ⟨t13, ht13, H⟩ := pbind H
                        refine OJ.callF rfl rfl rfl rfl rfl hb58 rfl (impl_Herd_areFoes.c _ Aa0_0 ca0_0 Aa0_1 ca0_1 Aa0_2 ca0_2 a0 (hS.rd' (i := 0) rfl) (hS.le' (i := 0) rfl) (hS.rd' (i := 1) rfl) (hS.le' (i := 1) rfl) (hS.rd' (i := 2) rfl) (hS.le' (i := 2) rfl) y3 y3 _ ht13) ?_
                        rintro _ w1 ⟨rfl, hs⟩
                        replace hS := hS.grow hs
                        refine OJ.pures tU_ok 1 rfl ?_
                        refine OJ.nil ?_
                        exact EJ.meet (F' := [(1, .pointer (some ⟨b1, 0, none⟩)), (3, .int .i64 (a0.Names.length : Int)), (4, .int .i64 y3), (27, .slice Aa0_0 a0.Names.length ca0_0), (28, .int .i64 (a0.Names.length : Int)), (29, .int .i64 y3), (70, .bool t13)]) ⟨rfl, rfl, rfl, rfl, rfl, rfl, rfl, trivial⟩ ⟨t13, H, rfl, hS.pick [0] [0, 1, 2] rfl⟩
              · rintro F w1 ⟨y5, he, rfl, hS⟩
                obtain rfl := Option.some.inj he
                have H := K57
                refine CJ.cond rfl (fun hb => ?_) (fun hb => ?_)
                · replace H := pif_t hb H
                  refine CJ.seq ?_
                  refine CJ.region ?_
                  refine OJ.pures tU_ok 1 rfl ?_
                  refine OJ.nil (EJ.next ?_)
                  refine CJ.ret (EJ.skR (EJ.bkR (EJ.skR (EJ.skR (EJ.bkR (EJ.skR (EJ.skR (?_))))))))
                  first | (obtain rfl := Option.some.inj H; have H := K54) | (obtain ⟨q54, H2, e54⟩ := pbind H; obtain rfl := Option.some.inj e54; obtain rfl := Option.some.inj K54; have H := H2)
                  first | (obtain rfl := Option.some.inj H; have H := K29) | (obtain ⟨q29, H2, e29⟩ := pbind H; obtain rfl := Option.some.inj e29; obtain rfl := Option.some.inj K29; have H := H2)
                  obtain rfl := Option.some.inj H
                  exact EJ.fin rfl (.tmp rfl .nil) ⟨rfl, hS.ext⟩
                · replace H := pifb_f hb H
                  refine CJ.skip (EJ.next ?_)
                  refine CJ.seq ?_
                  refine CJ.region ?_
                  refine OJ.pures tU_ok 2 rfl ?_
                  refine OJ.nil (EJ.next ?_)
                  obtain ⟨j58, H, K58⟩ := pbind H
                  refine CJ.cut1 (fun F w1 => (some (Sum.inr ()) : Option (((Bool ⊕ Unit) ⊕ Unit) ⊕ Unit)) = some j58 ∧ F = [(1, .pointer (some ⟨b1, 0, none⟩)), (3, .int .i64 (a0.Names.length : Int)), (27, .slice Aa0_0 a0.Names.length ca0_0), (28, .int .i64 (a0.Names.length : Int)), (29, .int .i64 y3)] ∧ St w no w1 [box b1 ([.slice Aa0_0 a0.Names.length ca0_0, .slice Aa0_1 a0.Eats.length ca0_1, .slice Aa0_2 a0.Foes.length ca0_2]) 29] [roC G.cs Aa0_0 ca0_0 a0.Names, roC (ci .i16) Aa0_1 ca0_1 a0.Eats, roC (ci .u16) Aa0_2 ca0_2 a0.Foes]) ?_ ?_
                  · skip
                    refine CJ.block ?_
                    refine CJ.loop (fun k F w1 => ∃ (y14 : Int), F = [(1, .pointer (some ⟨b1, 0, none⟩)), (3, .int .i64 (a0.Names.length : Int)), (4, .int .i64 y3), (27, .slice Aa0_0 a0.Names.length ca0_0), (28, .int .i64 (a0.Names.length : Int)), (29, .int .i64 y3), (71, .int .i64 y3), (72, .int .i64 y14)] ∧ St w no w1 [box b1 ([.slice Aa0_0 a0.Names.length ca0_0, .slice Aa0_1 a0.Eats.length ca0_1, .slice Aa0_2 a0.Foes.length ca0_2]) 29] [roC G.cs Aa0_0 ca0_0 a0.Names, roC (ci .i16) Aa0_1 ca0_1 a0.Eats, roC (ci .u16) Aa0_2 ca0_2 a0.Foes] ∧ impl_ValidHerd.l2 a0 y3 k y14 = some j58) k (F' := [(1, .pointer (some ⟨b1, 0, none⟩)), (3, .int .i64 (a0.Names.length : Int)), (4, .int .i64 y3), (27, .slice Aa0_0 a0.Names.length ca0_0), (28, .int .i64 (a0.Names.length : Int)), (29, .int .i64 y3), (71, .int .i64 y3), (72, .int .i64 0)]) ⟨rfl, rfl, rfl, rfl, rfl, rfl, rfl, rfl, trivial⟩ ⟨0, rfl, hS.pick [0] [0, 1, 2] rfl, H⟩ ?_
                    rintro k F w1 ⟨y14, rfl, hS, H⟩
                    cases k with
                    | zero => rw [impl_ValidHerd.l2] at H; cases H
                    | succ k =>
                      rw [impl_ValidHerd.l2] at H
                      refine CJ.seq ?_
                      refine CJ.region ?_
                      refine OJ.pures tU_ok 1 rfl ?_
                      refine OJ.nil (EJ.next ?_)
                      refine CJ.seq ?_
                      refine CJ.cond rfl (fun hb => ?_) (fun hb => ?_)
                      · replace H := pif_t (of_decide_eq_true hb) H
                        refine CJ.skip (EJ.next ?_)
                        refine CJ.seq ?_
                        refine CJ.block ?_
                        refine CJ.seq ?_
                        refine CJ.region ?_
                        refine OJ.pures tU_ok 2 rfl ?_
                        refine OJ.nil (EJ.next ?_)
                        refine CJ.seq ?_
                        refine CJ.draw [] [0, 1, 2, 4, 5, 6, 3, 7, 8] mixed (by kernel_rfl) hS fun w1 hS => ?_
                        refine DJ.st rfl rfl rfl rfl rfl (SR.load rfl rfl (fun w' hx => ldN tU_ok tI_ok rfl rfl rfl (CA.ext (hS.cells (i := 0) rfl) hx) (ds := [.slice Aa0_0 a0.Names.length ca0_0, .slice Aa0_1 a0.Eats.length ca0_1, .slice Aa0_2 a0.Foes.length ca0_2]) rfl rfl)) ?_
                        refine DJ.pures tU_ok 2 rfl ?_
                        refine DJ.st rfl rfl rfl rfl rfl (SR.load rfl rfl (fun w' hx => ldN tU_ok tI_ok rfl rfl rfl (CA.ext (hS.cells (i := 0) rfl) hx) (ds := [.slice Aa0_0 a0.Names.length ca0_0, .slice Aa0_1 a0.Eats.length ca0_1, .slice Aa0_2 a0.Foes.length ca0_2]) rfl rfl)) ?_
                        refine DJ.pures tU_ok 2 rfl ?_
                        obtain ⟨t15, ht15, H⟩ := pbind H
                        refine DJ.callF rfl rfl rfl rfl rfl rfl rfl hb58 rfl (impl_Herd_areFoes.c _ Aa0_0 ca0_0 Aa0_1 ca0_1 Aa0_2 ca0_2 a0 (hS.rd' (i := 0) rfl) (hS.le' (i := 0) rfl) (hS.rd' (i := 1) rfl) (hS.le' (i := 1) rfl) (hS.rd' (i := 2) rfl) (hS.le' (i := 2) rfl) y3 y14 _ ht15) (by rintro v w' ⟨rfl, hs⟩; exact hs) ?_
                        rintro _ w1 ⟨rfl, hs⟩
                        replace hS := hS.grow hs
                        obtain ⟨t16, ht16, H⟩ := pbind H
                        refine DJ.callF rfl rfl rfl rfl rfl rfl rfl hb58 rfl (impl_Herd_areFoes.c _ Aa0_0 ca0_0 Aa0_1 ca0_1 Aa0_2 ca0_2 a0 (hS.rd' (i := 0) rfl) (hS.le' (i := 0) rfl) (hS.rd' (i := 1) rfl) (hS.le' (i := 1) rfl) (hS.rd' (i := 2) rfl) (hS.le' (i := 2) rfl) y14 y3 _ ht16) (by rintro v w' ⟨rfl, hs⟩; exact hs) ?_
                        rintro _ w1 ⟨rfl, hs⟩
                        replace hS := hS.grow hs
                        refine DJ.st rfl rfl rfl rfl rfl (SR.neB tU_ok rfl rfl rfl rfl) ?_
                        refine DJ.nil (EJ.next ?_)
                        refine CJ.cond rfl (fun hb => ?_) (fun hb => ?_)
                        · replace H := pif_t (of_decide_eq_true hb) H
                          refine CJ.seq ?_
                          refine CJ.region ?_
                          refine OJ.pures tU_ok 1 rfl ?_
                          refine OJ.nil (EJ.next ?_)
                          refine CJ.ret (EJ.bkR (EJ.skR (EJ.skR (EJ.bkR (EJ.skR (EJ.bkR (EJ.skR (EJ.skR (EJ.bkR (EJ.skR (EJ.skR (?_))))))))))))
                          first | (obtain rfl := Option.some.inj H; have H := K58) | (obtain ⟨q58, H2, e58⟩ := pbind H; obtain rfl := Option.some.inj e58; obtain rfl := Option.some.inj K58; have H := H2)
                          first | (obtain rfl := Option.some.inj H; have H := K54) | (obtain ⟨q54, H2, e54⟩ := pbind H; obtain rfl := Option.some.inj e54; obtain rfl := Option.some.inj K54; have H := H2)
                          first | (obtain rfl := Option.some.inj H; have H := K29) | (obtain ⟨q29, H2, e29⟩ := pbind H; obtain rfl := Option.some.inj e29; obtain rfl := Option.some.inj K29; have H := H2)
                          obtain rfl := Option.some.inj H
                          exact EJ.fin rfl (.tmp rfl .nil) ⟨rfl, hS.ext⟩
                        · replace H := pif_f (of_decide_eq_false hb) H
                          refine CJ.skip (EJ.blk (EJ.next ?_))
                          refine CJ.region ?_
                          refine OJ.pures tU_ok 2 rfl ?_
                          refine OJ.nil ?_
                          exact EJ.round k (F' := [(1, .pointer (some ⟨b1, 0, none⟩)), (3, .int .i64 (a0.Names.length : Int)), (4, .int .i64 y3), (27, .slice Aa0_0 a0.Names.length ca0_0), (28, .int .i64 (a0.Names.length : Int)), (29, .int .i64 y3), (71, .int .i64 y3), (72, .int .i64 (IntKind.i64.wrap (y14 + 1)))]) ⟨rfl, rfl, rfl, rfl, rfl, rfl, rfl, rfl, trivial⟩ (Nat.lt_succ_self _) ⟨(IntKind.i64.wrap (y14 + 1)), rfl, hS.pick [0] [0, 1, 2] rfl, H⟩
                      · replace H := pif_f (of_decide_eq_false hb) H
                        refine CJ.exit (EJ.skE (EJ.skE (EJ.hit (?_))))
                        exact EJ.meet (F' := [(1, .pointer (some ⟨b1, 0, none⟩)), (3, .int .i64 (a0.Names.length : Int)), (27, .slice Aa0_0 a0.Names.length ca0_0), (28, .int .i64 (a0.Names.length : Int)), (29, .int .i64 y3)]) ⟨rfl, rfl, rfl, rfl, rfl, trivial⟩ ⟨H, rfl, hS.pick [0] [0, 1, 2] rfl⟩
                  · rintro F w1 ⟨he, rfl, hS⟩
                    obtain rfl := Option.some.inj he
                    have H := K58
                    refine EJ.blk (?_)
                    exact EJ.meet (F' := [(1, .pointer (some ⟨b1, 0, none⟩)), (3, .int .i64 (a0.Names.length : Int)), (27, .slice Aa0_0 a0.Names.length ca0_0), (28, .int .i64 (a0.Names.length : Int)), (29, .int .i64 y3)]) ⟨rfl, rfl, rfl, rfl, rfl, trivial⟩ ⟨H, rfl, hS.pick [0] [0, 1, 2] rfl⟩
            · rintro F w1 ⟨he, rfl, hS⟩
              obtain rfl := Option.some.inj he
              have H := K54
              refine CJ.region ?_
              refine OJ.pures tU_ok 2 rfl ?_
              refine OJ.nil ?_
              exact EJ.round k (F' := [(1, .pointer (some ⟨b1, 0, none⟩)), (3, .int .i64 (a0.Names.length : Int)), (27, .slice Aa0_0 a0.Names.length ca0_0), (28, .int .i64 (a0.Names.length : Int)), (29, .int .i64 (IntKind.i64.wrap (y3 + 1)))]) ⟨rfl, rfl, rfl, rfl, rfl, trivial⟩ (Nat.lt_succ_self _) ⟨(IntKind.i64.wrap (y3 + 1)), rfl, hS.pick [0] [0, 1, 2] rfl, H⟩
          · replace H := pif_f (of_decide_eq_false hb) H
            refine CJ.exit (EJ.skE (EJ.skE (EJ.hit (?_))))
            exact EJ.meet (F' := []) trivial ⟨H, rfl, hS.pick [] [0, 1, 2] rfl⟩
      · rintro F w1 ⟨he, rfl, hS⟩
        obtain rfl := Option.some.inj he
        have H := K29
        refine EJ.next ?_
        refine CJ.seq ?_
        refine CJ.region ?_
        refine OJ.pures tU_ok 1 rfl ?_
        refine OJ.nil (EJ.next ?_)
        refine CJ.ret (?_)
        obtain rfl := Option.some.inj H
        exact EJ.fin rfl (.tmp rfl .nil) ⟨rfl, hS.ext⟩

def slices_IndexFunc_string_string.l1 (a0 : List ByteArray) (a1 : ByteArray → Option Bool) : Nat → Int → Option (Int ⊕ Unit)
  | 0, _ => none
  | k + 1, y1 => if y1 < (a0.length : Int) then ((getI a0 y1).bind fun t2 => (a1 t2).bind fun t3 => if t3 = true then (some (Sum.inl y1)) else (slices_IndexFunc_string_string.l1 a0 a1 k (IntKind.i64.wrap (y1 + 1)))) else (some (Sum.inr ()))
def slices_IndexFunc_string_string.f (k : Nat) (a0 : List ByteArray) (a1 : ByteArray → Option Bool) : Option Int := (slices_IndexFunc_string_string.l1 a0 a1 k 0).bind fun s59 => match s59 with | .inl r => some r | .inr _ => some (-1)
theorem slices_IndexFunc_string_string.c (k : Nat) (w : World) (Aa0 : Option Addr) (ca0 : Nat) (a0 : List ByteArray) (hr0 : Rd G.cs w Aa0 a0) (hc0 : a0.length ≤ ca0) (na1 : Nat) (fsa1 capa1 : Array Value) (hb1 : hasBody Tryd.prog na1) (a1 : ByteArray → Option Bool) (hf1 : ∀ (z0 : ByteArray) (r : Bool), a1 z0 = some r → ∀ w', Chg no w w' → CV Tryd.prog na1 (fsa1 ++ [.string z0].toArray ++ capa1) w' fun v w'' => v = .bool r ∧ Ext w' w'') (r : Int) (H : slices_IndexFunc_string_string.f k a0 a1 = some r) :
    CV Tryd.prog 100 [.slice Aa0 a0.length ca0, .func (.func na1) fsa1 capa1].toArray w fun v w' => v = .int .i64 r ∧ Ext w w' := by
  have hS := ((St.init w no).param G.cs Aa0 ca0 a0 hr0 hc0)
  unfold slices_IndexFunc_string_string.f at H
  refine CV.body Tryd.func100 rfl Tryd.ntmps100 rfl ?_
  refine CJ.seq ?_
  refine CJ.region ?_
  refine OJ.pures tU_ok 1 rfl ?_
  refine OJ.nil (EJ.next ?_)
  refine CJ.seq ?_
  refine CJ.seq ?_
  refine CJ.region ?_
  refine OJ.pures tU_ok 3 rfl ?_
  refine OJ.nil (EJ.next ?_)
  obtain ⟨j59, H, K59⟩ := pbind H
  refine CJ.cut1 (fun F w1 => (some (Sum.inr ()) : Option (Int ⊕ Unit)) = some j59 ∧ F = [] ∧ St w no w1 [] [roC G.cs Aa0 ca0 a0]) ?_ ?_
  · skip
    refine CJ.block ?_
    refine CJ.loop (fun k F w1 => ∃ (y1 : Int), F = [(0, .slice Aa0 a0.length ca0), (1, .func (.func na1) fsa1 capa1), (7, .int .i64 (a0.length : Int)), (8, .int .i64 y1)] ∧ St w no w1 [] [roC G.cs Aa0 ca0 a0] ∧ slices_IndexFunc_string_string.l1 a0 a1 k y1 = some j59) k (F' := [(0, .slice Aa0 a0.length ca0), (1, .func (.func na1) fsa1 capa1), (7, .int .i64 (a0.length : Int)), (8, .int .i64 0)]) ⟨rfl, rfl, rfl, rfl, trivial⟩ ⟨0, rfl, hS.pick [] [0] rfl, H⟩ ?_
    rintro k F w1 ⟨y1, rfl, hS, H⟩
    cases k with
    | zero => rw [slices_IndexFunc_string_string.l1] at H; cases H
    | succ k =>
      rw [slices_IndexFunc_string_string.l1] at H
      refine CJ.seq ?_
      refine CJ.region ?_
      refine OJ.pures tU_ok 1 rfl ?_
      refine OJ.nil (EJ.next ?_)
      refine CJ.seq ?_
      refine CJ.cond rfl (fun hb => ?_) (fun hb => ?_)
      · replace H := pif_t (of_decide_eq_true hb) H
        refine CJ.skip (EJ.next ?_)
        refine CJ.seq ?_
        refine CJ.block ?_
        refine CJ.seq ?_
        refine CJ.region ?_
        refine OJ.pures tU_ok 2 rfl ?_
        refine OJ.nil (EJ.next ?_)
        refine CJ.seq ?_
        refine CJ.region ?_
        refine OJ.pures tU_ok 3 rfl ?_
        obtain ⟨t2, ht2, H⟩ := pbind H
        obtain ⟨ad2, e2⟩ := (hS.rd' (i := 0) rfl).some' ht2
        refine OJ.st rfl rfl rfl (SR.idxS tU_ok tI_ok rfl rfl rfl rfl e2 rfl (getI_some ht2).1) ?_
        refine OJ.st rfl rfl rfl (SR.load rfl rfl (fun w' hx => ld1 tU_ok rfl rfl (CA.ext ((hS.rd' (i := 0) rfl).at_ e2 ht2) hx) rfl)) ?_
        obtain ⟨t3, ht3, H⟩ := pbind H
        refine OJ.call rfl rfl (Nat.le_of_ble_eq_true rfl) rfl rfl rfl hb1 rfl (hf1 t2 _ ht3 _ hS.chg) ?_
        rintro _ w1 ⟨rfl, hs⟩
        replace hS := hS.grow hs
        refine OJ.nil (EJ.next ?_)
        refine CJ.cond rfl (fun hb => ?_) (fun hb => ?_)
        · replace H := pif_t hb H
          refine CJ.seq ?_
          refine CJ.region ?_
          refine OJ.pures tU_ok 2 rfl ?_
          refine OJ.nil (EJ.next ?_)
          refine CJ.ret (EJ.bkR (EJ.skR (EJ.skR (EJ.bkR (EJ.skR (EJ.skR (?_)))))))
          first | (obtain rfl := Option.some.inj H; have H := K59) | (obtain ⟨q59, H2, e59⟩ := pbind H; obtain rfl := Option.some.inj e59; obtain rfl := Option.some.inj K59; have H := H2)
          obtain rfl := Option.some.inj H
          exact EJ.fin rfl (.tmp rfl .nil) ⟨rfl, hS.ext⟩
        · replace H := pifb_f hb H
          refine CJ.skip (EJ.blk (EJ.next ?_))
          refine CJ.region ?_
          refine OJ.pures tU_ok 2 rfl ?_
          refine OJ.nil ?_
          exact EJ.round k (F' := [(0, .slice Aa0 a0.length ca0), (1, .func (.func na1) fsa1 capa1), (7, .int .i64 (a0.length : Int)), (8, .int .i64 (IntKind.i64.wrap (y1 + 1)))]) ⟨rfl, rfl, rfl, rfl, trivial⟩ (Nat.lt_succ_self _) ⟨(IntKind.i64.wrap (y1 + 1)), rfl, hS.pick [] [0] rfl, H⟩
      · replace H := pif_f (of_decide_eq_false hb) H
        refine CJ.exit (EJ.skE (EJ.skE (EJ.hit (?_))))
        exact EJ.meet (F' := []) trivial ⟨H, rfl, hS.pick [] [0] rfl⟩
  · rintro F w1 ⟨he, rfl, hS⟩
    obtain rfl := Option.some.inj he
    have H := K59
    refine EJ.next ?_
    refine CJ.seq ?_
    refine CJ.region ?_
    refine OJ.pures tU_ok 1 rfl ?_
    refine OJ.nil (EJ.next ?_)
    refine CJ.ret (?_)
    obtain rfl := Option.some.inj H
    exact EJ.fin rfl (.tmp rfl .nil) ⟨rfl, hS.ext⟩

def slices_ContainsFunc_string_string.f (k : Nat) (a0 : List ByteArray) (a1 : ByteArray → Option Bool) : Option Bool := (slices_IndexFunc_string_string.f k a0 a1).bind fun t1 => some (decide (0 ≤ t1))
theorem slices_ContainsFunc_string_string.c (k : Nat) (w : World) (Aa0 : Option Addr) (ca0 : Nat) (a0 : List ByteArray) (hr0 : Rd G.cs w Aa0 a0) (hc0 : a0.length ≤ ca0) (na1 : Nat) (fsa1 capa1 : Array Value) (hb1 : hasBody Tryd.prog na1) (a1 : ByteArray → Option Bool) (hf1 : ∀ (z0 : ByteArray) (r : Bool), a1 z0 = some r → ∀ w', Chg no w w' → CV Tryd.prog na1 (fsa1 ++ [.string z0].toArray ++ capa1) w' fun v w'' => v = .bool r ∧ Ext w' w'') (r : Bool) (H : slices_ContainsFunc_string_string.f k a0 a1 = some r) :
    CV Tryd.prog 76 [.slice Aa0 a0.length ca0, .func (.func na1) fsa1 capa1].toArray w fun v w' => v = .bool r ∧ Ext w w' := by
  have hS := ((St.init w no).param G.cs Aa0 ca0 a0 hr0 hc0)
  unfold slices_ContainsFunc_string_string.f at H
  refine CV.body Tryd.func76 rfl Tryd.ntmps76 rfl ?_
  refine CJ.seq ?_
  refine CJ.region ?_
  refine OJ.pures tU_ok 1 rfl ?_
  refine OJ.nil (EJ.next ?_)
  refine CJ.seq ?_
  refine CJ.region ?_
  refine OJ.pures tU_ok 2 rfl ?_
  obtain ⟨t1, ht1, H⟩ := pbind H
  refine OJ.callF rfl rfl rfl rfl rfl hb100 rfl (slices_IndexFunc_string_string.c k _ Aa0 ca0 a0 (hS.rd' (i := 0) rfl) (hS.le' (i := 0) rfl) na1 fsa1 capa1 hb1 a1 (fun z0 r h w' hx => hf1 z0 r h w' (hS.chg.then hx (fun _ _ e => e.elim))) _ ht1) ?_
  rintro _ w1 ⟨rfl, hs⟩
  replace hS := hS.grow hs
  refine OJ.pures tU_ok 2 rfl ?_
  refine OJ.nil (EJ.next ?_)
  refine CJ.ret (?_)
  obtain rfl := Option.some.inj H
  exact EJ.fin rfl (.tmp rfl .nil) ⟨rfl, hS.ext⟩

def impl_JoinHerds_1.f (k : Nat) (a1 : Herd) (a0 : ByteArray) : Option Bool := (slices_Contains_string_string.f k a1.Names a0).bind fun t1 => some t1
theorem impl_JoinHerds_1.c (k : Nat) (w : World) (Aa1_0 : Option Addr) (ca1_0 : Nat) (Aa1_1 : Option Addr) (ca1_1 : Nat) (Aa1_2 : Option Addr) (ca1_2 : Nat) (a1 : Herd) (hr1_0 : Rd G.cs w Aa1_0 a1.Names) (hc1_0 : a1.Names.length ≤ ca1_0) (hr1_1 : Rd (ci .i16) w Aa1_1 a1.Eats) (hc1_1 : a1.Eats.length ≤ ca1_1) (hr1_2 : Rd (ci .u16) w Aa1_2 a1.Foes) (hc1_2 : a1.Foes.length ≤ ca1_2) (pa1 : Addr) (hp1 : CA w pa1 ([.slice Aa1_0 a1.Names.length ca1_0, .slice Aa1_1 a1.Eats.length ca1_1, .slice Aa1_2 a1.Foes.length ca1_2])) (a0 : ByteArray) (r : Bool) (H : impl_JoinHerds_1.f k a1 a0 = some r) :
    CV Tryd.prog 77 [.string a0, .pointer (some pa1)].toArray w fun v w' => v = .bool r ∧ Ext w w' := by
  have hS := (((((St.init w no).param G.cs Aa1_0 ca1_0 a1.Names hr1_0 hc1_0).param (ci .i16) Aa1_1 ca1_1 a1.Eats hr1_1 hc1_1).param (ci .u16) Aa1_2 ca1_2 a1.Foes hr1_2 hc1_2).paramP pa1 ([.slice Aa1_0 a1.Names.length ca1_0, .slice Aa1_1 a1.Eats.length ca1_1, .slice Aa1_2 a1.Foes.length ca1_2]) hp1)
  unfold impl_JoinHerds_1.f at H
  refine CV.body Tryd.func77 rfl Tryd.ntmps77 rfl ?_
  refine CJ.seq ?_
  refine CJ.region ?_
  refine OJ.pures tU_ok 1 rfl ?_
  refine OJ.nil (EJ.next ?_)
  refine CJ.seq ?_
  refine CJ.region ?_
  refine OJ.st rfl rfl rfl (SR.fieldAddr tU_ok tI_ok rfl rfl rfl rfl rfl rfl) ?_
  refine OJ.st rfl rfl rfl (SR.load rfl rfl (fun w' hx => ld1 tU_ok rfl rfl (CA.ext (CA.sub (hS.ca (i := 3) rfl) 0) hx) rfl)) ?_
  refine OJ.pures tU_ok 1 rfl ?_
  obtain ⟨t1, ht1, H⟩ := pbind H
  refine OJ.callF rfl rfl rfl rfl rfl hb56 rfl (slices_Contains_string_string.c k _ Aa1_0 ca1_0 a1.Names (hS.rd' (i := 0) rfl) (hS.le' (i := 0) rfl) a0 _ ht1) ?_
  rintro _ w1 ⟨rfl, hs⟩
  replace hS := hS.grow hs
  refine OJ.pures tU_ok 1 rfl ?_
  refine OJ.nil (EJ.next ?_)
  refine CJ.ret (?_)
  obtain rfl := Option.some.inj H
  exact EJ.fin rfl (.tmp rfl .nil) ⟨rfl, hS.ext⟩

def impl_size_string.f (a0 : List ByteArray) : Option Int := some (a0.length : Int)
theorem impl_size_string.c (w : World) (Aa0 : Option Addr) (ca0 : Nat) (a0 : List ByteArray) (hr0 : Rd G.cs w Aa0 a0) (hc0 : a0.length ≤ ca0) (r : Int) (H : impl_size_string.f a0 = some r) :
    CV Tryd.prog 101 [.slice Aa0 a0.length ca0].toArray w fun v w' => v = .int .i64 r ∧ Ext w w' := by
  have hS := ((St.init w no).param G.cs Aa0 ca0 a0 hr0 hc0)
  unfold impl_size_string.f at H
  refine CV.body Tryd.func101 rfl Tryd.ntmps101 rfl ?_
  refine CJ.seq ?_
  refine CJ.region ?_
  refine OJ.pures tU_ok 1 rfl ?_
  refine OJ.nil (EJ.next ?_)
  refine CJ.seq ?_
  refine CJ.region ?_
  refine OJ.pures tU_ok 3 rfl ?_
  refine OJ.nil (EJ.next ?_)
  refine CJ.ret (?_)
  obtain rfl := Option.some.inj H
  exact EJ.fin rfl (.tmp rfl .nil) ⟨rfl, hS.ext⟩

def impl_Herd_many.f (a0 : Herd) : Option Int := (impl_size_string.f a0.Names).bind fun t2 => some t2
theorem impl_Herd_many.c (w : World) (Aa0_0 : Option Addr) (ca0_0 : Nat) (Aa0_1 : Option Addr) (ca0_1 : Nat) (Aa0_2 : Option Addr) (ca0_2 : Nat) (a0 : Herd) (hr0_0 : Rd G.cs w Aa0_0 a0.Names) (hc0_0 : a0.Names.length ≤ ca0_0) (hr0_1 : Rd (ci .i16) w Aa0_1 a0.Eats) (hc0_1 : a0.Eats.length ≤ ca0_1) (hr0_2 : Rd (ci .u16) w Aa0_2 a0.Foes) (hc0_2 : a0.Foes.length ≤ ca0_2) (r : Int) (H : impl_Herd_many.f a0 = some r) :
    CV Tryd.prog 78 [.agg [.slice Aa0_0 a0.Names.length ca0_0, .slice Aa0_1 a0.Eats.length ca0_1, .slice Aa0_2 a0.Foes.length ca0_2].toArray].toArray w fun v w' => v = .int .i64 r ∧ Ext w w' := by
  have hS := ((((St.init w no).param G.cs Aa0_0 ca0_0 a0.Names hr0_0 hc0_0).param (ci .i16) Aa0_1 ca0_1 a0.Eats hr0_1 hc0_1).param (ci .u16) Aa0_2 ca0_2 a0.Foes hr0_2 hc0_2)
  unfold impl_Herd_many.f at H
  refine CV.body Tryd.func78 rfl Tryd.ntmps78 rfl ?_
  refine CJ.seq ?_
  refine CJ.region ?_
  refine OJ.ef rfl rfl rfl (Ef.box hS rfl rfl ([.slice Aa0_0 a0.Names.length ca0_0, .slice Aa0_1 a0.Eats.length ca0_1, .slice Aa0_2 a0.Foes.length ca0_2]) rfl) ?_
  rintro _ w1 ⟨b1, rfl, hS⟩
  refine OJ.pures tU_ok 1 rfl ?_
  refine OJ.nil (EJ.next ?_)
  refine CJ.seq ?_
  refine CJ.region ?_
  refine OJ.st rfl rfl rfl (SR.fieldAddr tU_ok tI_ok rfl rfl rfl rfl rfl rfl) ?_
  refine OJ.st rfl rfl rfl (SR.load rfl rfl (fun w' hx => ld1 tU_ok rfl rfl (CA.ext (CA.sub (hS.cells (i := 0) rfl) 0) hx) rfl)) ?_
  obtain ⟨t2, ht2, H⟩ := pbind H
  refine OJ.callF rfl rfl rfl rfl rfl hb101 rfl (impl_size_string.c _ Aa0_0 ca0_0 a0.Names (hS.rd' (i := 0) rfl) (hS.le' (i := 0) rfl) _ ht2) ?_
  rintro _ w1 ⟨rfl, hs⟩
  replace hS := hS.grow hs
  refine OJ.pures tU_ok 1 rfl ?_
  refine OJ.nil (EJ.next ?_)
  refine CJ.ret (?_)
  obtain rfl := Option.some.inj H
  exact EJ.fin rfl (.tmp rfl .nil) ⟨rfl, hS.ext⟩

def slices_Clone_string_string.f (a0 : List ByteArray) : Option (List ByteArray) := (chk (([] : List ByteArray).length + a0.length ≤ 4294967296)).bind fun _ => some a0
theorem slices_Clone_string_string.c (w : World) (A : Option Addr) (c : Nat) (a0 : List ByteArray) (hr0 : Rd G.cs w A a0) (hc0 : a0.length ≤ c) (r : List ByteArray) (H : slices_Clone_string_string.f a0 = some r) :
    CV Tryd.prog 102 [.slice A a0.length c].toArray w fun v w' => ∃ (A0 : Option Addr) (c0 : Nat), v = .slice A0 r.length c0 ∧ St w no w' [rowC G.cs A0 c0 9 r] [] := by
  have hS := ((St.init w no).param G.cs A c a0 hr0 hc0)
  obtain ⟨u, hu, H⟩ := pbind H
  obtain rfl := Option.some.inj H
  refine CV.body Tryd.func102 rfl Tryd.ntmps102 rfl ?_
  refine CJ.seq ?_
  refine CJ.region ?_
  refine OJ.pures tU_ok 1 rfl ?_
  refine OJ.nil (EJ.next ?_)
  refine CJ.seq ?_
  refine CJ.seq ?_
  refine CJ.region ?_
  refine OJ.pures tU_ok 1 rfl ?_
  refine OJ.st rfl rfl rfl (SR.eqNil tU_ok rfl rfl rfl rfl) ?_
  refine OJ.nil (EJ.next ?_)
  refine CJ.cond rfl (fun hb => ?_) (fun hb => ?_)
  · obtain rfl := hr0.isNone hb
    refine CJ.seq ?_
    refine CJ.region ?_
    refine OJ.pures tU_ok 1 rfl ?_
    refine OJ.nil (EJ.next ?_)
    refine CJ.ret (EJ.skR ?_)
    replace hS := hS.addNil G.cs 9 none
    exact EJ.fin rfl (.tmp rfl .nil) ⟨none, 0, rfl, hS.pick [0] [] rfl⟩
  · refine CJ.skip (EJ.next ?_)
    refine CJ.seq ?_
    refine CJ.region ?_
    refine OJ.ef rfl rfl rfl (Ef.lit tU_ok tI_ok hS (C := G.cs) rfl rfl rfl rfl rfl rfl ([] : List ByteArray) rfl rfl rfl rfl) ?_
    rintro _ w1 ⟨A1, rfl, hS⟩
    refine OJ.pures tU_ok 1 rfl ?_
    refine OJ.ew rfl rfl rfl (Ew.append tU_ok tI_ok (C := G.cs) (xs := ([] : List ByteArray)) (ys := a0) hS (i := 0) rfl rfl rfl rfl rfl rfl rfl rfl rfl rfl rfl rfl rfl (hS.rd' (i := 0) rfl) (chk_some hu)) ?_
    rintro _ w1 ⟨A2, c2, rfl, hS⟩
    refine OJ.pures tU_ok 1 rfl ?_
    refine OJ.nil (EJ.next ?_)
    exact CJ.ret (EJ.fin rfl (.tmp rfl .nil) ⟨A2, c2, rfl, hS.pick [0] [] rfl⟩)

def slices_Clone_int16_int16.f (a0 : List Int) : Option (List Int) := (chk (([] : List Int).length + a0.length ≤ 4294967296)).bind fun _ => some a0
theorem slices_Clone_int16_int16.c (w : World) (A : Option Addr) (c : Nat) (a0 : List Int) (hr0 : Rd (ci .i16) w A a0) (hc0 : a0.length ≤ c) (r : List Int) (H : slices_Clone_int16_int16.f a0 = some r) :
    CV Tryd.prog 103 [.slice A a0.length c].toArray w fun v w' => ∃ (A0 : Option Addr) (c0 : Nat), v = .slice A0 r.length c0 ∧ St w no w' [rowC (ci .i16) A0 c0 73 r] [] := by
  have hS := ((St.init w no).param (ci .i16) A c a0 hr0 hc0)
  obtain ⟨u, hu, H⟩ := pbind H
  obtain rfl := Option.some.inj H
  refine CV.body Tryd.func103 rfl Tryd.ntmps103 rfl ?_
  refine CJ.seq ?_
  refine CJ.region ?_
  refine OJ.pures tU_ok 1 rfl ?_
  refine OJ.nil (EJ.next ?_)
  refine CJ.seq ?_
  refine CJ.seq ?_
  refine CJ.region ?_
  refine OJ.pures tU_ok 1 rfl ?_
  refine OJ.st rfl rfl rfl (SR.eqNil tU_ok rfl rfl rfl rfl) ?_
  refine OJ.nil (EJ.next ?_)
  refine CJ.cond rfl (fun hb => ?_) (fun hb => ?_)
  · obtain rfl := hr0.isNone hb
    refine CJ.seq ?_
    refine CJ.region ?_
    refine OJ.pures tU_ok 1 rfl ?_
    refine OJ.nil (EJ.next ?_)
    refine CJ.ret (EJ.skR ?_)
    replace hS := hS.addNil (ci .i16) 73 none
    exact EJ.fin rfl (.tmp rfl .nil) ⟨none, 0, rfl, hS.pick [0] [] rfl⟩
  · refine CJ.skip (EJ.next ?_)
    refine CJ.seq ?_
    refine CJ.region ?_
    refine OJ.ef rfl rfl rfl (Ef.lit tU_ok tI_ok hS (C := (ci .i16)) rfl rfl rfl rfl rfl rfl ([] : List Int) rfl rfl rfl rfl) ?_
    rintro _ w1 ⟨A1, rfl, hS⟩
    refine OJ.pures tU_ok 1 rfl ?_
    refine OJ.ew rfl rfl rfl (Ew.append tU_ok tI_ok (C := (ci .i16)) (xs := ([] : List Int)) (ys := a0) hS (i := 0) rfl rfl rfl rfl rfl rfl rfl rfl rfl rfl rfl rfl rfl (hS.rd' (i := 0) rfl) (chk_some hu)) ?_
    rintro _ w1 ⟨A2, c2, rfl, hS⟩
    refine OJ.pures tU_ok 1 rfl ?_
    refine OJ.nil (EJ.next ?_)
    exact CJ.ret (EJ.fin rfl (.tmp rfl .nil) ⟨A2, c2, rfl, hS.pick [0] [] rfl⟩)

def slices_Clone_uint16_uint16.f (a0 : List Int) : Option (List Int) := (chk (([] : List Int).length + a0.length ≤ 4294967296)).bind fun _ => some a0
theorem slices_Clone_uint16_uint16.c (w : World) (A : Option Addr) (c : Nat) (a0 : List Int) (hr0 : Rd (ci .u16) w A a0) (hc0 : a0.length ≤ c) (r : List Int) (H : slices_Clone_uint16_uint16.f a0 = some r) :
    CV Tryd.prog 104 [.slice A a0.length c].toArray w fun v w' => ∃ (A0 : Option Addr) (c0 : Nat), v = .slice A0 r.length c0 ∧ St w no w' [rowC (ci .u16) A0 c0 74 r] [] := by
  have hS := ((St.init w no).param (ci .u16) A c a0 hr0 hc0)
  obtain ⟨u, hu, H⟩ := pbind H
  obtain rfl := Option.some.inj H
  refine CV.body Tryd.func104 rfl Tryd.ntmps104 rfl ?_
  refine CJ.seq ?_
  refine CJ.region ?_
  refine OJ.pures tU_ok 1 rfl ?_
  refine OJ.nil (EJ.next ?_)
  refine CJ.seq ?_
  refine CJ.seq ?_
  refine CJ.region ?_
  refine OJ.pures tU_ok 1 rfl ?_
  refine OJ.st rfl rfl rfl (SR.eqNil tU_ok rfl rfl rfl rfl) ?_
  refine OJ.nil (EJ.next ?_)
  refine CJ.cond rfl (fun hb => ?_) (fun hb => ?_)
  · obtain rfl := hr0.isNone hb
    refine CJ.seq ?_
    refine CJ.region ?_
    refine OJ.pures tU_ok 1 rfl ?_
    refine OJ.nil (EJ.next ?_)
    refine CJ.ret (EJ.skR ?_)
    replace hS := hS.addNil (ci .u16) 74 none
    exact EJ.fin rfl (.tmp rfl .nil) ⟨none, 0, rfl, hS.pick [0] [] rfl⟩
  · refine CJ.skip (EJ.next ?_)
    refine CJ.seq ?_
    refine CJ.region ?_
    refine OJ.ef rfl rfl rfl (Ef.lit tU_ok tI_ok hS (C := (ci .u16)) rfl rfl rfl rfl rfl rfl ([] : List Int) rfl rfl rfl rfl) ?_
    rintro _ w1 ⟨A1, rfl, hS⟩
    refine OJ.pures tU_ok 1 rfl ?_
    refine OJ.ew rfl rfl rfl (Ew.append tU_ok tI_ok (C := (ci .u16)) (xs := ([] : List Int)) (ys := a0) hS (i := 0) rfl rfl rfl rfl rfl rfl rfl rfl rfl rfl rfl rfl rfl (hS.rd' (i := 0) rfl) (chk_some hu)) ?_
    rintro _ w1 ⟨A2, c2, rfl, hS⟩
    refine OJ.pures tU_ok 1 rfl ?_
    refine OJ.nil (EJ.next ?_)
    exact CJ.ret (EJ.fin rfl (.tmp rfl .nil) ⟨A2, c2, rfl, hS.pick [0] [] rfl⟩)

def impl_Herd_own.f (a0 : Herd) : Option Herd := (slices_Clone_string_string.f a0.Names).bind fun t3 => (slices_Clone_int16_int16.f a0.Eats).bind fun t6 => (slices_Clone_uint16_uint16.f a0.Foes).bind fun t9 => some (⟨t3, t6, t9⟩ : Herd)
theorem impl_Herd_own.c (w : World) (Aa0_0 : Option Addr) (ca0_0 : Nat) (Aa0_1 : Option Addr) (ca0_1 : Nat) (Aa0_2 : Option Addr) (ca0_2 : Nat) (a0 : Herd) (hr0_0 : Rd G.cs w Aa0_0 a0.Names) (hc0_0 : a0.Names.length ≤ ca0_0) (hr0_1 : Rd (ci .i16) w Aa0_1 a0.Eats) (hc0_1 : a0.Eats.length ≤ ca0_1) (hr0_2 : Rd (ci .u16) w Aa0_2 a0.Foes) (hc0_2 : a0.Foes.length ≤ ca0_2) (r : Herd) (H : impl_Herd_own.f a0 = some r) :
    CV Tryd.prog 79 [.agg [.slice Aa0_0 a0.Names.length ca0_0, .slice Aa0_1 a0.Eats.length ca0_1, .slice Aa0_2 a0.Foes.length ca0_2].toArray].toArray w fun v w' => ∃ (A0_0 : Option Addr) (c0_0 : Nat) (A0_1 : Option Addr) (c0_1 : Nat) (A0_2 : Option Addr) (c0_2 : Nat), v = .agg [.slice A0_0 r.Names.length c0_0, .slice A0_1 r.Eats.length c0_1, .slice A0_2 r.Foes.length c0_2].toArray ∧ St w no w' [rowC G.cs A0_0 c0_0 9 r.Names, rowC (ci .i16) A0_1 c0_1 73 r.Eats, rowC (ci .u16) A0_2 c0_2 74 r.Foes] [] := by
  have hS := ((((St.init w no).param G.cs Aa0_0 ca0_0 a0.Names hr0_0 hc0_0).param (ci .i16) Aa0_1 ca0_1 a0.Eats hr0_1 hc0_1).param (ci .u16) Aa0_2 ca0_2 a0.Foes hr0_2 hc0_2)
  unfold impl_Herd_own.f at H
  refine CV.body Tryd.func79 rfl Tryd.ntmps79 rfl ?_
  refine CJ.seq ?_
  refine CJ.region ?_
  refine OJ.ef rfl rfl rfl (Ef.box hS rfl rfl ([.slice Aa0_0 a0.Names.length ca0_0, .slice Aa0_1 a0.Eats.length ca0_1, .slice Aa0_2 a0.Foes.length ca0_2]) rfl) ?_
  rintro _ w1 ⟨b1, rfl, hS⟩
  refine OJ.ef rfl rfl rfl (Ef.alloc hS tI_ok rfl rfl ([.slice none 0 0, .slice none 0 0, .slice none 0 0]) rfl) ?_
  rintro _ w1 ⟨b2, rfl, hS⟩
  refine OJ.nil (EJ.next ?_)
  refine CJ.seq ?_
  refine CJ.draw [] [0, 1, 3, 4, 6, 7, 2, 5, 8, 9, 10] mixed (by kernel_rfl) hS fun w1 hS => ?_
  refine DJ.st rfl rfl rfl rfl rfl (SR.fieldAddr tU_ok tI_ok rfl rfl rfl rfl rfl rfl) ?_
  refine DJ.st rfl rfl rfl rfl rfl (SR.load rfl rfl (fun w' hx => ld1 tU_ok rfl rfl (CA.ext (CA.sub (hS.cells (i := 0) rfl) 0) hx) rfl)) ?_
  refine DJ.st rfl rfl rfl rfl rfl (SR.fieldAddr tU_ok tI_ok rfl rfl rfl rfl rfl rfl) ?_
  refine DJ.st rfl rfl rfl rfl rfl (SR.load rfl rfl (fun w' hx => ld1 tU_ok rfl rfl (CA.ext (CA.sub (hS.cells (i := 0) rfl) 1) hx) rfl)) ?_
  refine DJ.st rfl rfl rfl rfl rfl (SR.fieldAddr tU_ok tI_ok rfl rfl rfl rfl rfl rfl) ?_
  refine DJ.st rfl rfl rfl rfl rfl (SR.load rfl rfl (fun w' hx => ld1 tU_ok rfl rfl (CA.ext (CA.sub (hS.cells (i := 0) rfl) 2) hx) rfl)) ?_
  obtain ⟨t3, ht3, H⟩ := pbind H
  refine DJ.callF rfl rfl rfl rfl rfl rfl rfl hb102 rfl (slices_Clone_string_string.c _ Aa0_0 ca0_0 a0.Names (hS.rd' (i := 0) rfl) (hS.le' (i := 0) rfl) _ ht3) (by rintro v w' ⟨A4, c5, rfl, hs⟩; exact hs.ext) ?_
  rintro _ w1 ⟨A4, c5, rfl, hs⟩
  replace hS := hS.addN hs
  obtain ⟨t6, ht6, H⟩ := pbind H
  refine DJ.callF rfl rfl rfl rfl rfl rfl rfl hb103 rfl (slices_Clone_int16_int16.c _ Aa0_1 ca0_1 a0.Eats (hS.rd' (i := 1) rfl) (hS.le' (i := 1) rfl) _ ht6) (by rintro v w' ⟨A7, c8, rfl, hs⟩; exact hs.ext) ?_
  rintro _ w1 ⟨A7, c8, rfl, hs⟩
  replace hS := hS.addN hs
  obtain ⟨t9, ht9, H⟩ := pbind H
  refine DJ.callF rfl rfl rfl rfl rfl rfl rfl hb104 rfl (slices_Clone_uint16_uint16.c _ Aa0_2 ca0_2 a0.Foes (hS.rd' (i := 2) rfl) (hS.le' (i := 2) rfl) _ ht9) (by rintro v w' ⟨A10, c11, rfl, hs⟩; exact hs.ext) ?_
  rintro _ w1 ⟨A10, c11, rfl, hs⟩
  replace hS := hS.addN hs
  refine DJ.ef rfl rfl rfl rfl rfl ((SR.build' tU_ok tI_ok rfl rfl rfl (zs := [.slice none 0 0, .slice none 0 0, .slice none 0 0]) rfl rfl rfl ([.slice A4 t3.length c5, .slice A7 t6.length c8, .slice A10 t9.length c11]) rfl).ef) ?_
  rintro _ w1 ⟨rfl, hx⟩
  replace hS := hS.grow hx
  refine DJ.es rfl rfl rfl rfl (Es.store tI_ok hS (i := 1) (vs := [.slice A4 t3.length c5, .slice A7 t6.length c8, .slice A10 t9.length c11]) rfl rfl rfl rfl rfl rfl rfl rfl (by intro u hu; simp only [List.mem_cons, List.not_mem_nil, or_false] at hu; rcases hu with rfl | rfl | rfl <;> rfl) (Nat.le_of_ble_eq_true rfl) ([.slice A4 t3.length c5, .slice A7 t6.length c8, .slice A10 t9.length c11]) rfl) ?_
  intro w1 hS
  refine DJ.nil (EJ.next ?_)
  refine CJ.ret (?_)
  obtain rfl := Option.some.inj H
  exact EJ.fin rfl (.cell rfl (ldN tU_ok tI_ok rfl rfl rfl (hS.cells (i := 1) rfl) (ds := [.slice A4 t3.length c5, .slice A7 t6.length c8, .slice A10 t9.length c11]) rfl rfl) .nil) ⟨A4, c5, A7, c8, A10, c11, rfl, hS.pick [2, 3, 4] [] rfl⟩

def impl_JoinHerds.l1 (a0 : Herd) (a1 : Herd) : Nat → (List ByteArray) → (List Int) → (List Int) → Int → Option ((List ByteArray) × (List Int) × (List Int))
  | 0, _, _, _, _ => none
  | k + 1, y27, y30, y33, y36 => if y36 < (a1.Names.length : Int) then ((getI a1.Names y36).bind fun t37 => (getI a1.Eats y36).bind fun t38 => (chk (y27.length + ([t37] : List ByteArray).length ≤ 4294967296)).bind fun u40 => (chk (y30.length + ([t38] : List Int).length ≤ 4294967296)).bind fun u44 => (getI a1.Foes y36).bind fun t64 => (chk (0 ≤ (a0.Names.length : Int))).bind fun u65 => (chk (y33.length + ([shlI .u16 t64 (a0.Names.length : Int)] : List Int).length ≤ 4294967296)).bind fun u67 => impl_JoinHerds.l1 a0 a1 k (y27 ++ ([t37] : List ByteArray)) (y30 ++ ([t38] : List Int)) (y33 ++ ([shlI .u16 t64 (a0.Names.length : Int)] : List Int)) (IntKind.i64.wrap (y36 + 1))) else (some (y27, y30, y33))
def impl_JoinHerds.f (k : Nat) (a0 : Herd) (a1 : Herd) : Option (Herd × Int) := ((impl_ValidHerd.f k a0).bind fun t5 => if (!t5) = true then (some true) else ((impl_ValidHerd.f k a1).bind fun t6 => some (!t6))).bind fun y4 => if y4 = true then (some ((⟨[], [], []⟩ : Herd), 1)) else ((slices_ContainsFunc_string_string.f k a0.Names (impl_JoinHerds_1.f k a1)).bind fun t7 => if t7 = true then (some ((⟨[], [], []⟩ : Herd), 4)) else ((impl_Herd_many.f a0).bind fun t8 => (impl_Herd_many.f a1).bind fun t9 => if 14 < (IntKind.i64.wrap (t8 + t9)) then (some ((⟨[], [], []⟩ : Herd), 3)) else ((impl_Herd_own.f a0).bind fun t10 => (impl_JoinHerds.l1 a0 a1 k t10.Names t10.Eats t10.Foes 0).bind fun (y18, y21, y24) => some ((⟨y18, y21, y24⟩ : Herd), 0))))
theorem impl_JoinHerds.c (k : Nat) (w : World) (Aa0_0 : Option Addr) (ca0_0 : Nat) (Aa0_1 : Option Addr) (ca0_1 : Nat) (Aa0_2 : Option Addr) (ca0_2 : Nat) (a0 : Herd) (hr0_0 : Rd G.cs w Aa0_0 a0.Names) (hc0_0 : a0.Names.length ≤ ca0_0) (hr0_1 : Rd (ci .i16) w Aa0_1 a0.Eats) (hc0_1 : a0.Eats.length ≤ ca0_1) (hr0_2 : Rd (ci .u16) w Aa0_2 a0.Foes) (hc0_2 : a0.Foes.length ≤ ca0_2) (Aa1_0 : Option Addr) (ca1_0 : Nat) (Aa1_1 : Option Addr) (ca1_1 : Nat) (Aa1_2 : Option Addr) (ca1_2 : Nat) (a1 : Herd) (hr1_0 : Rd G.cs w Aa1_0 a1.Names) (hc1_0 : a1.Names.length ≤ ca1_0) (hr1_1 : Rd (ci .i16) w Aa1_1 a1.Eats) (hc1_1 : a1.Eats.length ≤ ca1_1) (hr1_2 : Rd (ci .u16) w Aa1_2 a1.Foes) (hc1_2 : a1.Foes.length ≤ ca1_2) (r : Herd × Int) (H : impl_JoinHerds.f k a0 a1 = some r) :
    CV Tryd.prog 38 [.agg [.slice Aa0_0 a0.Names.length ca0_0, .slice Aa0_1 a0.Eats.length ca0_1, .slice Aa0_2 a0.Foes.length ca0_2].toArray, .agg [.slice Aa1_0 a1.Names.length ca1_0, .slice Aa1_1 a1.Eats.length ca1_1, .slice Aa1_2 a1.Foes.length ca1_2].toArray].toArray w fun v w' => ∃ (A0_0 : Option Addr) (c0_0 : Nat) (A0_1 : Option Addr) (c0_1 : Nat) (A0_2 : Option Addr) (c0_2 : Nat), v = .tuple #[.agg [.slice A0_0 r.1.Names.length c0_0, .slice A0_1 r.1.Eats.length c0_1, .slice A0_2 r.1.Foes.length c0_2].toArray, .int .i64 r.2] ∧ St w no w' [rowC G.cs A0_0 c0_0 9 r.1.Names, rowC (ci .i16) A0_1 c0_1 73 r.1.Eats, rowC (ci .u16) A0_2 c0_2 74 r.1.Foes] [] := by
  have hS := (((((((St.init w no).param G.cs Aa0_0 ca0_0 a0.Names hr0_0 hc0_0).param (ci .i16) Aa0_1 ca0_1 a0.Eats hr0_1 hc0_1).param (ci .u16) Aa0_2 ca0_2 a0.Foes hr0_2 hc0_2).param G.cs Aa1_0 ca1_0 a1.Names hr1_0 hc1_0).param (ci .i16) Aa1_1 ca1_1 a1.Eats hr1_1 hc1_1).param (ci .u16) Aa1_2 ca1_2 a1.Foes hr1_2 hc1_2)
  unfold impl_JoinHerds.f at H
  refine CV.body Tryd.func38 rfl Tryd.ntmps38 rfl ?_
  refine CJ.seq ?_
  refine CJ.region ?_
  refine OJ.ef rfl rfl rfl (Ef.box hS rfl rfl ([.slice Aa0_0 a0.Names.length ca0_0, .slice Aa0_1 a0.Eats.length ca0_1, .slice Aa0_2 a0.Foes.length ca0_2]) rfl) ?_
  rintro _ w1 ⟨b1, rfl, hS⟩
  refine OJ.ef rfl rfl rfl (Ef.box hS rfl rfl ([.slice Aa1_0 a1.Names.length ca1_0, .slice Aa1_1 a1.Eats.length ca1_1, .slice Aa1_2 a1.Foes.length ca1_2]) rfl) ?_
  rintro _ w1 ⟨b2, rfl, hS⟩
  refine OJ.ef rfl rfl rfl (Ef.alloc hS tI_ok rfl rfl ([.slice none 0 0, .slice none 0 0, .slice none 0 0]) rfl) ?_
  rintro _ w1 ⟨b3, rfl, hS⟩
  refine OJ.pures tU_ok 1 rfl ?_
  refine OJ.nil (EJ.next ?_)
  refine CJ.seq ?_
  refine CJ.block ?_
  obtain ⟨j27, H, K27⟩ := pbind H
  refine CJ.cut (fun F w1 => ∃ (y4 : Bool) , (some y4 : Option Bool) = some j27 ∧ F = [(2, .pointer (some ⟨b1, 0, none⟩)), (3, .pointer (some ⟨b2, 0, none⟩)), (4, .pointer (some ⟨b3, 0, none⟩)), (9, .bool y4)] ∧ St w no w1 [box b1 ([.slice Aa0_0 a0.Names.length ca0_0, .slice Aa0_1 a0.Eats.length ca0_1, .slice Aa0_2 a0.Foes.length ca0_2]) 29, box b2 ([.slice Aa1_0 a1.Names.length ca1_0, .slice Aa1_1 a1.Eats.length ca1_1, .slice Aa1_2 a1.Foes.length ca1_2]) 29, box b3 ([.slice none 0 0, .slice none 0 0, .slice none 0 0]) 29] [roC G.cs Aa0_0 ca0_0 a0.Names, roC (ci .i16) Aa0_1 ca0_1 a0.Eats, roC (ci .u16) Aa0_2 ca0_2 a0.Foes, roC G.cs Aa1_0 ca1_0 a1.Names, roC (ci .i16) Aa1_1 ca1_1 a1.Eats, roC (ci .u16) Aa1_2 ca1_2 a1.Foes]) ?_ ?_
  · skip
    refine CJ.region ?_
    refine OJ.st rfl rfl rfl (SR.load rfl rfl (fun w' hx => ldN tU_ok tI_ok rfl rfl rfl (CA.ext (hS.cells (i := 0) rfl) hx) (ds := [.slice Aa0_0 a0.Names.length ca0_0, .slice Aa0_1 a0.Eats.length ca0_1, .slice Aa0_2 a0.Foes.length ca0_2]) rfl rfl)) ?_
    obtain ⟨t5, ht5, H⟩ := pbind H
    refine OJ.callF rfl rfl rfl rfl rfl hb17 rfl (impl_ValidHerd.c k _ Aa0_0 ca0_0 Aa0_1 ca0_1 Aa0_2 ca0_2 a0 (hS.rd' (i := 0) rfl) (hS.le' (i := 0) rfl) (hS.rd' (i := 1) rfl) (hS.le' (i := 1) rfl) (hS.rd' (i := 2) rfl) (hS.le' (i := 2) rfl) _ ht5) ?_
    rintro _ w1 ⟨rfl, hs⟩
    replace hS := hS.grow hs
    refine OJ.pures tU_ok 2 rfl ?_
    refine OJ.split (t := 13) rfl (fun hb => ?_) (fun hb => ?_)
    · replace H := pif_t hb H
      refine OJ.pures tU_ok 5 rfl ?_
      refine OJ.nil ?_
      exact EJ.meet (F' := [(2, .pointer (some ⟨b1, 0, none⟩)), (3, .pointer (some ⟨b2, 0, none⟩)), (4, .pointer (some ⟨b3, 0, none⟩)), (9, .bool true)]) ⟨rfl, rfl, rfl, rfl, trivial⟩ ⟨true, H, rfl, hS.pick [0, 1, 2] [0, 1, 2, 3, 4, 5] rfl⟩
    · replace H := pifb_f hb H
      refine OJ.st rfl rfl rfl (SR.load rfl rfl (fun w' hx => ldN tU_ok tI_ok rfl rfl rfl (CA.ext (hS.cells (i := 1) rfl) hx) (ds := [.slice Aa1_0 a1.Names.length ca1_0, .slice Aa1_1 a1.Eats.length ca1_1, .slice Aa1_2 a1.Foes.length ca1_2]) rfl rfl)) ?_
      obtain ⟨t6, ht6, H⟩ := pbind H
      refine OJ.callF rfl rfl rfl rfl rfl hb17 rfl (impl_ValidHerd.c k _ Aa1_0 ca1_0 Aa1_1 ca1_1 Aa1_2 ca1_2 a1 (hS.rd' (i := 3) rfl) (hS.le' (i := 3) rfl) (hS.rd' (i := 4) rfl) (hS.le' (i := 4) rfl) (hS.rd' (i := 5) rfl) (hS.le' (i := 5) rfl) _ ht6) ?_
      rintro _ w1 ⟨rfl, hs⟩
      replace hS := hS.grow hs
      refine OJ.pures tU_ok 3 rfl ?_
      refine OJ.nil ?_
      exact EJ.meet (F' := [(2, .pointer (some ⟨b1, 0, none⟩)), (3, .pointer (some ⟨b2, 0, none⟩)), (4, .pointer (some ⟨b3, 0, none⟩)), (9, .bool (!t6))]) ⟨rfl, rfl, rfl, rfl, trivial⟩ ⟨(!t6), H, rfl, hS.pick [0, 1, 2] [0, 1, 2, 3, 4, 5] rfl⟩
  · rintro F w1 ⟨y4, he, rfl, hS⟩
    obtain rfl := Option.some.inj he
    have H := K27
    refine CJ.cond rfl (fun hb => ?_) (fun hb => ?_)
    · replace H := pif_t hb H
      refine CJ.seq ?_
      refine CJ.region ?_
      refine OJ.st rfl rfl rfl (SR.build' tU_ok tI_ok rfl rfl rfl (zs := [.slice none 0 0, .slice none 0 0, .slice none 0 0]) rfl rfl rfl ([.slice none 0 0, .slice none 0 0, .slice none 0 0]) rfl) ?_
      refine OJ.es rfl rfl (Es.store tI_ok hS (i := 2) (vs := [.slice none 0 0, .slice none 0 0, .slice none 0 0]) rfl rfl rfl rfl rfl rfl rfl rfl (by intro u hu; simp only [List.mem_cons, List.not_mem_nil, or_false] at hu; rcases hu with rfl | rfl | rfl <;> rfl) (Nat.le_of_ble_eq_true rfl) ([.slice none 0 0, .slice none 0 0, .slice none 0 0]) rfl) ?_
      intro w1 hS
      refine OJ.pures tU_ok 1 rfl ?_
      refine OJ.nil (EJ.next ?_)
      refine CJ.ret (EJ.bkR (EJ.skR (?_)))
      replace hS := hS.addNil G.cs 9 none
      replace hS := hS.addNil (ci .i16) 73 none
      replace hS := hS.addNil (ci .u16) 74 none
      obtain rfl := Option.some.inj H
      exact EJ.fin rfl (.cell rfl (ldN tU_ok tI_ok rfl rfl rfl (hS.cells (i := 2) rfl) (ds := [.slice none 0 0, .slice none 0 0, .slice none 0 0]) rfl rfl) (.tmp rfl .nil)) ⟨none, 0, none, 0, none, 0, rfl, hS.pick [3, 4, 5] [] rfl⟩
    · replace H := pifb_f hb H
      refine CJ.seq ?_
      refine CJ.region ?_
      refine OJ.st rfl rfl rfl (SR.fieldAddr tU_ok tI_ok rfl rfl rfl rfl rfl rfl) ?_
      refine OJ.st rfl rfl rfl (SR.load rfl rfl (fun w' hx => ld1 tU_ok rfl rfl (CA.ext (CA.sub (hS.cells (i := 0) rfl) 0) hx) rfl)) ?_
      refine OJ.pures tU_ok 1 rfl ?_
      obtain ⟨t7, ht7, H⟩ := pbind H
      refine OJ.callF rfl rfl rfl rfl rfl hb76 rfl (slices_ContainsFunc_string_string.c k _ Aa0_0 ca0_0 a0.Names (hS.rd' (i := 0) rfl) (hS.le' (i := 0) rfl) 77 #[] #[.pointer (some ⟨b2, 0, none⟩)] hb77 (impl_JoinHerds_1.f k a1) (fun z0 r h w' hx => CV.cast (impl_JoinHerds_1.c k w' Aa1_0 ca1_0 Aa1_1 ca1_1 Aa1_2 ca1_2 a1 ((hS.rd' (i := 3) rfl).ext hx) (hS.le' (i := 3) rfl) ((hS.rd' (i := 4) rfl).ext hx) (hS.le' (i := 4) rfl) ((hS.rd' (i := 5) rfl).ext hx) (hS.le' (i := 5) rfl) ⟨b2, 0, none⟩ (CA.ext (hS.cells (i := 1) rfl) hx)  z0 r h) (by simp)) _ ht7) ?_
      rintro _ w1 ⟨rfl, hs⟩
      replace hS := hS.grow hs
      refine OJ.pures tU_ok 1 rfl ?_
      refine OJ.nil (EJ.next ?_)
      refine CJ.cond rfl (fun hb => ?_) (fun hb => ?_)
      · replace H := pif_t hb H
        refine CJ.seq ?_
        refine CJ.region ?_
        refine OJ.st rfl rfl rfl (SR.build' tU_ok tI_ok rfl rfl rfl (zs := [.slice none 0 0, .slice none 0 0, .slice none 0 0]) rfl rfl rfl ([.slice none 0 0, .slice none 0 0, .slice none 0 0]) rfl) ?_
        refine OJ.es rfl rfl (Es.store tI_ok hS (i := 2) (vs := [.slice none 0 0, .slice none 0 0, .slice none 0 0]) rfl rfl rfl rfl rfl rfl rfl rfl (by intro u hu; simp only [List.mem_cons, List.not_mem_nil, or_false] at hu; rcases hu with rfl | rfl | rfl <;> rfl) (Nat.le_of_ble_eq_true rfl) ([.slice none 0 0, .slice none 0 0, .slice none 0 0]) rfl) ?_
        intro w1 hS
        refine OJ.pures tU_ok 1 rfl ?_
        refine OJ.nil (EJ.next ?_)
        refine CJ.ret (EJ.bkR (EJ.skR (?_)))
        replace hS := hS.addNil G.cs 9 none
        replace hS := hS.addNil (ci .i16) 73 none
        replace hS := hS.addNil (ci .u16) 74 none
        obtain rfl := Option.some.inj H
        exact EJ.fin rfl (.cell rfl (ldN tU_ok tI_ok rfl rfl rfl (hS.cells (i := 2) rfl) (ds := [.slice none 0 0, .slice none 0 0, .slice none 0 0]) rfl rfl) (.tmp rfl .nil)) ⟨none, 0, none, 0, none, 0, rfl, hS.pick [3, 4, 5] [] rfl⟩
      · replace H := pifb_f hb H
        refine CJ.seq ?_
        refine CJ.draw [] [0, 2, 1, 3, 4, 5, 6] mixed (by kernel_rfl) hS fun w1 hS => ?_
        refine DJ.st rfl rfl rfl rfl rfl (SR.load rfl rfl (fun w' hx => ldN tU_ok tI_ok rfl rfl rfl (CA.ext (hS.cells (i := 0) rfl) hx) (ds := [.slice Aa0_0 a0.Names.length ca0_0, .slice Aa0_1 a0.Eats.length ca0_1, .slice Aa0_2 a0.Foes.length ca0_2]) rfl rfl)) ?_
        refine DJ.st rfl rfl rfl rfl rfl (SR.load rfl rfl (fun w' hx => ldN tU_ok tI_ok rfl rfl rfl (CA.ext (hS.cells (i := 1) rfl) hx) (ds := [.slice Aa1_0 a1.Names.length ca1_0, .slice Aa1_1 a1.Eats.length ca1_1, .slice Aa1_2 a1.Foes.length ca1_2]) rfl rfl)) ?_
        obtain ⟨t8, ht8, H⟩ := pbind H
        refine DJ.callF rfl rfl rfl rfl rfl rfl rfl hb78 rfl (impl_Herd_many.c _ Aa0_0 ca0_0 Aa0_1 ca0_1 Aa0_2 ca0_2 a0 (hS.rd' (i := 0) rfl) (hS.le' (i := 0) rfl) (hS.rd' (i := 1) rfl) (hS.le' (i := 1) rfl) (hS.rd' (i := 2) rfl) (hS.le' (i := 2) rfl) _ ht8) (by rintro v w' ⟨rfl, hs⟩; exact hs) ?_
        rintro _ w1 ⟨rfl, hs⟩
        replace hS := hS.grow hs
        obtain ⟨t9, ht9, H⟩ := pbind H
        refine DJ.callF rfl rfl rfl rfl rfl rfl rfl hb78 rfl (impl_Herd_many.c _ Aa1_0 ca1_0 Aa1_1 ca1_1 Aa1_2 ca1_2 a1 (hS.rd' (i := 3) rfl) (hS.le' (i := 3) rfl) (hS.rd' (i := 4) rfl) (hS.le' (i := 4) rfl) (hS.rd' (i := 5) rfl) (hS.le' (i := 5) rfl) _ ht9) (by rintro v w' ⟨rfl, hs⟩; exact hs) ?_
        rintro _ w1 ⟨rfl, hs⟩
        replace hS := hS.grow hs
        refine DJ.pures tU_ok 3 rfl ?_
        refine DJ.nil (EJ.next ?_)
        refine CJ.cond rfl (fun hb => ?_) (fun hb => ?_)
        · replace H := pif_t (of_decide_eq_true hb) H
          refine CJ.seq ?_
          refine CJ.region ?_
          refine OJ.st rfl rfl rfl (SR.build' tU_ok tI_ok rfl rfl rfl (zs := [.slice none 0 0, .slice none 0 0, .slice none 0 0]) rfl rfl rfl ([.slice none 0 0, .slice none 0 0, .slice none 0 0]) rfl) ?_
          refine OJ.es rfl rfl (Es.store tI_ok hS (i := 2) (vs := [.slice none 0 0, .slice none 0 0, .slice none 0 0]) rfl rfl rfl rfl rfl rfl rfl rfl (by intro u hu; simp only [List.mem_cons, List.not_mem_nil, or_false] at hu; rcases hu with rfl | rfl | rfl <;> rfl) (Nat.le_of_ble_eq_true rfl) ([.slice none 0 0, .slice none 0 0, .slice none 0 0]) rfl) ?_
          intro w1 hS
          refine OJ.pures tU_ok 1 rfl ?_
          refine OJ.nil (EJ.next ?_)
          refine CJ.ret (EJ.bkR (EJ.skR (?_)))
          replace hS := hS.addNil G.cs 9 none
          replace hS := hS.addNil (ci .i16) 73 none
          replace hS := hS.addNil (ci .u16) 74 none
          obtain rfl := Option.some.inj H
          exact EJ.fin rfl (.cell rfl (ldN tU_ok tI_ok rfl rfl rfl (hS.cells (i := 2) rfl) (ds := [.slice none 0 0, .slice none 0 0, .slice none 0 0]) rfl rfl) (.tmp rfl .nil)) ⟨none, 0, none, 0, none, 0, rfl, hS.pick [3, 4, 5] [] rfl⟩
        · replace H := pif_f (of_decide_eq_false hb) H
          refine CJ.skip (EJ.blk (EJ.next ?_))
          refine CJ.seq ?_
          refine CJ.region ?_
          refine OJ.st rfl rfl rfl (SR.load rfl rfl (fun w' hx => ldN tU_ok tI_ok rfl rfl rfl (CA.ext (hS.cells (i := 0) rfl) hx) (ds := [.slice Aa0_0 a0.Names.length ca0_0, .slice Aa0_1 a0.Eats.length ca0_1, .slice Aa0_2 a0.Foes.length ca0_2]) rfl rfl)) ?_
          obtain ⟨t10, ht10, H⟩ := pbind H
          refine OJ.callF rfl rfl rfl rfl rfl hb79 rfl (impl_Herd_own.c _ Aa0_0 ca0_0 Aa0_1 ca0_1 Aa0_2 ca0_2 a0 (hS.rd' (i := 0) rfl) (hS.le' (i := 0) rfl) (hS.rd' (i := 1) rfl) (hS.le' (i := 1) rfl) (hS.rd' (i := 2) rfl) (hS.le' (i := 2) rfl) _ ht10) ?_
          rintro _ w1 ⟨A11, c12, A13, c14, A15, c16, rfl, hs⟩
          replace hS := hS.addN hs
          have hS : St w no w1 [box b1 ([.slice Aa0_0 a0.Names.length ca0_0, .slice Aa0_1 a0.Eats.length ca0_1, .slice Aa0_2 a0.Foes.length ca0_2]) 29, box b2 ([.slice Aa1_0 a1.Names.length ca1_0, .slice Aa1_1 a1.Eats.length ca1_1, .slice Aa1_2 a1.Foes.length ca1_2]) 29, box b3 ([.slice none 0 0, .slice none 0 0, .slice none 0 0]) 29, rowC G.cs A11 c12 9 t10.Names, rowC (ci .i16) A13 c14 73 t10.Eats, rowC (ci .u16) A15 c16 74 t10.Foes] [roC G.cs Aa0_0 ca0_0 a0.Names, roC (ci .i16) Aa0_1 ca0_1 a0.Eats, roC (ci .u16) Aa0_2 ca0_2 a0.Foes, roC G.cs Aa1_0 ca1_0 a1.Names, roC (ci .i16) Aa1_1 ca1_1 a1.Eats, roC (ci .u16) Aa1_2 ca1_2 a1.Foes] := hS
          refine OJ.ef rfl rfl rfl (Ef.alloc hS tI_ok rfl rfl ([.slice none 0 0, .slice none 0 0, .slice none 0 0]) rfl) ?_
          rintro _ w1 ⟨b17, rfl, hS⟩
          refine OJ.es rfl rfl (Es.store tI_ok hS (i := 6) (vs := [.slice A11 t10.Names.length c12, .slice A13 t10.Eats.length c14, .slice A15 t10.Foes.length c16]) rfl rfl rfl rfl rfl rfl rfl rfl (by intro u hu; simp only [List.mem_cons, List.not_mem_nil, or_false] at hu; rcases hu with rfl | rfl | rfl <;> rfl) (Nat.le_of_ble_eq_true rfl) ([.slice A11 t10.Names.length c12, .slice A13 t10.Eats.length c14, .slice A15 t10.Foes.length c16]) rfl) ?_
          intro w1 hS
          refine OJ.nil (EJ.next ?_)
          refine CJ.seq ?_
          refine CJ.seq ?_
          refine CJ.region ?_
          refine OJ.st rfl rfl rfl (SR.fieldAddr tU_ok tI_ok rfl rfl rfl rfl rfl rfl) ?_
          refine OJ.st rfl rfl rfl (SR.load rfl rfl (fun w' hx => ld1 tU_ok rfl rfl (CA.ext (CA.sub (hS.cells (i := 1) rfl) 0) hx) rfl)) ?_
          refine OJ.pures tU_ok 2 rfl ?_
          refine OJ.nil (EJ.next ?_)
          obtain ⟨j60, H, K60⟩ := pbind H
          refine CJ.cut1 (fun F w1 => ∃ (y18 : List ByteArray) (y21 : List Int) (y24 : List Int) (A19 : Option Addr) (c20 : Nat) (A22 : Option Addr) (c23 : Nat) (A25 : Option Addr) (c26 : Nat), (some (y18, y21, y24) : Option ((List ByteArray) × (List Int) × (List Int))) = some j60 ∧ F = [(4, .pointer (some ⟨b3, 0, none⟩)), (6, .pointer (some ⟨b17, 0, none⟩))] ∧ St w no w1 [box b3 ([.slice none 0 0, .slice none 0 0, .slice none 0 0]) 29, rowC G.cs A19 c20 9 y18, rowC (ci .i16) A22 c23 73 y21, rowC (ci .u16) A25 c26 74 y24, box b17 ([.slice A19 y18.length c20, .slice A22 y21.length c23, .slice A25 y24.length c26]) 29] [roC G.cs Aa0_0 ca0_0 a0.Names, roC (ci .i16) Aa0_1 ca0_1 a0.Eats, roC (ci .u16) Aa0_2 ca0_2 a0.Foes, roC G.cs Aa1_0 ca1_0 a1.Names, roC (ci .i16) Aa1_1 ca1_1 a1.Eats, roC (ci .u16) Aa1_2 ca1_2 a1.Foes]) ?_ ?_
          · skip
            refine CJ.block ?_
            refine CJ.loop (fun k F w1 => ∃ (y27 : List ByteArray) (y30 : List Int) (y33 : List Int) (y36 : Int) (A28 : Option Addr) (c29 : Nat) (A31 : Option Addr) (c32 : Nat) (A34 : Option Addr) (c35 : Nat), F = [(2, .pointer (some ⟨b1, 0, none⟩)), (3, .pointer (some ⟨b2, 0, none⟩)), (4, .pointer (some ⟨b3, 0, none⟩)), (6, .pointer (some ⟨b17, 0, none⟩)), (36, .slice Aa1_0 a1.Names.length ca1_0), (37, .int .i64 (a1.Names.length : Int)), (38, .int .i64 y36)] ∧ St w no w1 [box b1 ([.slice Aa0_0 a0.Names.length ca0_0, .slice Aa0_1 a0.Eats.length ca0_1, .slice Aa0_2 a0.Foes.length ca0_2]) 29, box b2 ([.slice Aa1_0 a1.Names.length ca1_0, .slice Aa1_1 a1.Eats.length ca1_1, .slice Aa1_2 a1.Foes.length ca1_2]) 29, box b3 ([.slice none 0 0, .slice none 0 0, .slice none 0 0]) 29, rowC G.cs A28 c29 9 y27, rowC (ci .i16) A31 c32 73 y30, rowC (ci .u16) A34 c35 74 y33, box b17 ([.slice A28 y27.length c29, .slice A31 y30.length c32, .slice A34 y33.length c35]) 29] [roC G.cs Aa0_0 ca0_0 a0.Names, roC (ci .i16) Aa0_1 ca0_1 a0.Eats, roC (ci .u16) Aa0_2 ca0_2 a0.Foes, roC G.cs Aa1_0 ca1_0 a1.Names, roC (ci .i16) Aa1_1 ca1_1 a1.Eats, roC (ci .u16) Aa1_2 ca1_2 a1.Foes] ∧ impl_JoinHerds.l1 a0 a1 k y27 y30 y33 y36 = some j60) k (F' := [(2, .pointer (some ⟨b1, 0, none⟩)), (3, .pointer (some ⟨b2, 0, none⟩)), (4, .pointer (some ⟨b3, 0, none⟩)), (6, .pointer (some ⟨b17, 0, none⟩)), (36, .slice Aa1_0 a1.Names.length ca1_0), (37, .int .i64 (a1.Names.length : Int)), (38, .int .i64 0)]) ⟨rfl, rfl, rfl, rfl, rfl, rfl, rfl, trivial⟩ ⟨t10.Names, t10.Eats, t10.Foes, 0, A11, c12, A13, c14, A15, c16, rfl, hS.pick [0, 1, 2, 3, 4, 5, 6] [0, 1, 2, 3, 4, 5] rfl, H⟩ ?_
            rintro k F w1 ⟨y27, y30, y33, y36, A28, c29, A31, c32, A34, c35, rfl, hS, H⟩
            cases k with
            | zero => rw [impl_JoinHerds.l1] at H; cases H
            | succ k =>
              rw [impl_JoinHerds.l1] at H
              refine CJ.seq ?_
              refine CJ.region ?_
              refine OJ.pures tU_ok 1 rfl ?_
              refine OJ.nil (EJ.next ?_)
              refine CJ.seq ?_
              refine CJ.cond rfl (fun hb => ?_) (fun hb => ?_)
              · replace H := pif_t (of_decide_eq_true hb) H
                refine CJ.skip (EJ.next ?_)
                refine CJ.seq ?_
                refine CJ.block ?_
                refine CJ.seq ?_
                refine CJ.region ?_
                refine OJ.pures tU_ok 1 rfl ?_
                obtain ⟨t37, ht37, H⟩ := pbind H
                obtain ⟨ad37, e37⟩ := (hS.rd' (i := 3) rfl).some' ht37
                refine OJ.st rfl rfl rfl (SR.idxS tU_ok tI_ok rfl rfl rfl rfl e37 rfl (getI_some ht37).1) ?_
                refine OJ.st rfl rfl rfl (SR.load rfl rfl (fun w' hx => ld1 tU_ok rfl rfl (CA.ext ((hS.rd' (i := 3) rfl).at_ e37 ht37) hx) rfl)) ?_
                refine OJ.pures tU_ok 2 rfl ?_
                refine OJ.nil (EJ.next ?_)
                refine CJ.seq ?_
                obtain ⟨t38, ht38, H⟩ := pbind H
                obtain ⟨u40, hu40, H⟩ := pbind H
                obtain ⟨u44, hu44, H⟩ := pbind H
                refine CJ.cut1 (fun F w1 => ∃ (A39 : Option Addr) (A41 : Option Addr) (c42 : Nat) (A43 : Option Addr) (A45 : Option Addr) (c46 : Nat), F = [(2, .pointer (some ⟨b1, 0, none⟩)), (3, .pointer (some ⟨b2, 0, none⟩)), (4, .pointer (some ⟨b3, 0, none⟩)), (6, .pointer (some ⟨b17, 0, none⟩)), (7, .int .i64 y36), (36, .slice Aa1_0 a1.Names.length ca1_0), (37, .int .i64 (a1.Names.length : Int)), (38, .int .i64 y36)] ∧ St w no w1 [box b1 ([.slice Aa0_0 a0.Names.length ca0_0, .slice Aa0_1 a0.Eats.length ca0_1, .slice Aa0_2 a0.Foes.length ca0_2]) 29, box b2 ([.slice Aa1_0 a1.Names.length ca1_0, .slice Aa1_1 a1.Eats.length ca1_1, .slice Aa1_2 a1.Foes.length ca1_2]) 29, box b3 ([.slice none 0 0, .slice none 0 0, .slice none 0 0]) 29, rowC G.cs A41 c42 9 (y27 ++ ([t37] : List ByteArray)), rowC (ci .i16) A45 c46 73 (y30 ++ ([t38] : List Int)), rowC (ci .u16) A34 c35 74 y33, box b17 ([.slice A41 (y27 ++ ([t37] : List ByteArray)).length c42, .slice A45 (y30 ++ ([t38] : List Int)).length c46, .slice A34 y33.length c35]) 29, rowC G.cs A39 (([t37] : List ByteArray).length) 9 ([t37] : List ByteArray), rowC (ci .i16) A43 (([t38] : List Int).length) 73 ([t38] : List Int)] [roC G.cs Aa0_0 ca0_0 a0.Names, roC (ci .i16) Aa0_1 ca0_1 a0.Eats, roC (ci .u16) Aa0_2 ca0_2 a0.Foes, roC G.cs Aa1_0 ca1_0 a1.Names, roC (ci .i16) Aa1_1 ca1_1 a1.Eats, roC (ci .u16) Aa1_2 ca1_2 a1.Foes]) ?_ ?_
                · skip
                  refine CJ.drawT [15, 17] [3, 4, 12, 13] (.one 0 (.one 1 (.one 2 (.one 5 (.one 6 (.one 7 (.one 8 (.one 9 (.one 10 (.one 11 (.br (.alt 3 (.br (.alt 4 (.one 14 (.one 12 (.one 13 (.one 15 (.one 16 (.one 17 (.fin))))))) (.alt 12 (.one 4 (.one 14 (.one 13 (.one 15 (.one 16 (.one 17 (.fin))))))) (.stop)))) (.alt 12 (.one 3 (.one 4 (.one 14 (.one 13 (.one 15 (.one 16 (.one 17 (.fin)))))))) (.stop)))))))))))))) mixed (by kernel_rfl) hS [1, 6] fun w1 hS hY hV => ?_
                  refine TJ.sp rfl rfl rfl rfl rfl (fun w2 => SR.fieldAddr tU_ok tI_ok rfl rfl rfl rfl rfl rfl) ?_
                  refine TJ.st hY rfl rfl rfl rfl rfl (fun w2 hY => SR.load rfl rfl (fun w' hx => ld1 tU_ok rfl rfl (CA.ext (CA.sub ((hV w2 hY).cellsR (i := 7) rfl) 0) hx) rfl)) ?_
                  refine TJ.pures tU_ok 1 rfl ?_
                  refine TJ.sp rfl rfl rfl rfl rfl (fun w2 => SR.fieldAddr tU_ok tI_ok rfl rfl rfl rfl rfl rfl) ?_
                  refine TJ.st hY rfl rfl rfl rfl rfl (fun w2 hY => SR.load rfl rfl (fun w' hx => ld1 tU_ok rfl rfl (CA.ext (CA.sub ((hV w2 hY).cellsR (i := 7) rfl) 1) hx) rfl)) ?_
                  refine TJ.sp rfl rfl rfl rfl rfl (fun w2 => SR.fieldAddr tU_ok tI_ok rfl rfl rfl rfl rfl rfl) ?_
                  refine TJ.st hY rfl rfl rfl rfl rfl (fun w2 hY => SR.load rfl rfl (fun w' hx => ld1 tU_ok rfl rfl (CA.ext (CA.sub ((hV w2 hY).cellsR (i := 6) rfl) 1) hx) rfl)) ?_
                  refine TJ.pures tU_ok 1 rfl ?_
                  obtain ⟨ad38, e38⟩ := (hS.rd' (i := 4) rfl).some' ht38
                  refine TJ.sp rfl rfl rfl rfl rfl (fun w2 => SR.idxS tU_ok tI_ok rfl rfl rfl rfl e38 rfl (getI_some ht38).1) ?_
                  refine TJ.st hY rfl rfl rfl rfl rfl (fun w2 hY => SR.load rfl rfl (fun w' hx => ld1 tU_ok rfl rfl (CA.ext (((hV w2 hY).rd' (i := 4) rfl).at_ e38 ht38) hx) rfl)) ?_
                  refine TJ.br ?_
                  refine TJ.alt ?_ ?_
                  · skip
                    refine TJ.ef hY rfl rfl rfl rfl rfl (Ef.lit tU_ok tI_ok hS (C := G.cs) rfl rfl rfl rfl rfl rfl ([t37] : List ByteArray) rfl rfl rfl rfl) ?_
                    rintro _ w1 hY ⟨A47, rfl, hS⟩
                    refine TJ.br ?_
                    refine TJ.alt ?_ ?_
                    · skip
                      have hO := hS
                      refine TJ.ew rfl rfl rfl rfl rfl (Ew.append tU_ok tI_ok (C := G.cs) (xs := y27) (ys := ([t37] : List ByteArray)) (hS.inn [1, 6]) (i := 3) rfl rfl rfl rfl rfl rfl rfl rfl rfl rfl rfl rfl rfl (hS.rd (i := 7) rfl) (chk_some hu40)) (by rintro _ w1 ⟨A48, c49, rfl, hS⟩; exact hY.wr (hO.inY [1, 6] 6 rfl rfl) hS.chg) ?_
                      rintro _ w1 hY ⟨A48, c49, rfl, hS⟩
                      have hS : St w no w1 [box b1 ([.slice Aa0_0 a0.Names.length ca0_0, .slice Aa0_1 a0.Eats.length ca0_1, .slice Aa0_2 a0.Foes.length ca0_2]) 29, box b2 ([.slice Aa1_0 a1.Names.length ca1_0, .slice Aa1_1 a1.Eats.length ca1_1, .slice Aa1_2 a1.Foes.length ca1_2]) 29, box b3 ([.slice none 0 0, .slice none 0 0, .slice none 0 0]) 29, rowC G.cs A48 c49 9 (y27 ++ ([t37] : List ByteArray)), rowC (ci .i16) A31 c32 73 y30, rowC (ci .u16) A34 c35 74 y33, box b17 ([.slice A28 y27.length c29, .slice A31 y30.length c32, .slice A34 y33.length c35]) 29, rowC G.cs A47 (([t37] : List ByteArray).length) 9 ([t37] : List ByteArray)] [roC G.cs Aa0_0 ca0_0 a0.Names, roC (ci .i16) Aa0_1 ca0_1 a0.Eats, roC (ci .u16) Aa0_2 ca0_2 a0.Foes, roC G.cs Aa1_0 ca1_0 a1.Names, roC (ci .i16) Aa1_1 ca1_1 a1.Eats, roC (ci .u16) Aa1_2 ca1_2 a1.Foes] := hO.out [1, 6] hS
                      refine TJ.sp rfl rfl rfl rfl rfl (fun w2 => SR.fieldAddr tU_ok tI_ok rfl rfl rfl rfl rfl rfl) ?_
                      refine TJ.ef hY rfl rfl rfl rfl rfl (Ef.lit tU_ok tI_ok hS (C := (ci .i16)) rfl rfl rfl rfl rfl rfl ([t38] : List Int) rfl rfl rfl rfl) ?_
                      rintro _ w1 hY ⟨A50, rfl, hS⟩
                      have hO := hS
                      refine TJ.ew rfl rfl rfl rfl rfl (Ew.append tU_ok tI_ok (C := (ci .i16)) (xs := y30) (ys := ([t38] : List Int)) (hS.inn [1, 6]) (i := 4) rfl rfl rfl rfl rfl rfl rfl rfl rfl rfl rfl rfl rfl (hS.rd (i := 8) rfl) (chk_some hu44)) (by rintro _ w1 ⟨A51, c52, rfl, hS⟩; exact hY.wr (hO.inY [1, 6] 6 rfl rfl) hS.chg) ?_
                      rintro _ w1 hY ⟨A51, c52, rfl, hS⟩
                      have hS : St w no w1 [box b1 ([.slice Aa0_0 a0.Names.length ca0_0, .slice Aa0_1 a0.Eats.length ca0_1, .slice Aa0_2 a0.Foes.length ca0_2]) 29, box b2 ([.slice Aa1_0 a1.Names.length ca1_0, .slice Aa1_1 a1.Eats.length ca1_1, .slice Aa1_2 a1.Foes.length ca1_2]) 29, box b3 ([.slice none 0 0, .slice none 0 0, .slice none 0 0]) 29, rowC G.cs A48 c49 9 (y27 ++ ([t37] : List ByteArray)), rowC (ci .i16) A51 c52 73 (y30 ++ ([t38] : List Int)), rowC (ci .u16) A34 c35 74 y33, box b17 ([.slice A28 y27.length c29, .slice A31 y30.length c32, .slice A34 y33.length c35]) 29, rowC G.cs A47 (([t37] : List ByteArray).length) 9 ([t37] : List ByteArray), rowC (ci .i16) A50 (([t38] : List Int).length) 73 ([t38] : List Int)] [roC G.cs Aa0_0 ca0_0 a0.Names, roC (ci .i16) Aa0_1 ca0_1 a0.Eats, roC (ci .u16) Aa0_2 ca0_2 a0.Foes, roC G.cs Aa1_0 ca1_0 a1.Names, roC (ci .i16) Aa1_1 ca1_1 a1.Eats, roC (ci .u16) Aa1_2 ca1_2 a1.Foes] := hO.out [1, 6] hS
                      refine TJ.esb rfl rfl rfl rfl (Es.store tI_ok hS (i := 6) (vs := [.slice A48 (y27 ++ ([t37] : List ByteArray)).length c49]) rfl rfl rfl (ad1 _ _) rfl rfl rfl rfl (one1 rfl) (Nat.le_of_ble_eq_true rfl) ([.slice A48 (y27 ++ ([t37] : List ByteArray)).length c49, .slice A31 y30.length c32, .slice A34 y33.length c35]) rfl) ?_
                      intro w1 hS
                      refine TJ.sp rfl rfl rfl rfl rfl (fun w2 => SR.fieldAddr tU_ok tI_ok rfl rfl rfl rfl rfl rfl) ?_
                      refine TJ.esb rfl rfl rfl rfl (Es.store tI_ok hS (i := 6) (vs := [.slice A51 (y30 ++ ([t38] : List Int)).length c52]) rfl rfl rfl (ad1 _ _) rfl rfl rfl rfl (one1 rfl) (Nat.le_of_ble_eq_true rfl) ([.slice A48 (y27 ++ ([t37] : List ByteArray)).length c49, .slice A51 (y30 ++ ([t38] : List Int)).length c52, .slice A34 y33.length c35]) rfl) ?_
                      intro w1 hS
                      refine TJ.nil ?_
                      exact EJ.meet (F' := [(2, .pointer (some ⟨b1, 0, none⟩)), (3, .pointer (some ⟨b2, 0, none⟩)), (4, .pointer (some ⟨b3, 0, none⟩)), (6, .pointer (some ⟨b17, 0, none⟩)), (7, .int .i64 y36), (36, .slice Aa1_0 a1.Names.length ca1_0), (37, .int .i64 (a1.Names.length : Int)), (38, .int .i64 y36)]) ⟨rfl, rfl, rfl, rfl, rfl, rfl, rfl, rfl, trivial⟩ ⟨A47, A48, c49, A50, A51, c52, rfl, hS.pick [0, 1, 2, 3, 4, 5, 6, 7, 8] [0, 1, 2, 3, 4, 5] rfl⟩
                    refine TJ.alt ?_ ?_
                    · skip
                      refine TJ.ef hY rfl rfl rfl rfl rfl (Ef.lit tU_ok tI_ok hS (C := (ci .i16)) rfl rfl rfl rfl rfl rfl ([t38] : List Int) rfl rfl rfl rfl) ?_
                      rintro _ w1 hY ⟨A53, rfl, hS⟩
                      have hO := hS
                      refine TJ.ew rfl rfl rfl rfl rfl (Ew.append tU_ok tI_ok (C := G.cs) (xs := y27) (ys := ([t37] : List ByteArray)) (hS.inn [1, 6]) (i := 3) rfl rfl rfl rfl rfl rfl rfl rfl rfl rfl rfl rfl rfl (hS.rd (i := 7) rfl) (chk_some hu40)) (by rintro _ w1 ⟨A54, c55, rfl, hS⟩; exact hY.wr (hO.inY [1, 6] 6 rfl rfl) hS.chg) ?_
                      rintro _ w1 hY ⟨A54, c55, rfl, hS⟩
                      have hS : St w no w1 [box b1 ([.slice Aa0_0 a0.Names.length ca0_0, .slice Aa0_1 a0.Eats.length ca0_1, .slice Aa0_2 a0.Foes.length ca0_2]) 29, box b2 ([.slice Aa1_0 a1.Names.length ca1_0, .slice Aa1_1 a1.Eats.length ca1_1, .slice Aa1_2 a1.Foes.length ca1_2]) 29, box b3 ([.slice none 0 0, .slice none 0 0, .slice none 0 0]) 29, rowC G.cs A54 c55 9 (y27 ++ ([t37] : List ByteArray)), rowC (ci .i16) A31 c32 73 y30, rowC (ci .u16) A34 c35 74 y33, box b17 ([.slice A28 y27.length c29, .slice A31 y30.length c32, .slice A34 y33.length c35]) 29, rowC G.cs A47 (([t37] : List ByteArray).length) 9 ([t37] : List ByteArray), rowC (ci .i16) A53 (([t38] : List Int).length) 73 ([t38] : List Int)] [roC G.cs Aa0_0 ca0_0 a0.Names, roC (ci .i16) Aa0_1 ca0_1 a0.Eats, roC (ci .u16) Aa0_2 ca0_2 a0.Foes, roC G.cs Aa1_0 ca1_0 a1.Names, roC (ci .i16) Aa1_1 ca1_1 a1.Eats, roC (ci .u16) Aa1_2 ca1_2 a1.Foes] := hO.out [1, 6] hS
                      refine TJ.sp rfl rfl rfl rfl rfl (fun w2 => SR.fieldAddr tU_ok tI_ok rfl rfl rfl rfl rfl rfl) ?_
                      have hO := hS
                      refine TJ.ew rfl rfl rfl rfl rfl (Ew.append tU_ok tI_ok (C := (ci .i16)) (xs := y30) (ys := ([t38] : List Int)) (hS.inn [1, 6]) (i := 4) rfl rfl rfl rfl rfl rfl rfl rfl rfl rfl rfl rfl rfl (hS.rd (i := 8) rfl) (chk_some hu44)) (by rintro _ w1 ⟨A56, c57, rfl, hS⟩; exact hY.wr (hO.inY [1, 6] 6 rfl rfl) hS.chg) ?_
                      rintro _ w1 hY ⟨A56, c57, rfl, hS⟩
                      have hS : St w no w1 [box b1 ([.slice Aa0_0 a0.Names.length ca0_0, .slice Aa0_1 a0.Eats.length ca0_1, .slice Aa0_2 a0.Foes.length ca0_2]) 29, box b2 ([.slice Aa1_0 a1.Names.length ca1_0, .slice Aa1_1 a1.Eats.length ca1_1, .slice Aa1_2 a1.Foes.length ca1_2]) 29, box b3 ([.slice none 0 0, .slice none 0 0, .slice none 0 0]) 29, rowC G.cs A54 c55 9 (y27 ++ ([t37] : List ByteArray)), rowC (ci .i16) A56 c57 73 (y30 ++ ([t38] : List Int)), rowC (ci .u16) A34 c35 74 y33, box b17 ([.slice A28 y27.length c29, .slice A31 y30.length c32, .slice A34 y33.length c35]) 29, rowC G.cs A47 (([t37] : List ByteArray).length) 9 ([t37] : List ByteArray), rowC (ci .i16) A53 (([t38] : List Int).length) 73 ([t38] : List Int)] [roC G.cs Aa0_0 ca0_0 a0.Names, roC (ci .i16) Aa0_1 ca0_1 a0.Eats, roC (ci .u16) Aa0_2 ca0_2 a0.Foes, roC G.cs Aa1_0 ca1_0 a1.Names, roC (ci .i16) Aa1_1 ca1_1 a1.Eats, roC (ci .u16) Aa1_2 ca1_2 a1.Foes] := hO.out [1, 6] hS
                      refine TJ.esb rfl rfl rfl rfl (Es.store tI_ok hS (i := 6) (vs := [.slice A54 (y27 ++ ([t37] : List ByteArray)).length c55]) rfl rfl rfl (ad1 _ _) rfl rfl rfl rfl (one1 rfl) (Nat.le_of_ble_eq_true rfl) ([.slice A54 (y27 ++ ([t37] : List ByteArray)).length c55, .slice A31 y30.length c32, .slice A34 y33.length c35]) rfl) ?_
                      intro w1 hS
                      refine TJ.sp rfl rfl rfl rfl rfl (fun w2 => SR.fieldAddr tU_ok tI_ok rfl rfl rfl rfl rfl rfl) ?_
                      refine TJ.esb rfl rfl rfl rfl (Es.store tI_ok hS (i := 6) (vs := [.slice A56 (y30 ++ ([t38] : List Int)).length c57]) rfl rfl rfl (ad1 _ _) rfl rfl rfl rfl (one1 rfl) (Nat.le_of_ble_eq_true rfl) ([.slice A54 (y27 ++ ([t37] : List ByteArray)).length c55, .slice A56 (y30 ++ ([t38] : List Int)).length c57, .slice A34 y33.length c35]) rfl) ?_
                      intro w1 hS
                      refine TJ.nil ?_
                      exact EJ.meet (F' := [(2, .pointer (some ⟨b1, 0, none⟩)), (3, .pointer (some ⟨b2, 0, none⟩)), (4, .pointer (some ⟨b3, 0, none⟩)), (6, .pointer (some ⟨b17, 0, none⟩)), (7, .int .i64 y36), (36, .slice Aa1_0 a1.Names.length ca1_0), (37, .int .i64 (a1.Names.length : Int)), (38, .int .i64 y36)]) ⟨rfl, rfl, rfl, rfl, rfl, rfl, rfl, rfl, trivial⟩ ⟨A47, A54, c55, A53, A56, c57, rfl, hS.pick [0, 1, 2, 3, 4, 5, 6, 7, 8] [0, 1, 2, 3, 4, 5] rfl⟩
                    exact TJ.stop
                  refine TJ.alt ?_ ?_
                  · skip
                    refine TJ.ef hY rfl rfl rfl rfl rfl (Ef.lit tU_ok tI_ok hS (C := (ci .i16)) rfl rfl rfl rfl rfl rfl ([t38] : List Int) rfl rfl rfl rfl) ?_
                    rintro _ w1 hY ⟨A58, rfl, hS⟩
                    refine TJ.ef hY rfl rfl rfl rfl rfl (Ef.lit tU_ok tI_ok hS (C := G.cs) rfl rfl rfl rfl rfl rfl ([t37] : List ByteArray) rfl rfl rfl rfl) ?_
                    rintro _ w1 hY ⟨A59, rfl, hS⟩
                    have hO := hS
                    refine TJ.ew rfl rfl rfl rfl rfl (Ew.append tU_ok tI_ok (C := G.cs) (xs := y27) (ys := ([t37] : List ByteArray)) (hS.inn [1, 6]) (i := 3) rfl rfl rfl rfl rfl rfl rfl rfl rfl rfl rfl rfl rfl (hS.rd (i := 8) rfl) (chk_some hu40)) (by rintro _ w1 ⟨A60, c61, rfl, hS⟩; exact hY.wr (hO.inY [1, 6] 6 rfl rfl) hS.chg) ?_
                    rintro _ w1 hY ⟨A60, c61, rfl, hS⟩
                    have hS : St w no w1 [box b1 ([.slice Aa0_0 a0.Names.length ca0_0, .slice Aa0_1 a0.Eats.length ca0_1, .slice Aa0_2 a0.Foes.length ca0_2]) 29, box b2 ([.slice Aa1_0 a1.Names.length ca1_0, .slice Aa1_1 a1.Eats.length ca1_1, .slice Aa1_2 a1.Foes.length ca1_2]) 29, box b3 ([.slice none 0 0, .slice none 0 0, .slice none 0 0]) 29, rowC G.cs A60 c61 9 (y27 ++ ([t37] : List ByteArray)), rowC (ci .i16) A31 c32 73 y30, rowC (ci .u16) A34 c35 74 y33, box b17 ([.slice A28 y27.length c29, .slice A31 y30.length c32, .slice A34 y33.length c35]) 29, rowC (ci .i16) A58 (([t38] : List Int).length) 73 ([t38] : List Int), rowC G.cs A59 (([t37] : List ByteArray).length) 9 ([t37] : List ByteArray)] [roC G.cs Aa0_0 ca0_0 a0.Names, roC (ci .i16) Aa0_1 ca0_1 a0.Eats, roC (ci .u16) Aa0_2 ca0_2 a0.Foes, roC G.cs Aa1_0 ca1_0 a1.Names, roC (ci .i16) Aa1_1 ca1_1 a1.Eats, roC (ci .u16) Aa1_2 ca1_2 a1.Foes] := hO.out [1, 6] hS
                    refine TJ.sp rfl rfl rfl rfl rfl (fun w2 => SR.fieldAddr tU_ok tI_ok rfl rfl rfl rfl rfl rfl) ?_
                    have hO := hS
                    refine TJ.ew rfl rfl rfl rfl rfl (Ew.append tU_ok tI_ok (C := (ci .i16)) (xs := y30) (ys := ([t38] : List Int)) (hS.inn [1, 6]) (i := 4) rfl rfl rfl rfl rfl rfl rfl rfl rfl rfl rfl rfl rfl (hS.rd (i := 7) rfl) (chk_some hu44)) (by rintro _ w1 ⟨A62, c63, rfl, hS⟩; exact hY.wr (hO.inY [1, 6] 6 rfl rfl) hS.chg) ?_
                    rintro _ w1 hY ⟨A62, c63, rfl, hS⟩
                    have hS : St w no w1 [box b1 ([.slice Aa0_0 a0.Names.length ca0_0, .slice Aa0_1 a0.Eats.length ca0_1, .slice Aa0_2 a0.Foes.length ca0_2]) 29, box b2 ([.slice Aa1_0 a1.Names.length ca1_0, .slice Aa1_1 a1.Eats.length ca1_1, .slice Aa1_2 a1.Foes.length ca1_2]) 29, box b3 ([.slice none 0 0, .slice none 0 0, .slice none 0 0]) 29, rowC G.cs A60 c61 9 (y27 ++ ([t37] : List ByteArray)), rowC (ci .i16) A62 c63 73 (y30 ++ ([t38] : List Int)), rowC (ci .u16) A34 c35 74 y33, box b17 ([.slice A28 y27.length c29, .slice A31 y30.length c32, .slice A34 y33.length c35]) 29, rowC (ci .i16) A58 (([t38] : List Int).length) 73 ([t38] : List Int), rowC G.cs A59 (([t37] : List ByteArray).length) 9 ([t37] : List ByteArray)] [roC G.cs Aa0_0 ca0_0 a0.Names, roC (ci .i16) Aa0_1 ca0_1 a0.Eats, roC (ci .u16) Aa0_2 ca0_2 a0.Foes, roC G.cs Aa1_0 ca1_0 a1.Names, roC (ci .i16) Aa1_1 ca1_1 a1.Eats, roC (ci .u16) Aa1_2 ca1_2 a1.Foes] := hO.out [1, 6] hS
                    refine TJ.esb rfl rfl rfl rfl (Es.store tI_ok hS (i := 6) (vs := [.slice A60 (y27 ++ ([t37] : List ByteArray)).length c61]) rfl rfl rfl (ad1 _ _) rfl rfl rfl rfl (one1 rfl) (Nat.le_of_ble_eq_true rfl) ([.slice A60 (y27 ++ ([t37] : List ByteArray)).length c61, .slice A31 y30.length c32, .slice A34 y33.length c35]) rfl) ?_
                    intro w1 hS
                    refine TJ.sp rfl rfl rfl rfl rfl (fun w2 => SR.fieldAddr tU_ok tI_ok rfl rfl rfl rfl rfl rfl) ?_
                    refine TJ.esb rfl rfl rfl rfl (Es.store tI_ok hS (i := 6) (vs := [.slice A62 (y30 ++ ([t38] : List Int)).length c63]) rfl rfl rfl (ad1 _ _) rfl rfl rfl rfl (one1 rfl) (Nat.le_of_ble_eq_true rfl) ([.slice A60 (y27 ++ ([t37] : List ByteArray)).length c61, .slice A62 (y30 ++ ([t38] : List Int)).length c63, .slice A34 y33.length c35]) rfl) ?_
                    intro w1 hS
                    refine TJ.nil ?_
                    exact EJ.meet (F' := [(2, .pointer (some ⟨b1, 0, none⟩)), (3, .pointer (some ⟨b2, 0, none⟩)), (4, .pointer (some ⟨b3, 0, none⟩)), (6, .pointer (some ⟨b17, 0, none⟩)), (7, .int .i64 y36), (36, .slice Aa1_0 a1.Names.length ca1_0), (37, .int .i64 (a1.Names.length : Int)), (38, .int .i64 y36)]) ⟨rfl, rfl, rfl, rfl, rfl, rfl, rfl, rfl, trivial⟩ ⟨A59, A60, c61, A58, A62, c63, rfl, hS.pick [0, 1, 2, 3, 4, 5, 6, 8, 7] [0, 1, 2, 3, 4, 5] rfl⟩
                  exact TJ.stop
                · rintro F w1 ⟨A39, A41, c42, A43, A45, c46, rfl, hS⟩
                  refine EJ.next ?_
                  refine CJ.draw [] [0, 1, 2, 3, 4, 5, 6, 7, 8, 9, 10, 11, 12, 13, 14] mixed (by kernel_rfl) hS fun w1 hS => ?_
                  refine DJ.st rfl rfl rfl rfl rfl (SR.fieldAddr tU_ok tI_ok rfl rfl rfl rfl rfl rfl) ?_
                  refine DJ.st rfl rfl rfl rfl rfl (SR.load rfl rfl (fun w' hx => ld1 tU_ok rfl rfl (CA.ext (CA.sub (hS.cells (i := 6) rfl) 2) hx) rfl)) ?_
                  refine DJ.st rfl rfl rfl rfl rfl (SR.fieldAddr tU_ok tI_ok rfl rfl rfl rfl rfl rfl) ?_
                  refine DJ.st rfl rfl rfl rfl rfl (SR.load rfl rfl (fun w' hx => ld1 tU_ok rfl rfl (CA.ext (CA.sub (hS.cells (i := 1) rfl) 2) hx) rfl)) ?_
                  refine DJ.pures tU_ok 1 rfl ?_
                  obtain ⟨t64, ht64, H⟩ := pbind H
                  obtain ⟨ad64, e64⟩ := (hS.rd' (i := 5) rfl).some' ht64
                  refine DJ.st rfl rfl rfl rfl rfl (SR.idxS tU_ok tI_ok rfl rfl rfl rfl e64 rfl (getI_some ht64).1) ?_
                  refine DJ.st rfl rfl rfl rfl rfl (SR.load rfl rfl (fun w' hx => ld1 tU_ok rfl rfl (CA.ext ((hS.rd' (i := 5) rfl).at_ e64 ht64) hx) rfl)) ?_
                  refine DJ.st rfl rfl rfl rfl rfl (SR.fieldAddr tU_ok tI_ok rfl rfl rfl rfl rfl rfl) ?_
                  refine DJ.st rfl rfl rfl rfl rfl (SR.load rfl rfl (fun w' hx => ld1 tU_ok rfl rfl (CA.ext (CA.sub (hS.cells (i := 0) rfl) 0) hx) rfl)) ?_
                  refine DJ.pures tU_ok 1 rfl ?_
                  obtain ⟨u65, hu65, H⟩ := pbind H
                  refine DJ.st rfl rfl rfl rfl rfl (SR.shl rfl rfl rfl (chk_some hu65)) ?_
                  refine DJ.ef rfl rfl rfl rfl rfl (Ef.lit tU_ok tI_ok hS (C := (ci .u16)) rfl rfl rfl rfl rfl rfl ([shlI .u16 t64 (a0.Names.length : Int)] : List Int) rfl rfl rfl rfl) ?_
                  rintro _ w1 ⟨A66, rfl, hS⟩
                  obtain ⟨u67, hu67, H⟩ := pbind H
                  refine DJ.ew rfl rfl rfl rfl rfl (Ew.append tU_ok tI_ok (C := (ci .u16)) (xs := y33) (ys := ([shlI .u16 t64 (a0.Names.length : Int)] : List Int)) hS (i := 5) rfl rfl rfl rfl rfl rfl rfl rfl rfl rfl rfl rfl rfl (hS.rd (i := 9) rfl) (chk_some hu67)) ?_
                  rintro _ w1 ⟨A68, c69, rfl, hS⟩
                  refine DJ.st rfl rfl rfl rfl rfl (SR.fieldAddr tU_ok tI_ok rfl rfl rfl rfl rfl rfl) ?_
                  refine DJ.es rfl rfl rfl rfl (Es.store tI_ok hS (i := 6) (vs := [.slice A68 (y33 ++ ([shlI .u16 t64 (a0.Names.length : Int)] : List Int)).length c69]) rfl rfl rfl (ad1 _ _) rfl rfl rfl rfl (one1 rfl) (Nat.le_of_ble_eq_true rfl) ([.slice A41 (y27 ++ ([t37] : List ByteArray)).length c42, .slice A45 (y30 ++ ([t38] : List Int)).length c46, .slice A68 (y33 ++ ([shlI .u16 t64 (a0.Names.length : Int)] : List Int)).length c69]) rfl) ?_
                  intro w1 hS
                  refine DJ.nil (EJ.blk (EJ.next ?_))
                  refine CJ.region ?_
                  refine OJ.pures tU_ok 2 rfl ?_
                  refine OJ.nil ?_
                  exact EJ.round k (F' := [(2, .pointer (some ⟨b1, 0, none⟩)), (3, .pointer (some ⟨b2, 0, none⟩)), (4, .pointer (some ⟨b3, 0, none⟩)), (6, .pointer (some ⟨b17, 0, none⟩)), (36, .slice Aa1_0 a1.Names.length ca1_0), (37, .int .i64 (a1.Names.length : Int)), (38, .int .i64 (IntKind.i64.wrap (y36 + 1)))]) ⟨rfl, rfl, rfl, rfl, rfl, rfl, rfl, trivial⟩ (Nat.lt_succ_self _) ⟨(y27 ++ ([t37] : List ByteArray)), (y30 ++ ([t38] : List Int)), (y33 ++ ([shlI .u16 t64 (a0.Names.length : Int)] : List Int)), (IntKind.i64.wrap (y36 + 1)), A41, c42, A45, c46, A68, c69, rfl, hS.pick [0, 1, 2, 3, 4, 5, 6] [0, 1, 2, 3, 4, 5] rfl, H⟩
              · replace H := pif_f (of_decide_eq_false hb) H
                refine CJ.exit (EJ.skE (EJ.skE (EJ.hit (?_))))
                exact EJ.meet (F' := [(4, .pointer (some ⟨b3, 0, none⟩)), (6, .pointer (some ⟨b17, 0, none⟩))]) ⟨rfl, rfl, trivial⟩ ⟨y27, y30, y33, A28, c29, A31, c32, A34, c35, H, rfl, hS.pick [2, 3, 4, 5, 6] [0, 1, 2, 3, 4, 5] rfl⟩
          · rintro F w1 ⟨y18, y21, y24, A19, c20, A22, c23, A25, c26, he, rfl, hS⟩
            obtain rfl := Option.some.inj he
            have H := K60
            refine EJ.next ?_
            refine CJ.seq ?_
            refine CJ.region ?_
            refine OJ.st rfl rfl rfl (SR.load rfl rfl (fun w' hx => ldN tU_ok tI_ok rfl rfl rfl (CA.ext (hS.cells (i := 4) rfl) hx) (ds := [.slice A19 y18.length c20, .slice A22 y21.length c23, .slice A25 y24.length c26]) rfl rfl)) ?_
            refine OJ.es rfl rfl (Es.store tI_ok hS (i := 0) (vs := [.slice A19 y18.length c20, .slice A22 y21.length c23, .slice A25 y24.length c26]) rfl rfl rfl rfl rfl rfl rfl rfl (by intro u hu; simp only [List.mem_cons, List.not_mem_nil, or_false] at hu; rcases hu with rfl | rfl | rfl <;> rfl) (Nat.le_of_ble_eq_true rfl) ([.slice A19 y18.length c20, .slice A22 y21.length c23, .slice A25 y24.length c26]) rfl) ?_
            intro w1 hS
            refine OJ.pures tU_ok 1 rfl ?_
            refine OJ.nil (EJ.next ?_)
            refine CJ.ret (?_)
            obtain rfl := Option.some.inj H
            exact EJ.fin rfl (.cell rfl (ldN tU_ok tI_ok rfl rfl rfl (hS.cells (i := 0) rfl) (ds := [.slice A19 y18.length c20, .slice A22 y21.length c23, .slice A25 y24.length c26]) rfl rfl) (.tmp rfl .nil)) ⟨A19, c20, A22, c23, A25, c26, rfl, hS.pick [1, 2, 3] [] rfl⟩

def laws_eqStringS.l1 (a0 : List ByteArray) (a1 : List ByteArray) : Nat → Int → Option (Bool ⊕ Unit)
  | 0, _ => none
  | k + 1, y1 => if y1 < (a0.length : Int) then ((getI a0 y1).bind fun t2 => (getI a1 y1).bind fun t3 => if t2 ≠ t3 then (some (Sum.inl false)) else (laws_eqStringS.l1 a0 a1 k (IntKind.i64.wrap (y1 + 1)))) else (some (Sum.inr ()))
def laws_eqStringS.f (k : Nat) (a0 : List ByteArray) (a1 : List ByteArray) : Option Bool := if (a0.length : Int) ≠ (a1.length : Int) then (some false) else ((laws_eqStringS.l1 a0 a1 k 0).bind fun s62 => match s62 with | .inl r => some r | .inr _ => some true)
theorem laws_eqStringS.c (k : Nat) (w : World) (Aa0 : Option Addr) (ca0 : Nat) (a0 : List ByteArray) (hr0 : Rd G.cs w Aa0 a0) (hc0 : a0.length ≤ ca0) (Aa1 : Option Addr) (ca1 : Nat) (a1 : List ByteArray) (hr1 : Rd G.cs w Aa1 a1) (hc1 : a1.length ≤ ca1) (r : Bool) (H : laws_eqStringS.f k a0 a1 = some r) :
    CV Tryd.prog 59 [.slice Aa0 a0.length ca0, .slice Aa1 a1.length ca1].toArray w fun v w' => v = .bool r ∧ Ext w w' := by
  have hS := (((St.init w no).param G.cs Aa0 ca0 a0 hr0 hc0).param G.cs Aa1 ca1 a1 hr1 hc1)
  unfold laws_eqStringS.f at H
  refine CV.body Tryd.func59 rfl Tryd.ntmps59 rfl ?_
  refine CJ.seq ?_
  refine CJ.region ?_
  refine OJ.pures tU_ok 1 rfl ?_
  refine OJ.nil (EJ.next ?_)
  refine CJ.seq ?_
  refine CJ.seq ?_
  refine CJ.region ?_
  refine OJ.pures tU_ok 5 rfl ?_
  refine OJ.nil (EJ.next ?_)
  refine CJ.cond rfl (fun hb => ?_) (fun hb => ?_)
  · replace H := pif_t (of_decide_eq_true hb) H
    refine CJ.seq ?_
    refine CJ.region ?_
    refine OJ.pures tU_ok 1 rfl ?_
    refine OJ.nil (EJ.next ?_)
    refine CJ.ret (EJ.skR (?_))
    obtain rfl := Option.some.inj H
    exact EJ.fin rfl (.tmp rfl .nil) ⟨rfl, hS.ext⟩
  · replace H := pif_f (of_decide_eq_false hb) H
    refine CJ.skip (EJ.next ?_)
    refine CJ.seq ?_
    refine CJ.seq ?_
    refine CJ.region ?_
    refine OJ.pures tU_ok 1 rfl ?_
    refine OJ.nil (EJ.next ?_)
    obtain ⟨j62, H, K62⟩ := pbind H
    refine CJ.cut1 (fun F w1 => (some (Sum.inr ()) : Option (Bool ⊕ Unit)) = some j62 ∧ F = [] ∧ St w no w1 [] [roC G.cs Aa0 ca0 a0, roC G.cs Aa1 ca1 a1]) ?_ ?_
    · skip
      refine CJ.block ?_
      refine CJ.loop (fun k F w1 => ∃ (y1 : Int), F = [(0, .slice Aa0 a0.length ca0), (1, .slice Aa1 a1.length ca1), (5, .int .i64 y1)] ∧ St w no w1 [] [roC G.cs Aa0 ca0 a0, roC G.cs Aa1 ca1 a1] ∧ laws_eqStringS.l1 a0 a1 k y1 = some j62) k (F' := [(0, .slice Aa0 a0.length ca0), (1, .slice Aa1 a1.length ca1), (5, .int .i64 0)]) ⟨rfl, rfl, rfl, trivial⟩ ⟨0, rfl, hS.pick [] [0, 1] rfl, H⟩ ?_
      rintro k F w1 ⟨y1, rfl, hS, H⟩
      cases k with
      | zero => rw [laws_eqStringS.l1] at H; cases H
      | succ k =>
        rw [laws_eqStringS.l1] at H
        refine CJ.seq ?_
        refine CJ.seq ?_
        refine CJ.region ?_
        refine OJ.pures tU_ok 4 rfl ?_
        refine OJ.nil (EJ.next ?_)
        refine CJ.cond rfl (fun hb => ?_) (fun hb => ?_)
        · replace H := pif_t (of_decide_eq_true hb) H
          refine CJ.skip (EJ.next ?_)
          refine CJ.seq ?_
          refine CJ.block ?_
          refine CJ.seq ?_
          refine CJ.draw [] [0, 1, 2, 3, 4, 5, 6, 7, 8] mixed (by kernel_rfl) hS fun w1 hS => ?_
          refine DJ.pures tU_ok 2 rfl ?_
          obtain ⟨t2, ht2, H⟩ := pbind H
          obtain ⟨ad2, e2⟩ := (hS.rd' (i := 0) rfl).some' ht2
          refine DJ.st rfl rfl rfl rfl rfl (SR.idxS tU_ok tI_ok rfl rfl rfl rfl e2 rfl (getI_some ht2).1) ?_
          refine DJ.st rfl rfl rfl rfl rfl (SR.load rfl rfl (fun w' hx => ld1 tU_ok rfl rfl (CA.ext ((hS.rd' (i := 0) rfl).at_ e2 ht2) hx) rfl)) ?_
          refine DJ.pures tU_ok 2 rfl ?_
          obtain ⟨t3, ht3, H⟩ := pbind H
          obtain ⟨ad3, e3⟩ := (hS.rd' (i := 1) rfl).some' ht3
          refine DJ.st rfl rfl rfl rfl rfl (SR.idxS tU_ok tI_ok rfl rfl rfl rfl e3 rfl (getI_some ht3).1) ?_
          refine DJ.st rfl rfl rfl rfl rfl (SR.load rfl rfl (fun w' hx => ld1 tU_ok rfl rfl (CA.ext ((hS.rd' (i := 1) rfl).at_ e3 ht3) hx) rfl)) ?_
          refine DJ.pures tU_ok 1 rfl ?_
          refine DJ.nil (EJ.next ?_)
          refine CJ.cond rfl (fun hb => ?_) (fun hb => ?_)
          · replace H := pif_t (of_decide_eq_true hb) H
            refine CJ.seq ?_
            refine CJ.region ?_
            refine OJ.pures tU_ok 1 rfl ?_
            refine OJ.nil (EJ.next ?_)
            refine CJ.ret (EJ.bkR (EJ.skR (EJ.skR (EJ.bkR (EJ.skR (EJ.skR (?_)))))))
            first | (obtain rfl := Option.some.inj H; have H := K62) | (obtain ⟨q62, H2, e62⟩ := pbind H; obtain rfl := Option.some.inj e62; obtain rfl := Option.some.inj K62; have H := H2)
            obtain rfl := Option.some.inj H
            exact EJ.fin rfl (.tmp rfl .nil) ⟨rfl, hS.ext⟩
          · replace H := pif_f (of_decide_eq_false hb) H
            refine CJ.skip (EJ.blk (EJ.next ?_))
            refine CJ.region ?_
            refine OJ.pures tU_ok 3 rfl ?_
            refine OJ.nil ?_
            exact EJ.round k (F' := [(0, .slice Aa0 a0.length ca0), (1, .slice Aa1 a1.length ca1), (5, .int .i64 (IntKind.i64.wrap (y1 + 1)))]) ⟨rfl, rfl, rfl, trivial⟩ (Nat.lt_succ_self _) ⟨(IntKind.i64.wrap (y1 + 1)), rfl, hS.pick [] [0, 1] rfl, H⟩
        · replace H := pif_f (of_decide_eq_false hb) H
          refine CJ.exit (EJ.skE (EJ.skE (EJ.hit (?_))))
          exact EJ.meet (F' := []) trivial ⟨H, rfl, hS.pick [] [0, 1] rfl⟩
    · rintro F w1 ⟨he, rfl, hS⟩
      obtain rfl := Option.some.inj he
      have H := K62
      refine EJ.next ?_
      refine CJ.seq ?_
      refine CJ.region ?_
      refine OJ.pures tU_ok 1 rfl ?_
      refine OJ.nil (EJ.next ?_)
      refine CJ.ret (?_)
      obtain rfl := Option.some.inj H
      exact EJ.fin rfl (.tmp rfl .nil) ⟨rfl, hS.ext⟩

def laws_eqInt16S.l1 (a0 : List Int) (a1 : List Int) : Nat → Int → Option (Bool ⊕ Unit)
  | 0, _ => none
  | k + 1, y1 => if y1 < (a0.length : Int) then ((getI a0 y1).bind fun t2 => (getI a1 y1).bind fun t3 => if t2 ≠ t3 then (some (Sum.inl false)) else (laws_eqInt16S.l1 a0 a1 k (IntKind.i64.wrap (y1 + 1)))) else (some (Sum.inr ()))
def laws_eqInt16S.f (k : Nat) (a0 : List Int) (a1 : List Int) : Option Bool := if (a0.length : Int) ≠ (a1.length : Int) then (some false) else ((laws_eqInt16S.l1 a0 a1 k 0).bind fun s63 => match s63 with | .inl r => some r | .inr _ => some true)
theorem laws_eqInt16S.c (k : Nat) (w : World) (Aa0 : Option Addr) (ca0 : Nat) (a0 : List Int) (hr0 : Rd (ci .i16) w Aa0 a0) (hc0 : a0.length ≤ ca0) (Aa1 : Option Addr) (ca1 : Nat) (a1 : List Int) (hr1 : Rd (ci .i16) w Aa1 a1) (hc1 : a1.length ≤ ca1) (r : Bool) (H : laws_eqInt16S.f k a0 a1 = some r) :
    CV Tryd.prog 60 [.slice Aa0 a0.length ca0, .slice Aa1 a1.length ca1].toArray w fun v w' => v = .bool r ∧ Ext w w' := by
  have hS := (((St.init w no).param (ci .i16) Aa0 ca0 a0 hr0 hc0).param (ci .i16) Aa1 ca1 a1 hr1 hc1)
  unfold laws_eqInt16S.f at H
  refine CV.body Tryd.func60 rfl Tryd.ntmps60 rfl ?_
  refine CJ.seq ?_
  refine CJ.region ?_
  refine OJ.pures tU_ok 1 rfl ?_
  refine OJ.nil (EJ.next ?_)
  refine CJ.seq ?_
  refine CJ.seq ?_
  refine CJ.region ?_
  refine OJ.pures tU_ok 5 rfl ?_
  refine OJ.nil (EJ.next ?_)
  refine CJ.cond rfl (fun hb => ?_) (fun hb => ?_)
  · replace H := pif_t (of_decide_eq_true hb) H
    refine CJ.seq ?_
    refine CJ.region ?_
    refine OJ.pures tU_ok 1 rfl ?_
    refine OJ.nil (EJ.next ?_)
    refine CJ.ret (EJ.skR (?_))
    obtain rfl := Option.some.inj H
    exact EJ.fin rfl (.tmp rfl .nil) ⟨rfl, hS.ext⟩
  · replace H := pif_f (of_decide_eq_false hb) H
    refine CJ.skip (EJ.next ?_)
    refine CJ.seq ?_
    refine CJ.seq ?_
    refine CJ.region ?_
    refine OJ.pures tU_ok 1 rfl ?_
    refine OJ.nil (EJ.next ?_)
    obtain ⟨j63, H, K63⟩ := pbind H
    refine CJ.cut1 (fun F w1 => (some (Sum.inr ()) : Option (Bool ⊕ Unit)) = some j63 ∧ F = [] ∧ St w no w1 [] [roC (ci .i16) Aa0 ca0 a0, roC (ci .i16) Aa1 ca1 a1]) ?_ ?_
    · skip
      refine CJ.block ?_
      refine CJ.loop (fun k F w1 => ∃ (y1 : Int), F = [(0, .slice Aa0 a0.length ca0), (1, .slice Aa1 a1.length ca1), (5, .int .i64 y1)] ∧ St w no w1 [] [roC (ci .i16) Aa0 ca0 a0, roC (ci .i16) Aa1 ca1 a1] ∧ laws_eqInt16S.l1 a0 a1 k y1 = some j63) k (F' := [(0, .slice Aa0 a0.length ca0), (1, .slice Aa1 a1.length ca1), (5, .int .i64 0)]) ⟨rfl, rfl, rfl, trivial⟩ ⟨0, rfl, hS.pick [] [0, 1] rfl, H⟩ ?_
      rintro k F w1 ⟨y1, rfl, hS, H⟩
      cases k with
      | zero => rw [laws_eqInt16S.l1] at H; cases H
      | succ k =>
        rw [laws_eqInt16S.l1] at H
        refine CJ.seq ?_
        refine CJ.seq ?_
        refine CJ.region ?_
        refine OJ.pures tU_ok 4 rfl ?_
        refine OJ.nil (EJ.next ?_)
        refine CJ.cond rfl (fun hb => ?_) (fun hb => ?_)
        · replace H := pif_t (of_decide_eq_true hb) H
          refine CJ.skip (EJ.next ?_)
          refine CJ.seq ?_
          refine CJ.block ?_
          refine CJ.seq ?_
          refine CJ.draw [] [0, 1, 2, 3, 4, 5, 6, 7, 8] mixed (by kernel_rfl) hS fun w1 hS => ?_
          refine DJ.pures tU_ok 2 rfl ?_
          obtain ⟨t2, ht2, H⟩ := pbind H
          obtain ⟨ad2, e2⟩ := (hS.rd' (i := 0) rfl).some' ht2
          refine DJ.st rfl rfl rfl rfl rfl (SR.idxS tU_ok tI_ok rfl rfl rfl rfl e2 rfl (getI_some ht2).1) ?_
          refine DJ.st rfl rfl rfl rfl rfl (SR.load rfl rfl (fun w' hx => ld1 tU_ok rfl rfl (CA.ext ((hS.rd' (i := 0) rfl).at_ e2 ht2) hx) rfl)) ?_
          refine DJ.pures tU_ok 2 rfl ?_
          obtain ⟨t3, ht3, H⟩ := pbind H
          obtain ⟨ad3, e3⟩ := (hS.rd' (i := 1) rfl).some' ht3
          refine DJ.st rfl rfl rfl rfl rfl (SR.idxS tU_ok tI_ok rfl rfl rfl rfl e3 rfl (getI_some ht3).1) ?_
          refine DJ.st rfl rfl rfl rfl rfl (SR.load rfl rfl (fun w' hx => ld1 tU_ok rfl rfl (CA.ext ((hS.rd' (i := 1) rfl).at_ e3 ht3) hx) rfl)) ?_
          refine DJ.pures tU_ok 1 rfl ?_
          refine DJ.nil (EJ.next ?_)
          refine CJ.cond rfl (fun hb => ?_) (fun hb => ?_)
          · replace H := pif_t (of_decide_eq_true hb) H
            refine CJ.seq ?_
            refine CJ.region ?_
            refine OJ.pures tU_ok 1 rfl ?_
            refine OJ.nil (EJ.next ?_)
            refine CJ.ret (EJ.bkR (EJ.skR (EJ.skR (EJ.bkR (EJ.skR (EJ.skR (?_)))))))
            first | (obtain rfl := Option.some.inj H; have H := K63) | (obtain ⟨q63, H2, e63⟩ := pbind H; obtain rfl := Option.some.inj e63; obtain rfl := Option.some.inj K63; have H := H2)
            obtain rfl := Option.some.inj H
            exact EJ.fin rfl (.tmp rfl .nil) ⟨rfl, hS.ext⟩
          · replace H := pif_f (of_decide_eq_false hb) H
            refine CJ.skip (EJ.blk (EJ.next ?_))
            refine CJ.region ?_
            refine OJ.pures tU_ok 3 rfl ?_
            refine OJ.nil ?_
            exact EJ.round k (F' := [(0, .slice Aa0 a0.length ca0), (1, .slice Aa1 a1.length ca1), (5, .int .i64 (IntKind.i64.wrap (y1 + 1)))]) ⟨rfl, rfl, rfl, trivial⟩ (Nat.lt_succ_self _) ⟨(IntKind.i64.wrap (y1 + 1)), rfl, hS.pick [] [0, 1] rfl, H⟩
        · replace H := pif_f (of_decide_eq_false hb) H
          refine CJ.exit (EJ.skE (EJ.skE (EJ.hit (?_))))
          exact EJ.meet (F' := []) trivial ⟨H, rfl, hS.pick [] [0, 1] rfl⟩
    · rintro F w1 ⟨he, rfl, hS⟩
      obtain rfl := Option.some.inj he
      have H := K63
      refine EJ.next ?_
      refine CJ.seq ?_
      refine CJ.region ?_
      refine OJ.pures tU_ok 1 rfl ?_
      refine OJ.nil (EJ.next ?_)
      refine CJ.ret (?_)
      obtain rfl := Option.some.inj H
      exact EJ.fin rfl (.tmp rfl .nil) ⟨rfl, hS.ext⟩

def laws_eqUint16S.l1 (a0 : List Int) (a1 : List Int) : Nat → Int → Option (Bool ⊕ Unit)
  | 0, _ => none
  | k + 1, y1 => if y1 < (a0.length : Int) then ((getI a0 y1).bind fun t2 => (getI a1 y1).bind fun t3 => if t2 ≠ t3 then (some (Sum.inl false)) else (laws_eqUint16S.l1 a0 a1 k (IntKind.i64.wrap (y1 + 1)))) else (some (Sum.inr ()))
def laws_eqUint16S.f (k : Nat) (a0 : List Int) (a1 : List Int) : Option Bool := if (a0.length : Int) ≠ (a1.length : Int) then (some false) else ((laws_eqUint16S.l1 a0 a1 k 0).bind fun s64 => match s64 with | .inl r => some r | .inr _ => some true)
theorem laws_eqUint16S.c (k : Nat) (w : World) (Aa0 : Option Addr) (ca0 : Nat) (a0 : List Int) (hr0 : Rd (ci .u16) w Aa0 a0) (hc0 : a0.length ≤ ca0) (Aa1 : Option Addr) (ca1 : Nat) (a1 : List Int) (hr1 : Rd (ci .u16) w Aa1 a1) (hc1 : a1.length ≤ ca1) (r : Bool) (H : laws_eqUint16S.f k a0 a1 = some r) :
    CV Tryd.prog 61 [.slice Aa0 a0.length ca0, .slice Aa1 a1.length ca1].toArray w fun v w' => v = .bool r ∧ Ext w w' := by
  have hS := (((St.init w no).param (ci .u16) Aa0 ca0 a0 hr0 hc0).param (ci .u16) Aa1 ca1 a1 hr1 hc1)
  unfold laws_eqUint16S.f at H
  refine CV.body Tryd.func61 rfl Tryd.ntmps61 rfl ?_
  refine CJ.seq ?_
  refine CJ.region ?_
  refine OJ.pures tU_ok 1 rfl ?_
  refine OJ.nil (EJ.next ?_)
  refine CJ.seq ?_
  refine CJ.seq ?_
  refine CJ.region ?_
  refine OJ.pures tU_ok 5 rfl ?_
  refine OJ.nil (EJ.next ?_)
  refine CJ.cond rfl (fun hb => ?_) (fun hb => ?_)
  · replace H := pif_t (of_decide_eq_true hb) H
    refine CJ.seq ?_
    refine CJ.region ?_
    refine OJ.pures tU_ok 1 rfl ?_
    refine OJ.nil (EJ.next ?_)
    refine CJ.ret (EJ.skR (?_))
    obtain rfl := Option.some.inj H
    exact EJ.fin rfl (.tmp rfl .nil) ⟨rfl, hS.ext⟩
  · replace H := pif_f (of_decide_eq_false hb) H
    refine CJ.skip (EJ.next ?_)
    refine CJ.seq ?_
    refine CJ.seq ?_
    refine CJ.region ?_
    refine OJ.pures tU_ok 1 rfl ?_
    refine OJ.nil (EJ.next ?_)
    obtain ⟨j64, H, K64⟩ := pbind H
    refine CJ.cut1 (fun F w1 => (some (Sum.inr ()) : Option (Bool ⊕ Unit)) = some j64 ∧ F = [] ∧ St w no w1 [] [roC (ci .u16) Aa0 ca0 a0, roC (ci .u16) Aa1 ca1 a1]) ?_ ?_
    · skip
      refine CJ.block ?_
      refine CJ.loop (fun k F w1 => ∃ (y1 : Int), F = [(0, .slice Aa0 a0.length ca0), (1, .slice Aa1 a1.length ca1), (5, .int .i64 y1)] ∧ St w no w1 [] [roC (ci .u16) Aa0 ca0 a0, roC (ci .u16) Aa1 ca1 a1] ∧ laws_eqUint16S.l1 a0 a1 k y1 = some j64) k (F' := [(0, .slice Aa0 a0.length ca0), (1, .slice Aa1 a1.length ca1), (5, .int .i64 0)]) ⟨rfl, rfl, rfl, trivial⟩ ⟨0, rfl, hS.pick [] [0, 1] rfl, H⟩ ?_
      rintro k F w1 ⟨y1, rfl, hS, H⟩
      cases k with
      | zero => rw [laws_eqUint16S.l1] at H; cases H
      | succ k =>
        rw [laws_eqUint16S.l1] at H
        refine CJ.seq ?_
        refine CJ.seq ?_
        refine CJ.region ?_
        refine OJ.pures tU_ok 4 rfl ?_
        refine OJ.nil (EJ.next ?_)
        refine CJ.cond rfl (fun hb => ?_) (fun hb => ?_)
        · replace H := pif_t (of_decide_eq_true hb) H
          refine CJ.skip (EJ.next ?_)
          refine CJ.seq ?_
          refine CJ.block ?_
          refine CJ.seq ?_
          refine CJ.draw [] [0, 1, 2, 3, 4, 5, 6, 7, 8] mixed (by kernel_rfl) hS fun w1 hS => ?_
          refine DJ.pures tU_ok 2 rfl ?_
          obtain ⟨t2, ht2, H⟩ := pbind H
          obtain ⟨ad2, e2⟩ := (hS.rd' (i := 0) rfl).some' ht2
          refine DJ.st rfl rfl rfl rfl rfl (SR.idxS tU_ok tI_ok rfl rfl rfl rfl e2 rfl (getI_some ht2).1) ?_
          refine DJ.st rfl rfl rfl rfl rfl (SR.load rfl rfl (fun w' hx => ld1 tU_ok rfl rfl (CA.ext ((hS.rd' (i := 0) rfl).at_ e2 ht2) hx) rfl)) ?_
          refine DJ.pures tU_ok 2 rfl ?_
          obtain ⟨t3, ht3, H⟩ := pbind H
          obtain ⟨ad3, e3⟩ := (hS.rd' (i := 1) rfl).some' ht3
          refine DJ.st rfl rfl rfl rfl rfl (SR.idxS tU_ok tI_ok rfl rfl rfl rfl e3 rfl (getI_some ht3).1) ?_
          refine DJ.st rfl rfl rfl rfl rfl (SR.load rfl rfl (fun w' hx => ld1 tU_ok rfl rfl (CA.ext ((hS.rd' (i := 1) rfl).at_ e3 ht3) hx) rfl)) ?_
          refine DJ.pures tU_ok 1 rfl ?_
          refine DJ.nil (EJ.next ?_)
          refine CJ.cond rfl (fun hb => ?_) (fun hb => ?_)
          · replace H := pif_t (of_decide_eq_true hb) H
            refine CJ.seq ?_
            refine CJ.region ?_
            refine OJ.pures tU_ok 1 rfl ?_
            refine OJ.nil (EJ.next ?_)
            refine CJ.ret (EJ.bkR (EJ.skR (EJ.skR (EJ.bkR (EJ.skR (EJ.skR (?_)))))))
            first | (obtain rfl := Option.some.inj H; have H := K64) | (obtain ⟨q64, H2, e64⟩ := pbind H; obtain rfl := Option.some.inj e64; obtain rfl := Option.some.inj K64; have H := H2)
            obtain rfl := Option.some.inj H
            exact EJ.fin rfl (.tmp rfl .nil) ⟨rfl, hS.ext⟩
          · replace H := pif_f (of_decide_eq_false hb) H
            refine CJ.skip (EJ.blk (EJ.next ?_))
            refine CJ.region ?_
            refine OJ.pures tU_ok 3 rfl ?_
            refine OJ.nil ?_
            exact EJ.round k (F' := [(0, .slice Aa0 a0.length ca0), (1, .slice Aa1 a1.length ca1), (5, .int .i64 (IntKind.i64.wrap (y1 + 1)))]) ⟨rfl, rfl, rfl, trivial⟩ (Nat.lt_succ_self _) ⟨(IntKind.i64.wrap (y1 + 1)), rfl, hS.pick [] [0, 1] rfl, H⟩
        · replace H := pif_f (of_decide_eq_false hb) H
          refine CJ.exit (EJ.skE (EJ.skE (EJ.hit (?_))))
          exact EJ.meet (F' := []) trivial ⟨H, rfl, hS.pick [] [0, 1] rfl⟩
    · rintro F w1 ⟨he, rfl, hS⟩
      obtain rfl := Option.some.inj he
      have H := K64
      refine EJ.next ?_
      refine CJ.seq ?_
      refine CJ.region ?_
      refine OJ.pures tU_ok 1 rfl ?_
      refine OJ.nil (EJ.next ?_)
      refine CJ.ret (?_)
      obtain rfl := Option.some.inj H
      exact EJ.fin rfl (.tmp rfl .nil) ⟨rfl, hS.ext⟩

def laws_eqHerd.f (k : Nat) (a0 : Herd) (a1 : Herd) : Option Bool := (laws_eqStringS.f k a0.Names a1.Names).bind fun t3 => if (!t3) = true then (some false) else ((laws_eqInt16S.f k a0.Eats a1.Eats).bind fun t4 => if (!t4) = true then (some false) else ((laws_eqUint16S.f k a0.Foes a1.Foes).bind fun t5 => if (!t5) = true then (some false) else (some true)))
theorem laws_eqHerd.c (k : Nat) (w : World) (Aa0_0 : Option Addr) (ca0_0 : Nat) (Aa0_1 : Option Addr) (ca0_1 : Nat) (Aa0_2 : Option Addr) (ca0_2 : Nat) (a0 : Herd) (hr0_0 : Rd G.cs w Aa0_0 a0.Names) (hc0_0 : a0.Names.length ≤ ca0_0) (hr0_1 : Rd (ci .i16) w Aa0_1 a0.Eats) (hc0_1 : a0.Eats.length ≤ ca0_1) (hr0_2 : Rd (ci .u16) w Aa0_2 a0.Foes) (hc0_2 : a0.Foes.length ≤ ca0_2) (Aa1_0 : Option Addr) (ca1_0 : Nat) (Aa1_1 : Option Addr) (ca1_1 : Nat) (Aa1_2 : Option Addr) (ca1_2 : Nat) (a1 : Herd) (hr1_0 : Rd G.cs w Aa1_0 a1.Names) (hc1_0 : a1.Names.length ≤ ca1_0) (hr1_1 : Rd (ci .i16) w Aa1_1 a1.Eats) (hc1_1 : a1.Eats.length ≤ ca1_1) (hr1_2 : Rd (ci .u16) w Aa1_2 a1.Foes) (hc1_2 : a1.Foes.length ≤ ca1_2) (r : Bool) (H : laws_eqHerd.f k a0 a1 = some r) :
    CV Tryd.prog 18 [.agg [.slice Aa0_0 a0.Names.length ca0_0, .slice Aa0_1 a0.Eats.length ca0_1, .slice Aa0_2 a0.Foes.length ca0_2].toArray, .agg [.slice Aa1_0 a1.Names.length ca1_0, .slice Aa1_1 a1.Eats.length ca1_1, .slice Aa1_2 a1.Foes.length ca1_2].toArray].toArray w fun v w' => v = .bool r ∧ Ext w w' := by
  have hS := (((((((St.init w no).param G.cs Aa0_0 ca0_0 a0.Names hr0_0 hc0_0).param (ci .i16) Aa0_1 ca0_1 a0.Eats hr0_1 hc0_1).param (ci .u16) Aa0_2 ca0_2 a0.Foes hr0_2 hc0_2).param G.cs Aa1_0 ca1_0 a1.Names hr1_0 hc1_0).param (ci .i16) Aa1_1 ca1_1 a1.Eats hr1_1 hc1_1).param (ci .u16) Aa1_2 ca1_2 a1.Foes hr1_2 hc1_2)
  unfold laws_eqHerd.f at H
  refine CV.body Tryd.func18 rfl Tryd.ntmps18 rfl ?_
  refine CJ.seq ?_
  refine CJ.region ?_
  refine OJ.ef rfl rfl rfl (Ef.box hS rfl rfl ([.slice Aa0_0 a0.Names.length ca0_0, .slice Aa0_1 a0.Eats.length ca0_1, .slice Aa0_2 a0.Foes.length ca0_2]) rfl) ?_
  rintro _ w1 ⟨b1, rfl, hS⟩
  refine OJ.ef rfl rfl rfl (Ef.box hS rfl rfl ([.slice Aa1_0 a1.Names.length ca1_0, .slice Aa1_1 a1.Eats.length ca1_1, .slice Aa1_2 a1.Foes.length ca1_2]) rfl) ?_
  rintro _ w1 ⟨b2, rfl, hS⟩
  refine OJ.pures tU_ok 1 rfl ?_
  refine OJ.nil (EJ.next ?_)
  refine CJ.seq ?_
  refine CJ.seq ?_
  refine CJ.region ?_
  refine OJ.st rfl rfl rfl (SR.fieldAddr tU_ok tI_ok rfl rfl rfl rfl rfl rfl) ?_
  refine OJ.st rfl rfl rfl (SR.load rfl rfl (fun w' hx => ld1 tU_ok rfl rfl (CA.ext (CA.sub (hS.cells (i := 0) rfl) 0) hx) rfl)) ?_
  refine OJ.st rfl rfl rfl (SR.fieldAddr tU_ok tI_ok rfl rfl rfl rfl rfl rfl) ?_
  refine OJ.st rfl rfl rfl (SR.load rfl rfl (fun w' hx => ld1 tU_ok rfl rfl (CA.ext (CA.sub (hS.cells (i := 1) rfl) 0) hx) rfl)) ?_
  obtain ⟨t3, ht3, H⟩ := pbind H
  refine OJ.callF rfl rfl rfl rfl rfl hb59 rfl (laws_eqStringS.c k _ Aa0_0 ca0_0 a0.Names (hS.rd' (i := 0) rfl) (hS.le' (i := 0) rfl) Aa1_0 ca1_0 a1.Names (hS.rd' (i := 3) rfl) (hS.le' (i := 3) rfl) _ ht3) ?_
  rintro _ w1 ⟨rfl, hs⟩
  replace hS := hS.grow hs
  refine OJ.pures tU_ok 1 rfl ?_
  refine OJ.nil (EJ.next ?_)
  refine CJ.cond rfl (fun hb => ?_) (fun hb => ?_)
  · replace H := pif_t hb H
    refine CJ.seq ?_
    refine CJ.region ?_
    refine OJ.pures tU_ok 1 rfl ?_
    refine OJ.nil (EJ.next ?_)
    refine CJ.ret (EJ.skR (?_))
    obtain rfl := Option.some.inj H
    exact EJ.fin rfl (.tmp rfl .nil) ⟨rfl, hS.ext⟩
  · replace H := pifb_f hb H
    refine CJ.skip (EJ.next ?_)
    refine CJ.seq ?_
    refine CJ.seq ?_
    refine CJ.region ?_
    refine OJ.st rfl rfl rfl (SR.fieldAddr tU_ok tI_ok rfl rfl rfl rfl rfl rfl) ?_
    refine OJ.st rfl rfl rfl (SR.load rfl rfl (fun w' hx => ld1 tU_ok rfl rfl (CA.ext (CA.sub (hS.cells (i := 0) rfl) 1) hx) rfl)) ?_
    refine OJ.st rfl rfl rfl (SR.fieldAddr tU_ok tI_ok rfl rfl rfl rfl rfl rfl) ?_
    refine OJ.st rfl rfl rfl (SR.load rfl rfl (fun w' hx => ld1 tU_ok rfl rfl (CA.ext (CA.sub (hS.cells (i := 1) rfl) 1) hx) rfl)) ?_
    obtain ⟨t4, ht4, H⟩ := pbind H
    refine OJ.callF rfl rfl rfl rfl rfl hb60 rfl (laws_eqInt16S.c k _ Aa0_1 ca0_1 a0.Eats (hS.rd' (i := 1) rfl) (hS.le' (i := 1) rfl) Aa1_1 ca1_1 a1.Eats (hS.rd' (i := 4) rfl) (hS.le' (i := 4) rfl) _ ht4) ?_
    rintro _ w1 ⟨rfl, hs⟩
    replace hS := hS.grow hs
    refine OJ.pures tU_ok 1 rfl ?_
    refine OJ.nil (EJ.next ?_)
    refine CJ.cond rfl (fun hb => ?_) (fun hb => ?_)
    · replace H := pif_t hb H
      refine CJ.seq ?_
      refine CJ.region ?_
      refine OJ.pures tU_ok 1 rfl ?_
      refine OJ.nil (EJ.next ?_)
      refine CJ.ret (EJ.skR (?_))
      obtain rfl := Option.some.inj H
      exact EJ.fin rfl (.tmp rfl .nil) ⟨rfl, hS.ext⟩
    · replace H := pifb_f hb H
      refine CJ.skip (EJ.next ?_)
      refine CJ.seq ?_
      refine CJ.seq ?_
      refine CJ.region ?_
      refine OJ.st rfl rfl rfl (SR.fieldAddr tU_ok tI_ok rfl rfl rfl rfl rfl rfl) ?_
      refine OJ.st rfl rfl rfl (SR.load rfl rfl (fun w' hx => ld1 tU_ok rfl rfl (CA.ext (CA.sub (hS.cells (i := 0) rfl) 2) hx) rfl)) ?_
      refine OJ.st rfl rfl rfl (SR.fieldAddr tU_ok tI_ok rfl rfl rfl rfl rfl rfl) ?_
      refine OJ.st rfl rfl rfl (SR.load rfl rfl (fun w' hx => ld1 tU_ok rfl rfl (CA.ext (CA.sub (hS.cells (i := 1) rfl) 2) hx) rfl)) ?_
      obtain ⟨t5, ht5, H⟩ := pbind H
      refine OJ.callF rfl rfl rfl rfl rfl hb61 rfl (laws_eqUint16S.c k _ Aa0_2 ca0_2 a0.Foes (hS.rd' (i := 2) rfl) (hS.le' (i := 2) rfl) Aa1_2 ca1_2 a1.Foes (hS.rd' (i := 5) rfl) (hS.le' (i := 5) rfl) _ ht5) ?_
      rintro _ w1 ⟨rfl, hs⟩
      replace hS := hS.grow hs
      refine OJ.pures tU_ok 1 rfl ?_
      refine OJ.nil (EJ.next ?_)
      refine CJ.cond rfl (fun hb => ?_) (fun hb => ?_)
      · replace H := pif_t hb H
        refine CJ.seq ?_
        refine CJ.region ?_
        refine OJ.pures tU_ok 1 rfl ?_
        refine OJ.nil (EJ.next ?_)
        refine CJ.ret (EJ.skR (?_))
        obtain rfl := Option.some.inj H
        exact EJ.fin rfl (.tmp rfl .nil) ⟨rfl, hS.ext⟩
      · replace H := pifb_f hb H
        refine CJ.skip (EJ.next ?_)
        refine CJ.seq ?_
        refine CJ.region ?_
        refine OJ.pures tU_ok 1 rfl ?_
        refine OJ.nil (EJ.next ?_)
        refine CJ.ret (?_)
        obtain rfl := Option.some.inj H
        exact EJ.fin rfl (.tmp rfl .nil) ⟨rfl, hS.ext⟩

def laws_markText.l1 : Nat → Int → ByteArray → Option ByteArray
  | 0, _, _ => none
  | k + 1, y2, y3 => if 0 < y2 then ((chk ((bstr ([IntKind.u8.wrap (IntKind.i64.wrap (48 + (Int.tmod y2 10)))] : List Int)).size + y3.size ≤ 4294967296)).bind fun u5 => laws_markText.l1 k (IntKind.i64.wrap (Int.tdiv y2 10)) ((bstr ([IntKind.u8.wrap (IntKind.i64.wrap (48 + (Int.tmod y2 10)))] : List Int)) ++ y3)) else (some y3)
def laws_markText.f (k : Nat) (a0 : Int) : Option ByteArray := if a0 ≤ 0 then (some (⟨#[109, 48]⟩ : ByteArray)) else ((laws_markText.l1 k a0 ByteArray.empty).bind fun y1 => (chk ((⟨#[109]⟩ : ByteArray).size + y1.size ≤ 4294967296)).bind fun u6 => some ((⟨#[109]⟩ : ByteArray) ++ y1))
theorem laws_markText.c (k : Nat) (w : World) (a0 : Int) (r : ByteArray) (H : laws_markText.f k a0 = some r) :
    CV Tryd.prog 99 [.int .i64 a0].toArray w fun v w' => v = .string r ∧ Ext w w' := by
  have hS := (St.init w no)
  unfold laws_markText.f at H
  refine CV.body Tryd.func99 rfl Tryd.ntmps99 rfl ?_
  refine CJ.seq ?_
  refine CJ.region ?_
  refine OJ.pures tU_ok 1 rfl ?_
  refine OJ.nil (EJ.next ?_)
  refine CJ.seq ?_
  refine CJ.seq ?_
  refine CJ.region ?_
  refine OJ.pures tU_ok 2 rfl ?_
  refine OJ.nil (EJ.next ?_)
  refine CJ.cond rfl (fun hb => ?_) (fun hb => ?_)
  · replace H := pif_t (of_decide_eq_true hb) H
    refine CJ.seq ?_
    refine CJ.region ?_
    refine OJ.pures tU_ok 1 rfl ?_
    refine OJ.nil (EJ.next ?_)
    refine CJ.ret (EJ.skR (?_))
    obtain rfl := Option.some.inj H
    exact EJ.fin rfl (.tmp rfl .nil) ⟨rfl, hS.ext⟩
  · replace H := pif_f (of_decide_eq_false hb) H
    refine CJ.skip (EJ.next ?_)
    refine CJ.seq ?_
    refine CJ.region ?_
    refine OJ.pures tU_ok 1 rfl ?_
    refine OJ.nil (EJ.next ?_)
    obtain ⟨j66, H, K66⟩ := pbind H
    refine CJ.cut (fun F w1 => ∃ (y1 : ByteArray) , (some y1 : Option ByteArray) = some j66 ∧ F = [(3, .string y1)] ∧ St w no w1 [] []) ?_ ?_
    · skip
      refine CJ.block ?_
      refine CJ.loop (fun k F w1 => ∃ (y2 : Int) (y3 : ByteArray), F = [(0, .int .i64 y2), (3, .string y3)] ∧ St w no w1 [] [] ∧ laws_markText.l1 k y2 y3 = some j66) k (F' := [(0, .int .i64 a0), (3, .string ByteArray.empty)]) ⟨rfl, rfl, trivial⟩ ⟨a0, ByteArray.empty, rfl, hS.pick [] [] rfl, H⟩ ?_
      rintro k F w1 ⟨y2, y3, rfl, hS, H⟩
      cases k with
      | zero => rw [laws_markText.l1] at H; cases H
      | succ k =>
        rw [laws_markText.l1] at H
        refine CJ.seq ?_
        refine CJ.seq ?_
        refine CJ.region ?_
        refine OJ.pures tU_ok 2 rfl ?_
        refine OJ.nil (EJ.next ?_)
        refine CJ.cond rfl (fun hb => ?_) (fun hb => ?_)
        · replace H := pif_t (of_decide_eq_true hb) H
          refine CJ.skip (EJ.next ?_)
          refine CJ.block ?_
          refine CJ.seq ?_
          refine CJ.region ?_
          refine OJ.pures tU_ok 1 rfl ?_
          refine OJ.st rfl rfl rfl (SR.rem rfl rfl rfl (by decide)) ?_
          refine OJ.pures tU_ok 2 rfl ?_
          refine OJ.ef rfl rfl rfl (Ef.lit tU_ok tI_ok hS (C := (ci .u8)) rfl rfl rfl rfl rfl rfl ([IntKind.u8.wrap (IntKind.i64.wrap (48 + (Int.tmod y2 10)))] : List Int) rfl rfl rfl rfl) ?_
          rintro _ w1 ⟨A4, rfl, hS⟩
          refine OJ.st rfl rfl rfl (SR.b2s tU_ok rfl rfl rfl rfl rfl (hS.rd (i := 0) rfl)) ?_
          refine OJ.pures tU_ok 1 rfl ?_
          obtain ⟨u5, hu5, H⟩ := pbind H
          refine OJ.st rfl rfl rfl (SR.concat rfl rfl rfl (chk_some hu5)) ?_
          refine OJ.pures tU_ok 1 rfl ?_
          refine OJ.nil (EJ.next ?_)
          refine CJ.region ?_
          refine OJ.pures tU_ok 1 rfl ?_
          refine OJ.st rfl rfl rfl (SR.quo rfl rfl rfl (by decide)) ?_
          refine OJ.pures tU_ok 1 rfl ?_
          refine OJ.nil (EJ.blk (?_))
          exact EJ.round k (F' := [(0, .int .i64 (IntKind.i64.wrap (Int.tdiv y2 10))), (3, .string ((bstr ([IntKind.u8.wrap (IntKind.i64.wrap (48 + (Int.tmod y2 10)))] : List Int)) ++ y3))]) ⟨rfl, rfl, trivial⟩ (Nat.lt_succ_self _) ⟨(IntKind.i64.wrap (Int.tdiv y2 10)), ((bstr ([IntKind.u8.wrap (IntKind.i64.wrap (48 + (Int.tmod y2 10)))] : List Int)) ++ y3), rfl, hS.pick [] [] rfl, H⟩
        · replace H := pif_f (of_decide_eq_false hb) H
          refine CJ.exit (EJ.skE (EJ.skE (EJ.hit (?_))))
          exact EJ.meet (F' := [(3, .string y3)]) ⟨rfl, trivial⟩ ⟨y3, H, rfl, hS.pick [] [] rfl⟩
    · rintro F w1 ⟨y1, he, rfl, hS⟩
      obtain rfl := Option.some.inj he
      have H := K66
      refine CJ.seq ?_
      refine CJ.region ?_
      refine OJ.pures tU_ok 1 rfl ?_
      obtain ⟨u6, hu6, H⟩ := pbind H
      refine OJ.st rfl rfl rfl (SR.concat rfl rfl rfl (chk_some hu6)) ?_
      refine OJ.pures tU_ok 1 rfl ?_
      refine OJ.nil (EJ.next ?_)
      refine CJ.ret (?_)
      obtain rfl := Option.some.inj H
      exact EJ.fin rfl (.tmp rfl .nil) ⟨rfl, hS.ext⟩

def laws_markStringS.l1 (a0 : List ByteArray) : Nat → (List ByteArray) → Int → Int → Option ((List ByteArray) × Int)
  | 0, _, _, _ => none
  | k + 1, y3, y4, y5 => if y5 < (a0.length : Int) then ((laws_markText.f k y4).bind fun t6 => (getI y3 y5).bind fun t7 => laws_markStringS.l1 a0 k (y3.set y5.toNat t6) (IntKind.i64.wrap (y4 + 1)) (IntKind.i64.wrap (y5 + 1))) else (some (y3, y4))
def laws_markStringS.f (k : Nat) (a0 : List ByteArray) (a1 : Int) : Option (Int × List ByteArray) := (laws_markStringS.l1 a0 k a0 a1 0).bind fun (y1, y2) => some (y2, y1)
theorem laws_markStringS.c (k : Nat) (w : World) (Aa0 : Option Addr) (ca0 : Nat) (a0 : List ByteArray) (a1 : Int) (hin : St w (fpU [rowC G.cs Aa0 ca0 9 a0]) w [rowC G.cs Aa0 ca0 9 a0] []) (r : Int × List ByteArray) (H : laws_markStringS.f k a0 a1 = some r) :
    CV Tryd.prog 71 [.slice Aa0 a0.length ca0, .int .i64 a1].toArray w fun v w' => v = .int .i64 r.1 ∧ St w (fpU [rowC G.cs Aa0 ca0 9 a0]) w' [rowC G.cs Aa0 ca0 9 r.2] [] ∧ r.2.length = a0.length := by
  have hS := hin
  unfold laws_markStringS.f at H
  refine CV.body Tryd.func71 rfl Tryd.ntmps71 rfl ?_
  have hl0 : a0.length = a0.length := rfl
  refine CJ.seq ?_
  refine CJ.region ?_
  refine OJ.pures tU_ok 1 rfl ?_
  refine OJ.nil (EJ.next ?_)
  refine CJ.seq ?_
  refine CJ.seq ?_
  refine CJ.region ?_
  refine OJ.pures tU_ok 1 rfl ?_
  refine OJ.nil (EJ.next ?_)
  obtain ⟨j67, H, K67⟩ := pbind H
  refine CJ.cut1 (fun F w1 => ∃ (y1 : List ByteArray) (y2 : Int) , (some (y1, y2) : Option ((List ByteArray) × Int)) = some j67 ∧ F = [(1, .int .i64 y2)] ∧ St w (fpU [rowC G.cs Aa0 ca0 9 a0]) w1 [rowC G.cs Aa0 ca0 9 y1] [] ∧ y1.length = a0.length) ?_ ?_
  · skip
    refine CJ.block ?_
    refine CJ.loop (fun k F w1 => ∃ (y3 : List ByteArray) (y4 : Int) (y5 : Int), F = [(0, .slice Aa0 a0.length ca0), (1, .int .i64 y4), (5, .int .i64 y5)] ∧ St w (fpU [rowC G.cs Aa0 ca0 9 a0]) w1 [rowC G.cs Aa0 ca0 9 y3] [] ∧ y3.length = a0.length ∧ laws_markStringS.l1 a0 k y3 y4 y5 = some j67) k (F' := [(0, .slice Aa0 a0.length ca0), (1, .int .i64 a1), (5, .int .i64 0)]) ⟨rfl, rfl, rfl, trivial⟩ ⟨a0, a1, 0, rfl, hS.pick [0] [] rfl, (by first | exact hl0 | (simp only [List.length_set]; exact hl0) | (simp only [List.length_set]; done)), H⟩ ?_
    rintro k F w1 ⟨y3, y4, y5, rfl, hS, hl0, H⟩
    cases k with
    | zero => rw [laws_markStringS.l1] at H; cases H
    | succ k =>
      rw [laws_markStringS.l1] at H
      refine CJ.seq ?_
      refine CJ.seq ?_
      refine CJ.region ?_
      refine OJ.pures tU_ok 4 rfl ?_
      refine OJ.nil (EJ.next ?_)
      refine CJ.cond rfl (fun hb => ?_) (fun hb => ?_)
      · replace H := pif_t (of_decide_eq_true hb) H
        refine CJ.skip (EJ.next ?_)
        refine CJ.seq ?_
        refine CJ.block ?_
        refine CJ.seq ?_
        refine CJ.region ?_
        refine OJ.pures tU_ok 3 rfl ?_
        obtain ⟨t6, ht6, H⟩ := pbind H
        refine OJ.callF rfl rfl rfl rfl rfl hb99 rfl (laws_markText.c k _ y4 _ ht6) ?_
        rintro _ w1 ⟨rfl, hs⟩
        replace hS := hS.grow hs
        obtain ⟨t7, ht7, H⟩ := pbind H
        obtain ⟨ad7, e7⟩ := (hS.rd (i := 0) rfl).some' ht7
        refine OJ.st rfl rfl rfl (SR.idxS tU_ok tI_ok rfl rfl rfl rfl e7 rfl (by have hg := (getI_some ht7).1; (first | rw [hl0] at hg | (simp only [List.length_set] at hg; rw [hl0] at hg)); exact hg)) ?_
        refine OJ.es rfl rfl (Es.storeR tI_ok hS (i := 0) (off := 0) rfl rfl ht7 e7 rfl rfl rfl rfl (vs := G.cs.enc t6) rfl rfl (one1 rfl) (Nat.le_of_ble_eq_true rfl) t6 rfl) ?_
        intro w1 hS
        refine OJ.nil (EJ.next ?_)
        refine CJ.region ?_
        refine OJ.pures tU_ok 3 rfl ?_
        refine OJ.nil (EJ.blk (EJ.next ?_))
        refine CJ.region ?_
        refine OJ.pures tU_ok 3 rfl ?_
        refine OJ.nil ?_
        exact EJ.round k (F' := [(0, .slice Aa0 a0.length ca0), (1, .int .i64 (IntKind.i64.wrap (y4 + 1))), (5, .int .i64 (IntKind.i64.wrap (y5 + 1)))]) ⟨rfl, rfl, rfl, trivial⟩ (Nat.lt_succ_self _) ⟨(y3.set y5.toNat t6), (IntKind.i64.wrap (y4 + 1)), (IntKind.i64.wrap (y5 + 1)), rfl, hS.pick [0] [] rfl, (by first | exact hl0 | (simp only [List.length_set]; exact hl0) | (simp only [List.length_set]; done)), H⟩
      · replace H := pif_f (of_decide_eq_false hb) H
        refine CJ.exit (EJ.skE (EJ.skE (EJ.hit (?_))))
        exact EJ.meet (F' := [(1, .int .i64 y4)]) ⟨rfl, trivial⟩ ⟨y3, y4, H, rfl, hS.pick [0] [] rfl, (by first | exact hl0 | (simp only [List.length_set]; exact hl0) | (simp only [List.length_set]; done))⟩
  · rintro F w1 ⟨y1, y2, he, rfl, hS, hl0⟩
    obtain rfl := Option.some.inj he
    have H := K67
    refine EJ.next ?_
    refine CJ.seq ?_
    refine CJ.region ?_
    refine OJ.pures tU_ok 2 rfl ?_
    refine OJ.nil (EJ.next ?_)
    refine CJ.ret (?_)
    obtain rfl := Option.some.inj H
    exact EJ.fin rfl (.tmp rfl .nil) ⟨rfl, hS.pick [0] [] rfl, (by first | exact hl0 | (simp only [List.length_set]; exact hl0) | (simp only [List.length_set]; done))⟩

def laws_markInt16S.l1 (a0 : List Int) : Nat → (List Int) → Int → Int → Option ((List Int) × Int)
  | 0, _, _, _ => none
  | k + 1, y3, y4, y5 => if y5 < (a0.length : Int) then ((getI y3 y5).bind fun t6 => laws_markInt16S.l1 a0 k (y3.set y5.toNat (IntKind.i16.wrap y4)) (IntKind.i64.wrap (y4 + 1)) (IntKind.i64.wrap (y5 + 1))) else (some (y3, y4))
def laws_markInt16S.f (k : Nat) (a0 : List Int) (a1 : Int) : Option (Int × List Int) := (laws_markInt16S.l1 a0 k a0 a1 0).bind fun (y1, y2) => some (y2, y1)
theorem laws_markInt16S.c (k : Nat) (w : World) (Aa0 : Option Addr) (ca0 : Nat) (a0 : List Int) (a1 : Int) (hin : St w (fpU [rowC (ci .i16) Aa0 ca0 73 a0]) w [rowC (ci .i16) Aa0 ca0 73 a0] []) (r : Int × List Int) (H : laws_markInt16S.f k a0 a1 = some r) :
    CV Tryd.prog 72 [.slice Aa0 a0.length ca0, .int .i64 a1].toArray w fun v w' => v = .int .i64 r.1 ∧ St w (fpU [rowC (ci .i16) Aa0 ca0 73 a0]) w' [rowC (ci .i16) Aa0 ca0 73 r.2] [] ∧ r.2.length = a0.length := by
  have hS := hin
  unfold laws_markInt16S.f at H
  refine CV.body Tryd.func72 rfl Tryd.ntmps72 rfl ?_
  have hl0 : a0.length = a0.length := rfl
  refine CJ.seq ?_
  refine CJ.region ?_
  refine OJ.pures tU_ok 1 rfl ?_
  refine OJ.nil (EJ.next ?_)
  refine CJ.seq ?_
  refine CJ.seq ?_
  refine CJ.region ?_
  refine OJ.pures tU_ok 1 rfl ?_
  refine OJ.nil (EJ.next ?_)
  obtain ⟨j69, H, K69⟩ := pbind H
  refine CJ.cut1 (fun F w1 => ∃ (y1 : List Int) (y2 : Int) , (some (y1, y2) : Option ((List Int) × Int)) = some j69 ∧ F = [(1, .int .i64 y2)] ∧ St w (fpU [rowC (ci .i16) Aa0 ca0 73 a0]) w1 [rowC (ci .i16) Aa0 ca0 73 y1] [] ∧ y1.length = a0.length) ?_ ?_
  · skip
    refine CJ.block ?_
    refine CJ.loop (fun k F w1 => ∃ (y3 : List Int) (y4 : Int) (y5 : Int), F = [(0, .slice Aa0 a0.length ca0), (1, .int .i64 y4), (5, .int .i64 y5)] ∧ St w (fpU [rowC (ci .i16) Aa0 ca0 73 a0]) w1 [rowC (ci .i16) Aa0 ca0 73 y3] [] ∧ y3.length = a0.length ∧ laws_markInt16S.l1 a0 k y3 y4 y5 = some j69) k (F' := [(0, .slice Aa0 a0.length ca0), (1, .int .i64 a1), (5, .int .i64 0)]) ⟨rfl, rfl, rfl, trivial⟩ ⟨a0, a1, 0, rfl, hS.pick [0] [] rfl, (by first | exact hl0 | (simp only [List.length_set]; exact hl0) | (simp only [List.length_set]; done)), H⟩ ?_
    rintro k F w1 ⟨y3, y4, y5, rfl, hS, hl0, H⟩
    cases k with
    | zero => rw [laws_markInt16S.l1] at H; cases H
    | succ k =>
      rw [laws_markInt16S.l1] at H
      refine CJ.seq ?_
      refine CJ.seq ?_
      refine CJ.region ?_
      refine OJ.pures tU_ok 4 rfl ?_
      refine OJ.nil (EJ.next ?_)
      refine CJ.cond rfl (fun hb => ?_) (fun hb => ?_)
      · replace H := pif_t (of_decide_eq_true hb) H
        refine CJ.skip (EJ.next ?_)
        refine CJ.seq ?_
        refine CJ.block ?_
        refine CJ.seq ?_
        refine CJ.region ?_
        refine OJ.pures tU_ok 4 rfl ?_
        obtain ⟨t6, ht6, H⟩ := pbind H
        obtain ⟨ad6, e6⟩ := (hS.rd (i := 0) rfl).some' ht6
        refine OJ.st rfl rfl rfl (SR.idxS tU_ok tI_ok rfl rfl rfl rfl e6 rfl (by have hg := (getI_some ht6).1; (first | rw [hl0] at hg | (simp only [List.length_set] at hg; rw [hl0] at hg)); exact hg)) ?_
        refine OJ.es rfl rfl (Es.storeR tI_ok hS (i := 0) (off := 0) rfl rfl ht6 e6 rfl rfl rfl rfl (vs := (ci .i16).enc (IntKind.i16.wrap y4)) rfl rfl (one1 rfl) (Nat.le_of_ble_eq_true rfl) (IntKind.i16.wrap y4) rfl) ?_
        intro w1 hS
        refine OJ.nil (EJ.next ?_)
        refine CJ.region ?_
        refine OJ.pures tU_ok 3 rfl ?_
        refine OJ.nil (EJ.blk (EJ.next ?_))
        refine CJ.region ?_
        refine OJ.pures tU_ok 3 rfl ?_
        refine OJ.nil ?_
        exact EJ.round k (F' := [(0, .slice Aa0 a0.length ca0), (1, .int .i64 (IntKind.i64.wrap (y4 + 1))), (5, .int .i64 (IntKind.i64.wrap (y5 + 1)))]) ⟨rfl, rfl, rfl, trivial⟩ (Nat.lt_succ_self _) ⟨(y3.set y5.toNat (IntKind.i16.wrap y4)), (IntKind.i64.wrap (y4 + 1)), (IntKind.i64.wrap (y5 + 1)), rfl, hS.pick [0] [] rfl, (by first | exact hl0 | (simp only [List.length_set]; exact hl0) | (simp only [List.length_set]; done)), H⟩
      · replace H := pif_f (of_decide_eq_false hb) H
        refine CJ.exit (EJ.skE (EJ.skE (EJ.hit (?_))))
        exact EJ.meet (F' := [(1, .int .i64 y4)]) ⟨rfl, trivial⟩ ⟨y3, y4, H, rfl, hS.pick [0] [] rfl, (by first | exact hl0 | (simp only [List.length_set]; exact hl0) | (simp only [List.length_set]; done))⟩
  · rintro F w1 ⟨y1, y2, he, rfl, hS, hl0⟩
    obtain rfl := Option.some.inj he
    have H := K69
    refine EJ.next ?_
    refine CJ.seq ?_
    refine CJ.region ?_
    refine OJ.pures tU_ok 2 rfl ?_
    refine OJ.nil (EJ.next ?_)
    refine CJ.ret (?_)
    obtain rfl := Option.some.inj H
    exact EJ.fin rfl (.tmp rfl .nil) ⟨rfl, hS.pick [0] [] rfl, (by first | exact hl0 | (simp only [List.length_set]; exact hl0) | (simp only [List.length_set]; done))⟩

def laws_markUint16S.l1 (a0 : List Int) : Nat → (List Int) → Int → Int → Option ((List Int) × Int)
  | 0, _, _, _ => none
  | k + 1, y3, y4, y5 => if y5 < (a0.length : Int) then ((getI y3 y5).bind fun t6 => laws_markUint16S.l1 a0 k (y3.set y5.toNat (IntKind.u16.wrap y4)) (IntKind.i64.wrap (y4 + 1)) (IntKind.i64.wrap (y5 + 1))) else (some (y3, y4))
def laws_markUint16S.f (k : Nat) (a0 : List Int) (a1 : Int) : Option (Int × List Int) := (laws_markUint16S.l1 a0 k a0 a1 0).bind fun (y1, y2) => some (y2, y1)
theorem laws_markUint16S.c (k : Nat) (w : World) (Aa0 : Option Addr) (ca0 : Nat) (a0 : List Int) (a1 : Int) (hin : St w (fpU [rowC (ci .u16) Aa0 ca0 74 a0]) w [rowC (ci .u16) Aa0 ca0 74 a0] []) (r : Int × List Int) (H : laws_markUint16S.f k a0 a1 = some r) :
    CV Tryd.prog 73 [.slice Aa0 a0.length ca0, .int .i64 a1].toArray w fun v w' => v = .int .i64 r.1 ∧ St w (fpU [rowC (ci .u16) Aa0 ca0 74 a0]) w' [rowC (ci .u16) Aa0 ca0 74 r.2] [] ∧ r.2.length = a0.length := by
  have hS := hin
  unfold laws_markUint16S.f at H
  refine CV.body Tryd.func73 rfl Tryd.ntmps73 rfl ?_
  have hl0 : a0.length = a0.length := rfl
  refine CJ.seq ?_
  refine CJ.region ?_
  refine OJ.pures tU_ok 1 rfl ?_
  refine OJ.nil (EJ.next ?_)
  refine CJ.seq ?_
  refine CJ.seq ?_
  refine CJ.region ?_
  refine OJ.pures tU_ok 1 rfl ?_
  refine OJ.nil (EJ.next ?_)
  obtain ⟨j71, H, K71⟩ := pbind H
  refine CJ.cut1 (fun F w1 => ∃ (y1 : List Int) (y2 : Int) , (some (y1, y2) : Option ((List Int) × Int)) = some j71 ∧ F = [(1, .int .i64 y2)] ∧ St w (fpU [rowC (ci .u16) Aa0 ca0 74 a0]) w1 [rowC (ci .u16) Aa0 ca0 74 y1] [] ∧ y1.length = a0.length) ?_ ?_
  · skip
    refine CJ.block ?_
    refine CJ.loop (fun k F w1 => ∃ (y3 : List Int) (y4 : Int) (y5 : Int), F = [(0, .slice Aa0 a0.length ca0), (1, .int .i64 y4), (5, .int .i64 y5)] ∧ St w (fpU [rowC (ci .u16) Aa0 ca0 74 a0]) w1 [rowC (ci .u16) Aa0 ca0 74 y3] [] ∧ y3.length = a0.length ∧ laws_markUint16S.l1 a0 k y3 y4 y5 = some j71) k (F' := [(0, .slice Aa0 a0.length ca0), (1, .int .i64 a1), (5, .int .i64 0)]) ⟨rfl, rfl, rfl, trivial⟩ ⟨a0, a1, 0, rfl, hS.pick [0] [] rfl, (by first | exact hl0 | (simp only [List.length_set]; exact hl0) | (simp only [List.length_set]; done)), H⟩ ?_
    rintro k F w1 ⟨y3, y4, y5, rfl, hS, hl0, H⟩
    cases k with
    | zero => rw [laws_markUint16S.l1] at H; cases H
    | succ k =>
      rw [laws_markUint16S.l1] at H
      refine CJ.seq ?_
      refine CJ.seq ?_
      refine CJ.region ?_
      refine OJ.pures tU_ok 4 rfl ?_
      refine OJ.nil (EJ.next ?_)
      refine CJ.cond rfl (fun hb => ?_) (fun hb => ?_)
      · replace H := pif_t (of_decide_eq_true hb) H
        refine CJ.skip (EJ.next ?_)
        refine CJ.seq ?_
        refine CJ.block ?_
        refine CJ.seq ?_
        refine CJ.region ?_
        refine OJ.pures tU_ok 4 rfl ?_
        obtain ⟨t6, ht6, H⟩ := pbind H
        obtain ⟨ad6, e6⟩ := (hS.rd (i := 0) rfl).some' ht6
        refine OJ.st rfl rfl rfl (SR.idxS tU_ok tI_ok rfl rfl rfl rfl e6 rfl (by have hg := (getI_some ht6).1; (first | rw [hl0] at hg | (simp only [List.length_set] at hg; rw [hl0] at hg)); exact hg)) ?_
        refine OJ.es rfl rfl (Es.storeR tI_ok hS (i := 0) (off := 0) rfl rfl ht6 e6 rfl rfl rfl rfl (vs := (ci .u16).enc (IntKind.u16.wrap y4)) rfl rfl (one1 rfl) (Nat.le_of_ble_eq_true rfl) (IntKind.u16.wrap y4) rfl) ?_
        intro w1 hS
        refine OJ.nil (EJ.next ?_)
        refine CJ.region ?_
        refine OJ.pures tU_ok 3 rfl ?_
        refine OJ.nil (EJ.blk (EJ.next ?_))
        refine CJ.region ?_
        refine OJ.pures tU_ok 3 rfl ?_
        refine OJ.nil ?_
        exact EJ.round k (F' := [(0, .slice Aa0 a0.length ca0), (1, .int .i64 (IntKind.i64.wrap (y4 + 1))), (5, .int .i64 (IntKind.i64.wrap (y5 + 1)))]) ⟨rfl, rfl, rfl, trivial⟩ (Nat.lt_succ_self _) ⟨(y3.set y5.toNat (IntKind.u16.wrap y4)), (IntKind.i64.wrap (y4 + 1)), (IntKind.i64.wrap (y5 + 1)), rfl, hS.pick [0] [] rfl, (by first | exact hl0 | (simp only [List.length_set]; exact hl0) | (simp only [List.length_set]; done)), H⟩
      · replace H := pif_f (of_decide_eq_false hb) H
        refine CJ.exit (EJ.skE (EJ.skE (EJ.hit (?_))))
        exact EJ.meet (F' := [(1, .int .i64 y4)]) ⟨rfl, trivial⟩ ⟨y3, y4, H, rfl, hS.pick [0] [] rfl, (by first | exact hl0 | (simp only [List.length_set]; exact hl0) | (simp only [List.length_set]; done))⟩
  · rintro F w1 ⟨y1, y2, he, rfl, hS, hl0⟩
    obtain rfl := Option.some.inj he
    have H := K71
    refine EJ.next ?_
    refine CJ.seq ?_
    refine CJ.region ?_
    refine OJ.pures tU_ok 2 rfl ?_
    refine OJ.nil (EJ.next ?_)
    refine CJ.ret (?_)
    obtain rfl := Option.some.inj H
    exact EJ.fin rfl (.tmp rfl .nil) ⟨rfl, hS.pick [0] [] rfl, (by first | exact hl0 | (simp only [List.length_set]; exact hl0) | (simp only [List.length_set]; done))⟩

def laws_markHerd.f (k : Nat) (a0 : Herd) (a1 : Int) : Option (Int × List ByteArray × List Int × List Int) := (laws_markStringS.f k a0.Names a1).bind fun t2 => (laws_markInt16S.f k a0.Eats t2.1).bind fun t3 => (laws_markUint16S.f k a0.Foes t3.1).bind fun t4 => some (t4.1, t2.2, t3.2, t4.2)
theorem laws_markHerd.c (k : Nat) (w : World) (Aa0_0 : Option Addr) (ca0_0 : Nat) (Aa0_1 : Option Addr) (ca0_1 : Nat) (Aa0_2 : Option Addr) (ca0_2 : Nat) (a0 : Herd) (a1 : Int) (hin : St w (fpU [rowC G.cs Aa0_0 ca0_0 9 a0.Names, rowC (ci .i16) Aa0_1 ca0_1 73 a0.Eats, rowC (ci .u16) Aa0_2 ca0_2 74 a0.Foes]) w [rowC G.cs Aa0_0 ca0_0 9 a0.Names, rowC (ci .i16) Aa0_1 ca0_1 73 a0.Eats, rowC (ci .u16) Aa0_2 ca0_2 74 a0.Foes] []) (r : Int × List ByteArray × List Int × List Int) (H : laws_markHerd.f k a0 a1 = some r) :
    CV Tryd.prog 29 [.agg [.slice Aa0_0 a0.Names.length ca0_0, .slice Aa0_1 a0.Eats.length ca0_1, .slice Aa0_2 a0.Foes.length ca0_2].toArray, .int .i64 a1].toArray w fun v w' => v = .int .i64 r.1 ∧ St w (fpU [rowC G.cs Aa0_0 ca0_0 9 a0.Names, rowC (ci .i16) Aa0_1 ca0_1 73 a0.Eats, rowC (ci .u16) Aa0_2 ca0_2 74 a0.Foes]) w' [rowC G.cs Aa0_0 ca0_0 9 r.2.1, rowC (ci .i16) Aa0_1 ca0_1 73 r.2.2.1, rowC (ci .u16) Aa0_2 ca0_2 74 r.2.2.2] [] ∧ r.2.1.length = a0.Names.length ∧ r.2.2.1.length = a0.Eats.length ∧ r.2.2.2.length = a0.Foes.length := by
  have hS := hin
  unfold laws_markHerd.f at H
  refine CV.body Tryd.func29 rfl Tryd.ntmps29 rfl ?_
  have hl0 : a0.Names.length = a0.Names.length := rfl
  have hl1 : a0.Eats.length = a0.Eats.length := rfl
  have hl2 : a0.Foes.length = a0.Foes.length := rfl
  refine CJ.seq ?_
  refine CJ.region ?_
  refine OJ.ef rfl rfl rfl (Ef.box hS rfl rfl ([.slice Aa0_0 a0.Names.length ca0_0, .slice Aa0_1 a0.Eats.length ca0_1, .slice Aa0_2 a0.Foes.length ca0_2]) rfl) ?_
  rintro _ w1 ⟨b1, rfl, hS⟩
  refine OJ.pures tU_ok 1 rfl ?_
  refine OJ.nil (EJ.next ?_)
  refine CJ.seq ?_
  refine CJ.region ?_
  refine OJ.st rfl rfl rfl (SR.fieldAddr tU_ok tI_ok rfl rfl rfl rfl rfl rfl) ?_
  refine OJ.st rfl rfl rfl (SR.load rfl rfl (fun w' hx => ld1 tU_ok rfl rfl (CA.ext (CA.sub (hS.cells (i := 3) rfl) 0) hx) rfl)) ?_
  refine OJ.pures tU_ok 1 rfl ?_
  obtain ⟨t2, ht2, H⟩ := pbind H
  refine OJ.callF rfl rfl rfl rfl rfl hb71 rfl (laws_markStringS.c k _ Aa0_0 ca0_0 a0.Names a1 ((hS.subs [0] [] [] rfl).pick [0] [] rfl) _ ht2) ?_
  rintro _ w1 ⟨rfl, hs, hlc0⟩
  replace hS := hS.back [0] rfl rfl [rowC G.cs Aa0_0 ca0_0 9 t2.2] [] hs ⟨fun _ => Iff.rfl, trivial⟩
  have hl0 := hlc0.trans (by first | exact hl0 | (simp only [List.length_set]; exact hl0) | (simp only [List.length_set]; done))
  refine OJ.pures tU_ok 1 rfl ?_
  refine OJ.nil (EJ.next ?_)
  refine CJ.seq ?_
  refine CJ.region ?_
  refine OJ.st rfl rfl rfl (SR.fieldAddr tU_ok tI_ok rfl rfl rfl rfl rfl rfl) ?_
  refine OJ.st rfl rfl rfl (SR.load rfl rfl (fun w' hx => ld1 tU_ok rfl rfl (CA.ext (CA.sub (hS.cells (i := 3) rfl) 1) hx) rfl)) ?_
  refine OJ.pures tU_ok 1 rfl ?_
  obtain ⟨t3, ht3, H⟩ := pbind H
  refine OJ.callF rfl rfl rfl rfl rfl hb72 rfl (laws_markInt16S.c k _ Aa0_1 ca0_1 a0.Eats t2.1 ((hS.subs [1] [] [] rfl).pick [0] [] rfl) _ ht3) ?_
  rintro _ w1 ⟨rfl, hs, hlc0⟩
  replace hS := hS.back [1] rfl rfl [rowC (ci .i16) Aa0_1 ca0_1 73 t3.2] [] hs ⟨fun _ => Iff.rfl, trivial⟩
  have hl1 := hlc0.trans (by first | exact hl1 | (simp only [List.length_set]; exact hl1) | (simp only [List.length_set]; done))
  refine OJ.pures tU_ok 1 rfl ?_
  refine OJ.nil (EJ.next ?_)
  refine CJ.seq ?_
  refine CJ.region ?_
  refine OJ.st rfl rfl rfl (SR.fieldAddr tU_ok tI_ok rfl rfl rfl rfl rfl rfl) ?_
  refine OJ.st rfl rfl rfl (SR.load rfl rfl (fun w' hx => ld1 tU_ok rfl rfl (CA.ext (CA.sub (hS.cells (i := 3) rfl) 2) hx) rfl)) ?_
  refine OJ.pures tU_ok 1 rfl ?_
  obtain ⟨t4, ht4, H⟩ := pbind H
  refine OJ.callF rfl rfl rfl rfl rfl hb73 rfl (laws_markUint16S.c k _ Aa0_2 ca0_2 a0.Foes t3.1 ((hS.subs [2] [] [] rfl).pick [0] [] rfl) _ ht4) ?_
  rintro _ w1 ⟨rfl, hs, hlc0⟩
  replace hS := hS.back [2] rfl rfl [rowC (ci .u16) Aa0_2 ca0_2 74 t4.2] [] hs ⟨fun _ => Iff.rfl, trivial⟩
  have hl2 := hlc0.trans (by first | exact hl2 | (simp only [List.length_set]; exact hl2) | (simp only [List.length_set]; done))
  refine OJ.pures tU_ok 1 rfl ?_
  refine OJ.nil (EJ.next ?_)
  refine CJ.seq ?_
  refine CJ.region ?_
  refine OJ.pures tU_ok 2 rfl ?_
  refine OJ.nil (EJ.next ?_)
  refine CJ.ret (?_)
  obtain rfl := Option.some.inj H
  exact EJ.fin rfl (.tmp rfl .nil) ⟨rfl, hS.pick [0, 1, 2] [] rfl, (by first | exact hl0 | (simp only [List.length_set]; exact hl0) | (simp only [List.length_set]; done)), (by first | exact hl1 | (simp only [List.length_set]; exact hl1) | (simp only [List.length_set]; done)), (by first | exact hl2 | (simp only [List.length_set]; exact hl2) | (simp only [List.length_set]; done))⟩

def laws_heldStringS.l1 (a0 : List ByteArray) : Nat → Int → Int → Option (Int ⊕ Int)
  | 0, _, _ => none
  | k + 1, y2, y3 => if y3 < (a0.length : Int) then ((getI a0 y3).bind fun t4 => (laws_markText.f k y2).bind fun t5 => if t4 ≠ t5 then (some (Sum.inl (-1))) else (laws_heldStringS.l1 a0 k (IntKind.i64.wrap (y2 + 1)) (IntKind.i64.wrap (y3 + 1)))) else (some (Sum.inr y2))
def laws_heldStringS.f (k : Nat) (a0 : List ByteArray) (a1 : Int) : Option Int := (laws_heldStringS.l1 a0 k a1 0).bind fun s73 => match s73 with | .inl r => some r | .inr y1 => some y1
theorem laws_heldStringS.c (k : Nat) (w : World) (Aa0 : Option Addr) (ca0 : Nat) (a0 : List ByteArray) (hr0 : Rd G.cs w Aa0 a0) (hc0 : a0.length ≤ ca0) (a1 : Int) (r : Int) (H : laws_heldStringS.f k a0 a1 = some r) :
    CV Tryd.prog 80 [.slice Aa0 a0.length ca0, .int .i64 a1].toArray w fun v w' => v = .int .i64 r ∧ Ext w w' := by
  have hS := ((St.init w no).param G.cs Aa0 ca0 a0 hr0 hc0)
  unfold laws_heldStringS.f at H
  refine CV.body Tryd.func80 rfl Tryd.ntmps80 rfl ?_
  refine CJ.seq ?_
  refine CJ.region ?_
  refine OJ.pures tU_ok 1 rfl ?_
  refine OJ.nil (EJ.next ?_)
  refine CJ.seq ?_
  refine CJ.seq ?_
  refine CJ.region ?_
  refine OJ.pures tU_ok 1 rfl ?_
  refine OJ.nil (EJ.next ?_)
  obtain ⟨j73, H, K73⟩ := pbind H
  refine CJ.cut1 (fun F w1 => ∃ (y1 : Int) , (some (Sum.inr y1) : Option (Int ⊕ Int)) = some j73 ∧ F = [(1, .int .i64 y1)] ∧ St w no w1 [] [roC G.cs Aa0 ca0 a0]) ?_ ?_
  · skip
    refine CJ.block ?_
    refine CJ.loop (fun k F w1 => ∃ (y2 : Int) (y3 : Int), F = [(0, .slice Aa0 a0.length ca0), (1, .int .i64 y2), (5, .int .i64 y3)] ∧ St w no w1 [] [roC G.cs Aa0 ca0 a0] ∧ laws_heldStringS.l1 a0 k y2 y3 = some j73) k (F' := [(0, .slice Aa0 a0.length ca0), (1, .int .i64 a1), (5, .int .i64 0)]) ⟨rfl, rfl, rfl, trivial⟩ ⟨a1, 0, rfl, hS.pick [] [0] rfl, H⟩ ?_
    rintro k F w1 ⟨y2, y3, rfl, hS, H⟩
    cases k with
    | zero => rw [laws_heldStringS.l1] at H; cases H
    | succ k =>
      rw [laws_heldStringS.l1] at H
      refine CJ.seq ?_
      refine CJ.seq ?_
      refine CJ.region ?_
      refine OJ.pures tU_ok 4 rfl ?_
      refine OJ.nil (EJ.next ?_)
      refine CJ.cond rfl (fun hb => ?_) (fun hb => ?_)
      · replace H := pif_t (of_decide_eq_true hb) H
        refine CJ.skip (EJ.next ?_)
        refine CJ.seq ?_
        refine CJ.block ?_
        refine CJ.seq ?_
        refine CJ.seq ?_
        refine CJ.draw [] [0, 1, 2, 3, 4, 5, 6] mixed (by kernel_rfl) hS fun w1 hS => ?_
        refine DJ.pures tU_ok 2 rfl ?_
        obtain ⟨t4, ht4, H⟩ := pbind H
        obtain ⟨ad4, e4⟩ := (hS.rd' (i := 0) rfl).some' ht4
        refine DJ.st rfl rfl rfl rfl rfl (SR.idxS tU_ok tI_ok rfl rfl rfl rfl e4 rfl (getI_some ht4).1) ?_
        refine DJ.st rfl rfl rfl rfl rfl (SR.load rfl rfl (fun w' hx => ld1 tU_ok rfl rfl (CA.ext ((hS.rd' (i := 0) rfl).at_ e4 ht4) hx) rfl)) ?_
        refine DJ.pures tU_ok 1 rfl ?_
        obtain ⟨t5, ht5, H⟩ := pbind H
        refine DJ.callF rfl rfl rfl rfl rfl rfl rfl hb99 rfl (laws_markText.c k _ y2 _ ht5) (by rintro v w' ⟨rfl, hs⟩; exact hs) ?_
        rintro _ w1 ⟨rfl, hs⟩
        replace hS := hS.grow hs
        refine DJ.pures tU_ok 1 rfl ?_
        refine DJ.nil (EJ.next ?_)
        refine CJ.cond rfl (fun hb => ?_) (fun hb => ?_)
        · replace H := pif_t (of_decide_eq_true hb) H
          refine CJ.seq ?_
          refine CJ.region ?_
          refine OJ.pures tU_ok 1 rfl ?_
          refine OJ.nil (EJ.next ?_)
          refine CJ.ret (EJ.skR (EJ.bkR (EJ.skR (EJ.skR (EJ.bkR (EJ.skR (EJ.skR (?_))))))))
          first | (obtain rfl := Option.some.inj H; have H := K73) | (obtain ⟨q73, H2, e73⟩ := pbind H; obtain rfl := Option.some.inj e73; obtain rfl := Option.some.inj K73; have H := H2)
          obtain rfl := Option.some.inj H
          exact EJ.fin rfl (.tmp rfl .nil) ⟨rfl, hS.ext⟩
        · replace H := pif_f (of_decide_eq_false hb) H
          refine CJ.skip (EJ.next ?_)
          refine CJ.region ?_
          refine OJ.pures tU_ok 3 rfl ?_
          refine OJ.nil (EJ.blk (EJ.next ?_))
          refine CJ.region ?_
          refine OJ.pures tU_ok 3 rfl ?_
          refine OJ.nil ?_
          exact EJ.round k (F' := [(0, .slice Aa0 a0.length ca0), (1, .int .i64 (IntKind.i64.wrap (y2 + 1))), (5, .int .i64 (IntKind.i64.wrap (y3 + 1)))]) ⟨rfl, rfl, rfl, trivial⟩ (Nat.lt_succ_self _) ⟨(IntKind.i64.wrap (y2 + 1)), (IntKind.i64.wrap (y3 + 1)), rfl, hS.pick [] [0] rfl, H⟩
      · replace H := pif_f (of_decide_eq_false hb) H
        refine CJ.exit (EJ.skE (EJ.skE (EJ.hit (?_))))
        exact EJ.meet (F' := [(1, .int .i64 y2)]) ⟨rfl, trivial⟩ ⟨y2, H, rfl, hS.pick [] [0] rfl⟩
  · rintro F w1 ⟨y1, he, rfl, hS⟩
    obtain rfl := Option.some.inj he
    have H := K73
    refine EJ.next ?_
    refine CJ.seq ?_
    refine CJ.region ?_
    refine OJ.pures tU_ok 2 rfl ?_
    refine OJ.nil (EJ.next ?_)
    refine CJ.ret (?_)
    obtain rfl := Option.some.inj H
    exact EJ.fin rfl (.tmp rfl .nil) ⟨rfl, hS.ext⟩

def laws_heldInt16S.l1 (a0 : List Int) : Nat → Int → Int → Option (Int ⊕ Int)
  | 0, _, _ => none
  | k + 1, y2, y3 => if y3 < (a0.length : Int) then ((getI a0 y3).bind fun t4 => if t4 ≠ (IntKind.i16.wrap y2) then (some (Sum.inl (-1))) else (laws_heldInt16S.l1 a0 k (IntKind.i64.wrap (y2 + 1)) (IntKind.i64.wrap (y3 + 1)))) else (some (Sum.inr y2))
def laws_heldInt16S.f (k : Nat) (a0 : List Int) (a1 : Int) : Option Int := (laws_heldInt16S.l1 a0 k a1 0).bind fun s74 => match s74 with | .inl r => some r | .inr y1 => some y1
theorem laws_heldInt16S.c (k : Nat) (w : World) (Aa0 : Option Addr) (ca0 : Nat) (a0 : List Int) (hr0 : Rd (ci .i16) w Aa0 a0) (hc0 : a0.length ≤ ca0) (a1 : Int) (r : Int) (H : laws_heldInt16S.f k a0 a1 = some r) :
    CV Tryd.prog 81 [.slice Aa0 a0.length ca0, .int .i64 a1].toArray w fun v w' => v = .int .i64 r ∧ Ext w w' := by
  have hS := ((St.init w no).param (ci .i16) Aa0 ca0 a0 hr0 hc0)
  unfold laws_heldInt16S.f at H
  refine CV.body Tryd.func81 rfl Tryd.ntmps81 rfl ?_
  refine CJ.seq ?_
  refine CJ.region ?_
  refine OJ.pures tU_ok 1 rfl ?_
  refine OJ.nil (EJ.next ?_)
  refine CJ.seq ?_
  refine CJ.seq ?_
  refine CJ.region ?_
  refine OJ.pures tU_ok 1 rfl ?_
  refine OJ.nil (EJ.next ?_)
  obtain ⟨j74, H, K74⟩ := pbind H
  refine CJ.cut1 (fun F w1 => ∃ (y1 : Int) , (some (Sum.inr y1) : Option (Int ⊕ Int)) = some j74 ∧ F = [(1, .int .i64 y1)] ∧ St w no w1 [] [roC (ci .i16) Aa0 ca0 a0]) ?_ ?_
  · skip
    refine CJ.block ?_
    refine CJ.loop (fun k F w1 => ∃ (y2 : Int) (y3 : Int), F = [(0, .slice Aa0 a0.length ca0), (1, .int .i64 y2), (5, .int .i64 y3)] ∧ St w no w1 [] [roC (ci .i16) Aa0 ca0 a0] ∧ laws_heldInt16S.l1 a0 k y2 y3 = some j74) k (F' := [(0, .slice Aa0 a0.length ca0), (1, .int .i64 a1), (5, .int .i64 0)]) ⟨rfl, rfl, rfl, trivial⟩ ⟨a1, 0, rfl, hS.pick [] [0] rfl, H⟩ ?_
    rintro k F w1 ⟨y2, y3, rfl, hS, H⟩
    cases k with
    | zero => rw [laws_heldInt16S.l1] at H; cases H
    | succ k =>
      rw [laws_heldInt16S.l1] at H
      refine CJ.seq ?_
      refine CJ.seq ?_
      refine CJ.region ?_
      refine OJ.pures tU_ok 4 rfl ?_
      refine OJ.nil (EJ.next ?_)
      refine CJ.cond rfl (fun hb => ?_) (fun hb => ?_)
      · replace H := pif_t (of_decide_eq_true hb) H
        refine CJ.skip (EJ.next ?_)
        refine CJ.seq ?_
        refine CJ.block ?_
        refine CJ.seq ?_
        refine CJ.seq ?_
        refine CJ.region ?_
        refine OJ.pures tU_ok 2 rfl ?_
        obtain ⟨t4, ht4, H⟩ := pbind H
        obtain ⟨ad4, e4⟩ := (hS.rd' (i := 0) rfl).some' ht4
        refine OJ.st rfl rfl rfl (SR.idxS tU_ok tI_ok rfl rfl rfl rfl e4 rfl (getI_some ht4).1) ?_
        refine OJ.st rfl rfl rfl (SR.load rfl rfl (fun w' hx => ld1 tU_ok rfl rfl (CA.ext ((hS.rd' (i := 0) rfl).at_ e4 ht4) hx) rfl)) ?_
        refine OJ.pures tU_ok 3 rfl ?_
        refine OJ.nil (EJ.next ?_)
        refine CJ.cond rfl (fun hb => ?_) (fun hb => ?_)
        · replace H := pif_t (of_decide_eq_true hb) H
          refine CJ.seq ?_
          refine CJ.region ?_
          refine OJ.pures tU_ok 1 rfl ?_
          refine OJ.nil (EJ.next ?_)
          refine CJ.ret (EJ.skR (EJ.bkR (EJ.skR (EJ.skR (EJ.bkR (EJ.skR (EJ.skR (?_))))))))
          first | (obtain rfl := Option.some.inj H; have H := K74) | (obtain ⟨q74, H2, e74⟩ := pbind H; obtain rfl := Option.some.inj e74; obtain rfl := Option.some.inj K74; have H := H2)
          obtain rfl := Option.some.inj H
          exact EJ.fin rfl (.tmp rfl .nil) ⟨rfl, hS.ext⟩
        · replace H := pif_f (of_decide_eq_false hb) H
          refine CJ.skip (EJ.next ?_)
          refine CJ.region ?_
          refine OJ.pures tU_ok 3 rfl ?_
          refine OJ.nil (EJ.blk (EJ.next ?_))
          refine CJ.region ?_
          refine OJ.pures tU_ok 3 rfl ?_
          refine OJ.nil ?_
          exact EJ.round k (F' := [(0, .slice Aa0 a0.length ca0), (1, .int .i64 (IntKind.i64.wrap (y2 + 1))), (5, .int .i64 (IntKind.i64.wrap (y3 + 1)))]) ⟨rfl, rfl, rfl, trivial⟩ (Nat.lt_succ_self _) ⟨(IntKind.i64.wrap (y2 + 1)), (IntKind.i64.wrap (y3 + 1)), rfl, hS.pick [] [0] rfl, H⟩
      · replace H := pif_f (of_decide_eq_false hb) H
        refine CJ.exit (EJ.skE (EJ.skE (EJ.hit (?_))))
        exact EJ.meet (F' := [(1, .int .i64 y2)]) ⟨rfl, trivial⟩ ⟨y2, H, rfl, hS.pick [] [0] rfl⟩
  · rintro F w1 ⟨y1, he, rfl, hS⟩
    obtain rfl := Option.some.inj he
    have H := K74
    refine EJ.next ?_
    refine CJ.seq ?_
    refine CJ.region ?_
    refine OJ.pures tU_ok 2 rfl ?_
    refine OJ.nil (EJ.next ?_)
    refine CJ.ret (?_)
    obtain rfl := Option.some.inj H
    exact EJ.fin rfl (.tmp rfl .nil) ⟨rfl, hS.ext⟩

def laws_heldUint16S.l1 (a0 : List Int) : Nat → Int → Int → Option (Int ⊕ Int)
  | 0, _, _ => none
  | k + 1, y2, y3 => if y3 < (a0.length : Int) then ((getI a0 y3).bind fun t4 => if t4 ≠ (IntKind.u16.wrap y2) then (some (Sum.inl (-1))) else (laws_heldUint16S.l1 a0 k (IntKind.i64.wrap (y2 + 1)) (IntKind.i64.wrap (y3 + 1)))) else (some (Sum.inr y2))
def laws_heldUint16S.f (k : Nat) (a0 : List Int) (a1 : Int) : Option Int := (laws_heldUint16S.l1 a0 k a1 0).bind fun s75 => match s75 with | .inl r => some r | .inr y1 => some y1
theorem laws_heldUint16S.c (k : Nat) (w : World) (Aa0 : Option Addr) (ca0 : Nat) (a0 : List Int) (hr0 : Rd (ci .u16) w Aa0 a0) (hc0 : a0.length ≤ ca0) (a1 : Int) (r : Int) (H : laws_heldUint16S.f k a0 a1 = some r) :
    CV Tryd.prog 82 [.slice Aa0 a0.length ca0, .int .i64 a1].toArray w fun v w' => v = .int .i64 r ∧ Ext w w' := by
  have hS := ((St.init w no).param (ci .u16) Aa0 ca0 a0 hr0 hc0)
  unfold laws_heldUint16S.f at H
  refine CV.body Tryd.func82 rfl Tryd.ntmps82 rfl ?_
  refine CJ.seq ?_
  refine CJ.region ?_
  refine OJ.pures tU_ok 1 rfl ?_
  refine OJ.nil (EJ.next ?_)
  refine CJ.seq ?_
  refine CJ.seq ?_
  refine CJ.region ?_
  refine OJ.pures tU_ok 1 rfl ?_
  refine OJ.nil (EJ.next ?_)
  obtain ⟨j75, H, K75⟩ := pbind H
  refine CJ.cut1 (fun F w1 => ∃ (y1 : Int) , (some (Sum.inr y1) : Option (Int ⊕ Int)) = some j75 ∧ F = [(1, .int .i64 y1)] ∧ St w no w1 [] [roC (ci .u16) Aa0 ca0 a0]) ?_ ?_
  · skip
    refine CJ.block ?_
    refine CJ.loop (fun k F w1 => ∃ (y2 : Int) (y3 : Int), F = [(0, .slice Aa0 a0.length ca0), (1, .int .i64 y2), (5, .int .i64 y3)] ∧ St w no w1 [] [roC (ci .u16) Aa0 ca0 a0] ∧ laws_heldUint16S.l1 a0 k y2 y3 = some j75) k (F' := [(0, .slice Aa0 a0.length ca0), (1, .int .i64 a1), (5, .int .i64 0)]) ⟨rfl, rfl, rfl, trivial⟩ ⟨a1, 0, rfl, hS.pick [] [0] rfl, H⟩ ?_
    rintro k F w1 ⟨y2, y3, rfl, hS, H⟩
    cases k with
    | zero => rw [laws_heldUint16S.l1] at H; cases H
    | succ k =>
      rw [laws_heldUint16S.l1] at H
      refine CJ.seq ?_
      refine CJ.seq ?_
      refine CJ.region ?_
      refine OJ.pures tU_ok 4 rfl ?_
      refine OJ.nil (EJ.next ?_)
      refine CJ.cond rfl (fun hb => ?_) (fun hb => ?_)
      · replace H := pif_t (of_decide_eq_true hb) H
        refine CJ.skip (EJ.next ?_)
        refine CJ.seq ?_
        refine CJ.block ?_
        refine CJ.seq ?_
        refine CJ.seq ?_
        refine CJ.region ?_
        refine OJ.pures tU_ok 2 rfl ?_
        obtain ⟨t4, ht4, H⟩ := pbind H
        obtain ⟨ad4, e4⟩ := (hS.rd' (i := 0) rfl).some' ht4
        refine OJ.st rfl rfl rfl (SR.idxS tU_ok tI_ok rfl rfl rfl rfl e4 rfl (getI_some ht4).1) ?_
        refine OJ.st rfl rfl rfl (SR.load rfl rfl (fun w' hx => ld1 tU_ok rfl rfl (CA.ext ((hS.rd' (i := 0) rfl).at_ e4 ht4) hx) rfl)) ?_
        refine OJ.pures tU_ok 3 rfl ?_
        refine OJ.nil (EJ.next ?_)
        refine CJ.cond rfl (fun hb => ?_) (fun hb => ?_)
        · replace H := pif_t (of_decide_eq_true hb) H
          refine CJ.seq ?_
          refine CJ.region ?_
          refine OJ.pures tU_ok 1 rfl ?_
          refine OJ.nil (EJ.next ?_)
          refine CJ.ret (EJ.skR (EJ.bkR (EJ.skR (EJ.skR (EJ.bkR (EJ.skR (EJ.skR (?_))))))))
          first | (obtain rfl := Option.some.inj H; have H := K75) | (obtain ⟨q75, H2, e75⟩ := pbind H; obtain rfl := Option.some.inj e75; obtain rfl := Option.some.inj K75; have H := H2)
          obtain rfl := Option.some.inj H
          exact EJ.fin rfl (.tmp rfl .nil) ⟨rfl, hS.ext⟩
        · replace H := pif_f (of_decide_eq_false hb) H
          refine CJ.skip (EJ.next ?_)
          refine CJ.region ?_
          refine OJ.pures tU_ok 3 rfl ?_
          refine OJ.nil (EJ.blk (EJ.next ?_))
          refine CJ.region ?_
          refine OJ.pures tU_ok 3 rfl ?_
          refine OJ.nil ?_
          exact EJ.round k (F' := [(0, .slice Aa0 a0.length ca0), (1, .int .i64 (IntKind.i64.wrap (y2 + 1))), (5, .int .i64 (IntKind.i64.wrap (y3 + 1)))]) ⟨rfl, rfl, rfl, trivial⟩ (Nat.lt_succ_self _) ⟨(IntKind.i64.wrap (y2 + 1)), (IntKind.i64.wrap (y3 + 1)), rfl, hS.pick [] [0] rfl, H⟩
      · replace H := pif_f (of_decide_eq_false hb) H
        refine CJ.exit (EJ.skE (EJ.skE (EJ.hit (?_))))
        exact EJ.meet (F' := [(1, .int .i64 y2)]) ⟨rfl, trivial⟩ ⟨y2, H, rfl, hS.pick [] [0] rfl⟩
  · rintro F w1 ⟨y1, he, rfl, hS⟩
    obtain rfl := Option.some.inj he
    have H := K75
    refine EJ.next ?_
    refine CJ.seq ?_
    refine CJ.region ?_
    refine OJ.pures tU_ok 2 rfl ?_
    refine OJ.nil (EJ.next ?_)
    refine CJ.ret (?_)
    obtain rfl := Option.some.inj H
    exact EJ.fin rfl (.tmp rfl .nil) ⟨rfl, hS.ext⟩

def laws_heldHerd.f (k : Nat) (a0 : Herd) (a1 : Int) : Option Int := (laws_heldStringS.f k a0.Names a1).bind fun t2 => if t2 < 0 then (some (-1)) else ((laws_heldInt16S.f k a0.Eats t2).bind fun t3 => if t3 < 0 then (some (-1)) else ((laws_heldUint16S.f k a0.Foes t3).bind fun t4 => if t4 < 0 then (some (-1)) else (some t4)))
theorem laws_heldHerd.c (k : Nat) (w : World) (Aa0_0 : Option Addr) (ca0_0 : Nat) (Aa0_1 : Option Addr) (ca0_1 : Nat) (Aa0_2 : Option Addr) (ca0_2 : Nat) (a0 : Herd) (hr0_0 : Rd G.cs w Aa0_0 a0.Names) (hc0_0 : a0.Names.length ≤ ca0_0) (hr0_1 : Rd (ci .i16) w Aa0_1 a0.Eats) (hc0_1 : a0.Eats.length ≤ ca0_1) (hr0_2 : Rd (ci .u16) w Aa0_2 a0.Foes) (hc0_2 : a0.Foes.length ≤ ca0_2) (a1 : Int) (r : Int) (H : laws_heldHerd.f k a0 a1 = some r) :
    CV Tryd.prog 39 [.agg [.slice Aa0_0 a0.Names.length ca0_0, .slice Aa0_1 a0.Eats.length ca0_1, .slice Aa0_2 a0.Foes.length ca0_2].toArray, .int .i64 a1].toArray w fun v w' => v = .int .i64 r ∧ Ext w w' := by
  have hS := ((((St.init w no).param G.cs Aa0_0 ca0_0 a0.Names hr0_0 hc0_0).param (ci .i16) Aa0_1 ca0_1 a0.Eats hr0_1 hc0_1).param (ci .u16) Aa0_2 ca0_2 a0.Foes hr0_2 hc0_2)
  unfold laws_heldHerd.f at H
  refine CV.body Tryd.func39 rfl Tryd.ntmps39 rfl ?_
  refine CJ.seq ?_
  refine CJ.region ?_
  refine OJ.ef rfl rfl rfl (Ef.box hS rfl rfl ([.slice Aa0_0 a0.Names.length ca0_0, .slice Aa0_1 a0.Eats.length ca0_1, .slice Aa0_2 a0.Foes.length ca0_2]) rfl) ?_
  rintro _ w1 ⟨b1, rfl, hS⟩
  refine OJ.pures tU_ok 1 rfl ?_
  refine OJ.nil (EJ.next ?_)
  refine CJ.seq ?_
  refine CJ.region ?_
  refine OJ.st rfl rfl rfl (SR.fieldAddr tU_ok tI_ok rfl rfl rfl rfl rfl rfl) ?_
  refine OJ.st rfl rfl rfl (SR.load rfl rfl (fun w' hx => ld1 tU_ok rfl rfl (CA.ext (CA.sub (hS.cells (i := 0) rfl) 0) hx) rfl)) ?_
  refine OJ.pures tU_ok 1 rfl ?_
  obtain ⟨t2, ht2, H⟩ := pbind H
  refine OJ.callF rfl rfl rfl rfl rfl hb80 rfl (laws_heldStringS.c k _ Aa0_0 ca0_0 a0.Names (hS.rd' (i := 0) rfl) (hS.le' (i := 0) rfl) a1 _ ht2) ?_
  rintro _ w1 ⟨rfl, hs⟩
  replace hS := hS.grow hs
  refine OJ.pures tU_ok 1 rfl ?_
  refine OJ.nil (EJ.next ?_)
  refine CJ.seq ?_
  refine CJ.seq ?_
  refine CJ.region ?_
  refine OJ.pures tU_ok 2 rfl ?_
  refine OJ.nil (EJ.next ?_)
  refine CJ.cond rfl (fun hb => ?_) (fun hb => ?_)
  · replace H := pif_t (of_decide_eq_true hb) H
    refine CJ.seq ?_
    refine CJ.region ?_
    refine OJ.pures tU_ok 1 rfl ?_
    refine OJ.nil (EJ.next ?_)
    refine CJ.ret (EJ.skR (?_))
    obtain rfl := Option.some.inj H
    exact EJ.fin rfl (.tmp rfl .nil) ⟨rfl, hS.ext⟩
  · replace H := pif_f (of_decide_eq_false hb) H
    refine CJ.skip (EJ.next ?_)
    refine CJ.seq ?_
    refine CJ.region ?_
    refine OJ.st rfl rfl rfl (SR.fieldAddr tU_ok tI_ok rfl rfl rfl rfl rfl rfl) ?_
    refine OJ.st rfl rfl rfl (SR.load rfl rfl (fun w' hx => ld1 tU_ok rfl rfl (CA.ext (CA.sub (hS.cells (i := 0) rfl) 1) hx) rfl)) ?_
    refine OJ.pures tU_ok 1 rfl ?_
    obtain ⟨t3, ht3, H⟩ := pbind H
    refine OJ.callF rfl rfl rfl rfl rfl hb81 rfl (laws_heldInt16S.c k _ Aa0_1 ca0_1 a0.Eats (hS.rd' (i := 1) rfl) (hS.le' (i := 1) rfl) t2 _ ht3) ?_
    rintro _ w1 ⟨rfl, hs⟩
    replace hS := hS.grow hs
    refine OJ.pures tU_ok 1 rfl ?_
    refine OJ.nil (EJ.next ?_)
    refine CJ.seq ?_
    refine CJ.seq ?_
    refine CJ.region ?_
    refine OJ.pures tU_ok 2 rfl ?_
    refine OJ.nil (EJ.next ?_)
    refine CJ.cond rfl (fun hb => ?_) (fun hb => ?_)
    · replace H := pif_t (of_decide_eq_true hb) H
      refine CJ.seq ?_
      refine CJ.region ?_
      refine OJ.pures tU_ok 1 rfl ?_
      refine OJ.nil (EJ.next ?_)
      refine CJ.ret (EJ.skR (?_))
      obtain rfl := Option.some.inj H
      exact EJ.fin rfl (.tmp rfl .nil) ⟨rfl, hS.ext⟩
    · replace H := pif_f (of_decide_eq_false hb) H
      refine CJ.skip (EJ.next ?_)
      refine CJ.seq ?_
      refine CJ.region ?_
      refine OJ.st rfl rfl rfl (SR.fieldAddr tU_ok tI_ok rfl rfl rfl rfl rfl rfl) ?_
      refine OJ.st rfl rfl rfl (SR.load rfl rfl (fun w' hx => ld1 tU_ok rfl rfl (CA.ext (CA.sub (hS.cells (i := 0) rfl) 2) hx) rfl)) ?_
      refine OJ.pures tU_ok 1 rfl ?_
      obtain ⟨t4, ht4, H⟩ := pbind H
      refine OJ.callF rfl rfl rfl rfl rfl hb82 rfl (laws_heldUint16S.c k _ Aa0_2 ca0_2 a0.Foes (hS.rd' (i := 2) rfl) (hS.le' (i := 2) rfl) t3 _ ht4) ?_
      rintro _ w1 ⟨rfl, hs⟩
      replace hS := hS.grow hs
      refine OJ.pures tU_ok 1 rfl ?_
      refine OJ.nil (EJ.next ?_)
      refine CJ.seq ?_
      refine CJ.seq ?_
      refine CJ.region ?_
      refine OJ.pures tU_ok 2 rfl ?_
      refine OJ.nil (EJ.next ?_)
      refine CJ.cond rfl (fun hb => ?_) (fun hb => ?_)
      · replace H := pif_t (of_decide_eq_true hb) H
        refine CJ.seq ?_
        refine CJ.region ?_
        refine OJ.pures tU_ok 1 rfl ?_
        refine OJ.nil (EJ.next ?_)
        refine CJ.ret (EJ.skR (?_))
        obtain rfl := Option.some.inj H
        exact EJ.fin rfl (.tmp rfl .nil) ⟨rfl, hS.ext⟩
      · replace H := pif_f (of_decide_eq_false hb) H
        refine CJ.skip (EJ.next ?_)
        refine CJ.seq ?_
        refine CJ.region ?_
        refine OJ.pures tU_ok 2 rfl ?_
        refine OJ.nil (EJ.next ?_)
        refine CJ.ret (?_)
        obtain rfl := Option.some.inj H
        exact EJ.fin rfl (.tmp rfl .nil) ⟨rfl, hS.ext⟩

def laws_FnExactJoinHerds.f (k : Nat) (a0 : Herd) (a1 : Herd) : Option Bool := (laws_szHerd.f k a0 1048576).bind fun t3 => if t3 < 0 then (some true) else ((laws_szHerd.f k a1 t3).bind fun t4 => if t4 < 0 then (some true) else ((laws_toHerd.f k a0).bind fun t5 => (laws_toHerd.f k a1).bind fun t12 => (spec_JoinHerds.f k t5 t12).bind fun t19 => (laws_toHerd.f k a0).bind fun t85 => (laws_toHerd.f k a1).bind fun t93 => (impl_JoinHerds.f k t85 t93).bind fun t101 => ((laws_eqHerd.f k t101.1 t19.1).bind fun t110 => if (!t110) = true then (some true) else (some (decide (t101.2 ≠ t19.2)))).bind fun y109 => if y109 = true then (some false) else ((laws_toHerd.f k a0).bind fun t111 => (laws_eqHerd.f k t85 t111).bind fun t118 => if (!t118) = true then (some false) else ((laws_toHerd.f k a1).bind fun t119 => (laws_eqHerd.f k t93 t119).bind fun t126 => if (!t126) = true then (some false) else ((laws_markHerd.f k t85 1).bind fun t127 => (laws_markHerd.f k t93 t127.1).bind fun t128 => (if t128.1 < 0 then (some true) else ((laws_eqHerd.f k t101.1 t19.1).bind fun t130 => if (!t130) = true then (some true) else (some (decide (t101.2 ≠ t19.2))))).bind fun y129 => if y129 = true then (some false) else ((laws_markHerd.f k t101.1 1).bind fun t131 => (laws_heldHerd.f k (⟨t131.2.1, t131.2.2.1, t131.2.2.2⟩ : Herd) 1).bind fun t132 => if t132 < 0 then (some false) else (if t132 ≠ t131.1 then (some false) else ((laws_toHerd.f k a0).bind fun t133 => (laws_toHerd.f k a1).bind fun t140 => (impl_JoinHerds.f k t133 t140).bind fun t147 => ((laws_eqHerd.f k t147.1 t19.1).bind fun t214 => if (!t214) = true then (some true) else (some (decide (t147.2 ≠ t19.2)))).bind fun y213 => if y213 = true then (some false) else ((laws_heldHerd.f k (⟨t131.2.1, t131.2.2.1, t131.2.2.2⟩ : Herd) 1).bind fun t215 => if t215 < 0 then (some false) else (if t215 ≠ t131.1 then (some false) else (some true)))))))))))
theorem laws_FnExactJoinHerds.c (k : Nat) (w : World) (Aa0_0 : Option Addr) (ca0_0 : Nat) (Aa0_1 : Option Addr) (ca0_1 : Nat) (Aa0_2 : Option Addr) (ca0_2 : Nat) (a0 : Herd) (hr0_0 : Rd G.cs w Aa0_0 a0.Names) (hc0_0 : a0.Names.length ≤ ca0_0) (hr0_1 : Rd (ci .i16) w Aa0_1 a0.Eats) (hc0_1 : a0.Eats.length ≤ ca0_1) (hr0_2 : Rd (ci .u16) w Aa0_2 a0.Foes) (hc0_2 : a0.Foes.length ≤ ca0_2) (Aa1_0 : Option Addr) (ca1_0 : Nat) (Aa1_1 : Option Addr) (ca1_1 : Nat) (Aa1_2 : Option Addr) (ca1_2 : Nat) (a1 : Herd) (hr1_0 : Rd G.cs w Aa1_0 a1.Names) (hc1_0 : a1.Names.length ≤ ca1_0) (hr1_1 : Rd (ci .i16) w Aa1_1 a1.Eats) (hc1_1 : a1.Eats.length ≤ ca1_1) (hr1_2 : Rd (ci .u16) w Aa1_2 a1.Foes) (hc1_2 : a1.Foes.length ≤ ca1_2) (r : Bool) (H : laws_FnExactJoinHerds.f k a0 a1 = some r) :
    CV Tryd.prog 9 [.agg [.slice Aa0_0 a0.Names.length ca0_0, .slice Aa0_1 a0.Eats.length ca0_1, .slice Aa0_2 a0.Foes.length ca0_2].toArray, .agg [.slice Aa1_0 a1.Names.length ca1_0, .slice Aa1_1 a1.Eats.length ca1_1, .slice Aa1_2 a1.Foes.length ca1_2].toArray].toArray w fun v w' => v = .bool r ∧ Ext w w' := by
  have hS := (((((((St.init w no).param G.cs Aa0_0 ca0_0 a0.Names hr0_0 hc0_0).param (ci .i16) Aa0_1 ca0_1 a0.Eats hr0_1 hc0_1).param (ci .u16) Aa0_2 ca0_2 a0.Foes hr0_2 hc0_2).param G.cs Aa1_0 ca1_0 a1.Names hr1_0 hc1_0).param (ci .i16) Aa1_1 ca1_1 a1.Eats hr1_1 hc1_1).param (ci .u16) Aa1_2 ca1_2 a1.Foes hr1_2 hc1_2)
  unfold laws_FnExactJoinHerds.f at H
  refine CV.body Tryd.func9 rfl Tryd.ntmps9 rfl ?_
  refine CJ.seq ?_
  refine CJ.region ?_
  refine OJ.ef rfl rfl rfl (Ef.box hS rfl rfl ([.slice Aa0_0 a0.Names.length ca0_0, .slice Aa0_1 a0.Eats.length ca0_1, .slice Aa0_2 a0.Foes.length ca0_2]) rfl) ?_
  rintro _ w1 ⟨b1, rfl, hS⟩
  refine OJ.ef rfl rfl rfl (Ef.box hS rfl rfl ([.slice Aa1_0 a1.Names.length ca1_0, .slice Aa1_1 a1.Eats.length ca1_1, .slice Aa1_2 a1.Foes.length ca1_2]) rfl) ?_
  rintro _ w1 ⟨b2, rfl, hS⟩
  refine OJ.pures tU_ok 1 rfl ?_
  refine OJ.nil (EJ.next ?_)
  refine CJ.seq ?_
  refine CJ.region ?_
  refine OJ.pures tU_ok 1 rfl ?_
  refine OJ.nil (EJ.next ?_)
  refine CJ.seq ?_
  refine CJ.region ?_
  refine OJ.st rfl rfl rfl (SR.load rfl rfl (fun w' hx => ldN tU_ok tI_ok rfl rfl rfl (CA.ext (hS.cells (i := 0) rfl) hx) (ds := [.slice Aa0_0 a0.Names.length ca0_0, .slice Aa0_1 a0.Eats.length ca0_1, .slice Aa0_2 a0.Foes.length ca0_2]) rfl rfl)) ?_
  refine OJ.pures tU_ok 1 rfl ?_
  obtain ⟨t3, ht3, H⟩ := pbind H
  refine OJ.callF rfl rfl rfl rfl rfl hb14 rfl (laws_szHerd.c k _ Aa0_0 ca0_0 Aa0_1 ca0_1 Aa0_2 ca0_2 a0 (hS.rd' (i := 0) rfl) (hS.le' (i := 0) rfl) (hS.rd' (i := 1) rfl) (hS.le' (i := 1) rfl) (hS.rd' (i := 2) rfl) (hS.le' (i := 2) rfl) 1048576 _ ht3) ?_
  rintro _ w1 ⟨rfl, hs⟩
  replace hS := hS.grow hs
  refine OJ.pures tU_ok 1 rfl ?_
  refine OJ.nil (EJ.next ?_)
  refine CJ.seq ?_
  refine CJ.seq ?_
  refine CJ.region ?_
  refine OJ.pures tU_ok 2 rfl ?_
  refine OJ.nil (EJ.next ?_)
  refine CJ.cond rfl (fun hb => ?_) (fun hb => ?_)
  · replace H := pif_t (of_decide_eq_true hb) H
    refine CJ.seq ?_
    refine CJ.region ?_
    refine OJ.pures tU_ok 1 rfl ?_
    refine OJ.nil (EJ.next ?_)
    refine CJ.ret (EJ.skR (?_))
    obtain rfl := Option.some.inj H
    exact EJ.fin rfl (.tmp rfl .nil) ⟨rfl, hS.ext⟩
  · replace H := pif_f (of_decide_eq_false hb) H
    refine CJ.skip (EJ.next ?_)
    refine CJ.seq ?_
    refine CJ.region ?_
    refine OJ.st rfl rfl rfl (SR.load rfl rfl (fun w' hx => ldN tU_ok tI_ok rfl rfl rfl (CA.ext (hS.cells (i := 1) rfl) hx) (ds := [.slice Aa1_0 a1.Names.length ca1_0, .slice Aa1_1 a1.Eats.length ca1_1, .slice Aa1_2 a1.Foes.length ca1_2]) rfl rfl)) ?_
    refine OJ.pures tU_ok 1 rfl ?_
    obtain ⟨t4, ht4, H⟩ := pbind H
    refine OJ.callF rfl rfl rfl rfl rfl hb14 rfl (laws_szHerd.c k _ Aa1_0 ca1_0 Aa1_1 ca1_1 Aa1_2 ca1_2 a1 (hS.rd' (i := 3) rfl) (hS.le' (i := 3) rfl) (hS.rd' (i := 4) rfl) (hS.le' (i := 4) rfl) (hS.rd' (i := 5) rfl) (hS.le' (i := 5) rfl) t3 _ ht4) ?_
    rintro _ w1 ⟨rfl, hs⟩
    replace hS := hS.grow hs
    refine OJ.pures tU_ok 1 rfl ?_
    refine OJ.nil (EJ.next ?_)
    refine CJ.seq ?_
    refine CJ.seq ?_
    refine CJ.region ?_
    refine OJ.pures tU_ok 2 rfl ?_
    refine OJ.nil (EJ.next ?_)
    refine CJ.cond rfl (fun hb => ?_) (fun hb => ?_)
    · replace H := pif_t (of_decide_eq_true hb) H
      refine CJ.seq ?_
      refine CJ.region ?_
      refine OJ.pures tU_ok 1 rfl ?_
      refine OJ.nil (EJ.next ?_)
      refine CJ.ret (EJ.skR (?_))
      obtain rfl := Option.some.inj H
      exact EJ.fin rfl (.tmp rfl .nil) ⟨rfl, hS.ext⟩
    · replace H := pif_f (of_decide_eq_false hb) H
      refine CJ.skip (EJ.next ?_)
      refine CJ.seq ?_
      obtain ⟨t5, ht5, H⟩ := pbind H
      obtain ⟨t12, ht12, H⟩ := pbind H
      obtain ⟨t19, ht19, H⟩ := pbind H
      refine CJ.cut1 (fun F w1 => ∃ (A6 : Option Addr) (c7 : Nat) (A8 : Option Addr) (c9 : Nat) (A10 : Option Addr) (c11 : Nat) (A13 : Option Addr) (c14 : Nat) (A15 : Option Addr) (c16 : Nat) (A17 : Option Addr) (c18 : Nat) (A20 : Option Addr) (c21 : Nat) (A22 : Option Addr) (c23 : Nat) (A24 : Option Addr) (c25 : Nat) (b26 : Nat), F = [(2, .pointer (some ⟨b1, 0, none⟩)), (3, .pointer (some ⟨b2, 0, none⟩)), (4, .bool false), (6, .pointer (some ⟨b26, 0, none⟩)), (7, .int .i64 t19.2)] ∧ St w no w1 [box b1 ([.slice Aa0_0 a0.Names.length ca0_0, .slice Aa0_1 a0.Eats.length ca0_1, .slice Aa0_2 a0.Foes.length ca0_2]) 26, box b2 ([.slice Aa1_0 a1.Names.length ca1_0, .slice Aa1_1 a1.Eats.length ca1_1, .slice Aa1_2 a1.Foes.length ca1_2]) 26, rowC G.cs A6 c7 9 t5.Names, rowC (ci .i16) A8 c9 73 t5.Eats, rowC (ci .u16) A10 c11 74 t5.Foes, rowC G.cs A13 c14 9 t12.Names, rowC (ci .i16) A15 c16 73 t12.Eats, rowC (ci .u16) A17 c18 74 t12.Foes, rowC G.cs A20 c21 9 t19.1.Names, rowC (ci .i16) A22 c23 73 t19.1.Eats, rowC (ci .u16) A24 c25 74 t19.1.Foes, box b26 ([.slice A20 t19.1.Names.length c21, .slice A22 t19.1.Eats.length c23, .slice A24 t19.1.Foes.length c25]) 29] [roC G.cs Aa0_0 ca0_0 a0.Names, roC (ci .i16) Aa0_1 ca0_1 a0.Eats, roC (ci .u16) Aa0_2 ca0_2 a0.Foes, roC G.cs Aa1_0 ca1_0 a1.Names, roC (ci .i16) Aa1_1 ca1_1 a1.Eats, roC (ci .u16) Aa1_2 ca1_2 a1.Foes]) ?_ ?_
      · skip
        refine CJ.drawT [] [1, 3, 4, 8, 9] (.one 0 (.one 2 (.br (.alt 1 (.br (.alt 3 (.br (.alt 4 (.one 5 (.one 6 (.one 7 (.one 8 (.one 9 (.one 10 (.fin))))))) (.alt 8 (.one 4 (.one 5 (.one 6 (.one 7 (.one 9 (.one 10 (.fin))))))) (.stop)))) (.alt 8 (.one 3 (.one 4 (.one 5 (.one 6 (.one 7 (.one 9 (.one 10 (.fin)))))))) (.stop)))) (.alt 8 (.one 1 (.one 3 (.one 4 (.one 5 (.one 6 (.one 7 (.one 9 (.one 10 (.fin))))))))) (.stop)))))) mixed (by kernel_rfl) hS [0, 1] fun w1 hS hY hV => ?_
        refine TJ.st hY rfl rfl rfl rfl rfl (fun w2 hY => SR.load rfl rfl (fun w' hx => ldN tU_ok tI_ok rfl rfl rfl (CA.ext ((hV w2 hY).cellsR (i := 6) rfl) hx) (ds := [.slice Aa0_0 a0.Names.length ca0_0, .slice Aa0_1 a0.Eats.length ca0_1, .slice Aa0_2 a0.Foes.length ca0_2]) rfl rfl)) ?_
        refine TJ.st hY rfl rfl rfl rfl rfl (fun w2 hY => SR.load rfl rfl (fun w' hx => ldN tU_ok tI_ok rfl rfl rfl (CA.ext ((hV w2 hY).cellsR (i := 7) rfl) hx) (ds := [.slice Aa1_0 a1.Names.length ca1_0, .slice Aa1_1 a1.Eats.length ca1_1, .slice Aa1_2 a1.Foes.length ca1_2]) rfl rfl)) ?_
        refine TJ.br ?_
        refine TJ.alt ?_ ?_
        · skip
          refine TJ.callF hY rfl rfl rfl rfl rfl rfl rfl hb16 rfl (laws_toHerd.c k _ Aa0_0 ca0_0 Aa0_1 ca0_1 Aa0_2 ca0_2 a0 (hS.rd' (i := 0) rfl) (hS.le' (i := 0) rfl) (hS.rd' (i := 1) rfl) (hS.le' (i := 1) rfl) (hS.rd' (i := 2) rfl) (hS.le' (i := 2) rfl) _ ht5) (by rintro v w' ⟨A27, c28, A29, c30, A31, c32, rfl, hs⟩; exact hs.ext) ?_
          rintro _ w1 hY ⟨A27, c28, A29, c30, A31, c32, rfl, hs⟩
          replace hS := hS.addN hs
          refine TJ.br ?_
          refine TJ.alt ?_ ?_
          · skip
            refine TJ.callF hY rfl rfl rfl rfl rfl rfl rfl hb16 rfl (laws_toHerd.c k _ Aa1_0 ca1_0 Aa1_1 ca1_1 Aa1_2 ca1_2 a1 (hS.rd' (i := 3) rfl) (hS.le' (i := 3) rfl) (hS.rd' (i := 4) rfl) (hS.le' (i := 4) rfl) (hS.rd' (i := 5) rfl) (hS.le' (i := 5) rfl) _ ht12) (by rintro v w' ⟨A33, c34, A35, c36, A37, c38, rfl, hs⟩; exact hs.ext) ?_
            rintro _ w1 hY ⟨A33, c34, A35, c36, A37, c38, rfl, hs⟩
            replace hS := hS.addN hs
            have hS : St w no w1 [box b1 ([.slice Aa0_0 a0.Names.length ca0_0, .slice Aa0_1 a0.Eats.length ca0_1, .slice Aa0_2 a0.Foes.length ca0_2]) 26, box b2 ([.slice Aa1_0 a1.Names.length ca1_0, .slice Aa1_1 a1.Eats.length ca1_1, .slice Aa1_2 a1.Foes.length ca1_2]) 26, rowC G.cs A27 c28 9 t5.Names, rowC (ci .i16) A29 c30 73 t5.Eats, rowC (ci .u16) A31 c32 74 t5.Foes, rowC G.cs A33 c34 9 t12.Names, rowC (ci .i16) A35 c36 73 t12.Eats, rowC (ci .u16) A37 c38 74 t12.Foes] [roC G.cs Aa0_0 ca0_0 a0.Names, roC (ci .i16) Aa0_1 ca0_1 a0.Eats, roC (ci .u16) Aa0_2 ca0_2 a0.Foes, roC G.cs Aa1_0 ca1_0 a1.Names, roC (ci .i16) Aa1_1 ca1_1 a1.Eats, roC (ci .u16) Aa1_2 ca1_2 a1.Foes] := hS
            refine TJ.br ?_
            refine TJ.alt ?_ ?_
            · skip
              refine TJ.callF hY rfl rfl rfl rfl rfl rfl rfl hb37 rfl (spec_JoinHerds.c k _ A27 c28 A29 c30 A31 c32 t5 (hS.rd (i := 2) rfl) (hS.le (i := 2) rfl) (hS.rd (i := 3) rfl) (hS.le (i := 3) rfl) (hS.rd (i := 4) rfl) (hS.le (i := 4) rfl) A33 c34 A35 c36 A37 c38 t12 (hS.rd (i := 5) rfl) (hS.le (i := 5) rfl) (hS.rd (i := 6) rfl) (hS.le (i := 6) rfl) (hS.rd (i := 7) rfl) (hS.le (i := 7) rfl) _ ht19) (by rintro v w' ⟨A39, c40, A41, c42, A43, c44, rfl, hs⟩; exact hs.ext) ?_
              rintro _ w1 hY ⟨A39, c40, A41, c42, A43, c44, rfl, hs⟩
              replace hS := hS.addN hs
              have hS : St w no w1 [box b1 ([.slice Aa0_0 a0.Names.length ca0_0, .slice Aa0_1 a0.Eats.length ca0_1, .slice Aa0_2 a0.Foes.length ca0_2]) 26, box b2 ([.slice Aa1_0 a1.Names.length ca1_0, .slice Aa1_1 a1.Eats.length ca1_1, .slice Aa1_2 a1.Foes.length ca1_2]) 26, rowC G.cs A27 c28 9 t5.Names, rowC (ci .i16) A29 c30 73 t5.Eats, rowC (ci .u16) A31 c32 74 t5.Foes, rowC G.cs A33 c34 9 t12.Names, rowC (ci .i16) A35 c36 73 t12.Eats, rowC (ci .u16) A37 c38 74 t12.Foes, rowC G.cs A39 c40 9 t19.1.Names, rowC (ci .i16) A41 c42 73 t19.1.Eats, rowC (ci .u16) A43 c44 74 t19.1.Foes] [roC G.cs Aa0_0 ca0_0 a0.Names, roC (ci .i16) Aa0_1 ca0_1 a0.Eats, roC (ci .u16) Aa0_2 ca0_2 a0.Foes, roC G.cs Aa1_0 ca1_0 a1.Names, roC (ci .i16) Aa1_1 ca1_1 a1.Eats, roC (ci .u16) Aa1_2 ca1_2 a1.Foes] := hS
              refine TJ.pures tU_ok 3 rfl ?_
              refine TJ.ef hY rfl rfl rfl rfl rfl (Ef.alloc hS tI_ok rfl rfl ([.slice none 0 0, .slice none 0 0, .slice none 0 0]) rfl) ?_
              rintro _ w1 hY ⟨b45, rfl, hS⟩
              have hO := hS
              refine TJ.es rfl rfl rfl rfl (Es.store tI_ok (hS.inn [0, 1]) (i := 11) (vs := [.slice A39 t19.1.Names.length c40, .slice A41 t19.1.Eats.length c42, .slice A43 t19.1.Foes.length c44]) rfl rfl rfl rfl rfl rfl rfl rfl (by intro u hu; simp only [List.mem_cons, List.not_mem_nil, or_false] at hu; rcases hu with rfl | rfl | rfl <;> rfl) (Nat.le_of_ble_eq_true rfl) ([.slice A39 t19.1.Names.length c40, .slice A41 t19.1.Eats.length c42, .slice A43 t19.1.Foes.length c44]) rfl) (by intro w1 hS; exact hY.wr (hO.inY [0, 1] 6 rfl rfl) hS.chg) ?_
              intro w1 hY hS
              have hS : St w no w1 [box b1 ([.slice Aa0_0 a0.Names.length ca0_0, .slice Aa0_1 a0.Eats.length ca0_1, .slice Aa0_2 a0.Foes.length ca0_2]) 26, box b2 ([.slice Aa1_0 a1.Names.length ca1_0, .slice Aa1_1 a1.Eats.length ca1_1, .slice Aa1_2 a1.Foes.length ca1_2]) 26, rowC G.cs A27 c28 9 t5.Names, rowC (ci .i16) A29 c30 73 t5.Eats, rowC (ci .u16) A31 c32 74 t5.Foes, rowC G.cs A33 c34 9 t12.Names, rowC (ci .i16) A35 c36 73 t12.Eats, rowC (ci .u16) A37 c38 74 t12.Foes, rowC G.cs A39 c40 9 t19.1.Names, rowC (ci .i16) A41 c42 73 t19.1.Eats, rowC (ci .u16) A43 c44 74 t19.1.Foes, box b45 ([.slice A39 t19.1.Names.length c40, .slice A41 t19.1.Eats.length c42, .slice A43 t19.1.Foes.length c44]) 29] [roC G.cs Aa0_0 ca0_0 a0.Names, roC (ci .i16) Aa0_1 ca0_1 a0.Eats, roC (ci .u16) Aa0_2 ca0_2 a0.Foes, roC G.cs Aa1_0 ca1_0 a1.Names, roC (ci .i16) Aa1_1 ca1_1 a1.Eats, roC (ci .u16) Aa1_2 ca1_2 a1.Foes] := hO.out [0, 1] hS
              refine TJ.pures tU_ok 1 rfl ?_
              refine TJ.nil ?_
              exact EJ.meet (F' := [(2, .pointer (some ⟨b1, 0, none⟩)), (3, .pointer (some ⟨b2, 0, none⟩)), (4, .bool false), (6, .pointer (some ⟨b45, 0, none⟩)), (7, .int .i64 t19.2)]) ⟨rfl, rfl, rfl, rfl, rfl, trivial⟩ ⟨A27, c28, A29, c30, A31, c32, A33, c34, A35, c36, A37, c38, A39, c40, A41, c42, A43, c44, b45, rfl, hS.pick [0, 1, 2, 3, 4, 5, 6, 7, 8, 9, 10, 11] [0, 1, 2, 3, 4, 5] rfl⟩
            refine TJ.alt ?_ ?_
            · skip
              refine TJ.ef hY rfl rfl rfl rfl rfl (Ef.alloc hS tI_ok rfl rfl ([.slice none 0 0, .slice none 0 0, .slice none 0 0]) rfl) ?_
              rintro _ w1 hY ⟨b46, rfl, hS⟩
              refine TJ.callF hY rfl rfl rfl rfl rfl rfl rfl hb37 rfl (spec_JoinHerds.c k _ A27 c28 A29 c30 A31 c32 t5 (hS.rd (i := 2) rfl) (hS.le (i := 2) rfl) (hS.rd (i := 3) rfl) (hS.le (i := 3) rfl) (hS.rd (i := 4) rfl) (hS.le (i := 4) rfl) A33 c34 A35 c36 A37 c38 t12 (hS.rd (i := 5) rfl) (hS.le (i := 5) rfl) (hS.rd (i := 6) rfl) (hS.le (i := 6) rfl) (hS.rd (i := 7) rfl) (hS.le (i := 7) rfl) _ ht19) (by rintro v w' ⟨A47, c48, A49, c50, A51, c52, rfl, hs⟩; exact hs.ext) ?_
              rintro _ w1 hY ⟨A47, c48, A49, c50, A51, c52, rfl, hs⟩
              replace hS := hS.addN hs
              have hS : St w no w1 [box b1 ([.slice Aa0_0 a0.Names.length ca0_0, .slice Aa0_1 a0.Eats.length ca0_1, .slice Aa0_2 a0.Foes.length ca0_2]) 26, box b2 ([.slice Aa1_0 a1.Names.length ca1_0, .slice Aa1_1 a1.Eats.length ca1_1, .slice Aa1_2 a1.Foes.length ca1_2]) 26, rowC G.cs A27 c28 9 t5.Names, rowC (ci .i16) A29 c30 73 t5.Eats, rowC (ci .u16) A31 c32 74 t5.Foes, rowC G.cs A33 c34 9 t12.Names, rowC (ci .i16) A35 c36 73 t12.Eats, rowC (ci .u16) A37 c38 74 t12.Foes, box b46 ([.slice none 0 0, .slice none 0 0, .slice none 0 0]) 29, rowC G.cs A47 c48 9 t19.1.Names, rowC (ci .i16) A49 c50 73 t19.1.Eats, rowC (ci .u16) A51 c52 74 t19.1.Foes] [roC G.cs Aa0_0 ca0_0 a0.Names, roC (ci .i16) Aa0_1 ca0_1 a0.Eats, roC (ci .u16) Aa0_2 ca0_2 a0.Foes, roC G.cs Aa1_0 ca1_0 a1.Names, roC (ci .i16) Aa1_1 ca1_1 a1.Eats, roC (ci .u16) Aa1_2 ca1_2 a1.Foes] := hS
              refine TJ.pures tU_ok 3 rfl ?_
              have hO := hS
              refine TJ.es rfl rfl rfl rfl (Es.store tI_ok (hS.inn [0, 1]) (i := 8) (vs := [.slice A47 t19.1.Names.length c48, .slice A49 t19.1.Eats.length c50, .slice A51 t19.1.Foes.length c52]) rfl rfl rfl rfl rfl rfl rfl rfl (by intro u hu; simp only [List.mem_cons, List.not_mem_nil, or_false] at hu; rcases hu with rfl | rfl | rfl <;> rfl) (Nat.le_of_ble_eq_true rfl) ([.slice A47 t19.1.Names.length c48, .slice A49 t19.1.Eats.length c50, .slice A51 t19.1.Foes.length c52]) rfl) (by intro w1 hS; exact hY.wr (hO.inY [0, 1] 6 rfl rfl) hS.chg) ?_
              intro w1 hY hS
              have hS : St w no w1 [box b1 ([.slice Aa0_0 a0.Names.length ca0_0, .slice Aa0_1 a0.Eats.length ca0_1, .slice Aa0_2 a0.Foes.length ca0_2]) 26, box b2 ([.slice Aa1_0 a1.Names.length ca1_0, .slice Aa1_1 a1.Eats.length ca1_1, .slice Aa1_2 a1.Foes.length ca1_2]) 26, rowC G.cs A27 c28 9 t5.Names, rowC (ci .i16) A29 c30 73 t5.Eats, rowC (ci .u16) A31 c32 74 t5.Foes, rowC G.cs A33 c34 9 t12.Names, rowC (ci .i16) A35 c36 73 t12.Eats, rowC (ci .u16) A37 c38 74 t12.Foes, box b46 ([.slice A47 t19.1.Names.length c48, .slice A49 t19.1.Eats.length c50, .slice A51 t19.1.Foes.length c52]) 29, rowC G.cs A47 c48 9 t19.1.Names, rowC (ci .i16) A49 c50 73 t19.1.Eats, rowC (ci .u16) A51 c52 74 t19.1.Foes] [roC G.cs Aa0_0 ca0_0 a0.Names, roC (ci .i16) Aa0_1 ca0_1 a0.Eats, roC (ci .u16) Aa0_2 ca0_2 a0.Foes, roC G.cs Aa1_0 ca1_0 a1.Names, roC (ci .i16) Aa1_1 ca1_1 a1.Eats, roC (ci .u16) Aa1_2 ca1_2 a1.Foes] := hO.out [0, 1] hS
              refine TJ.pures tU_ok 1 rfl ?_
              refine TJ.nil ?_
              exact EJ.meet (F' := [(2, .pointer (some ⟨b1, 0, none⟩)), (3, .pointer (some ⟨b2, 0, none⟩)), (4, .bool false), (6, .pointer (some ⟨b46, 0, none⟩)), (7, .int .i64 t19.2)]) ⟨rfl, rfl, rfl, rfl, rfl, trivial⟩ ⟨A27, c28, A29, c30, A31, c32, A33, c34, A35, c36, A37, c38, A47, c48, A49, c50, A51, c52, b46, rfl, hS.pick [0, 1, 2, 3, 4, 5, 6, 7, 9, 10, 11, 8] [0, 1, 2, 3, 4, 5] rfl⟩
            exact TJ.stop
          refine TJ.alt ?_ ?_
          · skip
            refine TJ.ef hY rfl rfl rfl rfl rfl (Ef.alloc hS tI_ok rfl rfl ([.slice none 0 0, .slice none 0 0, .slice none 0 0]) rfl) ?_
            rintro _ w1 hY ⟨b53, rfl, hS⟩
            refine TJ.callF hY rfl rfl rfl rfl rfl rfl rfl hb16 rfl (laws_toHerd.c k _ Aa1_0 ca1_0 Aa1_1 ca1_1 Aa1_2 ca1_2 a1 (hS.rd' (i := 3) rfl) (hS.le' (i := 3) rfl) (hS.rd' (i := 4) rfl) (hS.le' (i := 4) rfl) (hS.rd' (i := 5) rfl) (hS.le' (i := 5) rfl) _ ht12) (by rintro v w' ⟨A54, c55, A56, c57, A58, c59, rfl, hs⟩; exact hs.ext) ?_
            rintro _ w1 hY ⟨A54, c55, A56, c57, A58, c59, rfl, hs⟩
            replace hS := hS.addN hs
            have hS : St w no w1 [box b1 ([.slice Aa0_0 a0.Names.length ca0_0, .slice Aa0_1 a0.Eats.length ca0_1, .slice Aa0_2 a0.Foes.length ca0_2]) 26, box b2 ([.slice Aa1_0 a1.Names.length ca1_0, .slice Aa1_1 a1.Eats.length ca1_1, .slice Aa1_2 a1.Foes.length ca1_2]) 26, rowC G.cs A27 c28 9 t5.Names, rowC (ci .i16) A29 c30 73 t5.Eats, rowC (ci .u16) A31 c32 74 t5.Foes, box b53 ([.slice none 0 0, .slice none 0 0, .slice none 0 0]) 29, rowC G.cs A54 c55 9 t12.Names, rowC (ci .i16) A56 c57 73 t12.Eats, rowC (ci .u16) A58 c59 74 t12.Foes] [roC G.cs Aa0_0 ca0_0 a0.Names, roC (ci .i16) Aa0_1 ca0_1 a0.Eats, roC (ci .u16) Aa0_2 ca0_2 a0.Foes, roC G.cs Aa1_0 ca1_0 a1.Names, roC (ci .i16) Aa1_1 ca1_1 a1.Eats, roC (ci .u16) Aa1_2 ca1_2 a1.Foes] := hS
            refine TJ.callF hY rfl rfl rfl rfl rfl rfl rfl hb37 rfl (spec_JoinHerds.c k _ A27 c28 A29 c30 A31 c32 t5 (hS.rd (i := 2) rfl) (hS.le (i := 2) rfl) (hS.rd (i := 3) rfl) (hS.le (i := 3) rfl) (hS.rd (i := 4) rfl) (hS.le (i := 4) rfl) A54 c55 A56 c57 A58 c59 t12 (hS.rd (i := 6) rfl) (hS.le (i := 6) rfl) (hS.rd (i := 7) rfl) (hS.le (i := 7) rfl) (hS.rd (i := 8) rfl) (hS.le (i := 8) rfl) _ ht19) (by rintro v w' ⟨A60, c61, A62, c63, A64, c65, rfl, hs⟩; exact hs.ext) ?_
            rintro _ w1 hY ⟨A60, c61, A62, c63, A64, c65, rfl, hs⟩
            replace hS := hS.addN hs
            have hS : St w no w1 [box b1 ([.slice Aa0_0 a0.Names.length ca0_0, .slice Aa0_1 a0.Eats.length ca0_1, .slice Aa0_2 a0.Foes.length ca0_2]) 26, box b2 ([.slice Aa1_0 a1.Names.length ca1_0, .slice Aa1_1 a1.Eats.length ca1_1, .slice Aa1_2 a1.Foes.length ca1_2]) 26, rowC G.cs A27 c28 9 t5.Names, rowC (ci .i16) A29 c30 73 t5.Eats, rowC (ci .u16) A31 c32 74 t5.Foes, box b53 ([.slice none 0 0, .slice none 0 0, .slice none 0 0]) 29, rowC G.cs A54 c55 9 t12.Names, rowC (ci .i16) A56 c57 73 t12.Eats, rowC (ci .u16) A58 c59 74 t12.Foes, rowC G.cs A60 c61 9 t19.1.Names, rowC (ci .i16) A62 c63 73 t19.1.Eats, rowC (ci .u16) A64 c65 74 t19.1.Foes] [roC G.cs Aa0_0 ca0_0 a0.Names, roC (ci .i16) Aa0_1 ca0_1 a0.Eats, roC (ci .u16) Aa0_2 ca0_2 a0.Foes, roC G.cs Aa1_0 ca1_0 a1.Names, roC (ci .i16) Aa1_1 ca1_1 a1.Eats, roC (ci .u16) Aa1_2 ca1_2 a1.Foes] := hS
            refine TJ.pures tU_ok 3 rfl ?_
            have hO := hS
            refine TJ.es rfl rfl rfl rfl (Es.store tI_ok (hS.inn [0, 1]) (i := 5) (vs := [.slice A60 t19.1.Names.length c61, .slice A62 t19.1.Eats.length c63, .slice A64 t19.1.Foes.length c65]) rfl rfl rfl rfl rfl rfl rfl rfl (by intro u hu; simp only [List.mem_cons, List.not_mem_nil, or_false] at hu; rcases hu with rfl | rfl | rfl <;> rfl) (Nat.le_of_ble_eq_true rfl) ([.slice A60 t19.1.Names.length c61, .slice A62 t19.1.Eats.length c63, .slice A64 t19.1.Foes.length c65]) rfl) (by intro w1 hS; exact hY.wr (hO.inY [0, 1] 6 rfl rfl) hS.chg) ?_
            intro w1 hY hS
            have hS : St w no w1 [box b1 ([.slice Aa0_0 a0.Names.length ca0_0, .slice Aa0_1 a0.Eats.length ca0_1, .slice Aa0_2 a0.Foes.length ca0_2]) 26, box b2 ([.slice Aa1_0 a1.Names.length ca1_0, .slice Aa1_1 a1.Eats.length ca1_1, .slice Aa1_2 a1.Foes.length ca1_2]) 26, rowC G.cs A27 c28 9 t5.Names, rowC (ci .i16) A29 c30 73 t5.Eats, rowC (ci .u16) A31 c32 74 t5.Foes, box b53 ([.slice A60 t19.1.Names.length c61, .slice A62 t19.1.Eats.length c63, .slice A64 t19.1.Foes.length c65]) 29, rowC G.cs A54 c55 9 t12.Names, rowC (ci .i16) A56 c57 73 t12.Eats, rowC (ci .u16) A58 c59 74 t12.Foes, rowC G.cs A60 c61 9 t19.1.Names, rowC (ci .i16) A62 c63 73 t19.1.Eats, rowC (ci .u16) A64 c65 74 t19.1.Foes] [roC G.cs Aa0_0 ca0_0 a0.Names, roC (ci .i16) Aa0_1 ca0_1 a0.Eats, roC (ci .u16) Aa0_2 ca0_2 a0.Foes, roC G.cs Aa1_0 ca1_0 a1.Names, roC (ci .i16) Aa1_1 ca1_1 a1.Eats, roC (ci .u16) Aa1_2 ca1_2 a1.Foes] := hO.out [0, 1] hS
            refine TJ.pures tU_ok 1 rfl ?_
            refine TJ.nil ?_
            exact EJ.meet (F' := [(2, .pointer (some ⟨b1, 0, none⟩)), (3, .pointer (some ⟨b2, 0, none⟩)), (4, .bool false), (6, .pointer (some ⟨b53, 0, none⟩)), (7, .int .i64 t19.2)]) ⟨rfl, rfl, rfl, rfl, rfl, trivial⟩ ⟨A27, c28, A29, c30, A31, c32, A54, c55, A56, c57, A58, c59, A60, c61, A62, c63, A64, c65, b53, rfl, hS.pick [0, 1, 2, 3, 4, 6, 7, 8, 9, 10, 11, 5] [0, 1, 2, 3, 4, 5] rfl⟩
          exact TJ.stop
        refine TJ.alt ?_ ?_
        · skip
          refine TJ.ef hY rfl rfl rfl rfl rfl (Ef.alloc hS tI_ok rfl rfl ([.slice none 0 0, .slice none 0 0, .slice none 0 0]) rfl) ?_
          rintro _ w1 hY ⟨b66, rfl, hS⟩
          refine TJ.callF hY rfl rfl rfl rfl rfl rfl rfl hb16 rfl (laws_toHerd.c k _ Aa0_0 ca0_0 Aa0_1 ca0_1 Aa0_2 ca0_2 a0 (hS.rd' (i := 0) rfl) (hS.le' (i := 0) rfl) (hS.rd' (i := 1) rfl) (hS.le' (i := 1) rfl) (hS.rd' (i := 2) rfl) (hS.le' (i := 2) rfl) _ ht5) (by rintro v w' ⟨A67, c68, A69, c70, A71, c72, rfl, hs⟩; exact hs.ext) ?_
          rintro _ w1 hY ⟨A67, c68, A69, c70, A71, c72, rfl, hs⟩
          replace hS := hS.addN hs
          have hS : St w no w1 [box b1 ([.slice Aa0_0 a0.Names.length ca0_0, .slice Aa0_1 a0.Eats.length ca0_1, .slice Aa0_2 a0.Foes.length ca0_2]) 26, box b2 ([.slice Aa1_0 a1.Names.length ca1_0, .slice Aa1_1 a1.Eats.length ca1_1, .slice Aa1_2 a1.Foes.length ca1_2]) 26, box b66 ([.slice none 0 0, .slice none 0 0, .slice none 0 0]) 29, rowC G.cs A67 c68 9 t5.Names, rowC (ci .i16) A69 c70 73 t5.Eats, rowC (ci .u16) A71 c72 74 t5.Foes] [roC G.cs Aa0_0 ca0_0 a0.Names, roC (ci .i16) Aa0_1 ca0_1 a0.Eats, roC (ci .u16) Aa0_2 ca0_2 a0.Foes, roC G.cs Aa1_0 ca1_0 a1.Names, roC (ci .i16) Aa1_1 ca1_1 a1.Eats, roC (ci .u16) Aa1_2 ca1_2 a1.Foes] := hS
          refine TJ.callF hY rfl rfl rfl rfl rfl rfl rfl hb16 rfl (laws_toHerd.c k _ Aa1_0 ca1_0 Aa1_1 ca1_1 Aa1_2 ca1_2 a1 (hS.rd' (i := 3) rfl) (hS.le' (i := 3) rfl) (hS.rd' (i := 4) rfl) (hS.le' (i := 4) rfl) (hS.rd' (i := 5) rfl) (hS.le' (i := 5) rfl) _ ht12) (by rintro v w' ⟨A73, c74, A75, c76, A77, c78, rfl, hs⟩; exact hs.ext) ?_
          rintro _ w1 hY ⟨A73, c74, A75, c76, A77, c78, rfl, hs⟩
          replace hS := hS.addN hs
          have hS : St w no w1 [box b1 ([.slice Aa0_0 a0.Names.length ca0_0, .slice Aa0_1 a0.Eats.length ca0_1, .slice Aa0_2 a0.Foes.length ca0_2]) 26, box b2 ([.slice Aa1_0 a1.Names.length ca1_0, .slice Aa1_1 a1.Eats.length ca1_1, .slice Aa1_2 a1.Foes.length ca1_2]) 26, box b66 ([.slice none 0 0, .slice none 0 0, .slice none 0 0]) 29, rowC G.cs A67 c68 9 t5.Names, rowC (ci .i16) A69 c70 73 t5.Eats, rowC (ci .u16) A71 c72 74 t5.Foes, rowC G.cs A73 c74 9 t12.Names, rowC (ci .i16) A75 c76 73 t12.Eats, rowC (ci .u16) A77 c78 74 t12.Foes] [roC G.cs Aa0_0 ca0_0 a0.Names, roC (ci .i16) Aa0_1 ca0_1 a0.Eats, roC (ci .u16) Aa0_2 ca0_2 a0.Foes, roC G.cs Aa1_0 ca1_0 a1.Names, roC (ci .i16) Aa1_1 ca1_1 a1.Eats, roC (ci .u16) Aa1_2 ca1_2 a1.Foes] := hS
          refine TJ.callF hY rfl rfl rfl rfl rfl rfl rfl hb37 rfl (spec_JoinHerds.c k _ A67 c68 A69 c70 A71 c72 t5 (hS.rd (i := 3) rfl) (hS.le (i := 3) rfl) (hS.rd (i := 4) rfl) (hS.le (i := 4) rfl) (hS.rd (i := 5) rfl) (hS.le (i := 5) rfl) A73 c74 A75 c76 A77 c78 t12 (hS.rd (i := 6) rfl) (hS.le (i := 6) rfl) (hS.rd (i := 7) rfl) (hS.le (i := 7) rfl) (hS.rd (i := 8) rfl) (hS.le (i := 8) rfl) _ ht19) (by rintro v w' ⟨A79, c80, A81, c82, A83, c84, rfl, hs⟩; exact hs.ext) ?_
          rintro _ w1 hY ⟨A79, c80, A81, c82, A83, c84, rfl, hs⟩
          replace hS := hS.addN hs
          have hS : St w no w1 [box b1 ([.slice Aa0_0 a0.Names.length ca0_0, .slice Aa0_1 a0.Eats.length ca0_1, .slice Aa0_2 a0.Foes.length ca0_2]) 26, box b2 ([.slice Aa1_0 a1.Names.length ca1_0, .slice Aa1_1 a1.Eats.length ca1_1, .slice Aa1_2 a1.Foes.length ca1_2]) 26, box b66 ([.slice none 0 0, .slice none 0 0, .slice none 0 0]) 29, rowC G.cs A67 c68 9 t5.Names, rowC (ci .i16) A69 c70 73 t5.Eats, rowC (ci .u16) A71 c72 74 t5.Foes, rowC G.cs A73 c74 9 t12.Names, rowC (ci .i16) A75 c76 73 t12.Eats, rowC (ci .u16) A77 c78 74 t12.Foes, rowC G.cs A79 c80 9 t19.1.Names, rowC (ci .i16) A81 c82 73 t19.1.Eats, rowC (ci .u16) A83 c84 74 t19.1.Foes] [roC G.cs Aa0_0 ca0_0 a0.Names, roC (ci .i16) Aa0_1 ca0_1 a0.Eats, roC (ci .u16) Aa0_2 ca0_2 a0.Foes, roC G.cs Aa1_0 ca1_0 a1.Names, roC (ci .i16) Aa1_1 ca1_1 a1.Eats, roC (ci .u16) Aa1_2 ca1_2 a1.Foes] := hS
          refine TJ.pures tU_ok 3 rfl ?_
          have hO := hS
          refine TJ.es rfl rfl rfl rfl (Es.store tI_ok (hS.inn [0, 1]) (i := 2) (vs := [.slice A79 t19.1.Names.length c80, .slice A81 t19.1.Eats.length c82, .slice A83 t19.1.Foes.length c84]) rfl rfl rfl rfl rfl rfl rfl rfl (by intro u hu; simp only [List.mem_cons, List.not_mem_nil, or_false] at hu; rcases hu with rfl | rfl | rfl <;> rfl) (Nat.le_of_ble_eq_true rfl) ([.slice A79 t19.1.Names.length c80, .slice A81 t19.1.Eats.length c82, .slice A83 t19.1.Foes.length c84]) rfl) (by intro w1 hS; exact hY.wr (hO.inY [0, 1] 6 rfl rfl) hS.chg) ?_
          intro w1 hY hS
          have hS : St w no w1 [box b1 ([.slice Aa0_0 a0.Names.length ca0_0, .slice Aa0_1 a0.Eats.length ca0_1, .slice Aa0_2 a0.Foes.length ca0_2]) 26, box b2 ([.slice Aa1_0 a1.Names.length ca1_0, .slice Aa1_1 a1.Eats.length ca1_1, .slice Aa1_2 a1.Foes.length ca1_2]) 26, box b66 ([.slice A79 t19.1.Names.length c80, .slice A81 t19.1.Eats.length c82, .slice A83 t19.1.Foes.length c84]) 29, rowC G.cs A67 c68 9 t5.Names, rowC (ci .i16) A69 c70 73 t5.Eats, rowC (ci .u16) A71 c72 74 t5.Foes, rowC G.cs A73 c74 9 t12.Names, rowC (ci .i16) A75 c76 73 t12.Eats, rowC (ci .u16) A77 c78 74 t12.Foes, rowC G.cs A79 c80 9 t19.1.Names, rowC (ci .i16) A81 c82 73 t19.1.Eats, rowC (ci .u16) A83 c84 74 t19.1.Foes] [roC G.cs Aa0_0 ca0_0 a0.Names, roC (ci .i16) Aa0_1 ca0_1 a0.Eats, roC (ci .u16) Aa0_2 ca0_2 a0.Foes, roC G.cs Aa1_0 ca1_0 a1.Names, roC (ci .i16) Aa1_1 ca1_1 a1.Eats, roC (ci .u16) Aa1_2 ca1_2 a1.Foes] := hO.out [0, 1] hS
          refine TJ.pures tU_ok 1 rfl ?_
          refine TJ.nil ?_
          exact EJ.meet (F' := [(2, .pointer (some ⟨b1, 0, none⟩)), (3, .pointer (some ⟨b2, 0, none⟩)), (4, .bool false), (6, .pointer (some ⟨b66, 0, none⟩)), (7, .int .i64 t19.2)]) ⟨rfl, rfl, rfl, rfl, rfl, trivial⟩ ⟨A67, c68, A69, c70, A71, c72, A73, c74, A75, c76, A77, c78, A79, c80, A81, c82, A83, c84, b66, rfl, hS.pick [0, 1, 3, 4, 5, 6, 7, 8, 9, 10, 11, 2] [0, 1, 2, 3, 4, 5] rfl⟩
        exact TJ.stop
      · rintro F w1 ⟨A6, c7, A8, c9, A10, c11, A13, c14, A15, c16, A17, c18, A20, c21, A22, c23, A24, c25, b26, rfl, hS⟩
        refine EJ.next ?_
        refine CJ.seq ?_
        refine CJ.region ?_
        refine OJ.st rfl rfl rfl (SR.load rfl rfl (fun w' hx => ldN tU_ok tI_ok rfl rfl rfl (CA.ext (hS.cells (i := 0) rfl) hx) (ds := [.slice Aa0_0 a0.Names.length ca0_0, .slice Aa0_1 a0.Eats.length ca0_1, .slice Aa0_2 a0.Foes.length ca0_2]) rfl rfl)) ?_
        obtain ⟨t85, ht85, H⟩ := pbind H
        refine OJ.callF rfl rfl rfl rfl rfl hb16 rfl (laws_toHerd.c k _ Aa0_0 ca0_0 Aa0_1 ca0_1 Aa0_2 ca0_2 a0 (hS.rd' (i := 0) rfl) (hS.le' (i := 0) rfl) (hS.rd' (i := 1) rfl) (hS.le' (i := 1) rfl) (hS.rd' (i := 2) rfl) (hS.le' (i := 2) rfl) _ ht85) ?_
        rintro _ w1 ⟨A86, c87, A88, c89, A90, c91, rfl, hs⟩
        replace hS := hS.addN hs
        have hS : St w no w1 [box b1 ([.slice Aa0_0 a0.Names.length ca0_0, .slice Aa0_1 a0.Eats.length ca0_1, .slice Aa0_2 a0.Foes.length ca0_2]) 26, box b2 ([.slice Aa1_0 a1.Names.length ca1_0, .slice Aa1_1 a1.Eats.length ca1_1, .slice Aa1_2 a1.Foes.length ca1_2]) 26, rowC G.cs A6 c7 9 t5.Names, rowC (ci .i16) A8 c9 73 t5.Eats, rowC (ci .u16) A10 c11 74 t5.Foes, rowC G.cs A13 c14 9 t12.Names, rowC (ci .i16) A15 c16 73 t12.Eats, rowC (ci .u16) A17 c18 74 t12.Foes, rowC G.cs A20 c21 9 t19.1.Names, rowC (ci .i16) A22 c23 73 t19.1.Eats, rowC (ci .u16) A24 c25 74 t19.1.Foes, box b26 ([.slice A20 t19.1.Names.length c21, .slice A22 t19.1.Eats.length c23, .slice A24 t19.1.Foes.length c25]) 29, rowC G.cs A86 c87 9 t85.Names, rowC (ci .i16) A88 c89 73 t85.Eats, rowC (ci .u16) A90 c91 74 t85.Foes] [roC G.cs Aa0_0 ca0_0 a0.Names, roC (ci .i16) Aa0_1 ca0_1 a0.Eats, roC (ci .u16) Aa0_2 ca0_2 a0.Foes, roC G.cs Aa1_0 ca1_0 a1.Names, roC (ci .i16) Aa1_1 ca1_1 a1.Eats, roC (ci .u16) Aa1_2 ca1_2 a1.Foes] := hS
        refine OJ.ef rfl rfl rfl (Ef.alloc hS tI_ok rfl rfl ([.slice none 0 0, .slice none 0 0, .slice none 0 0]) rfl) ?_
        rintro _ w1 ⟨b92, rfl, hS⟩
        refine OJ.es rfl rfl (Es.store tI_ok hS (i := 15) (vs := [.slice A86 t85.Names.length c87, .slice A88 t85.Eats.length c89, .slice A90 t85.Foes.length c91]) rfl rfl rfl rfl rfl rfl rfl rfl (by intro u hu; simp only [List.mem_cons, List.not_mem_nil, or_false] at hu; rcases hu with rfl | rfl | rfl <;> rfl) (Nat.le_of_ble_eq_true rfl) ([.slice A86 t85.Names.length c87, .slice A88 t85.Eats.length c89, .slice A90 t85.Foes.length c91]) rfl) ?_
        intro w1 hS
        refine OJ.nil (EJ.next ?_)
        refine CJ.seq ?_
        refine CJ.region ?_
        refine OJ.st rfl rfl rfl (SR.load rfl rfl (fun w' hx => ldN tU_ok tI_ok rfl rfl rfl (CA.ext (hS.cells (i := 1) rfl) hx) (ds := [.slice Aa1_0 a1.Names.length ca1_0, .slice Aa1_1 a1.Eats.length ca1_1, .slice Aa1_2 a1.Foes.length ca1_2]) rfl rfl)) ?_
        obtain ⟨t93, ht93, H⟩ := pbind H
        refine OJ.callF rfl rfl rfl rfl rfl hb16 rfl (laws_toHerd.c k _ Aa1_0 ca1_0 Aa1_1 ca1_1 Aa1_2 ca1_2 a1 (hS.rd' (i := 3) rfl) (hS.le' (i := 3) rfl) (hS.rd' (i := 4) rfl) (hS.le' (i := 4) rfl) (hS.rd' (i := 5) rfl) (hS.le' (i := 5) rfl) _ ht93) ?_
        rintro _ w1 ⟨A94, c95, A96, c97, A98, c99, rfl, hs⟩
        replace hS := hS.addN hs
        have hS : St w no w1 [box b1 ([.slice Aa0_0 a0.Names.length ca0_0, .slice Aa0_1 a0.Eats.length ca0_1, .slice Aa0_2 a0.Foes.length ca0_2]) 26, box b2 ([.slice Aa1_0 a1.Names.length ca1_0, .slice Aa1_1 a1.Eats.length ca1_1, .slice Aa1_2 a1.Foes.length ca1_2]) 26, rowC G.cs A6 c7 9 t5.Names, rowC (ci .i16) A8 c9 73 t5.Eats, rowC (ci .u16) A10 c11 74 t5.Foes, rowC G.cs A13 c14 9 t12.Names, rowC (ci .i16) A15 c16 73 t12.Eats, rowC (ci .u16) A17 c18 74 t12.Foes, rowC G.cs A20 c21 9 t19.1.Names, rowC (ci .i16) A22 c23 73 t19.1.Eats, rowC (ci .u16) A24 c25 74 t19.1.Foes, box b26 ([.slice A20 t19.1.Names.length c21, .slice A22 t19.1.Eats.length c23, .slice A24 t19.1.Foes.length c25]) 29, rowC G.cs A86 c87 9 t85.Names, rowC (ci .i16) A88 c89 73 t85.Eats, rowC (ci .u16) A90 c91 74 t85.Foes, box b92 ([.slice A86 t85.Names.length c87, .slice A88 t85.Eats.length c89, .slice A90 t85.Foes.length c91]) 29, rowC G.cs A94 c95 9 t93.Names, rowC (ci .i16) A96 c97 73 t93.Eats, rowC (ci .u16) A98 c99 74 t93.Foes] [roC G.cs Aa0_0 ca0_0 a0.Names, roC (ci .i16) Aa0_1 ca0_1 a0.Eats, roC (ci .u16) Aa0_2 ca0_2 a0.Foes, roC G.cs Aa1_0 ca1_0 a1.Names, roC (ci .i16) Aa1_1 ca1_1 a1.Eats, roC (ci .u16) Aa1_2 ca1_2 a1.Foes] := hS
        refine OJ.ef rfl rfl rfl (Ef.alloc hS tI_ok rfl rfl ([.slice none 0 0, .slice none 0 0, .slice none 0 0]) rfl) ?_
        rintro _ w1 ⟨b100, rfl, hS⟩
        refine OJ.es rfl rfl (Es.store tI_ok hS (i := 19) (vs := [.slice A94 t93.Names.length c95, .slice A96 t93.Eats.length c97, .slice A98 t93.Foes.length c99]) rfl rfl rfl rfl rfl rfl rfl rfl (by intro u hu; simp only [List.mem_cons, List.not_mem_nil, or_false] at hu; rcases hu with rfl | rfl | rfl <;> rfl) (Nat.le_of_ble_eq_true rfl) ([.slice A94 t93.Names.length c95, .slice A96 t93.Eats.length c97, .slice A98 t93.Foes.length c99]) rfl) ?_
        intro w1 hS
        refine OJ.nil (EJ.next ?_)
        refine CJ.seq ?_
        refine CJ.region ?_
        refine OJ.st rfl rfl rfl (SR.load rfl rfl (fun w' hx => ldN tU_ok tI_ok rfl rfl rfl (CA.ext (hS.cells (i := 15) rfl) hx) (ds := [.slice A86 t85.Names.length c87, .slice A88 t85.Eats.length c89, .slice A90 t85.Foes.length c91]) rfl rfl)) ?_
        refine OJ.st rfl rfl rfl (SR.load rfl rfl (fun w' hx => ldN tU_ok tI_ok rfl rfl rfl (CA.ext (hS.cells (i := 19) rfl) hx) (ds := [.slice A94 t93.Names.length c95, .slice A96 t93.Eats.length c97, .slice A98 t93.Foes.length c99]) rfl rfl)) ?_
        obtain ⟨t101, ht101, H⟩ := pbind H
        refine OJ.callF rfl rfl rfl rfl rfl hb38 rfl (impl_JoinHerds.c k _ A86 c87 A88 c89 A90 c91 t85 (hS.rd (i := 12) rfl) (hS.le (i := 12) rfl) (hS.rd (i := 13) rfl) (hS.le (i := 13) rfl) (hS.rd (i := 14) rfl) (hS.le (i := 14) rfl) A94 c95 A96 c97 A98 c99 t93 (hS.rd (i := 16) rfl) (hS.le (i := 16) rfl) (hS.rd (i := 17) rfl) (hS.le (i := 17) rfl) (hS.rd (i := 18) rfl) (hS.le (i := 18) rfl) _ ht101) ?_
        rintro _ w1 ⟨A102, c103, A104, c105, A106, c107, rfl, hs⟩
        replace hS := hS.addN hs
        have hS : St w no w1 [box b1 ([.slice Aa0_0 a0.Names.length ca0_0, .slice Aa0_1 a0.Eats.length ca0_1, .slice Aa0_2 a0.Foes.length ca0_2]) 26, box b2 ([.slice Aa1_0 a1.Names.length ca1_0, .slice Aa1_1 a1.Eats.length ca1_1, .slice Aa1_2 a1.Foes.length ca1_2]) 26, rowC G.cs A6 c7 9 t5.Names, rowC (ci .i16) A8 c9 73 t5.Eats, rowC (ci .u16) A10 c11 74 t5.Foes, rowC G.cs A13 c14 9 t12.Names, rowC (ci .i16) A15 c16 73 t12.Eats, rowC (ci .u16) A17 c18 74 t12.Foes, rowC G.cs A20 c21 9 t19.1.Names, rowC (ci .i16) A22 c23 73 t19.1.Eats, rowC (ci .u16) A24 c25 74 t19.1.Foes, box b26 ([.slice A20 t19.1.Names.length c21, .slice A22 t19.1.Eats.length c23, .slice A24 t19.1.Foes.length c25]) 29, rowC G.cs A86 c87 9 t85.Names, rowC (ci .i16) A88 c89 73 t85.Eats, rowC (ci .u16) A90 c91 74 t85.Foes, box b92 ([.slice A86 t85.Names.length c87, .slice A88 t85.Eats.length c89, .slice A90 t85.Foes.length c91]) 29, rowC G.cs A94 c95 9 t93.Names, rowC (ci .i16) A96 c97 73 t93.Eats, rowC (ci .u16) A98 c99 74 t93.Foes, box b100 ([.slice A94 t93.Names.length c95, .slice A96 t93.Eats.length c97, .slice A98 t93.Foes.length c99]) 29, rowC G.cs A102 c103 9 t101.1.Names, rowC (ci .i16) A104 c105 73 t101.1.Eats, rowC (ci .u16) A106 c107 74 t101.1.Foes] [roC G.cs Aa0_0 ca0_0 a0.Names, roC (ci .i16) Aa0_1 ca0_1 a0.Eats, roC (ci .u16) Aa0_2 ca0_2 a0.Foes, roC G.cs Aa1_0 ca1_0 a1.Names, roC (ci .i16) Aa1_1 ca1_1 a1.Eats, roC (ci .u16) Aa1_2 ca1_2 a1.Foes] := hS
        refine OJ.pures tU_ok 3 rfl ?_
        refine OJ.ef rfl rfl rfl (Ef.alloc hS tI_ok rfl rfl ([.slice none 0 0, .slice none 0 0, .slice none 0 0]) rfl) ?_
        rintro _ w1 ⟨b108, rfl, hS⟩
        refine OJ.es rfl rfl (Es.store tI_ok hS (i := 23) (vs := [.slice A102 t101.1.Names.length c103, .slice A104 t101.1.Eats.length c105, .slice A106 t101.1.Foes.length c107]) rfl rfl rfl rfl rfl rfl rfl rfl (by intro u hu; simp only [List.mem_cons, List.not_mem_nil, or_false] at hu; rcases hu with rfl | rfl | rfl <;> rfl) (Nat.le_of_ble_eq_true rfl) ([.slice A102 t101.1.Names.length c103, .slice A104 t101.1.Eats.length c105, .slice A106 t101.1.Foes.length c107]) rfl) ?_
        intro w1 hS
        refine OJ.pures tU_ok 1 rfl ?_
        refine OJ.nil (EJ.next ?_)
        refine CJ.seq ?_
        obtain ⟨j61, H, K61⟩ := pbind H
        refine CJ.cut (fun F w1 => ∃ (y109 : Bool) , (some y109 : Option Bool) = some j61 ∧ F = [(2, .pointer (some ⟨b1, 0, none⟩)), (3, .pointer (some ⟨b2, 0, none⟩)), (6, .pointer (some ⟨b26, 0, none⟩)), (7, .int .i64 t19.2), (8, .pointer (some ⟨b92, 0, none⟩)), (9, .pointer (some ⟨b100, 0, none⟩)), (10, .pointer (some ⟨b108, 0, none⟩)), (11, .int .i64 t101.2), (53, .bool y109)] ∧ St w no w1 [box b1 ([.slice Aa0_0 a0.Names.length ca0_0, .slice Aa0_1 a0.Eats.length ca0_1, .slice Aa0_2 a0.Foes.length ca0_2]) 26, box b2 ([.slice Aa1_0 a1.Names.length ca1_0, .slice Aa1_1 a1.Eats.length ca1_1, .slice Aa1_2 a1.Foes.length ca1_2]) 26, rowC G.cs A20 c21 9 t19.1.Names, rowC (ci .i16) A22 c23 73 t19.1.Eats, rowC (ci .u16) A24 c25 74 t19.1.Foes, box b26 ([.slice A20 t19.1.Names.length c21, .slice A22 t19.1.Eats.length c23, .slice A24 t19.1.Foes.length c25]) 29, rowC G.cs A86 c87 9 t85.Names, rowC (ci .i16) A88 c89 73 t85.Eats, rowC (ci .u16) A90 c91 74 t85.Foes, box b92 ([.slice A86 t85.Names.length c87, .slice A88 t85.Eats.length c89, .slice A90 t85.Foes.length c91]) 29, rowC G.cs A94 c95 9 t93.Names, rowC (ci .i16) A96 c97 73 t93.Eats, rowC (ci .u16) A98 c99 74 t93.Foes, box b100 ([.slice A94 t93.Names.length c95, .slice A96 t93.Eats.length c97, .slice A98 t93.Foes.length c99]) 29, rowC G.cs A102 c103 9 t101.1.Names, rowC (ci .i16) A104 c105 73 t101.1.Eats, rowC (ci .u16) A106 c107 74 t101.1.Foes, box b108 ([.slice A102 t101.1.Names.length c103, .slice A104 t101.1.Eats.length c105, .slice A106 t101.1.Foes.length c107]) 29] [roC G.cs Aa0_0 ca0_0 a0.Names, roC (ci .i16) Aa0_1 ca0_1 a0.Eats, roC (ci .u16) Aa0_2 ca0_2 a0.Foes, roC G.cs Aa1_0 ca1_0 a1.Names, roC (ci .i16) Aa1_1 ca1_1 a1.Eats, roC (ci .u16) Aa1_2 ca1_2 a1.Foes]) ?_ ?_
        · skip
          refine CJ.region ?_
          refine OJ.st rfl rfl rfl (SR.load rfl rfl (fun w' hx => ldN tU_ok tI_ok rfl rfl rfl (CA.ext (hS.cells (i := 23) rfl) hx) (ds := [.slice A102 t101.1.Names.length c103, .slice A104 t101.1.Eats.length c105, .slice A106 t101.1.Foes.length c107]) rfl rfl)) ?_
          refine OJ.st rfl rfl rfl (SR.load rfl rfl (fun w' hx => ldN tU_ok tI_ok rfl rfl rfl (CA.ext (hS.cells (i := 11) rfl) hx) (ds := [.slice A20 t19.1.Names.length c21, .slice A22 t19.1.Eats.length c23, .slice A24 t19.1.Foes.length c25]) rfl rfl)) ?_
          obtain ⟨t110, ht110, H⟩ := pbind H
          refine OJ.callF rfl rfl rfl rfl rfl hb18 rfl (laws_eqHerd.c k _ A102 c103 A104 c105 A106 c107 t101.1 (hS.rd (i := 20) rfl) (hS.le (i := 20) rfl) (hS.rd (i := 21) rfl) (hS.le (i := 21) rfl) (hS.rd (i := 22) rfl) (hS.le (i := 22) rfl) A20 c21 A22 c23 A24 c25 t19.1 (hS.rd (i := 8) rfl) (hS.le (i := 8) rfl) (hS.rd (i := 9) rfl) (hS.le (i := 9) rfl) (hS.rd (i := 10) rfl) (hS.le (i := 10) rfl) _ ht110) ?_
          rintro _ w1 ⟨rfl, hs⟩
          replace hS := hS.grow hs
          refine OJ.pures tU_ok 2 rfl ?_
          refine OJ.split (t := 49) rfl (fun hb => ?_) (fun hb => ?_)
          · replace H := pif_t hb H
            refine OJ.pures tU_ok 4 rfl ?_
            refine OJ.nil ?_
            exact EJ.meet (F' := [(2, .pointer (some ⟨b1, 0, none⟩)), (3, .pointer (some ⟨b2, 0, none⟩)), (6, .pointer (some ⟨b26, 0, none⟩)), (7, .int .i64 t19.2), (8, .pointer (some ⟨b92, 0, none⟩)), (9, .pointer (some ⟨b100, 0, none⟩)), (10, .pointer (some ⟨b108, 0, none⟩)), (11, .int .i64 t101.2), (53, .bool true)]) ⟨rfl, rfl, rfl, rfl, rfl, rfl, rfl, rfl, rfl, trivial⟩ ⟨true, H, rfl, hS.pick [0, 1, 8, 9, 10, 11, 12, 13, 14, 15, 16, 17, 18, 19, 20, 21, 22, 23] [0, 1, 2, 3, 4, 5] rfl⟩
          · replace H := pifb_f hb H
            refine OJ.pures tU_ok 4 rfl ?_
            refine OJ.nil ?_
            exact EJ.meet (F' := [(2, .pointer (some ⟨b1, 0, none⟩)), (3, .pointer (some ⟨b2, 0, none⟩)), (6, .pointer (some ⟨b26, 0, none⟩)), (7, .int .i64 t19.2), (8, .pointer (some ⟨b92, 0, none⟩)), (9, .pointer (some ⟨b100, 0, none⟩)), (10, .pointer (some ⟨b108, 0, none⟩)), (11, .int .i64 t101.2), (53, .bool (decide (t101.2 ≠ t19.2)))]) ⟨rfl, rfl, rfl, rfl, rfl, rfl, rfl, rfl, rfl, trivial⟩ ⟨(decide (t101.2 ≠ t19.2)), H, rfl, hS.pick [0, 1, 8, 9, 10, 11, 12, 13, 14, 15, 16, 17, 18, 19, 20, 21, 22, 23] [0, 1, 2, 3, 4, 5] rfl⟩
        · rintro F w1 ⟨y109, he, rfl, hS⟩
          obtain rfl := Option.some.inj he
          have H := K61
          refine CJ.cond rfl (fun hb => ?_) (fun hb => ?_)
          · replace H := pif_t hb H
            refine CJ.seq ?_
            refine CJ.region ?_
            refine OJ.pures tU_ok 1 rfl ?_
            refine OJ.nil (EJ.next ?_)
            refine CJ.ret (EJ.skR (?_))
            obtain rfl := Option.some.inj H
            exact EJ.fin rfl (.tmp rfl .nil) ⟨rfl, hS.ext⟩
          · replace H := pifb_f hb H
            refine CJ.skip (EJ.next ?_)
            refine CJ.seq ?_
            refine CJ.seq ?_
            refine CJ.draw [] [0, 1, 2, 3, 4] mixed (by kernel_rfl) hS fun w1 hS => ?_
            refine DJ.st rfl rfl rfl rfl rfl (SR.load rfl rfl (fun w' hx => ldN tU_ok tI_ok rfl rfl rfl (CA.ext (hS.cells (i := 9) rfl) hx) (ds := [.slice A86 t85.Names.length c87, .slice A88 t85.Eats.length c89, .slice A90 t85.Foes.length c91]) rfl rfl)) ?_
            refine DJ.st rfl rfl rfl rfl rfl (SR.load rfl rfl (fun w' hx => ldN tU_ok tI_ok rfl rfl rfl (CA.ext (hS.cells (i := 0) rfl) hx) (ds := [.slice Aa0_0 a0.Names.length ca0_0, .slice Aa0_1 a0.Eats.length ca0_1, .slice Aa0_2 a0.Foes.length ca0_2]) rfl rfl)) ?_
            obtain ⟨t111, ht111, H⟩ := pbind H
            refine DJ.callF rfl rfl rfl rfl rfl rfl rfl hb16 rfl (laws_toHerd.c k _ Aa0_0 ca0_0 Aa0_1 ca0_1 Aa0_2 ca0_2 a0 (hS.rd' (i := 0) rfl) (hS.le' (i := 0) rfl) (hS.rd' (i := 1) rfl) (hS.le' (i := 1) rfl) (hS.rd' (i := 2) rfl) (hS.le' (i := 2) rfl) _ ht111) (by rintro v w' ⟨A112, c113, A114, c115, A116, c117, rfl, hs⟩; exact hs.ext) ?_
            rintro _ w1 ⟨A112, c113, A114, c115, A116, c117, rfl, hs⟩
            replace hS := hS.addN hs
            have hS : St w no w1 [box b1 ([.slice Aa0_0 a0.Names.length ca0_0, .slice Aa0_1 a0.Eats.length ca0_1, .slice Aa0_2 a0.Foes.length ca0_2]) 26, box b2 ([.slice Aa1_0 a1.Names.length ca1_0, .slice Aa1_1 a1.Eats.length ca1_1, .slice Aa1_2 a1.Foes.length ca1_2]) 26, rowC G.cs A20 c21 9 t19.1.Names, rowC (ci .i16) A22 c23 73 t19.1.Eats, rowC (ci .u16) A24 c25 74 t19.1.Foes, box b26 ([.slice A20 t19.1.Names.length c21, .slice A22 t19.1.Eats.length c23, .slice A24 t19.1.Foes.length c25]) 29, rowC G.cs A86 c87 9 t85.Names, rowC (ci .i16) A88 c89 73 t85.Eats, rowC (ci .u16) A90 c91 74 t85.Foes, box b92 ([.slice A86 t85.Names.length c87, .slice A88 t85.Eats.length c89, .slice A90 t85.Foes.length c91]) 29, rowC G.cs A94 c95 9 t93.Names, rowC (ci .i16) A96 c97 73 t93.Eats, rowC (ci .u16) A98 c99 74 t93.Foes, box b100 ([.slice A94 t93.Names.length c95, .slice A96 t93.Eats.length c97, .slice A98 t93.Foes.length c99]) 29, rowC G.cs A102 c103 9 t101.1.Names, rowC (ci .i16) A104 c105 73 t101.1.Eats, rowC (ci .u16) A106 c107 74 t101.1.Foes, box b108 ([.slice A102 t101.1.Names.length c103, .slice A104 t101.1.Eats.length c105, .slice A106 t101.1.Foes.length c107]) 29, rowC G.cs A112 c113 9 t111.Names, rowC (ci .i16) A114 c115 73 t111.Eats, rowC (ci .u16) A116 c117 74 t111.Foes] [roC G.cs Aa0_0 ca0_0 a0.Names, roC (ci .i16) Aa0_1 ca0_1 a0.Eats, roC (ci .u16) Aa0_2 ca0_2 a0.Foes, roC G.cs Aa1_0 ca1_0 a1.Names, roC (ci .i16) Aa1_1 ca1_1 a1.Eats, roC (ci .u16) Aa1_2 ca1_2 a1.Foes] := hS
            obtain ⟨t118, ht118, H⟩ := pbind H
            refine DJ.callF rfl rfl rfl rfl rfl rfl rfl hb18 rfl (laws_eqHerd.c k _ A86 c87 A88 c89 A90 c91 t85 (hS.rd (i := 6) rfl) (hS.le (i := 6) rfl) (hS.rd (i := 7) rfl) (hS.le (i := 7) rfl) (hS.rd (i := 8) rfl) (hS.le (i := 8) rfl) A112 c113 A114 c115 A116 c117 t111 (hS.rd (i := 18) rfl) (hS.le (i := 18) rfl) (hS.rd (i := 19) rfl) (hS.le (i := 19) rfl) (hS.rd (i := 20) rfl) (hS.le (i := 20) rfl) _ ht118) (by rintro v w' ⟨rfl, hs⟩; exact hs) ?_
            rintro _ w1 ⟨rfl, hs⟩
            replace hS := hS.grow hs
            refine DJ.pures tU_ok 1 rfl ?_
            refine DJ.nil (EJ.next ?_)
            refine CJ.cond rfl (fun hb => ?_) (fun hb => ?_)
            · replace H := pif_t hb H
              refine CJ.seq ?_
              refine CJ.region ?_
              refine OJ.pures tU_ok 1 rfl ?_
              refine OJ.nil (EJ.next ?_)
              refine CJ.ret (EJ.skR (?_))
              obtain rfl := Option.some.inj H
              exact EJ.fin rfl (.tmp rfl .nil) ⟨rfl, hS.ext⟩
            · replace H := pifb_f hb H
              refine CJ.skip (EJ.next ?_)
              refine CJ.seq ?_
              refine CJ.seq ?_
              refine CJ.draw [] [0, 1, 2, 3, 4] mixed (by kernel_rfl) hS fun w1 hS => ?_
              refine DJ.st rfl rfl rfl rfl rfl (SR.load rfl rfl (fun w' hx => ldN tU_ok tI_ok rfl rfl rfl (CA.ext (hS.cells (i := 13) rfl) hx) (ds := [.slice A94 t93.Names.length c95, .slice A96 t93.Eats.length c97, .slice A98 t93.Foes.length c99]) rfl rfl)) ?_
              refine DJ.st rfl rfl rfl rfl rfl (SR.load rfl rfl (fun w' hx => ldN tU_ok tI_ok rfl rfl rfl (CA.ext (hS.cells (i := 1) rfl) hx) (ds := [.slice Aa1_0 a1.Names.length ca1_0, .slice Aa1_1 a1.Eats.length ca1_1, .slice Aa1_2 a1.Foes.length ca1_2]) rfl rfl)) ?_
              obtain ⟨t119, ht119, H⟩ := pbind H
              refine DJ.callF rfl rfl rfl rfl rfl rfl rfl hb16 rfl (laws_toHerd.c k _ Aa1_0 ca1_0 Aa1_1 ca1_1 Aa1_2 ca1_2 a1 (hS.rd' (i := 3) rfl) (hS.le' (i := 3) rfl) (hS.rd' (i := 4) rfl) (hS.le' (i := 4) rfl) (hS.rd' (i := 5) rfl) (hS.le' (i := 5) rfl) _ ht119) (by rintro v w' ⟨A120, c121, A122, c123, A124, c125, rfl, hs⟩; exact hs.ext) ?_
              rintro _ w1 ⟨A120, c121, A122, c123, A124, c125, rfl, hs⟩
              replace hS := hS.addN hs
              have hS : St w no w1 [box b1 ([.slice Aa0_0 a0.Names.length ca0_0, .slice Aa0_1 a0.Eats.length ca0_1, .slice Aa0_2 a0.Foes.length ca0_2]) 26, box b2 ([.slice Aa1_0 a1.Names.length ca1_0, .slice Aa1_1 a1.Eats.length ca1_1, .slice Aa1_2 a1.Foes.length ca1_2]) 26, rowC G.cs A20 c21 9 t19.1.Names, rowC (ci .i16) A22 c23 73 t19.1.Eats, rowC (ci .u16) A24 c25 74 t19.1.Foes, box b26 ([.slice A20 t19.1.Names.length c21, .slice A22 t19.1.Eats.length c23, .slice A24 t19.1.Foes.length c25]) 29, rowC G.cs A86 c87 9 t85.Names, rowC (ci .i16) A88 c89 73 t85.Eats, rowC (ci .u16) A90 c91 74 t85.Foes, box b92 ([.slice A86 t85.Names.length c87, .slice A88 t85.Eats.length c89, .slice A90 t85.Foes.length c91]) 29, rowC G.cs A94 c95 9 t93.Names, rowC (ci .i16) A96 c97 73 t93.Eats, rowC (ci .u16) A98 c99 74 t93.Foes, box b100 ([.slice A94 t93.Names.length c95, .slice A96 t93.Eats.length c97, .slice A98 t93.Foes.length c99]) 29, rowC G.cs A102 c103 9 t101.1.Names, rowC (ci .i16) A104 c105 73 t101.1.Eats, rowC (ci .u16) A106 c107 74 t101.1.Foes, box b108 ([.slice A102 t101.1.Names.length c103, .slice A104 t101.1.Eats.length c105, .slice A106 t101.1.Foes.length c107]) 29, rowC G.cs A112 c113 9 t111.Names, rowC (ci .i16) A114 c115 73 t111.Eats, rowC (ci .u16) A116 c117 74 t111.Foes, rowC G.cs A120 c121 9 t119.Names, rowC (ci .i16) A122 c123 73 t119.Eats, rowC (ci .u16) A124 c125 74 t119.Foes] [roC G.cs Aa0_0 ca0_0 a0.Names, roC (ci .i16) Aa0_1 ca0_1 a0.Eats, roC (ci .u16) Aa0_2 ca0_2 a0.Foes, roC G.cs Aa1_0 ca1_0 a1.Names, roC (ci .i16) Aa1_1 ca1_1 a1.Eats, roC (ci .u16) Aa1_2 ca1_2 a1.Foes] := hS
              obtain ⟨t126, ht126, H⟩ := pbind H
              refine DJ.callF rfl rfl rfl rfl rfl rfl rfl hb18 rfl (laws_eqHerd.c k _ A94 c95 A96 c97 A98 c99 t93 (hS.rd (i := 10) rfl) (hS.le (i := 10) rfl) (hS.rd (i := 11) rfl) (hS.le (i := 11) rfl) (hS.rd (i := 12) rfl) (hS.le (i := 12) rfl) A120 c121 A122 c123 A124 c125 t119 (hS.rd (i := 21) rfl) (hS.le (i := 21) rfl) (hS.rd (i := 22) rfl) (hS.le (i := 22) rfl) (hS.rd (i := 23) rfl) (hS.le (i := 23) rfl) _ ht126) (by rintro v w' ⟨rfl, hs⟩; exact hs) ?_
              rintro _ w1 ⟨rfl, hs⟩
              replace hS := hS.grow hs
              refine DJ.pures tU_ok 1 rfl ?_
              refine DJ.nil (EJ.next ?_)
              refine CJ.cond rfl (fun hb => ?_) (fun hb => ?_)
              · replace H := pif_t hb H
                refine CJ.seq ?_
                refine CJ.region ?_
                refine OJ.pures tU_ok 1 rfl ?_
                refine OJ.nil (EJ.next ?_)
                refine CJ.ret (EJ.skR (?_))
                obtain rfl := Option.some.inj H
                exact EJ.fin rfl (.tmp rfl .nil) ⟨rfl, hS.ext⟩
              · replace H := pifb_f hb H
                refine CJ.skip (EJ.next ?_)
                refine CJ.seq ?_
                refine CJ.region ?_
                refine OJ.pures tU_ok 1 rfl ?_
                refine OJ.nil (EJ.next ?_)
                refine CJ.seq ?_
                refine CJ.region ?_
                refine OJ.st rfl rfl rfl (SR.load rfl rfl (fun w' hx => ldN tU_ok tI_ok rfl rfl rfl (CA.ext (hS.cells (i := 9) rfl) hx) (ds := [.slice A86 t85.Names.length c87, .slice A88 t85.Eats.length c89, .slice A90 t85.Foes.length c91]) rfl rfl)) ?_
                refine OJ.pures tU_ok 1 rfl ?_
                obtain ⟨t127, ht127, H⟩ := pbind H
                refine OJ.callF rfl rfl rfl rfl rfl hb29 rfl (laws_markHerd.c k _ A86 c87 A88 c89 A90 c91 t85 1 ((hS.subs [6, 7, 8] [] [] rfl).pick [0, 1, 2] [] rfl) _ ht127) ?_
                rintro _ w1 ⟨rfl, hs, hlc0, hlc1, hlc2⟩
                replace hS := hS.back [6, 7, 8] rfl rfl [rowC G.cs A86 c87 9 t127.2.1, rowC (ci .i16) A88 c89 73 t127.2.2.1, rowC (ci .u16) A90 c91 74 t127.2.2.2] [] hs ⟨fun _ => Iff.rfl, fun _ => Iff.rfl, fun _ => Iff.rfl, trivial⟩
                have hS : St w no w1 [box b1 ([.slice Aa0_0 a0.Names.length ca0_0, .slice Aa0_1 a0.Eats.length ca0_1, .slice Aa0_2 a0.Foes.length ca0_2]) 26, box b2 ([.slice Aa1_0 a1.Names.length ca1_0, .slice Aa1_1 a1.Eats.length ca1_1, .slice Aa1_2 a1.Foes.length ca1_2]) 26, rowC G.cs A20 c21 9 t19.1.Names, rowC (ci .i16) A22 c23 73 t19.1.Eats, rowC (ci .u16) A24 c25 74 t19.1.Foes, box b26 ([.slice A20 t19.1.Names.length c21, .slice A22 t19.1.Eats.length c23, .slice A24 t19.1.Foes.length c25]) 29, rowC G.cs A86 c87 9 t127.2.1, rowC (ci .i16) A88 c89 73 t127.2.2.1, rowC (ci .u16) A90 c91 74 t127.2.2.2, box b92 ([.slice A86 t85.Names.length c87, .slice A88 t85.Eats.length c89, .slice A90 t85.Foes.length c91]) 29, rowC G.cs A94 c95 9 t93.Names, rowC (ci .i16) A96 c97 73 t93.Eats, rowC (ci .u16) A98 c99 74 t93.Foes, box b100 ([.slice A94 t93.Names.length c95, .slice A96 t93.Eats.length c97, .slice A98 t93.Foes.length c99]) 29, rowC G.cs A102 c103 9 t101.1.Names, rowC (ci .i16) A104 c105 73 t101.1.Eats, rowC (ci .u16) A106 c107 74 t101.1.Foes, box b108 ([.slice A102 t101.1.Names.length c103, .slice A104 t101.1.Eats.length c105, .slice A106 t101.1.Foes.length c107]) 29, rowC G.cs A112 c113 9 t111.Names, rowC (ci .i16) A114 c115 73 t111.Eats, rowC (ci .u16) A116 c117 74 t111.Foes, rowC G.cs A120 c121 9 t119.Names, rowC (ci .i16) A122 c123 73 t119.Eats, rowC (ci .u16) A124 c125 74 t119.Foes] [roC G.cs Aa0_0 ca0_0 a0.Names, roC (ci .i16) Aa0_1 ca0_1 a0.Eats, roC (ci .u16) Aa0_2 ca0_2 a0.Foes, roC G.cs Aa1_0 ca1_0 a1.Names, roC (ci .i16) Aa1_1 ca1_1 a1.Eats, roC (ci .u16) Aa1_2 ca1_2 a1.Foes] := hS
                refine OJ.as (t := 54) rfl (show _ = (.agg [.slice A86 t127.2.1.length c87, .slice A88 t85.Eats.length c89, .slice A90 t85.Foes.length c91].toArray : Value) by simp only [hlc0]) ?_
                refine OJ.as (t := 64) rfl (show _ = (.agg [.slice A86 t127.2.1.length c87, .slice A88 t85.Eats.length c89, .slice A90 t85.Foes.length c91].toArray : Value) by simp only [hlc0]) ?_
                replace hS := hS.boxAs (i := 9) rfl (show _ = ([.slice A86 t127.2.1.length c87, .slice A88 t85.Eats.length c89, .slice A90 t85.Foes.length c91] : List Value) by simp only [hlc0])
                refine OJ.as (t := 54) rfl (show _ = (.agg [.slice A86 t127.2.1.length c87, .slice A88 t127.2.2.1.length c89, .slice A90 t85.Foes.length c91].toArray : Value) by simp only [hlc1]) ?_
                refine OJ.as (t := 64) rfl (show _ = (.agg [.slice A86 t127.2.1.length c87, .slice A88 t127.2.2.1.length c89, .slice A90 t85.Foes.length c91].toArray : Value) by simp only [hlc1]) ?_
                replace hS := hS.boxAs (i := 9) rfl (show _ = ([.slice A86 t127.2.1.length c87, .slice A88 t127.2.2.1.length c89, .slice A90 t85.Foes.length c91] : List Value) by simp only [hlc1])
                refine OJ.as (t := 54) rfl (show _ = (.agg [.slice A86 t127.2.1.length c87, .slice A88 t127.2.2.1.length c89, .slice A90 t127.2.2.2.length c91].toArray : Value) by simp only [hlc2]) ?_
                refine OJ.as (t := 64) rfl (show _ = (.agg [.slice A86 t127.2.1.length c87, .slice A88 t127.2.2.1.length c89, .slice A90 t127.2.2.2.length c91].toArray : Value) by simp only [hlc2]) ?_
                replace hS := hS.boxAs (i := 9) rfl (show _ = ([.slice A86 t127.2.1.length c87, .slice A88 t127.2.2.1.length c89, .slice A90 t127.2.2.2.length c91] : List Value) by simp only [hlc2])
                have hS : St w no w1 [box b1 ([.slice Aa0_0 a0.Names.length ca0_0, .slice Aa0_1 a0.Eats.length ca0_1, .slice Aa0_2 a0.Foes.length ca0_2]) 26, box b2 ([.slice Aa1_0 a1.Names.length ca1_0, .slice Aa1_1 a1.Eats.length ca1_1, .slice Aa1_2 a1.Foes.length ca1_2]) 26, rowC G.cs A20 c21 9 t19.1.Names, rowC (ci .i16) A22 c23 73 t19.1.Eats, rowC (ci .u16) A24 c25 74 t19.1.Foes, box b26 ([.slice A20 t19.1.Names.length c21, .slice A22 t19.1.Eats.length c23, .slice A24 t19.1.Foes.length c25]) 29, rowC G.cs A86 c87 9 t127.2.1, rowC (ci .i16) A88 c89 73 t127.2.2.1, rowC (ci .u16) A90 c91 74 t127.2.2.2, box b92 ([.slice A86 t127.2.1.length c87, .slice A88 t127.2.2.1.length c89, .slice A90 t127.2.2.2.length c91]) 29, rowC G.cs A94 c95 9 t93.Names, rowC (ci .i16) A96 c97 73 t93.Eats, rowC (ci .u16) A98 c99 74 t93.Foes, box b100 ([.slice A94 t93.Names.length c95, .slice A96 t93.Eats.length c97, .slice A98 t93.Foes.length c99]) 29, rowC G.cs A102 c103 9 t101.1.Names, rowC (ci .i16) A104 c105 73 t101.1.Eats, rowC (ci .u16) A106 c107 74 t101.1.Foes, box b108 ([.slice A102 t101.1.Names.length c103, .slice A104 t101.1.Eats.length c105, .slice A106 t101.1.Foes.length c107]) 29, rowC G.cs A112 c113 9 t111.Names, rowC (ci .i16) A114 c115 73 t111.Eats, rowC (ci .u16) A116 c117 74 t111.Foes, rowC G.cs A120 c121 9 t119.Names, rowC (ci .i16) A122 c123 73 t119.Eats, rowC (ci .u16) A124 c125 74 t119.Foes] [roC G.cs Aa0_0 ca0_0 a0.Names, roC (ci .i16) Aa0_1 ca0_1 a0.Eats, roC (ci .u16) Aa0_2 ca0_2 a0.Foes, roC G.cs Aa1_0 ca1_0 a1.Names, roC (ci .i16) Aa1_1 ca1_1 a1.Eats, roC (ci .u16) Aa1_2 ca1_2 a1.Foes] := hS
                refine OJ.pures tU_ok 1 rfl ?_
                refine OJ.nil (EJ.next ?_)
                refine CJ.seq ?_
                refine CJ.region ?_
                refine OJ.st rfl rfl rfl (SR.load rfl rfl (fun w' hx => ldN tU_ok tI_ok rfl rfl rfl (CA.ext (hS.cells (i := 13) rfl) hx) (ds := [.slice A94 t93.Names.length c95, .slice A96 t93.Eats.length c97, .slice A98 t93.Foes.length c99]) rfl rfl)) ?_
                refine OJ.pures tU_ok 1 rfl ?_
                obtain ⟨t128, ht128, H⟩ := pbind H
                refine OJ.callF rfl rfl rfl rfl rfl hb29 rfl (laws_markHerd.c k _ A94 c95 A96 c97 A98 c99 t93 t127.1 ((hS.subs [10, 11, 12] [] [] rfl).pick [0, 1, 2] [] rfl) _ ht128) ?_
                rintro _ w1 ⟨rfl, hs, hlc0, hlc1, hlc2⟩
                replace hS := hS.back [10, 11, 12] rfl rfl [rowC G.cs A94 c95 9 t128.2.1, rowC (ci .i16) A96 c97 73 t128.2.2.1, rowC (ci .u16) A98 c99 74 t128.2.2.2] [] hs ⟨fun _ => Iff.rfl, fun _ => Iff.rfl, fun _ => Iff.rfl, trivial⟩
                have hS : St w no w1 [box b1 ([.slice Aa0_0 a0.Names.length ca0_0, .slice Aa0_1 a0.Eats.length ca0_1, .slice Aa0_2 a0.Foes.length ca0_2]) 26, box b2 ([.slice Aa1_0 a1.Names.length ca1_0, .slice Aa1_1 a1.Eats.length ca1_1, .slice Aa1_2 a1.Foes.length ca1_2]) 26, rowC G.cs A20 c21 9 t19.1.Names, rowC (ci .i16) A22 c23 73 t19.1.Eats, rowC (ci .u16) A24 c25 74 t19.1.Foes, box b26 ([.slice A20 t19.1.Names.length c21, .slice A22 t19.1.Eats.length c23, .slice A24 t19.1.Foes.length c25]) 29, rowC G.cs A86 c87 9 t127.2.1, rowC (ci .i16) A88 c89 73 t127.2.2.1, rowC (ci .u16) A90 c91 74 t127.2.2.2, box b92 ([.slice A86 t127.2.1.length c87, .slice A88 t127.2.2.1.length c89, .slice A90 t127.2.2.2.length c91]) 29, rowC G.cs A94 c95 9 t128.2.1, rowC (ci .i16) A96 c97 73 t128.2.2.1, rowC (ci .u16) A98 c99 74 t128.2.2.2, box b100 ([.slice A94 t93.Names.length c95, .slice A96 t93.Eats.length c97, .slice A98 t93.Foes.length c99]) 29, rowC G.cs A102 c103 9 t101.1.Names, rowC (ci .i16) A104 c105 73 t101.1.Eats, rowC (ci .u16) A106 c107 74 t101.1.Foes, box b108 ([.slice A102 t101.1.Names.length c103, .slice A104 t101.1.Eats.length c105, .slice A106 t101.1.Foes.length c107]) 29, rowC G.cs A112 c113 9 t111.Names, rowC (ci .i16) A114 c115 73 t111.Eats, rowC (ci .u16) A116 c117 74 t111.Foes, rowC G.cs A120 c121 9 t119.Names, rowC (ci .i16) A122 c123 73 t119.Eats, rowC (ci .u16) A124 c125 74 t119.Foes] [roC G.cs Aa0_0 ca0_0 a0.Names, roC (ci .i16) Aa0_1 ca0_1 a0.Eats, roC (ci .u16) Aa0_2 ca0_2 a0.Foes, roC G.cs Aa1_0 ca1_0 a1.Names, roC (ci .i16) Aa1_1 ca1_1 a1.Eats, roC (ci .u16) Aa1_2 ca1_2 a1.Foes] := hS
                refine OJ.as (t := 59) rfl (show _ = (.agg [.slice A94 t128.2.1.length c95, .slice A96 t93.Eats.length c97, .slice A98 t93.Foes.length c99].toArray : Value) by simp only [hlc0]) ?_
                refine OJ.as (t := 67) rfl (show _ = (.agg [.slice A94 t128.2.1.length c95, .slice A96 t93.Eats.length c97, .slice A98 t93.Foes.length c99].toArray : Value) by simp only [hlc0]) ?_
                replace hS := hS.boxAs (i := 13) rfl (show _ = ([.slice A94 t128.2.1.length c95, .slice A96 t93.Eats.length c97, .slice A98 t93.Foes.length c99] : List Value) by simp only [hlc0])
                refine OJ.as (t := 59) rfl (show _ = (.agg [.slice A94 t128.2.1.length c95, .slice A96 t128.2.2.1.length c97, .slice A98 t93.Foes.length c99].toArray : Value) by simp only [hlc1]) ?_
                refine OJ.as (t := 67) rfl (show _ = (.agg [.slice A94 t128.2.1.length c95, .slice A96 t128.2.2.1.length c97, .slice A98 t93.Foes.length c99].toArray : Value) by simp only [hlc1]) ?_
                replace hS := hS.boxAs (i := 13) rfl (show _ = ([.slice A94 t128.2.1.length c95, .slice A96 t128.2.2.1.length c97, .slice A98 t93.Foes.length c99] : List Value) by simp only [hlc1])
                refine OJ.as (t := 59) rfl (show _ = (.agg [.slice A94 t128.2.1.length c95, .slice A96 t128.2.2.1.length c97, .slice A98 t128.2.2.2.length c99].toArray : Value) by simp only [hlc2]) ?_
                refine OJ.as (t := 67) rfl (show _ = (.agg [.slice A94 t128.2.1.length c95, .slice A96 t128.2.2.1.length c97, .slice A98 t128.2.2.2.length c99].toArray : Value) by simp only [hlc2]) ?_
                replace hS := hS.boxAs (i := 13) rfl (show _ = ([.slice A94 t128.2.1.length c95, .slice A96 t128.2.2.1.length c97, .slice A98 t128.2.2.2.length c99] : List Value) by simp only [hlc2])
                have hS : St w no w1 [box b1 ([.slice Aa0_0 a0.Names.length ca0_0, .slice Aa0_1 a0.Eats.length ca0_1, .slice Aa0_2 a0.Foes.length ca0_2]) 26, box b2 ([.slice Aa1_0 a1.Names.length ca1_0, .slice Aa1_1 a1.Eats.length ca1_1, .slice Aa1_2 a1.Foes.length ca1_2]) 26, rowC G.cs A20 c21 9 t19.1.Names, rowC (ci .i16) A22 c23 73 t19.1.Eats, rowC (ci .u16) A24 c25 74 t19.1.Foes, box b26 ([.slice A20 t19.1.Names.length c21, .slice A22 t19.1.Eats.length c23, .slice A24 t19.1.Foes.length c25]) 29, rowC G.cs A86 c87 9 t127.2.1, rowC (ci .i16) A88 c89 73 t127.2.2.1, rowC (ci .u16) A90 c91 74 t127.2.2.2, box b92 ([.slice A86 t127.2.1.length c87, .slice A88 t127.2.2.1.length c89, .slice A90 t127.2.2.2.length c91]) 29, rowC G.cs A94 c95 9 t128.2.1, rowC (ci .i16) A96 c97 73 t128.2.2.1, rowC (ci .u16) A98 c99 74 t128.2.2.2, box b100 ([.slice A94 t128.2.1.length c95, .slice A96 t128.2.2.1.length c97, .slice A98 t128.2.2.2.length c99]) 29, rowC G.cs A102 c103 9 t101.1.Names, rowC (ci .i16) A104 c105 73 t101.1.Eats, rowC (ci .u16) A106 c107 74 t101.1.Foes, box b108 ([.slice A102 t101.1.Names.length c103, .slice A104 t101.1.Eats.length c105, .slice A106 t101.1.Foes.length c107]) 29, rowC G.cs A112 c113 9 t111.Names, rowC (ci .i16) A114 c115 73 t111.Eats, rowC (ci .u16) A116 c117 74 t111.Foes, rowC G.cs A120 c121 9 t119.Names, rowC (ci .i16) A122 c123 73 t119.Eats, rowC (ci .u16) A124 c125 74 t119.Foes] [roC G.cs Aa0_0 ca0_0 a0.Names, roC (ci .i16) Aa0_1 ca0_1 a0.Eats, roC (ci .u16) Aa0_2 ca0_2 a0.Foes, roC G.cs Aa1_0 ca1_0 a1.Names, roC (ci .i16) Aa1_1 ca1_1 a1.Eats, roC (ci .u16) Aa1_2 ca1_2 a1.Foes] := hS
                refine OJ.pures tU_ok 1 rfl ?_
                refine OJ.nil (EJ.next ?_)
                refine CJ.seq ?_
                obtain ⟨j72, H, K72⟩ := pbind H
                refine CJ.cut (fun F w1 => ∃ (y129 : Bool) , (some y129 : Option Bool) = some j72 ∧ F = [(2, .pointer (some ⟨b1, 0, none⟩)), (3, .pointer (some ⟨b2, 0, none⟩)), (6, .pointer (some ⟨b26, 0, none⟩)), (7, .int .i64 t19.2), (10, .pointer (some ⟨b108, 0, none⟩)), (82, .bool y129)] ∧ St w no w1 [box b1 ([.slice Aa0_0 a0.Names.length ca0_0, .slice Aa0_1 a0.Eats.length ca0_1, .slice Aa0_2 a0.Foes.length ca0_2]) 26, box b2 ([.slice Aa1_0 a1.Names.length ca1_0, .slice Aa1_1 a1.Eats.length ca1_1, .slice Aa1_2 a1.Foes.length ca1_2]) 26, rowC G.cs A20 c21 9 t19.1.Names, rowC (ci .i16) A22 c23 73 t19.1.Eats, rowC (ci .u16) A24 c25 74 t19.1.Foes, box b26 ([.slice A20 t19.1.Names.length c21, .slice A22 t19.1.Eats.length c23, .slice A24 t19.1.Foes.length c25]) 29, rowC G.cs A102 c103 9 t101.1.Names, rowC (ci .i16) A104 c105 73 t101.1.Eats, rowC (ci .u16) A106 c107 74 t101.1.Foes, box b108 ([.slice A102 t101.1.Names.length c103, .slice A104 t101.1.Eats.length c105, .slice A106 t101.1.Foes.length c107]) 29] [roC G.cs Aa0_0 ca0_0 a0.Names, roC (ci .i16) Aa0_1 ca0_1 a0.Eats, roC (ci .u16) Aa0_2 ca0_2 a0.Foes, roC G.cs Aa1_0 ca1_0 a1.Names, roC (ci .i16) Aa1_1 ca1_1 a1.Eats, roC (ci .u16) Aa1_2 ca1_2 a1.Foes]) ?_ ?_
                · skip
                  refine CJ.region ?_
                  refine OJ.pures tU_ok 3 rfl ?_
                  refine OJ.split (t := 72) rfl (fun hb => ?_) (fun hb => ?_)
                  · replace H := pif_t (of_decide_eq_true hb) H
                    refine OJ.pures tU_ok 10 rfl ?_
                    refine OJ.nil ?_
                    exact EJ.meet (F' := [(2, .pointer (some ⟨b1, 0, none⟩)), (3, .pointer (some ⟨b2, 0, none⟩)), (6, .pointer (some ⟨b26, 0, none⟩)), (7, .int .i64 t19.2), (10, .pointer (some ⟨b108, 0, none⟩)), (82, .bool true)]) ⟨rfl, rfl, rfl, rfl, rfl, rfl, trivial⟩ ⟨true, H, rfl, hS.pick [0, 1, 2, 3, 4, 5, 14, 15, 16, 17] [0, 1, 2, 3, 4, 5] rfl⟩
                  · replace H := pif_f (of_decide_eq_false hb) H
                    refine OJ.st rfl rfl rfl (SR.load rfl rfl (fun w' hx => ldN tU_ok tI_ok rfl rfl rfl (CA.ext (hS.cells (i := 17) rfl) hx) (ds := [.slice A102 t101.1.Names.length c103, .slice A104 t101.1.Eats.length c105, .slice A106 t101.1.Foes.length c107]) rfl rfl)) ?_
                    refine OJ.st rfl rfl rfl (SR.load rfl rfl (fun w' hx => ldN tU_ok tI_ok rfl rfl rfl (CA.ext (hS.cells (i := 5) rfl) hx) (ds := [.slice A20 t19.1.Names.length c21, .slice A22 t19.1.Eats.length c23, .slice A24 t19.1.Foes.length c25]) rfl rfl)) ?_
                    obtain ⟨t130, ht130, H⟩ := pbind H
                    refine OJ.callF rfl rfl rfl rfl rfl hb18 rfl (laws_eqHerd.c k _ A102 c103 A104 c105 A106 c107 t101.1 (hS.rd (i := 14) rfl) (hS.le (i := 14) rfl) (hS.rd (i := 15) rfl) (hS.le (i := 15) rfl) (hS.rd (i := 16) rfl) (hS.le (i := 16) rfl) A20 c21 A22 c23 A24 c25 t19.1 (hS.rd (i := 2) rfl) (hS.le (i := 2) rfl) (hS.rd (i := 3) rfl) (hS.le (i := 3) rfl) (hS.rd (i := 4) rfl) (hS.le (i := 4) rfl) _ ht130) ?_
                    rintro _ w1 ⟨rfl, hs⟩
                    replace hS := hS.grow hs
                    refine OJ.pures tU_ok 3 rfl ?_
                    refine OJ.split (t := 78) rfl (fun hb => ?_) (fun hb => ?_)
                    · replace H := pif_t hb H
                      refine OJ.pures tU_ok 4 rfl ?_
                      refine OJ.nil ?_
                      exact EJ.meet (F' := [(2, .pointer (some ⟨b1, 0, none⟩)), (3, .pointer (some ⟨b2, 0, none⟩)), (6, .pointer (some ⟨b26, 0, none⟩)), (7, .int .i64 t19.2), (10, .pointer (some ⟨b108, 0, none⟩)), (82, .bool true)]) ⟨rfl, rfl, rfl, rfl, rfl, rfl, trivial⟩ ⟨true, H, rfl, hS.pick [0, 1, 2, 3, 4, 5, 14, 15, 16, 17] [0, 1, 2, 3, 4, 5] rfl⟩
                    · replace H := pifb_f hb H
                      refine OJ.pures tU_ok 4 rfl ?_
                      refine OJ.nil ?_
                      exact EJ.meet (F' := [(2, .pointer (some ⟨b1, 0, none⟩)), (3, .pointer (some ⟨b2, 0, none⟩)), (6, .pointer (some ⟨b26, 0, none⟩)), (7, .int .i64 t19.2), (10, .pointer (some ⟨b108, 0, none⟩)), (82, .bool (decide (t101.2 ≠ t19.2)))]) ⟨rfl, rfl, rfl, rfl, rfl, rfl, trivial⟩ ⟨(decide (t101.2 ≠ t19.2)), H, rfl, hS.pick [0, 1, 2, 3, 4, 5, 14, 15, 16, 17] [0, 1, 2, 3, 4, 5] rfl⟩
                · rintro F w1 ⟨y129, he, rfl, hS⟩
                  obtain rfl := Option.some.inj he
                  have H := K72
                  refine CJ.cond rfl (fun hb => ?_) (fun hb => ?_)
                  · replace H := pif_t hb H
                    refine CJ.seq ?_
                    refine CJ.region ?_
                    refine OJ.pures tU_ok 1 rfl ?_
                    refine OJ.nil (EJ.next ?_)
                    refine CJ.ret (EJ.skR (?_))
                    obtain rfl := Option.some.inj H
                    exact EJ.fin rfl (.tmp rfl .nil) ⟨rfl, hS.ext⟩
                  · replace H := pifb_f hb H
                    refine CJ.skip (EJ.next ?_)
                    refine CJ.seq ?_
                    refine CJ.region ?_
                    refine OJ.pures tU_ok 1 rfl ?_
                    refine OJ.nil (EJ.next ?_)
                    refine CJ.seq ?_
                    refine CJ.region ?_
                    refine OJ.st rfl rfl rfl (SR.load rfl rfl (fun w' hx => ldN tU_ok tI_ok rfl rfl rfl (CA.ext (hS.cells (i := 9) rfl) hx) (ds := [.slice A102 t101.1.Names.length c103, .slice A104 t101.1.Eats.length c105, .slice A106 t101.1.Foes.length c107]) rfl rfl)) ?_
                    refine OJ.pures tU_ok 1 rfl ?_
                    obtain ⟨t131, ht131, H⟩ := pbind H
                    refine OJ.callF rfl rfl rfl rfl rfl hb29 rfl (laws_markHerd.c k _ A102 c103 A104 c105 A106 c107 t101.1 1 ((hS.subs [6, 7, 8] [] [] rfl).pick [0, 1, 2] [] rfl) _ ht131) ?_
                    rintro _ w1 ⟨rfl, hs, hlc0, hlc1, hlc2⟩
                    replace hS := hS.back [6, 7, 8] rfl rfl [rowC G.cs A102 c103 9 t131.2.1, rowC (ci .i16) A104 c105 73 t131.2.2.1, rowC (ci .u16) A106 c107 74 t131.2.2.2] [] hs ⟨fun _ => Iff.rfl, fun _ => Iff.rfl, fun _ => Iff.rfl, trivial⟩
                    have hS : St w no w1 [box b1 ([.slice Aa0_0 a0.Names.length ca0_0, .slice Aa0_1 a0.Eats.length ca0_1, .slice Aa0_2 a0.Foes.length ca0_2]) 26, box b2 ([.slice Aa1_0 a1.Names.length ca1_0, .slice Aa1_1 a1.Eats.length ca1_1, .slice Aa1_2 a1.Foes.length ca1_2]) 26, rowC G.cs A20 c21 9 t19.1.Names, rowC (ci .i16) A22 c23 73 t19.1.Eats, rowC (ci .u16) A24 c25 74 t19.1.Foes, box b26 ([.slice A20 t19.1.Names.length c21, .slice A22 t19.1.Eats.length c23, .slice A24 t19.1.Foes.length c25]) 29, rowC G.cs A102 c103 9 t131.2.1, rowC (ci .i16) A104 c105 73 t131.2.2.1, rowC (ci .u16) A106 c107 74 t131.2.2.2, box b108 ([.slice A102 t101.1.Names.length c103, .slice A104 t101.1.Eats.length c105, .slice A106 t101.1.Foes.length c107]) 29] [roC G.cs Aa0_0 ca0_0 a0.Names, roC (ci .i16) Aa0_1 ca0_1 a0.Eats, roC (ci .u16) Aa0_2 ca0_2 a0.Foes, roC G.cs Aa1_0 ca1_0 a1.Names, roC (ci .i16) Aa1_1 ca1_1 a1.Eats, roC (ci .u16) Aa1_2 ca1_2 a1.Foes] := hS
                    refine OJ.as (t := 83) rfl (show _ = (.agg [.slice A102 t131.2.1.length c103, .slice A104 t101.1.Eats.length c105, .slice A106 t101.1.Foes.length c107].toArray : Value) by simp only [hlc0]) ?_
                    replace hS := hS.boxAs (i := 9) rfl (show _ = ([.slice A102 t131.2.1.length c103, .slice A104 t101.1.Eats.length c105, .slice A106 t101.1.Foes.length c107] : List Value) by simp only [hlc0])
                    refine OJ.as (t := 83) rfl (show _ = (.agg [.slice A102 t131.2.1.length c103, .slice A104 t131.2.2.1.length c105, .slice A106 t101.1.Foes.length c107].toArray : Value) by simp only [hlc1]) ?_
                    replace hS := hS.boxAs (i := 9) rfl (show _ = ([.slice A102 t131.2.1.length c103, .slice A104 t131.2.2.1.length c105, .slice A106 t101.1.Foes.length c107] : List Value) by simp only [hlc1])
                    refine OJ.as (t := 83) rfl (show _ = (.agg [.slice A102 t131.2.1.length c103, .slice A104 t131.2.2.1.length c105, .slice A106 t131.2.2.2.length c107].toArray : Value) by simp only [hlc2]) ?_
                    replace hS := hS.boxAs (i := 9) rfl (show _ = ([.slice A102 t131.2.1.length c103, .slice A104 t131.2.2.1.length c105, .slice A106 t131.2.2.2.length c107] : List Value) by simp only [hlc2])
                    have hS : St w no w1 [box b1 ([.slice Aa0_0 a0.Names.length ca0_0, .slice Aa0_1 a0.Eats.length ca0_1, .slice Aa0_2 a0.Foes.length ca0_2]) 26, box b2 ([.slice Aa1_0 a1.Names.length ca1_0, .slice Aa1_1 a1.Eats.length ca1_1, .slice Aa1_2 a1.Foes.length ca1_2]) 26, rowC G.cs A20 c21 9 t19.1.Names, rowC (ci .i16) A22 c23 73 t19.1.Eats, rowC (ci .u16) A24 c25 74 t19.1.Foes, box b26 ([.slice A20 t19.1.Names.length c21, .slice A22 t19.1.Eats.length c23, .slice A24 t19.1.Foes.length c25]) 29, rowC G.cs A102 c103 9 t131.2.1, rowC (ci .i16) A104 c105 73 t131.2.2.1, rowC (ci .u16) A106 c107 74 t131.2.2.2, box b108 ([.slice A102 t131.2.1.length c103, .slice A104 t131.2.2.1.length c105, .slice A106 t131.2.2.2.length c107]) 29] [roC G.cs Aa0_0 ca0_0 a0.Names, roC (ci .i16) Aa0_1 ca0_1 a0.Eats, roC (ci .u16) Aa0_2 ca0_2 a0.Foes, roC G.cs Aa1_0 ca1_0 a1.Names, roC (ci .i16) Aa1_1 ca1_1 a1.Eats, roC (ci .u16) Aa1_2 ca1_2 a1.Foes] := hS
                    refine OJ.pures tU_ok 1 rfl ?_
                    refine OJ.nil (EJ.next ?_)
                    refine CJ.seq ?_
                    refine CJ.region ?_
                    refine OJ.pures tU_ok 1 rfl ?_
                    refine OJ.nil (EJ.next ?_)
                    refine CJ.seq ?_
                    refine CJ.region ?_
                    refine OJ.st rfl rfl rfl (SR.load rfl rfl (fun w' hx => ldN tU_ok tI_ok rfl rfl rfl (CA.ext (hS.cells (i := 9) rfl) hx) (ds := [.slice A102 t131.2.1.length c103, .slice A104 t131.2.2.1.length c105, .slice A106 t131.2.2.2.length c107]) rfl rfl)) ?_
                    refine OJ.pures tU_ok 1 rfl ?_
                    obtain ⟨t132, ht132, H⟩ := pbind H
                    refine OJ.callF rfl rfl rfl rfl rfl hb39 rfl (laws_heldHerd.c k _ A102 c103 A104 c105 A106 c107 (⟨t131.2.1, t131.2.2.1, t131.2.2.2⟩ : Herd) (hS.rd (i := 6) rfl) (hS.le (i := 6) rfl) (hS.rd (i := 7) rfl) (hS.le (i := 7) rfl) (hS.rd (i := 8) rfl) (hS.le (i := 8) rfl) 1 _ ht132) ?_
                    rintro _ w1 ⟨rfl, hs⟩
                    replace hS := hS.grow hs
                    refine OJ.pures tU_ok 1 rfl ?_
                    refine OJ.nil (EJ.next ?_)
                    refine CJ.seq ?_
                    refine CJ.seq ?_
                    refine CJ.region ?_
                    refine OJ.pures tU_ok 2 rfl ?_
                    refine OJ.nil (EJ.next ?_)
                    refine CJ.cond rfl (fun hb => ?_) (fun hb => ?_)
                    · replace H := pif_t (of_decide_eq_true hb) H
                      refine CJ.seq ?_
                      refine CJ.region ?_
                      refine OJ.pures tU_ok 1 rfl ?_
                      refine OJ.nil (EJ.next ?_)
                      refine CJ.ret (EJ.skR (?_))
                      obtain rfl := Option.some.inj H
                      exact EJ.fin rfl (.tmp rfl .nil) ⟨rfl, hS.ext⟩
                    · replace H := pif_f (of_decide_eq_false hb) H
                      refine CJ.skip (EJ.next ?_)
                      refine CJ.seq ?_
                      refine CJ.seq ?_
                      refine CJ.region ?_
                      refine OJ.pures tU_ok 3 rfl ?_
                      refine OJ.nil (EJ.next ?_)
                      refine CJ.cond rfl (fun hb => ?_) (fun hb => ?_)
                      · replace H := pif_t (of_decide_eq_true hb) H
                        refine CJ.seq ?_
                        refine CJ.region ?_
                        refine OJ.pures tU_ok 1 rfl ?_
                        refine OJ.nil (EJ.next ?_)
                        refine CJ.ret (EJ.skR (?_))
                        obtain rfl := Option.some.inj H
                        exact EJ.fin rfl (.tmp rfl .nil) ⟨rfl, hS.ext⟩
                      · replace H := pif_f (of_decide_eq_false hb) H
                        refine CJ.skip (EJ.next ?_)
                        refine CJ.seq ?_
                        obtain ⟨t133, ht133, H⟩ := pbind H
                        obtain ⟨t140, ht140, H⟩ := pbind H
                        obtain ⟨t147, ht147, H⟩ := pbind H
                        refine CJ.cut1 (fun F w1 => ∃ (A134 : Option Addr) (c135 : Nat) (A136 : Option Addr) (c137 : Nat) (A138 : Option Addr) (c139 : Nat) (A141 : Option Addr) (c142 : Nat) (A143 : Option Addr) (c144 : Nat) (A145 : Option Addr) (c146 : Nat) (A148 : Option Addr) (c149 : Nat) (A150 : Option Addr) (c151 : Nat) (A152 : Option Addr) (c153 : Nat) (b154 : Nat), F = [(6, .pointer (some ⟨b26, 0, none⟩)), (7, .int .i64 t19.2), (10, .pointer (some ⟨b108, 0, none⟩)), (13, .int .i64 t131.1), (15, .pointer (some ⟨b154, 0, none⟩)), (16, .int .i64 t147.2)] ∧ St w no w1 [box b1 ([.slice Aa0_0 a0.Names.length ca0_0, .slice Aa0_1 a0.Eats.length ca0_1, .slice Aa0_2 a0.Foes.length ca0_2]) 26, box b2 ([.slice Aa1_0 a1.Names.length ca1_0, .slice Aa1_1 a1.Eats.length ca1_1, .slice Aa1_2 a1.Foes.length ca1_2]) 26, rowC G.cs A20 c21 9 t19.1.Names, rowC (ci .i16) A22 c23 73 t19.1.Eats, rowC (ci .u16) A24 c25 74 t19.1.Foes, box b26 ([.slice A20 t19.1.Names.length c21, .slice A22 t19.1.Eats.length c23, .slice A24 t19.1.Foes.length c25]) 29, rowC G.cs A102 c103 9 t131.2.1, rowC (ci .i16) A104 c105 73 t131.2.2.1, rowC (ci .u16) A106 c107 74 t131.2.2.2, box b108 ([.slice A102 t131.2.1.length c103, .slice A104 t131.2.2.1.length c105, .slice A106 t131.2.2.2.length c107]) 29, rowC G.cs A134 c135 9 t133.Names, rowC (ci .i16) A136 c137 73 t133.Eats, rowC (ci .u16) A138 c139 74 t133.Foes, rowC G.cs A141 c142 9 t140.Names, rowC (ci .i16) A143 c144 73 t140.Eats, rowC (ci .u16) A145 c146 74 t140.Foes, rowC G.cs A148 c149 9 t147.1.Names, rowC (ci .i16) A150 c151 73 t147.1.Eats, rowC (ci .u16) A152 c153 74 t147.1.Foes, box b154 ([.slice A148 t147.1.Names.length c149, .slice A150 t147.1.Eats.length c151, .slice A152 t147.1.Foes.length c153]) 29] [roC G.cs Aa0_0 ca0_0 a0.Names, roC (ci .i16) Aa0_1 ca0_1 a0.Eats, roC (ci .u16) Aa0_2 ca0_2 a0.Foes, roC G.cs Aa1_0 ca1_0 a1.Names, roC (ci .i16) Aa1_1 ca1_1 a1.Eats, roC (ci .u16) Aa1_2 ca1_2 a1.Foes]) ?_ ?_
                        · skip
                          refine CJ.drawT [] [1, 3, 4, 8, 9] (.one 0 (.one 2 (.br (.alt 1 (.br (.alt 3 (.br (.alt 4 (.one 5 (.one 6 (.one 7 (.one 8 (.one 9 (.one 10 (.fin))))))) (.alt 8 (.one 4 (.one 5 (.one 6 (.one 7 (.one 9 (.one 10 (.fin))))))) (.stop)))) (.alt 8 (.one 3 (.one 4 (.one 5 (.one 6 (.one 7 (.one 9 (.one 10 (.fin)))))))) (.stop)))) (.alt 8 (.one 1 (.one 3 (.one 4 (.one 5 (.one 6 (.one 7 (.one 9 (.one 10 (.fin))))))))) (.stop)))))) mixed (by kernel_rfl) hS [0, 1] fun w1 hS hY hV => ?_
                          refine TJ.st hY rfl rfl rfl rfl rfl (fun w2 hY => SR.load rfl rfl (fun w' hx => ldN tU_ok tI_ok rfl rfl rfl (CA.ext ((hV w2 hY).cellsR (i := 6) rfl) hx) (ds := [.slice Aa0_0 a0.Names.length ca0_0, .slice Aa0_1 a0.Eats.length ca0_1, .slice Aa0_2 a0.Foes.length ca0_2]) rfl rfl)) ?_
                          refine TJ.st hY rfl rfl rfl rfl rfl (fun w2 hY => SR.load rfl rfl (fun w' hx => ldN tU_ok tI_ok rfl rfl rfl (CA.ext ((hV w2 hY).cellsR (i := 7) rfl) hx) (ds := [.slice Aa1_0 a1.Names.length ca1_0, .slice Aa1_1 a1.Eats.length ca1_1, .slice Aa1_2 a1.Foes.length ca1_2]) rfl rfl)) ?_
                          refine TJ.br ?_
                          refine TJ.alt ?_ ?_
                          · skip
                            refine TJ.callF hY rfl rfl rfl rfl rfl rfl rfl hb16 rfl (laws_toHerd.c k _ Aa0_0 ca0_0 Aa0_1 ca0_1 Aa0_2 ca0_2 a0 (hS.rd' (i := 0) rfl) (hS.le' (i := 0) rfl) (hS.rd' (i := 1) rfl) (hS.le' (i := 1) rfl) (hS.rd' (i := 2) rfl) (hS.le' (i := 2) rfl) _ ht133) (by rintro v w' ⟨A155, c156, A157, c158, A159, c160, rfl, hs⟩; exact hs.ext) ?_
                            rintro _ w1 hY ⟨A155, c156, A157, c158, A159, c160, rfl, hs⟩
                            replace hS := hS.addN hs
                            have hS : St w no w1 [box b1 ([.slice Aa0_0 a0.Names.length ca0_0, .slice Aa0_1 a0.Eats.length ca0_1, .slice Aa0_2 a0.Foes.length ca0_2]) 26, box b2 ([.slice Aa1_0 a1.Names.length ca1_0, .slice Aa1_1 a1.Eats.length ca1_1, .slice Aa1_2 a1.Foes.length ca1_2]) 26, rowC G.cs A20 c21 9 t19.1.Names, rowC (ci .i16) A22 c23 73 t19.1.Eats, rowC (ci .u16) A24 c25 74 t19.1.Foes, box b26 ([.slice A20 t19.1.Names.length c21, .slice A22 t19.1.Eats.length c23, .slice A24 t19.1.Foes.length c25]) 29, rowC G.cs A102 c103 9 t131.2.1, rowC (ci .i16) A104 c105 73 t131.2.2.1, rowC (ci .u16) A106 c107 74 t131.2.2.2, box b108 ([.slice A102 t131.2.1.length c103, .slice A104 t131.2.2.1.length c105, .slice A106 t131.2.2.2.length c107]) 29, rowC G.cs A155 c156 9 t133.Names, rowC (ci .i16) A157 c158 73 t133.Eats, rowC (ci .u16) A159 c160 74 t133.Foes] [roC G.cs Aa0_0 ca0_0 a0.Names, roC (ci .i16) Aa0_1 ca0_1 a0.Eats, roC (ci .u16) Aa0_2 ca0_2 a0.Foes, roC G.cs Aa1_0 ca1_0 a1.Names, roC (ci .i16) Aa1_1 ca1_1 a1.Eats, roC (ci .u16) Aa1_2 ca1_2 a1.Foes] := hS
                            refine TJ.br ?_
                            refine TJ.alt ?_ ?_
                            · skip
                              refine TJ.callF hY rfl rfl rfl rfl rfl rfl rfl hb16 rfl (laws_toHerd.c k _ Aa1_0 ca1_0 Aa1_1 ca1_1 Aa1_2 ca1_2 a1 (hS.rd' (i := 3) rfl) (hS.le' (i := 3) rfl) (hS.rd' (i := 4) rfl) (hS.le' (i := 4) rfl) (hS.rd' (i := 5) rfl) (hS.le' (i := 5) rfl) _ ht140) (by rintro v w' ⟨A161, c162, A163, c164, A165, c166, rfl, hs⟩; exact hs.ext) ?_
                              rintro _ w1 hY ⟨A161, c162, A163, c164, A165, c166, rfl, hs⟩
                              replace hS := hS.addN hs
                              have hS : St w no w1 [box b1 ([.slice Aa0_0 a0.Names.length ca0_0, .slice Aa0_1 a0.Eats.length ca0_1, .slice Aa0_2 a0.Foes.length ca0_2]) 26, box b2 ([.slice Aa1_0 a1.Names.length ca1_0, .slice Aa1_1 a1.Eats.length ca1_1, .slice Aa1_2 a1.Foes.length ca1_2]) 26, rowC G.cs A20 c21 9 t19.1.Names, rowC (ci .i16) A22 c23 73 t19.1.Eats, rowC (ci .u16) A24 c25 74 t19.1.Foes, box b26 ([.slice A20 t19.1.Names.length c21, .slice A22 t19.1.Eats.length c23, .slice A24 t19.1.Foes.length c25]) 29, rowC G.cs A102 c103 9 t131.2.1, rowC (ci .i16) A104 c105 73 t131.2.2.1, rowC (ci .u16) A106 c107 74 t131.2.2.2, box b108 ([.slice A102 t131.2.1.length c103, .slice A104 t131.2.2.1.length c105, .slice A106 t131.2.2.2.length c107]) 29, rowC G.cs A155 c156 9 t133.Names, rowC (ci .i16) A157 c158 73 t133.Eats, rowC (ci .u16) A159 c160 74 t133.Foes, rowC G.cs A161 c162 9 t140.Names, rowC (ci .i16) A163 c164 73 t140.Eats, rowC (ci .u16) A165 c166 74 t140.Foes] [roC G.cs Aa0_0 ca0_0 a0.Names, roC (ci .i16) Aa0_1 ca0_1 a0.Eats, roC (ci .u16) Aa0_2 ca0_2 a0.Foes, roC G.cs Aa1_0 ca1_0 a1.Names, roC (ci .i16) Aa1_1 ca1_1 a1.Eats, roC (ci .u16) Aa1_2 ca1_2 a1.Foes] := hS
                              refine TJ.br ?_
                              refine TJ.alt ?_ ?_
                              · skip
                                refine TJ.callF hY rfl rfl rfl rfl rfl rfl rfl hb38 rfl (impl_JoinHerds.c k _ A155 c156 A157 c158 A159 c160 t133 (hS.rd (i := 10) rfl) (hS.le (i := 10) rfl) (hS.rd (i := 11) rfl) (hS.le (i := 11) rfl) (hS.rd (i := 12) rfl) (hS.le (i := 12) rfl) A161 c162 A163 c164 A165 c166 t140 (hS.rd (i := 13) rfl) (hS.le (i := 13) rfl) (hS.rd (i := 14) rfl) (hS.le (i := 14) rfl) (hS.rd (i := 15) rfl) (hS.le (i := 15) rfl) _ ht147) (by rintro v w' ⟨A167, c168, A169, c170, A171, c172, rfl, hs⟩; exact hs.ext) ?_
                                rintro _ w1 hY ⟨A167, c168, A169, c170, A171, c172, rfl, hs⟩
                                replace hS := hS.addN hs
                                have hS : St w no w1 [box b1 ([.slice Aa0_0 a0.Names.length ca0_0, .slice Aa0_1 a0.Eats.length ca0_1, .slice Aa0_2 a0.Foes.length ca0_2]) 26, box b2 ([.slice Aa1_0 a1.Names.length ca1_0, .slice Aa1_1 a1.Eats.length ca1_1, .slice Aa1_2 a1.Foes.length ca1_2]) 26, rowC G.cs A20 c21 9 t19.1.Names, rowC (ci .i16) A22 c23 73 t19.1.Eats, rowC (ci .u16) A24 c25 74 t19.1.Foes, box b26 ([.slice A20 t19.1.Names.length c21, .slice A22 t19.1.Eats.length c23, .slice A24 t19.1.Foes.length c25]) 29, rowC G.cs A102 c103 9 t131.2.1, rowC (ci .i16) A104 c105 73 t131.2.2.1, rowC (ci .u16) A106 c107 74 t131.2.2.2, box b108 ([.slice A102 t131.2.1.length c103, .slice A104 t131.2.2.1.length c105, .slice A106 t131.2.2.2.length c107]) 29, rowC G.cs A155 c156 9 t133.Names, rowC (ci .i16) A157 c158 73 t133.Eats, rowC (ci .u16) A159 c160 74 t133.Foes, rowC G.cs A161 c162 9 t140.Names, rowC (ci .i16) A163 c164 73 t140.Eats, rowC (ci .u16) A165 c166 74 t140.Foes, rowC G.cs A167 c168 9 t147.1.Names, rowC (ci .i16) A169 c170 73 t147.1.Eats, rowC (ci .u16) A171 c172 74 t147.1.Foes] [roC G.cs Aa0_0 ca0_0 a0.Names, roC (ci .i16) Aa0_1 ca0_1 a0.Eats, roC (ci .u16) Aa0_2 ca0_2 a0.Foes, roC G.cs Aa1_0 ca1_0 a1.Names, roC (ci .i16) Aa1_1 ca1_1 a1.Eats, roC (ci .u16) Aa1_2 ca1_2 a1.Foes] := hS
                                refine TJ.pures tU_ok 3 rfl ?_
                                refine TJ.ef hY rfl rfl rfl rfl rfl (Ef.alloc hS tI_ok rfl rfl ([.slice none 0 0, .slice none 0 0, .slice none 0 0]) rfl) ?_
                                rintro _ w1 hY ⟨b173, rfl, hS⟩
                                have hO := hS
                                refine TJ.es rfl rfl rfl rfl (Es.store tI_ok (hS.inn [0, 1]) (i := 19) (vs := [.slice A167 t147.1.Names.length c168, .slice A169 t147.1.Eats.length c170, .slice A171 t147.1.Foes.length c172]) rfl rfl rfl rfl rfl rfl rfl rfl (by intro u hu; simp only [List.mem_cons, List.not_mem_nil, or_false] at hu; rcases hu with rfl | rfl | rfl <;> rfl) (Nat.le_of_ble_eq_true rfl) ([.slice A167 t147.1.Names.length c168, .slice A169 t147.1.Eats.length c170, .slice A171 t147.1.Foes.length c172]) rfl) (by intro w1 hS; exact hY.wr (hO.inY [0, 1] 6 rfl rfl) hS.chg) ?_
                                intro w1 hY hS
                                have hS : St w no w1 [box b1 ([.slice Aa0_0 a0.Names.length ca0_0, .slice Aa0_1 a0.Eats.length ca0_1, .slice Aa0_2 a0.Foes.length ca0_2]) 26, box b2 ([.slice Aa1_0 a1.Names.length ca1_0, .slice Aa1_1 a1.Eats.length ca1_1, .slice Aa1_2 a1.Foes.length ca1_2]) 26, rowC G.cs A20 c21 9 t19.1.Names, rowC (ci .i16) A22 c23 73 t19.1.Eats, rowC (ci .u16) A24 c25 74 t19.1.Foes, box b26 ([.slice A20 t19.1.Names.length c21, .slice A22 t19.1.Eats.length c23, .slice A24 t19.1.Foes.length c25]) 29, rowC G.cs A102 c103 9 t131.2.1, rowC (ci .i16) A104 c105 73 t131.2.2.1, rowC (ci .u16) A106 c107 74 t131.2.2.2, box b108 ([.slice A102 t131.2.1.length c103, .slice A104 t131.2.2.1.length c105, .slice A106 t131.2.2.2.length c107]) 29, rowC G.cs A155 c156 9 t133.Names, rowC (ci .i16) A157 c158 73 t133.Eats, rowC (ci .u16) A159 c160 74 t133.Foes, rowC G.cs A161 c162 9 t140.Names, rowC (ci .i16) A163 c164 73 t140.Eats, rowC (ci .u16) A165 c166 74 t140.Foes, rowC G.cs A167 c168 9 t147.1.Names, rowC (ci .i16) A169 c170 73 t147.1.Eats, rowC (ci .u16) A171 c172 74 t147.1.Foes, box b173 ([.slice A167 t147.1.Names.length c168, .slice A169 t147.1.Eats.length c170, .slice A171 t147.1.Foes.length c172]) 29] [roC G.cs Aa0_0 ca0_0 a0.Names, roC (ci .i16) Aa0_1 ca0_1 a0.Eats, roC (ci .u16) Aa0_2 ca0_2 a0.Foes, roC G.cs Aa1_0 ca1_0 a1.Names, roC (ci .i16) Aa1_1 ca1_1 a1.Eats, roC (ci .u16) Aa1_2 ca1_2 a1.Foes] := hO.out [0, 1] hS
                                refine TJ.pures tU_ok 1 rfl ?_
                                refine TJ.nil ?_
                                exact EJ.meet (F' := [(6, .pointer (some ⟨b26, 0, none⟩)), (7, .int .i64 t19.2), (10, .pointer (some ⟨b108, 0, none⟩)), (13, .int .i64 t131.1), (15, .pointer (some ⟨b173, 0, none⟩)), (16, .int .i64 t147.2)]) ⟨rfl, rfl, rfl, rfl, rfl, rfl, trivial⟩ ⟨A155, c156, A157, c158, A159, c160, A161, c162, A163, c164, A165, c166, A167, c168, A169, c170, A171, c172, b173, rfl, hS.pick [0, 1, 2, 3, 4, 5, 6, 7, 8, 9, 10, 11, 12, 13, 14, 15, 16, 17, 18, 19] [0, 1, 2, 3, 4, 5] rfl⟩
                              refine TJ.alt ?_ ?_
                              · skip
                                refine TJ.ef hY rfl rfl rfl rfl rfl (Ef.alloc hS tI_ok rfl rfl ([.slice none 0 0, .slice none 0 0, .slice none 0 0]) rfl) ?_
                                rintro _ w1 hY ⟨b174, rfl, hS⟩
                                refine TJ.callF hY rfl rfl rfl rfl rfl rfl rfl hb38 rfl (impl_JoinHerds.c k _ A155 c156 A157 c158 A159 c160 t133 (hS.rd (i := 10) rfl) (hS.le (i := 10) rfl) (hS.rd (i := 11) rfl) (hS.le (i := 11) rfl) (hS.rd (i := 12) rfl) (hS.le (i := 12) rfl) A161 c162 A163 c164 A165 c166 t140 (hS.rd (i := 13) rfl) (hS.le (i := 13) rfl) (hS.rd (i := 14) rfl) (hS.le (i := 14) rfl) (hS.rd (i := 15) rfl) (hS.le (i := 15) rfl) _ ht147) (by rintro v w' ⟨A175, c176, A177, c178, A179, c180, rfl, hs⟩; exact hs.ext) ?_
                                rintro _ w1 hY ⟨A175, c176, A177, c178, A179, c180, rfl, hs⟩
                                replace hS := hS.addN hs
                                have hS : St w no w1 [box b1 ([.slice Aa0_0 a0.Names.length ca0_0, .slice Aa0_1 a0.Eats.length ca0_1, .slice Aa0_2 a0.Foes.length ca0_2]) 26, box b2 ([.slice Aa1_0 a1.Names.length ca1_0, .slice Aa1_1 a1.Eats.length ca1_1, .slice Aa1_2 a1.Foes.length ca1_2]) 26, rowC G.cs A20 c21 9 t19.1.Names, rowC (ci .i16) A22 c23 73 t19.1.Eats, rowC (ci .u16) A24 c25 74 t19.1.Foes, box b26 ([.slice A20 t19.1.Names.length c21, .slice A22 t19.1.Eats.length c23, .slice A24 t19.1.Foes.length c25]) 29, rowC G.cs A102 c103 9 t131.2.1, rowC (ci .i16) A104 c105 73 t131.2.2.1, rowC (ci .u16) A106 c107 74 t131.2.2.2, box b108 ([.slice A102 t131.2.1.length c103, .slice A104 t131.2.2.1.length c105, .slice A106 t131.2.2.2.length c107]) 29, rowC G.cs A155 c156 9 t133.Names, rowC (ci .i16) A157 c158 73 t133.Eats, rowC (ci .u16) A159 c160 74 t133.Foes, rowC G.cs A161 c162 9 t140.Names, rowC (ci .i16) A163 c164 73 t140.Eats, rowC (ci .u16) A165 c166 74 t140.Foes, box b174 ([.slice none 0 0, .slice none 0 0, .slice none 0 0]) 29, rowC G.cs A175 c176 9 t147.1.Names, rowC (ci .i16) A177 c178 73 t147.1.Eats, rowC (ci .u16) A179 c180 74 t147.1.Foes] [roC G.cs Aa0_0 ca0_0 a0.Names, roC (ci .i16) Aa0_1 ca0_1 a0.Eats, roC (ci .u16) Aa0_2 ca0_2 a0.Foes, roC G.cs Aa1_0 ca1_0 a1.Names, roC (ci .i16) Aa1_1 ca1_1 a1.Eats, roC (ci .u16) Aa1_2 ca1_2 a1.Foes] := hS
                                refine TJ.pures tU_ok 3 rfl ?_
                                have hO := hS
                                refine TJ.es rfl rfl rfl rfl (Es.store tI_ok (hS.inn [0, 1]) (i := 16) (vs := [.slice A175 t147.1.Names.length c176, .slice A177 t147.1.Eats.length c178, .slice A179 t147.1.Foes.length c180]) rfl rfl rfl rfl rfl rfl rfl rfl (by intro u hu; simp only [List.mem_cons, List.not_mem_nil, or_false] at hu; rcases hu with rfl | rfl | rfl <;> rfl) (Nat.le_of_ble_eq_true rfl) ([.slice A175 t147.1.Names.length c176, .slice A177 t147.1.Eats.length c178, .slice A179 t147.1.Foes.length c180]) rfl) (by intro w1 hS; exact hY.wr (hO.inY [0, 1] 6 rfl rfl) hS.chg) ?_
                                intro w1 hY hS
                                have hS : St w no w1 [box b1 ([.slice Aa0_0 a0.Names.length ca0_0, .slice Aa0_1 a0.Eats.length ca0_1, .slice Aa0_2 a0.Foes.length ca0_2]) 26, box b2 ([.slice Aa1_0 a1.Names.length ca1_0, .slice Aa1_1 a1.Eats.length ca1_1, .slice Aa1_2 a1.Foes.length ca1_2]) 26, rowC G.cs A20 c21 9 t19.1.Names, rowC (ci .i16) A22 c23 73 t19.1.Eats, rowC (ci .u16) A24 c25 74 t19.1.Foes, box b26 ([.slice A20 t19.1.Names.length c21, .slice A22 t19.1.Eats.length c23, .slice A24 t19.1.Foes.length c25]) 29, rowC G.cs A102 c103 9 t131.2.1, rowC (ci .i16) A104 c105 73 t131.2.2.1, rowC (ci .u16) A106 c107 74 t131.2.2.2, box b108 ([.slice A102 t131.2.1.length c103, .slice A104 t131.2.2.1.length c105, .slice A106 t131.2.2.2.length c107]) 29, rowC G.cs A155 c156 9 t133.Names, rowC (ci .i16) A157 c158 73 t133.Eats, rowC (ci .u16) A159 c160 74 t133.Foes, rowC G.cs A161 c162 9 t140.Names, rowC (ci .i16) A163 c164 73 t140.Eats, rowC (ci .u16) A165 c166 74 t140.Foes, box b174 ([.slice A175 t147.1.Names.length c176, .slice A177 t147.1.Eats.length c178, .slice A179 t147.1.Foes.length c180]) 29, rowC G.cs A175 c176 9 t147.1.Names, rowC (ci .i16) A177 c178 73 t147.1.Eats, rowC (ci .u16) A179 c180 74 t147.1.Foes] [roC G.cs Aa0_0 ca0_0 a0.Names, roC (ci .i16) Aa0_1 ca0_1 a0.Eats, roC (ci .u16) Aa0_2 ca0_2 a0.Foes, roC G.cs Aa1_0 ca1_0 a1.Names, roC (ci .i16) Aa1_1 ca1_1 a1.Eats, roC (ci .u16) Aa1_2 ca1_2 a1.Foes] := hO.out [0, 1] hS
                                refine TJ.pures tU_ok 1 rfl ?_
                                refine TJ.nil ?_
                                exact EJ.meet (F' := [(6, .pointer (some ⟨b26, 0, none⟩)), (7, .int .i64 t19.2), (10, .pointer (some ⟨b108, 0, none⟩)), (13, .int .i64 t131.1), (15, .pointer (some ⟨b174, 0, none⟩)), (16, .int .i64 t147.2)]) ⟨rfl, rfl, rfl, rfl, rfl, rfl, trivial⟩ ⟨A155, c156, A157, c158, A159, c160, A161, c162, A163, c164, A165, c166, A175, c176, A177, c178, A179, c180, b174, rfl, hS.pick [0, 1, 2, 3, 4, 5, 6, 7, 8, 9, 10, 11, 12, 13, 14, 15, 17, 18, 19, 16] [0, 1, 2, 3, 4, 5] rfl⟩
                              exact TJ.stop
                            refine TJ.alt ?_ ?_
                            · skip
                              refine TJ.ef hY rfl rfl rfl rfl rfl (Ef.alloc hS tI_ok rfl rfl ([.slice none 0 0, .slice none 0 0, .slice none 0 0]) rfl) ?_
                              rintro _ w1 hY ⟨b181, rfl, hS⟩
                              refine TJ.callF hY rfl rfl rfl rfl rfl rfl rfl hb16 rfl (laws_toHerd.c k _ Aa1_0 ca1_0 Aa1_1 ca1_1 Aa1_2 ca1_2 a1 (hS.rd' (i := 3) rfl) (hS.le' (i := 3) rfl) (hS.rd' (i := 4) rfl) (hS.le' (i := 4) rfl) (hS.rd' (i := 5) rfl) (hS.le' (i := 5) rfl) _ ht140) (by rintro v w' ⟨A182, c183, A184, c185, A186, c187, rfl, hs⟩; exact hs.ext) ?_
                              rintro _ w1 hY ⟨A182, c183, A184, c185, A186, c187, rfl, hs⟩
                              replace hS := hS.addN hs
                              have hS : St w no w1 [box b1 ([.slice Aa0_0 a0.Names.length ca0_0, .slice Aa0_1 a0.Eats.length ca0_1, .slice Aa0_2 a0.Foes.length ca0_2]) 26, box b2 ([.slice Aa1_0 a1.Names.length ca1_0, .slice Aa1_1 a1.Eats.length ca1_1, .slice Aa1_2 a1.Foes.length ca1_2]) 26, rowC G.cs A20 c21 9 t19.1.Names, rowC (ci .i16) A22 c23 73 t19.1.Eats, rowC (ci .u16) A24 c25 74 t19.1.Foes, box b26 ([.slice A20 t19.1.Names.length c21, .slice A22 t19.1.Eats.length c23, .slice A24 t19.1.Foes.length c25]) 29, rowC G.cs A102 c103 9 t131.2.1, rowC (ci .i16) A104 c105 73 t131.2.2.1, rowC (ci .u16) A106 c107 74 t131.2.2.2, box b108 ([.slice A102 t131.2.1.length c103, .slice A104 t131.2.2.1.length c105, .slice A106 t131.2.2.2.length c107]) 29, rowC G.cs A155 c156 9 t133.Names, rowC (ci .i16) A157 c158 73 t133.Eats, rowC (ci .u16) A159 c160 74 t133.Foes, box b181 ([.slice none 0 0, .slice none 0 0, .slice none 0 0]) 29, rowC G.cs A182 c183 9 t140.Names, rowC (ci .i16) A184 c185 73 t140.Eats, rowC (ci .u16) A186 c187 74 t140.Foes] [roC G.cs Aa0_0 ca0_0 a0.Names, roC (ci .i16) Aa0_1 ca0_1 a0.Eats, roC (ci .u16) Aa0_2 ca0_2 a0.Foes, roC G.cs Aa1_0 ca1_0 a1.Names, roC (ci .i16) Aa1_1 ca1_1 a1.Eats, roC (ci .u16) Aa1_2 ca1_2 a1.Foes] := hS
                              refine TJ.callF hY rfl rfl rfl rfl rfl rfl rfl hb38 rfl (impl_JoinHerds.c k _ A155 c156 A157 c158 A159 c160 t133 (hS.rd (i := 10) rfl) (hS.le (i := 10) rfl) (hS.rd (i := 11) rfl) (hS.le (i := 11) rfl) (hS.rd (i := 12) rfl) (hS.le (i := 12) rfl) A182 c183 A184 c185 A186 c187 t140 (hS.rd (i := 14) rfl) (hS.le (i := 14) rfl) (hS.rd (i := 15) rfl) (hS.le (i := 15) rfl) (hS.rd (i := 16) rfl) (hS.le (i := 16) rfl) _ ht147) (by rintro v w' ⟨A188, c189, A190, c191, A192, c193, rfl, hs⟩; exact hs.ext) ?_
                              rintro _ w1 hY ⟨A188, c189, A190, c191, A192, c193, rfl, hs⟩
                              replace hS := hS.addN hs
                              have hS : St w no w1 [box b1 ([.slice Aa0_0 a0.Names.length ca0_0, .slice Aa0_1 a0.Eats.length ca0_1, .slice Aa0_2 a0.Foes.length ca0_2]) 26, box b2 ([.slice Aa1_0 a1.Names.length ca1_0, .slice Aa1_1 a1.Eats.length ca1_1, .slice Aa1_2 a1.Foes.length ca1_2]) 26, rowC G.cs A20 c21 9 t19.1.Names, rowC (ci .i16) A22 c23 73 t19.1.Eats, rowC (ci .u16) A24 c25 74 t19.1.Foes, box b26 ([.slice A20 t19.1.Names.length c21, .slice A22 t19.1.Eats.length c23, .slice A24 t19.1.Foes.length c25]) 29, rowC G.cs A102 c103 9 t131.2.1, rowC (ci .i16) A104 c105 73 t131.2.2.1, rowC (ci .u16) A106 c107 74 t131.2.2.2, box b108 ([.slice A102 t131.2.1.length c103, .slice A104 t131.2.2.1.length c105, .slice A106 t131.2.2.2.length c107]) 29, rowC G.cs A155 c156 9 t133.Names, rowC (ci .i16) A157 c158 73 t133.Eats, rowC (ci .u16) A159 c160 74 t133.Foes, box b181 ([.slice none 0 0, .slice none 0 0, .slice none 0 0]) 29, rowC G.cs A182 c183 9 t140.Names, rowC (ci .i16) A184 c185 73 t140.Eats, rowC (ci .u16) A186 c187 74 t140.Foes, rowC G.cs A188 c189 9 t147.1.Names, rowC (ci .i16) A190 c191 73 t147.1.Eats, rowC (ci .u16) A192 c193 74 t147.1.Foes] [roC G.cs Aa0_0 ca0_0 a0.Names, roC (ci .i16) Aa0_1 ca0_1 a0.Eats, roC (ci .u16) Aa0_2 ca0_2 a0.Foes, roC G.cs Aa1_0 ca1_0 a1.Names, roC (ci .i16) Aa1_1 ca1_1 a1.Eats, roC (ci .u16) Aa1_2 ca1_2 a1.Foes] := hS
                              refine TJ.pures tU_ok 3 rfl ?_
                              have hO := hS
                              refine TJ.es rfl rfl rfl rfl (Es.store tI_ok (hS.inn [0, 1]) (i := 13) (vs := [.slice A188 t147.1.Names.length c189, .slice A190 t147.1.Eats.length c191, .slice A192 t147.1.Foes.length c193]) rfl rfl rfl rfl rfl rfl rfl rfl (by intro u hu; simp only [List.mem_cons, List.not_mem_nil, or_false] at hu; rcases hu with rfl | rfl | rfl <;> rfl) (Nat.le_of_ble_eq_true rfl) ([.slice A188 t147.1.Names.length c189, .slice A190 t147.1.Eats.length c191, .slice A192 t147.1.Foes.length c193]) rfl) (by intro w1 hS; exact hY.wr (hO.inY [0, 1] 6 rfl rfl) hS.chg) ?_
                              intro w1 hY hS
                              have hS : St w no w1 [box b1 ([.slice Aa0_0 a0.Names.length ca0_0, .slice Aa0_1 a0.Eats.length ca0_1, .slice Aa0_2 a0.Foes.length ca0_2]) 26, box b2 ([.slice Aa1_0 a1.Names.length ca1_0, .slice Aa1_1 a1.Eats.length ca1_1, .slice Aa1_2 a1.Foes.length ca1_2]) 26, rowC G.cs A20 c21 9 t19.1.Names, rowC (ci .i16) A22 c23 73 t19.1.Eats, rowC (ci .u16) A24 c25 74 t19.1.Foes, box b26 ([.slice A20 t19.1.Names.length c21, .slice A22 t19.1.Eats.length c23, .slice A24 t19.1.Foes.length c25]) 29, rowC G.cs A102 c103 9 t131.2.1, rowC (ci .i16) A104 c105 73 t131.2.2.1, rowC (ci .u16) A106 c107 74 t131.2.2.2, box b108 ([.slice A102 t131.2.1.length c103, .slice A104 t131.2.2.1.length c105, .slice A106 t131.2.2.2.length c107]) 29, rowC G.cs A155 c156 9 t133.Names, rowC (ci .i16) A157 c158 73 t133.Eats, rowC (ci .u16) A159 c160 74 t133.Foes, box b181 ([.slice A188 t147.1.Names.length c189, .slice A190 t147.1.Eats.length c191, .slice A192 t147.1.Foes.length c193]) 29, rowC G.cs A182 c183 9 t140.Names, rowC (ci .i16) A184 c185 73 t140.Eats, rowC (ci .u16) A186 c187 74 t140.Foes, rowC G.cs A188 c189 9 t147.1.Names, rowC (ci .i16) A190 c191 73 t147.1.Eats, rowC (ci .u16) A192 c193 74 t147.1.Foes] [roC G.cs Aa0_0 ca0_0 a0.Names, roC (ci .i16) Aa0_1 ca0_1 a0.Eats, roC (ci .u16) Aa0_2 ca0_2 a0.Foes, roC G.cs Aa1_0 ca1_0 a1.Names, roC (ci .i16) Aa1_1 ca1_1 a1.Eats, roC (ci .u16) Aa1_2 ca1_2 a1.Foes] := hO.out [0, 1] hS
                              refine TJ.pures tU_ok 1 rfl ?_
                              refine TJ.nil ?_
                              exact EJ.meet (F' := [(6, .pointer (some ⟨b26, 0, none⟩)), (7, .int .i64 t19.2), (10, .pointer (some ⟨b108, 0, none⟩)), (13, .int .i64 t131.1), (15, .pointer (some ⟨b181, 0, none⟩)), (16, .int .i64 t147.2)]) ⟨rfl, rfl, rfl, rfl, rfl, rfl, trivial⟩ ⟨A155, c156, A157, c158, A159, c160, A182, c183, A184, c185, A186, c187, A188, c189, A190, c191, A192, c193, b181, rfl, hS.pick [0, 1, 2, 3, 4, 5, 6, 7, 8, 9, 10, 11, 12, 14, 15, 16, 17, 18, 19, 13] [0, 1, 2, 3, 4, 5] rfl⟩
                            exact TJ.stop
                          refine TJ.alt ?_ ?_
                          · skip
                            refine TJ.ef hY rfl rfl rfl rfl rfl (Ef.alloc hS tI_ok rfl rfl ([.slice none 0 0, .slice none 0 0, .slice none 0 0]) rfl) ?_
                            rintro _ w1 hY ⟨b194, rfl, hS⟩
                            refine TJ.callF hY rfl rfl rfl rfl rfl rfl rfl hb16 rfl (laws_toHerd.c k _ Aa0_0 ca0_0 Aa0_1 ca0_1 Aa0_2 ca0_2 a0 (hS.rd' (i := 0) rfl) (hS.le' (i := 0) rfl) (hS.rd' (i := 1) rfl) (hS.le' (i := 1) rfl) (hS.rd' (i := 2) rfl) (hS.le' (i := 2) rfl) _ ht133) (by rintro v w' ⟨A195, c196, A197, c198, A199, c200, rfl, hs⟩; exact hs.ext) ?_
                            rintro _ w1 hY ⟨A195, c196, A197, c198, A199, c200, rfl, hs⟩
                            replace hS := hS.addN hs
                            have hS : St w no w1 [box b1 ([.slice Aa0_0 a0.Names.length ca0_0, .slice Aa0_1 a0.Eats.length ca0_1, .slice Aa0_2 a0.Foes.length ca0_2]) 26, box b2 ([.slice Aa1_0 a1.Names.length ca1_0, .slice Aa1_1 a1.Eats.length ca1_1, .slice Aa1_2 a1.Foes.length ca1_2]) 26, rowC G.cs A20 c21 9 t19.1.Names, rowC (ci .i16) A22 c23 73 t19.1.Eats, rowC (ci .u16) A24 c25 74 t19.1.Foes, box b26 ([.slice A20 t19.1.Names.length c21, .slice A22 t19.1.Eats.length c23, .slice A24 t19.1.Foes.length c25]) 29, rowC G.cs A102 c103 9 t131.2.1, rowC (ci .i16) A104 c105 73 t131.2.2.1, rowC (ci .u16) A106 c107 74 t131.2.2.2, box b108 ([.slice A102 t131.2.1.length c103, .slice A104 t131.2.2.1.length c105, .slice A106 t131.2.2.2.length c107]) 29, box b194 ([.slice none 0 0, .slice none 0 0, .slice none 0 0]) 29, rowC G.cs A195 c196 9 t133.Names, rowC (ci .i16) A197 c198 73 t133.Eats, rowC (ci .u16) A199 c200 74 t133.Foes] [roC G.cs Aa0_0 ca0_0 a0.Names, roC (ci .i16) Aa0_1 ca0_1 a0.Eats, roC (ci .u16) Aa0_2 ca0_2 a0.Foes, roC G.cs Aa1_0 ca1_0 a1.Names, roC (ci .i16) Aa1_1 ca1_1 a1.Eats, roC (ci .u16) Aa1_2 ca1_2 a1.Foes] := hS
                            refine TJ.callF hY rfl rfl rfl rfl rfl rfl rfl hb16 rfl (laws_toHerd.c k _ Aa1_0 ca1_0 Aa1_1 ca1_1 Aa1_2 ca1_2 a1 (hS.rd' (i := 3) rfl) (hS.le' (i := 3) rfl) (hS.rd' (i := 4) rfl) (hS.le' (i := 4) rfl) (hS.rd' (i := 5) rfl) (hS.le' (i := 5) rfl) _ ht140) (by rintro v w' ⟨A201, c202, A203, c204, A205, c206, rfl, hs⟩; exact hs.ext) ?_
                            rintro _ w1 hY ⟨A201, c202, A203, c204, A205, c206, rfl, hs⟩
                            replace hS := hS.addN hs
                            have hS : St w no w1 [box b1 ([.slice Aa0_0 a0.Names.length ca0_0, .slice Aa0_1 a0.Eats.length ca0_1, .slice Aa0_2 a0.Foes.length ca0_2]) 26, box b2 ([.slice Aa1_0 a1.Names.length ca1_0, .slice Aa1_1 a1.Eats.length ca1_1, .slice Aa1_2 a1.Foes.length ca1_2]) 26, rowC G.cs A20 c21 9 t19.1.Names, rowC (ci .i16) A22 c23 73 t19.1.Eats, rowC (ci .u16) A24 c25 74 t19.1.Foes, box b26 ([.slice A20 t19.1.Names.length c21, .slice A22 t19.1.Eats.length c23, .slice A24 t19.1.Foes.length c25]) 29, rowC G.cs A102 c103 9 t131.2.1, rowC (ci .i16) A104 c105 73 t131.2.2.1, rowC (ci .u16) A106 c107 74 t131.2.2.2, box b108 ([.slice A102 t131.2.1.length c103, .slice A104 t131.2.2.1.length c105, .slice A106 t131.2.2.2.length c107]) 29, box b194 ([.slice none 0 0, .slice none 0 0, .slice none 0 0]) 29, rowC G.cs A195 c196 9 t133.Names, rowC (ci .i16) A197 c198 73 t133.Eats, rowC (ci .u16) A199 c200 74 t133.Foes, rowC G.cs A201 c202 9 t140.Names, rowC (ci .i16) A203 c204 73 t140.Eats, rowC (ci .u16) A205 c206 74 t140.Foes] [roC G.cs Aa0_0 ca0_0 a0.Names, roC (ci .i16) Aa0_1 ca0_1 a0.Eats, roC (ci .u16) Aa0_2 ca0_2 a0.Foes, roC G.cs Aa1_0 ca1_0 a1.Names, roC (ci .i16) Aa1_1 ca1_1 a1.Eats, roC (ci .u16) Aa1_2 ca1_2 a1.Foes] := hS
                            refine TJ.callF hY rfl rfl rfl rfl rfl rfl rfl hb38 rfl (impl_JoinHerds.c k _ A195 c196 A197 c198 A199 c200 t133 (hS.rd (i := 11) rfl) (hS.le (i := 11) rfl) (hS.rd (i := 12) rfl) (hS.le (i := 12) rfl) (hS.rd (i := 13) rfl) (hS.le (i := 13) rfl) A201 c202 A203 c204 A205 c206 t140 (hS.rd (i := 14) rfl) (hS.le (i := 14) rfl) (hS.rd (i := 15) rfl) (hS.le (i := 15) rfl) (hS.rd (i := 16) rfl) (hS.le (i := 16) rfl) _ ht147) (by rintro v w' ⟨A207, c208, A209, c210, A211, c212, rfl, hs⟩; exact hs.ext) ?_
                            rintro _ w1 hY ⟨A207, c208, A209, c210, A211, c212, rfl, hs⟩
                            replace hS := hS.addN hs
                            have hS : St w no w1 [box b1 ([.slice Aa0_0 a0.Names.length ca0_0, .slice Aa0_1 a0.Eats.length ca0_1, .slice Aa0_2 a0.Foes.length ca0_2]) 26, box b2 ([.slice Aa1_0 a1.Names.length ca1_0, .slice Aa1_1 a1.Eats.length ca1_1, .slice Aa1_2 a1.Foes.length ca1_2]) 26, rowC G.cs A20 c21 9 t19.1.Names, rowC (ci .i16) A22 c23 73 t19.1.Eats, rowC (ci .u16) A24 c25 74 t19.1.Foes, box b26 ([.slice A20 t19.1.Names.length c21, .slice A22 t19.1.Eats.length c23, .slice A24 t19.1.Foes.length c25]) 29, rowC G.cs A102 c103 9 t131.2.1, rowC (ci .i16) A104 c105 73 t131.2.2.1, rowC (ci .u16) A106 c107 74 t131.2.2.2, box b108 ([.slice A102 t131.2.1.length c103, .slice A104 t131.2.2.1.length c105, .slice A106 t131.2.2.2.length c107]) 29, box b194 ([.slice none 0 0, .slice none 0 0, .slice none 0 0]) 29, rowC G.cs A195 c196 9 t133.Names, rowC (ci .i16) A197 c198 73 t133.Eats, rowC (ci .u16) A199 c200 74 t133.Foes, rowC G.cs A201 c202 9 t140.Names, rowC (ci .i16) A203 c204 73 t140.Eats, rowC (ci .u16) A205 c206 74 t140.Foes, rowC G.cs A207 c208 9 t147.1.Names, rowC (ci .i16) A209 c210 73 t147.1.Eats, rowC (ci .u16) A211 c212 74 t147.1.Foes] [roC G.cs Aa0_0 ca0_0 a0.Names, roC (ci .i16) Aa0_1 ca0_1 a0.Eats, roC (ci .u16) Aa0_2 ca0_2 a0.Foes, roC G.cs Aa1_0 ca1_0 a1.Names, roC (ci .i16) Aa1_1 ca1_1 a1.Eats, roC (ci .u16) Aa1_2 ca1_2 a1.Foes] := hS
                            refine TJ.pures tU_ok 3 rfl ?_
                            have hO := hS
                            refine TJ.es rfl rfl rfl rfl (Es.store tI_ok (hS.inn [0, 1]) (i := 10) (vs := [.slice A207 t147.1.Names.length c208, .slice A209 t147.1.Eats.length c210, .slice A211 t147.1.Foes.length c212]) rfl rfl rfl rfl rfl rfl rfl rfl (by intro u hu; simp only [List.mem_cons, List.not_mem_nil, or_false] at hu; rcases hu with rfl | rfl | rfl <;> rfl) (Nat.le_of_ble_eq_true rfl) ([.slice A207 t147.1.Names.length c208, .slice A209 t147.1.Eats.length c210, .slice A211 t147.1.Foes.length c212]) rfl) (by intro w1 hS; exact hY.wr (hO.inY [0, 1] 6 rfl rfl) hS.chg) ?_
                            intro w1 hY hS
                            have hS : St w no w1 [box b1 ([.slice Aa0_0 a0.Names.length ca0_0, .slice Aa0_1 a0.Eats.length ca0_1, .slice Aa0_2 a0.Foes.length ca0_2]) 26, box b2 ([.slice Aa1_0 a1.Names.length ca1_0, .slice Aa1_1 a1.Eats.length ca1_1, .slice Aa1_2 a1.Foes.length ca1_2]) 26, rowC G.cs A20 c21 9 t19.1.Names, rowC (ci .i16) A22 c23 73 t19.1.Eats, rowC (ci .u16) A24 c25 74 t19.1.Foes, box b26 ([.slice A20 t19.1.Names.length c21, .slice A22 t19.1.Eats.length c23, .slice A24 t19.1.Foes.length c25]) 29, rowC G.cs A102 c103 9 t131.2.1, rowC (ci .i16) A104 c105 73 t131.2.2.1, rowC (ci .u16) A106 c107 74 t131.2.2.2, box b108 ([.slice A102 t131.2.1.length c103, .slice A104 t131.2.2.1.length c105, .slice A106 t131.2.2.2.length c107]) 29, box b194 ([.slice A207 t147.1.Names.length c208, .slice A209 t147.1.Eats.length c210, .slice A211 t147.1.Foes.length c212]) 29, rowC G.cs A195 c196 9 t133.Names, rowC (ci .i16) A197 c198 73 t133.Eats, rowC (ci .u16) A199 c200 74 t133.Foes, rowC G.cs A201 c202 9 t140.Names, rowC (ci .i16) A203 c204 73 t140.Eats, rowC (ci .u16) A205 c206 74 t140.Foes, rowC G.cs A207 c208 9 t147.1.Names, rowC (ci .i16) A209 c210 73 t147.1.Eats, rowC (ci .u16) A211 c212 74 t147.1.Foes] [roC G.cs Aa0_0 ca0_0 a0.Names, roC (ci .i16) Aa0_1 ca0_1 a0.Eats, roC (ci .u16) Aa0_2 ca0_2 a0.Foes, roC G.cs Aa1_0 ca1_0 a1.Names, roC (ci .i16) Aa1_1 ca1_1 a1.Eats, roC (ci .u16) Aa1_2 ca1_2 a1.Foes] := hO.out [0, 1] hS
                            refine TJ.pures tU_ok 1 rfl ?_
                            refine TJ.nil ?_
                            exact EJ.meet (F' := [(6, .pointer (some ⟨b26, 0, none⟩)), (7, .int .i64 t19.2), (10, .pointer (some ⟨b108, 0, none⟩)), (13, .int .i64 t131.1), (15, .pointer (some ⟨b194, 0, none⟩)), (16, .int .i64 t147.2)]) ⟨rfl, rfl, rfl, rfl, rfl, rfl, trivial⟩ ⟨A195, c196, A197, c198, A199, c200, A201, c202, A203, c204, A205, c206, A207, c208, A209, c210, A211, c212, b194, rfl, hS.pick [0, 1, 2, 3, 4, 5, 6, 7, 8, 9, 11, 12, 13, 14, 15, 16, 17, 18, 19, 10] [0, 1, 2, 3, 4, 5] rfl⟩
                          exact TJ.stop
                        · rintro F w1 ⟨A134, c135, A136, c137, A138, c139, A141, c142, A143, c144, A145, c146, A148, c149, A150, c151, A152, c153, b154, rfl, hS⟩
                          refine EJ.next ?_
                          refine CJ.seq ?_
                          obtain ⟨j76, H, K76⟩ := pbind H
                          refine CJ.cut (fun F w1 => ∃ (y213 : Bool) , (some y213 : Option Bool) = some j76 ∧ F = [(10, .pointer (some ⟨b108, 0, none⟩)), (13, .int .i64 t131.1), (110, .bool y213)] ∧ St w no w1 [rowC G.cs A102 c103 9 t131.2.1, rowC (ci .i16) A104 c105 73 t131.2.2.1, rowC (ci .u16) A106 c107 74 t131.2.2.2, box b108 ([.slice A102 t131.2.1.length c103, .slice A104 t131.2.2.1.length c105, .slice A106 t131.2.2.2.length c107]) 29] [roC G.cs Aa0_0 ca0_0 a0.Names, roC (ci .i16) Aa0_1 ca0_1 a0.Eats, roC (ci .u16) Aa0_2 ca0_2 a0.Foes, roC G.cs Aa1_0 ca1_0 a1.Names, roC (ci .i16) Aa1_1 ca1_1 a1.Eats, roC (ci .u16) Aa1_2 ca1_2 a1.Foes]) ?_ ?_
                          · skip
                            refine CJ.region ?_
                            refine OJ.st rfl rfl rfl (SR.load rfl rfl (fun w' hx => ldN tU_ok tI_ok rfl rfl rfl (CA.ext (hS.cells (i := 19) rfl) hx) (ds := [.slice A148 t147.1.Names.length c149, .slice A150 t147.1.Eats.length c151, .slice A152 t147.1.Foes.length c153]) rfl rfl)) ?_
                            refine OJ.st rfl rfl rfl (SR.load rfl rfl (fun w' hx => ldN tU_ok tI_ok rfl rfl rfl (CA.ext (hS.cells (i := 5) rfl) hx) (ds := [.slice A20 t19.1.Names.length c21, .slice A22 t19.1.Eats.length c23, .slice A24 t19.1.Foes.length c25]) rfl rfl)) ?_
                            obtain ⟨t214, ht214, H⟩ := pbind H
                            refine OJ.callF rfl rfl rfl rfl rfl hb18 rfl (laws_eqHerd.c k _ A148 c149 A150 c151 A152 c153 t147.1 (hS.rd (i := 16) rfl) (hS.le (i := 16) rfl) (hS.rd (i := 17) rfl) (hS.le (i := 17) rfl) (hS.rd (i := 18) rfl) (hS.le (i := 18) rfl) A20 c21 A22 c23 A24 c25 t19.1 (hS.rd (i := 2) rfl) (hS.le (i := 2) rfl) (hS.rd (i := 3) rfl) (hS.le (i := 3) rfl) (hS.rd (i := 4) rfl) (hS.le (i := 4) rfl) _ ht214) ?_
                            rintro _ w1 ⟨rfl, hs⟩
                            replace hS := hS.grow hs
                            refine OJ.pures tU_ok 2 rfl ?_
                            refine OJ.split (t := 106) rfl (fun hb => ?_) (fun hb => ?_)
                            · replace H := pif_t hb H
                              refine OJ.pures tU_ok 4 rfl ?_
                              refine OJ.nil ?_
                              exact EJ.meet (F' := [(10, .pointer (some ⟨b108, 0, none⟩)), (13, .int .i64 t131.1), (110, .bool true)]) ⟨rfl, rfl, rfl, trivial⟩ ⟨true, H, rfl, hS.pick [6, 7, 8, 9] [0, 1, 2, 3, 4, 5] rfl⟩
                            · replace H := pifb_f hb H
                              refine OJ.pures tU_ok 4 rfl ?_
                              refine OJ.nil ?_
                              exact EJ.meet (F' := [(10, .pointer (some ⟨b108, 0, none⟩)), (13, .int .i64 t131.1), (110, .bool (decide (t147.2 ≠ t19.2)))]) ⟨rfl, rfl, rfl, trivial⟩ ⟨(decide (t147.2 ≠ t19.2)), H, rfl, hS.pick [6, 7, 8, 9] [0, 1, 2, 3, 4, 5] rfl⟩
                          · rintro F w1 ⟨y213, he, rfl, hS⟩
                            obtain rfl := Option.some.inj he
                            have H := K76
                            refine CJ.cond rfl (fun hb => ?_) (fun hb => ?_)
                            · replace H := pif_t hb H
                              refine CJ.seq ?_
                              refine CJ.region ?_
                              refine OJ.pures tU_ok 1 rfl ?_
                              refine OJ.nil (EJ.next ?_)
                              refine CJ.ret (EJ.skR (?_))
                              obtain rfl := Option.some.inj H
                              exact EJ.fin rfl (.tmp rfl .nil) ⟨rfl, hS.ext⟩
                            · replace H := pifb_f hb H
                              refine CJ.skip (EJ.next ?_)
                              refine CJ.seq ?_
                              refine CJ.region ?_
                              refine OJ.pures tU_ok 1 rfl ?_
                              refine OJ.nil (EJ.next ?_)
                              refine CJ.seq ?_
                              refine CJ.region ?_
                              refine OJ.st rfl rfl rfl (SR.load rfl rfl (fun w' hx => ldN tU_ok tI_ok rfl rfl rfl (CA.ext (hS.cells (i := 3) rfl) hx) (ds := [.slice A102 t131.2.1.length c103, .slice A104 t131.2.2.1.length c105, .slice A106 t131.2.2.2.length c107]) rfl rfl)) ?_
                              refine OJ.pures tU_ok 1 rfl ?_
                              obtain ⟨t215, ht215, H⟩ := pbind H
                              refine OJ.callF rfl rfl rfl rfl rfl hb39 rfl (laws_heldHerd.c k _ A102 c103 A104 c105 A106 c107 (⟨t131.2.1, t131.2.2.1, t131.2.2.2⟩ : Herd) (hS.rd (i := 0) rfl) (hS.le (i := 0) rfl) (hS.rd (i := 1) rfl) (hS.le (i := 1) rfl) (hS.rd (i := 2) rfl) (hS.le (i := 2) rfl) 1 _ ht215) ?_
                              rintro _ w1 ⟨rfl, hs⟩
                              replace hS := hS.grow hs
                              refine OJ.pures tU_ok 1 rfl ?_
                              refine OJ.nil (EJ.next ?_)
                              refine CJ.seq ?_
                              refine CJ.seq ?_
                              refine CJ.region ?_
                              refine OJ.pures tU_ok 2 rfl ?_
                              refine OJ.nil (EJ.next ?_)
                              refine CJ.cond rfl (fun hb => ?_) (fun hb => ?_)
                              · replace H := pif_t (of_decide_eq_true hb) H
                                refine CJ.seq ?_
                                refine CJ.region ?_
                                refine OJ.pures tU_ok 1 rfl ?_
                                refine OJ.nil (EJ.next ?_)
                                refine CJ.ret (EJ.skR (?_))
                                obtain rfl := Option.some.inj H
                                exact EJ.fin rfl (.tmp rfl .nil) ⟨rfl, hS.ext⟩
                              · replace H := pif_f (of_decide_eq_false hb) H
                                refine CJ.skip (EJ.next ?_)
                                refine CJ.seq ?_
                                refine CJ.seq ?_
                                refine CJ.region ?_
                                refine OJ.pures tU_ok 3 rfl ?_
                                refine OJ.nil (EJ.next ?_)
                                refine CJ.cond rfl (fun hb => ?_) (fun hb => ?_)
                                · replace H := pif_t (of_decide_eq_true hb) H
                                  refine CJ.seq ?_
                                  refine CJ.region ?_
                                  refine OJ.pures tU_ok 1 rfl ?_
                                  refine OJ.nil (EJ.next ?_)
                                  refine CJ.ret (EJ.skR (?_))
                                  obtain rfl := Option.some.inj H
                                  exact EJ.fin rfl (.tmp rfl .nil) ⟨rfl, hS.ext⟩
                                · replace H := pif_f (of_decide_eq_false hb) H
                                  refine CJ.skip (EJ.next ?_)
                                  refine CJ.seq ?_
                                  refine CJ.region ?_
                                  refine OJ.pures tU_ok 1 rfl ?_
                                  refine OJ.nil (EJ.next ?_)
                                  refine CJ.ret (?_)
                                  obtain rfl := Option.some.inj H
                                  exact EJ.fin rfl (.tmp rfl .nil) ⟨rfl, hS.ext⟩
end Go.Proofs.YtimpcenflahchaaDoor
