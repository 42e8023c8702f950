/-
  What the functions come to.
-/
import Derived.Test.YtnjeddecmccdcaaGP0
namespace Go.Proofs.Ytnjeddecmccdcaa
open G
set_option linter.unusedVariables false
set_option linter.unusedSimpArgs false
set_option maxRecDepth 100000
set_option maxHeartbeats 4000000
def impl_RestsOf.l1 (a0 : List Int) (a1 : Int) : Nat → Int → Option ((List Int × Int) ⊕ Unit)
  | 0, _ => none
  | k + 1, y5 => if y5 < ((([a1] : List Int) ++ a0).length : Int) then ((getI (([a1] : List Int) ++ a0) y5).bind fun t6 => (impl_within.f t6 0 5).bind fun t7 => if (!t7) = true then (some (Sum.inl ([], 2))) else (if 30 < (a0.length : Int) then (some (Sum.inl ([], 2))) else (impl_RestsOf.l1 a0 a1 k (IntKind.i64.wrap (y5 + 1))))) else (some (Sum.inr ()))
def impl_RestsOf.l2 (a0 : List Int) (a1 : Int) : Nat → (List Int) → Int → Int → Option (List Int)
  | 0, _, _, _ => none
  | k + 1, y12, y15, y16 => if y16 < (a0.length : Int) then ((getI a0 y16).bind fun t17 => if t17 ≠ a1 then (impl_RestsOf.l2 a0 a1 k y12 y15 (IntKind.i64.wrap (y16 + 1))) else (if 0 ≤ y15 then ((chk (y12.length + ([IntKind.i64.wrap ((IntKind.i64.wrap (y16 - y15)) - 1)] : List Int).length ≤ 4294967296)).bind fun u19 => impl_RestsOf.l2 a0 a1 k (y12 ++ ([IntKind.i64.wrap ((IntKind.i64.wrap (y16 - y15)) - 1)] : List Int)) y16 (IntKind.i64.wrap (y16 + 1))) else (impl_RestsOf.l2 a0 a1 k y12 y16 (IntKind.i64.wrap (y16 + 1))))) else (some y12)
def impl_RestsOf.f (k : Nat) (a0 : List Int) (a1 : Int) : Option (List Int × Int) := (chk (([a1] : List Int).length + a0.length ≤ 4294967296)).bind fun u2 => (impl_RestsOf.l1 a0 a1 k 0).bind fun s45 => match s45 with | .inl r => some r | .inr _ => (impl_RestsOf.l2 a0 a1 k ([] : List Int) (-1) 0).bind fun y9 => some (y9, 0)
theorem impl_RestsOf.c (k : Nat) (w : World) (Aa0 : Option Addr) (ca0 : Nat) (a0 : List Int) (hr0 : Rd (ci .i64) w Aa0 a0) (hc0 : a0.length ≤ ca0) (a1 : Int) (r : List Int × Int) (H : impl_RestsOf.f k a0 a1 = some r) :
    CV Try.prog 23 [.slice Aa0 a0.length ca0, .int .i64 a1].toArray w fun v w' => ∃ (A0 : Option Addr) (c0 : Nat), v = .tuple #[.slice A0 r.1.length c0, .int .i64 r.2] ∧ St w no w' [rowC (ci .i64) A0 c0 2 r.1] [] := by
  have hS := ((St.init w no).param (ci .i64) Aa0 ca0 a0 hr0 hc0)
  unfold impl_RestsOf.f at H
  refine CV.body Try.func23 rfl Try.ntmps23 rfl ?_
  refine CJ.seq ?_
  refine CJ.region ?_
  refine OJ.pures tU_ok 2 rfl ?_
  refine OJ.nil (EJ.next ?_)
  refine CJ.seq ?_
  refine CJ.seq ?_
  refine CJ.region ?_
  refine OJ.pures tU_ok 1 rfl ?_
  refine OJ.ef rfl rfl rfl (Ef.lit tU_ok tI_ok hS (C := (ci .i64)) rfl rfl rfl rfl rfl rfl ([a1] : List Int) rfl rfl rfl rfl) ?_
  rintro _ w1 ⟨A1, rfl, hS⟩
  refine OJ.pures tU_ok 1 rfl ?_
  obtain ⟨u2, hu2, H⟩ := pbind H
  refine OJ.ew rfl rfl rfl (Ew.append tU_ok tI_ok (C := (ci .i64)) (xs := ([a1] : List Int)) (ys := a0) hS (i := 0) rfl rfl rfl rfl rfl rfl rfl rfl rfl rfl rfl rfl rfl (hS.rd' (i := 0) rfl) (chk_some hu2)) ?_
  rintro _ w1 ⟨A3, c4, rfl, hS⟩
  refine OJ.pures tU_ok 2 rfl ?_
  refine OJ.nil (EJ.next ?_)
  obtain ⟨j45, H, K45⟩ := pbind H
  refine CJ.cut1 (fun F w1 => (some (Sum.inr ()) : Option ((List Int × Int) ⊕ Unit)) = some j45 ∧ F = [(0, .slice Aa0 a0.length ca0), (1, .int .i64 a1)] ∧ St w no w1 [] [roC (ci .i64) Aa0 ca0 a0]) ?_ ?_
  · skip
    refine CJ.block ?_
    refine CJ.loop (fun k F w1 => ∃ (y5 : Int), F = [(0, .slice Aa0 a0.length ca0), (1, .int .i64 a1), (15, .slice A3 (([a1] : List Int) ++ a0).length c4), (16, .int .i64 ((([a1] : List Int) ++ a0).length : Int)), (17, .int .i64 y5)] ∧ St w no w1 [rowC (ci .i64) A3 c4 2 (([a1] : List Int) ++ a0)] [roC (ci .i64) Aa0 ca0 a0] ∧ impl_RestsOf.l1 a0 a1 k y5 = some j45) k (F' := [(0, .slice Aa0 a0.length ca0), (1, .int .i64 a1), (15, .slice A3 (([a1] : List Int) ++ a0).length c4), (16, .int .i64 ((([a1] : List Int) ++ a0).length : Int)), (17, .int .i64 0)]) ⟨rfl, rfl, rfl, rfl, rfl, trivial⟩ ⟨0, rfl, hS.pick [0] [0] rfl, H⟩ ?_
    rintro k F w1 ⟨y5, rfl, hS, H⟩
    cases k with
    | zero => rw [impl_RestsOf.l1] at H; cases H
    | succ k =>
      rw [impl_RestsOf.l1] at H
      refine CJ.seq ?_
      refine CJ.region ?_
      refine OJ.pures tU_ok 1 rfl ?_
      refine OJ.nil (EJ.next ?_)
      refine CJ.seq ?_
      refine CJ.cond rfl (fun hb => ?_) (fun hb => ?_)
      · replace H := pif_t (of_decide_eq_true hb) H
        refine CJ.skip (EJ.next ?_)
        refine CJ.seq ?_
        refine CJ.block ?_
        refine CJ.seq ?_
        refine CJ.region ?_
        obtain ⟨t6, ht6, H⟩ := pbind H
        obtain ⟨ad6, e6⟩ := (hS.rd (i := 0) rfl).some' ht6
        refine OJ.st rfl rfl rfl (SR.idxS tU_ok tI_ok rfl rfl rfl rfl e6 rfl (getI_some ht6).1) ?_
        refine OJ.st rfl rfl rfl (SR.load rfl rfl (fun w' hx => ld1 tU_ok rfl rfl (CA.ext ((hS.rd (i := 0) rfl).at_ e6 ht6) hx) rfl)) ?_
        refine OJ.pures tU_ok 1 rfl ?_
        refine OJ.nil (EJ.next ?_)
        refine CJ.seq ?_
        refine CJ.region ?_
        refine OJ.pures tU_ok 1 rfl ?_
        obtain ⟨t7, ht7, H⟩ := pbind H
        refine OJ.callF rfl rfl rfl rfl rfl hb41 rfl (impl_within.c _ t6 0 5 _ ht7) ?_
        rintro _ w1 ⟨rfl, hs⟩
        replace hS := hS.grow hs
        refine OJ.pures tU_ok 2 rfl ?_
        refine OJ.split (t := 24) rfl (fun hb => ?_) (fun hb => ?_)
        · replace H := pif_t hb H
          refine OJ.pures tU_ok 4 rfl ?_
          refine OJ.nil (EJ.next ?_)
          refine CJ.condT rfl ?_
          refine CJ.seq ?_
          refine CJ.region ?_
          refine OJ.pures tU_ok 2 rfl ?_
          refine OJ.nil (EJ.next ?_)
          refine CJ.ret (EJ.bkR (EJ.skR (EJ.skR (EJ.bkR (EJ.skR (EJ.skR (?_)))))))
          first | (obtain rfl := Option.some.inj H; have H := K45) | (obtain ⟨q45, H2, e45⟩ := pbind H; obtain rfl := Option.some.inj e45; obtain rfl := Option.some.inj K45; have H := H2)
          replace hS := hS.addNil (ci .i64) 2 none
          obtain rfl := Option.some.inj H
          exact EJ.fin rfl (.tmp rfl (.tmp rfl .nil)) ⟨none, 0, rfl, hS.pick [1] [] rfl⟩
        · replace H := pifb_f hb H
          refine OJ.pures tU_ok 4 rfl ?_
          refine OJ.nil (EJ.next ?_)
          refine CJ.cond rfl (fun hb => ?_) (fun hb => ?_)
          · replace H := pif_t (of_decide_eq_true hb) H
            refine CJ.seq ?_
            refine CJ.region ?_
            refine OJ.pures tU_ok 2 rfl ?_
            refine OJ.nil (EJ.next ?_)
            refine CJ.ret (EJ.bkR (EJ.skR (EJ.skR (EJ.bkR (EJ.skR (EJ.skR (?_)))))))
            first | (obtain rfl := Option.some.inj H; have H := K45) | (obtain ⟨q45, H2, e45⟩ := pbind H; obtain rfl := Option.some.inj e45; obtain rfl := Option.some.inj K45; have H := H2)
            replace hS := hS.addNil (ci .i64) 2 none
            obtain rfl := Option.some.inj H
            exact EJ.fin rfl (.tmp rfl (.tmp rfl .nil)) ⟨none, 0, rfl, hS.pick [1] [] rfl⟩
          · replace H := pif_f (of_decide_eq_false hb) H
            refine CJ.skip (EJ.blk (EJ.next ?_))
            refine CJ.region ?_
            refine OJ.pures tU_ok 2 rfl ?_
            refine OJ.nil ?_
            exact EJ.round k (F' := [(0, .slice Aa0 a0.length ca0), (1, .int .i64 a1), (15, .slice A3 (([a1] : List Int) ++ a0).length c4), (16, .int .i64 ((([a1] : List Int) ++ a0).length : Int)), (17, .int .i64 (IntKind.i64.wrap (y5 + 1)))]) ⟨rfl, rfl, rfl, rfl, rfl, trivial⟩ (Nat.lt_succ_self _) ⟨(IntKind.i64.wrap (y5 + 1)), rfl, hS.pick [0] [0] rfl, H⟩
      · replace H := pif_f (of_decide_eq_false hb) H
        refine CJ.exit (EJ.skE (EJ.skE (EJ.hit (?_))))
        exact EJ.meet (F' := [(0, .slice Aa0 a0.length ca0), (1, .int .i64 a1)]) ⟨rfl, rfl, trivial⟩ ⟨H, rfl, hS.pick [] [0] rfl⟩
  · rintro F w1 ⟨he, rfl, hS⟩
    obtain rfl := Option.some.inj he
    have H := K45
    refine EJ.next ?_
    refine CJ.seq ?_
    refine CJ.region ?_
    refine OJ.ef rfl rfl rfl (Ef.lit tU_ok tI_ok hS (C := (ci .i64)) rfl rfl rfl rfl rfl rfl ([] : List Int) rfl rfl rfl rfl) ?_
    rintro _ w1 ⟨A8, rfl, hS⟩
    refine OJ.pures tU_ok 2 rfl ?_
    refine OJ.nil (EJ.next ?_)
    refine CJ.seq ?_
    refine CJ.seq ?_
    refine CJ.region ?_
    refine OJ.pures tU_ok 3 rfl ?_
    refine OJ.nil (EJ.next ?_)
    obtain ⟨j46, H, K46⟩ := pbind H
    refine CJ.cut1 (fun F w1 => ∃ (y9 : List Int) (A10 : Option Addr) (c11 : Nat), (some y9 : Option (List Int)) = some j46 ∧ F = [(8, .slice A10 y9.length c11)] ∧ St w no w1 [rowC (ci .i64) A10 c11 2 y9] [roC (ci .i64) Aa0 ca0 a0]) ?_ ?_
    · skip
      refine CJ.block ?_
      refine CJ.loop (fun k F w1 => ∃ (y12 : List Int) (y15 : Int) (y16 : Int) (A13 : Option Addr) (c14 : Nat), F = [(1, .int .i64 a1), (8, .slice A13 y12.length c14), (9, .int .i64 y15), (31, .slice Aa0 a0.length ca0), (32, .int .i64 (a0.length : Int)), (33, .int .i64 y16)] ∧ St w no w1 [rowC (ci .i64) A13 c14 2 y12] [roC (ci .i64) Aa0 ca0 a0] ∧ impl_RestsOf.l2 a0 a1 k y12 y15 y16 = some j46) k (F' := [(1, .int .i64 a1), (8, .slice A8 ([] : List Int).length (([] : List Int).length)), (9, .int .i64 (-1)), (31, .slice Aa0 a0.length ca0), (32, .int .i64 (a0.length : Int)), (33, .int .i64 0)]) ⟨rfl, rfl, rfl, rfl, rfl, rfl, trivial⟩ ⟨([] : List Int), (-1), 0, A8, (([] : List Int).length), rfl, hS.pick [0] [0] rfl, H⟩ ?_
      rintro k F w1 ⟨y12, y15, y16, A13, c14, rfl, hS, H⟩
      cases k with
      | zero => rw [impl_RestsOf.l2] at H; cases H
      | succ k =>
        rw [impl_RestsOf.l2] at H
        refine CJ.seq ?_
        refine CJ.region ?_
        refine OJ.pures tU_ok 1 rfl ?_
        refine OJ.nil (EJ.next ?_)
        refine CJ.seq ?_
        refine CJ.cond rfl (fun hb => ?_) (fun hb => ?_)
        · replace H := pif_t (of_decide_eq_true hb) H
          refine CJ.skip (EJ.next ?_)
          refine CJ.seq ?_
          refine CJ.block ?_
          refine CJ.seq ?_
          refine CJ.region ?_
          refine OJ.pures tU_ok 1 rfl ?_
          obtain ⟨t17, ht17, H⟩ := pbind H
          obtain ⟨ad17, e17⟩ := (hS.rd' (i := 0) rfl).some' ht17
          refine OJ.st rfl rfl rfl (SR.idxS tU_ok tI_ok rfl rfl rfl rfl e17 rfl (getI_some ht17).1) ?_
          refine OJ.st rfl rfl rfl (SR.load rfl rfl (fun w' hx => ld1 tU_ok rfl rfl (CA.ext ((hS.rd' (i := 0) rfl).at_ e17 ht17) hx) rfl)) ?_
          refine OJ.pures tU_ok 2 rfl ?_
          refine OJ.nil (EJ.next ?_)
          refine CJ.seq ?_
          refine CJ.seq ?_
          refine CJ.region ?_
          refine OJ.pures tU_ok 3 rfl ?_
          refine OJ.nil (EJ.next ?_)
          refine CJ.cond rfl (fun hb => ?_) (fun hb => ?_)
          · replace H := pif_t (of_decide_eq_true hb) H
            refine CJ.exit (EJ.skE (EJ.hit (EJ.next ?_)))
            refine CJ.region ?_
            refine OJ.pures tU_ok 2 rfl ?_
            refine OJ.nil ?_
            exact EJ.round k (F' := [(1, .int .i64 a1), (8, .slice A13 y12.length c14), (9, .int .i64 y15), (31, .slice Aa0 a0.length ca0), (32, .int .i64 (a0.length : Int)), (33, .int .i64 (IntKind.i64.wrap (y16 + 1)))]) ⟨rfl, rfl, rfl, rfl, rfl, rfl, trivial⟩ (Nat.lt_succ_self _) ⟨y12, y15, (IntKind.i64.wrap (y16 + 1)), A13, c14, rfl, hS.pick [0] [0] rfl, H⟩
          · replace H := pif_f (of_decide_eq_false hb) H
            refine CJ.skip (EJ.next ?_)
            refine CJ.seq ?_
            refine CJ.seq ?_
            refine CJ.region ?_
            refine OJ.pures tU_ok 2 rfl ?_
            refine OJ.nil (EJ.next ?_)
            refine CJ.cond rfl (fun hb => ?_) (fun hb => ?_)
            · replace H := pif_t (of_decide_eq_true hb) H
              refine CJ.region ?_
              refine OJ.pures tU_ok 5 rfl ?_
              refine OJ.ef rfl rfl rfl (Ef.lit tU_ok tI_ok hS (C := (ci .i64)) rfl rfl rfl rfl rfl rfl ([IntKind.i64.wrap ((IntKind.i64.wrap (y16 - y15)) - 1)] : List Int) rfl rfl rfl rfl) ?_
              rintro _ w1 ⟨A18, rfl, hS⟩
              obtain ⟨u19, hu19, H⟩ := pbind H
              refine OJ.ew rfl rfl rfl (Ew.append tU_ok tI_ok (C := (ci .i64)) (xs := y12) (ys := ([IntKind.i64.wrap ((IntKind.i64.wrap (y16 - y15)) - 1)] : List Int)) hS (i := 0) rfl rfl rfl rfl rfl rfl rfl rfl rfl rfl rfl rfl rfl (hS.rd (i := 1) rfl) (chk_some hu19)) ?_
              rintro _ w1 ⟨A20, c21, rfl, hS⟩
              refine OJ.pures tU_ok 1 rfl ?_
              refine OJ.nil (EJ.next ?_)
              refine CJ.region ?_
              refine OJ.pures tU_ok 2 rfl ?_
              refine OJ.nil (EJ.blk (EJ.next ?_))
              refine CJ.region ?_
              refine OJ.pures tU_ok 2 rfl ?_
              refine OJ.nil ?_
              exact EJ.round k (F' := [(1, .int .i64 a1), (8, .slice A20 (y12 ++ ([IntKind.i64.wrap ((IntKind.i64.wrap (y16 - y15)) - 1)] : List Int)).length c21), (9, .int .i64 y16), (31, .slice Aa0 a0.length ca0), (32, .int .i64 (a0.length : Int)), (33, .int .i64 (IntKind.i64.wrap (y16 + 1)))]) ⟨rfl, rfl, rfl, rfl, rfl, rfl, trivial⟩ (Nat.lt_succ_self _) ⟨(y12 ++ ([IntKind.i64.wrap ((IntKind.i64.wrap (y16 - y15)) - 1)] : List Int)), y16, (IntKind.i64.wrap (y16 + 1)), A20, c21, rfl, hS.pick [0] [0] rfl, H⟩
            · replace H := pif_f (of_decide_eq_false hb) H
              refine CJ.skip (EJ.next ?_)
              refine CJ.region ?_
              refine OJ.pures tU_ok 2 rfl ?_
              refine OJ.nil (EJ.blk (EJ.next ?_))
              refine CJ.region ?_
              refine OJ.pures tU_ok 2 rfl ?_
              refine OJ.nil ?_
              exact EJ.round k (F' := [(1, .int .i64 a1), (8, .slice A13 y12.length c14), (9, .int .i64 y16), (31, .slice Aa0 a0.length ca0), (32, .int .i64 (a0.length : Int)), (33, .int .i64 (IntKind.i64.wrap (y16 + 1)))]) ⟨rfl, rfl, rfl, rfl, rfl, rfl, trivial⟩ (Nat.lt_succ_self _) ⟨y12, y16, (IntKind.i64.wrap (y16 + 1)), A13, c14, rfl, hS.pick [0] [0] rfl, H⟩
        · replace H := pif_f (of_decide_eq_false hb) H
          refine CJ.exit (EJ.skE (EJ.skE (EJ.hit (?_))))
          exact EJ.meet (F' := [(8, .slice A13 y12.length c14)]) ⟨rfl, trivial⟩ ⟨y12, A13, c14, H, rfl, hS.pick [0] [0] rfl⟩
    · rintro F w1 ⟨y9, A10, c11, he, rfl, hS⟩
      obtain rfl := Option.some.inj he
      have H := K46
      refine EJ.next ?_
      refine CJ.seq ?_
      refine CJ.region ?_
      refine OJ.pures tU_ok 3 rfl ?_
      refine OJ.nil (EJ.next ?_)
      refine CJ.ret (?_)
      obtain rfl := Option.some.inj H
      exact EJ.fin rfl (.tmp rfl (.tmp rfl .nil)) ⟨A10, c11, rfl, hS.pick [0] [] rfl⟩

def spec_RestsOf.l1 (a0 : List Int) : Nat → Bool → Int → Option Bool
  | 0, _, _ => none
  | k + 1, y4, y5 => if y5 < (a0.length : Int) then (if y4 = true then ((getI a0 y5).bind fun t6 => (spec_l00In.f t6 0 5).bind fun t7 => spec_RestsOf.l1 a0 k t7 (IntKind.i64.wrap (y5 + 1))) else (spec_RestsOf.l1 a0 k false (IntKind.i64.wrap (y5 + 1)))) else (some y4)
def spec_RestsOf.l2 (a0 : List Int) (a1 : Int) : Nat → (List Int) → Int → Int → Option (List Int)
  | 0, _, _, _ => none
  | k + 1, y13, y16, y17 => if y17 < (a0.length : Int) then ((getI a0 y17).bind fun t18 => if t18 ≠ a1 then (spec_RestsOf.l2 a0 a1 k y13 y16 (IntKind.i64.wrap (y17 + 1))) else (if 0 ≤ y16 then ((chk (y13.length + ([IntKind.i64.wrap ((IntKind.i64.wrap (y17 - y16)) - 1)] : List Int).length ≤ 4294967296)).bind fun u20 => spec_RestsOf.l2 a0 a1 k (y13 ++ ([IntKind.i64.wrap ((IntKind.i64.wrap (y17 - y16)) - 1)] : List Int)) y17 (IntKind.i64.wrap (y17 + 1))) else (spec_RestsOf.l2 a0 a1 k y13 y17 (IntKind.i64.wrap (y17 + 1))))) else (some y13)
def spec_RestsOf.f (k : Nat) (a0 : List Int) (a1 : Int) : Option (List Int × Int) := (if (a0.length : Int) ≤ 30 then ((spec_l00In.f a1 0 5).bind fun t2 => some t2) else (some false)).bind fun y1 => (spec_RestsOf.l1 a0 k y1 0).bind fun y3 => if (!y3) = true then (some (([] : List Int), 2)) else ((spec_RestsOf.l2 a0 a1 k ([] : List Int) (-1) 0).bind fun y10 => some (y10, 0))
theorem spec_RestsOf.c (k : Nat) (w : World) (Aa0 : Option Addr) (ca0 : Nat) (a0 : List Int) (hr0 : Rd (ci .i64) w Aa0 a0) (hc0 : a0.length ≤ ca0) (a1 : Int) (r : List Int × Int) (H : spec_RestsOf.f k a0 a1 = some r) :
    CV Try.prog 24 [.slice Aa0 a0.length ca0, .int .i64 a1].toArray w fun v w' => ∃ (A0 : Option Addr) (c0 : Nat), v = .tuple #[.slice A0 r.1.length c0, .int .i64 r.2] ∧ St w no w' [rowC (ci .i64) A0 c0 2 r.1] [] := by
  have hS := ((St.init w no).param (ci .i64) Aa0 ca0 a0 hr0 hc0)
  unfold spec_RestsOf.f at H
  refine CV.body Try.func24 rfl Try.ntmps24 rfl ?_
  refine CJ.seq ?_
  refine CJ.region ?_
  refine OJ.pures tU_ok 2 rfl ?_
  refine OJ.nil (EJ.next ?_)
  obtain ⟨j47, H, K47⟩ := pbind H
  refine CJ.cut (fun F w1 => ∃ (y1 : Bool) , (some y1 : Option Bool) = some j47 ∧ F = [(0, .slice Aa0 a0.length ca0), (1, .int .i64 a1), (6, .bool y1)] ∧ St w no w1 [] [roC (ci .i64) Aa0 ca0 a0]) ?_ ?_
  · skip
    refine CJ.region ?_
    refine OJ.pures tU_ok 4 rfl ?_
    refine OJ.split (t := 14) rfl (fun hb => ?_) (fun hb => ?_)
    · replace H := pif_t (of_decide_eq_true hb) H
      refine OJ.pures tU_ok 1 rfl ?_
      obtain ⟨t2, ht2, H⟩ := pbind H
      refine OJ.callF rfl rfl rfl rfl rfl hb52 rfl (spec_l00In.c _ a1 0 5 _ ht2) ?_
      rintro _ w1 ⟨rfl, hs⟩
      replace hS := hS.grow hs
      refine OJ.pures tU_ok 2 rfl ?_
      refine OJ.nil ?_
      exact EJ.meet (F' := [(0, .slice Aa0 a0.length ca0), (1, .int .i64 a1), (6, .bool t2)]) ⟨rfl, rfl, rfl, trivial⟩ ⟨t2, H, rfl, hS.pick [] [0] rfl⟩
    · replace H := pif_f (of_decide_eq_false hb) H
      refine OJ.pures tU_ok 4 rfl ?_
      refine OJ.nil ?_
      exact EJ.meet (F' := [(0, .slice Aa0 a0.length ca0), (1, .int .i64 a1), (6, .bool false)]) ⟨rfl, rfl, rfl, trivial⟩ ⟨false, H, rfl, hS.pick [] [0] rfl⟩
  · rintro F w1 ⟨y1, he, rfl, hS⟩
    obtain rfl := Option.some.inj he
    have H := K47
    refine CJ.seq ?_
    refine CJ.seq ?_
    refine CJ.region ?_
    refine OJ.pures tU_ok 1 rfl ?_
    refine OJ.nil (EJ.next ?_)
    obtain ⟨j48, H, K48⟩ := pbind H
    refine CJ.cut1 (fun F w1 => ∃ (y3 : Bool) , (some y3 : Option Bool) = some j48 ∧ F = [(0, .slice Aa0 a0.length ca0), (1, .int .i64 a1), (6, .bool y3)] ∧ St w no w1 [] [roC (ci .i64) Aa0 ca0 a0]) ?_ ?_
    · skip
      refine CJ.block ?_
      refine CJ.loop (fun k F w1 => ∃ (y4 : Bool) (y5 : Int), F = [(0, .slice Aa0 a0.length ca0), (1, .int .i64 a1), (6, .bool y4), (7, .int .i64 y5)] ∧ St w no w1 [] [roC (ci .i64) Aa0 ca0 a0] ∧ spec_RestsOf.l1 a0 k y4 y5 = some j48) k (F' := [(0, .slice Aa0 a0.length ca0), (1, .int .i64 a1), (6, .bool y1), (7, .int .i64 0)]) ⟨rfl, rfl, rfl, rfl, trivial⟩ ⟨y1, 0, rfl, hS.pick [] [0] rfl, H⟩ ?_
      rintro k F w1 ⟨y4, y5, rfl, hS, H⟩
      cases k with
      | zero => rw [spec_RestsOf.l1] at H; cases H
      | succ k =>
        rw [spec_RestsOf.l1] at H
        refine CJ.seq ?_
        refine CJ.seq ?_
        refine CJ.region ?_
        refine OJ.pures tU_ok 4 rfl ?_
        refine OJ.nil (EJ.next ?_)
        refine CJ.cond rfl (fun hb => ?_) (fun hb => ?_)
        · replace H := pif_t (of_decide_eq_true hb) H
          refine CJ.skip (EJ.next ?_)
          refine CJ.seq ?_
          refine CJ.block ?_
          refine CJ.region ?_
          refine OJ.pures tU_ok 2 rfl ?_
          refine OJ.split (t := 25) rfl (fun hb => ?_) (fun hb => ?_)
          · replace H := pif_t hb H
            refine OJ.pures tU_ok 2 rfl ?_
            obtain ⟨t6, ht6, H⟩ := pbind H
            obtain ⟨ad6, e6⟩ := (hS.rd' (i := 0) rfl).some' ht6
            refine OJ.st rfl rfl rfl (SR.idxS tU_ok tI_ok rfl rfl rfl rfl e6 rfl (getI_some ht6).1) ?_
            refine OJ.st rfl rfl rfl (SR.load rfl rfl (fun w' hx => ld1 tU_ok rfl rfl (CA.ext ((hS.rd' (i := 0) rfl).at_ e6 ht6) hx) rfl)) ?_
            obtain ⟨t7, ht7, H⟩ := pbind H
            refine OJ.callF rfl rfl rfl rfl rfl hb52 rfl (spec_l00In.c _ t6 0 5 _ ht7) ?_
            rintro _ w1 ⟨rfl, hs⟩
            replace hS := hS.grow hs
            refine OJ.pures tU_ok 2 rfl ?_
            refine OJ.nil (EJ.blk (EJ.next ?_))
            refine CJ.region ?_
            refine OJ.pures tU_ok 3 rfl ?_
            refine OJ.nil ?_
            exact EJ.round k (F' := [(0, .slice Aa0 a0.length ca0), (1, .int .i64 a1), (6, .bool t7), (7, .int .i64 (IntKind.i64.wrap (y5 + 1)))]) ⟨rfl, rfl, rfl, rfl, trivial⟩ (Nat.lt_succ_self _) ⟨t7, (IntKind.i64.wrap (y5 + 1)), rfl, hS.pick [] [0] rfl, H⟩
          · replace H := pifb_f hb H
            refine OJ.pures tU_ok 7 rfl ?_
            refine OJ.nil (EJ.blk (EJ.next ?_))
            refine CJ.region ?_
            refine OJ.pures tU_ok 3 rfl ?_
            refine OJ.nil ?_
            exact EJ.round k (F' := [(0, .slice Aa0 a0.length ca0), (1, .int .i64 a1), (6, .bool false), (7, .int .i64 (IntKind.i64.wrap (y5 + 1)))]) ⟨rfl, rfl, rfl, rfl, trivial⟩ (Nat.lt_succ_self _) ⟨false, (IntKind.i64.wrap (y5 + 1)), rfl, hS.pick [] [0] rfl, H⟩
        · replace H := pif_f (of_decide_eq_false hb) H
          refine CJ.exit (EJ.skE (EJ.skE (EJ.hit (?_))))
          exact EJ.meet (F' := [(0, .slice Aa0 a0.length ca0), (1, .int .i64 a1), (6, .bool y4)]) ⟨rfl, rfl, rfl, trivial⟩ ⟨y4, H, rfl, hS.pick [] [0] rfl⟩
    · rintro F w1 ⟨y3, he, rfl, hS⟩
      obtain rfl := Option.some.inj he
      have H := K48
      refine EJ.next ?_
      refine CJ.seq ?_
      refine CJ.seq ?_
      refine CJ.region ?_
      refine OJ.pures tU_ok 2 rfl ?_
      refine OJ.nil (EJ.next ?_)
      refine CJ.cond rfl (fun hb => ?_) (fun hb => ?_)
      · replace H := pif_t hb H
        refine CJ.seq ?_
        refine CJ.region ?_
        refine OJ.ef rfl rfl rfl (Ef.lit tU_ok tI_ok hS (C := (ci .i64)) rfl rfl rfl rfl rfl rfl ([] : List Int) rfl rfl rfl rfl) ?_
        rintro _ w1 ⟨A8, rfl, hS⟩
        refine OJ.pures tU_ok 2 rfl ?_
        refine OJ.nil (EJ.next ?_)
        refine CJ.ret (EJ.skR (?_))
        obtain rfl := Option.some.inj H
        exact EJ.fin rfl (.tmp rfl (.tmp rfl .nil)) ⟨A8, (([] : List Int).length), rfl, hS.pick [0] [] rfl⟩
      · replace H := pifb_f hb H
        refine CJ.skip (EJ.next ?_)
        refine CJ.seq ?_
        refine CJ.region ?_
        refine OJ.ef rfl rfl rfl (Ef.lit tU_ok tI_ok hS (C := (ci .i64)) rfl rfl rfl rfl rfl rfl ([] : List Int) rfl rfl rfl rfl) ?_
        rintro _ w1 ⟨A9, rfl, hS⟩
        refine OJ.pures tU_ok 1 rfl ?_
        refine OJ.nil (EJ.next ?_)
        refine CJ.seq ?_
        refine CJ.region ?_
        refine OJ.pures tU_ok 1 rfl ?_
        refine OJ.nil (EJ.next ?_)
        refine CJ.seq ?_
        refine CJ.seq ?_
        refine CJ.region ?_
        refine OJ.pures tU_ok 1 rfl ?_
        refine OJ.nil (EJ.next ?_)
        obtain ⟨j49, H, K49⟩ := pbind H
        refine CJ.cut1 (fun F w1 => ∃ (y10 : List Int) (A11 : Option Addr) (c12 : Nat), (some y10 : Option (List Int)) = some j49 ∧ F = [(8, .slice A11 y10.length c12)] ∧ St w no w1 [rowC (ci .i64) A11 c12 2 y10] [roC (ci .i64) Aa0 ca0 a0]) ?_ ?_
        · skip
          refine CJ.block ?_
          refine CJ.loop (fun k F w1 => ∃ (y13 : List Int) (y16 : Int) (y17 : Int) (A14 : Option Addr) (c15 : Nat), F = [(0, .slice Aa0 a0.length ca0), (1, .int .i64 a1), (8, .slice A14 y13.length c15), (9, .int .i64 y16), (10, .int .i64 y17)] ∧ St w no w1 [rowC (ci .i64) A14 c15 2 y13] [roC (ci .i64) Aa0 ca0 a0] ∧ spec_RestsOf.l2 a0 a1 k y13 y16 y17 = some j49) k (F' := [(0, .slice Aa0 a0.length ca0), (1, .int .i64 a1), (8, .slice A9 ([] : List Int).length (([] : List Int).length)), (9, .int .i64 (-1)), (10, .int .i64 0)]) ⟨rfl, rfl, rfl, rfl, rfl, trivial⟩ ⟨([] : List Int), (-1), 0, A9, (([] : List Int).length), rfl, hS.pick [0] [0] rfl, H⟩ ?_
          rintro k F w1 ⟨y13, y16, y17, A14, c15, rfl, hS, H⟩
          cases k with
          | zero => rw [spec_RestsOf.l2] at H; cases H
          | succ k =>
            rw [spec_RestsOf.l2] at H
            refine CJ.seq ?_
            refine CJ.seq ?_
            refine CJ.region ?_
            refine OJ.pures tU_ok 4 rfl ?_
            refine OJ.nil (EJ.next ?_)
            refine CJ.cond rfl (fun hb => ?_) (fun hb => ?_)
            · replace H := pif_t (of_decide_eq_true hb) H
              refine CJ.skip (EJ.next ?_)
              refine CJ.seq ?_
              refine CJ.block ?_
              refine CJ.seq ?_
              refine CJ.seq ?_
              refine CJ.region ?_
              refine OJ.pures tU_ok 2 rfl ?_
              obtain ⟨t18, ht18, H⟩ := pbind H
              obtain ⟨ad18, e18⟩ := (hS.rd' (i := 0) rfl).some' ht18
              refine OJ.st rfl rfl rfl (SR.idxS tU_ok tI_ok rfl rfl rfl rfl e18 rfl (getI_some ht18).1) ?_
              refine OJ.st rfl rfl rfl (SR.load rfl rfl (fun w' hx => ld1 tU_ok rfl rfl (CA.ext ((hS.rd' (i := 0) rfl).at_ e18 ht18) hx) rfl)) ?_
              refine OJ.pures tU_ok 2 rfl ?_
              refine OJ.nil (EJ.next ?_)
              refine CJ.cond rfl (fun hb => ?_) (fun hb => ?_)
              · replace H := pif_t (of_decide_eq_true hb) H
                refine CJ.exit (EJ.skE (EJ.hit (EJ.next ?_)))
                refine CJ.region ?_
                refine OJ.pures tU_ok 3 rfl ?_
                refine OJ.nil ?_
                exact EJ.round k (F' := [(0, .slice Aa0 a0.length ca0), (1, .int .i64 a1), (8, .slice A14 y13.length c15), (9, .int .i64 y16), (10, .int .i64 (IntKind.i64.wrap (y17 + 1)))]) ⟨rfl, rfl, rfl, rfl, rfl, trivial⟩ (Nat.lt_succ_self _) ⟨y13, y16, (IntKind.i64.wrap (y17 + 1)), A14, c15, rfl, hS.pick [0] [0] rfl, H⟩
              · replace H := pif_f (of_decide_eq_false hb) H
                refine CJ.skip (EJ.next ?_)
                refine CJ.seq ?_
                refine CJ.seq ?_
                refine CJ.region ?_
                refine OJ.pures tU_ok 2 rfl ?_
                refine OJ.nil (EJ.next ?_)
                refine CJ.cond rfl (fun hb => ?_) (fun hb => ?_)
                · replace H := pif_t (of_decide_eq_true hb) H
                  refine CJ.region ?_
                  refine OJ.pures tU_ok 5 rfl ?_
                  refine OJ.ef rfl rfl rfl (Ef.lit tU_ok tI_ok hS (C := (ci .i64)) rfl rfl rfl rfl rfl rfl ([IntKind.i64.wrap ((IntKind.i64.wrap (y17 - y16)) - 1)] : List Int) rfl rfl rfl rfl) ?_
                  rintro _ w1 ⟨A19, rfl, hS⟩
                  obtain ⟨u20, hu20, H⟩ := pbind H
                  refine OJ.ew rfl rfl rfl (Ew.append tU_ok tI_ok (C := (ci .i64)) (xs := y13) (ys := ([IntKind.i64.wrap ((IntKind.i64.wrap (y17 - y16)) - 1)] : List Int)) hS (i := 0) rfl rfl rfl rfl rfl rfl rfl rfl rfl rfl rfl rfl rfl (hS.rd (i := 1) rfl) (chk_some hu20)) ?_
                  rintro _ w1 ⟨A21, c22, rfl, hS⟩
                  refine OJ.pures tU_ok 1 rfl ?_
                  refine OJ.nil (EJ.next ?_)
                  refine CJ.region ?_
                  refine OJ.pures tU_ok 2 rfl ?_
                  refine OJ.nil (EJ.blk (EJ.next ?_))
                  refine CJ.region ?_
                  refine OJ.pures tU_ok 3 rfl ?_
                  refine OJ.nil ?_
                  exact EJ.round k (F' := [(0, .slice Aa0 a0.length ca0), (1, .int .i64 a1), (8, .slice A21 (y13 ++ ([IntKind.i64.wrap ((IntKind.i64.wrap (y17 - y16)) - 1)] : List Int)).length c22), (9, .int .i64 y17), (10, .int .i64 (IntKind.i64.wrap (y17 + 1)))]) ⟨rfl, rfl, rfl, rfl, rfl, trivial⟩ (Nat.lt_succ_self _) ⟨(y13 ++ ([IntKind.i64.wrap ((IntKind.i64.wrap (y17 - y16)) - 1)] : List Int)), y17, (IntKind.i64.wrap (y17 + 1)), A21, c22, rfl, hS.pick [0] [0] rfl, H⟩
                · replace H := pif_f (of_decide_eq_false hb) H
                  refine CJ.skip (EJ.next ?_)
                  refine CJ.region ?_
                  refine OJ.pures tU_ok 2 rfl ?_
                  refine OJ.nil (EJ.blk (EJ.next ?_))
                  refine CJ.region ?_
                  refine OJ.pures tU_ok 3 rfl ?_
                  refine OJ.nil ?_
                  exact EJ.round k (F' := [(0, .slice Aa0 a0.length ca0), (1, .int .i64 a1), (8, .slice A14 y13.length c15), (9, .int .i64 y17), (10, .int .i64 (IntKind.i64.wrap (y17 + 1)))]) ⟨rfl, rfl, rfl, rfl, rfl, trivial⟩ (Nat.lt_succ_self _) ⟨y13, y17, (IntKind.i64.wrap (y17 + 1)), A14, c15, rfl, hS.pick [0] [0] rfl, H⟩
            · replace H := pif_f (of_decide_eq_false hb) H
              refine CJ.exit (EJ.skE (EJ.skE (EJ.hit (?_))))
              exact EJ.meet (F' := [(8, .slice A14 y13.length c15)]) ⟨rfl, trivial⟩ ⟨y13, A14, c15, H, rfl, hS.pick [0] [0] rfl⟩
        · rintro F w1 ⟨y10, A11, c12, he, rfl, hS⟩
          obtain rfl := Option.some.inj he
          have H := K49
          refine EJ.next ?_
          refine CJ.seq ?_
          refine CJ.region ?_
          refine OJ.pures tU_ok 3 rfl ?_
          refine OJ.nil (EJ.next ?_)
          refine CJ.ret (?_)
          obtain rfl := Option.some.inj H
          exact EJ.fin rfl (.tmp rfl (.tmp rfl .nil)) ⟨A11, c12, rfl, hS.pick [0] [] rfl⟩

def impl_GreatestNeed.l1 (a0 : List Meadow) (a1 : Int) (a2 : Int) : Nat → Int → Option ((Int × Int) ⊕ Int)
  | 0, _ => none
  | k + 1, y6 => if y6 < 1000 then ((impl_firstPlan.f k a0 (IntKind.i64.wrap (y6 + 1)) a1 a2).bind fun t7 => if t7.2.2 = 7 then (some (Sum.inl (0, t7.2.2))) else (if t7.2.2 = 6 then (some (Sum.inr y6)) else (impl_GreatestNeed.l1 a0 a1 a2 k (IntKind.i64.wrap (y6 + 1))))) else (some (Sum.inr y6))
def impl_GreatestNeed.f (k : Nat) (a0 : List Meadow) (a1 : Int) (a2 : Int) : Option (Int × Int) := (impl_spanCode.f k a0 1 a1 a2).bind fun t1 => (impl_unless.f (decide (1 ≤ a1)) 2).bind fun t2 => (impl_firstOf.f k ([t1, t2] : List Int)).bind fun t4 => if t4 ≠ 0 then (some (0, t4)) else ((impl_GreatestNeed.l1 a0 a1 a2 k 0).bind fun s86 => match s86 with | .inl r => some r | .inr y5 => if y5 = 0 then (some (0, 6)) else (some (y5, 0)))
theorem impl_GreatestNeed.c (k : Nat) (w : World) (Aa0 : Option Addr) (ca0 : Nat) (a0 : List Meadow) (hr0 : Rd cMeadow w Aa0 a0) (hc0 : a0.length ≤ ca0) (a1 : Int) (a2 : Int) (r : Int × Int) (H : impl_GreatestNeed.f k a0 a1 a2 = some r) :
    CV Try.prog 25 [.slice Aa0 a0.length ca0, .int .i64 a1, .int .i64 a2].toArray w fun v w' => v = .tuple #[.int .i64 r.1, .int .i64 r.2] ∧ Ext w w' := by
  have hS := ((St.init w no).param cMeadow Aa0 ca0 a0 hr0 hc0)
  unfold impl_GreatestNeed.f at H
  refine CV.body Try.func25 rfl Try.ntmps25 rfl ?_
  refine CJ.seq ?_
  refine CJ.region ?_
  refine OJ.pures tU_ok 2 rfl ?_
  refine OJ.nil (EJ.next ?_)
  refine CJ.seq ?_
  refine CJ.seq ?_
  refine CJ.region ?_
  refine OJ.pures tU_ok 3 rfl ?_
  obtain ⟨t1, ht1, H⟩ := pbind H
  refine OJ.callF rfl rfl rfl rfl rfl hb29 rfl (impl_spanCode.c k _ Aa0 ca0 a0 (hS.rd' (i := 0) rfl) (hS.le' (i := 0) rfl) 1 a1 a2 _ ht1) ?_
  rintro _ w1 ⟨rfl, hs⟩
  replace hS := hS.grow hs
  refine OJ.pures tU_ok 2 rfl ?_
  obtain ⟨t2, ht2, H⟩ := pbind H
  refine OJ.callF rfl rfl rfl rfl rfl hb54 rfl (impl_unless.c _ (decide (1 ≤ a1)) 2 _ ht2) ?_
  rintro _ w1 ⟨rfl, hs⟩
  replace hS := hS.grow hs
  refine OJ.ef rfl rfl rfl (Ef.lit tU_ok tI_ok hS (C := (ci .i64)) rfl rfl rfl rfl rfl rfl ([t1, t2] : List Int) rfl rfl rfl rfl) ?_
  rintro _ w1 ⟨A3, rfl, hS⟩
  obtain ⟨t4, ht4, H⟩ := pbind H
  refine OJ.callF rfl rfl rfl rfl rfl hb53 rfl (impl_firstOf.c k _ A3 (([t1, t2] : List Int).length) ([t1, t2] : List Int) (hS.rd (i := 0) rfl) (hS.le (i := 0) rfl) _ ht4) ?_
  rintro _ w1 ⟨rfl, hs⟩
  replace hS := hS.grow hs
  refine OJ.pures tU_ok 1 rfl ?_
  refine OJ.nil (EJ.next ?_)
  refine CJ.seq ?_
  refine CJ.region ?_
  refine OJ.pures tU_ok 2 rfl ?_
  refine OJ.nil (EJ.next ?_)
  refine CJ.cond rfl (fun hb => ?_) (fun hb => ?_)
  · replace H := pif_t (of_decide_eq_true hb) H
    refine CJ.seq ?_
    refine CJ.region ?_
    refine OJ.pures tU_ok 3 rfl ?_
    refine OJ.nil (EJ.next ?_)
    refine CJ.ret (EJ.skR (?_))
    obtain rfl := Option.some.inj H
    exact EJ.fin rfl (.tmp rfl (.tmp rfl .nil)) ⟨rfl, hS.ext⟩
  · replace H := pif_f (of_decide_eq_false hb) H
    refine CJ.skip (EJ.next ?_)
    refine CJ.seq ?_
    refine CJ.region ?_
    refine OJ.pures tU_ok 1 rfl ?_
    refine OJ.nil (EJ.next ?_)
    obtain ⟨j86, H, K86⟩ := pbind H
    refine CJ.cut (fun F w1 => ∃ (y5 : Int) , (some (Sum.inr y5) : Option ((Int × Int) ⊕ Int)) = some j86 ∧ F = [(9, .int .i64 y5)] ∧ St w no w1 [] [roC cMeadow Aa0 ca0 a0]) ?_ ?_
    · skip
      refine CJ.block ?_
      refine CJ.loop (fun k F w1 => ∃ (y6 : Int), F = [(0, .slice Aa0 a0.length ca0), (1, .int .i64 a1), (2, .int .i64 a2), (9, .int .i64 y6)] ∧ St w no w1 [] [roC cMeadow Aa0 ca0 a0] ∧ impl_GreatestNeed.l1 a0 a1 a2 k y6 = some j86) k (F' := [(0, .slice Aa0 a0.length ca0), (1, .int .i64 a1), (2, .int .i64 a2), (9, .int .i64 0)]) ⟨rfl, rfl, rfl, rfl, trivial⟩ ⟨0, rfl, hS.pick [] [0] rfl, H⟩ ?_
      rintro k F w1 ⟨y6, rfl, hS, H⟩
      cases k with
      | zero => rw [impl_GreatestNeed.l1] at H; cases H
      | succ k =>
        rw [impl_GreatestNeed.l1] at H
        refine CJ.seq ?_
        refine CJ.seq ?_
        refine CJ.region ?_
        refine OJ.pures tU_ok 2 rfl ?_
        refine OJ.nil (EJ.next ?_)
        refine CJ.cond rfl (fun hb => ?_) (fun hb => ?_)
        · replace H := pif_t (of_decide_eq_true hb) H
          refine CJ.skip (EJ.next ?_)
          refine CJ.block ?_
          refine CJ.seq ?_
          refine CJ.region ?_
          refine OJ.pures tU_ok 5 rfl ?_
          obtain ⟨t7, ht7, H⟩ := pbind H
          refine OJ.callF rfl rfl rfl rfl rfl hb30 rfl (impl_firstPlan.c k _ Aa0 ca0 a0 (hS.rd' (i := 0) rfl) (hS.le' (i := 0) rfl) (IntKind.i64.wrap (y6 + 1)) a1 a2 _ ht7) ?_
          rintro _ w1 ⟨A8, c9, rfl, hs⟩
          replace hS := hS.addN hs
          refine OJ.pures tU_ok 7 rfl ?_
          refine OJ.nil (EJ.next ?_)
          refine CJ.seq ?_
          refine CJ.seq ?_
          refine CJ.region ?_
          refine OJ.pures tU_ok 2 rfl ?_
          refine OJ.nil (EJ.next ?_)
          refine CJ.cond rfl (fun hb => ?_) (fun hb => ?_)
          · replace H := pif_t (of_decide_eq_true hb) H
            refine CJ.seq ?_
            refine CJ.region ?_
            refine OJ.pures tU_ok 3 rfl ?_
            refine OJ.nil (EJ.next ?_)
            refine CJ.ret (EJ.skR (EJ.bkR (EJ.skR (EJ.bkR (EJ.skR (?_))))))
            first | (obtain rfl := Option.some.inj H; have H := K86) | (obtain ⟨q86, H2, e86⟩ := pbind H; obtain rfl := Option.some.inj e86; obtain rfl := Option.some.inj K86; have H := H2)
            obtain rfl := Option.some.inj H
            exact EJ.fin rfl (.tmp rfl (.tmp rfl .nil)) ⟨rfl, hS.ext⟩
          · replace H := pif_f (of_decide_eq_false hb) H
            refine CJ.skip (EJ.next ?_)
            refine CJ.seq ?_
            refine CJ.seq ?_
            refine CJ.region ?_
            refine OJ.pures tU_ok 2 rfl ?_
            refine OJ.nil (EJ.next ?_)
            refine CJ.cond rfl (fun hb => ?_) (fun hb => ?_)
            · replace H := pif_t (of_decide_eq_true hb) H
              refine CJ.exit (EJ.skE (EJ.bkE rfl (EJ.skE (EJ.hit (?_)))))
              exact EJ.meet (F' := [(9, .int .i64 y6)]) ⟨rfl, trivial⟩ ⟨y6, H, rfl, hS.pick [] [0] rfl⟩
            · replace H := pif_f (of_decide_eq_false hb) H
              refine CJ.skip (EJ.next ?_)
              refine CJ.region ?_
              refine OJ.pures tU_ok 3 rfl ?_
              refine OJ.nil (EJ.blk (?_))
              exact EJ.round k (F' := [(0, .slice Aa0 a0.length ca0), (1, .int .i64 a1), (2, .int .i64 a2), (9, .int .i64 (IntKind.i64.wrap (y6 + 1)))]) ⟨rfl, rfl, rfl, rfl, trivial⟩ (Nat.lt_succ_self _) ⟨(IntKind.i64.wrap (y6 + 1)), rfl, hS.pick [] [0] rfl, H⟩
        · replace H := pif_f (of_decide_eq_false hb) H
          refine CJ.exit (EJ.skE (EJ.skE (EJ.hit (?_))))
          exact EJ.meet (F' := [(9, .int .i64 y6)]) ⟨rfl, trivial⟩ ⟨y6, H, rfl, hS.pick [] [0] rfl⟩
    · rintro F w1 ⟨y5, he, rfl, hS⟩
      obtain rfl := Option.some.inj he
      have H := K86
      refine CJ.seq ?_
      refine CJ.seq ?_
      refine CJ.region ?_
      refine OJ.pures tU_ok 2 rfl ?_
      refine OJ.nil (EJ.next ?_)
      refine CJ.cond rfl (fun hb => ?_) (fun hb => ?_)
      · replace H := pif_t (of_decide_eq_true hb) H
        refine CJ.seq ?_
        refine CJ.region ?_
        refine OJ.pures tU_ok 2 rfl ?_
        refine OJ.nil (EJ.next ?_)
        refine CJ.ret (EJ.skR (?_))
        obtain rfl := Option.some.inj H
        exact EJ.fin rfl (.tmp rfl (.tmp rfl .nil)) ⟨rfl, hS.ext⟩
      · replace H := pif_f (of_decide_eq_false hb) H
        refine CJ.skip (EJ.next ?_)
        refine CJ.seq ?_
        refine CJ.region ?_
        refine OJ.pures tU_ok 3 rfl ?_
        refine OJ.nil (EJ.next ?_)
        refine CJ.ret (?_)
        obtain rfl := Option.some.inj H
        exact EJ.fin rfl (.tmp rfl (.tmp rfl .nil)) ⟨rfl, hS.ext⟩

def laws_FnSeasons.l1 (t7 : Int) (t12 : List Int × Int × Int) : Nat → (List Meadow) → Int → Option ((Bool ⊕ ((List Meadow) × (List Int))) ⊕ (List Meadow))
  | 0, _, _ => none
  | k + 1, y40, y43 => if y43 < (t12.1.length : Int) then ((getI t12.1 y43).bind fun t44 => (impl_DayBehind.f k y40 (IntKind.i64.wrap (1 + t7)) t44).bind fun t45 => (getI t12.1 y43).bind fun t48 => (spec_DayBehind.f k y40 (IntKind.i64.wrap (1 + t7)) t48).bind fun t49 => if t45.2 ≠ t49.2 then (some (Sum.inl (Sum.inl false))) else (if t45.2 ≠ 0 then (some (Sum.inl (Sum.inl false))) else ((spec_SameMeadows.f k t45.1 t49.1).bind fun t52 => if (!t52) = true then (some (Sum.inl (Sum.inl false))) else ((impl_SameMeadows.f k t45.1 t49.1).bind fun t53 => if (!t53) = true then (some (Sum.inl (Sum.inl false))) else (laws_FnSeasons.l1 t7 t12 k t49.1 (IntKind.i64.wrap (y43 + 1))))))) else (some (Sum.inr y40))
def laws_FnSeasons.l3 (y31 : List Int) (y64 : Int) : Nat → Int → Int → Option Int
  | 0, _, _ => none
  | k + 1, y76, y77 => if y77 < (y31.length : Int) then ((getI y31 y77).bind fun t78 => if t78 = y64 then (laws_FnSeasons.l3 y31 y64 k (IntKind.i64.wrap (y76 + 1)) (IntKind.i64.wrap (y77 + 1))) else (laws_FnSeasons.l3 y31 y64 k y76 (IntKind.i64.wrap (y77 + 1)))) else (some y76)
def laws_FnSeasons.l2 (y31 : List Int) : Nat → Int → Int → Int → Option ((Bool ⊕ Unit) ⊕ (Int × Int))
  | 0, _, _, _ => none
  | k + 1, y62, y63, y64 => if y64 < 6 then (((impl_RestsOf.f k y31 y64).bind fun t67 => (spec_RestsOf.f k y31 y64).bind fun t70 => (if t67.2 ≠ t70.2 then (some true) else (if t67.2 ≠ 0 then (some true) else ((spec_SameNumbers.f k t67.1 t70.1).bind fun t74 => some (!t74)))).bind fun y73 => if y73 = true then (some (Sum.inl (Sum.inl (Sum.inl false)))) else ((laws_FnSeasons.l3 y31 y64 k 0 0).bind fun y75 => if 0 < y75 then (some (Sum.inr (IntKind.i64.wrap (y62 + (IntKind.i64.wrap ((IntKind.i64.wrap (y75 - 1)) - (t70.1.length : Int)))), IntKind.i64.wrap (y63 + y75)))) else (some (Sum.inr (y62, IntKind.i64.wrap (y63 + y75)))))).bind fun s76 => match s76 with | .inl r => some r | .inr (y65, y66) => laws_FnSeasons.l2 y31 k y65 y66 (IntKind.i64.wrap (y64 + 1))) else (some (Sum.inr (y62, y63)))
def laws_FnSeasons.l4 (t7 : Int) (y28 : List Meadow) : Nat → Int → Option ((Bool ⊕ Unit) ⊕ Unit)
  | 0, _ => none
  | k + 1, y80 => if y80 < (y28.length : Int) then ((getI y28 y80).bind fun t81 => if (IntKind.i64.wrap (1 + t7)) ≤ (IntKind.i64.wrap t81.Grass) then (some (Sum.inl (Sum.inl false))) else (laws_FnSeasons.l4 t7 y28 k (IntKind.i64.wrap (y80 + 1)))) else (some (Sum.inr ()))
def laws_FnSeasons.l5 (y28 : List Meadow) : Nat → Int → Int → Option Int
  | 0, _, _ => none
  | k + 1, y84, y85 => if y85 < (y28.length : Int) then ((getI y28 y85).bind fun t86 => laws_FnSeasons.l5 y28 k (if y84 < (IntKind.i64.wrap t86.Grass) then (IntKind.i64.wrap t86.Grass) else y84) (IntKind.i64.wrap (y85 + 1))) else (some y84)
def laws_FnSeasons.f (k : Nat) (a0 : List Int) (a1 : List Int) : Option Bool := ((laws_f6big.f a0).bind fun t2 => if t2 = true then (some true) else ((laws_f6big.f a1).bind fun t3 => some t3)).bind fun y1 => if y1 = true then (some true) else ((spec_P6Meadows.f k a0).bind fun t4 => (spec_P6Pick.f a1 5).bind fun t7 => (spec_P6Pick.f a0 6).bind fun t8 => (impl_FirstPlan.f k t4 (IntKind.i64.wrap (1 + t7)) (IntKind.i64.wrap (1 + t8)) 3000).bind fun t9 => (spec_FirstPlan.f k t4 (IntKind.i64.wrap (1 + t7)) (IntKind.i64.wrap (1 + t8)) 3000).bind fun t12 => (impl_GreedyPlan.f k t4 (IntKind.i64.wrap (1 + t7)) (IntKind.i64.wrap (1 + t8))).bind fun t15 => (spec_GreedyPlan.f k t4 (IntKind.i64.wrap (1 + t7)) (IntKind.i64.wrap (1 + t8))).bind fun t18 => (impl_LongestGreedy.f k t4 (IntKind.i64.wrap (1 + t7))).bind fun t21 => (impl_EnoughFor.f k t4 (IntKind.i64.wrap (1 + t7)) (IntKind.i64.wrap (1 + t8))).bind fun t22 => (spec_EnoughFor.f k t4 (IntKind.i64.wrap (1 + t7)) (IntKind.i64.wrap (1 + t8))).bind fun t23 => (if t9.2.2 ≠ t12.2.2 then (some true) else ((spec_SameNumbers.f k t9.1 t12.1).bind fun t25 => if (!t25) = true then (some true) else (if t9.2.1 ≠ t12.2.1 then (some true) else (if t15.2 ≠ t18.2 then (some true) else ((spec_SameNumbers.f k t15.1 t18.1).bind fun t26 => if (!t26) = true then (some true) else (if t21.2 ≠ 0 then (some true) else (if (decide (t15.2 = 0)) ≠ (decide ((IntKind.i64.wrap (1 + t8)) ≤ t21.1)) then (some true) else (if t22.2 ≠ t23.2 then (some true) else (if t22.2 ≠ 0 then (some true) else (if t22.1 ≠ t23.1 then (some true) else ((impl_ValidMeadows.f k t4).bind fun t27 => if (!t27) = true then (some true) else (if t9.2.2 ≠ 0 then (if t9.2.2 ≠ 6 then (some (decide (t9.2.2 ≠ 7))) else (some false)) else (some false))))))))))))).bind fun y24 => if y24 = true then (some false) else ((if t9.2.2 = 0 then ((impl_CheckPlan.f k t4 (IntKind.i64.wrap (1 + t7)) t12.1).bind fun t34 => (impl_FirstHungry.f k t4 (IntKind.i64.wrap (1 + t7)) t12.1).bind fun t35 => (if t34.2 ≠ 0 then (some true) else (if (!t34.1) = true then (some true) else (if t35.2 ≠ 6 then (some true) else (if (t12.1.length : Int) ≠ (IntKind.i64.wrap (1 + t8)) then (some true) else (if (!t23.1) = true then (some true) else (some (decide (t12.2.1 < (IntKind.i64.wrap (1 + t8)))))))))).bind fun y36 => if y36 = true then (some (Sum.inl false)) else ((laws_FnSeasons.l1 t7 t12 k t4 0).bind fun s40 => match s40 with | .inl r => some r | .inr y37 => (impl_GrassBehind.f k t4 (IntKind.i64.wrap (1 + t7)) t12.1).bind fun t54 => if t54.2 ≠ 0 then (some (Sum.inl false)) else ((spec_SameMeadows.f k t54.1 y37).bind fun t57 => if (!t57) = true then (some (Sum.inl false)) else (some (Sum.inr (t4, t18.1)))))) else (some (Sum.inr (t4, t18.1)))).bind fun s32 => match s32 with | .inl r => some r | .inr (y28, y31) => (if t15.2 = 0 then ((impl_CheckPlan.f k y28 (IntKind.i64.wrap (1 + t7)) y31).bind fun t58 => (if t58.2 ≠ 0 then (some true) else (if (!t58.1) = true then (some true) else (some (decide (t9.2.2 = 6))))).bind fun y59 => if y59 = true then (some (Sum.inl false)) else ((laws_FnSeasons.l2 y31 k 0 0 0).bind fun s65 => match s65 with | .inl r => some r | .inr (y60, y61) => if y60 ≠ 0 then (some (Sum.inl false)) else (if y61 ≠ (IntKind.i64.wrap (1 + t8)) then (some (Sum.inl false)) else (some (Sum.inr ()))))) else (some (Sum.inr ()))).bind fun s41 => match s41 with | .inl r => some r | .inr _ => ((if t9.2.2 = 6 then (some (decide ((IntKind.i64.wrap (1 + t8)) = 1))) else (some false)).bind fun y79 => if y79 = true then ((laws_FnSeasons.l4 t7 y28 k 0).bind fun s85 => match s85 with | .inl r => some r | .inr _ => some (Sum.inr ())) else (some (Sum.inr ()))).bind fun s81 => match s81 with | .inl r => some r | .inr _ => (impl_GreatestNeed.f k y28 1 1000).bind fun t82 => (laws_FnSeasons.l5 y28 k 0 0).bind fun y83 => if t82.2 = 0 then (if t82.1 = y83 then (if 0 < y83 then (some true) else (if t82.2 = 6 then (some (decide (y83 = 0))) else (some false))) else (if t82.2 = 6 then (some (decide (y83 = 0))) else (some false))) else (if t82.2 = 6 then (some (decide (y83 = 0))) else (some false))))
theorem laws_FnSeasons.c (k : Nat) (w : World) (Aa0 : Option Addr) (ca0 : Nat) (a0 : List Int) (hr0 : Rd (ci .u8) w Aa0 a0) (hc0 : a0.length ≤ ca0) (Aa1 : Option Addr) (ca1 : Nat) (a1 : List Int) (hr1 : Rd (ci .u8) w Aa1 a1) (hc1 : a1.length ≤ ca1) (r : Bool) (H : laws_FnSeasons.f k a0 a1 = some r) :
    CV Try.prog 3 [.slice Aa0 a0.length ca0, .slice Aa1 a1.length ca1].toArray w fun v w' => v = .bool r ∧ Ext w w' := by
  have hS := (((St.init w no).param (ci .u8) Aa0 ca0 a0 hr0 hc0).param (ci .u8) Aa1 ca1 a1 hr1 hc1)
  unfold laws_FnSeasons.f at H
  refine CV.body Try.func3 rfl Try.ntmps3 rfl ?_
  refine CJ.seq ?_
  refine CJ.region ?_
  refine OJ.pures tU_ok 1 rfl ?_
  refine OJ.nil (EJ.next ?_)
  refine CJ.seq ?_
  obtain ⟨j1, H, K1⟩ := pbind H
  refine CJ.cut (fun F w1 => ∃ (y1 : Bool) , (some y1 : Option Bool) = some j1 ∧ F = [(0, .slice Aa0 a0.length ca0), (1, .slice Aa1 a1.length ca1), (57, .bool y1)] ∧ St w no w1 [] [roC (ci .u8) Aa0 ca0 a0, roC (ci .u8) Aa1 ca1 a1]) ?_ ?_
  · skip
    refine CJ.region ?_
    refine OJ.pures tU_ok 1 rfl ?_
    obtain ⟨t2, ht2, H⟩ := pbind H
    refine OJ.callF rfl rfl rfl rfl rfl hb4 rfl (laws_f6big.c _ Aa0 ca0 a0 (hS.rd' (i := 0) rfl) (hS.le' (i := 0) rfl) _ ht2) ?_
    rintro _ w1 ⟨rfl, hs⟩
    replace hS := hS.grow hs
    refine OJ.pures tU_ok 1 rfl ?_
    refine OJ.split (t := 54) rfl (fun hb => ?_) (fun hb => ?_)
    · replace H := pif_t hb H
      refine OJ.pures tU_ok 3 rfl ?_
      refine OJ.nil ?_
      exact EJ.meet (F' := [(0, .slice Aa0 a0.length ca0), (1, .slice Aa1 a1.length ca1), (57, .bool true)]) ⟨rfl, rfl, rfl, trivial⟩ ⟨true, H, rfl, hS.pick [] [0, 1] rfl⟩
    · replace H := pifb_f hb H
      refine OJ.pures tU_ok 1 rfl ?_
      obtain ⟨t3, ht3, H⟩ := pbind H
      refine OJ.callF rfl rfl rfl rfl rfl hb4 rfl (laws_f6big.c _ Aa1 ca1 a1 (hS.rd' (i := 1) rfl) (hS.le' (i := 1) rfl) _ ht3) ?_
      rintro _ w1 ⟨rfl, hs⟩
      replace hS := hS.grow hs
      refine OJ.pures tU_ok 1 rfl ?_
      refine OJ.nil ?_
      exact EJ.meet (F' := [(0, .slice Aa0 a0.length ca0), (1, .slice Aa1 a1.length ca1), (57, .bool t3)]) ⟨rfl, rfl, rfl, trivial⟩ ⟨t3, H, rfl, hS.pick [] [0, 1] rfl⟩
  · rintro F w1 ⟨y1, he, rfl, hS⟩
    obtain rfl := Option.some.inj he
    have H := K1
    refine CJ.cond rfl (fun hb => ?_) (fun hb => ?_)
    · replace H := pif_t hb H
      refine CJ.seq ?_
      refine CJ.region ?_
      refine OJ.pures tU_ok 1 rfl ?_
      refine OJ.nil (EJ.next ?_)
      refine CJ.ret (EJ.skR (?_))
      obtain rfl := Option.some.inj H
      exact EJ.fin rfl (.tmp rfl .nil) ⟨rfl, hS.ext⟩
    · replace H := pifb_f hb H
      refine CJ.skip (EJ.next ?_)
      refine CJ.seq ?_
      refine CJ.region ?_
      refine OJ.pures tU_ok 1 rfl ?_
      obtain ⟨t4, ht4, H⟩ := pbind H
      refine OJ.callF rfl rfl rfl rfl rfl hb5 rfl (spec_P6Meadows.c k _ Aa0 ca0 a0 (hS.rd' (i := 0) rfl) (hS.le' (i := 0) rfl) _ ht4) ?_
      rintro _ w1 ⟨A5, c6, rfl, hs⟩
      replace hS := hS.addN hs
      refine OJ.pures tU_ok 1 rfl ?_
      refine OJ.nil (EJ.next ?_)
      refine CJ.seq ?_
      refine CJ.region ?_
      refine OJ.pures tU_ok 1 rfl ?_
      obtain ⟨t7, ht7, H⟩ := pbind H
      refine OJ.callF rfl rfl rfl rfl rfl hb6 rfl (spec_P6Pick.c _ Aa1 ca1 a1 (hS.rd' (i := 1) rfl) (hS.le' (i := 1) rfl) 5 _ ht7) ?_
      rintro _ w1 ⟨rfl, hs⟩
      replace hS := hS.grow hs
      refine OJ.pures tU_ok 2 rfl ?_
      refine OJ.nil (EJ.next ?_)
      refine CJ.seq ?_
      refine CJ.region ?_
      refine OJ.pures tU_ok 1 rfl ?_
      obtain ⟨t8, ht8, H⟩ := pbind H
      refine OJ.callF rfl rfl rfl rfl rfl hb6 rfl (spec_P6Pick.c _ Aa0 ca0 a0 (hS.rd' (i := 0) rfl) (hS.le' (i := 0) rfl) 6 _ ht8) ?_
      rintro _ w1 ⟨rfl, hs⟩
      replace hS := hS.grow hs
      refine OJ.pures tU_ok 2 rfl ?_
      refine OJ.nil (EJ.next ?_)
      refine CJ.seq ?_
      refine CJ.region ?_
      refine OJ.pures tU_ok 3 rfl ?_
      obtain ⟨t9, ht9, H⟩ := pbind H
      refine OJ.callF rfl rfl rfl rfl rfl hb7 rfl (impl_FirstPlan.c k _ A5 c6 t4 (hS.rd (i := 0) rfl) (hS.le (i := 0) rfl) (IntKind.i64.wrap (1 + t7)) (IntKind.i64.wrap (1 + t8)) 3000 _ ht9) ?_
      rintro _ w1 ⟨A10, c11, rfl, hs⟩
      replace hS := hS.addN hs
      refine OJ.pures tU_ok 7 rfl ?_
      refine OJ.nil (EJ.next ?_)
      refine CJ.seq ?_
      refine CJ.region ?_
      refine OJ.pures tU_ok 3 rfl ?_
      obtain ⟨t12, ht12, H⟩ := pbind H
      refine OJ.callF rfl rfl rfl rfl rfl hb8 rfl (spec_FirstPlan.c k _ A5 c6 t4 (hS.rd (i := 0) rfl) (hS.le (i := 0) rfl) (IntKind.i64.wrap (1 + t7)) (IntKind.i64.wrap (1 + t8)) 3000 _ ht12) ?_
      rintro _ w1 ⟨A13, c14, rfl, hs⟩
      replace hS := hS.addN hs
      refine OJ.pures tU_ok 7 rfl ?_
      refine OJ.nil (EJ.next ?_)
      refine CJ.seq ?_
      refine CJ.region ?_
      refine OJ.pures tU_ok 3 rfl ?_
      obtain ⟨t15, ht15, H⟩ := pbind H
      refine OJ.callF rfl rfl rfl rfl rfl hb9 rfl (impl_GreedyPlan.c k _ A5 c6 t4 (hS.rd (i := 0) rfl) (hS.le (i := 0) rfl) (IntKind.i64.wrap (1 + t7)) (IntKind.i64.wrap (1 + t8)) _ ht15) ?_
      rintro _ w1 ⟨A16, c17, rfl, hs⟩
      replace hS := hS.addN hs
      refine OJ.pures tU_ok 5 rfl ?_
      refine OJ.nil (EJ.next ?_)
      refine CJ.seq ?_
      refine CJ.region ?_
      refine OJ.pures tU_ok 3 rfl ?_
      obtain ⟨t18, ht18, H⟩ := pbind H
      refine OJ.callF rfl rfl rfl rfl rfl hb10 rfl (spec_GreedyPlan.c k _ A5 c6 t4 (hS.rd (i := 0) rfl) (hS.le (i := 0) rfl) (IntKind.i64.wrap (1 + t7)) (IntKind.i64.wrap (1 + t8)) _ ht18) ?_
      rintro _ w1 ⟨A19, c20, rfl, hs⟩
      replace hS := hS.addN hs
      refine OJ.pures tU_ok 5 rfl ?_
      refine OJ.nil (EJ.next ?_)
      refine CJ.seq ?_
      refine CJ.region ?_
      refine OJ.pures tU_ok 2 rfl ?_
      obtain ⟨t21, ht21, H⟩ := pbind H
      refine OJ.callF rfl rfl rfl rfl rfl hb11 rfl (impl_LongestGreedy.c k _ A5 c6 t4 (hS.rd (i := 0) rfl) (hS.le (i := 0) rfl) (IntKind.i64.wrap (1 + t7)) _ ht21) ?_
      rintro _ w1 ⟨rfl, hs⟩
      replace hS := hS.grow hs
      refine OJ.pures tU_ok 5 rfl ?_
      refine OJ.nil (EJ.next ?_)
      refine CJ.seq ?_
      refine CJ.region ?_
      refine OJ.pures tU_ok 3 rfl ?_
      obtain ⟨t22, ht22, H⟩ := pbind H
      refine OJ.callF rfl rfl rfl rfl rfl hb12 rfl (impl_EnoughFor.c k _ A5 c6 t4 (hS.rd (i := 0) rfl) (hS.le (i := 0) rfl) (IntKind.i64.wrap (1 + t7)) (IntKind.i64.wrap (1 + t8)) _ ht22) ?_
      rintro _ w1 ⟨rfl, hs⟩
      replace hS := hS.grow hs
      refine OJ.pures tU_ok 5 rfl ?_
      refine OJ.nil (EJ.next ?_)
      refine CJ.seq ?_
      refine CJ.region ?_
      refine OJ.pures tU_ok 3 rfl ?_
      obtain ⟨t23, ht23, H⟩ := pbind H
      refine OJ.callF rfl rfl rfl rfl rfl hb13 rfl (spec_EnoughFor.c k _ A5 c6 t4 (hS.rd (i := 0) rfl) (hS.le (i := 0) rfl) (IntKind.i64.wrap (1 + t7)) (IntKind.i64.wrap (1 + t8)) _ ht23) ?_
      rintro _ w1 ⟨rfl, hs⟩
      replace hS := hS.grow hs
      refine OJ.pures tU_ok 5 rfl ?_
      refine OJ.nil (EJ.next ?_)
      refine CJ.seq ?_
      obtain ⟨j30, H, K30⟩ := pbind H
      refine CJ.cut (fun F w1 => ∃ (y24 : Bool) , (some y24 : Option Bool) = some j30 ∧ F = [(5, .slice A5 t4.length c6), (6, .int .i64 (IntKind.i64.wrap (1 + t7))), (7, .int .i64 (IntKind.i64.wrap (1 + t8))), (10, .int .i64 t9.2.2), (11, .slice A13 t12.1.length c14), (12, .int .i64 t12.2.1), (15, .int .i64 t15.2), (16, .slice A19 t18.1.length c20), (22, .bool t23.1), (183, .bool y24)] ∧ St w no w1 [rowC cMeadow A5 c6 47 t4, rowC (ci .i64) A13 c14 2 t12.1, rowC (ci .i64) A19 c20 2 t18.1] [roC (ci .u8) Aa0 ca0 a0, roC (ci .u8) Aa1 ca1 a1]) ?_ ?_
      · skip
        refine CJ.region ?_
        refine OJ.pures tU_ok 4 rfl ?_
        refine OJ.split (t := 119) rfl (fun hb => ?_) (fun hb => ?_)
        · replace H := pif_t (of_decide_eq_true hb) H
          refine OJ.pures tU_ok 64 rfl ?_
          refine OJ.nil ?_
          exact EJ.meet (F' := [(5, .slice A5 t4.length c6), (6, .int .i64 (IntKind.i64.wrap (1 + t7))), (7, .int .i64 (IntKind.i64.wrap (1 + t8))), (10, .int .i64 t9.2.2), (11, .slice A13 t12.1.length c14), (12, .int .i64 t12.2.1), (15, .int .i64 t15.2), (16, .slice A19 t18.1.length c20), (22, .bool t23.1), (183, .bool true)]) ⟨rfl, rfl, rfl, rfl, rfl, rfl, rfl, rfl, rfl, rfl, trivial⟩ ⟨true, H, rfl, hS.pick [0, 2, 4] [0, 1] rfl⟩
        · replace H := pif_f (of_decide_eq_false hb) H
          refine OJ.pures tU_ok 2 rfl ?_
          obtain ⟨t25, ht25, H⟩ := pbind H
          refine OJ.callF rfl rfl rfl rfl rfl hb14 rfl (spec_SameNumbers.c k _ A10 c11 t9.1 (hS.rd (i := 1) rfl) (hS.le (i := 1) rfl) A13 c14 t12.1 (hS.rd (i := 2) rfl) (hS.le (i := 2) rfl) _ ht25) ?_
          rintro _ w1 ⟨rfl, hs⟩
          replace hS := hS.grow hs
          refine OJ.pures tU_ok 3 rfl ?_
          refine OJ.split (t := 125) rfl (fun hb => ?_) (fun hb => ?_)
          · replace H := pif_t hb H
            refine OJ.pures tU_ok 58 rfl ?_
            refine OJ.nil ?_
            exact EJ.meet (F' := [(5, .slice A5 t4.length c6), (6, .int .i64 (IntKind.i64.wrap (1 + t7))), (7, .int .i64 (IntKind.i64.wrap (1 + t8))), (10, .int .i64 t9.2.2), (11, .slice A13 t12.1.length c14), (12, .int .i64 t12.2.1), (15, .int .i64 t15.2), (16, .slice A19 t18.1.length c20), (22, .bool t23.1), (183, .bool true)]) ⟨rfl, rfl, rfl, rfl, rfl, rfl, rfl, rfl, rfl, rfl, trivial⟩ ⟨true, H, rfl, hS.pick [0, 2, 4] [0, 1] rfl⟩
          · replace H := pifb_f hb H
            refine OJ.pures tU_ok 5 rfl ?_
            refine OJ.split (t := 130) rfl (fun hb => ?_) (fun hb => ?_)
            · replace H := pif_t (of_decide_eq_true hb) H
              refine OJ.pures tU_ok 53 rfl ?_
              refine OJ.nil ?_
              exact EJ.meet (F' := [(5, .slice A5 t4.length c6), (6, .int .i64 (IntKind.i64.wrap (1 + t7))), (7, .int .i64 (IntKind.i64.wrap (1 + t8))), (10, .int .i64 t9.2.2), (11, .slice A13 t12.1.length c14), (12, .int .i64 t12.2.1), (15, .int .i64 t15.2), (16, .slice A19 t18.1.length c20), (22, .bool t23.1), (183, .bool true)]) ⟨rfl, rfl, rfl, rfl, rfl, rfl, rfl, rfl, rfl, rfl, trivial⟩ ⟨true, H, rfl, hS.pick [0, 2, 4] [0, 1] rfl⟩
            · replace H := pif_f (of_decide_eq_false hb) H
              refine OJ.pures tU_ok 5 rfl ?_
              refine OJ.split (t := 135) rfl (fun hb => ?_) (fun hb => ?_)
              · replace H := pif_t (of_decide_eq_true hb) H
                refine OJ.pures tU_ok 48 rfl ?_
                refine OJ.nil ?_
                exact EJ.meet (F' := [(5, .slice A5 t4.length c6), (6, .int .i64 (IntKind.i64.wrap (1 + t7))), (7, .int .i64 (IntKind.i64.wrap (1 + t8))), (10, .int .i64 t9.2.2), (11, .slice A13 t12.1.length c14), (12, .int .i64 t12.2.1), (15, .int .i64 t15.2), (16, .slice A19 t18.1.length c20), (22, .bool t23.1), (183, .bool true)]) ⟨rfl, rfl, rfl, rfl, rfl, rfl, rfl, rfl, rfl, rfl, trivial⟩ ⟨true, H, rfl, hS.pick [0, 2, 4] [0, 1] rfl⟩
              · replace H := pif_f (of_decide_eq_false hb) H
                refine OJ.pures tU_ok 2 rfl ?_
                obtain ⟨t26, ht26, H⟩ := pbind H
                refine OJ.callF rfl rfl rfl rfl rfl hb14 rfl (spec_SameNumbers.c k _ A16 c17 t15.1 (hS.rd (i := 3) rfl) (hS.le (i := 3) rfl) A19 c20 t18.1 (hS.rd (i := 4) rfl) (hS.le (i := 4) rfl) _ ht26) ?_
                rintro _ w1 ⟨rfl, hs⟩
                replace hS := hS.grow hs
                refine OJ.pures tU_ok 3 rfl ?_
                refine OJ.split (t := 141) rfl (fun hb => ?_) (fun hb => ?_)
                · replace H := pif_t hb H
                  refine OJ.pures tU_ok 42 rfl ?_
                  refine OJ.nil ?_
                  exact EJ.meet (F' := [(5, .slice A5 t4.length c6), (6, .int .i64 (IntKind.i64.wrap (1 + t7))), (7, .int .i64 (IntKind.i64.wrap (1 + t8))), (10, .int .i64 t9.2.2), (11, .slice A13 t12.1.length c14), (12, .int .i64 t12.2.1), (15, .int .i64 t15.2), (16, .slice A19 t18.1.length c20), (22, .bool t23.1), (183, .bool true)]) ⟨rfl, rfl, rfl, rfl, rfl, rfl, rfl, rfl, rfl, rfl, trivial⟩ ⟨true, H, rfl, hS.pick [0, 2, 4] [0, 1] rfl⟩
                · replace H := pifb_f hb H
                  refine OJ.pures tU_ok 4 rfl ?_
                  refine OJ.split (t := 145) rfl (fun hb => ?_) (fun hb => ?_)
                  · replace H := pif_t (of_decide_eq_true hb) H
                    refine OJ.pures tU_ok 38 rfl ?_
                    refine OJ.nil ?_
                    exact EJ.meet (F' := [(5, .slice A5 t4.length c6), (6, .int .i64 (IntKind.i64.wrap (1 + t7))), (7, .int .i64 (IntKind.i64.wrap (1 + t8))), (10, .int .i64 t9.2.2), (11, .slice A13 t12.1.length c14), (12, .int .i64 t12.2.1), (15, .int .i64 t15.2), (16, .slice A19 t18.1.length c20), (22, .bool t23.1), (183, .bool true)]) ⟨rfl, rfl, rfl, rfl, rfl, rfl, rfl, rfl, rfl, rfl, trivial⟩ ⟨true, H, rfl, hS.pick [0, 2, 4] [0, 1] rfl⟩
                  · replace H := pif_f (of_decide_eq_false hb) H
                    refine OJ.pures tU_ok 5 rfl ?_
                    refine OJ.st rfl rfl rfl (SR.neB tU_ok rfl rfl rfl rfl) ?_
                    refine OJ.pures tU_ok 2 rfl ?_
                    refine OJ.split (t := 153) rfl (fun hb => ?_) (fun hb => ?_)
                    · replace H := pif_t (of_decide_eq_true hb) H
                      refine OJ.pures tU_ok 30 rfl ?_
                      refine OJ.nil ?_
                      exact EJ.meet (F' := [(5, .slice A5 t4.length c6), (6, .int .i64 (IntKind.i64.wrap (1 + t7))), (7, .int .i64 (IntKind.i64.wrap (1 + t8))), (10, .int .i64 t9.2.2), (11, .slice A13 t12.1.length c14), (12, .int .i64 t12.2.1), (15, .int .i64 t15.2), (16, .slice A19 t18.1.length c20), (22, .bool t23.1), (183, .bool true)]) ⟨rfl, rfl, rfl, rfl, rfl, rfl, rfl, rfl, rfl, rfl, trivial⟩ ⟨true, H, rfl, hS.pick [0, 2, 4] [0, 1] rfl⟩
                    · replace H := pif_f (of_decide_eq_false hb) H
                      refine OJ.pures tU_ok 5 rfl ?_
                      refine OJ.split (t := 158) rfl (fun hb => ?_) (fun hb => ?_)
                      · replace H := pif_t (of_decide_eq_true hb) H
                        refine OJ.pures tU_ok 25 rfl ?_
                        refine OJ.nil ?_
                        exact EJ.meet (F' := [(5, .slice A5 t4.length c6), (6, .int .i64 (IntKind.i64.wrap (1 + t7))), (7, .int .i64 (IntKind.i64.wrap (1 + t8))), (10, .int .i64 t9.2.2), (11, .slice A13 t12.1.length c14), (12, .int .i64 t12.2.1), (15, .int .i64 t15.2), (16, .slice A19 t18.1.length c20), (22, .bool t23.1), (183, .bool true)]) ⟨rfl, rfl, rfl, rfl, rfl, rfl, rfl, rfl, rfl, rfl, trivial⟩ ⟨true, H, rfl, hS.pick [0, 2, 4] [0, 1] rfl⟩
                      · replace H := pif_f (of_decide_eq_false hb) H
                        refine OJ.pures tU_ok 4 rfl ?_
                        refine OJ.split (t := 162) rfl (fun hb => ?_) (fun hb => ?_)
                        · replace H := pif_t (of_decide_eq_true hb) H
                          refine OJ.pures tU_ok 21 rfl ?_
                          refine OJ.nil ?_
                          exact EJ.meet (F' := [(5, .slice A5 t4.length c6), (6, .int .i64 (IntKind.i64.wrap (1 + t7))), (7, .int .i64 (IntKind.i64.wrap (1 + t8))), (10, .int .i64 t9.2.2), (11, .slice A13 t12.1.length c14), (12, .int .i64 t12.2.1), (15, .int .i64 t15.2), (16, .slice A19 t18.1.length c20), (22, .bool t23.1), (183, .bool true)]) ⟨rfl, rfl, rfl, rfl, rfl, rfl, rfl, rfl, rfl, rfl, trivial⟩ ⟨true, H, rfl, hS.pick [0, 2, 4] [0, 1] rfl⟩
                        · replace H := pif_f (of_decide_eq_false hb) H
                          refine OJ.pures tU_ok 2 rfl ?_
                          refine OJ.st rfl rfl rfl (SR.neB tU_ok rfl rfl rfl rfl) ?_
                          refine OJ.pures tU_ok 2 rfl ?_
                          refine OJ.split (t := 167) rfl (fun hb => ?_) (fun hb => ?_)
                          · replace H := pif_t (of_decide_eq_true hb) H
                            refine OJ.pures tU_ok 16 rfl ?_
                            refine OJ.nil ?_
                            exact EJ.meet (F' := [(5, .slice A5 t4.length c6), (6, .int .i64 (IntKind.i64.wrap (1 + t7))), (7, .int .i64 (IntKind.i64.wrap (1 + t8))), (10, .int .i64 t9.2.2), (11, .slice A13 t12.1.length c14), (12, .int .i64 t12.2.1), (15, .int .i64 t15.2), (16, .slice A19 t18.1.length c20), (22, .bool t23.1), (183, .bool true)]) ⟨rfl, rfl, rfl, rfl, rfl, rfl, rfl, rfl, rfl, rfl, trivial⟩ ⟨true, H, rfl, hS.pick [0, 2, 4] [0, 1] rfl⟩
                          · replace H := pif_f (of_decide_eq_false hb) H
                            refine OJ.pures tU_ok 1 rfl ?_
                            obtain ⟨t27, ht27, H⟩ := pbind H
                            refine OJ.callF rfl rfl rfl rfl rfl hb15 rfl (impl_ValidMeadows.c k _ A5 c6 t4 (hS.rd (i := 0) rfl) (hS.le (i := 0) rfl) _ ht27) ?_
                            rintro _ w1 ⟨rfl, hs⟩
                            replace hS := hS.grow hs
                            refine OJ.pures tU_ok 3 rfl ?_
                            refine OJ.split (t := 172) rfl (fun hb => ?_) (fun hb => ?_)
                            · replace H := pif_t hb H
                              refine OJ.pures tU_ok 11 rfl ?_
                              refine OJ.nil ?_
                              exact EJ.meet (F' := [(5, .slice A5 t4.length c6), (6, .int .i64 (IntKind.i64.wrap (1 + t7))), (7, .int .i64 (IntKind.i64.wrap (1 + t8))), (10, .int .i64 t9.2.2), (11, .slice A13 t12.1.length c14), (12, .int .i64 t12.2.1), (15, .int .i64 t15.2), (16, .slice A19 t18.1.length c20), (22, .bool t23.1), (183, .bool true)]) ⟨rfl, rfl, rfl, rfl, rfl, rfl, rfl, rfl, rfl, rfl, trivial⟩ ⟨true, H, rfl, hS.pick [0, 2, 4] [0, 1] rfl⟩
                            · replace H := pifb_f hb H
                              refine OJ.pures tU_ok 3 rfl ?_
                              refine OJ.split (t := 175) rfl (fun hb => ?_) (fun hb => ?_)
                              · replace H := pif_t (of_decide_eq_true hb) H
                                refine OJ.pures tU_ok 4 rfl ?_
                                refine OJ.split (t := 179) rfl (fun hb => ?_) (fun hb => ?_)
                                · replace H := pif_t (of_decide_eq_true hb) H
                                  refine OJ.pures tU_ok 4 rfl ?_
                                  refine OJ.nil ?_
                                  exact EJ.meet (F' := [(5, .slice A5 t4.length c6), (6, .int .i64 (IntKind.i64.wrap (1 + t7))), (7, .int .i64 (IntKind.i64.wrap (1 + t8))), (10, .int .i64 t9.2.2), (11, .slice A13 t12.1.length c14), (12, .int .i64 t12.2.1), (15, .int .i64 t15.2), (16, .slice A19 t18.1.length c20), (22, .bool t23.1), (183, .bool (decide (t9.2.2 ≠ 7)))]) ⟨rfl, rfl, rfl, rfl, rfl, rfl, rfl, rfl, rfl, rfl, trivial⟩ ⟨(decide (t9.2.2 ≠ 7)), H, rfl, hS.pick [0, 2, 4] [0, 1] rfl⟩
                                · replace H := pif_f (of_decide_eq_false hb) H
                                  refine OJ.pures tU_ok 4 rfl ?_
                                  refine OJ.nil ?_
                                  exact EJ.meet (F' := [(5, .slice A5 t4.length c6), (6, .int .i64 (IntKind.i64.wrap (1 + t7))), (7, .int .i64 (IntKind.i64.wrap (1 + t8))), (10, .int .i64 t9.2.2), (11, .slice A13 t12.1.length c14), (12, .int .i64 t12.2.1), (15, .int .i64 t15.2), (16, .slice A19 t18.1.length c20), (22, .bool t23.1), (183, .bool false)]) ⟨rfl, rfl, rfl, rfl, rfl, rfl, rfl, rfl, rfl, rfl, trivial⟩ ⟨false, H, rfl, hS.pick [0, 2, 4] [0, 1] rfl⟩
                              · replace H := pif_f (of_decide_eq_false hb) H
                                refine OJ.pures tU_ok 8 rfl ?_
                                refine OJ.nil ?_
                                exact EJ.meet (F' := [(5, .slice A5 t4.length c6), (6, .int .i64 (IntKind.i64.wrap (1 + t7))), (7, .int .i64 (IntKind.i64.wrap (1 + t8))), (10, .int .i64 t9.2.2), (11, .slice A13 t12.1.length c14), (12, .int .i64 t12.2.1), (15, .int .i64 t15.2), (16, .slice A19 t18.1.length c20), (22, .bool t23.1), (183, .bool false)]) ⟨rfl, rfl, rfl, rfl, rfl, rfl, rfl, rfl, rfl, rfl, trivial⟩ ⟨false, H, rfl, hS.pick [0, 2, 4] [0, 1] rfl⟩
      · rintro F w1 ⟨y24, he, rfl, hS⟩
        obtain rfl := Option.some.inj he
        have H := K30
        refine CJ.cond rfl (fun hb => ?_) (fun hb => ?_)
        · replace H := pif_t hb H
          refine CJ.seq ?_
          refine CJ.region ?_
          refine OJ.pures tU_ok 1 rfl ?_
          refine OJ.nil (EJ.next ?_)
          refine CJ.ret (EJ.skR (?_))
          obtain rfl := Option.some.inj H
          exact EJ.fin rfl (.tmp rfl .nil) ⟨rfl, hS.ext⟩
        · replace H := pifb_f hb H
          refine CJ.skip (EJ.next ?_)
          obtain ⟨j32, H, K32⟩ := pbind H
          refine CJ.cut (fun F w1 => ∃ (y28 : List Meadow) (y31 : List Int) (A29 : Option Addr) (c30 : Nat) (A32 : Option Addr) (c33 : Nat), (some (Sum.inr (y28, y31)) : Option (Bool ⊕ ((List Meadow) × (List Int)))) = some j32 ∧ F = [(5, .slice A29 y28.length c30), (6, .int .i64 (IntKind.i64.wrap (1 + t7))), (7, .int .i64 (IntKind.i64.wrap (1 + t8))), (10, .int .i64 t9.2.2), (15, .int .i64 t15.2), (16, .slice A32 y31.length c33)] ∧ St w no w1 [rowC (ci .i64) A32 c33 2 y31] [roC (ci .u8) Aa0 ca0 a0, roC (ci .u8) Aa1 ca1 a1, roC cMeadow A29 c30 y28]) ?_ ?_
          · skip
            refine CJ.seq ?_
            refine CJ.region ?_
            refine OJ.pures tU_ok 2 rfl ?_
            refine OJ.nil (EJ.next ?_)
            refine CJ.cond rfl (fun hb => ?_) (fun hb => ?_)
            · replace H := pif_t (of_decide_eq_true hb) H
              refine CJ.seq ?_
              refine CJ.region ?_
              refine OJ.pures tU_ok 3 rfl ?_
              obtain ⟨t34, ht34, H⟩ := pbind H
              refine OJ.callF rfl rfl rfl rfl rfl hb16 rfl (impl_CheckPlan.c k _ A5 c6 t4 (hS.rd (i := 0) rfl) (hS.le (i := 0) rfl) (IntKind.i64.wrap (1 + t7)) A13 c14 t12.1 (hS.rd (i := 1) rfl) (hS.le (i := 1) rfl) _ ht34) ?_
              rintro _ w1 ⟨rfl, hs⟩
              replace hS := hS.grow hs
              refine OJ.pures tU_ok 5 rfl ?_
              refine OJ.nil (EJ.next ?_)
              refine CJ.seq ?_
              refine CJ.region ?_
              refine OJ.pures tU_ok 3 rfl ?_
              obtain ⟨t35, ht35, H⟩ := pbind H
              refine OJ.callF rfl rfl rfl rfl rfl hb17 rfl (impl_FirstHungry.c k _ A5 c6 t4 (hS.rd (i := 0) rfl) (hS.le (i := 0) rfl) (IntKind.i64.wrap (1 + t7)) A13 c14 t12.1 (hS.rd (i := 1) rfl) (hS.le (i := 1) rfl) _ ht35) ?_
              rintro _ w1 ⟨rfl, hs⟩
              replace hS := hS.grow hs
              refine OJ.pures tU_ok 5 rfl ?_
              refine OJ.nil (EJ.next ?_)
              refine CJ.seq ?_
              obtain ⟨j39, H, K39⟩ := pbind H
              refine CJ.cut (fun F w1 => ∃ (y36 : Bool) , (some y36 : Option Bool) = some j39 ∧ F = [(5, .slice A5 t4.length c6), (6, .int .i64 (IntKind.i64.wrap (1 + t7))), (7, .int .i64 (IntKind.i64.wrap (1 + t8))), (10, .int .i64 t9.2.2), (11, .slice A13 t12.1.length c14), (15, .int .i64 t15.2), (16, .slice A19 t18.1.length c20), (224, .bool y36)] ∧ St w no w1 [rowC cMeadow A5 c6 47 t4, rowC (ci .i64) A13 c14 2 t12.1, rowC (ci .i64) A19 c20 2 t18.1] [roC (ci .u8) Aa0 ca0 a0, roC (ci .u8) Aa1 ca1 a1]) ?_ ?_
              · skip
                refine CJ.region ?_
                refine OJ.pures tU_ok 3 rfl ?_
                refine OJ.split (t := 202) rfl (fun hb => ?_) (fun hb => ?_)
                · replace H := pif_t (of_decide_eq_true hb) H
                  refine OJ.pures tU_ok 22 rfl ?_
                  refine OJ.nil ?_
                  exact EJ.meet (F' := [(5, .slice A5 t4.length c6), (6, .int .i64 (IntKind.i64.wrap (1 + t7))), (7, .int .i64 (IntKind.i64.wrap (1 + t8))), (10, .int .i64 t9.2.2), (11, .slice A13 t12.1.length c14), (15, .int .i64 t15.2), (16, .slice A19 t18.1.length c20), (224, .bool true)]) ⟨rfl, rfl, rfl, rfl, rfl, rfl, rfl, rfl, trivial⟩ ⟨true, H, rfl, hS.pick [0, 1, 2] [0, 1] rfl⟩
                · replace H := pif_f (of_decide_eq_false hb) H
                  refine OJ.pures tU_ok 4 rfl ?_
                  refine OJ.split (t := 206) rfl (fun hb => ?_) (fun hb => ?_)
                  · replace H := pif_t hb H
                    refine OJ.pures tU_ok 18 rfl ?_
                    refine OJ.nil ?_
                    exact EJ.meet (F' := [(5, .slice A5 t4.length c6), (6, .int .i64 (IntKind.i64.wrap (1 + t7))), (7, .int .i64 (IntKind.i64.wrap (1 + t8))), (10, .int .i64 t9.2.2), (11, .slice A13 t12.1.length c14), (15, .int .i64 t15.2), (16, .slice A19 t18.1.length c20), (224, .bool true)]) ⟨rfl, rfl, rfl, rfl, rfl, rfl, rfl, rfl, trivial⟩ ⟨true, H, rfl, hS.pick [0, 1, 2] [0, 1] rfl⟩
                  · replace H := pifb_f hb H
                    refine OJ.pures tU_ok 4 rfl ?_
                    refine OJ.split (t := 210) rfl (fun hb => ?_) (fun hb => ?_)
                    · replace H := pif_t (of_decide_eq_true hb) H
                      refine OJ.pures tU_ok 14 rfl ?_
                      refine OJ.nil ?_
                      exact EJ.meet (F' := [(5, .slice A5 t4.length c6), (6, .int .i64 (IntKind.i64.wrap (1 + t7))), (7, .int .i64 (IntKind.i64.wrap (1 + t8))), (10, .int .i64 t9.2.2), (11, .slice A13 t12.1.length c14), (15, .int .i64 t15.2), (16, .slice A19 t18.1.length c20), (224, .bool true)]) ⟨rfl, rfl, rfl, rfl, rfl, rfl, rfl, rfl, trivial⟩ ⟨true, H, rfl, hS.pick [0, 1, 2] [0, 1] rfl⟩
                    · replace H := pif_f (of_decide_eq_false hb) H
                      refine OJ.pures tU_ok 6 rfl ?_
                      refine OJ.split (t := 216) rfl (fun hb => ?_) (fun hb => ?_)
                      · replace H := pif_t (of_decide_eq_true hb) H
                        refine OJ.pures tU_ok 8 rfl ?_
                        refine OJ.nil ?_
                        exact EJ.meet (F' := [(5, .slice A5 t4.length c6), (6, .int .i64 (IntKind.i64.wrap (1 + t7))), (7, .int .i64 (IntKind.i64.wrap (1 + t8))), (10, .int .i64 t9.2.2), (11, .slice A13 t12.1.length c14), (15, .int .i64 t15.2), (16, .slice A19 t18.1.length c20), (224, .bool true)]) ⟨rfl, rfl, rfl, rfl, rfl, rfl, rfl, rfl, trivial⟩ ⟨true, H, rfl, hS.pick [0, 1, 2] [0, 1] rfl⟩
                      · replace H := pif_f (of_decide_eq_false hb) H
                        refine OJ.pures tU_ok 4 rfl ?_
                        refine OJ.split (t := 220) rfl (fun hb => ?_) (fun hb => ?_)
                        · replace H := pif_t hb H
                          refine OJ.pures tU_ok 4 rfl ?_
                          refine OJ.nil ?_
                          exact EJ.meet (F' := [(5, .slice A5 t4.length c6), (6, .int .i64 (IntKind.i64.wrap (1 + t7))), (7, .int .i64 (IntKind.i64.wrap (1 + t8))), (10, .int .i64 t9.2.2), (11, .slice A13 t12.1.length c14), (15, .int .i64 t15.2), (16, .slice A19 t18.1.length c20), (224, .bool true)]) ⟨rfl, rfl, rfl, rfl, rfl, rfl, rfl, rfl, trivial⟩ ⟨true, H, rfl, hS.pick [0, 1, 2] [0, 1] rfl⟩
                        · replace H := pifb_f hb H
                          refine OJ.pures tU_ok 4 rfl ?_
                          refine OJ.nil ?_
                          exact EJ.meet (F' := [(5, .slice A5 t4.length c6), (6, .int .i64 (IntKind.i64.wrap (1 + t7))), (7, .int .i64 (IntKind.i64.wrap (1 + t8))), (10, .int .i64 t9.2.2), (11, .slice A13 t12.1.length c14), (15, .int .i64 t15.2), (16, .slice A19 t18.1.length c20), (224, .bool (decide (t12.2.1 < (IntKind.i64.wrap (1 + t8)))))]) ⟨rfl, rfl, rfl, rfl, rfl, rfl, rfl, rfl, trivial⟩ ⟨(decide (t12.2.1 < (IntKind.i64.wrap (1 + t8)))), H, rfl, hS.pick [0, 1, 2] [0, 1] rfl⟩
              · rintro F w1 ⟨y36, he, rfl, hS⟩
                obtain rfl := Option.some.inj he
                have H := K39
                refine CJ.cond rfl (fun hb => ?_) (fun hb => ?_)
                · replace H := pif_t hb H
                  refine CJ.seq ?_
                  refine CJ.region ?_
                  refine OJ.pures tU_ok 1 rfl ?_
                  refine OJ.nil (EJ.next ?_)
                  refine CJ.ret (EJ.skR (EJ.skR (?_)))
                  first | (obtain rfl := Option.some.inj H; have H := K32) | (obtain ⟨q32, H2, e32⟩ := pbind H; obtain rfl := Option.some.inj e32; obtain rfl := Option.some.inj K32; have H := H2)
                  obtain rfl := Option.some.inj H
                  exact EJ.fin rfl (.tmp rfl .nil) ⟨rfl, hS.ext⟩
                · replace H := pifb_f hb H
                  refine CJ.skip (EJ.next ?_)
                  refine CJ.seq ?_
                  refine CJ.region ?_
                  refine OJ.pures tU_ok 2 rfl ?_
                  refine OJ.nil (EJ.next ?_)
                  refine CJ.seq ?_
                  refine CJ.seq ?_
                  refine CJ.region ?_
                  refine OJ.pures tU_ok 1 rfl ?_
                  refine OJ.nil (EJ.next ?_)
                  replace hS := hS.freezeG (i := 0) rfl
                  obtain ⟨j40, H, K40⟩ := pbind H
                  refine CJ.cut1 (fun F w1 => ∃ (y37 : List Meadow) (A38 : Option Addr) (c39 : Nat), (some (Sum.inr y37) : Option ((Bool ⊕ ((List Meadow) × (List Int))) ⊕ (List Meadow))) = some j40 ∧ F = [(5, .slice A5 t4.length c6), (6, .int .i64 (IntKind.i64.wrap (1 + t7))), (7, .int .i64 (IntKind.i64.wrap (1 + t8))), (10, .int .i64 t9.2.2), (11, .slice A13 t12.1.length c14), (15, .int .i64 t15.2), (16, .slice A19 t18.1.length c20), (28, .slice A38 y37.length c39)] ∧ St w no w1 [rowC (ci .i64) A13 c14 2 t12.1, rowC (ci .i64) A19 c20 2 t18.1] [roC (ci .u8) Aa0 ca0 a0, roC (ci .u8) Aa1 ca1 a1, roC cMeadow A5 c6 t4, roC cMeadow A38 c39 y37]) ?_ ?_
                  · skip
                    refine CJ.block ?_
                    refine CJ.loop (fun k F w1 => ∃ (y40 : List Meadow) (y43 : Int) (A41 : Option Addr) (c42 : Nat), F = [(5, .slice A5 t4.length c6), (6, .int .i64 (IntKind.i64.wrap (1 + t7))), (7, .int .i64 (IntKind.i64.wrap (1 + t8))), (10, .int .i64 t9.2.2), (11, .slice A13 t12.1.length c14), (15, .int .i64 t15.2), (16, .slice A19 t18.1.length c20), (28, .slice A41 y40.length c42), (29, .int .i64 y43)] ∧ St w no w1 [rowC (ci .i64) A13 c14 2 t12.1, rowC (ci .i64) A19 c20 2 t18.1] [roC (ci .u8) Aa0 ca0 a0, roC (ci .u8) Aa1 ca1 a1, roC cMeadow A5 c6 t4, roC cMeadow A41 c42 y40] ∧ laws_FnSeasons.l1 t7 t12 k y40 y43 = some j40) k (F' := [(5, .slice A5 t4.length c6), (6, .int .i64 (IntKind.i64.wrap (1 + t7))), (7, .int .i64 (IntKind.i64.wrap (1 + t8))), (10, .int .i64 t9.2.2), (11, .slice A13 t12.1.length c14), (15, .int .i64 t15.2), (16, .slice A19 t18.1.length c20), (28, .slice A5 t4.length c6), (29, .int .i64 0)]) ⟨rfl, rfl, rfl, rfl, rfl, rfl, rfl, rfl, rfl, trivial⟩ ⟨t4, 0, A5, c6, rfl, hS.pick [1, 2] [0, 1, 2, 2] rfl, H⟩ ?_
                    rintro k F w1 ⟨y40, y43, A41, c42, rfl, hS, H⟩
                    cases k with
                    | zero => rw [laws_FnSeasons.l1] at H; cases H
                    | succ k =>
                      rw [laws_FnSeasons.l1] at H
                      refine CJ.seq ?_
                      refine CJ.seq ?_
                      refine CJ.region ?_
                      refine OJ.pures tU_ok 4 rfl ?_
                      refine OJ.nil (EJ.next ?_)
                      refine CJ.cond rfl (fun hb => ?_) (fun hb => ?_)
                      · replace H := pif_t (of_decide_eq_true hb) H
                        refine CJ.skip (EJ.next ?_)
                        refine CJ.seq ?_
                        refine CJ.block ?_
                        refine CJ.seq ?_
                        refine CJ.region ?_
                        refine OJ.pures tU_ok 4 rfl ?_
                        obtain ⟨t44, ht44, H⟩ := pbind H
                        obtain ⟨ad44, e44⟩ := (hS.rd (i := 0) rfl).some' ht44
                        refine OJ.st rfl rfl rfl (SR.idxS tU_ok tI_ok rfl rfl rfl rfl e44 rfl (getI_some ht44).1) ?_
                        refine OJ.st rfl rfl rfl (SR.load rfl rfl (fun w' hx => ld1 tU_ok rfl rfl (CA.ext ((hS.rd (i := 0) rfl).at_ e44 ht44) hx) rfl)) ?_
                        obtain ⟨t45, ht45, H⟩ := pbind H
                        refine OJ.callF rfl rfl rfl rfl rfl hb18 rfl (impl_DayBehind.c k _ A41 c42 y40 (hS.rd' (i := 3) rfl) (hS.le' (i := 3) rfl) (IntKind.i64.wrap (1 + t7)) t44 _ ht45) ?_
                        rintro _ w1 ⟨A46, c47, rfl, hs⟩
                        replace hS := hS.addN hs
                        refine OJ.pures tU_ok 5 rfl ?_
                        refine OJ.nil (EJ.next ?_)
                        refine CJ.seq ?_
                        refine CJ.region ?_
                        refine OJ.pures tU_ok 4 rfl ?_
                        obtain ⟨t48, ht48, H⟩ := pbind H
                        obtain ⟨ad48, e48⟩ := (hS.rd (i := 0) rfl).some' ht48
                        refine OJ.st rfl rfl rfl (SR.idxS tU_ok tI_ok rfl rfl rfl rfl e48 rfl (getI_some ht48).1) ?_
                        refine OJ.st rfl rfl rfl (SR.load rfl rfl (fun w' hx => ld1 tU_ok rfl rfl (CA.ext ((hS.rd (i := 0) rfl).at_ e48 ht48) hx) rfl)) ?_
                        obtain ⟨t49, ht49, H⟩ := pbind H
                        refine OJ.callF rfl rfl rfl rfl rfl hb19 rfl (spec_DayBehind.c k _ A41 c42 y40 (hS.rd' (i := 3) rfl) (hS.le' (i := 3) rfl) (IntKind.i64.wrap (1 + t7)) t48 _ ht49) ?_
                        rintro _ w1 ⟨A50, c51, rfl, hs⟩
                        replace hS := hS.addN hs
                        refine OJ.pures tU_ok 5 rfl ?_
                        refine OJ.nil (EJ.next ?_)
                        refine CJ.seq ?_
                        refine CJ.seq ?_
                        refine CJ.region ?_
                        refine OJ.pures tU_ok 4 rfl ?_
                        refine OJ.split (t := 255) rfl (fun hb => ?_) (fun hb => ?_)
                        · replace H := pif_t (of_decide_eq_true hb) H
                          refine OJ.pures tU_ok 15 rfl ?_
                          refine OJ.nil (EJ.next ?_)
                          refine CJ.condT rfl ?_
                          refine CJ.seq ?_
                          refine CJ.region ?_
                          refine OJ.pures tU_ok 1 rfl ?_
                          refine OJ.nil (EJ.next ?_)
                          refine CJ.ret (EJ.skR (EJ.bkR (EJ.skR (EJ.skR (EJ.bkR (EJ.skR (EJ.skR (EJ.skR (?_)))))))))
                          first | (obtain rfl := Option.some.inj H; have H := K40) | (obtain ⟨q40, H2, e40⟩ := pbind H; obtain rfl := Option.some.inj e40; obtain rfl := Option.some.inj K40; have H := H2)
                          first | (obtain rfl := Option.some.inj H; have H := K32) | (obtain ⟨q32, H2, e32⟩ := pbind H; obtain rfl := Option.some.inj e32; obtain rfl := Option.some.inj K32; have H := H2)
                          obtain rfl := Option.some.inj H
                          exact EJ.fin rfl (.tmp rfl .nil) ⟨rfl, hS.ext⟩
                        · replace H := pif_f (of_decide_eq_false hb) H
                          refine OJ.pures tU_ok 4 rfl ?_
                          refine OJ.split (t := 259) rfl (fun hb => ?_) (fun hb => ?_)
                          · replace H := pif_t (of_decide_eq_true hb) H
                            refine OJ.pures tU_ok 11 rfl ?_
                            refine OJ.nil (EJ.next ?_)
                            refine CJ.condT rfl ?_
                            refine CJ.seq ?_
                            refine CJ.region ?_
                            refine OJ.pures tU_ok 1 rfl ?_
                            refine OJ.nil (EJ.next ?_)
                            refine CJ.ret (EJ.skR (EJ.bkR (EJ.skR (EJ.skR (EJ.bkR (EJ.skR (EJ.skR (EJ.skR (?_)))))))))
                            first | (obtain rfl := Option.some.inj H; have H := K40) | (obtain ⟨q40, H2, e40⟩ := pbind H; obtain rfl := Option.some.inj e40; obtain rfl := Option.some.inj K40; have H := H2)
                            first | (obtain rfl := Option.some.inj H; have H := K32) | (obtain ⟨q32, H2, e32⟩ := pbind H; obtain rfl := Option.some.inj e32; obtain rfl := Option.some.inj K32; have H := H2)
                            obtain rfl := Option.some.inj H
                            exact EJ.fin rfl (.tmp rfl .nil) ⟨rfl, hS.ext⟩
                          · replace H := pif_f (of_decide_eq_false hb) H
                            refine OJ.pures tU_ok 2 rfl ?_
                            obtain ⟨t52, ht52, H⟩ := pbind H
                            refine OJ.callF rfl rfl rfl rfl rfl hb20 rfl (spec_SameMeadows.c k _ A46 c47 t45.1 (hS.rd (i := 2) rfl) (hS.le (i := 2) rfl) A50 c51 t49.1 (hS.rd (i := 3) rfl) (hS.le (i := 3) rfl) _ ht52) ?_
                            rintro _ w1 ⟨rfl, hs⟩
                            replace hS := hS.grow hs
                            refine OJ.pures tU_ok 3 rfl ?_
                            refine OJ.split (t := 265) rfl (fun hb => ?_) (fun hb => ?_)
                            · replace H := pif_t hb H
                              refine OJ.pures tU_ok 5 rfl ?_
                              refine OJ.nil (EJ.next ?_)
                              refine CJ.condT rfl ?_
                              refine CJ.seq ?_
                              refine CJ.region ?_
                              refine OJ.pures tU_ok 1 rfl ?_
                              refine OJ.nil (EJ.next ?_)
                              refine CJ.ret (EJ.skR (EJ.bkR (EJ.skR (EJ.skR (EJ.bkR (EJ.skR (EJ.skR (EJ.skR (?_)))))))))
                              first | (obtain rfl := Option.some.inj H; have H := K40) | (obtain ⟨q40, H2, e40⟩ := pbind H; obtain rfl := Option.some.inj e40; obtain rfl := Option.some.inj K40; have H := H2)
                              first | (obtain rfl := Option.some.inj H; have H := K32) | (obtain ⟨q32, H2, e32⟩ := pbind H; obtain rfl := Option.some.inj e32; obtain rfl := Option.some.inj K32; have H := H2)
                              obtain rfl := Option.some.inj H
                              exact EJ.fin rfl (.tmp rfl .nil) ⟨rfl, hS.ext⟩
                            · replace H := pifb_f hb H
                              refine OJ.pures tU_ok 2 rfl ?_
                              obtain ⟨t53, ht53, H⟩ := pbind H
                              refine OJ.callF rfl rfl rfl rfl rfl hb21 rfl (impl_SameMeadows.c k _ A46 c47 t45.1 (hS.rd (i := 2) rfl) (hS.le (i := 2) rfl) A50 c51 t49.1 (hS.rd (i := 3) rfl) (hS.le (i := 3) rfl) _ ht53) ?_
                              rintro _ w1 ⟨rfl, hs⟩
                              replace hS := hS.grow hs
                              refine OJ.pures tU_ok 2 rfl ?_
                              refine OJ.nil (EJ.next ?_)
                              refine CJ.cond rfl (fun hb => ?_) (fun hb => ?_)
                              · replace H := pif_t hb H
                                refine CJ.seq ?_
                                refine CJ.region ?_
                                refine OJ.pures tU_ok 1 rfl ?_
                                refine OJ.nil (EJ.next ?_)
                                refine CJ.ret (EJ.skR (EJ.bkR (EJ.skR (EJ.skR (EJ.bkR (EJ.skR (EJ.skR (EJ.skR (?_)))))))))
                                first | (obtain rfl := Option.some.inj H; have H := K40) | (obtain ⟨q40, H2, e40⟩ := pbind H; obtain rfl := Option.some.inj e40; obtain rfl := Option.some.inj K40; have H := H2)
                                first | (obtain rfl := Option.some.inj H; have H := K32) | (obtain ⟨q32, H2, e32⟩ := pbind H; obtain rfl := Option.some.inj e32; obtain rfl := Option.some.inj K32; have H := H2)
                                obtain rfl := Option.some.inj H
                                exact EJ.fin rfl (.tmp rfl .nil) ⟨rfl, hS.ext⟩
                              · replace H := pifb_f hb H
                                refine CJ.skip (EJ.next ?_)
                                refine CJ.region ?_
                                refine OJ.pures tU_ok 2 rfl ?_
                                refine OJ.nil (EJ.blk (EJ.next ?_))
                                refine CJ.region ?_
                                refine OJ.pures tU_ok 3 rfl ?_
                                refine OJ.nil ?_
                                replace hS := hS.freezeG (i := 3) rfl
                                exact EJ.round k (F' := [(5, .slice A5 t4.length c6), (6, .int .i64 (IntKind.i64.wrap (1 + t7))), (7, .int .i64 (IntKind.i64.wrap (1 + t8))), (10, .int .i64 t9.2.2), (11, .slice A13 t12.1.length c14), (15, .int .i64 t15.2), (16, .slice A19 t18.1.length c20), (28, .slice A50 t49.1.length c51), (29, .int .i64 (IntKind.i64.wrap (y43 + 1)))]) ⟨rfl, rfl, rfl, rfl, rfl, rfl, rfl, rfl, rfl, trivial⟩ (Nat.lt_succ_self _) ⟨t49.1, (IntKind.i64.wrap (y43 + 1)), A50, c51, rfl, hS.pick [0, 1] [0, 1, 2, 4] rfl, H⟩
                      · replace H := pif_f (of_decide_eq_false hb) H
                        refine CJ.exit (EJ.skE (EJ.skE (EJ.hit (?_))))
                        exact EJ.meet (F' := [(5, .slice A5 t4.length c6), (6, .int .i64 (IntKind.i64.wrap (1 + t7))), (7, .int .i64 (IntKind.i64.wrap (1 + t8))), (10, .int .i64 t9.2.2), (11, .slice A13 t12.1.length c14), (15, .int .i64 t15.2), (16, .slice A19 t18.1.length c20), (28, .slice A41 y40.length c42)]) ⟨rfl, rfl, rfl, rfl, rfl, rfl, rfl, rfl, trivial⟩ ⟨y40, A41, c42, H, rfl, hS.pick [0, 1] [0, 1, 2, 3] rfl⟩
                  · rintro F w1 ⟨y37, A38, c39, he, rfl, hS⟩
                    obtain rfl := Option.some.inj he
                    have H := K40
                    refine EJ.next ?_
                    refine CJ.seq ?_
                    refine CJ.region ?_
                    refine OJ.pures tU_ok 3 rfl ?_
                    obtain ⟨t54, ht54, H⟩ := pbind H
                    refine OJ.callF rfl rfl rfl rfl rfl hb22 rfl (impl_GrassBehind.c k _ A5 c6 t4 (hS.rd' (i := 2) rfl) (hS.le' (i := 2) rfl) (IntKind.i64.wrap (1 + t7)) A13 c14 t12.1 (hS.rd (i := 0) rfl) (hS.le (i := 0) rfl) _ ht54) ?_
                    rintro _ w1 ⟨A55, c56, rfl, hs⟩
                    replace hS := hS.addN hs
                    refine OJ.pures tU_ok 5 rfl ?_
                    refine OJ.nil (EJ.next ?_)
                    refine CJ.seq ?_
                    refine CJ.region ?_
                    refine OJ.pures tU_ok 3 rfl ?_
                    refine OJ.split (t := 281) rfl (fun hb => ?_) (fun hb => ?_)
                    · replace H := pif_t (of_decide_eq_true hb) H
                      refine OJ.pures tU_ok 5 rfl ?_
                      refine OJ.nil (EJ.next ?_)
                      refine CJ.condT rfl ?_
                      refine CJ.seq ?_
                      refine CJ.region ?_
                      refine OJ.pures tU_ok 1 rfl ?_
                      refine OJ.nil (EJ.next ?_)
                      refine CJ.ret (EJ.skR (?_))
                      first | (obtain rfl := Option.some.inj H; have H := K32) | (obtain ⟨q32, H2, e32⟩ := pbind H; obtain rfl := Option.some.inj e32; obtain rfl := Option.some.inj K32; have H := H2)
                      obtain rfl := Option.some.inj H
                      exact EJ.fin rfl (.tmp rfl .nil) ⟨rfl, hS.ext⟩
                    · replace H := pif_f (of_decide_eq_false hb) H
                      refine OJ.pures tU_ok 2 rfl ?_
                      obtain ⟨t57, ht57, H⟩ := pbind H
                      refine OJ.callF rfl rfl rfl rfl rfl hb20 rfl (spec_SameMeadows.c k _ A55 c56 t54.1 (hS.rd (i := 2) rfl) (hS.le (i := 2) rfl) A38 c39 y37 (hS.rd' (i := 3) rfl) (hS.le' (i := 3) rfl) _ ht57) ?_
                      rintro _ w1 ⟨rfl, hs⟩
                      replace hS := hS.grow hs
                      refine OJ.pures tU_ok 2 rfl ?_
                      refine OJ.nil (EJ.next ?_)
                      refine CJ.cond rfl (fun hb => ?_) (fun hb => ?_)
                      · replace H := pif_t hb H
                        refine CJ.seq ?_
                        refine CJ.region ?_
                        refine OJ.pures tU_ok 1 rfl ?_
                        refine OJ.nil (EJ.next ?_)
                        refine CJ.ret (EJ.skR (?_))
                        first | (obtain rfl := Option.some.inj H; have H := K32) | (obtain ⟨q32, H2, e32⟩ := pbind H; obtain rfl := Option.some.inj e32; obtain rfl := Option.some.inj K32; have H := H2)
                        obtain rfl := Option.some.inj H
                        exact EJ.fin rfl (.tmp rfl .nil) ⟨rfl, hS.ext⟩
                      · replace H := pifb_f hb H
                        refine CJ.skip (?_)
                        exact EJ.meet (F' := [(5, .slice A5 t4.length c6), (6, .int .i64 (IntKind.i64.wrap (1 + t7))), (7, .int .i64 (IntKind.i64.wrap (1 + t8))), (10, .int .i64 t9.2.2), (15, .int .i64 t15.2), (16, .slice A19 t18.1.length c20)]) ⟨rfl, rfl, rfl, rfl, rfl, rfl, trivial⟩ ⟨t4, t18.1, A5, c6, A19, c20, H, rfl, hS.pick [1] [0, 1, 2] rfl⟩
            · replace H := pif_f (of_decide_eq_false hb) H
              refine CJ.skip (?_)
              replace hS := hS.freezeG (i := 0) rfl
              exact EJ.meet (F' := [(5, .slice A5 t4.length c6), (6, .int .i64 (IntKind.i64.wrap (1 + t7))), (7, .int .i64 (IntKind.i64.wrap (1 + t8))), (10, .int .i64 t9.2.2), (15, .int .i64 t15.2), (16, .slice A19 t18.1.length c20)]) ⟨rfl, rfl, rfl, rfl, rfl, rfl, trivial⟩ ⟨t4, t18.1, A5, c6, A19, c20, H, rfl, hS.pick [2] [0, 1, 2] rfl⟩
          · rintro F w1 ⟨y28, y31, A29, c30, A32, c33, he, rfl, hS⟩
            obtain rfl := Option.some.inj he
            have H := K32
            obtain ⟨j41, H, K41⟩ := pbind H
            refine CJ.cut (fun F w1 => (some (Sum.inr ()) : Option (Bool ⊕ Unit)) = some j41 ∧ F = [(5, .slice A29 y28.length c30), (6, .int .i64 (IntKind.i64.wrap (1 + t7))), (7, .int .i64 (IntKind.i64.wrap (1 + t8))), (10, .int .i64 t9.2.2)] ∧ St w no w1 [] [roC (ci .u8) Aa0 ca0 a0, roC (ci .u8) Aa1 ca1 a1, roC cMeadow A29 c30 y28]) ?_ ?_
            · skip
              refine CJ.seq ?_
              refine CJ.region ?_
              refine OJ.pures tU_ok 2 rfl ?_
              refine OJ.nil (EJ.next ?_)
              refine CJ.cond rfl (fun hb => ?_) (fun hb => ?_)
              · replace H := pif_t (of_decide_eq_true hb) H
                refine CJ.seq ?_
                refine CJ.region ?_
                refine OJ.pures tU_ok 3 rfl ?_
                obtain ⟨t58, ht58, H⟩ := pbind H
                refine OJ.callF rfl rfl rfl rfl rfl hb16 rfl (impl_CheckPlan.c k _ A29 c30 y28 (hS.rd' (i := 2) rfl) (hS.le' (i := 2) rfl) (IntKind.i64.wrap (1 + t7)) A32 c33 y31 (hS.rd (i := 0) rfl) (hS.le (i := 0) rfl) _ ht58) ?_
                rintro _ w1 ⟨rfl, hs⟩
                replace hS := hS.grow hs
                refine OJ.pures tU_ok 5 rfl ?_
                refine OJ.nil (EJ.next ?_)
                refine CJ.seq ?_
                obtain ⟨j64, H, K64⟩ := pbind H
                refine CJ.cut (fun F w1 => ∃ (y59 : Bool) , (some y59 : Option Bool) = some j64 ∧ F = [(5, .slice A29 y28.length c30), (6, .int .i64 (IntKind.i64.wrap (1 + t7))), (7, .int .i64 (IntKind.i64.wrap (1 + t8))), (10, .int .i64 t9.2.2), (16, .slice A32 y31.length c33), (305, .bool y59)] ∧ St w no w1 [rowC (ci .i64) A32 c33 2 y31] [roC (ci .u8) Aa0 ca0 a0, roC (ci .u8) Aa1 ca1 a1, roC cMeadow A29 c30 y28]) ?_ ?_
                · skip
                  refine CJ.region ?_
                  refine OJ.pures tU_ok 3 rfl ?_
                  refine OJ.split (t := 298) rfl (fun hb => ?_) (fun hb => ?_)
                  · replace H := pif_t (of_decide_eq_true hb) H
                    refine OJ.pures tU_ok 7 rfl ?_
                    refine OJ.nil ?_
                    exact EJ.meet (F' := [(5, .slice A29 y28.length c30), (6, .int .i64 (IntKind.i64.wrap (1 + t7))), (7, .int .i64 (IntKind.i64.wrap (1 + t8))), (10, .int .i64 t9.2.2), (16, .slice A32 y31.length c33), (305, .bool true)]) ⟨rfl, rfl, rfl, rfl, rfl, rfl, trivial⟩ ⟨true, H, rfl, hS.pick [0] [0, 1, 2] rfl⟩
                  · replace H := pif_f (of_decide_eq_false hb) H
                    refine OJ.pures tU_ok 4 rfl ?_
                    refine OJ.split (t := 302) rfl (fun hb => ?_) (fun hb => ?_)
                    · replace H := pif_t hb H
                      refine OJ.pures tU_ok 3 rfl ?_
                      refine OJ.nil ?_
                      exact EJ.meet (F' := [(5, .slice A29 y28.length c30), (6, .int .i64 (IntKind.i64.wrap (1 + t7))), (7, .int .i64 (IntKind.i64.wrap (1 + t8))), (10, .int .i64 t9.2.2), (16, .slice A32 y31.length c33), (305, .bool true)]) ⟨rfl, rfl, rfl, rfl, rfl, rfl, trivial⟩ ⟨true, H, rfl, hS.pick [0] [0, 1, 2] rfl⟩
                    · replace H := pifb_f hb H
                      refine OJ.pures tU_ok 3 rfl ?_
                      refine OJ.nil ?_
                      exact EJ.meet (F' := [(5, .slice A29 y28.length c30), (6, .int .i64 (IntKind.i64.wrap (1 + t7))), (7, .int .i64 (IntKind.i64.wrap (1 + t8))), (10, .int .i64 t9.2.2), (16, .slice A32 y31.length c33), (305, .bool (decide (t9.2.2 = 6)))]) ⟨rfl, rfl, rfl, rfl, rfl, rfl, trivial⟩ ⟨(decide (t9.2.2 = 6)), H, rfl, hS.pick [0] [0, 1, 2] rfl⟩
                · rintro F w1 ⟨y59, he, rfl, hS⟩
                  obtain rfl := Option.some.inj he
                  have H := K64
                  refine CJ.cond rfl (fun hb => ?_) (fun hb => ?_)
                  · replace H := pif_t hb H
                    refine CJ.seq ?_
                    refine CJ.region ?_
                    refine OJ.pures tU_ok 1 rfl ?_
                    refine OJ.nil (EJ.next ?_)
                    refine CJ.ret (EJ.skR (EJ.skR (?_)))
                    first | (obtain rfl := Option.some.inj H; have H := K41) | (obtain ⟨q41, H2, e41⟩ := pbind H; obtain rfl := Option.some.inj e41; obtain rfl := Option.some.inj K41; have H := H2)
                    obtain rfl := Option.some.inj H
                    exact EJ.fin rfl (.tmp rfl .nil) ⟨rfl, hS.ext⟩
                  · replace H := pifb_f hb H
                    refine CJ.skip (EJ.next ?_)
                    refine CJ.seq ?_
                    refine CJ.region ?_
                    refine OJ.pures tU_ok 1 rfl ?_
                    refine OJ.nil (EJ.next ?_)
                    refine CJ.seq ?_
                    refine CJ.region ?_
                    refine OJ.pures tU_ok 1 rfl ?_
                    refine OJ.nil (EJ.next ?_)
                    refine CJ.seq ?_
                    refine CJ.seq ?_
                    refine CJ.region ?_
                    refine OJ.pures tU_ok 1 rfl ?_
                    refine OJ.nil (EJ.next ?_)
                    obtain ⟨j65, H, K65⟩ := pbind H
                    refine CJ.cut1 (fun F w1 => ∃ (y60 : Int) (y61 : Int) , (some (Sum.inr (y60, y61)) : Option ((Bool ⊕ Unit) ⊕ (Int × Int))) = some j65 ∧ F = [(5, .slice A29 y28.length c30), (6, .int .i64 (IntKind.i64.wrap (1 + t7))), (7, .int .i64 (IntKind.i64.wrap (1 + t8))), (10, .int .i64 t9.2.2), (38, .int .i64 y60), (39, .int .i64 y61)] ∧ St w no w1 [] [roC (ci .u8) Aa0 ca0 a0, roC (ci .u8) Aa1 ca1 a1, roC cMeadow A29 c30 y28]) ?_ ?_
                    · skip
                      refine CJ.block ?_
                      refine CJ.loop (fun k F w1 => ∃ (y62 : Int) (y63 : Int) (y64 : Int), F = [(5, .slice A29 y28.length c30), (6, .int .i64 (IntKind.i64.wrap (1 + t7))), (7, .int .i64 (IntKind.i64.wrap (1 + t8))), (10, .int .i64 t9.2.2), (16, .slice A32 y31.length c33), (38, .int .i64 y62), (39, .int .i64 y63), (40, .int .i64 y64)] ∧ St w no w1 [rowC (ci .i64) A32 c33 2 y31] [roC (ci .u8) Aa0 ca0 a0, roC (ci .u8) Aa1 ca1 a1, roC cMeadow A29 c30 y28] ∧ laws_FnSeasons.l2 y31 k y62 y63 y64 = some j65) k (F' := [(5, .slice A29 y28.length c30), (6, .int .i64 (IntKind.i64.wrap (1 + t7))), (7, .int .i64 (IntKind.i64.wrap (1 + t8))), (10, .int .i64 t9.2.2), (16, .slice A32 y31.length c33), (38, .int .i64 0), (39, .int .i64 0), (40, .int .i64 0)]) ⟨rfl, rfl, rfl, rfl, rfl, rfl, rfl, rfl, trivial⟩ ⟨0, 0, 0, rfl, hS.pick [0] [0, 1, 2] rfl, H⟩ ?_
                      rintro k F w1 ⟨y62, y63, y64, rfl, hS, H⟩
                      cases k with
                      | zero => rw [laws_FnSeasons.l2] at H; cases H
                      | succ k =>
                        rw [laws_FnSeasons.l2] at H
                        refine CJ.seq ?_
                        refine CJ.seq ?_
                        refine CJ.region ?_
                        refine OJ.pures tU_ok 2 rfl ?_
                        refine OJ.nil (EJ.next ?_)
                        refine CJ.cond rfl (fun hb => ?_) (fun hb => ?_)
                        · replace H := pif_t (of_decide_eq_true hb) H
                          refine CJ.skip (EJ.next ?_)
                          obtain ⟨j76, H, K76⟩ := pbind H
                          refine CJ.cut (fun F w1 => ∃ (y65 : Int) (y66 : Int) , (some (Sum.inr (y65, y66)) : Option (((Bool ⊕ Unit) ⊕ (Int × Int)) ⊕ (Int × Int))) = some j76 ∧ F = [(5, .slice A29 y28.length c30), (6, .int .i64 (IntKind.i64.wrap (1 + t7))), (7, .int .i64 (IntKind.i64.wrap (1 + t8))), (10, .int .i64 t9.2.2), (16, .slice A32 y31.length c33), (38, .int .i64 y65), (39, .int .i64 y66), (40, .int .i64 y64)] ∧ St w no w1 [rowC (ci .i64) A32 c33 2 y31] [roC (ci .u8) Aa0 ca0 a0, roC (ci .u8) Aa1 ca1 a1, roC cMeadow A29 c30 y28]) ?_ ?_
                          · skip
                            refine CJ.block ?_
                            refine CJ.seq ?_
                            refine CJ.region ?_
                            refine OJ.pures tU_ok 2 rfl ?_
                            obtain ⟨t67, ht67, H⟩ := pbind H
                            refine OJ.callF rfl rfl rfl rfl rfl hb23 rfl (impl_RestsOf.c k _ A32 c33 y31 (hS.rd (i := 0) rfl) (hS.le (i := 0) rfl) y64 _ ht67) ?_
                            rintro _ w1 ⟨A68, c69, rfl, hs⟩
                            replace hS := hS.addN hs
                            refine OJ.pures tU_ok 5 rfl ?_
                            refine OJ.nil (EJ.next ?_)
                            refine CJ.seq ?_
                            refine CJ.region ?_
                            refine OJ.pures tU_ok 2 rfl ?_
                            obtain ⟨t70, ht70, H⟩ := pbind H
                            refine OJ.callF rfl rfl rfl rfl rfl hb24 rfl (spec_RestsOf.c k _ A32 c33 y31 (hS.rd (i := 0) rfl) (hS.le (i := 0) rfl) y64 _ ht70) ?_
                            rintro _ w1 ⟨A71, c72, rfl, hs⟩
                            replace hS := hS.addN hs
                            refine OJ.pures tU_ok 5 rfl ?_
                            refine OJ.nil (EJ.next ?_)
                            refine CJ.seq ?_
                            obtain ⟨j79, H, K79⟩ := pbind H
                            refine CJ.cut (fun F w1 => ∃ (y73 : Bool) , (some y73 : Option Bool) = some j79 ∧ F = [(5, .slice A29 y28.length c30), (6, .int .i64 (IntKind.i64.wrap (1 + t7))), (7, .int .i64 (IntKind.i64.wrap (1 + t8))), (10, .int .i64 t9.2.2), (16, .slice A32 y31.length c33), (38, .int .i64 y62), (39, .int .i64 y63), (40, .int .i64 y64), (43, .slice A71 t70.1.length c72), (334, .bool y73)] ∧ St w no w1 [rowC (ci .i64) A32 c33 2 y31, rowC (ci .i64) A71 c72 2 t70.1] [roC (ci .u8) Aa0 ca0 a0, roC (ci .u8) Aa1 ca1 a1, roC cMeadow A29 c30 y28]) ?_ ?_
                            · skip
                              refine CJ.region ?_
                              refine OJ.pures tU_ok 4 rfl ?_
                              refine OJ.split (t := 325) rfl (fun hb => ?_) (fun hb => ?_)
                              · replace H := pif_t (of_decide_eq_true hb) H
                                refine OJ.pures tU_ok 9 rfl ?_
                                refine OJ.nil ?_
                                exact EJ.meet (F' := [(5, .slice A29 y28.length c30), (6, .int .i64 (IntKind.i64.wrap (1 + t7))), (7, .int .i64 (IntKind.i64.wrap (1 + t8))), (10, .int .i64 t9.2.2), (16, .slice A32 y31.length c33), (38, .int .i64 y62), (39, .int .i64 y63), (40, .int .i64 y64), (43, .slice A71 t70.1.length c72), (334, .bool true)]) ⟨rfl, rfl, rfl, rfl, rfl, rfl, rfl, rfl, rfl, rfl, trivial⟩ ⟨true, H, rfl, hS.pick [0, 2] [0, 1, 2] rfl⟩
                              · replace H := pif_f (of_decide_eq_false hb) H
                                refine OJ.pures tU_ok 4 rfl ?_
                                refine OJ.split (t := 329) rfl (fun hb => ?_) (fun hb => ?_)
                                · replace H := pif_t (of_decide_eq_true hb) H
                                  refine OJ.pures tU_ok 5 rfl ?_
                                  refine OJ.nil ?_
                                  exact EJ.meet (F' := [(5, .slice A29 y28.length c30), (6, .int .i64 (IntKind.i64.wrap (1 + t7))), (7, .int .i64 (IntKind.i64.wrap (1 + t8))), (10, .int .i64 t9.2.2), (16, .slice A32 y31.length c33), (38, .int .i64 y62), (39, .int .i64 y63), (40, .int .i64 y64), (43, .slice A71 t70.1.length c72), (334, .bool true)]) ⟨rfl, rfl, rfl, rfl, rfl, rfl, rfl, rfl, rfl, rfl, trivial⟩ ⟨true, H, rfl, hS.pick [0, 2] [0, 1, 2] rfl⟩
                                · replace H := pif_f (of_decide_eq_false hb) H
                                  refine OJ.pures tU_ok 2 rfl ?_
                                  obtain ⟨t74, ht74, H⟩ := pbind H
                                  refine OJ.callF rfl rfl rfl rfl rfl hb14 rfl (spec_SameNumbers.c k _ A68 c69 t67.1 (hS.rd (i := 1) rfl) (hS.le (i := 1) rfl) A71 c72 t70.1 (hS.rd (i := 2) rfl) (hS.le (i := 2) rfl) _ ht74) ?_
                                  rintro _ w1 ⟨rfl, hs⟩
                                  replace hS := hS.grow hs
                                  refine OJ.pures tU_ok 2 rfl ?_
                                  refine OJ.nil ?_
                                  exact EJ.meet (F' := [(5, .slice A29 y28.length c30), (6, .int .i64 (IntKind.i64.wrap (1 + t7))), (7, .int .i64 (IntKind.i64.wrap (1 + t8))), (10, .int .i64 t9.2.2), (16, .slice A32 y31.length c33), (38, .int .i64 y62), (39, .int .i64 y63), (40, .int .i64 y64), (43, .slice A71 t70.1.length c72), (334, .bool (!t74))]) ⟨rfl, rfl, rfl, rfl, rfl, rfl, rfl, rfl, rfl, rfl, trivial⟩ ⟨(!t74), H, rfl, hS.pick [0, 2] [0, 1, 2] rfl⟩
                            · rintro F w1 ⟨y73, he, rfl, hS⟩
                              obtain rfl := Option.some.inj he
                              have H := K79
                              refine CJ.cond rfl (fun hb => ?_) (fun hb => ?_)
                              · replace H := pif_t hb H
                                refine CJ.seq ?_
                                refine CJ.region ?_
                                refine OJ.pures tU_ok 1 rfl ?_
                                refine OJ.nil (EJ.next ?_)
                                refine CJ.ret (EJ.skR (EJ.bkR (EJ.skR (EJ.skR (EJ.bkR (EJ.skR (EJ.skR (EJ.skR (?_)))))))))
                                first | (obtain rfl := Option.some.inj H; have H := K76) | (obtain ⟨q76, H2, e76⟩ := pbind H; obtain rfl := Option.some.inj e76; obtain rfl := Option.some.inj K76; have H := H2)
                                first | (obtain rfl := Option.some.inj H; have H := K65) | (obtain ⟨q65, H2, e65⟩ := pbind H; obtain rfl := Option.some.inj e65; obtain rfl := Option.some.inj K65; have H := H2)
                                first | (obtain rfl := Option.some.inj H; have H := K41) | (obtain ⟨q41, H2, e41⟩ := pbind H; obtain rfl := Option.some.inj e41; obtain rfl := Option.some.inj K41; have H := H2)
                                obtain rfl := Option.some.inj H
                                exact EJ.fin rfl (.tmp rfl .nil) ⟨rfl, hS.ext⟩
                              · replace H := pifb_f hb H
                                refine CJ.skip (EJ.next ?_)
                                refine CJ.seq ?_
                                refine CJ.region ?_
                                refine OJ.pures tU_ok 1 rfl ?_
                                refine OJ.nil (EJ.next ?_)
                                refine CJ.seq ?_
                                refine CJ.seq ?_
                                refine CJ.region ?_
                                refine OJ.pures tU_ok 1 rfl ?_
                                refine OJ.nil (EJ.next ?_)
                                obtain ⟨j80, H, K80⟩ := pbind H
                                refine CJ.cut1 (fun F w1 => ∃ (y75 : Int) , (some y75 : Option Int) = some j80 ∧ F = [(5, .slice A29 y28.length c30), (6, .int .i64 (IntKind.i64.wrap (1 + t7))), (7, .int .i64 (IntKind.i64.wrap (1 + t8))), (10, .int .i64 t9.2.2), (16, .slice A32 y31.length c33), (38, .int .i64 y62), (39, .int .i64 y63), (40, .int .i64 y64), (43, .slice A71 t70.1.length c72), (45, .int .i64 y75)] ∧ St w no w1 [rowC (ci .i64) A32 c33 2 y31, rowC (ci .i64) A71 c72 2 t70.1] [roC (ci .u8) Aa0 ca0 a0, roC (ci .u8) Aa1 ca1 a1, roC cMeadow A29 c30 y28]) ?_ ?_
                                · skip
                                  refine CJ.block ?_
                                  refine CJ.loop (fun k F w1 => ∃ (y76 : Int) (y77 : Int), F = [(5, .slice A29 y28.length c30), (6, .int .i64 (IntKind.i64.wrap (1 + t7))), (7, .int .i64 (IntKind.i64.wrap (1 + t8))), (10, .int .i64 t9.2.2), (16, .slice A32 y31.length c33), (38, .int .i64 y62), (39, .int .i64 y63), (40, .int .i64 y64), (43, .slice A71 t70.1.length c72), (45, .int .i64 y76), (46, .int .i64 y77)] ∧ St w no w1 [rowC (ci .i64) A32 c33 2 y31, rowC (ci .i64) A71 c72 2 t70.1] [roC (ci .u8) Aa0 ca0 a0, roC (ci .u8) Aa1 ca1 a1, roC cMeadow A29 c30 y28] ∧ laws_FnSeasons.l3 y31 y64 k y76 y77 = some j80) k (F' := [(5, .slice A29 y28.length c30), (6, .int .i64 (IntKind.i64.wrap (1 + t7))), (7, .int .i64 (IntKind.i64.wrap (1 + t8))), (10, .int .i64 t9.2.2), (16, .slice A32 y31.length c33), (38, .int .i64 y62), (39, .int .i64 y63), (40, .int .i64 y64), (43, .slice A71 t70.1.length c72), (45, .int .i64 0), (46, .int .i64 0)]) ⟨rfl, rfl, rfl, rfl, rfl, rfl, rfl, rfl, rfl, rfl, rfl, trivial⟩ ⟨0, 0, rfl, hS.pick [0, 1] [0, 1, 2] rfl, H⟩ ?_
                                  rintro k F w1 ⟨y76, y77, rfl, hS, H⟩
                                  cases k with
                                  | zero => rw [laws_FnSeasons.l3] at H; cases H
                                  | succ k =>
                                    rw [laws_FnSeasons.l3] at H
                                    refine CJ.seq ?_
                                    refine CJ.seq ?_
                                    refine CJ.region ?_
                                    refine OJ.pures tU_ok 4 rfl ?_
                                    refine OJ.nil (EJ.next ?_)
                                    refine CJ.cond rfl (fun hb => ?_) (fun hb => ?_)
                                    · replace H := pif_t (of_decide_eq_true hb) H
                                      refine CJ.skip (EJ.next ?_)
                                      refine CJ.seq ?_
                                      refine CJ.block ?_
                                      refine CJ.seq ?_
                                      refine CJ.region ?_
                                      refine OJ.pures tU_ok 2 rfl ?_
                                      obtain ⟨t78, ht78, H⟩ := pbind H
                                      obtain ⟨ad78, e78⟩ := (hS.rd (i := 0) rfl).some' ht78
                                      refine OJ.st rfl rfl rfl (SR.idxS tU_ok tI_ok rfl rfl rfl rfl e78 rfl (getI_some ht78).1) ?_
                                      refine OJ.st rfl rfl rfl (SR.load rfl rfl (fun w' hx => ld1 tU_ok rfl rfl (CA.ext ((hS.rd (i := 0) rfl).at_ e78 ht78) hx) rfl)) ?_
                                      refine OJ.pures tU_ok 2 rfl ?_
                                      refine OJ.nil (EJ.next ?_)
                                      refine CJ.cond rfl (fun hb => ?_) (fun hb => ?_)
                                      · replace H := pif_t (of_decide_eq_true hb) H
                                        refine CJ.region ?_
                                        refine OJ.pures tU_ok 3 rfl ?_
                                        refine OJ.nil (EJ.blk (EJ.next ?_))
                                        refine CJ.region ?_
                                        refine OJ.pures tU_ok 3 rfl ?_
                                        refine OJ.nil ?_
                                        exact EJ.round k (F' := [(5, .slice A29 y28.length c30), (6, .int .i64 (IntKind.i64.wrap (1 + t7))), (7, .int .i64 (IntKind.i64.wrap (1 + t8))), (10, .int .i64 t9.2.2), (16, .slice A32 y31.length c33), (38, .int .i64 y62), (39, .int .i64 y63), (40, .int .i64 y64), (43, .slice A71 t70.1.length c72), (45, .int .i64 (IntKind.i64.wrap (y76 + 1))), (46, .int .i64 (IntKind.i64.wrap (y77 + 1)))]) ⟨rfl, rfl, rfl, rfl, rfl, rfl, rfl, rfl, rfl, rfl, rfl, trivial⟩ (Nat.lt_succ_self _) ⟨(IntKind.i64.wrap (y76 + 1)), (IntKind.i64.wrap (y77 + 1)), rfl, hS.pick [0, 1] [0, 1, 2] rfl, H⟩
                                      · replace H := pif_f (of_decide_eq_false hb) H
                                        refine CJ.skip (EJ.blk (EJ.next ?_))
                                        refine CJ.region ?_
                                        refine OJ.pures tU_ok 3 rfl ?_
                                        refine OJ.nil ?_
                                        exact EJ.round k (F' := [(5, .slice A29 y28.length c30), (6, .int .i64 (IntKind.i64.wrap (1 + t7))), (7, .int .i64 (IntKind.i64.wrap (1 + t8))), (10, .int .i64 t9.2.2), (16, .slice A32 y31.length c33), (38, .int .i64 y62), (39, .int .i64 y63), (40, .int .i64 y64), (43, .slice A71 t70.1.length c72), (45, .int .i64 y76), (46, .int .i64 (IntKind.i64.wrap (y77 + 1)))]) ⟨rfl, rfl, rfl, rfl, rfl, rfl, rfl, rfl, rfl, rfl, rfl, trivial⟩ (Nat.lt_succ_self _) ⟨y76, (IntKind.i64.wrap (y77 + 1)), rfl, hS.pick [0, 1] [0, 1, 2] rfl, H⟩
                                    · replace H := pif_f (of_decide_eq_false hb) H
                                      refine CJ.exit (EJ.skE (EJ.skE (EJ.hit (?_))))
                                      exact EJ.meet (F' := [(5, .slice A29 y28.length c30), (6, .int .i64 (IntKind.i64.wrap (1 + t7))), (7, .int .i64 (IntKind.i64.wrap (1 + t8))), (10, .int .i64 t9.2.2), (16, .slice A32 y31.length c33), (38, .int .i64 y62), (39, .int .i64 y63), (40, .int .i64 y64), (43, .slice A71 t70.1.length c72), (45, .int .i64 y76)]) ⟨rfl, rfl, rfl, rfl, rfl, rfl, rfl, rfl, rfl, rfl, trivial⟩ ⟨y76, H, rfl, hS.pick [0, 1] [0, 1, 2] rfl⟩
                                · rintro F w1 ⟨y75, he, rfl, hS⟩
                                  obtain rfl := Option.some.inj he
                                  have H := K80
                                  refine EJ.next ?_
                                  refine CJ.seq ?_
                                  refine CJ.region ?_
                                  refine OJ.pures tU_ok 4 rfl ?_
                                  refine OJ.nil (EJ.next ?_)
                                  refine CJ.seq ?_
                                  refine CJ.region ?_
                                  refine OJ.pures tU_ok 2 rfl ?_
                                  refine OJ.nil (EJ.next ?_)
                                  refine CJ.cond rfl (fun hb => ?_) (fun hb => ?_)
                                  · replace H := pif_t (of_decide_eq_true hb) H
                                    refine CJ.region ?_
                                    refine OJ.pures tU_ok 8 rfl ?_
                                    refine OJ.nil (EJ.blk (?_))
                                    exact EJ.meet (F' := [(5, .slice A29 y28.length c30), (6, .int .i64 (IntKind.i64.wrap (1 + t7))), (7, .int .i64 (IntKind.i64.wrap (1 + t8))), (10, .int .i64 t9.2.2), (16, .slice A32 y31.length c33), (38, .int .i64 (IntKind.i64.wrap (y62 + (IntKind.i64.wrap ((IntKind.i64.wrap (y75 - 1)) - (t70.1.length : Int)))))), (39, .int .i64 (IntKind.i64.wrap (y63 + y75))), (40, .int .i64 y64)]) ⟨rfl, rfl, rfl, rfl, rfl, rfl, rfl, rfl, trivial⟩ ⟨(IntKind.i64.wrap (y62 + (IntKind.i64.wrap ((IntKind.i64.wrap (y75 - 1)) - (t70.1.length : Int))))), (IntKind.i64.wrap (y63 + y75)), H, rfl, hS.pick [0] [0, 1, 2] rfl⟩
                                  · replace H := pif_f (of_decide_eq_false hb) H
                                    refine CJ.skip (EJ.blk (?_))
                                    exact EJ.meet (F' := [(5, .slice A29 y28.length c30), (6, .int .i64 (IntKind.i64.wrap (1 + t7))), (7, .int .i64 (IntKind.i64.wrap (1 + t8))), (10, .int .i64 t9.2.2), (16, .slice A32 y31.length c33), (38, .int .i64 y62), (39, .int .i64 (IntKind.i64.wrap (y63 + y75))), (40, .int .i64 y64)]) ⟨rfl, rfl, rfl, rfl, rfl, rfl, rfl, rfl, trivial⟩ ⟨y62, (IntKind.i64.wrap (y63 + y75)), H, rfl, hS.pick [0] [0, 1, 2] rfl⟩
                          · rintro F w1 ⟨y65, y66, he, rfl, hS⟩
                            obtain rfl := Option.some.inj he
                            have H := K76
                            refine CJ.region ?_
                            refine OJ.pures tU_ok 3 rfl ?_
                            refine OJ.nil ?_
                            exact EJ.round k (F' := [(5, .slice A29 y28.length c30), (6, .int .i64 (IntKind.i64.wrap (1 + t7))), (7, .int .i64 (IntKind.i64.wrap (1 + t8))), (10, .int .i64 t9.2.2), (16, .slice A32 y31.length c33), (38, .int .i64 y65), (39, .int .i64 y66), (40, .int .i64 (IntKind.i64.wrap (y64 + 1)))]) ⟨rfl, rfl, rfl, rfl, rfl, rfl, rfl, rfl, trivial⟩ (Nat.lt_succ_self _) ⟨y65, y66, (IntKind.i64.wrap (y64 + 1)), rfl, hS.pick [0] [0, 1, 2] rfl, H⟩
                        · replace H := pif_f (of_decide_eq_false hb) H
                          refine CJ.exit (EJ.skE (EJ.skE (EJ.hit (?_))))
                          exact EJ.meet (F' := [(5, .slice A29 y28.length c30), (6, .int .i64 (IntKind.i64.wrap (1 + t7))), (7, .int .i64 (IntKind.i64.wrap (1 + t8))), (10, .int .i64 t9.2.2), (38, .int .i64 y62), (39, .int .i64 y63)]) ⟨rfl, rfl, rfl, rfl, rfl, rfl, trivial⟩ ⟨y62, y63, H, rfl, hS.pick [] [0, 1, 2] rfl⟩
                    · rintro F w1 ⟨y60, y61, he, rfl, hS⟩
                      obtain rfl := Option.some.inj he
                      have H := K65
                      refine EJ.next ?_
                      refine CJ.seq ?_
                      refine CJ.region ?_
                      refine OJ.pures tU_ok 3 rfl ?_
                      refine OJ.split (t := 363) rfl (fun hb => ?_) (fun hb => ?_)
                      · replace H := pif_t (of_decide_eq_true hb) H
                        refine OJ.pures tU_ok 4 rfl ?_
                        refine OJ.nil (EJ.next ?_)
                        refine CJ.condT rfl ?_
                        refine CJ.seq ?_
                        refine CJ.region ?_
                        refine OJ.pures tU_ok 1 rfl ?_
                        refine OJ.nil (EJ.next ?_)
                        refine CJ.ret (EJ.skR (?_))
                        first | (obtain rfl := Option.some.inj H; have H := K41) | (obtain ⟨q41, H2, e41⟩ := pbind H; obtain rfl := Option.some.inj e41; obtain rfl := Option.some.inj K41; have H := H2)
                        obtain rfl := Option.some.inj H
                        exact EJ.fin rfl (.tmp rfl .nil) ⟨rfl, hS.ext⟩
                      · replace H := pif_f (of_decide_eq_false hb) H
                        refine OJ.pures tU_ok 4 rfl ?_
                        refine OJ.nil (EJ.next ?_)
                        refine CJ.cond rfl (fun hb => ?_) (fun hb => ?_)
                        · replace H := pif_t (of_decide_eq_true hb) H
                          refine CJ.seq ?_
                          refine CJ.region ?_
                          refine OJ.pures tU_ok 1 rfl ?_
                          refine OJ.nil (EJ.next ?_)
                          refine CJ.ret (EJ.skR (?_))
                          first | (obtain rfl := Option.some.inj H; have H := K41) | (obtain ⟨q41, H2, e41⟩ := pbind H; obtain rfl := Option.some.inj e41; obtain rfl := Option.some.inj K41; have H := H2)
                          obtain rfl := Option.some.inj H
                          exact EJ.fin rfl (.tmp rfl .nil) ⟨rfl, hS.ext⟩
                        · replace H := pif_f (of_decide_eq_false hb) H
                          refine CJ.skip (?_)
                          exact EJ.meet (F' := [(5, .slice A29 y28.length c30), (6, .int .i64 (IntKind.i64.wrap (1 + t7))), (7, .int .i64 (IntKind.i64.wrap (1 + t8))), (10, .int .i64 t9.2.2)]) ⟨rfl, rfl, rfl, rfl, trivial⟩ ⟨H, rfl, hS.pick [] [0, 1, 2] rfl⟩
              · replace H := pif_f (of_decide_eq_false hb) H
                refine CJ.skip (?_)
                exact EJ.meet (F' := [(5, .slice A29 y28.length c30), (6, .int .i64 (IntKind.i64.wrap (1 + t7))), (7, .int .i64 (IntKind.i64.wrap (1 + t8))), (10, .int .i64 t9.2.2)]) ⟨rfl, rfl, rfl, rfl, trivial⟩ ⟨H, rfl, hS.pick [] [0, 1, 2] rfl⟩
            · rintro F w1 ⟨he, rfl, hS⟩
              obtain rfl := Option.some.inj he
              have H := K41
              obtain ⟨j81, H, K81⟩ := pbind H
              refine CJ.cut (fun F w1 => (some (Sum.inr ()) : Option (Bool ⊕ Unit)) = some j81 ∧ F = [(5, .slice A29 y28.length c30)] ∧ St w no w1 [] [roC (ci .u8) Aa0 ca0 a0, roC (ci .u8) Aa1 ca1 a1, roC cMeadow A29 c30 y28]) ?_ ?_
              · skip
                obtain ⟨j84, H, K84⟩ := pbind H
                refine CJ.cut (fun F w1 => ∃ (y79 : Bool) , (some y79 : Option Bool) = some j84 ∧ F = [(5, .slice A29 y28.length c30), (6, .int .i64 (IntKind.i64.wrap (1 + t7))), (373, .bool y79)] ∧ St w no w1 [] [roC (ci .u8) Aa0 ca0 a0, roC (ci .u8) Aa1 ca1 a1, roC cMeadow A29 c30 y28]) ?_ ?_
                · skip
                  refine CJ.region ?_
                  refine OJ.pures tU_ok 3 rfl ?_
                  refine OJ.split (t := 370) rfl (fun hb => ?_) (fun hb => ?_)
                  · replace H := pif_t (of_decide_eq_true hb) H
                    refine OJ.pures tU_ok 3 rfl ?_
                    refine OJ.nil ?_
                    exact EJ.meet (F' := [(5, .slice A29 y28.length c30), (6, .int .i64 (IntKind.i64.wrap (1 + t7))), (373, .bool (decide ((IntKind.i64.wrap (1 + t8)) = 1)))]) ⟨rfl, rfl, rfl, trivial⟩ ⟨(decide ((IntKind.i64.wrap (1 + t8)) = 1)), H, rfl, hS.pick [] [0, 1, 2] rfl⟩
                  · replace H := pif_f (of_decide_eq_false hb) H
                    refine OJ.pures tU_ok 3 rfl ?_
                    refine OJ.nil ?_
                    exact EJ.meet (F' := [(5, .slice A29 y28.length c30), (6, .int .i64 (IntKind.i64.wrap (1 + t7))), (373, .bool false)]) ⟨rfl, rfl, rfl, trivial⟩ ⟨false, H, rfl, hS.pick [] [0, 1, 2] rfl⟩
                · rintro F w1 ⟨y79, he, rfl, hS⟩
                  obtain rfl := Option.some.inj he
                  have H := K84
                  refine CJ.cond rfl (fun hb => ?_) (fun hb => ?_)
                  · replace H := pif_t hb H
                    refine CJ.seq ?_
                    refine CJ.region ?_
                    refine OJ.pures tU_ok 1 rfl ?_
                    refine OJ.nil (EJ.next ?_)
                    obtain ⟨j85, H, K85⟩ := pbind H
                    refine CJ.cut1 (fun F w1 => (some (Sum.inr ()) : Option ((Bool ⊕ Unit) ⊕ Unit)) = some j85 ∧ F = [(5, .slice A29 y28.length c30)] ∧ St w no w1 [] [roC (ci .u8) Aa0 ca0 a0, roC (ci .u8) Aa1 ca1 a1, roC cMeadow A29 c30 y28]) ?_ ?_
                    · skip
                      refine CJ.block ?_
                      refine CJ.loop (fun k F w1 => ∃ (y80 : Int), F = [(5, .slice A29 y28.length c30), (6, .int .i64 (IntKind.i64.wrap (1 + t7))), (47, .int .i64 y80)] ∧ St w no w1 [] [roC (ci .u8) Aa0 ca0 a0, roC (ci .u8) Aa1 ca1 a1, roC cMeadow A29 c30 y28] ∧ laws_FnSeasons.l4 t7 y28 k y80 = some j85) k (F' := [(5, .slice A29 y28.length c30), (6, .int .i64 (IntKind.i64.wrap (1 + t7))), (47, .int .i64 0)]) ⟨rfl, rfl, rfl, trivial⟩ ⟨0, rfl, hS.pick [] [0, 1, 2] rfl, H⟩ ?_
                      rintro k F w1 ⟨y80, rfl, hS, H⟩
                      cases k with
                      | zero => rw [laws_FnSeasons.l4] at H; cases H
                      | succ k =>
                        rw [laws_FnSeasons.l4] at H
                        refine CJ.seq ?_
                        refine CJ.seq ?_
                        refine CJ.region ?_
                        refine OJ.pures tU_ok 4 rfl ?_
                        refine OJ.nil (EJ.next ?_)
                        refine CJ.cond rfl (fun hb => ?_) (fun hb => ?_)
                        · replace H := pif_t (of_decide_eq_true hb) H
                          refine CJ.skip (EJ.next ?_)
                          refine CJ.seq ?_
                          refine CJ.block ?_
                          refine CJ.seq ?_
                          refine CJ.region ?_
                          refine OJ.pures tU_ok 2 rfl ?_
                          obtain ⟨t81, ht81, H⟩ := pbind H
                          obtain ⟨ad81, e81⟩ := (hS.rd' (i := 2) rfl).some' ht81
                          refine OJ.st rfl rfl rfl (SR.idxS tU_ok tI_ok rfl rfl rfl rfl e81 rfl (getI_some ht81).1) ?_
                          refine OJ.st rfl rfl rfl (SR.fieldAddr tU_ok tI_ok rfl rfl rfl rfl rfl rfl) ?_
                          refine OJ.st rfl rfl rfl (SR.load rfl rfl (fun w' hx => ld1 tU_ok rfl rfl (CA.ext (CA.sub ((hS.rd' (i := 2) rfl).at_ e81 ht81) 0) hx) rfl)) ?_
                          refine OJ.pures tU_ok 3 rfl ?_
                          refine OJ.nil (EJ.next ?_)
                          refine CJ.cond rfl (fun hb => ?_) (fun hb => ?_)
                          · replace H := pif_t (of_decide_eq_true hb) H
                            refine CJ.seq ?_
                            refine CJ.region ?_
                            refine OJ.pures tU_ok 1 rfl ?_
                            refine OJ.nil (EJ.next ?_)
                            refine CJ.ret (EJ.bkR (EJ.skR (EJ.skR (EJ.bkR (EJ.skR (EJ.skR (?_)))))))
                            first | (obtain rfl := Option.some.inj H; have H := K85) | (obtain ⟨q85, H2, e85⟩ := pbind H; obtain rfl := Option.some.inj e85; obtain rfl := Option.some.inj K85; have H := H2)
                            first | (obtain rfl := Option.some.inj H; have H := K81) | (obtain ⟨q81, H2, e81⟩ := pbind H; obtain rfl := Option.some.inj e81; obtain rfl := Option.some.inj K81; have H := H2)
                            obtain rfl := Option.some.inj H
                            exact EJ.fin rfl (.tmp rfl .nil) ⟨rfl, hS.ext⟩
                          · replace H := pif_f (of_decide_eq_false hb) H
                            refine CJ.skip (EJ.blk (EJ.next ?_))
                            refine CJ.region ?_
                            refine OJ.pures tU_ok 3 rfl ?_
                            refine OJ.nil ?_
                            exact EJ.round k (F' := [(5, .slice A29 y28.length c30), (6, .int .i64 (IntKind.i64.wrap (1 + t7))), (47, .int .i64 (IntKind.i64.wrap (y80 + 1)))]) ⟨rfl, rfl, rfl, trivial⟩ (Nat.lt_succ_self _) ⟨(IntKind.i64.wrap (y80 + 1)), rfl, hS.pick [] [0, 1, 2] rfl, H⟩
                        · replace H := pif_f (of_decide_eq_false hb) H
                          refine CJ.exit (EJ.skE (EJ.skE (EJ.hit (?_))))
                          exact EJ.meet (F' := [(5, .slice A29 y28.length c30)]) ⟨rfl, trivial⟩ ⟨H, rfl, hS.pick [] [0, 1, 2] rfl⟩
                    · rintro F w1 ⟨he, rfl, hS⟩
                      obtain rfl := Option.some.inj he
                      have H := K85
                      exact EJ.meet (F' := [(5, .slice A29 y28.length c30)]) ⟨rfl, trivial⟩ ⟨H, rfl, hS.pick [] [0, 1, 2] rfl⟩
                  · replace H := pifb_f hb H
                    refine CJ.skip (?_)
                    exact EJ.meet (F' := [(5, .slice A29 y28.length c30)]) ⟨rfl, trivial⟩ ⟨H, rfl, hS.pick [] [0, 1, 2] rfl⟩
              · rintro F w1 ⟨he, rfl, hS⟩
                obtain rfl := Option.some.inj he
                have H := K81
                refine CJ.seq ?_
                refine CJ.region ?_
                refine OJ.pures tU_ok 1 rfl ?_
                obtain ⟨t82, ht82, H⟩ := pbind H
                refine OJ.callF rfl rfl rfl rfl rfl hb25 rfl (impl_GreatestNeed.c k _ A29 c30 y28 (hS.rd' (i := 2) rfl) (hS.le' (i := 2) rfl) 1 1000 _ ht82) ?_
                rintro _ w1 ⟨rfl, hs⟩
                replace hS := hS.grow hs
                refine OJ.pures tU_ok 5 rfl ?_
                refine OJ.nil (EJ.next ?_)
                refine CJ.seq ?_
                refine CJ.region ?_
                refine OJ.pures tU_ok 1 rfl ?_
                refine OJ.nil (EJ.next ?_)
                refine CJ.seq ?_
                refine CJ.seq ?_
                refine CJ.region ?_
                refine OJ.pures tU_ok 1 rfl ?_
                refine OJ.nil (EJ.next ?_)
                obtain ⟨j87, H, K87⟩ := pbind H
                refine CJ.cut1 (fun F w1 => ∃ (y83 : Int) , (some y83 : Option Int) = some j87 ∧ F = [(48, .int .i64 t82.1), (49, .int .i64 t82.2), (50, .int .i64 y83)] ∧ St w no w1 [] [roC (ci .u8) Aa0 ca0 a0, roC (ci .u8) Aa1 ca1 a1, roC cMeadow A29 c30 y28]) ?_ ?_
                · skip
                  refine CJ.block ?_
                  refine CJ.loop (fun k F w1 => ∃ (y84 : Int) (y85 : Int), F = [(5, .slice A29 y28.length c30), (48, .int .i64 t82.1), (49, .int .i64 t82.2), (50, .int .i64 y84), (51, .int .i64 y85)] ∧ St w no w1 [] [roC (ci .u8) Aa0 ca0 a0, roC (ci .u8) Aa1 ca1 a1, roC cMeadow A29 c30 y28] ∧ laws_FnSeasons.l5 y28 k y84 y85 = some j87) k (F' := [(5, .slice A29 y28.length c30), (48, .int .i64 t82.1), (49, .int .i64 t82.2), (50, .int .i64 0), (51, .int .i64 0)]) ⟨rfl, rfl, rfl, rfl, rfl, trivial⟩ ⟨0, 0, rfl, hS.pick [] [0, 1, 2] rfl, H⟩ ?_
                  rintro k F w1 ⟨y84, y85, rfl, hS, H⟩
                  cases k with
                  | zero => rw [laws_FnSeasons.l5] at H; cases H
                  | succ k =>
                    rw [laws_FnSeasons.l5] at H
                    refine CJ.seq ?_
                    refine CJ.seq ?_
                    refine CJ.region ?_
                    refine OJ.pures tU_ok 4 rfl ?_
                    refine OJ.nil (EJ.next ?_)
                    refine CJ.cond rfl (fun hb => ?_) (fun hb => ?_)
                    · replace H := pif_t (of_decide_eq_true hb) H
                      refine CJ.skip (EJ.next ?_)
                      refine CJ.seq ?_
                      refine CJ.block ?_
                      refine CJ.region ?_
                      refine OJ.pures tU_ok 3 rfl ?_
                      obtain ⟨t86, ht86, H⟩ := pbind H
                      obtain ⟨ad86, e86⟩ := (hS.rd' (i := 2) rfl).some' ht86
                      refine OJ.st rfl rfl rfl (SR.idxS tU_ok tI_ok rfl rfl rfl rfl e86 rfl (getI_some ht86).1) ?_
                      refine OJ.st rfl rfl rfl (SR.fieldAddr tU_ok tI_ok rfl rfl rfl rfl rfl rfl) ?_
                      refine OJ.st rfl rfl rfl (SR.load rfl rfl (fun w' hx => ld1 tU_ok rfl rfl (CA.ext (CA.sub ((hS.rd' (i := 2) rfl).at_ e86 ht86) 0) hx) rfl)) ?_
                      refine OJ.pures tU_ok 3 rfl ?_
                      refine OJ.nil (EJ.blk (EJ.next ?_))
                      refine CJ.region ?_
                      refine OJ.pures tU_ok 3 rfl ?_
                      refine OJ.nil ?_
                      exact EJ.round k (F' := [(5, .slice A29 y28.length c30), (48, .int .i64 t82.1), (49, .int .i64 t82.2), (50, .int .i64 (if y84 < (IntKind.i64.wrap t86.Grass) then (IntKind.i64.wrap t86.Grass) else y84)), (51, .int .i64 (IntKind.i64.wrap (y85 + 1)))]) ⟨rfl, rfl, rfl, rfl, rfl, trivial⟩ (Nat.lt_succ_self _) ⟨(if y84 < (IntKind.i64.wrap t86.Grass) then (IntKind.i64.wrap t86.Grass) else y84), (IntKind.i64.wrap (y85 + 1)), rfl, hS.pick [] [0, 1, 2] rfl, H⟩
                    · replace H := pif_f (of_decide_eq_false hb) H
                      refine CJ.exit (EJ.skE (EJ.skE (EJ.hit (?_))))
                      exact EJ.meet (F' := [(48, .int .i64 t82.1), (49, .int .i64 t82.2), (50, .int .i64 y84)]) ⟨rfl, rfl, rfl, trivial⟩ ⟨y84, H, rfl, hS.pick [] [0, 1, 2] rfl⟩
                · rintro F w1 ⟨y83, he, rfl, hS⟩
                  obtain rfl := Option.some.inj he
                  have H := K87
                  refine EJ.next ?_
                  refine CJ.seq ?_
                  refine CJ.region ?_
                  refine OJ.pures tU_ok 3 rfl ?_
                  refine OJ.split (t := 409) rfl (fun hb => ?_) (fun hb => ?_)
                  · replace H := pif_t (of_decide_eq_true hb) H
                    refine OJ.pures tU_ok 5 rfl ?_
                    refine OJ.split (t := 414) rfl (fun hb => ?_) (fun hb => ?_)
                    · replace H := pif_t (of_decide_eq_true hb) H
                      refine OJ.pures tU_ok 4 rfl ?_
                      refine OJ.split (t := 418) rfl (fun hb => ?_) (fun hb => ?_)
                      · replace H := pif_t (of_decide_eq_true hb) H
                        refine OJ.pures tU_ok 8 rfl ?_
                        refine OJ.nil (EJ.next ?_)
                        refine CJ.ret (?_)
                        obtain rfl := Option.some.inj H
                        exact EJ.fin rfl (.tmp rfl .nil) ⟨rfl, hS.ext⟩
                      · replace H := pif_f (of_decide_eq_false hb) H
                        refine OJ.pures tU_ok 3 rfl ?_
                        refine OJ.split (t := 421) rfl (fun hb => ?_) (fun hb => ?_)
                        · replace H := pif_t (of_decide_eq_true hb) H
                          refine OJ.pures tU_ok 5 rfl ?_
                          refine OJ.nil (EJ.next ?_)
                          refine CJ.ret (?_)
                          obtain rfl := Option.some.inj H
                          exact EJ.fin rfl (.tmp rfl .nil) ⟨rfl, hS.ext⟩
                        · replace H := pif_f (of_decide_eq_false hb) H
                          refine OJ.pures tU_ok 5 rfl ?_
                          refine OJ.nil (EJ.next ?_)
                          refine CJ.ret (?_)
                          obtain rfl := Option.some.inj H
                          exact EJ.fin rfl (.tmp rfl .nil) ⟨rfl, hS.ext⟩
                    · replace H := pif_f (of_decide_eq_false hb) H
                      refine OJ.pures tU_ok 7 rfl ?_
                      refine OJ.split (t := 421) rfl (fun hb => ?_) (fun hb => ?_)
                      · replace H := pif_t (of_decide_eq_true hb) H
                        refine OJ.pures tU_ok 5 rfl ?_
                        refine OJ.nil (EJ.next ?_)
                        refine CJ.ret (?_)
                        obtain rfl := Option.some.inj H
                        exact EJ.fin rfl (.tmp rfl .nil) ⟨rfl, hS.ext⟩
                      · replace H := pif_f (of_decide_eq_false hb) H
                        refine OJ.pures tU_ok 5 rfl ?_
                        refine OJ.nil (EJ.next ?_)
                        refine CJ.ret (?_)
                        obtain rfl := Option.some.inj H
                        exact EJ.fin rfl (.tmp rfl .nil) ⟨rfl, hS.ext⟩
                  · replace H := pif_f (of_decide_eq_false hb) H
                    refine OJ.pures tU_ok 12 rfl ?_
                    refine OJ.split (t := 421) rfl (fun hb => ?_) (fun hb => ?_)
                    · replace H := pif_t (of_decide_eq_true hb) H
                      refine OJ.pures tU_ok 5 rfl ?_
                      refine OJ.nil (EJ.next ?_)
                      refine CJ.ret (?_)
                      obtain rfl := Option.some.inj H
                      exact EJ.fin rfl (.tmp rfl .nil) ⟨rfl, hS.ext⟩
                    · replace H := pif_f (of_decide_eq_false hb) H
                      refine OJ.pures tU_ok 5 rfl ?_
                      refine OJ.nil (EJ.next ?_)
                      refine CJ.ret (?_)
                      obtain rfl := Option.some.inj H
                      exact EJ.fin rfl (.tmp rfl .nil) ⟨rfl, hS.ext⟩
end Go.Proofs.Ytnjeddecmccdcaa
