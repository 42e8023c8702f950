/-
  What the functions come to.
-/
import Derived.Test.YtegibnmfiogebaaGreatGP1
namespace Go.Proofs.YtegibnmfiogebaaGreat
open G
set_option linter.unusedVariables false
set_option linter.unusedSimpArgs false
set_option maxRecDepth 100000
set_option maxHeartbeats 4000000
def spec_SmallYard.f (k : Nat) (a0 : Pasture) (a1 : Spot) (a2 : Int) : Option (List Spot × Int × Int) := (spec_l01Asked.f k a0 a1 true).bind fun t3 => if t3 ≠ 0 then (some (([] : List Spot), 0, t3)) else ((spec_l00In.f a2 1 6).bind fun t5 => if (!t5) = true then (some (([] : List Spot), 0, 3)) else ((spec_l01Yard.f k a0 a1).bind fun t7 => if (t7.length : Int) < a2 then (some (([] : List Spot), 0, 6)) else ((getI (Arr.mk' (Arr.mk' false : Arr 10 Bool) : Arr 10 (Arr 10 Bool)).l a1.Y).bind fun t13 => (getI t13.l a1.X).bind fun t14 => (spec_l03Search_grow.f k (⟨a0, a2, [], 0⟩ : l03Search) ([] : List Spot) ([a1] : List Spot) (aset (Arr.mk' (Arr.mk' false : Arr 10 Bool) : Arr 10 (Arr 10 Bool)) a1.Y.toNat (aset t13 a1.X.toNat true))).bind fun t17 => some (t17.best, t17.least, 0))))
theorem spec_SmallYard.c (k : Nat) (w : World) (a0 : Pasture) (a1 : Spot) (a2 : Int) (r : List Spot × Int × Int) (H : spec_SmallYard.f k a0 a1 a2 = some r) :
    CV Tryz.prog 9 [.agg (cPasture.enc a0).toArray, .agg (cSpot.enc a1).toArray, .int .i64 a2].toArray w fun v w' => ∃ (A0 : Option Addr) (c0 : Nat), v = .tuple #[.slice A0 r.1.length c0, .int .i64 r.2.1, .int .i64 r.2.2] ∧ St w no w' [rowC cSpot A0 c0 34 r.1] [] := by
  have hS := (St.init w no)
  unfold spec_SmallYard.f at H
  refine CV.body Tryz.func9 rfl Tryz.ntmps9 rfl ?_
  refine CJ.seq ?_
  refine CJ.region ?_
  refine OJ.ef rfl rfl rfl (Ef.box hS rfl rfl (cPasture.enc a0) rfl) ?_
  rintro _ w1 ⟨b1, rfl, hS⟩
  refine OJ.ef rfl rfl rfl (Ef.box hS rfl rfl (cSpot.enc a1) rfl) ?_
  rintro _ w1 ⟨b2, rfl, hS⟩
  refine OJ.pures tU_ok 3 rfl ?_
  refine OJ.nil (EJ.next ?_)
  refine CJ.seq ?_
  refine CJ.seq ?_
  refine CJ.region ?_
  refine OJ.st rfl rfl rfl (SR.load rfl rfl (fun w' hx => ldE tU_ok tI_ok rfl rfl rfl (CA.ext (hS.cells (i := 1) rfl) hx) rfl)) ?_
  obtain ⟨t3, ht3, H⟩ := pbind H
  refine OJ.callF rfl rfl rfl rfl rfl hb29 rfl (spec_l01Asked.c k _ _ a0 (hS.cells (i := 0) rfl) a1 true _ ht3) ?_
  rintro _ w1 ⟨rfl, hs⟩
  replace hS := hS.grow hs
  refine OJ.pures tU_ok 1 rfl ?_
  refine OJ.nil (EJ.next ?_)
  refine CJ.seq ?_
  refine CJ.region ?_
  refine OJ.pures tU_ok 2 rfl ?_
  refine OJ.nil (EJ.next ?_)
  refine CJ.cond rfl (fun hb => ?_) (fun hb => ?_)
  · replace H := pif_t (of_decide_eq_true hb) H
    refine CJ.seq ?_
    refine CJ.region ?_
    refine OJ.ef rfl rfl rfl (Ef.lit tU_ok tI_ok hS (C := cSpot) rfl rfl rfl rfl rfl rfl ([] : List Spot) rfl rfl rfl rfl) ?_
    rintro _ w1 ⟨A4, rfl, hS⟩
    refine OJ.pures tU_ok 4 rfl ?_
    refine OJ.nil (EJ.next ?_)
    refine CJ.ret (EJ.skR (?_))
    obtain rfl := Option.some.inj H
    exact EJ.fin rfl (.tmp rfl (.tmp rfl (.tmp rfl .nil))) ⟨A4, (([] : List Spot).length), rfl, hS.pick [2] [] rfl⟩
  replace H := pif_f (of_decide_eq_false hb) H
  refine CJ.skip (EJ.next ?_)
  refine CJ.seq ?_
  refine CJ.seq ?_
  refine CJ.region ?_
  refine OJ.pures tU_ok 1 rfl ?_
  obtain ⟨t5, ht5, H⟩ := pbind H
  refine OJ.callF rfl rfl rfl rfl rfl hb30 rfl (spec_l00In.c _ a2 1 6 _ ht5) ?_
  rintro _ w1 ⟨rfl, hs⟩
  replace hS := hS.grow hs
  refine OJ.pures tU_ok 1 rfl ?_
  refine OJ.nil (EJ.next ?_)
  refine CJ.cond rfl (fun hb => ?_) (fun hb => ?_)
  · replace H := pif_t hb H
    refine CJ.seq ?_
    refine CJ.region ?_
    refine OJ.ef rfl rfl rfl (Ef.lit tU_ok tI_ok hS (C := cSpot) rfl rfl rfl rfl rfl rfl ([] : List Spot) rfl rfl rfl rfl) ?_
    rintro _ w1 ⟨A6, rfl, hS⟩
    refine OJ.pures tU_ok 3 rfl ?_
    refine OJ.nil (EJ.next ?_)
    refine CJ.ret (EJ.skR (?_))
    obtain rfl := Option.some.inj H
    exact EJ.fin rfl (.tmp rfl (.tmp rfl (.tmp rfl .nil))) ⟨A6, (([] : List Spot).length), rfl, hS.pick [2] [] rfl⟩
  replace H := pifb_f hb H
  refine CJ.skip (EJ.next ?_)
  refine CJ.seq ?_
  refine CJ.seq ?_
  refine CJ.region ?_
  refine OJ.st rfl rfl rfl (SR.load rfl rfl (fun w' hx => ldE tU_ok tI_ok rfl rfl rfl (CA.ext (hS.cells (i := 1) rfl) hx) rfl)) ?_
  obtain ⟨t7, ht7, H⟩ := pbind H
  refine OJ.callF rfl rfl rfl rfl rfl hb31 rfl (spec_l01Yard.c k _ _ a0 (hS.cells (i := 0) rfl) a1 _ ht7) ?_
  rintro _ w1 ⟨A8, c9, rfl, hs⟩
  replace hS := hS.addN hs
  refine OJ.pures tU_ok 3 rfl ?_
  refine OJ.nil (EJ.next ?_)
  refine CJ.cond rfl (fun hb => ?_) (fun hb => ?_)
  · replace H := pif_t (of_decide_eq_true hb) H
    refine CJ.seq ?_
    refine CJ.region ?_
    refine OJ.ef rfl rfl rfl (Ef.lit tU_ok tI_ok hS (C := cSpot) rfl rfl rfl rfl rfl rfl ([] : List Spot) rfl rfl rfl rfl) ?_
    rintro _ w1 ⟨A10, rfl, hS⟩
    refine OJ.pures tU_ok 3 rfl ?_
    refine OJ.nil (EJ.next ?_)
    refine CJ.ret (EJ.skR (?_))
    obtain rfl := Option.some.inj H
    exact EJ.fin rfl (.tmp rfl (.tmp rfl (.tmp rfl .nil))) ⟨A10, (([] : List Spot).length), rfl, hS.pick [3] [] rfl⟩
  replace H := pif_f (of_decide_eq_false hb) H
  refine CJ.skip (EJ.next ?_)
  refine CJ.seq ?_
  refine CJ.region ?_
  refine OJ.pures tU_ok 1 rfl ?_
  refine OJ.st rfl rfl rfl (SR.build' tU_ok tI_ok rfl rfl rfl (zs := [.pointer none, .int .i64 0, .slice none 0 0, .int .i64 0]) rfl rfl rfl ([.pointer (some ⟨b1, 0, none⟩), .int .i64 a2, .slice none 0 0, .int .i64 0]) rfl) ?_
  refine OJ.ef rfl rfl rfl (Ef.box hS rfl rfl ([.pointer (some ⟨b1, 0, none⟩), .int .i64 a2, .slice none 0 0, .int .i64 0]) rfl) ?_
  rintro _ w1 ⟨b11, rfl, hS⟩
  refine OJ.pures tU_ok 1 rfl ?_
  refine OJ.nil (EJ.next ?_)
  refine CJ.seq ?_
  refine CJ.region ?_
  refine OJ.st rfl rfl rfl (SR.buildA tU_ok tI_ok rfl rfl rfl rfl (zs := [.bool false, .bool false, .bool false, .bool false, .bool false, .bool false, .bool false, .bool false, .bool false, .bool false, .bool false, .bool false, .bool false, .bool false, .bool false, .bool false, .bool false, .bool false, .bool false, .bool false, .bool false, .bool false, .bool false, .bool false, .bool false, .bool false, .bool false, .bool false, .bool false, .bool false, .bool false, .bool false, .bool false, .bool false, .bool false, .bool false, .bool false, .bool false, .bool false, .bool false, .bool false, .bool false, .bool false, .bool false, .bool false, .bool false, .bool false, .bool false, .bool false, .bool false, .bool false, .bool false, .bool false, .bool false, .bool false, .bool false, .bool false, .bool false, .bool false, .bool false, .bool false, .bool false, .bool false, .bool false, .bool false, .bool false, .bool false, .bool false, .bool false, .bool false, .bool false, .bool false, .bool false, .bool false, .bool false, .bool false, .bool false, .bool false, .bool false, .bool false, .bool false, .bool false, .bool false, .bool false, .bool false, .bool false, .bool false, .bool false, .bool false, .bool false, .bool false, .bool false, .bool false, .bool false, .bool false, .bool false, .bool false, .bool false, .bool false, .bool false]) rfl rfl ((carr 10 (carr 10 cb)).enc (Arr.mk' (Arr.mk' false : Arr 10 Bool) : Arr 10 (Arr 10 Bool))) (by kernel_rfl)) ?_
  refine OJ.ef rfl rfl rfl (Ef.alloc hS tI_ok rfl rfl ((carr 10 (carr 10 cb)).enc (Arr.mk' (Arr.mk' false : Arr 10 Bool) : Arr 10 (Arr 10 Bool))) (by kernel_rfl)) ?_
  rintro _ w1 ⟨b12, rfl, hS⟩
  refine OJ.es rfl rfl (Es.put tI_ok hS (i := 4) rfl rfl rfl rfl rfl (vs := (carr 10 (carr 10 cb)).enc (Arr.mk' (Arr.mk' false : Arr 10 Bool) : Arr 10 (Arr 10 Bool))) rfl ((carr 10 (carr 10 cb)).len _) ((carr 10 (carr 10 cb)).one _) (Put.all (carr 10 (carr 10 cb)) (Arr.mk' (Arr.mk' false : Arr 10 Bool) : Arr 10 (Arr 10 Bool)) (Arr.mk' (Arr.mk' false : Arr 10 Bool) : Arr 10 (Arr 10 Bool))) (by (try simp only [add_lit, Nat.add_assoc, Nat.zero_add, Nat.add_zero]) <;> rfl)) ?_
  intro w1 hS
  refine OJ.nil (EJ.next ?_)
  refine CJ.seq ?_
  refine CJ.draw [] [0, 1, 2, 3, 4, 5, 6] mixed (by kernel_rfl) hS fun w1 hS => ?_
  refine DJ.st rfl rfl rfl rfl rfl (SR.fieldAddr tU_ok tI_ok rfl rfl rfl rfl rfl rfl) ?_
  refine DJ.st rfl rfl rfl rfl rfl (SR.load rfl rfl (fun w' hx => ld1 tU_ok rfl rfl (CA.ext (CA.sub (hS.cells (i := 1) rfl) 1) hx) rfl)) ?_
  refine DJ.st rfl rfl rfl rfl rfl (SR.fieldAddr tU_ok tI_ok rfl rfl rfl rfl rfl rfl) ?_
  refine DJ.st rfl rfl rfl rfl rfl (SR.load rfl rfl (fun w' hx => ld1 tU_ok rfl rfl (CA.ext (CA.sub (hS.cells (i := 1) rfl) 0) hx) rfl)) ?_
  obtain ⟨t13, ht13, H⟩ := pbind H
  refine DJ.st rfl rfl rfl rfl rfl (SR.idxA tU_ok tI_ok rfl rfl rfl rfl rfl (Arr.lt ht13)) ?_
  obtain ⟨t14, ht14, H⟩ := pbind H
  refine DJ.st rfl rfl rfl rfl rfl (SR.idxA tU_ok tI_ok rfl rfl rfl rfl rfl (Arr.lt ht14)) ?_
  refine DJ.es rfl rfl rfl rfl (Es.put tI_ok hS (i := 4) rfl rfl rfl rfl rfl (vs := cb.enc true) rfl rfl (one1 rfl) (Put.idx (Put.idx (Put.all cb t14 true) ht14) ht13) (by (try simp only [add_lit, Nat.add_assoc, Nat.zero_add, Nat.add_zero]) <;> rfl)) ?_
  intro w1 hS
  refine DJ.nil (EJ.next ?_)
  refine CJ.seq ?_
  refine CJ.region ?_
  refine OJ.pures tU_ok 1 rfl ?_
  refine OJ.ef rfl rfl rfl (Ef.lit tU_ok tI_ok hS (C := cSpot) rfl rfl rfl rfl rfl rfl ([] : List Spot) rfl rfl rfl rfl) ?_
  rintro _ w1 ⟨A15, rfl, hS⟩
  refine OJ.st rfl rfl rfl (SR.load rfl rfl (fun w' hx => ldE tU_ok tI_ok rfl rfl rfl (CA.ext (hS.cells (i := 1) rfl) hx) rfl)) ?_
  refine OJ.ef rfl rfl rfl (Ef.lit tU_ok tI_ok hS (C := cSpot) rfl rfl rfl rfl rfl rfl ([a1] : List Spot) rfl rfl rfl rfl) ?_
  rintro _ w1 ⟨A16, rfl, hS⟩
  refine OJ.st rfl rfl rfl (SR.load rfl rfl (fun w' hx => ldE tU_ok tI_ok rfl rfl rfl (CA.ext (hS.cells (i := 4) rfl) hx) rfl)) ?_
  replace hS := hS.addNil cSpot 34 none
  obtain ⟨t17, ht17, H⟩ := pbind H
  refine OJ.callF rfl rfl rfl rfl rfl hb32 rfl (spec_l03Search_grow.c k _ none 0 (⟨a0, a2, [], 0⟩ : l03Search) ⟨b1, 0, none⟩ b11 A15 (([] : List Spot).length) ([] : List Spot) A16 (([a1] : List Spot).length) ([a1] : List Spot) (aset (Arr.mk' (Arr.mk' false : Arr 10 Bool) : Arr 10 (Arr 10 Bool)) a1.Y.toNat (aset t13 a1.X.toNat true)) (((((hS.subs [3, 7] [] [0, 5, 6] rfl).rToRoP (i := 0) rfl).rToRo (i := 1) rfl).rToRo (i := 2) rfl).pick [0, 1] [0, 1, 2] rfl) _ ht17) ?_
  rintro _ w1 ⟨A18, c19, rfl, hs⟩
  replace hS := hS.back' [3] [7] rfl rfl [box b11 ([.pointer (some ⟨b1, 0, none⟩), .int .i64 t17.size, .slice A18 t17.best.length c19, .int .i64 t17.least]) 68] [rowC cSpot A18 c19 34 t17.best] [] hs ⟨fun _ => Iff.rfl, trivial⟩ (fun _ h => by cases h) (.inr rfl)
  have hS : St w no w1 [box b1 (cPasture.enc a0) 31, box b2 (cSpot.enc a1) 34, rowC cSpot A8 c9 34 t7, box b11 ([.pointer (some ⟨b1, 0, none⟩), .int .i64 t17.size, .slice A18 t17.best.length c19, .int .i64 t17.least]) 68, box b12 ((carr 10 (carr 10 cb)).enc (aset (Arr.mk' (Arr.mk' false : Arr 10 Bool) : Arr 10 (Arr 10 Bool)) a1.Y.toNat (aset t13 a1.X.toNat true))) 70, rowC cSpot A15 (([] : List Spot).length) 34 ([] : List Spot), rowC cSpot A16 (([a1] : List Spot).length) 34 ([a1] : List Spot), gone, rowC cSpot A18 c19 34 t17.best] [] := hS
  have hS : St w no w1 [box b1 (cPasture.enc a0) 31, box b2 (cSpot.enc a1) 34, rowC cSpot A8 c9 34 t7, box b11 ([.pointer (some ⟨b1, 0, none⟩), .int .i64 t17.size, .slice A18 t17.best.length c19, .int .i64 t17.least]) 68, box b12 ((carr 10 (carr 10 cb)).enc (aset (Arr.mk' (Arr.mk' false : Arr 10 Bool) : Arr 10 (Arr 10 Bool)) a1.Y.toNat (aset t13 a1.X.toNat true))) 70, rowC cSpot A15 (([] : List Spot).length) 34 ([] : List Spot), rowC cSpot A16 (([a1] : List Spot).length) 34 ([a1] : List Spot), gone, rowC cSpot A18 c19 34 t17.best] [] := hS
  refine OJ.nil (EJ.next ?_)
  refine CJ.seq ?_
  refine CJ.draw [] [0, 1, 2, 3, 4, 5, 6, 7, 8, 9, 10] mixed (by kernel_rfl) hS fun w1 hS => ?_
  refine DJ.pures tU_ok 2 rfl ?_
  refine DJ.st rfl rfl rfl rfl rfl (SR.fieldAddr tU_ok tI_ok rfl rfl rfl rfl rfl rfl) ?_
  refine DJ.st rfl rfl rfl rfl rfl (SR.load rfl rfl (fun w' hx => ld1 tU_ok rfl rfl (CA.ext (CA.sub (hS.cells (i := 3) rfl) 2) hx) rfl)) ?_
  refine DJ.pures tU_ok 2 rfl ?_
  refine DJ.st rfl rfl rfl rfl rfl (SR.fieldAddr tU_ok tI_ok rfl rfl rfl rfl rfl rfl) ?_
  refine DJ.st rfl rfl rfl rfl rfl (SR.load rfl rfl (fun w' hx => ld1 tU_ok rfl rfl (CA.ext (CA.sub (hS.cells (i := 3) rfl) 3) hx) rfl)) ?_
  refine DJ.pures tU_ok 3 rfl ?_
  refine DJ.nil (EJ.next ?_)
  refine CJ.ret (?_)
  obtain rfl := Option.some.inj H
  exact EJ.fin rfl (.tmp rfl (.tmp rfl (.tmp rfl .nil))) ⟨A18, c19, rfl, hS.pick [8] [] rfl⟩

def spec_YardOf.f (k : Nat) (a0 : Pasture) (a1 : Spot) : Option (List Spot × Int) := (spec_l01Asked.f k a0 a1 true).bind fun t3 => if t3 ≠ 0 then (some (([] : List Spot), t3)) else ((spec_l01Yard.f k a0 a1).bind fun t5 => some (t5, 0))
theorem spec_YardOf.c (k : Nat) (w : World) (a0 : Pasture) (a1 : Spot) (r : List Spot × Int) (H : spec_YardOf.f k a0 a1 = some r) :
    CV Tryz.prog 10 [.agg (cPasture.enc a0).toArray, .agg (cSpot.enc a1).toArray].toArray w fun v w' => ∃ (A0 : Option Addr) (c0 : Nat), v = .tuple #[.slice A0 r.1.length c0, .int .i64 r.2] ∧ St w no w' [rowC cSpot A0 c0 34 r.1] [] := by
  have hS := (St.init w no)
  unfold spec_YardOf.f at H
  refine CV.body Tryz.func10 rfl Tryz.ntmps10 rfl ?_
  refine CJ.seq ?_
  refine CJ.region ?_
  refine OJ.ef rfl rfl rfl (Ef.box hS rfl rfl (cPasture.enc a0) rfl) ?_
  rintro _ w1 ⟨b1, rfl, hS⟩
  refine OJ.ef rfl rfl rfl (Ef.box hS rfl rfl (cSpot.enc a1) rfl) ?_
  rintro _ w1 ⟨b2, rfl, hS⟩
  refine OJ.pures tU_ok 2 rfl ?_
  refine OJ.nil (EJ.next ?_)
  refine CJ.seq ?_
  refine CJ.seq ?_
  refine CJ.region ?_
  refine OJ.st rfl rfl rfl (SR.load rfl rfl (fun w' hx => ldE tU_ok tI_ok rfl rfl rfl (CA.ext (hS.cells (i := 1) rfl) hx) rfl)) ?_
  obtain ⟨t3, ht3, H⟩ := pbind H
  refine OJ.callF rfl rfl rfl rfl rfl hb29 rfl (spec_l01Asked.c k _ _ a0 (hS.cells (i := 0) rfl) a1 true _ ht3) ?_
  rintro _ w1 ⟨rfl, hs⟩
  replace hS := hS.grow hs
  refine OJ.pures tU_ok 1 rfl ?_
  refine OJ.nil (EJ.next ?_)
  refine CJ.seq ?_
  refine CJ.region ?_
  refine OJ.pures tU_ok 2 rfl ?_
  refine OJ.nil (EJ.next ?_)
  refine CJ.cond rfl (fun hb => ?_) (fun hb => ?_)
  · replace H := pif_t (of_decide_eq_true hb) H
    refine CJ.seq ?_
    refine CJ.region ?_
    refine OJ.ef rfl rfl rfl (Ef.lit tU_ok tI_ok hS (C := cSpot) rfl rfl rfl rfl rfl rfl ([] : List Spot) rfl rfl rfl rfl) ?_
    rintro _ w1 ⟨A4, rfl, hS⟩
    refine OJ.pures tU_ok 3 rfl ?_
    refine OJ.nil (EJ.next ?_)
    refine CJ.ret (EJ.skR (?_))
    obtain rfl := Option.some.inj H
    exact EJ.fin rfl (.tmp rfl (.tmp rfl .nil)) ⟨A4, (([] : List Spot).length), rfl, hS.pick [2] [] rfl⟩
  replace H := pif_f (of_decide_eq_false hb) H
  refine CJ.skip (EJ.next ?_)
  refine CJ.seq ?_
  refine CJ.region ?_
  refine OJ.st rfl rfl rfl (SR.load rfl rfl (fun w' hx => ldE tU_ok tI_ok rfl rfl rfl (CA.ext (hS.cells (i := 1) rfl) hx) rfl)) ?_
  obtain ⟨t5, ht5, H⟩ := pbind H
  refine OJ.callF rfl rfl rfl rfl rfl hb31 rfl (spec_l01Yard.c k _ _ a0 (hS.cells (i := 0) rfl) a1 _ ht5) ?_
  rintro _ w1 ⟨A6, c7, rfl, hs⟩
  replace hS := hS.addN hs
  refine OJ.pures tU_ok 2 rfl ?_
  refine OJ.nil (EJ.next ?_)
  refine CJ.ret (?_)
  obtain rfl := Option.some.inj H
  exact EJ.fin rfl (.tmp rfl (.tmp rfl .nil)) ⟨A6, c7, rfl, hS.pick [2] [] rfl⟩

def spec_SameSpots.l1 (a0 : List Spot) (a1 : List Spot) : Nat → Int → Option (Bool ⊕ Unit)
  | 0, _ => none
  | k + 1, y1 => if y1 < (a0.length : Int) then ((getI a0 y1).bind fun t2 => (getI a1 y1).bind fun t3 => if t2 ≠ t3 then (some (Sum.inl false)) else (spec_SameSpots.l1 a0 a1 k (IntKind.i64.wrap (y1 + 1)))) else (some (Sum.inr ()))
def spec_SameSpots.f (k : Nat) (a0 : List Spot) (a1 : List Spot) : Option Bool := if (a0.length : Int) ≠ (a1.length : Int) then (some false) else ((spec_SameSpots.l1 a0 a1 k 0).bind fun s2295 => match s2295 with | .inl r => some r | .inr _ => some true)
theorem spec_SameSpots.c (k : Nat) (w : World) (Aa0 : Option Addr) (ca0 : Nat) (a0 : List Spot) (hr0 : Rd cSpot w Aa0 a0) (hc0 : a0.length ≤ ca0) (Aa1 : Option Addr) (ca1 : Nat) (a1 : List Spot) (hr1 : Rd cSpot w Aa1 a1) (hc1 : a1.length ≤ ca1) (r : Bool) (H : spec_SameSpots.f k a0 a1 = some r) :
    CV Tryz.prog 11 [.slice Aa0 a0.length ca0, .slice Aa1 a1.length ca1].toArray w fun v w' => v = .bool r ∧ Ext w w' := by
  have hS := (((St.init w no).param cSpot Aa0 ca0 a0 hr0 hc0).param cSpot Aa1 ca1 a1 hr1 hc1)
  unfold spec_SameSpots.f at H
  refine CV.body Tryz.func11 rfl Tryz.ntmps11 rfl ?_
  refine CJ.seq ?_
  refine CJ.region ?_
  refine OJ.pures tU_ok 1 rfl ?_
  refine OJ.nil (EJ.next ?_)
  refine CJ.seq ?_
  refine CJ.seq ?_
  refine CJ.region ?_
  refine OJ.pures tU_ok 5 rfl ?_
  refine OJ.nil (EJ.next ?_)
  refine CJ.cond rfl (fun hb => ?_) (fun hb => ?_)
  · replace H := pif_t (of_decide_eq_true hb) H
    refine CJ.seq ?_
    refine CJ.region ?_
    refine OJ.pures tU_ok 1 rfl ?_
    refine OJ.nil (EJ.next ?_)
    refine CJ.ret (EJ.skR (?_))
    obtain rfl := Option.some.inj H
    exact EJ.fin rfl (.tmp rfl .nil) ⟨rfl, hS.ext⟩
  replace H := pif_f (of_decide_eq_false hb) H
  refine CJ.skip (EJ.next ?_)
  refine CJ.seq ?_
  refine CJ.seq ?_
  refine CJ.region ?_
  refine OJ.pures tU_ok 1 rfl ?_
  refine OJ.nil (EJ.next ?_)
  obtain ⟨j2295, H, K2295⟩ := pbind H
  refine CJ.cut1 (fun F w1 => (some (Sum.inr ()) : Option (Bool ⊕ Unit)) = some j2295 ∧ F = [] ∧ St w no w1 [] [roC cSpot Aa0 ca0 a0, roC cSpot Aa1 ca1 a1]) ?_ ?_
  · skip
    refine CJ.block ?_
    refine CJ.loop (fun k F w1 => ∃ (y1 : Int), F = [(0, .slice Aa0 a0.length ca0), (1, .slice Aa1 a1.length ca1), (5, .int .i64 y1)] ∧ St w no w1 [] [roC cSpot Aa0 ca0 a0, roC cSpot Aa1 ca1 a1] ∧ spec_SameSpots.l1 a0 a1 k y1 = some j2295) k (F' := [(0, .slice Aa0 a0.length ca0), (1, .slice Aa1 a1.length ca1), (5, .int .i64 0)]) ⟨rfl, rfl, rfl, trivial⟩ ⟨0, rfl, hS.pick [] [0, 1] rfl, H⟩ ?_
    rintro k F w1 ⟨y1, rfl, hS, H⟩
    cases k with
    | zero => rw [spec_SameSpots.l1] at H; cases H
    | succ k =>
      rw [spec_SameSpots.l1] at H
      refine CJ.seq ?_
      refine CJ.seq ?_
      refine CJ.region ?_
      refine OJ.pures tU_ok 4 rfl ?_
      refine OJ.nil (EJ.next ?_)
      refine CJ.cond rfl (fun hb => ?_) (fun hb => ?_)
      · replace H := pif_t (of_decide_eq_true hb) H
        refine CJ.skip (EJ.next ?_)
        refine CJ.seq ?_
        refine CJ.block ?_
        refine CJ.seq ?_
        refine CJ.draw [] [0, 1, 2, 3, 4, 5, 6, 7, 8] mixed (by kernel_rfl) hS fun w1 hS => ?_
        refine DJ.pures tU_ok 2 rfl ?_
        obtain ⟨t2, ht2, H⟩ := pbind H
        obtain ⟨ad2, e2⟩ := (hS.rd' (i := 0) rfl).some' ht2
        refine DJ.st rfl rfl rfl rfl rfl (SR.idxS tU_ok tI_ok rfl rfl rfl rfl e2 rfl (getI_some ht2).1) ?_
        refine DJ.st rfl rfl rfl rfl rfl (SR.load rfl rfl (fun w' hx => ldE tU_ok tI_ok rfl rfl rfl (CA.ext ((hS.rd' (i := 0) rfl).at_ e2 ht2) hx) rfl)) ?_
        refine DJ.pures tU_ok 2 rfl ?_
        obtain ⟨t3, ht3, H⟩ := pbind H
        obtain ⟨ad3, e3⟩ := (hS.rd' (i := 1) rfl).some' ht3
        refine DJ.st rfl rfl rfl rfl rfl (SR.idxS tU_ok tI_ok rfl rfl rfl rfl e3 rfl (getI_some ht3).1) ?_
        refine DJ.st rfl rfl rfl rfl rfl (SR.load rfl rfl (fun w' hx => ldE tU_ok tI_ok rfl rfl rfl (CA.ext ((hS.rd' (i := 1) rfl).at_ e3 ht3) hx) rfl)) ?_
        refine DJ.st rfl rfl rfl rfl rfl (SR.neS eqT34 eqG34 rfl rfl rfl (rfl : _ = (cSpot.enc t2).toArray) (rfl : _ = (cSpot.enc t3).toArray)) ?_
        refine DJ.nil (EJ.next ?_)
        refine CJ.cond rfl (fun hb => ?_) (fun hb => ?_)
        · replace H := pif_t (of_decide_eq_true hb) H
          refine CJ.seq ?_
          refine CJ.region ?_
          refine OJ.pures tU_ok 1 rfl ?_
          refine OJ.nil (EJ.next ?_)
          refine CJ.ret (EJ.bkR (EJ.skR (EJ.skR (EJ.bkR (EJ.skR (EJ.skR (?_)))))))
          obtain rfl := Option.some.inj H; have H := K2295
          obtain rfl := Option.some.inj H
          exact EJ.fin rfl (.tmp rfl .nil) ⟨rfl, hS.ext⟩
        · replace H := pif_f (of_decide_eq_false hb) H
          refine CJ.skip (EJ.blk (EJ.next ?_))
          refine CJ.region ?_
          refine OJ.pures tU_ok 3 rfl ?_
          refine OJ.nil ?_
          exact EJ.round k (F' := [(0, .slice Aa0 a0.length ca0), (1, .slice Aa1 a1.length ca1), (5, .int .i64 (IntKind.i64.wrap (y1 + 1)))]) ⟨rfl, rfl, rfl, trivial⟩ (Nat.lt_succ_self _) ⟨(IntKind.i64.wrap (y1 + 1)), rfl, hS.pick [] [0, 1] rfl, H⟩
      · replace H := pif_f (of_decide_eq_false hb) H
        refine CJ.exit (EJ.skE (EJ.skE (EJ.hit (?_))))
        exact EJ.meet (F' := []) trivial ⟨H, rfl, hS.pick [] [0, 1] rfl⟩
  rintro F w1 ⟨he, rfl, hS⟩
  obtain rfl := Option.some.inj he
  have H := K2295
  refine EJ.next ?_
  refine CJ.seq ?_
  refine CJ.region ?_
  refine OJ.pures tU_ok 1 rfl ?_
  refine OJ.nil (EJ.next ?_)
  refine CJ.ret (?_)
  obtain rfl := Option.some.inj H
  exact EJ.fin rfl (.tmp rfl .nil) ⟨rfl, hS.ext⟩

def impl_Pasture_put.f (a0 : Pasture) (a1 : Hurdle) (a2 : Bool) : Option Pasture := if a1.South = true then ((getI a0.South.l a1.At.Y).bind fun t2 => (chk (0 ≤ a1.At.X)).bind fun u3 => (getI a0.South.l a1.At.Y).bind fun t4 => if a2 = true then ((getI (aset a0.South a1.At.Y.toNat (andNotI .u16 t2 (shlI .u16 1 a1.At.X))).l a1.At.Y).bind fun t5 => (chk (0 ≤ a1.At.X)).bind fun u6 => (getI (aset a0.South a1.At.Y.toNat (andNotI .u16 t2 (shlI .u16 1 a1.At.X))).l a1.At.Y).bind fun t7 => some (⟨a0.Wide, a0.High, a0.Grass, a0.East, (aset (aset a0.South a1.At.Y.toNat (andNotI .u16 t2 (shlI .u16 1 a1.At.X))) a1.At.Y.toNat (orI .u16 t5 (shlI .u16 1 a1.At.X)))⟩ : Pasture)) else (some (⟨a0.Wide, a0.High, a0.Grass, a0.East, (aset a0.South a1.At.Y.toNat (andNotI .u16 t2 (shlI .u16 1 a1.At.X)))⟩ : Pasture))) else ((getI a0.East.l a1.At.Y).bind fun t8 => (chk (0 ≤ a1.At.X)).bind fun u9 => (getI a0.East.l a1.At.Y).bind fun t10 => if a2 = true then ((getI (aset a0.East a1.At.Y.toNat (andNotI .u16 t8 (shlI .u16 1 a1.At.X))).l a1.At.Y).bind fun t11 => (chk (0 ≤ a1.At.X)).bind fun u12 => (getI (aset a0.East a1.At.Y.toNat (andNotI .u16 t8 (shlI .u16 1 a1.At.X))).l a1.At.Y).bind fun t13 => some (⟨a0.Wide, a0.High, a0.Grass, (aset (aset a0.East a1.At.Y.toNat (andNotI .u16 t8 (shlI .u16 1 a1.At.X))) a1.At.Y.toNat (orI .u16 t11 (shlI .u16 1 a1.At.X))), a0.South⟩ : Pasture)) else (some (⟨a0.Wide, a0.High, a0.Grass, (aset a0.East a1.At.Y.toNat (andNotI .u16 t8 (shlI .u16 1 a1.At.X))), a0.South⟩ : Pasture)))
theorem impl_Pasture_put.c (w : World) (ba0 : Nat) (a0 : Pasture) (a1 : Hurdle) (a2 : Bool) (hin : St w (fpU [box ba0 (cPasture.enc a0) 31]) w [box ba0 (cPasture.enc a0) 31] []) (r : Pasture) (H : impl_Pasture_put.f a0 a1 a2 = some r) :
    CV Tryz.prog 64 [.pointer (some ⟨ba0, 0, none⟩), .agg (cHurdle.enc a1).toArray, .bool a2].toArray w fun v w' => v = .tuple #[] ∧ St w (fpU [box ba0 (cPasture.enc a0) 31]) w' [box ba0 (cPasture.enc r) 31] [] := by
  have hS := hin
  unfold impl_Pasture_put.f at H
  refine CV.body Tryz.func64 rfl Tryz.ntmps64 rfl ?_
  refine CJ.seq ?_
  refine CJ.region ?_
  refine OJ.ef rfl rfl rfl (Ef.box hS rfl rfl (cHurdle.enc a1) rfl) ?_
  rintro _ w1 ⟨b1, rfl, hS⟩
  refine OJ.nil (EJ.next ?_)
  refine CJ.seq ?_
  refine CJ.region ?_
  refine OJ.pures tU_ok 2 rfl ?_
  refine OJ.st rfl rfl rfl (SR.fieldAddr tU_ok tI_ok rfl rfl rfl rfl rfl rfl) ?_
  refine OJ.pures tU_ok 1 rfl ?_
  refine OJ.nil (EJ.next ?_)
  refine CJ.seq ?_
  refine CJ.seq ?_
  refine CJ.region ?_
  refine OJ.st rfl rfl rfl (SR.fieldAddr tU_ok tI_ok rfl rfl rfl rfl rfl rfl) ?_
  refine OJ.st rfl rfl rfl (SR.load rfl rfl (fun w' hx => ld1 tU_ok rfl rfl (CA.ext (CA.sub (hS.cells (i := 1) rfl) 2) hx) rfl)) ?_
  refine OJ.nil (EJ.next ?_)
  refine CJ.cond rfl (fun hb => ?_) (fun hb => ?_)
  · replace H := pif_t hb H
    refine CJ.region ?_
    refine OJ.pures tU_ok 2 rfl ?_
    refine OJ.st rfl rfl rfl (SR.fieldAddr tU_ok tI_ok rfl rfl rfl rfl rfl rfl) ?_
    refine OJ.pures tU_ok 1 rfl ?_
    refine OJ.nil (EJ.next ?_)
    refine CJ.seq ?_
    refine CJ.draw [] [0, 1, 2, 3, 4, 5, 6, 7, 8, 9, 10, 11, 12, 13, 14] mixed (by kernel_rfl) hS fun w1 hS => ?_
    refine DJ.pures tU_ok 1 rfl ?_
    refine DJ.st rfl rfl rfl rfl rfl (SR.fieldAddr tU_ok tI_ok rfl rfl rfl rfl rfl rfl) ?_
    refine DJ.st rfl rfl rfl rfl rfl (SR.fieldAddr tU_ok tI_ok rfl rfl rfl rfl rfl rfl) ?_
    refine DJ.st rfl rfl rfl rfl rfl (SR.load rfl rfl (fun w' hx => ld1 tU_ok rfl rfl (CA.ext (CA.sub (CA.sub (hS.cells (i := 1) rfl) 0) 1) hx) rfl)) ?_
    refine DJ.pures tU_ok 1 rfl ?_
    obtain ⟨t2, ht2, H⟩ := pbind H
    refine DJ.st rfl rfl rfl rfl rfl (SR.idxA tU_ok tI_ok rfl rfl rfl rfl rfl (Arr.lt ht2)) ?_
    refine DJ.st rfl rfl rfl rfl rfl (SR.load rfl rfl (fun w' hx => ld1 tU_ok rfl rfl (CA.ext (CA.idx (CA.fld (hS.cells (i := 0) rfl) (mid_part (fe_Pasture_4 _) (fl_Pasture_4 _) ((carr 10 (ci .u16)).len _))) ht2) hx) rfl)) ?_
    refine DJ.st rfl rfl rfl rfl rfl (SR.fieldAddr tU_ok tI_ok rfl rfl rfl rfl rfl rfl) ?_
    refine DJ.st rfl rfl rfl rfl rfl (SR.fieldAddr tU_ok tI_ok rfl rfl rfl rfl rfl rfl) ?_
    refine DJ.st rfl rfl rfl rfl rfl (SR.load rfl rfl (fun w' hx => ld1 tU_ok rfl rfl (CA.ext (CA.sub (CA.sub (hS.cells (i := 1) rfl) 0) 0) hx) rfl)) ?_
    obtain ⟨u3, hu3, H⟩ := pbind H
    refine DJ.st rfl rfl rfl rfl rfl (SR.shl rfl rfl rfl (chk_some hu3)) ?_
    refine DJ.pures tU_ok 2 rfl ?_
    obtain ⟨t4, ht4, H⟩ := pbind H
    refine DJ.st rfl rfl rfl rfl rfl (SR.idxA tU_ok tI_ok rfl rfl rfl rfl rfl (Arr.lt ht4)) ?_
    refine DJ.es rfl rfl rfl rfl (Es.put tI_ok hS (i := 0) rfl rfl rfl rfl rfl (vs := (ci .u16).enc (andNotI .u16 t2 (shlI .u16 1 a1.At.X))) rfl rfl (one1 rfl) (put_Pasture_4 (Put.idx (Put.all (ci .u16) t4 (andNotI .u16 t2 (shlI .u16 1 a1.At.X))) ht4)) (by (try simp only [add_lit, Nat.add_assoc, Nat.zero_add, Nat.add_zero]) <;> rfl)) ?_
    intro w1 hS
    refine DJ.nil (EJ.next ?_)
    refine CJ.seq ?_
    refine CJ.region ?_
    refine OJ.pures tU_ok 1 rfl ?_
    refine OJ.nil (EJ.next ?_)
    refine CJ.cond rfl (fun hb => ?_) (fun hb => ?_)
    · replace H := pif_t hb H
      refine CJ.draw [] [0, 1, 2, 3, 4, 5, 6, 7, 8, 9, 10, 11, 12, 13, 14] mixed (by kernel_rfl) hS fun w1 hS => ?_
      refine DJ.pures tU_ok 1 rfl ?_
      refine DJ.st rfl rfl rfl rfl rfl (SR.fieldAddr tU_ok tI_ok rfl rfl rfl rfl rfl rfl) ?_
      refine DJ.st rfl rfl rfl rfl rfl (SR.fieldAddr tU_ok tI_ok rfl rfl rfl rfl rfl rfl) ?_
      refine DJ.st rfl rfl rfl rfl rfl (SR.load rfl rfl (fun w' hx => ld1 tU_ok rfl rfl (CA.ext (CA.sub (CA.sub (hS.cells (i := 1) rfl) 0) 1) hx) rfl)) ?_
      refine DJ.pures tU_ok 1 rfl ?_
      obtain ⟨t5, ht5, H⟩ := pbind H
      refine DJ.st rfl rfl rfl rfl rfl (SR.idxA tU_ok tI_ok rfl rfl rfl rfl rfl (Arr.lt ht5)) ?_
      refine DJ.st rfl rfl rfl rfl rfl (SR.load rfl rfl (fun w' hx => ld1 tU_ok rfl rfl (CA.ext (CA.idx (CA.fld (hS.cells (i := 0) rfl) (mid_part (fe_Pasture_4 _) (fl_Pasture_4 _) ((carr 10 (ci .u16)).len _))) ht5) hx) rfl)) ?_
      refine DJ.st rfl rfl rfl rfl rfl (SR.fieldAddr tU_ok tI_ok rfl rfl rfl rfl rfl rfl) ?_
      refine DJ.st rfl rfl rfl rfl rfl (SR.fieldAddr tU_ok tI_ok rfl rfl rfl rfl rfl rfl) ?_
      refine DJ.st rfl rfl rfl rfl rfl (SR.load rfl rfl (fun w' hx => ld1 tU_ok rfl rfl (CA.ext (CA.sub (CA.sub (hS.cells (i := 1) rfl) 0) 0) hx) rfl)) ?_
      obtain ⟨u6, hu6, H⟩ := pbind H
      refine DJ.st rfl rfl rfl rfl rfl (SR.shl rfl rfl rfl (chk_some hu6)) ?_
      refine DJ.pures tU_ok 2 rfl ?_
      obtain ⟨t7, ht7, H⟩ := pbind H
      refine DJ.st rfl rfl rfl rfl rfl (SR.idxA tU_ok tI_ok rfl rfl rfl rfl rfl (Arr.lt ht7)) ?_
      refine DJ.es rfl rfl rfl rfl (Es.put tI_ok hS (i := 0) rfl rfl rfl rfl rfl (vs := (ci .u16).enc (orI .u16 t5 (shlI .u16 1 a1.At.X))) rfl rfl (one1 rfl) (put_Pasture_4 (Put.idx (Put.all (ci .u16) t7 (orI .u16 t5 (shlI .u16 1 a1.At.X))) ht7)) (by (try simp only [add_lit, Nat.add_assoc, Nat.zero_add, Nat.add_zero]) <;> rfl)) ?_
      intro w1 hS
      refine DJ.nil ?_
      obtain rfl := Option.some.inj H
      exact EJ.fin' rfl .nil ⟨rfl, hS.pick [0] [] rfl⟩
    replace H := pifb_f hb H
    refine CJ.skip (?_)
    obtain rfl := Option.some.inj H
    exact EJ.fin' rfl .nil ⟨rfl, hS.pick [0] [] rfl⟩
  replace H := pifb_f hb H
  refine CJ.skip (EJ.next ?_)
  refine CJ.seq ?_
  refine CJ.draw [] [0, 1, 2, 3, 4, 5, 6, 7, 8, 9, 10, 11, 12, 13, 14] mixed (by kernel_rfl) hS fun w1 hS => ?_
  refine DJ.pures tU_ok 1 rfl ?_
  refine DJ.st rfl rfl rfl rfl rfl (SR.fieldAddr tU_ok tI_ok rfl rfl rfl rfl rfl rfl) ?_
  refine DJ.st rfl rfl rfl rfl rfl (SR.fieldAddr tU_ok tI_ok rfl rfl rfl rfl rfl rfl) ?_
  refine DJ.st rfl rfl rfl rfl rfl (SR.load rfl rfl (fun w' hx => ld1 tU_ok rfl rfl (CA.ext (CA.sub (CA.sub (hS.cells (i := 1) rfl) 0) 1) hx) rfl)) ?_
  refine DJ.pures tU_ok 1 rfl ?_
  obtain ⟨t8, ht8, H⟩ := pbind H
  refine DJ.st rfl rfl rfl rfl rfl (SR.idxA tU_ok tI_ok rfl rfl rfl rfl rfl (Arr.lt ht8)) ?_
  refine DJ.st rfl rfl rfl rfl rfl (SR.load rfl rfl (fun w' hx => ld1 tU_ok rfl rfl (CA.ext (CA.idx (CA.fld (hS.cells (i := 0) rfl) (mid_part (fe_Pasture_3 _) (fl_Pasture_3 _) ((carr 10 (ci .u16)).len _))) ht8) hx) rfl)) ?_
  refine DJ.st rfl rfl rfl rfl rfl (SR.fieldAddr tU_ok tI_ok rfl rfl rfl rfl rfl rfl) ?_
  refine DJ.st rfl rfl rfl rfl rfl (SR.fieldAddr tU_ok tI_ok rfl rfl rfl rfl rfl rfl) ?_
  refine DJ.st rfl rfl rfl rfl rfl (SR.load rfl rfl (fun w' hx => ld1 tU_ok rfl rfl (CA.ext (CA.sub (CA.sub (hS.cells (i := 1) rfl) 0) 0) hx) rfl)) ?_
  obtain ⟨u9, hu9, H⟩ := pbind H
  refine DJ.st rfl rfl rfl rfl rfl (SR.shl rfl rfl rfl (chk_some hu9)) ?_
  refine DJ.pures tU_ok 2 rfl ?_
  obtain ⟨t10, ht10, H⟩ := pbind H
  refine DJ.st rfl rfl rfl rfl rfl (SR.idxA tU_ok tI_ok rfl rfl rfl rfl rfl (Arr.lt ht10)) ?_
  refine DJ.es rfl rfl rfl rfl (Es.put tI_ok hS (i := 0) rfl rfl rfl rfl rfl (vs := (ci .u16).enc (andNotI .u16 t8 (shlI .u16 1 a1.At.X))) rfl rfl (one1 rfl) (put_Pasture_3 (Put.idx (Put.all (ci .u16) t10 (andNotI .u16 t8 (shlI .u16 1 a1.At.X))) ht10)) (by (try simp only [add_lit, Nat.add_assoc, Nat.zero_add, Nat.add_zero]) <;> rfl)) ?_
  intro w1 hS
  refine DJ.nil (EJ.next ?_)
  refine CJ.seq ?_
  refine CJ.region ?_
  refine OJ.pures tU_ok 1 rfl ?_
  refine OJ.nil (EJ.next ?_)
  refine CJ.cond rfl (fun hb => ?_) (fun hb => ?_)
  · replace H := pif_t hb H
    refine CJ.draw [] [0, 1, 2, 3, 4, 5, 6, 7, 8, 9, 10, 11, 12, 13, 14] mixed (by kernel_rfl) hS fun w1 hS => ?_
    refine DJ.pures tU_ok 1 rfl ?_
    refine DJ.st rfl rfl rfl rfl rfl (SR.fieldAddr tU_ok tI_ok rfl rfl rfl rfl rfl rfl) ?_
    refine DJ.st rfl rfl rfl rfl rfl (SR.fieldAddr tU_ok tI_ok rfl rfl rfl rfl rfl rfl) ?_
    refine DJ.st rfl rfl rfl rfl rfl (SR.load rfl rfl (fun w' hx => ld1 tU_ok rfl rfl (CA.ext (CA.sub (CA.sub (hS.cells (i := 1) rfl) 0) 1) hx) rfl)) ?_
    refine DJ.pures tU_ok 1 rfl ?_
    obtain ⟨t11, ht11, H⟩ := pbind H
    refine DJ.st rfl rfl rfl rfl rfl (SR.idxA tU_ok tI_ok rfl rfl rfl rfl rfl (Arr.lt ht11)) ?_
    refine DJ.st rfl rfl rfl rfl rfl (SR.load rfl rfl (fun w' hx => ld1 tU_ok rfl rfl (CA.ext (CA.idx (CA.fld (hS.cells (i := 0) rfl) (mid_part (fe_Pasture_3 _) (fl_Pasture_3 _) ((carr 10 (ci .u16)).len _))) ht11) hx) rfl)) ?_
    refine DJ.st rfl rfl rfl rfl rfl (SR.fieldAddr tU_ok tI_ok rfl rfl rfl rfl rfl rfl) ?_
    refine DJ.st rfl rfl rfl rfl rfl (SR.fieldAddr tU_ok tI_ok rfl rfl rfl rfl rfl rfl) ?_
    refine DJ.st rfl rfl rfl rfl rfl (SR.load rfl rfl (fun w' hx => ld1 tU_ok rfl rfl (CA.ext (CA.sub (CA.sub (hS.cells (i := 1) rfl) 0) 0) hx) rfl)) ?_
    obtain ⟨u12, hu12, H⟩ := pbind H
    refine DJ.st rfl rfl rfl rfl rfl (SR.shl rfl rfl rfl (chk_some hu12)) ?_
    refine DJ.pures tU_ok 2 rfl ?_
    obtain ⟨t13, ht13, H⟩ := pbind H
    refine DJ.st rfl rfl rfl rfl rfl (SR.idxA tU_ok tI_ok rfl rfl rfl rfl rfl (Arr.lt ht13)) ?_
    refine DJ.es rfl rfl rfl rfl (Es.put tI_ok hS (i := 0) rfl rfl rfl rfl rfl (vs := (ci .u16).enc (orI .u16 t11 (shlI .u16 1 a1.At.X))) rfl rfl (one1 rfl) (put_Pasture_3 (Put.idx (Put.all (ci .u16) t13 (orI .u16 t11 (shlI .u16 1 a1.At.X))) ht13)) (by (try simp only [add_lit, Nat.add_assoc, Nat.zero_add, Nat.add_zero]) <;> rfl)) ?_
    intro w1 hS
    refine DJ.nil ?_
    obtain rfl := Option.some.inj H
    exact EJ.fin' rfl .nil ⟨rfl, hS.pick [0] [] rfl⟩
  replace H := pifb_f hb H
  refine CJ.skip (?_)
  obtain rfl := Option.some.inj H
  exact EJ.fin' rfl .nil ⟨rfl, hS.pick [0] [] rfl⟩

def impl_Pasture_with.l1 (a1 : List Hurdle) (a2 : Bool) : Nat → Pasture → Int → Option Pasture
  | 0, _, _ => none
  | k + 1, y4, y5 => if y5 < (a1.length : Int) then ((getI a1 y5).bind fun t6 => (impl_Pasture_put.f y4 t6 a2).bind fun t8 => impl_Pasture_with.l1 a1 a2 k t8 (IntKind.i64.wrap (y5 + 1))) else (some y4)
def impl_Pasture_with.f (k : Nat) (a0 : Pasture) (a1 : List Hurdle) (a2 : Bool) : Option Pasture := (impl_Pasture_with.l1 a1 a2 k a0 0).bind fun y3 => some y3
theorem impl_Pasture_with.c (k : Nat) (w : World) (a0 : Pasture) (Aa1 : Option Addr) (ca1 : Nat) (a1 : List Hurdle) (hr1 : Rd cHurdle w Aa1 a1) (hc1 : a1.length ≤ ca1) (a2 : Bool) (r : Pasture) (H : impl_Pasture_with.f k a0 a1 a2 = some r) :
    CV Tryz.prog 33 [.agg (cPasture.enc a0).toArray, .slice Aa1 a1.length ca1, .bool a2].toArray w fun v w' => v = .agg (cPasture.enc r).toArray ∧ Ext w w' := by
  have hS := ((St.init w no).param cHurdle Aa1 ca1 a1 hr1 hc1)
  unfold impl_Pasture_with.f at H
  refine CV.body Tryz.func33 rfl Tryz.ntmps33 rfl ?_
  refine CJ.seq ?_
  refine CJ.region ?_
  refine OJ.ef rfl rfl rfl (Ef.box hS rfl rfl (cPasture.enc a0) rfl) ?_
  rintro _ w1 ⟨b1, rfl, hS⟩
  refine OJ.ef rfl rfl rfl (Ef.alloc hS tI_ok rfl rfl (cPasture.enc (⟨0, 0, (Arr.mk' (Arr.mk' 0 : Arr 10 Int) : Arr 10 (Arr 10 Int)), (Arr.mk' 0 : Arr 10 Int), (Arr.mk' 0 : Arr 10 Int)⟩ : Pasture)) (by kernel_rfl)) ?_
  rintro _ w1 ⟨b2, rfl, hS⟩
  refine OJ.nil (EJ.next ?_)
  refine CJ.seq ?_
  refine CJ.seq ?_
  refine CJ.region ?_
  refine OJ.pures tU_ok 3 rfl ?_
  refine OJ.nil (EJ.next ?_)
  obtain ⟨j2296, H, K2296⟩ := pbind H
  refine CJ.cut1 (fun F w1 => ∃ (y3 : Pasture) , (some y3 : Option Pasture) = some j2296 ∧ F = [(3, .pointer (some ⟨b1, 0, none⟩)), (6, .pointer (some ⟨b2, 0, none⟩))] ∧ St w no w1 [box b1 (cPasture.enc y3) 31, box b2 (cPasture.enc (⟨0, 0, (Arr.mk' (Arr.mk' 0 : Arr 10 Int) : Arr 10 (Arr 10 Int)), (Arr.mk' 0 : Arr 10 Int), (Arr.mk' 0 : Arr 10 Int)⟩ : Pasture)) 31] [roC cHurdle Aa1 ca1 a1]) ?_ ?_
  · skip
    refine CJ.block ?_
    refine CJ.loop (fun k F w1 => ∃ (y4 : Pasture) (y5 : Int), F = [(2, .bool a2), (3, .pointer (some ⟨b1, 0, none⟩)), (6, .pointer (some ⟨b2, 0, none⟩)), (9, .slice Aa1 a1.length ca1), (10, .int .i64 (a1.length : Int)), (11, .int .i64 y5)] ∧ St w no w1 [box b1 (cPasture.enc y4) 31, box b2 (cPasture.enc (⟨0, 0, (Arr.mk' (Arr.mk' 0 : Arr 10 Int) : Arr 10 (Arr 10 Int)), (Arr.mk' 0 : Arr 10 Int), (Arr.mk' 0 : Arr 10 Int)⟩ : Pasture)) 31] [roC cHurdle Aa1 ca1 a1] ∧ impl_Pasture_with.l1 a1 a2 k y4 y5 = some j2296) k (F' := [(2, .bool a2), (3, .pointer (some ⟨b1, 0, none⟩)), (6, .pointer (some ⟨b2, 0, none⟩)), (9, .slice Aa1 a1.length ca1), (10, .int .i64 (a1.length : Int)), (11, .int .i64 0)]) ⟨rfl, rfl, rfl, rfl, rfl, rfl, trivial⟩ ⟨a0, 0, rfl, hS.pick [0, 1] [0] rfl, H⟩ ?_
    rintro k F w1 ⟨y4, y5, rfl, hS, H⟩
    cases k with
    | zero => rw [impl_Pasture_with.l1] at H; cases H
    | succ k =>
      rw [impl_Pasture_with.l1] at H
      refine CJ.seq ?_
      refine CJ.region ?_
      refine OJ.pures tU_ok 1 rfl ?_
      refine OJ.nil (EJ.next ?_)
      refine CJ.seq ?_
      refine CJ.cond rfl (fun hb => ?_) (fun hb => ?_)
      · replace H := pif_t (of_decide_eq_true hb) H
        refine CJ.skip (EJ.next ?_)
        refine CJ.seq ?_
        refine CJ.block ?_
        refine CJ.seq ?_
        refine CJ.region ?_
        obtain ⟨t6, ht6, H⟩ := pbind H
        obtain ⟨ad6, e6⟩ := (hS.rd' (i := 0) rfl).some' ht6
        refine OJ.st rfl rfl rfl (SR.idxS tU_ok tI_ok rfl rfl rfl rfl e6 rfl (getI_some ht6).1) ?_
        refine OJ.st rfl rfl rfl (SR.load rfl rfl (fun w' hx => ldE tU_ok tI_ok rfl rfl rfl (CA.ext ((hS.rd' (i := 0) rfl).at_ e6 ht6) hx) rfl)) ?_
        refine OJ.ef rfl rfl rfl (Ef.alloc hS tI_ok rfl rfl (cHurdle.enc (⟨(⟨0, 0⟩ : Spot), false⟩ : Hurdle)) rfl) ?_
        rintro _ w1 ⟨b7, rfl, hS⟩
        refine OJ.es rfl rfl (Es.store tI_ok hS (i := 2) rfl rfl rfl rfl rfl rfl (vs := cHurdle.enc t6) rfl (cHurdle.len _) (cHurdle.one _) (Nat.le_of_ble_eq_true rfl) (cHurdle.enc t6) rfl) ?_
        intro w1 hS
        refine OJ.nil (EJ.next ?_)
        refine CJ.region ?_
        refine OJ.st rfl rfl rfl (SR.load rfl rfl (fun w' hx => ldE tU_ok tI_ok rfl rfl rfl (CA.ext (hS.cells (i := 2) rfl) hx) rfl)) ?_
        refine OJ.pures tU_ok 1 rfl ?_
        obtain ⟨t8, ht8, H⟩ := pbind H
        refine OJ.callF rfl rfl rfl rfl rfl hb64 rfl (impl_Pasture_put.c _ b1 y4 t6 a2 ((hS.subs [0] [] [] rfl).pick [0] [] rfl) _ ht8) ?_
        rintro _ w1 ⟨rfl, hs⟩
        replace hS := hS.back [0] rfl rfl [box b1 (cPasture.enc t8) 31] [] hs ⟨fun _ => Iff.rfl, trivial⟩
        refine OJ.nil (EJ.blk (EJ.next ?_))
        refine CJ.region ?_
        refine OJ.pures tU_ok 2 rfl ?_
        refine OJ.nil ?_
        exact EJ.round k (F' := [(2, .bool a2), (3, .pointer (some ⟨b1, 0, none⟩)), (6, .pointer (some ⟨b2, 0, none⟩)), (9, .slice Aa1 a1.length ca1), (10, .int .i64 (a1.length : Int)), (11, .int .i64 (IntKind.i64.wrap (y5 + 1)))]) ⟨rfl, rfl, rfl, rfl, rfl, rfl, trivial⟩ (Nat.lt_succ_self _) ⟨t8, (IntKind.i64.wrap (y5 + 1)), rfl, hS.pick [0, 1] [0] rfl, H⟩
      · replace H := pif_f (of_decide_eq_false hb) H
        refine CJ.exit (EJ.skE (EJ.skE (EJ.hit (?_))))
        exact EJ.meet (F' := [(3, .pointer (some ⟨b1, 0, none⟩)), (6, .pointer (some ⟨b2, 0, none⟩))]) ⟨rfl, rfl, trivial⟩ ⟨y4, H, rfl, hS.pick [0, 1] [0] rfl⟩
  rintro F w1 ⟨y3, he, rfl, hS⟩
  obtain rfl := Option.some.inj he
  have H := K2296
  refine EJ.next ?_
  refine CJ.seq ?_
  refine CJ.region ?_
  refine OJ.st rfl rfl rfl (SR.load rfl rfl (fun w' hx => ldE tU_ok tI_ok rfl rfl rfl (CA.ext (hS.cells (i := 0) rfl) hx) rfl)) ?_
  refine OJ.es rfl rfl (Es.put tI_ok hS (i := 1) rfl rfl rfl rfl rfl (vs := cPasture.enc y3) rfl (cPasture.len _) (cPasture.one _) (Put.all cPasture (⟨0, 0, (Arr.mk' (Arr.mk' 0 : Arr 10 Int) : Arr 10 (Arr 10 Int)), (Arr.mk' 0 : Arr 10 Int), (Arr.mk' 0 : Arr 10 Int)⟩ : Pasture) y3) (by (try simp only [add_lit, Nat.add_assoc, Nat.zero_add, Nat.add_zero]) <;> rfl)) ?_
  intro w1 hS
  refine OJ.nil (EJ.next ?_)
  refine CJ.ret (?_)
  obtain rfl := Option.some.inj H
  exact EJ.fin rfl (.cell rfl (ldE tU_ok tI_ok rfl rfl rfl (hS.cells (i := 1) rfl) rfl) .nil) ⟨rfl, hS.ext⟩

def impl_size_impl_Hurdle.f (a0 : List Hurdle) : Option Int := some (a0.length : Int)
theorem impl_size_impl_Hurdle.c (w : World) (Aa0 : Option Addr) (ca0 : Nat) (a0 : List Hurdle) (hr0 : Rd cHurdle w Aa0 a0) (hc0 : a0.length ≤ ca0) (r : Int) (H : impl_size_impl_Hurdle.f a0 = some r) :
    CV Tryz.prog 34 [.slice Aa0 a0.length ca0].toArray w fun v w' => v = .int .i64 r ∧ Ext w w' := by
  have hS := ((St.init w no).param cHurdle Aa0 ca0 a0 hr0 hc0)
  unfold impl_size_impl_Hurdle.f at H
  refine CV.body Tryz.func34 rfl Tryz.ntmps34 rfl ?_
  refine CJ.seq ?_
  refine CJ.region ?_
  refine OJ.pures tU_ok 1 rfl ?_
  refine OJ.nil (EJ.next ?_)
  refine CJ.seq ?_
  refine CJ.region ?_
  refine OJ.pures tU_ok 3 rfl ?_
  refine OJ.nil (EJ.next ?_)
  refine CJ.ret (?_)
  obtain rfl := Option.some.inj H
  exact EJ.fin rfl (.tmp rfl .nil) ⟨rfl, hS.ext⟩

def impl_EncloseCells.f (k : Nat) (a0 : Pasture) (a1 : List Spot) : Option (Pasture × Int × Int) := (impl_cellCode.f k a0 a1).bind fun t3 => if t3 ≠ 0 then (some ((⟨0, 0, (Arr.mk' (Arr.mk' 0 : Arr 10 Int) : Arr 10 (Arr 10 Int)), (Arr.mk' 0 : Arr 10 Int), (Arr.mk' 0 : Arr 10 Int)⟩ : Pasture), 0, t3)) else ((impl_Pasture_openSides.f k a0 a1).bind fun t4 => (impl_Pasture_with.f k a0 t4 true).bind fun t7 => (impl_size_impl_Hurdle.f t4).bind fun t8 => some (t7, t8, 0))
theorem impl_EncloseCells.c (k : Nat) (w : World) (a0 : Pasture) (Aa1 : Option Addr) (ca1 : Nat) (a1 : List Spot) (hr1 : Rd cSpot w Aa1 a1) (hc1 : a1.length ≤ ca1) (r : Pasture × Int × Int) (H : impl_EncloseCells.f k a0 a1 = some r) :
    CV Tryz.prog 12 [.agg (cPasture.enc a0).toArray, .slice Aa1 a1.length ca1].toArray w fun v w' => v = .tuple #[.agg (cPasture.enc r.1).toArray, .int .i64 r.2.1, .int .i64 r.2.2] ∧ Ext w w' := by
  have hS := ((St.init w no).param cSpot Aa1 ca1 a1 hr1 hc1)
  unfold impl_EncloseCells.f at H
  refine CV.body Tryz.func12 rfl Tryz.ntmps12 rfl ?_
  refine CJ.seq ?_
  refine CJ.region ?_
  refine OJ.ef rfl rfl rfl (Ef.box hS rfl rfl (cPasture.enc a0) rfl) ?_
  rintro _ w1 ⟨b1, rfl, hS⟩
  refine OJ.ef rfl rfl rfl (Ef.alloc hS tI_ok rfl rfl (cPasture.enc (⟨0, 0, (Arr.mk' (Arr.mk' 0 : Arr 10 Int) : Arr 10 (Arr 10 Int)), (Arr.mk' 0 : Arr 10 Int), (Arr.mk' 0 : Arr 10 Int)⟩ : Pasture)) (by kernel_rfl)) ?_
  rintro _ w1 ⟨b2, rfl, hS⟩
  refine OJ.pures tU_ok 2 rfl ?_
  refine OJ.nil (EJ.next ?_)
  refine CJ.seq ?_
  refine CJ.seq ?_
  refine CJ.region ?_
  refine OJ.st rfl rfl rfl (SR.load rfl rfl (fun w' hx => ldE tU_ok tI_ok rfl rfl rfl (CA.ext (hS.cells (i := 0) rfl) hx) rfl)) ?_
  refine OJ.pures tU_ok 1 rfl ?_
  obtain ⟨t3, ht3, H⟩ := pbind H
  refine OJ.callF rfl rfl rfl rfl rfl hb20 rfl (impl_cellCode.c k _ a0 Aa1 ca1 a1 (hS.rd' (i := 0) rfl) (hS.le' (i := 0) rfl) _ ht3) ?_
  rintro _ w1 ⟨rfl, hs⟩
  replace hS := hS.grow hs
  refine OJ.pures tU_ok 1 rfl ?_
  refine OJ.nil (EJ.next ?_)
  refine CJ.seq ?_
  refine CJ.region ?_
  refine OJ.pures tU_ok 2 rfl ?_
  refine OJ.nil (EJ.next ?_)
  refine CJ.cond rfl (fun hb => ?_) (fun hb => ?_)
  · replace H := pif_t (of_decide_eq_true hb) H
    refine CJ.seq ?_
    refine CJ.region ?_
    refine OJ.st rfl rfl rfl (SR.build (C := cPasture) tU_ok tI_ok rfl rfl rfl (zs := [.int .i8 0, .int .i8 0, .int .i16 0, .int .i16 0, .int .i16 0, .int .i16 0, .int .i16 0, .int .i16 0, .int .i16 0, .int .i16 0, .int .i16 0, .int .i16 0, .int .i16 0, .int .i16 0, .int .i16 0, .int .i16 0, .int .i16 0, .int .i16 0, .int .i16 0, .int .i16 0, .int .i16 0, .int .i16 0, .int .i16 0, .int .i16 0, .int .i16 0, .int .i16 0, .int .i16 0, .int .i16 0, .int .i16 0, .int .i16 0, .int .i16 0, .int .i16 0, .int .i16 0, .int .i16 0, .int .i16 0, .int .i16 0, .int .i16 0, .int .i16 0, .int .i16 0, .int .i16 0, .int .i16 0, .int .i16 0, .int .i16 0, .int .i16 0, .int .i16 0, .int .i16 0, .int .i16 0, .int .i16 0, .int .i16 0, .int .i16 0, .int .i16 0, .int .i16 0, .int .i16 0, .int .i16 0, .int .i16 0, .int .i16 0, .int .i16 0, .int .i16 0, .int .i16 0, .int .i16 0, .int .i16 0, .int .i16 0, .int .i16 0, .int .i16 0, .int .i16 0, .int .i16 0, .int .i16 0, .int .i16 0, .int .i16 0, .int .i16 0, .int .i16 0, .int .i16 0, .int .i16 0, .int .i16 0, .int .i16 0, .int .i16 0, .int .i16 0, .int .i16 0, .int .i16 0, .int .i16 0, .int .i16 0, .int .i16 0, .int .i16 0, .int .i16 0, .int .i16 0, .int .i16 0, .int .i16 0, .int .i16 0, .int .i16 0, .int .i16 0, .int .i16 0, .int .i16 0, .int .i16 0, .int .i16 0, .int .i16 0, .int .i16 0, .int .i16 0, .int .i16 0, .int .i16 0, .int .i16 0, .int .i16 0, .int .i16 0, .int .u16 0, .int .u16 0, .int .u16 0, .int .u16 0, .int .u16 0, .int .u16 0, .int .u16 0, .int .u16 0, .int .u16 0, .int .u16 0, .int .u16 0, .int .u16 0, .int .u16 0, .int .u16 0, .int .u16 0, .int .u16 0, .int .u16 0, .int .u16 0, .int .u16 0, .int .u16 0]) rfl rfl rfl (⟨0, 0, (Arr.mk' (Arr.mk' 0 : Arr 10 Int) : Arr 10 (Arr 10 Int)), (Arr.mk' 0 : Arr 10 Int), (Arr.mk' 0 : Arr 10 Int)⟩ : Pasture) rfl) ?_
    refine OJ.pures tU_ok 1 rfl ?_
    refine OJ.es rfl rfl (Es.put tI_ok hS (i := 1) rfl rfl rfl rfl rfl (vs := cPasture.enc (⟨0, 0, (Arr.mk' (Arr.mk' 0 : Arr 10 Int) : Arr 10 (Arr 10 Int)), (Arr.mk' 0 : Arr 10 Int), (Arr.mk' 0 : Arr 10 Int)⟩ : Pasture)) rfl (cPasture.len _) (cPasture.one _) (Put.all cPasture (⟨0, 0, (Arr.mk' (Arr.mk' 0 : Arr 10 Int) : Arr 10 (Arr 10 Int)), (Arr.mk' 0 : Arr 10 Int), (Arr.mk' 0 : Arr 10 Int)⟩ : Pasture) (⟨0, 0, (Arr.mk' (Arr.mk' 0 : Arr 10 Int) : Arr 10 (Arr 10 Int)), (Arr.mk' 0 : Arr 10 Int), (Arr.mk' 0 : Arr 10 Int)⟩ : Pasture)) (by (try simp only [add_lit, Nat.add_assoc, Nat.zero_add, Nat.add_zero]) <;> rfl)) ?_
    intro w1 hS
    refine OJ.pures tU_ok 2 rfl ?_
    refine OJ.nil (EJ.next ?_)
    refine CJ.ret (EJ.skR (?_))
    obtain rfl := Option.some.inj H
    exact EJ.fin rfl (.cell rfl (ldE tU_ok tI_ok rfl rfl rfl (hS.cells (i := 1) rfl) rfl) (.tmp rfl (.tmp rfl .nil))) ⟨rfl, hS.ext⟩
  replace H := pif_f (of_decide_eq_false hb) H
  refine CJ.skip (EJ.next ?_)
  refine CJ.seq ?_
  refine CJ.region ?_
  refine OJ.st rfl rfl rfl (SR.load rfl rfl (fun w' hx => ldE tU_ok tI_ok rfl rfl rfl (CA.ext (hS.cells (i := 0) rfl) hx) rfl)) ?_
  refine OJ.pures tU_ok 1 rfl ?_
  obtain ⟨t4, ht4, H⟩ := pbind H
  refine OJ.callF rfl rfl rfl rfl rfl hb26 rfl (impl_Pasture_openSides.c k _ a0 Aa1 ca1 a1 (hS.rd' (i := 0) rfl) (hS.le' (i := 0) rfl) _ ht4) ?_
  rintro _ w1 ⟨A5, c6, rfl, hs⟩
  replace hS := hS.addN hs
  refine OJ.pures tU_ok 1 rfl ?_
  refine OJ.nil (EJ.next ?_)
  refine CJ.seq ?_
  refine CJ.region ?_
  refine OJ.st rfl rfl rfl (SR.load rfl rfl (fun w' hx => ldE tU_ok tI_ok rfl rfl rfl (CA.ext (hS.cells (i := 0) rfl) hx) rfl)) ?_
  refine OJ.pures tU_ok 1 rfl ?_
  obtain ⟨t7, ht7, H⟩ := pbind H
  refine OJ.callF rfl rfl rfl rfl rfl hb33 rfl (impl_Pasture_with.c k _ a0 A5 c6 t4 (hS.rd (i := 2) rfl) (hS.le (i := 2) rfl) true _ ht7) ?_
  rintro _ w1 ⟨rfl, hs⟩
  replace hS := hS.grow hs
  refine OJ.pures tU_ok 1 rfl ?_
  obtain ⟨t8, ht8, H⟩ := pbind H
  refine OJ.callF rfl rfl rfl rfl rfl hb34 rfl (impl_size_impl_Hurdle.c _ A5 c6 t4 (hS.rd (i := 2) rfl) (hS.le (i := 2) rfl) _ ht8) ?_
  rintro _ w1 ⟨rfl, hs⟩
  replace hS := hS.grow hs
  refine OJ.es rfl rfl (Es.put tI_ok hS (i := 1) rfl rfl rfl rfl rfl (vs := cPasture.enc t7) rfl (cPasture.len _) (cPasture.one _) (Put.all cPasture (⟨0, 0, (Arr.mk' (Arr.mk' 0 : Arr 10 Int) : Arr 10 (Arr 10 Int)), (Arr.mk' 0 : Arr 10 Int), (Arr.mk' 0 : Arr 10 Int)⟩ : Pasture) t7) (by (try simp only [add_lit, Nat.add_assoc, Nat.zero_add, Nat.add_zero]) <;> rfl)) ?_
  intro w1 hS
  refine OJ.pures tU_ok 2 rfl ?_
  refine OJ.nil (EJ.next ?_)
  refine CJ.ret (?_)
  obtain rfl := Option.some.inj H
  exact EJ.fin rfl (.cell rfl (ldE tU_ok tI_ok rfl rfl rfl (hS.cells (i := 1) rfl) rfl) (.tmp rfl (.tmp rfl .nil))) ⟨rfl, hS.ext⟩

def spec_l01All.l1 (a0 : Pasture) (a1 : List Spot) : Nat → Int → Option (Int ⊕ Unit)
  | 0, _ => none
  | k + 1, y2 => if y2 < (a1.length : Int) then ((getI a1 y2).bind fun t3 => (spec_l01Is.f a0 t3).bind fun t4 => if (!t4) = true then (some (Sum.inl 2)) else (spec_l01All.l1 a0 a1 k (IntKind.i64.wrap (y2 + 1)))) else (some (Sum.inr ()))
def spec_l01All.f (k : Nat) (a0 : Pasture) (a1 : List Spot) : Option Int := (spec_l01Ok.f k a0).bind fun t1 => if (!t1) = true then (some 1) else ((spec_l01All.l1 a0 a1 k 0).bind fun s2297 => match s2297 with | .inl r => some r | .inr _ => some 0)
theorem spec_l01All.c (k : Nat) (w : World) (pa0 : Addr) (a0 : Pasture) (hp0 : CA w pa0 (cPasture.enc a0)) (Aa1 : Option Addr) (ca1 : Nat) (a1 : List Spot) (hr1 : Rd cSpot w Aa1 a1) (hc1 : a1.length ≤ ca1) (r : Int) (H : spec_l01All.f k a0 a1 = some r) :
    CV Tryz.prog 65 [.pointer (some pa0), .slice Aa1 a1.length ca1].toArray w fun v w' => v = .int .i64 r ∧ Ext w w' := by
  have hS := (((St.init w no).paramP pa0 (cPasture.enc a0) hp0).param cSpot Aa1 ca1 a1 hr1 hc1)
  unfold spec_l01All.f at H
  refine CV.body Tryz.func65 rfl Tryz.ntmps65 rfl ?_
  refine CJ.seq ?_
  refine CJ.region ?_
  refine OJ.pures tU_ok 1 rfl ?_
  refine OJ.nil (EJ.next ?_)
  refine CJ.seq ?_
  refine CJ.seq ?_
  refine CJ.region ?_
  refine OJ.pures tU_ok 1 rfl ?_
  obtain ⟨t1, ht1, H⟩ := pbind H
  refine OJ.callF rfl rfl rfl rfl rfl hb57 rfl (spec_l01Ok.c k _ _ a0 (hS.ca (i := 0) rfl) _ ht1) ?_
  rintro _ w1 ⟨rfl, hs⟩
  replace hS := hS.grow hs
  refine OJ.pures tU_ok 1 rfl ?_
  refine OJ.nil (EJ.next ?_)
  refine CJ.cond rfl (fun hb => ?_) (fun hb => ?_)
  · replace H := pif_t hb H
    refine CJ.seq ?_
    refine CJ.region ?_
    refine OJ.pures tU_ok 1 rfl ?_
    refine OJ.nil (EJ.next ?_)
    refine CJ.ret (EJ.skR (?_))
    obtain rfl := Option.some.inj H
    exact EJ.fin rfl (.tmp rfl .nil) ⟨rfl, hS.ext⟩
  replace H := pifb_f hb H
  refine CJ.skip (EJ.next ?_)
  refine CJ.seq ?_
  refine CJ.seq ?_
  refine CJ.region ?_
  refine OJ.pures tU_ok 1 rfl ?_
  refine OJ.nil (EJ.next ?_)
  obtain ⟨j2297, H, K2297⟩ := pbind H
  refine CJ.cut1 (fun F w1 => (some (Sum.inr ()) : Option (Int ⊕ Unit)) = some j2297 ∧ F = [] ∧ St w no w1 [] [roP pa0 (cPasture.enc a0), roC cSpot Aa1 ca1 a1]) ?_ ?_
  · skip
    refine CJ.block ?_
    refine CJ.loop (fun k F w1 => ∃ (y2 : Int), F = [(0, .pointer (some pa0)), (1, .slice Aa1 a1.length ca1), (5, .int .i64 y2)] ∧ St w no w1 [] [roP pa0 (cPasture.enc a0), roC cSpot Aa1 ca1 a1] ∧ spec_l01All.l1 a0 a1 k y2 = some j2297) k (F' := [(0, .pointer (some pa0)), (1, .slice Aa1 a1.length ca1), (5, .int .i64 0)]) ⟨rfl, rfl, rfl, trivial⟩ ⟨0, rfl, hS.pick [] [0, 1] rfl, H⟩ ?_
    rintro k F w1 ⟨y2, rfl, hS, H⟩
    cases k with
    | zero => rw [spec_l01All.l1] at H; cases H
    | succ k =>
      rw [spec_l01All.l1] at H
      refine CJ.seq ?_
      refine CJ.seq ?_
      refine CJ.region ?_
      refine OJ.pures tU_ok 4 rfl ?_
      refine OJ.nil (EJ.next ?_)
      refine CJ.cond rfl (fun hb => ?_) (fun hb => ?_)
      · replace H := pif_t (of_decide_eq_true hb) H
        refine CJ.skip (EJ.next ?_)
        refine CJ.seq ?_
        refine CJ.block ?_
        refine CJ.seq ?_
        refine CJ.region ?_
        refine OJ.pures tU_ok 3 rfl ?_
        obtain ⟨t3, ht3, H⟩ := pbind H
        obtain ⟨ad3, e3⟩ := (hS.rd' (i := 1) rfl).some' ht3
        refine OJ.st rfl rfl rfl (SR.idxS tU_ok tI_ok rfl rfl rfl rfl e3 rfl (getI_some ht3).1) ?_
        refine OJ.st rfl rfl rfl (SR.load rfl rfl (fun w' hx => ldE tU_ok tI_ok rfl rfl rfl (CA.ext ((hS.rd' (i := 1) rfl).at_ e3 ht3) hx) rfl)) ?_
        obtain ⟨t4, ht4, H⟩ := pbind H
        refine OJ.callF rfl rfl rfl rfl rfl hb38 rfl (spec_l01Is.c _ _ a0 (hS.ca (i := 0) rfl) t3 _ ht4) ?_
        rintro _ w1 ⟨rfl, hs⟩
        replace hS := hS.grow hs
        refine OJ.pures tU_ok 1 rfl ?_
        refine OJ.nil (EJ.next ?_)
        refine CJ.cond rfl (fun hb => ?_) (fun hb => ?_)
        · replace H := pif_t hb H
          refine CJ.seq ?_
          refine CJ.region ?_
          refine OJ.pures tU_ok 1 rfl ?_
          refine OJ.nil (EJ.next ?_)
          refine CJ.ret (EJ.bkR (EJ.skR (EJ.skR (EJ.bkR (EJ.skR (EJ.skR (?_)))))))
          obtain rfl := Option.some.inj H; have H := K2297
          obtain rfl := Option.some.inj H
          exact EJ.fin rfl (.tmp rfl .nil) ⟨rfl, hS.ext⟩
        · replace H := pifb_f hb H
          refine CJ.skip (EJ.blk (EJ.next ?_))
          refine CJ.region ?_
          refine OJ.pures tU_ok 3 rfl ?_
          refine OJ.nil ?_
          exact EJ.round k (F' := [(0, .pointer (some pa0)), (1, .slice Aa1 a1.length ca1), (5, .int .i64 (IntKind.i64.wrap (y2 + 1)))]) ⟨rfl, rfl, rfl, trivial⟩ (Nat.lt_succ_self _) ⟨(IntKind.i64.wrap (y2 + 1)), rfl, hS.pick [] [0, 1] rfl, H⟩
      · replace H := pif_f (of_decide_eq_false hb) H
        refine CJ.exit (EJ.skE (EJ.skE (EJ.hit (?_))))
        exact EJ.meet (F' := []) trivial ⟨H, rfl, hS.pick [] [0, 1] rfl⟩
  rintro F w1 ⟨he, rfl, hS⟩
  obtain rfl := Option.some.inj he
  have H := K2297
  refine EJ.next ?_
  refine CJ.seq ?_
  refine CJ.region ?_
  refine OJ.pures tU_ok 1 rfl ?_
  refine OJ.nil (EJ.next ?_)
  refine CJ.ret (?_)
  obtain rfl := Option.some.inj H
  exact EJ.fin rfl (.tmp rfl .nil) ⟨rfl, hS.ext⟩

def spec_OpenSides.f (k : Nat) (a0 : Pasture) (a1 : List Spot) : Option (List Hurdle × Int) := (spec_l01All.f k a0 a1).bind fun t2 => if t2 ≠ 0 then (some (([] : List Hurdle), t2)) else ((spec_l01Mask.f k a1).bind fun t4 => (spec_l03Open.f k a0 t4).bind fun t6 => some (t6, 0))
theorem spec_OpenSides.c (k : Nat) (w : World) (a0 : Pasture) (Aa1 : Option Addr) (ca1 : Nat) (a1 : List Spot) (hr1 : Rd cSpot w Aa1 a1) (hc1 : a1.length ≤ ca1) (r : List Hurdle × Int) (H : spec_OpenSides.f k a0 a1 = some r) :
    CV Tryz.prog 35 [.agg (cPasture.enc a0).toArray, .slice Aa1 a1.length ca1].toArray w fun v w' => ∃ (A0 : Option Addr) (c0 : Nat), v = .tuple #[.slice A0 r.1.length c0, .int .i64 r.2] ∧ St w no w' [rowC cHurdle A0 c0 75 r.1] [] := by
  have hS := ((St.init w no).param cSpot Aa1 ca1 a1 hr1 hc1)
  unfold spec_OpenSides.f at H
  refine CV.body Tryz.func35 rfl Tryz.ntmps35 rfl ?_
  refine CJ.seq ?_
  refine CJ.region ?_
  refine OJ.ef rfl rfl rfl (Ef.box hS rfl rfl (cPasture.enc a0) rfl) ?_
  rintro _ w1 ⟨b1, rfl, hS⟩
  refine OJ.pures tU_ok 2 rfl ?_
  refine OJ.nil (EJ.next ?_)
  refine CJ.seq ?_
  refine CJ.seq ?_
  refine CJ.region ?_
  refine OJ.pures tU_ok 1 rfl ?_
  obtain ⟨t2, ht2, H⟩ := pbind H
  refine OJ.callF rfl rfl rfl rfl rfl hb65 rfl (spec_l01All.c k _ _ a0 (hS.cells (i := 0) rfl) Aa1 ca1 a1 (hS.rd' (i := 0) rfl) (hS.le' (i := 0) rfl) _ ht2) ?_
  rintro _ w1 ⟨rfl, hs⟩
  replace hS := hS.grow hs
  refine OJ.pures tU_ok 1 rfl ?_
  refine OJ.nil (EJ.next ?_)
  refine CJ.seq ?_
  refine CJ.region ?_
  refine OJ.pures tU_ok 2 rfl ?_
  refine OJ.nil (EJ.next ?_)
  refine CJ.cond rfl (fun hb => ?_) (fun hb => ?_)
  · replace H := pif_t (of_decide_eq_true hb) H
    refine CJ.seq ?_
    refine CJ.region ?_
    refine OJ.ef rfl rfl rfl (Ef.lit tU_ok tI_ok hS (C := cHurdle) rfl rfl rfl rfl rfl rfl ([] : List Hurdle) rfl rfl rfl rfl) ?_
    rintro _ w1 ⟨A3, rfl, hS⟩
    refine OJ.pures tU_ok 3 rfl ?_
    refine OJ.nil (EJ.next ?_)
    refine CJ.ret (EJ.skR (?_))
    obtain rfl := Option.some.inj H
    exact EJ.fin rfl (.tmp rfl (.tmp rfl .nil)) ⟨A3, (([] : List Hurdle).length), rfl, hS.pick [1] [] rfl⟩
  replace H := pif_f (of_decide_eq_false hb) H
  refine CJ.skip (EJ.next ?_)
  refine CJ.seq ?_
  refine CJ.region ?_
  refine OJ.pures tU_ok 1 rfl ?_
  obtain ⟨t4, ht4, H⟩ := pbind H
  refine OJ.callF rfl rfl rfl rfl rfl hb59 rfl (spec_l01Mask.c k _ Aa1 ca1 a1 (hS.rd' (i := 0) rfl) (hS.le' (i := 0) rfl) _ ht4) ?_
  rintro _ w1 ⟨rfl, hs⟩
  replace hS := hS.grow hs
  refine OJ.ef rfl rfl rfl (Ef.alloc hS tI_ok rfl rfl ((carr 10 (carr 10 cb)).enc (Arr.mk' (Arr.mk' false : Arr 10 Bool) : Arr 10 (Arr 10 Bool))) (by kernel_rfl)) ?_
  rintro _ w1 ⟨b5, rfl, hS⟩
  refine OJ.es rfl rfl (Es.put tI_ok hS (i := 1) rfl rfl rfl rfl rfl (vs := (carr 10 (carr 10 cb)).enc t4) rfl ((carr 10 (carr 10 cb)).len _) ((carr 10 (carr 10 cb)).one _) (Put.all (carr 10 (carr 10 cb)) (Arr.mk' (Arr.mk' false : Arr 10 Bool) : Arr 10 (Arr 10 Bool)) t4) (by (try simp only [add_lit, Nat.add_assoc, Nat.zero_add, Nat.add_zero]) <;> rfl)) ?_
  intro w1 hS
  refine OJ.nil (EJ.next ?_)
  refine CJ.seq ?_
  refine CJ.region ?_
  obtain ⟨t6, ht6, H⟩ := pbind H
  refine OJ.callF rfl rfl rfl rfl rfl hb60 rfl (spec_l03Open.c k _ _ a0 (hS.cells (i := 0) rfl) _ t4 (hS.cells (i := 1) rfl) _ ht6) ?_
  rintro _ w1 ⟨A7, c8, rfl, hs⟩
  replace hS := hS.addN hs
  refine OJ.pures tU_ok 2 rfl ?_
  refine OJ.nil (EJ.next ?_)
  refine CJ.ret (?_)
  obtain rfl := Option.some.inj H
  exact EJ.fin rfl (.tmp rfl (.tmp rfl .nil)) ⟨A7, c8, rfl, hS.pick [2] [] rfl⟩

def spec_l03Put.l1 (a1 : List Hurdle) (a2 : Bool) : Nat → Pasture → Int → Option Pasture
  | 0, _, _ => none
  | k + 1, y4, y5 => if y5 < (a1.length : Int) then ((getI a1 y5).bind fun t6 => (getI a1 y5).bind fun t7 => (spec_l03Side.f t7).bind fun t8 => (spec_l01Set.f y4 t6.At t8 a2).bind fun t9 => spec_l03Put.l1 a1 a2 k t9 (IntKind.i64.wrap (y5 + 1))) else (some y4)
def spec_l03Put.f (k : Nat) (a0 : Pasture) (a1 : List Hurdle) (a2 : Bool) : Option Pasture := (spec_l03Put.l1 a1 a2 k a0 0).bind fun y3 => some y3
theorem spec_l03Put.c (k : Nat) (w : World) (a0 : Pasture) (Aa1 : Option Addr) (ca1 : Nat) (a1 : List Hurdle) (hr1 : Rd cHurdle w Aa1 a1) (hc1 : a1.length ≤ ca1) (a2 : Bool) (r : Pasture) (H : spec_l03Put.f k a0 a1 a2 = some r) :
    CV Tryz.prog 36 [.agg (cPasture.enc a0).toArray, .slice Aa1 a1.length ca1, .bool a2].toArray w fun v w' => v = .agg (cPasture.enc r).toArray ∧ Ext w w' := by
  have hS := ((St.init w no).param cHurdle Aa1 ca1 a1 hr1 hc1)
  unfold spec_l03Put.f at H
  refine CV.body Tryz.func36 rfl Tryz.ntmps36 rfl ?_
  refine CJ.seq ?_
  refine CJ.region ?_
  refine OJ.ef rfl rfl rfl (Ef.box hS rfl rfl (cPasture.enc a0) rfl) ?_
  rintro _ w1 ⟨b1, rfl, hS⟩
  refine OJ.ef rfl rfl rfl (Ef.alloc hS tI_ok rfl rfl (cPasture.enc (⟨0, 0, (Arr.mk' (Arr.mk' 0 : Arr 10 Int) : Arr 10 (Arr 10 Int)), (Arr.mk' 0 : Arr 10 Int), (Arr.mk' 0 : Arr 10 Int)⟩ : Pasture)) (by kernel_rfl)) ?_
  rintro _ w1 ⟨b2, rfl, hS⟩
  refine OJ.nil (EJ.next ?_)
  refine CJ.seq ?_
  refine CJ.seq ?_
  refine CJ.region ?_
  refine OJ.pures tU_ok 1 rfl ?_
  refine OJ.nil (EJ.next ?_)
  obtain ⟨j2298, H, K2298⟩ := pbind H
  refine CJ.cut1 (fun F w1 => ∃ (y3 : Pasture) , (some y3 : Option Pasture) = some j2298 ∧ F = [(3, .pointer (some ⟨b1, 0, none⟩)), (6, .pointer (some ⟨b2, 0, none⟩))] ∧ St w no w1 [box b1 (cPasture.enc y3) 31, box b2 (cPasture.enc (⟨0, 0, (Arr.mk' (Arr.mk' 0 : Arr 10 Int) : Arr 10 (Arr 10 Int)), (Arr.mk' 0 : Arr 10 Int), (Arr.mk' 0 : Arr 10 Int)⟩ : Pasture)) 31] [roC cHurdle Aa1 ca1 a1]) ?_ ?_
  · skip
    refine CJ.block ?_
    refine CJ.loop (fun k F w1 => ∃ (y4 : Pasture) (y5 : Int), F = [(1, .slice Aa1 a1.length ca1), (2, .bool a2), (3, .pointer (some ⟨b1, 0, none⟩)), (6, .pointer (some ⟨b2, 0, none⟩)), (7, .int .i64 y5)] ∧ St w no w1 [box b1 (cPasture.enc y4) 31, box b2 (cPasture.enc (⟨0, 0, (Arr.mk' (Arr.mk' 0 : Arr 10 Int) : Arr 10 (Arr 10 Int)), (Arr.mk' 0 : Arr 10 Int), (Arr.mk' 0 : Arr 10 Int)⟩ : Pasture)) 31] [roC cHurdle Aa1 ca1 a1] ∧ spec_l03Put.l1 a1 a2 k y4 y5 = some j2298) k (F' := [(1, .slice Aa1 a1.length ca1), (2, .bool a2), (3, .pointer (some ⟨b1, 0, none⟩)), (6, .pointer (some ⟨b2, 0, none⟩)), (7, .int .i64 0)]) ⟨rfl, rfl, rfl, rfl, rfl, trivial⟩ ⟨a0, 0, rfl, hS.pick [0, 1] [0] rfl, H⟩ ?_
    rintro k F w1 ⟨y4, y5, rfl, hS, H⟩
    cases k with
    | zero => rw [spec_l03Put.l1] at H; cases H
    | succ k =>
      rw [spec_l03Put.l1] at H
      refine CJ.seq ?_
      refine CJ.seq ?_
      refine CJ.region ?_
      refine OJ.pures tU_ok 4 rfl ?_
      refine OJ.nil (EJ.next ?_)
      refine CJ.cond rfl (fun hb => ?_) (fun hb => ?_)
      · replace H := pif_t (of_decide_eq_true hb) H
        refine CJ.skip (EJ.next ?_)
        refine CJ.seq ?_
        refine CJ.block ?_
        refine CJ.draw [11] [0, 1, 2, 3, 4, 5, 6, 7, 8, 10, 9, 11] mixed (by kernel_rfl) hS fun w1 hS => ?_
        refine DJ.pures tU_ok 2 rfl ?_
        obtain ⟨t6, ht6, H⟩ := pbind H
        obtain ⟨ad6, e6⟩ := (hS.rd' (i := 0) rfl).some' ht6
        refine DJ.st rfl rfl rfl rfl rfl (SR.idxS tU_ok tI_ok rfl rfl rfl rfl e6 rfl (getI_some ht6).1) ?_
        refine DJ.st rfl rfl rfl rfl rfl (SR.fieldAddr tU_ok tI_ok rfl rfl rfl rfl rfl rfl) ?_
        refine DJ.st rfl rfl rfl rfl rfl (SR.load rfl rfl (fun w' hx => ldN tU_ok tI_ok rfl rfl rfl (CA.ext (CA.sub ((hS.rd' (i := 0) rfl).at_ e6 ht6) 0) hx) (cSpot.len _) rfl)) ?_
        refine DJ.pures tU_ok 2 rfl ?_
        obtain ⟨t7, ht7, H⟩ := pbind H
        obtain ⟨ad7, e7⟩ := (hS.rd' (i := 0) rfl).some' ht7
        refine DJ.st rfl rfl rfl rfl rfl (SR.idxS tU_ok tI_ok rfl rfl rfl rfl e7 rfl (getI_some ht7).1) ?_
        refine DJ.st rfl rfl rfl rfl rfl (SR.load rfl rfl (fun w' hx => ldE tU_ok tI_ok rfl rfl rfl (CA.ext ((hS.rd' (i := 0) rfl).at_ e7 ht7) hx) rfl)) ?_
        refine DJ.pures tU_ok 1 rfl ?_
        obtain ⟨t8, ht8, H⟩ := pbind H
        refine DJ.callF rfl rfl rfl rfl rfl rfl rfl hb66 rfl (spec_l03Side.c _ t7 _ ht8) (by rintro v w' ⟨rfl, hs⟩; exact hs) ?_
        rintro _ w1 ⟨rfl, hs⟩
        replace hS := hS.grow hs
        obtain ⟨t9, ht9, H⟩ := pbind H
        refine DJ.callFw rfl rfl rfl rfl rfl rfl rfl hb41 rfl (spec_l01Set.c _ b1 y4 t6.At t8 a2 ((hS.subs [0] [] [] rfl).pick [0] [] rfl) _ ht9) ?_
        rintro _ w1 ⟨rfl, hs⟩
        replace hS := hS.back [0] rfl rfl [box b1 (cPasture.enc t9) 31] [] hs ⟨fun _ => Iff.rfl, trivial⟩
        refine DJ.nil (EJ.blk (EJ.next ?_))
        refine CJ.region ?_
        refine OJ.pures tU_ok 3 rfl ?_
        refine OJ.nil ?_
        exact EJ.round k (F' := [(1, .slice Aa1 a1.length ca1), (2, .bool a2), (3, .pointer (some ⟨b1, 0, none⟩)), (6, .pointer (some ⟨b2, 0, none⟩)), (7, .int .i64 (IntKind.i64.wrap (y5 + 1)))]) ⟨rfl, rfl, rfl, rfl, rfl, trivial⟩ (Nat.lt_succ_self _) ⟨t9, (IntKind.i64.wrap (y5 + 1)), rfl, hS.pick [0, 1] [0] rfl, H⟩
      · replace H := pif_f (of_decide_eq_false hb) H
        refine CJ.exit (EJ.skE (EJ.skE (EJ.hit (?_))))
        exact EJ.meet (F' := [(3, .pointer (some ⟨b1, 0, none⟩)), (6, .pointer (some ⟨b2, 0, none⟩))]) ⟨rfl, rfl, trivial⟩ ⟨y4, H, rfl, hS.pick [0, 1] [0] rfl⟩
  rintro F w1 ⟨y3, he, rfl, hS⟩
  obtain rfl := Option.some.inj he
  have H := K2298
  refine EJ.next ?_
  refine CJ.seq ?_
  refine CJ.region ?_
  refine OJ.st rfl rfl rfl (SR.load rfl rfl (fun w' hx => ldE tU_ok tI_ok rfl rfl rfl (CA.ext (hS.cells (i := 0) rfl) hx) rfl)) ?_
  refine OJ.es rfl rfl (Es.put tI_ok hS (i := 1) rfl rfl rfl rfl rfl (vs := cPasture.enc y3) rfl (cPasture.len _) (cPasture.one _) (Put.all cPasture (⟨0, 0, (Arr.mk' (Arr.mk' 0 : Arr 10 Int) : Arr 10 (Arr 10 Int)), (Arr.mk' 0 : Arr 10 Int), (Arr.mk' 0 : Arr 10 Int)⟩ : Pasture) y3) (by (try simp only [add_lit, Nat.add_assoc, Nat.zero_add, Nat.add_zero]) <;> rfl)) ?_
  intro w1 hS
  refine OJ.nil (EJ.next ?_)
  refine CJ.ret (?_)
  obtain rfl := Option.some.inj H
  exact EJ.fin rfl (.cell rfl (ldE tU_ok tI_ok rfl rfl rfl (hS.cells (i := 1) rfl) rfl) .nil) ⟨rfl, hS.ext⟩

def spec_EncloseCells.f (k : Nat) (a0 : Pasture) (a1 : List Spot) : Option (Pasture × Int × Int) := (spec_OpenSides.f k a0 a1).bind fun t3 => if t3.2 ≠ 0 then (some ((⟨0, 0, (Arr.mk' (Arr.mk' 0 : Arr 10 Int) : Arr 10 (Arr 10 Int)), (Arr.mk' 0 : Arr 10 Int), (Arr.mk' 0 : Arr 10 Int)⟩ : Pasture), 0, t3.2)) else ((spec_l03Put.f k a0 t3.1 true).bind fun t6 => some (t6, (t3.1.length : Int), 0))
theorem spec_EncloseCells.c (k : Nat) (w : World) (a0 : Pasture) (Aa1 : Option Addr) (ca1 : Nat) (a1 : List Spot) (hr1 : Rd cSpot w Aa1 a1) (hc1 : a1.length ≤ ca1) (r : Pasture × Int × Int) (H : spec_EncloseCells.f k a0 a1 = some r) :
    CV Tryz.prog 13 [.agg (cPasture.enc a0).toArray, .slice Aa1 a1.length ca1].toArray w fun v w' => v = .tuple #[.agg (cPasture.enc r.1).toArray, .int .i64 r.2.1, .int .i64 r.2.2] ∧ Ext w w' := by
  have hS := ((St.init w no).param cSpot Aa1 ca1 a1 hr1 hc1)
  unfold spec_EncloseCells.f at H
  refine CV.body Tryz.func13 rfl Tryz.ntmps13 rfl ?_
  refine CJ.seq ?_
  refine CJ.region ?_
  refine OJ.ef rfl rfl rfl (Ef.box hS rfl rfl (cPasture.enc a0) rfl) ?_
  rintro _ w1 ⟨b1, rfl, hS⟩
  refine OJ.ef rfl rfl rfl (Ef.alloc hS tI_ok rfl rfl (cPasture.enc (⟨0, 0, (Arr.mk' (Arr.mk' 0 : Arr 10 Int) : Arr 10 (Arr 10 Int)), (Arr.mk' 0 : Arr 10 Int), (Arr.mk' 0 : Arr 10 Int)⟩ : Pasture)) (by kernel_rfl)) ?_
  rintro _ w1 ⟨b2, rfl, hS⟩
  refine OJ.pures tU_ok 2 rfl ?_
  refine OJ.nil (EJ.next ?_)
  refine CJ.seq ?_
  refine CJ.region ?_
  refine OJ.st rfl rfl rfl (SR.load rfl rfl (fun w' hx => ldE tU_ok tI_ok rfl rfl rfl (CA.ext (hS.cells (i := 0) rfl) hx) rfl)) ?_
  refine OJ.pures tU_ok 1 rfl ?_
  obtain ⟨t3, ht3, H⟩ := pbind H
  refine OJ.callF rfl rfl rfl rfl rfl hb35 rfl (spec_OpenSides.c k _ a0 Aa1 ca1 a1 (hS.rd' (i := 0) rfl) (hS.le' (i := 0) rfl) _ ht3) ?_
  rintro _ w1 ⟨A4, c5, rfl, hs⟩
  replace hS := hS.addN hs
  refine OJ.pures tU_ok 5 rfl ?_
  refine OJ.nil (EJ.next ?_)
  refine CJ.seq ?_
  refine CJ.seq ?_
  refine CJ.region ?_
  refine OJ.pures tU_ok 2 rfl ?_
  refine OJ.nil (EJ.next ?_)
  refine CJ.cond rfl (fun hb => ?_) (fun hb => ?_)
  · replace H := pif_t (of_decide_eq_true hb) H
    refine CJ.seq ?_
    refine CJ.region ?_
    refine OJ.st rfl rfl rfl (SR.build (C := cPasture) tU_ok tI_ok rfl rfl rfl (zs := [.int .i8 0, .int .i8 0, .int .i16 0, .int .i16 0, .int .i16 0, .int .i16 0, .int .i16 0, .int .i16 0, .int .i16 0, .int .i16 0, .int .i16 0, .int .i16 0, .int .i16 0, .int .i16 0, .int .i16 0, .int .i16 0, .int .i16 0, .int .i16 0, .int .i16 0, .int .i16 0, .int .i16 0, .int .i16 0, .int .i16 0, .int .i16 0, .int .i16 0, .int .i16 0, .int .i16 0, .int .i16 0, .int .i16 0, .int .i16 0, .int .i16 0, .int .i16 0, .int .i16 0, .int .i16 0, .int .i16 0, .int .i16 0, .int .i16 0, .int .i16 0, .int .i16 0, .int .i16 0, .int .i16 0, .int .i16 0, .int .i16 0, .int .i16 0, .int .i16 0, .int .i16 0, .int .i16 0, .int .i16 0, .int .i16 0, .int .i16 0, .int .i16 0, .int .i16 0, .int .i16 0, .int .i16 0, .int .i16 0, .int .i16 0, .int .i16 0, .int .i16 0, .int .i16 0, .int .i16 0, .int .i16 0, .int .i16 0, .int .i16 0, .int .i16 0, .int .i16 0, .int .i16 0, .int .i16 0, .int .i16 0, .int .i16 0, .int .i16 0, .int .i16 0, .int .i16 0, .int .i16 0, .int .i16 0, .int .i16 0, .int .i16 0, .int .i16 0, .int .i16 0, .int .i16 0, .int .i16 0, .int .i16 0, .int .i16 0, .int .i16 0, .int .i16 0, .int .i16 0, .int .i16 0, .int .i16 0, .int .i16 0, .int .i16 0, .int .i16 0, .int .i16 0, .int .i16 0, .int .i16 0, .int .i16 0, .int .i16 0, .int .i16 0, .int .i16 0, .int .i16 0, .int .i16 0, .int .i16 0, .int .i16 0, .int .i16 0, .int .u16 0, .int .u16 0, .int .u16 0, .int .u16 0, .int .u16 0, .int .u16 0, .int .u16 0, .int .u16 0, .int .u16 0, .int .u16 0, .int .u16 0, .int .u16 0, .int .u16 0, .int .u16 0, .int .u16 0, .int .u16 0, .int .u16 0, .int .u16 0, .int .u16 0, .int .u16 0]) rfl rfl rfl (⟨0, 0, (Arr.mk' (Arr.mk' 0 : Arr 10 Int) : Arr 10 (Arr 10 Int)), (Arr.mk' 0 : Arr 10 Int), (Arr.mk' 0 : Arr 10 Int)⟩ : Pasture) rfl) ?_
    refine OJ.pures tU_ok 1 rfl ?_
    refine OJ.es rfl rfl (Es.put tI_ok hS (i := 1) rfl rfl rfl rfl rfl (vs := cPasture.enc (⟨0, 0, (Arr.mk' (Arr.mk' 0 : Arr 10 Int) : Arr 10 (Arr 10 Int)), (Arr.mk' 0 : Arr 10 Int), (Arr.mk' 0 : Arr 10 Int)⟩ : Pasture)) rfl (cPasture.len _) (cPasture.one _) (Put.all cPasture (⟨0, 0, (Arr.mk' (Arr.mk' 0 : Arr 10 Int) : Arr 10 (Arr 10 Int)), (Arr.mk' 0 : Arr 10 Int), (Arr.mk' 0 : Arr 10 Int)⟩ : Pasture) (⟨0, 0, (Arr.mk' (Arr.mk' 0 : Arr 10 Int) : Arr 10 (Arr 10 Int)), (Arr.mk' 0 : Arr 10 Int), (Arr.mk' 0 : Arr 10 Int)⟩ : Pasture)) (by (try simp only [add_lit, Nat.add_assoc, Nat.zero_add, Nat.add_zero]) <;> rfl)) ?_
    intro w1 hS
    refine OJ.pures tU_ok 2 rfl ?_
    refine OJ.nil (EJ.next ?_)
    refine CJ.ret (EJ.skR (?_))
    obtain rfl := Option.some.inj H
    exact EJ.fin rfl (.cell rfl (ldE tU_ok tI_ok rfl rfl rfl (hS.cells (i := 1) rfl) rfl) (.tmp rfl (.tmp rfl .nil))) ⟨rfl, hS.ext⟩
  replace H := pif_f (of_decide_eq_false hb) H
  refine CJ.skip (EJ.next ?_)
  refine CJ.seq ?_
  refine CJ.region ?_
  refine OJ.st rfl rfl rfl (SR.load rfl rfl (fun w' hx => ldE tU_ok tI_ok rfl rfl rfl (CA.ext (hS.cells (i := 0) rfl) hx) rfl)) ?_
  refine OJ.pures tU_ok 1 rfl ?_
  obtain ⟨t6, ht6, H⟩ := pbind H
  refine OJ.callF rfl rfl rfl rfl rfl hb36 rfl (spec_l03Put.c k _ a0 A4 c5 t3.1 (hS.rd (i := 2) rfl) (hS.le (i := 2) rfl) true _ ht6) ?_
  rintro _ w1 ⟨rfl, hs⟩
  replace hS := hS.grow hs
  refine OJ.pures tU_ok 2 rfl ?_
  refine OJ.es rfl rfl (Es.put tI_ok hS (i := 1) rfl rfl rfl rfl rfl (vs := cPasture.enc t6) rfl (cPasture.len _) (cPasture.one _) (Put.all cPasture (⟨0, 0, (Arr.mk' (Arr.mk' 0 : Arr 10 Int) : Arr 10 (Arr 10 Int)), (Arr.mk' 0 : Arr 10 Int), (Arr.mk' 0 : Arr 10 Int)⟩ : Pasture) t6) (by (try simp only [add_lit, Nat.add_assoc, Nat.zero_add, Nat.add_zero]) <;> rfl)) ?_
  intro w1 hS
  refine OJ.pures tU_ok 2 rfl ?_
  refine OJ.nil (EJ.next ?_)
  refine CJ.ret (?_)
  obtain rfl := Option.some.inj H
  exact EJ.fin rfl (.cell rfl (ldE tU_ok tI_ok rfl rfl rfl (hS.cells (i := 1) rfl) rfl) (.tmp rfl (.tmp rfl .nil))) ⟨rfl, hS.ext⟩

def impl_Pasture_far.l2 (y6 : Int) : Nat → (Arr 10 (Arr 10 Int)) → Int → Option (Arr 10 (Arr 10 Int))
  | 0, _, _ => none
  | k + 1, y9, y10 => if y10 < 10 then ((getI y9.l y6).bind fun t11 => (getI t11.l y10).bind fun t12 => impl_Pasture_far.l2 y6 k (aset y9 y6.toNat (aset t11 y10.toNat (-1))) (IntKind.i64.wrap (y10 + 1))) else (some y9)
def impl_Pasture_far.l1 : Nat → (Arr 10 (Arr 10 Int)) → Int → Option (Arr 10 (Arr 10 Int))
  | 0, _, _ => none
  | k + 1, y5, y6 => if y6 < 10 then (((impl_Pasture_far.l2 y6 k y5 0).bind fun y8 => some y8).bind fun y7 => impl_Pasture_far.l1 k y7 (IntKind.i64.wrap (y6 + 1))) else (some y5)
def impl_Pasture_far.l3 (a1 : List Spot) : Nat → (Arr 10 (Arr 10 Int)) → Int → Option (Arr 10 (Arr 10 Int))
  | 0, _, _ => none
  | k + 1, y14, y15 => if y15 < (a1.length : Int) then ((getI a1 y15).bind fun t16 => (getI y14.l t16.Y).bind fun t18 => (getI t18.l t16.X).bind fun t19 => impl_Pasture_far.l3 a1 k (aset y14 t16.Y.toNat (aset t18 t16.X.toNat 0)) (IntKind.i64.wrap (y15 + 1))) else (some y14)
def impl_Pasture_far.l5 (a0 : Pasture) (t33 : Spot) : Nat → (Arr 10 (Arr 10 Int)) → (List Spot) → Int → Option ((Arr 10 (Arr 10 Int)) × (List Spot))
  | 0, _, _, _ => none
  | k + 1, y39, y40, y43 => if y43 < 4 then ((impl_Spot_ahead.f t33 y43).bind fun t44 => ((impl_Pasture_canGo.f a0 t33 y43).bind fun t47 => if t47 = true then ((getI y39.l t44.Y).bind fun t48 => (getI t48.l t44.X).bind fun t49 => some (decide (t49 < 0))) else (some false)).bind fun y46 => if y46 = true then ((getI y39.l t33.Y).bind fun t50 => (getI t50.l t33.X).bind fun t51 => (getI y39.l t44.Y).bind fun t52 => (getI t52.l t44.X).bind fun t53 => (chk (y40.length + ([t44] : List Spot).length ≤ 4294967296)).bind fun u55 => impl_Pasture_far.l5 a0 t33 k (aset y39 t44.Y.toNat (aset t52 t44.X.toNat (IntKind.i16.wrap (t51 + 1)))) (y40 ++ ([t44] : List Spot)) (IntKind.i64.wrap (y43 + 1))) else (impl_Pasture_far.l5 a0 t33 k y39 y40 (IntKind.i64.wrap (y43 + 1)))) else (some (y39, y40))
def impl_Pasture_far.l4 (a0 : Pasture) : Nat → (Arr 10 (Arr 10 Int)) → (List Spot) → Int → Option (Arr 10 (Arr 10 Int))
  | 0, _, _, _ => none
  | k + 1, y24, y25, y28 => if y28 < (y25.length : Int) then (((getI y25 y28).bind fun t33 => (impl_Pasture_far.l5 a0 t33 k y24 y25 0).bind fun (y35, y36) => some (y35, y36)).bind fun (y29, y30) => impl_Pasture_far.l4 a0 k y29 y30 (IntKind.i64.wrap (y28 + 1))) else (some y24)
def impl_Pasture_far.f (k : Nat) (a0 : Pasture) (a1 : List Spot) : Option (Arr 10 (Arr 10 Int)) := (impl_Pasture_far.l1 k (Arr.mk' (Arr.mk' 0 : Arr 10 Int) : Arr 10 (Arr 10 Int)) 0).bind fun y4 => (impl_Pasture_far.l3 a1 k y4 0).bind fun y13 => (slices_Clone_impl_Spot_impl_Spot.f a1).bind fun t20 => (impl_Pasture_far.l4 a0 k y13 t20 0).bind fun y23 => some y23
theorem impl_Pasture_far.c (k : Nat) (w : World) (a0 : Pasture) (Aa1 : Option Addr) (ca1 : Nat) (a1 : List Spot) (hr1 : Rd cSpot w Aa1 a1) (hc1 : a1.length ≤ ca1) (r : Arr 10 (Arr 10 Int)) (H : impl_Pasture_far.f k a0 a1 = some r) :
    CV Tryz.prog 67 [.agg (cPasture.enc a0).toArray, .slice Aa1 a1.length ca1].toArray w fun v w' => v = .agg ((carr 10 (carr 10 (ci .i16))).enc r).toArray ∧ Ext w w' := by
  have hS := ((St.init w no).param cSpot Aa1 ca1 a1 hr1 hc1)
  unfold impl_Pasture_far.f at H
  refine CV.body Tryz.func67 rfl Tryz.ntmps67 rfl ?_
  refine CJ.seq ?_
  refine CJ.region ?_
  refine OJ.ef rfl rfl rfl (Ef.box hS rfl rfl (cPasture.enc a0) rfl) ?_
  rintro _ w1 ⟨b1, rfl, hS⟩
  refine OJ.ef rfl rfl rfl (Ef.alloc hS tI_ok rfl rfl ((carr 10 (carr 10 (ci .i16))).enc (Arr.mk' (Arr.mk' 0 : Arr 10 Int) : Arr 10 (Arr 10 Int))) (by kernel_rfl)) ?_
  rintro _ w1 ⟨b2, rfl, hS⟩
  refine OJ.nil (EJ.next ?_)
  refine CJ.seq ?_
  refine CJ.region ?_
  refine OJ.st rfl rfl rfl (SR.buildA tU_ok tI_ok rfl rfl rfl rfl (zs := [.int .i16 0, .int .i16 0, .int .i16 0, .int .i16 0, .int .i16 0, .int .i16 0, .int .i16 0, .int .i16 0, .int .i16 0, .int .i16 0, .int .i16 0, .int .i16 0, .int .i16 0, .int .i16 0, .int .i16 0, .int .i16 0, .int .i16 0, .int .i16 0, .int .i16 0, .int .i16 0, .int .i16 0, .int .i16 0, .int .i16 0, .int .i16 0, .int .i16 0, .int .i16 0, .int .i16 0, .int .i16 0, .int .i16 0, .int .i16 0, .int .i16 0, .int .i16 0, .int .i16 0, .int .i16 0, .int .i16 0, .int .i16 0, .int .i16 0, .int .i16 0, .int .i16 0, .int .i16 0, .int .i16 0, .int .i16 0, .int .i16 0, .int .i16 0, .int .i16 0, .int .i16 0, .int .i16 0, .int .i16 0, .int .i16 0, .int .i16 0, .int .i16 0, .int .i16 0, .int .i16 0, .int .i16 0, .int .i16 0, .int .i16 0, .int .i16 0, .int .i16 0, .int .i16 0, .int .i16 0, .int .i16 0, .int .i16 0, .int .i16 0, .int .i16 0, .int .i16 0, .int .i16 0, .int .i16 0, .int .i16 0, .int .i16 0, .int .i16 0, .int .i16 0, .int .i16 0, .int .i16 0, .int .i16 0, .int .i16 0, .int .i16 0, .int .i16 0, .int .i16 0, .int .i16 0, .int .i16 0, .int .i16 0, .int .i16 0, .int .i16 0, .int .i16 0, .int .i16 0, .int .i16 0, .int .i16 0, .int .i16 0, .int .i16 0, .int .i16 0, .int .i16 0, .int .i16 0, .int .i16 0, .int .i16 0, .int .i16 0, .int .i16 0, .int .i16 0, .int .i16 0, .int .i16 0, .int .i16 0]) rfl rfl ((carr 10 (carr 10 (ci .i16))).enc (Arr.mk' (Arr.mk' 0 : Arr 10 Int) : Arr 10 (Arr 10 Int))) (by kernel_rfl)) ?_
  refine OJ.ef rfl rfl rfl (Ef.alloc hS tI_ok rfl rfl ((carr 10 (carr 10 (ci .i16))).enc (Arr.mk' (Arr.mk' 0 : Arr 10 Int) : Arr 10 (Arr 10 Int))) (by kernel_rfl)) ?_
  rintro _ w1 ⟨b3, rfl, hS⟩
  refine OJ.es rfl rfl (Es.put tI_ok hS (i := 2) rfl rfl rfl rfl rfl (vs := (carr 10 (carr 10 (ci .i16))).enc (Arr.mk' (Arr.mk' 0 : Arr 10 Int) : Arr 10 (Arr 10 Int))) rfl ((carr 10 (carr 10 (ci .i16))).len _) ((carr 10 (carr 10 (ci .i16))).one _) (Put.all (carr 10 (carr 10 (ci .i16))) (Arr.mk' (Arr.mk' 0 : Arr 10 Int) : Arr 10 (Arr 10 Int)) (Arr.mk' (Arr.mk' 0 : Arr 10 Int) : Arr 10 (Arr 10 Int))) (by (try simp only [add_lit, Nat.add_assoc, Nat.zero_add, Nat.add_zero]) <;> rfl)) ?_
  intro w1 hS
  refine OJ.nil (EJ.next ?_)
  refine CJ.seq ?_
  refine CJ.seq ?_
  refine CJ.region ?_
  refine OJ.pures tU_ok 1 rfl ?_
  refine OJ.nil (EJ.next ?_)
  obtain ⟨j2299, H, K2299⟩ := pbind H
  refine CJ.cut1 (fun F w1 => ∃ (y4 : Arr 10 (Arr 10 Int)) , (some y4 : Option (Arr 10 (Arr 10 Int))) = some j2299 ∧ F = [(1, .slice Aa1 a1.length ca1), (2, .pointer (some ⟨b1, 0, none⟩)), (4, .pointer (some ⟨b2, 0, none⟩)), (5, .pointer (some ⟨b3, 0, none⟩))] ∧ St w no w1 [box b1 (cPasture.enc a0) 31, box b2 ((carr 10 (carr 10 (ci .i16))).enc (Arr.mk' (Arr.mk' 0 : Arr 10 Int) : Arr 10 (Arr 10 Int))) 106, box b3 ((carr 10 (carr 10 (ci .i16))).enc y4) 106] [roC cSpot Aa1 ca1 a1]) ?_ ?_
  · skip
    refine CJ.block ?_
    refine CJ.loop (fun k F w1 => ∃ (y5 : Arr 10 (Arr 10 Int)) (y6 : Int), F = [(1, .slice Aa1 a1.length ca1), (2, .pointer (some ⟨b1, 0, none⟩)), (4, .pointer (some ⟨b2, 0, none⟩)), (5, .pointer (some ⟨b3, 0, none⟩)), (15, .int .i64 y6)] ∧ St w no w1 [box b1 (cPasture.enc a0) 31, box b2 ((carr 10 (carr 10 (ci .i16))).enc (Arr.mk' (Arr.mk' 0 : Arr 10 Int) : Arr 10 (Arr 10 Int))) 106, box b3 ((carr 10 (carr 10 (ci .i16))).enc y5) 106] [roC cSpot Aa1 ca1 a1] ∧ impl_Pasture_far.l1 k y5 y6 = some j2299) k (F' := [(1, .slice Aa1 a1.length ca1), (2, .pointer (some ⟨b1, 0, none⟩)), (4, .pointer (some ⟨b2, 0, none⟩)), (5, .pointer (some ⟨b3, 0, none⟩)), (15, .int .i64 0)]) ⟨rfl, rfl, rfl, rfl, rfl, trivial⟩ ⟨(Arr.mk' (Arr.mk' 0 : Arr 10 Int) : Arr 10 (Arr 10 Int)), 0, rfl, hS.pick [0, 1, 2] [0] rfl, H⟩ ?_
    rintro k F w1 ⟨y5, y6, rfl, hS, H⟩
    cases k with
    | zero => rw [impl_Pasture_far.l1] at H; cases H
    | succ k =>
      rw [impl_Pasture_far.l1] at H
      refine CJ.seq ?_
      refine CJ.region ?_
      refine OJ.pures tU_ok 1 rfl ?_
      refine OJ.nil (EJ.next ?_)
      refine CJ.seq ?_
      refine CJ.cond rfl (fun hb => ?_) (fun hb => ?_)
      · replace H := pif_t (of_decide_eq_true hb) H
        refine CJ.skip (EJ.next ?_)
        obtain ⟨j2306, H, K2306⟩ := pbind H
        refine CJ.cut (fun F w1 => ∃ (y7 : Arr 10 (Arr 10 Int)) , (some y7 : Option (Arr 10 (Arr 10 Int))) = some j2306 ∧ F = [(1, .slice Aa1 a1.length ca1), (2, .pointer (some ⟨b1, 0, none⟩)), (4, .pointer (some ⟨b2, 0, none⟩)), (5, .pointer (some ⟨b3, 0, none⟩)), (15, .int .i64 y6)] ∧ St w no w1 [box b1 (cPasture.enc a0) 31, box b2 ((carr 10 (carr 10 (ci .i16))).enc (Arr.mk' (Arr.mk' 0 : Arr 10 Int) : Arr 10 (Arr 10 Int))) 106, box b3 ((carr 10 (carr 10 (ci .i16))).enc y7) 106] [roC cSpot Aa1 ca1 a1]) ?_ ?_
        · skip
          refine CJ.block ?_
          refine CJ.seq ?_
          refine CJ.region ?_
          refine OJ.pures tU_ok 2 rfl ?_
          refine OJ.nil (EJ.next ?_)
          refine CJ.seq ?_
          refine CJ.region ?_
          refine OJ.pures tU_ok 1 rfl ?_
          refine OJ.nil (EJ.next ?_)
          obtain ⟨j2308, H, K2308⟩ := pbind H
          refine CJ.cut1 (fun F w1 => ∃ (y8 : Arr 10 (Arr 10 Int)) , (some y8 : Option (Arr 10 (Arr 10 Int))) = some j2308 ∧ F = [(1, .slice Aa1 a1.length ca1), (2, .pointer (some ⟨b1, 0, none⟩)), (4, .pointer (some ⟨b2, 0, none⟩)), (5, .pointer (some ⟨b3, 0, none⟩)), (15, .int .i64 y6)] ∧ St w no w1 [box b1 (cPasture.enc a0) 31, box b2 ((carr 10 (carr 10 (ci .i16))).enc (Arr.mk' (Arr.mk' 0 : Arr 10 Int) : Arr 10 (Arr 10 Int))) 106, box b3 ((carr 10 (carr 10 (ci .i16))).enc y8) 106] [roC cSpot Aa1 ca1 a1]) ?_ ?_
          · skip
            refine CJ.block ?_
            refine CJ.loop (fun k F w1 => ∃ (y9 : Arr 10 (Arr 10 Int)) (y10 : Int), F = [(1, .slice Aa1 a1.length ca1), (2, .pointer (some ⟨b1, 0, none⟩)), (4, .pointer (some ⟨b2, 0, none⟩)), (5, .pointer (some ⟨b3, 0, none⟩)), (6, .int .i64 y6), (15, .int .i64 y6), (18, .int .i64 y10)] ∧ St w no w1 [box b1 (cPasture.enc a0) 31, box b2 ((carr 10 (carr 10 (ci .i16))).enc (Arr.mk' (Arr.mk' 0 : Arr 10 Int) : Arr 10 (Arr 10 Int))) 106, box b3 ((carr 10 (carr 10 (ci .i16))).enc y9) 106] [roC cSpot Aa1 ca1 a1] ∧ impl_Pasture_far.l2 y6 k y9 y10 = some j2308) k (F' := [(1, .slice Aa1 a1.length ca1), (2, .pointer (some ⟨b1, 0, none⟩)), (4, .pointer (some ⟨b2, 0, none⟩)), (5, .pointer (some ⟨b3, 0, none⟩)), (6, .int .i64 y6), (15, .int .i64 y6), (18, .int .i64 0)]) ⟨rfl, rfl, rfl, rfl, rfl, rfl, rfl, trivial⟩ ⟨y5, 0, rfl, hS.pick [0, 1, 2] [0] rfl, H⟩ ?_
            rintro k F w1 ⟨y9, y10, rfl, hS, H⟩
            cases k with
            | zero => rw [impl_Pasture_far.l2] at H; cases H
            | succ k =>
              rw [impl_Pasture_far.l2] at H
              refine CJ.seq ?_
              refine CJ.region ?_
              refine OJ.pures tU_ok 1 rfl ?_
              refine OJ.nil (EJ.next ?_)
              refine CJ.seq ?_
              refine CJ.cond rfl (fun hb => ?_) (fun hb => ?_)
              · replace H := pif_t (of_decide_eq_true hb) H
                refine CJ.skip (EJ.next ?_)
                refine CJ.seq ?_
                refine CJ.block ?_
                refine CJ.seq ?_
                refine CJ.region ?_
                refine OJ.pures tU_ok 2 rfl ?_
                refine OJ.nil (EJ.next ?_)
                refine CJ.region ?_
                refine OJ.pures tU_ok 2 rfl ?_
                obtain ⟨t11, ht11, H⟩ := pbind H
                refine OJ.st rfl rfl rfl (SR.idxA tU_ok tI_ok rfl rfl rfl rfl rfl (Arr.lt ht11)) ?_
                obtain ⟨t12, ht12, H⟩ := pbind H
                refine OJ.st rfl rfl rfl (SR.idxA tU_ok tI_ok rfl rfl rfl rfl rfl (Arr.lt ht12)) ?_
                refine OJ.es rfl rfl (Es.put tI_ok hS (i := 2) rfl rfl rfl rfl rfl (vs := (ci .i16).enc (-1)) rfl rfl (one1 rfl) (Put.idx (Put.idx (Put.all (ci .i16) t12 (-1)) ht12) ht11) (by (try simp only [add_lit, Nat.add_assoc, Nat.zero_add, Nat.add_zero]) <;> rfl)) ?_
                intro w1 hS
                refine OJ.nil (EJ.blk (EJ.next ?_))
                refine CJ.region ?_
                refine OJ.pures tU_ok 2 rfl ?_
                refine OJ.nil ?_
                exact EJ.round k (F' := [(1, .slice Aa1 a1.length ca1), (2, .pointer (some ⟨b1, 0, none⟩)), (4, .pointer (some ⟨b2, 0, none⟩)), (5, .pointer (some ⟨b3, 0, none⟩)), (6, .int .i64 y6), (15, .int .i64 y6), (18, .int .i64 (IntKind.i64.wrap (y10 + 1)))]) ⟨rfl, rfl, rfl, rfl, rfl, rfl, rfl, trivial⟩ (Nat.lt_succ_self _) ⟨(aset y9 y6.toNat (aset t11 y10.toNat (-1))), (IntKind.i64.wrap (y10 + 1)), rfl, hS.pick [0, 1, 2] [0] rfl, H⟩
              · replace H := pif_f (of_decide_eq_false hb) H
                refine CJ.exit (EJ.skE (EJ.skE (EJ.hit (?_))))
                exact EJ.meet (F' := [(1, .slice Aa1 a1.length ca1), (2, .pointer (some ⟨b1, 0, none⟩)), (4, .pointer (some ⟨b2, 0, none⟩)), (5, .pointer (some ⟨b3, 0, none⟩)), (15, .int .i64 y6)]) ⟨rfl, rfl, rfl, rfl, rfl, trivial⟩ ⟨y9, H, rfl, hS.pick [0, 1, 2] [0] rfl⟩
          · rintro F w1 ⟨y8, he, rfl, hS⟩
            obtain rfl := Option.some.inj he
            have H := K2308
            refine EJ.blk (?_)
            exact EJ.meet (F' := [(1, .slice Aa1 a1.length ca1), (2, .pointer (some ⟨b1, 0, none⟩)), (4, .pointer (some ⟨b2, 0, none⟩)), (5, .pointer (some ⟨b3, 0, none⟩)), (15, .int .i64 y6)]) ⟨rfl, rfl, rfl, rfl, rfl, trivial⟩ ⟨y8, H, rfl, hS.pick [0, 1, 2] [0] rfl⟩
        · rintro F w1 ⟨y7, he, rfl, hS⟩
          obtain rfl := Option.some.inj he
          have H := K2306
          refine CJ.region ?_
          refine OJ.pures tU_ok 2 rfl ?_
          refine OJ.nil ?_
          exact EJ.round k (F' := [(1, .slice Aa1 a1.length ca1), (2, .pointer (some ⟨b1, 0, none⟩)), (4, .pointer (some ⟨b2, 0, none⟩)), (5, .pointer (some ⟨b3, 0, none⟩)), (15, .int .i64 (IntKind.i64.wrap (y6 + 1)))]) ⟨rfl, rfl, rfl, rfl, rfl, trivial⟩ (Nat.lt_succ_self _) ⟨y7, (IntKind.i64.wrap (y6 + 1)), rfl, hS.pick [0, 1, 2] [0] rfl, H⟩
      · replace H := pif_f (of_decide_eq_false hb) H
        refine CJ.exit (EJ.skE (EJ.skE (EJ.hit (?_))))
        exact EJ.meet (F' := [(1, .slice Aa1 a1.length ca1), (2, .pointer (some ⟨b1, 0, none⟩)), (4, .pointer (some ⟨b2, 0, none⟩)), (5, .pointer (some ⟨b3, 0, none⟩))]) ⟨rfl, rfl, rfl, rfl, trivial⟩ ⟨y5, H, rfl, hS.pick [0, 1, 2] [0] rfl⟩
  rintro F w1 ⟨y4, he, rfl, hS⟩
  obtain rfl := Option.some.inj he
  have H := K2299
  refine EJ.next ?_
  refine CJ.seq ?_
  refine CJ.seq ?_
  refine CJ.region ?_
  refine OJ.pures tU_ok 3 rfl ?_
  refine OJ.nil (EJ.next ?_)
  obtain ⟨j2309, H, K2309⟩ := pbind H
  refine CJ.cut1 (fun F w1 => ∃ (y13 : Arr 10 (Arr 10 Int)) , (some y13 : Option (Arr 10 (Arr 10 Int))) = some j2309 ∧ F = [(1, .slice Aa1 a1.length ca1), (2, .pointer (some ⟨b1, 0, none⟩)), (4, .pointer (some ⟨b2, 0, none⟩)), (5, .pointer (some ⟨b3, 0, none⟩))] ∧ St w no w1 [box b1 (cPasture.enc a0) 31, box b2 ((carr 10 (carr 10 (ci .i16))).enc (Arr.mk' (Arr.mk' 0 : Arr 10 Int) : Arr 10 (Arr 10 Int))) 106, box b3 ((carr 10 (carr 10 (ci .i16))).enc y13) 106] [roC cSpot Aa1 ca1 a1]) ?_ ?_
  · skip
    refine CJ.block ?_
    refine CJ.loop (fun k F w1 => ∃ (y14 : Arr 10 (Arr 10 Int)) (y15 : Int), F = [(1, .slice Aa1 a1.length ca1), (2, .pointer (some ⟨b1, 0, none⟩)), (4, .pointer (some ⟨b2, 0, none⟩)), (5, .pointer (some ⟨b3, 0, none⟩)), (27, .slice Aa1 a1.length ca1), (28, .int .i64 (a1.length : Int)), (29, .int .i64 y15)] ∧ St w no w1 [box b1 (cPasture.enc a0) 31, box b2 ((carr 10 (carr 10 (ci .i16))).enc (Arr.mk' (Arr.mk' 0 : Arr 10 Int) : Arr 10 (Arr 10 Int))) 106, box b3 ((carr 10 (carr 10 (ci .i16))).enc y14) 106] [roC cSpot Aa1 ca1 a1] ∧ impl_Pasture_far.l3 a1 k y14 y15 = some j2309) k (F' := [(1, .slice Aa1 a1.length ca1), (2, .pointer (some ⟨b1, 0, none⟩)), (4, .pointer (some ⟨b2, 0, none⟩)), (5, .pointer (some ⟨b3, 0, none⟩)), (27, .slice Aa1 a1.length ca1), (28, .int .i64 (a1.length : Int)), (29, .int .i64 0)]) ⟨rfl, rfl, rfl, rfl, rfl, rfl, rfl, trivial⟩ ⟨y4, 0, rfl, hS.pick [0, 1, 2] [0] rfl, H⟩ ?_
    rintro k F w1 ⟨y14, y15, rfl, hS, H⟩
    cases k with
    | zero => rw [impl_Pasture_far.l3] at H; cases H
    | succ k =>
      rw [impl_Pasture_far.l3] at H
      refine CJ.seq ?_
      refine CJ.region ?_
      refine OJ.pures tU_ok 1 rfl ?_
      refine OJ.nil (EJ.next ?_)
      refine CJ.seq ?_
      refine CJ.cond rfl (fun hb => ?_) (fun hb => ?_)
      · replace H := pif_t (of_decide_eq_true hb) H
        refine CJ.skip (EJ.next ?_)
        refine CJ.seq ?_
        refine CJ.block ?_
        refine CJ.seq ?_
        refine CJ.region ?_
        obtain ⟨t16, ht16, H⟩ := pbind H
        obtain ⟨ad16, e16⟩ := (hS.rd' (i := 0) rfl).some' ht16
        refine OJ.st rfl rfl rfl (SR.idxS tU_ok tI_ok rfl rfl rfl rfl e16 rfl (getI_some ht16).1) ?_
        refine OJ.st rfl rfl rfl (SR.load rfl rfl (fun w' hx => ldE tU_ok tI_ok rfl rfl rfl (CA.ext ((hS.rd' (i := 0) rfl).at_ e16 ht16) hx) rfl)) ?_
        refine OJ.ef rfl rfl rfl (Ef.alloc hS tI_ok rfl rfl (cSpot.enc (⟨0, 0⟩ : Spot)) rfl) ?_
        rintro _ w1 ⟨b17, rfl, hS⟩
        refine OJ.es rfl rfl (Es.store tI_ok hS (i := 3) rfl rfl rfl rfl rfl rfl (vs := cSpot.enc t16) rfl (cSpot.len _) (cSpot.one _) (Nat.le_of_ble_eq_true rfl) (cSpot.enc t16) rfl) ?_
        intro w1 hS
        refine OJ.nil (EJ.next ?_)
        refine CJ.draw [] [0, 1, 2, 3, 4, 5, 6] mixed (by kernel_rfl) hS fun w1 hS => ?_
        refine DJ.st rfl rfl rfl rfl rfl (SR.fieldAddr tU_ok tI_ok rfl rfl rfl rfl rfl rfl) ?_
        refine DJ.st rfl rfl rfl rfl rfl (SR.load rfl rfl (fun w' hx => ld1 tU_ok rfl rfl (CA.ext (CA.sub (hS.cells (i := 3) rfl) 1) hx) rfl)) ?_
        refine DJ.st rfl rfl rfl rfl rfl (SR.fieldAddr tU_ok tI_ok rfl rfl rfl rfl rfl rfl) ?_
        refine DJ.st rfl rfl rfl rfl rfl (SR.load rfl rfl (fun w' hx => ld1 tU_ok rfl rfl (CA.ext (CA.sub (hS.cells (i := 3) rfl) 0) hx) rfl)) ?_
        obtain ⟨t18, ht18, H⟩ := pbind H
        refine DJ.st rfl rfl rfl rfl rfl (SR.idxA tU_ok tI_ok rfl rfl rfl rfl rfl (Arr.lt ht18)) ?_
        obtain ⟨t19, ht19, H⟩ := pbind H
        refine DJ.st rfl rfl rfl rfl rfl (SR.idxA tU_ok tI_ok rfl rfl rfl rfl rfl (Arr.lt ht19)) ?_
        refine DJ.es rfl rfl rfl rfl (Es.put tI_ok hS (i := 2) rfl rfl rfl rfl rfl (vs := (ci .i16).enc 0) rfl rfl (one1 rfl) (Put.idx (Put.idx (Put.all (ci .i16) t19 0) ht19) ht18) (by (try simp only [add_lit, Nat.add_assoc, Nat.zero_add, Nat.add_zero]) <;> rfl)) ?_
        intro w1 hS
        refine DJ.nil (EJ.blk (EJ.next ?_))
        refine CJ.region ?_
        refine OJ.pures tU_ok 2 rfl ?_
        refine OJ.nil ?_
        exact EJ.round k (F' := [(1, .slice Aa1 a1.length ca1), (2, .pointer (some ⟨b1, 0, none⟩)), (4, .pointer (some ⟨b2, 0, none⟩)), (5, .pointer (some ⟨b3, 0, none⟩)), (27, .slice Aa1 a1.length ca1), (28, .int .i64 (a1.length : Int)), (29, .int .i64 (IntKind.i64.wrap (y15 + 1)))]) ⟨rfl, rfl, rfl, rfl, rfl, rfl, rfl, trivial⟩ (Nat.lt_succ_self _) ⟨(aset y14 t16.Y.toNat (aset t18 t16.X.toNat 0)), (IntKind.i64.wrap (y15 + 1)), rfl, hS.pick [0, 1, 2] [0] rfl, H⟩
      · replace H := pif_f (of_decide_eq_false hb) H
        refine CJ.exit (EJ.skE (EJ.skE (EJ.hit (?_))))
        exact EJ.meet (F' := [(1, .slice Aa1 a1.length ca1), (2, .pointer (some ⟨b1, 0, none⟩)), (4, .pointer (some ⟨b2, 0, none⟩)), (5, .pointer (some ⟨b3, 0, none⟩))]) ⟨rfl, rfl, rfl, rfl, trivial⟩ ⟨y14, H, rfl, hS.pick [0, 1, 2] [0] rfl⟩
  rintro F w1 ⟨y13, he, rfl, hS⟩
  obtain rfl := Option.some.inj he
  have H := K2309
  refine EJ.next ?_
  refine CJ.seq ?_
  refine CJ.region ?_
  refine OJ.pures tU_ok 1 rfl ?_
  obtain ⟨t20, ht20, H⟩ := pbind H
  refine OJ.callF rfl rfl rfl rfl rfl hb24 rfl (slices_Clone_impl_Spot_impl_Spot.c _ Aa1 ca1 a1 (hS.rd' (i := 0) rfl) (hS.le' (i := 0) rfl) _ ht20) ?_
  rintro _ w1 ⟨A21, c22, rfl, hs⟩
  replace hS := hS.addN hs
  refine OJ.pures tU_ok 1 rfl ?_
  refine OJ.nil (EJ.next ?_)
  refine CJ.seq ?_
  refine CJ.seq ?_
  refine CJ.region ?_
  refine OJ.pures tU_ok 1 rfl ?_
  refine OJ.nil (EJ.next ?_)
  obtain ⟨j2310, H, K2310⟩ := pbind H
  refine CJ.cut1 (fun F w1 => ∃ (y23 : Arr 10 (Arr 10 Int)) , (some y23 : Option (Arr 10 (Arr 10 Int))) = some j2310 ∧ F = [(4, .pointer (some ⟨b2, 0, none⟩)), (5, .pointer (some ⟨b3, 0, none⟩))] ∧ St w no w1 [box b2 ((carr 10 (carr 10 (ci .i16))).enc (Arr.mk' (Arr.mk' 0 : Arr 10 Int) : Arr 10 (Arr 10 Int))) 106, box b3 ((carr 10 (carr 10 (ci .i16))).enc y23) 106] [roC cSpot Aa1 ca1 a1]) ?_ ?_
  · skip
    refine CJ.block ?_
    refine CJ.loop (fun k F w1 => ∃ (y24 : Arr 10 (Arr 10 Int)) (y25 : List Spot) (y28 : Int) (A26 : Option Addr) (c27 : Nat), F = [(1, .slice A26 y25.length c27), (2, .pointer (some ⟨b1, 0, none⟩)), (4, .pointer (some ⟨b2, 0, none⟩)), (5, .pointer (some ⟨b3, 0, none⟩)), (10, .int .i64 y28)] ∧ St w no w1 [box b1 (cPasture.enc a0) 31, box b2 ((carr 10 (carr 10 (ci .i16))).enc (Arr.mk' (Arr.mk' 0 : Arr 10 Int) : Arr 10 (Arr 10 Int))) 106, box b3 ((carr 10 (carr 10 (ci .i16))).enc y24) 106, rowC cSpot A26 c27 34 y25] [roC cSpot Aa1 ca1 a1] ∧ impl_Pasture_far.l4 a0 k y24 y25 y28 = some j2310) k (F' := [(1, .slice A21 t20.length c22), (2, .pointer (some ⟨b1, 0, none⟩)), (4, .pointer (some ⟨b2, 0, none⟩)), (5, .pointer (some ⟨b3, 0, none⟩)), (10, .int .i64 0)]) ⟨rfl, rfl, rfl, rfl, rfl, trivial⟩ ⟨y13, t20, 0, A21, c22, rfl, hS.pick [0, 1, 2, 3] [0] rfl, H⟩ ?_
    rintro k F w1 ⟨y24, y25, y28, A26, c27, rfl, hS, H⟩
    cases k with
    | zero => rw [impl_Pasture_far.l4] at H; cases H
    | succ k =>
      rw [impl_Pasture_far.l4] at H
      refine CJ.seq ?_
      refine CJ.seq ?_
      refine CJ.region ?_
      refine OJ.pures tU_ok 4 rfl ?_
      refine OJ.nil (EJ.next ?_)
      refine CJ.cond rfl (fun hb => ?_) (fun hb => ?_)
      · replace H := pif_t (of_decide_eq_true hb) H
        refine CJ.skip (EJ.next ?_)
        obtain ⟨j2329, H, K2329⟩ := pbind H
        refine CJ.cut (fun F w1 => ∃ (y29 : Arr 10 (Arr 10 Int)) (y30 : List Spot) (A31 : Option Addr) (c32 : Nat), (some (y29, y30) : Option ((Arr 10 (Arr 10 Int)) × (List Spot))) = some j2329 ∧ F = [(1, .slice A31 y30.length c32), (2, .pointer (some ⟨b1, 0, none⟩)), (4, .pointer (some ⟨b2, 0, none⟩)), (5, .pointer (some ⟨b3, 0, none⟩)), (10, .int .i64 y28)] ∧ St w no w1 [box b1 (cPasture.enc a0) 31, box b2 ((carr 10 (carr 10 (ci .i16))).enc (Arr.mk' (Arr.mk' 0 : Arr 10 Int) : Arr 10 (Arr 10 Int))) 106, box b3 ((carr 10 (carr 10 (ci .i16))).enc y29) 106, rowC cSpot A31 c32 34 y30] [roC cSpot Aa1 ca1 a1]) ?_ ?_
        · skip
          refine CJ.block ?_
          refine CJ.seq ?_
          refine CJ.region ?_
          refine OJ.pures tU_ok 2 rfl ?_
          obtain ⟨t33, ht33, H⟩ := pbind H
          obtain ⟨ad33, e33⟩ := (hS.rd (i := 3) rfl).some' ht33
          refine OJ.st rfl rfl rfl (SR.idxS tU_ok tI_ok rfl rfl rfl rfl e33 rfl (getI_some ht33).1) ?_
          refine OJ.st rfl rfl rfl (SR.load rfl rfl (fun w' hx => ldE tU_ok tI_ok rfl rfl rfl (CA.ext ((hS.rd (i := 3) rfl).at_ e33 ht33) hx) rfl)) ?_
          refine OJ.ef rfl rfl rfl (Ef.alloc hS tI_ok rfl rfl (cSpot.enc (⟨0, 0⟩ : Spot)) rfl) ?_
          rintro _ w1 ⟨b34, rfl, hS⟩
          refine OJ.es rfl rfl (Es.store tI_ok hS (i := 4) rfl rfl rfl rfl rfl rfl (vs := cSpot.enc t33) rfl (cSpot.len _) (cSpot.one _) (Nat.le_of_ble_eq_true rfl) (cSpot.enc t33) rfl) ?_
          intro w1 hS
          refine OJ.nil (EJ.next ?_)
          refine CJ.seq ?_
          refine CJ.region ?_
          refine OJ.pures tU_ok 1 rfl ?_
          refine OJ.nil (EJ.next ?_)
          obtain ⟨j2334, H, K2334⟩ := pbind H
          refine CJ.cut1 (fun F w1 => ∃ (y35 : Arr 10 (Arr 10 Int)) (y36 : List Spot) (A37 : Option Addr) (c38 : Nat), (some (y35, y36) : Option ((Arr 10 (Arr 10 Int)) × (List Spot))) = some j2334 ∧ F = [(1, .slice A37 y36.length c38), (2, .pointer (some ⟨b1, 0, none⟩)), (4, .pointer (some ⟨b2, 0, none⟩)), (5, .pointer (some ⟨b3, 0, none⟩)), (10, .int .i64 y28)] ∧ St w no w1 [box b1 (cPasture.enc a0) 31, box b2 ((carr 10 (carr 10 (ci .i16))).enc (Arr.mk' (Arr.mk' 0 : Arr 10 Int) : Arr 10 (Arr 10 Int))) 106, box b3 ((carr 10 (carr 10 (ci .i16))).enc y35) 106, rowC cSpot A37 c38 34 y36] [roC cSpot Aa1 ca1 a1]) ?_ ?_
          · skip
            refine CJ.block ?_
            refine CJ.loop (fun k F w1 => ∃ (y39 : Arr 10 (Arr 10 Int)) (y40 : List Spot) (y43 : Int) (A41 : Option Addr) (c42 : Nat), F = [(1, .slice A41 y40.length c42), (2, .pointer (some ⟨b1, 0, none⟩)), (4, .pointer (some ⟨b2, 0, none⟩)), (5, .pointer (some ⟨b3, 0, none⟩)), (10, .int .i64 y28), (11, .pointer (some ⟨b34, 0, none⟩)), (52, .int .i64 y43)] ∧ St w no w1 [box b1 (cPasture.enc a0) 31, box b2 ((carr 10 (carr 10 (ci .i16))).enc (Arr.mk' (Arr.mk' 0 : Arr 10 Int) : Arr 10 (Arr 10 Int))) 106, box b3 ((carr 10 (carr 10 (ci .i16))).enc y39) 106, rowC cSpot A41 c42 34 y40, box b34 (cSpot.enc t33) 34] [roC cSpot Aa1 ca1 a1] ∧ impl_Pasture_far.l5 a0 t33 k y39 y40 y43 = some j2334) k (F' := [(1, .slice A26 y25.length c27), (2, .pointer (some ⟨b1, 0, none⟩)), (4, .pointer (some ⟨b2, 0, none⟩)), (5, .pointer (some ⟨b3, 0, none⟩)), (10, .int .i64 y28), (11, .pointer (some ⟨b34, 0, none⟩)), (52, .int .i64 0)]) ⟨rfl, rfl, rfl, rfl, rfl, rfl, rfl, trivial⟩ ⟨y24, y25, 0, A26, c27, rfl, hS.pick [0, 1, 2, 3, 4] [0] rfl, H⟩ ?_
            rintro k F w1 ⟨y39, y40, y43, A41, c42, rfl, hS, H⟩
            cases k with
            | zero => rw [impl_Pasture_far.l5] at H; cases H
            | succ k =>
              rw [impl_Pasture_far.l5] at H
              refine CJ.seq ?_
              refine CJ.region ?_
              refine OJ.pures tU_ok 1 rfl ?_
              refine OJ.nil (EJ.next ?_)
              refine CJ.seq ?_
              refine CJ.cond rfl (fun hb => ?_) (fun hb => ?_)
              · replace H := pif_t (of_decide_eq_true hb) H
                refine CJ.skip (EJ.next ?_)
                refine CJ.seq ?_
                refine CJ.block ?_
                refine CJ.seq ?_
                refine CJ.region ?_
                refine OJ.pures tU_ok 2 rfl ?_
                refine OJ.nil (EJ.next ?_)
                refine CJ.seq ?_
                refine CJ.region ?_
                refine OJ.st rfl rfl rfl (SR.load rfl rfl (fun w' hx => ldE tU_ok tI_ok rfl rfl rfl (CA.ext (hS.cells (i := 4) rfl) hx) rfl)) ?_
                refine OJ.pures tU_ok 1 rfl ?_
                obtain ⟨t44, ht44, H⟩ := pbind H
                refine OJ.callF rfl rfl rfl rfl rfl hb49 rfl (impl_Spot_ahead.c _ t33 y43 _ ht44) ?_
                rintro _ w1 ⟨rfl, hs⟩
                replace hS := hS.grow hs
                refine OJ.ef rfl rfl rfl (Ef.alloc hS tI_ok rfl rfl (cSpot.enc (⟨0, 0⟩ : Spot)) rfl) ?_
                rintro _ w1 ⟨b45, rfl, hS⟩
                refine OJ.es rfl rfl (Es.store tI_ok hS (i := 5) rfl rfl rfl rfl rfl rfl (vs := cSpot.enc t44) rfl (cSpot.len _) (cSpot.one _) (Nat.le_of_ble_eq_true rfl) (cSpot.enc t44) rfl) ?_
                intro w1 hS
                refine OJ.nil (EJ.next ?_)
                obtain ⟨j2337, H, K2337⟩ := pbind H
                refine CJ.cut (fun F w1 => ∃ (y46 : Bool) , (some y46 : Option Bool) = some j2337 ∧ F = [(1, .slice A41 y40.length c42), (2, .pointer (some ⟨b1, 0, none⟩)), (4, .pointer (some ⟨b2, 0, none⟩)), (5, .pointer (some ⟨b3, 0, none⟩)), (10, .int .i64 y28), (11, .pointer (some ⟨b34, 0, none⟩)), (13, .pointer (some ⟨b45, 0, none⟩)), (52, .int .i64 y43), (71, .bool y46)] ∧ St w no w1 [box b1 (cPasture.enc a0) 31, box b2 ((carr 10 (carr 10 (ci .i16))).enc (Arr.mk' (Arr.mk' 0 : Arr 10 Int) : Arr 10 (Arr 10 Int))) 106, box b3 ((carr 10 (carr 10 (ci .i16))).enc y39) 106, rowC cSpot A41 c42 34 y40, box b34 (cSpot.enc t33) 34, box b45 (cSpot.enc t44) 34] [roC cSpot Aa1 ca1 a1]) ?_ ?_
                · skip
                  refine CJ.draw [] [0, 1, 2, 3, 4, 5, 6, 7, 8, 9, 10, 11, 12, 13] mixed (by kernel_rfl) hS fun w1 hS => ?_
                  refine DJ.st rfl rfl rfl rfl rfl (SR.load rfl rfl (fun w' hx => ldE tU_ok tI_ok rfl rfl rfl (CA.ext (hS.cells (i := 0) rfl) hx) rfl)) ?_
                  refine DJ.st rfl rfl rfl rfl rfl (SR.load rfl rfl (fun w' hx => ldE tU_ok tI_ok rfl rfl rfl (CA.ext (hS.cells (i := 4) rfl) hx) rfl)) ?_
                  refine DJ.pures tU_ok 1 rfl ?_
                  obtain ⟨t47, ht47, H⟩ := pbind H
                  refine DJ.callF rfl rfl rfl rfl rfl rfl rfl hb48 rfl (impl_Pasture_canGo.c _ a0 t33 y43 _ ht47) (by rintro v w' ⟨rfl, hs⟩; exact hs) ?_
                  rintro _ w1 ⟨rfl, hs⟩
                  replace hS := hS.grow hs
                  refine DJ.pures tU_ok 1 rfl ?_
                  refine DJ.split (t := 62) rfl (fun hb => ?_) (fun hb => ?_)
                  · replace H := pif_t hb H
                    refine DJ.st rfl rfl rfl rfl rfl (SR.fieldAddr tU_ok tI_ok rfl rfl rfl rfl rfl rfl) ?_
                    refine DJ.st rfl rfl rfl rfl rfl (SR.load rfl rfl (fun w' hx => ld1 tU_ok rfl rfl (CA.ext (CA.sub (hS.cells (i := 5) rfl) 1) hx) rfl)) ?_
                    refine DJ.st rfl rfl rfl rfl rfl (SR.fieldAddr tU_ok tI_ok rfl rfl rfl rfl rfl rfl) ?_
                    refine DJ.st rfl rfl rfl rfl rfl (SR.load rfl rfl (fun w' hx => ld1 tU_ok rfl rfl (CA.ext (CA.sub (hS.cells (i := 5) rfl) 0) hx) rfl)) ?_
                    obtain ⟨t48, ht48, H⟩ := pbind H
                    refine DJ.st rfl rfl rfl rfl rfl (SR.idxA tU_ok tI_ok rfl rfl rfl rfl rfl (Arr.lt ht48)) ?_
                    obtain ⟨t49, ht49, H⟩ := pbind H
                    refine DJ.st rfl rfl rfl rfl rfl (SR.idxA tU_ok tI_ok rfl rfl rfl rfl rfl (Arr.lt ht49)) ?_
                    refine DJ.st rfl rfl rfl rfl rfl (SR.load rfl rfl (fun w' hx => ld1 tU_ok rfl rfl (CA.ext (CA.idx (CA.idx (hS.cells (i := 2) rfl) ht48) ht49) hx) rfl)) ?_
                    refine DJ.pures tU_ok 2 rfl ?_
                    refine DJ.nil ?_
                    exact EJ.meet (F' := [(1, .slice A41 y40.length c42), (2, .pointer (some ⟨b1, 0, none⟩)), (4, .pointer (some ⟨b2, 0, none⟩)), (5, .pointer (some ⟨b3, 0, none⟩)), (10, .int .i64 y28), (11, .pointer (some ⟨b34, 0, none⟩)), (13, .pointer (some ⟨b45, 0, none⟩)), (52, .int .i64 y43), (71, .bool (decide (t49 < 0)))]) ⟨rfl, rfl, rfl, rfl, rfl, rfl, rfl, rfl, rfl, trivial⟩ ⟨(decide (t49 < 0)), H, rfl, hS.pick [0, 1, 2, 3, 4, 5] [0] rfl⟩
                  · replace H := pifb_f hb H
                    refine DJ.pures tU_ok 9 rfl ?_
                    refine DJ.nil ?_
                    exact EJ.meet (F' := [(1, .slice A41 y40.length c42), (2, .pointer (some ⟨b1, 0, none⟩)), (4, .pointer (some ⟨b2, 0, none⟩)), (5, .pointer (some ⟨b3, 0, none⟩)), (10, .int .i64 y28), (11, .pointer (some ⟨b34, 0, none⟩)), (13, .pointer (some ⟨b45, 0, none⟩)), (52, .int .i64 y43), (71, .bool false)]) ⟨rfl, rfl, rfl, rfl, rfl, rfl, rfl, rfl, rfl, trivial⟩ ⟨false, H, rfl, hS.pick [0, 1, 2, 3, 4, 5] [0] rfl⟩
                · rintro F w1 ⟨y46, he, rfl, hS⟩
                  obtain rfl := Option.some.inj he
                  have H := K2337
                  refine CJ.cond rfl (fun hb => ?_) (fun hb => ?_)
                  · replace H := pif_t hb H
                    refine CJ.seq ?_
                    refine CJ.draw [] [0, 1, 2, 3, 4, 5, 6, 7, 8, 9, 10, 11, 12, 13, 14] mixed (by kernel_rfl) hS fun w1 hS => ?_
                    refine DJ.st rfl rfl rfl rfl rfl (SR.fieldAddr tU_ok tI_ok rfl rfl rfl rfl rfl rfl) ?_
                    refine DJ.st rfl rfl rfl rfl rfl (SR.load rfl rfl (fun w' hx => ld1 tU_ok rfl rfl (CA.ext (CA.sub (hS.cells (i := 5) rfl) 1) hx) rfl)) ?_
                    refine DJ.st rfl rfl rfl rfl rfl (SR.fieldAddr tU_ok tI_ok rfl rfl rfl rfl rfl rfl) ?_
                    refine DJ.st rfl rfl rfl rfl rfl (SR.load rfl rfl (fun w' hx => ld1 tU_ok rfl rfl (CA.ext (CA.sub (hS.cells (i := 5) rfl) 0) hx) rfl)) ?_
                    refine DJ.st rfl rfl rfl rfl rfl (SR.fieldAddr tU_ok tI_ok rfl rfl rfl rfl rfl rfl) ?_
                    refine DJ.st rfl rfl rfl rfl rfl (SR.load rfl rfl (fun w' hx => ld1 tU_ok rfl rfl (CA.ext (CA.sub (hS.cells (i := 4) rfl) 1) hx) rfl)) ?_
                    refine DJ.st rfl rfl rfl rfl rfl (SR.fieldAddr tU_ok tI_ok rfl rfl rfl rfl rfl rfl) ?_
                    refine DJ.st rfl rfl rfl rfl rfl (SR.load rfl rfl (fun w' hx => ld1 tU_ok rfl rfl (CA.ext (CA.sub (hS.cells (i := 4) rfl) 0) hx) rfl)) ?_
                    obtain ⟨t50, ht50, H⟩ := pbind H
                    refine DJ.st rfl rfl rfl rfl rfl (SR.idxA tU_ok tI_ok rfl rfl rfl rfl rfl (Arr.lt ht50)) ?_
                    obtain ⟨t51, ht51, H⟩ := pbind H
                    refine DJ.st rfl rfl rfl rfl rfl (SR.idxA tU_ok tI_ok rfl rfl rfl rfl rfl (Arr.lt ht51)) ?_
                    refine DJ.st rfl rfl rfl rfl rfl (SR.load rfl rfl (fun w' hx => ld1 tU_ok rfl rfl (CA.ext (CA.idx (CA.idx (hS.cells (i := 2) rfl) ht50) ht51) hx) rfl)) ?_
                    refine DJ.pures tU_ok 1 rfl ?_
                    obtain ⟨t52, ht52, H⟩ := pbind H
                    refine DJ.st rfl rfl rfl rfl rfl (SR.idxA tU_ok tI_ok rfl rfl rfl rfl rfl (Arr.lt ht52)) ?_
                    obtain ⟨t53, ht53, H⟩ := pbind H
                    refine DJ.st rfl rfl rfl rfl rfl (SR.idxA tU_ok tI_ok rfl rfl rfl rfl rfl (Arr.lt ht53)) ?_
                    refine DJ.es rfl rfl rfl rfl (Es.put tI_ok hS (i := 2) rfl rfl rfl rfl rfl (vs := (ci .i16).enc (IntKind.i16.wrap (t51 + 1))) rfl rfl (one1 rfl) (Put.idx (Put.idx (Put.all (ci .i16) t53 (IntKind.i16.wrap (t51 + 1))) ht53) ht52) (by (try simp only [add_lit, Nat.add_assoc, Nat.zero_add, Nat.add_zero]) <;> rfl)) ?_
                    intro w1 hS
                    refine DJ.nil (EJ.next ?_)
                    refine CJ.region ?_
                    refine OJ.pures tU_ok 1 rfl ?_
                    refine OJ.st rfl rfl rfl (SR.load rfl rfl (fun w' hx => ldE tU_ok tI_ok rfl rfl rfl (CA.ext (hS.cells (i := 5) rfl) hx) rfl)) ?_
                    refine OJ.ef rfl rfl rfl (Ef.lit tU_ok tI_ok hS (C := cSpot) rfl rfl rfl rfl rfl rfl ([t44] : List Spot) rfl rfl rfl rfl) ?_
                    rintro _ w1 ⟨A54, rfl, hS⟩
                    obtain ⟨u55, hu55, H⟩ := pbind H
                    refine OJ.ew rfl rfl rfl (Ew.append tU_ok tI_ok (C := cSpot) (xs := y40) (ys := ([t44] : List Spot)) hS (i := 3) rfl rfl rfl rfl rfl rfl rfl rfl rfl rfl rfl rfl rfl (hS.rd (i := 6) rfl) (chk_some hu55)) ?_
                    rintro _ w1 ⟨A56, c57, rfl, hS⟩
                    refine OJ.pures tU_ok 1 rfl ?_
                    refine OJ.nil (EJ.blk (EJ.next ?_))
                    refine CJ.region ?_
                    refine OJ.pures tU_ok 2 rfl ?_
                    refine OJ.nil ?_
                    exact EJ.round k (F' := [(1, .slice A56 (y40 ++ ([t44] : List Spot)).length c57), (2, .pointer (some ⟨b1, 0, none⟩)), (4, .pointer (some ⟨b2, 0, none⟩)), (5, .pointer (some ⟨b3, 0, none⟩)), (10, .int .i64 y28), (11, .pointer (some ⟨b34, 0, none⟩)), (52, .int .i64 (IntKind.i64.wrap (y43 + 1)))]) ⟨rfl, rfl, rfl, rfl, rfl, rfl, rfl, trivial⟩ (Nat.lt_succ_self _) ⟨(aset y39 t44.Y.toNat (aset t52 t44.X.toNat (IntKind.i16.wrap (t51 + 1)))), (y40 ++ ([t44] : List Spot)), (IntKind.i64.wrap (y43 + 1)), A56, c57, rfl, hS.pick [0, 1, 2, 3, 4] [0] rfl, H⟩
                  · replace H := pifb_f hb H
                    refine CJ.skip (EJ.blk (EJ.next ?_))
                    refine CJ.region ?_
                    refine OJ.pures tU_ok 2 rfl ?_
                    refine OJ.nil ?_
                    exact EJ.round k (F' := [(1, .slice A41 y40.length c42), (2, .pointer (some ⟨b1, 0, none⟩)), (4, .pointer (some ⟨b2, 0, none⟩)), (5, .pointer (some ⟨b3, 0, none⟩)), (10, .int .i64 y28), (11, .pointer (some ⟨b34, 0, none⟩)), (52, .int .i64 (IntKind.i64.wrap (y43 + 1)))]) ⟨rfl, rfl, rfl, rfl, rfl, rfl, rfl, trivial⟩ (Nat.lt_succ_self _) ⟨y39, y40, (IntKind.i64.wrap (y43 + 1)), A41, c42, rfl, hS.pick [0, 1, 2, 3, 4] [0] rfl, H⟩
              · replace H := pif_f (of_decide_eq_false hb) H
                refine CJ.exit (EJ.skE (EJ.skE (EJ.hit (?_))))
                exact EJ.meet (F' := [(1, .slice A41 y40.length c42), (2, .pointer (some ⟨b1, 0, none⟩)), (4, .pointer (some ⟨b2, 0, none⟩)), (5, .pointer (some ⟨b3, 0, none⟩)), (10, .int .i64 y28)]) ⟨rfl, rfl, rfl, rfl, rfl, trivial⟩ ⟨y39, y40, A41, c42, H, rfl, hS.pick [0, 1, 2, 3] [0] rfl⟩
          · rintro F w1 ⟨y35, y36, A37, c38, he, rfl, hS⟩
            obtain rfl := Option.some.inj he
            have H := K2334
            refine EJ.blk (?_)
            exact EJ.meet (F' := [(1, .slice A37 y36.length c38), (2, .pointer (some ⟨b1, 0, none⟩)), (4, .pointer (some ⟨b2, 0, none⟩)), (5, .pointer (some ⟨b3, 0, none⟩)), (10, .int .i64 y28)]) ⟨rfl, rfl, rfl, rfl, rfl, trivial⟩ ⟨y35, y36, A37, c38, H, rfl, hS.pick [0, 1, 2, 3] [0] rfl⟩
        · rintro F w1 ⟨y29, y30, A31, c32, he, rfl, hS⟩
          obtain rfl := Option.some.inj he
          have H := K2329
          refine CJ.region ?_
          refine OJ.pures tU_ok 3 rfl ?_
          refine OJ.nil ?_
          exact EJ.round k (F' := [(1, .slice A31 y30.length c32), (2, .pointer (some ⟨b1, 0, none⟩)), (4, .pointer (some ⟨b2, 0, none⟩)), (5, .pointer (some ⟨b3, 0, none⟩)), (10, .int .i64 (IntKind.i64.wrap (y28 + 1)))]) ⟨rfl, rfl, rfl, rfl, rfl, trivial⟩ (Nat.lt_succ_self _) ⟨y29, y30, (IntKind.i64.wrap (y28 + 1)), A31, c32, rfl, hS.pick [0, 1, 2, 3] [0] rfl, H⟩
      · replace H := pif_f (of_decide_eq_false hb) H
        refine CJ.exit (EJ.skE (EJ.skE (EJ.hit (?_))))
        exact EJ.meet (F' := [(4, .pointer (some ⟨b2, 0, none⟩)), (5, .pointer (some ⟨b3, 0, none⟩))]) ⟨rfl, rfl, trivial⟩ ⟨y24, H, rfl, hS.pick [1, 2] [0] rfl⟩
  rintro F w1 ⟨y23, he, rfl, hS⟩
  obtain rfl := Option.some.inj he
  have H := K2310
  refine EJ.next ?_
  refine CJ.seq ?_
  refine CJ.region ?_
  refine OJ.st rfl rfl rfl (SR.load rfl rfl (fun w' hx => ldE tU_ok tI_ok rfl rfl rfl (CA.ext (hS.cells (i := 1) rfl) hx) rfl)) ?_
  refine OJ.es rfl rfl (Es.put tI_ok hS (i := 0) rfl rfl rfl rfl rfl (vs := (carr 10 (carr 10 (ci .i16))).enc y23) rfl ((carr 10 (carr 10 (ci .i16))).len _) ((carr 10 (carr 10 (ci .i16))).one _) (Put.all (carr 10 (carr 10 (ci .i16))) (Arr.mk' (Arr.mk' 0 : Arr 10 Int) : Arr 10 (Arr 10 Int)) y23) (by (try simp only [add_lit, Nat.add_assoc, Nat.zero_add, Nat.add_zero]) <;> rfl)) ?_
  intro w1 hS
  refine OJ.nil (EJ.next ?_)
  refine CJ.ret (?_)
  obtain rfl := Option.some.inj H
  exact EJ.fin rfl (.cell rfl (ldE tU_ok tI_ok rfl rfl rfl (hS.cells (i := 0) rfl) rfl) .nil) ⟨rfl, hS.ext⟩

def impl_Pasture_cells.l2 (a0 : Pasture) (a1 : Spot → Option Bool) (y9 : Int) : Nat → (List Spot) → Int → Option (List Spot)
  | 0, _, _ => none
  | k + 1, y16, y19 => if y19 < a0.Wide then ((a1 (⟨y19, y9⟩ : Spot)).bind fun t21 => if t21 = true then ((chk (y16.length + ([(⟨y19, y9⟩ : Spot)] : List Spot).length ≤ 4294967296)).bind fun u23 => impl_Pasture_cells.l2 a0 a1 y9 k (y16 ++ ([(⟨y19, y9⟩ : Spot)] : List Spot)) (IntKind.i8.wrap (y19 + 1))) else (impl_Pasture_cells.l2 a0 a1 y9 k y16 (IntKind.i8.wrap (y19 + 1)))) else (some y16)
def impl_Pasture_cells.l1 (a0 : Pasture) (a1 : Spot → Option Bool) : Nat → (List Spot) → Int → Option (List Spot)
  | 0, _, _ => none
  | k + 1, y6, y9 => if y9 < a0.High then (((impl_Pasture_cells.l2 a0 a1 y9 k y6 0).bind fun y13 => some y13).bind fun y10 => impl_Pasture_cells.l1 a0 a1 k y10 (IntKind.i8.wrap (y9 + 1))) else (some y6)
def impl_Pasture_cells.f (k : Nat) (a0 : Pasture) (a1 : Spot → Option Bool) : Option (List Spot) := (impl_Pasture_cells.l1 a0 a1 k ([] : List Spot) 0).bind fun y3 => some y3
theorem impl_Pasture_cells.c (k : Nat) (w : World) (a0 : Pasture) (na1 : Nat) (fsa1 capa1 : Array Value) (hb1 : hasBody Tryz.prog na1) (a1 : Spot → Option Bool) (hf1 : ∀ (z0 : Spot) (r : Bool), a1 z0 = some r → ∀ w', Chg no w w' → CV Tryz.prog na1 (fsa1 ++ [.agg (cSpot.enc z0).toArray].toArray ++ capa1) w' fun v w'' => v = .bool r ∧ Ext w' w'') (r : List Spot) (H : impl_Pasture_cells.f k a0 a1 = some r) :
    CV Tryz.prog 68 [.agg (cPasture.enc a0).toArray, .func (.func na1) fsa1 capa1].toArray w fun v w' => ∃ (A0 : Option Addr) (c0 : Nat), v = .slice A0 r.length c0 ∧ St w no w' [rowC cSpot A0 c0 34 r] [] := by
  have hS := (St.init w no)
  unfold impl_Pasture_cells.f at H
  refine CV.body Tryz.func68 rfl Tryz.ntmps68 rfl ?_
  refine CJ.seq ?_
  refine CJ.region ?_
  refine OJ.ef rfl rfl rfl (Ef.box hS rfl rfl (cPasture.enc a0) rfl) ?_
  rintro _ w1 ⟨b1, rfl, hS⟩
  refine OJ.pures tU_ok 1 rfl ?_
  refine OJ.nil (EJ.next ?_)
  refine CJ.seq ?_
  refine CJ.region ?_
  refine OJ.ef rfl rfl rfl (Ef.lit tU_ok tI_ok hS (C := cSpot) rfl rfl rfl rfl rfl rfl ([] : List Spot) rfl rfl rfl rfl) ?_
  rintro _ w1 ⟨A2, rfl, hS⟩
  refine OJ.pures tU_ok 1 rfl ?_
  refine OJ.nil (EJ.next ?_)
  refine CJ.seq ?_
  refine CJ.seq ?_
  refine CJ.region ?_
  refine OJ.st rfl rfl rfl (SR.fieldAddr tU_ok tI_ok rfl rfl rfl rfl rfl rfl) ?_
  refine OJ.st rfl rfl rfl (SR.load rfl rfl (fun w' hx => ld1 tU_ok rfl rfl (CA.ext (CA.fld (hS.cells (i := 0) rfl) (mid_part (fe_Pasture_1 _) (fl_Pasture_1 _) ((ci .i8).len _))) hx) rfl)) ?_
  refine OJ.pures tU_ok 1 rfl ?_
  refine OJ.nil (EJ.next ?_)
  obtain ⟨j2338, H, K2338⟩ := pbind H
  refine CJ.cut1 (fun F w1 => ∃ (y3 : List Spot) (A4 : Option Addr) (c5 : Nat), (some y3 : Option (List Spot)) = some j2338 ∧ F = [(5, .slice A4 y3.length c5)] ∧ St w no w1 [rowC cSpot A4 c5 34 y3] []) ?_ ?_
  · skip
    refine CJ.block ?_
    refine CJ.loop (fun k F w1 => ∃ (y6 : List Spot) (y9 : Int) (A7 : Option Addr) (c8 : Nat), F = [(1, .func (.func na1) fsa1 capa1), (2, .pointer (some ⟨b1, 0, none⟩)), (5, .slice A7 y6.length c8), (11, .int .i8 a0.High), (12, .int .i8 y9)] ∧ St w no w1 [box b1 (cPasture.enc a0) 31, rowC cSpot A7 c8 34 y6] [] ∧ impl_Pasture_cells.l1 a0 a1 k y6 y9 = some j2338) k (F' := [(1, .func (.func na1) fsa1 capa1), (2, .pointer (some ⟨b1, 0, none⟩)), (5, .slice A2 ([] : List Spot).length (([] : List Spot).length)), (11, .int .i8 a0.High), (12, .int .i8 0)]) ⟨rfl, rfl, rfl, rfl, rfl, trivial⟩ ⟨([] : List Spot), 0, A2, (([] : List Spot).length), rfl, hS.pick [0, 1] [] rfl, H⟩ ?_
    rintro k F w1 ⟨y6, y9, A7, c8, rfl, hS, H⟩
    cases k with
    | zero => rw [impl_Pasture_cells.l1] at H; cases H
    | succ k =>
      rw [impl_Pasture_cells.l1] at H
      refine CJ.seq ?_
      refine CJ.region ?_
      refine OJ.pures tU_ok 1 rfl ?_
      refine OJ.nil (EJ.next ?_)
      refine CJ.seq ?_
      refine CJ.cond rfl (fun hb => ?_) (fun hb => ?_)
      · replace H := pif_t (of_decide_eq_true hb) H
        refine CJ.skip (EJ.next ?_)
        obtain ⟨j2345, H, K2345⟩ := pbind H
        refine CJ.cut (fun F w1 => ∃ (y10 : List Spot) (A11 : Option Addr) (c12 : Nat), (some y10 : Option (List Spot)) = some j2345 ∧ F = [(1, .func (.func na1) fsa1 capa1), (2, .pointer (some ⟨b1, 0, none⟩)), (5, .slice A11 y10.length c12), (11, .int .i8 a0.High), (12, .int .i8 y9)] ∧ St w no w1 [box b1 (cPasture.enc a0) 31, rowC cSpot A11 c12 34 y10] []) ?_ ?_
        · skip
          refine CJ.block ?_
          refine CJ.seq ?_
          refine CJ.region ?_
          refine OJ.pures tU_ok 2 rfl ?_
          refine OJ.nil (EJ.next ?_)
          refine CJ.seq ?_
          refine CJ.region ?_
          refine OJ.st rfl rfl rfl (SR.fieldAddr tU_ok tI_ok rfl rfl rfl rfl rfl rfl) ?_
          refine OJ.st rfl rfl rfl (SR.load rfl rfl (fun w' hx => ld1 tU_ok rfl rfl (CA.ext (CA.fld (hS.cells (i := 0) rfl) (mid_part (fe_Pasture_0 _) (fl_Pasture_0 _) ((ci .i8).len _))) hx) rfl)) ?_
          refine OJ.pures tU_ok 1 rfl ?_
          refine OJ.nil (EJ.next ?_)
          obtain ⟨j2347, H, K2347⟩ := pbind H
          refine CJ.cut1 (fun F w1 => ∃ (y13 : List Spot) (A14 : Option Addr) (c15 : Nat), (some y13 : Option (List Spot)) = some j2347 ∧ F = [(1, .func (.func na1) fsa1 capa1), (2, .pointer (some ⟨b1, 0, none⟩)), (5, .slice A14 y13.length c15), (11, .int .i8 a0.High), (12, .int .i8 y9)] ∧ St w no w1 [box b1 (cPasture.enc a0) 31, rowC cSpot A14 c15 34 y13] []) ?_ ?_
          · skip
            refine CJ.block ?_
            refine CJ.loop (fun k F w1 => ∃ (y16 : List Spot) (y19 : Int) (A17 : Option Addr) (c18 : Nat), F = [(1, .func (.func na1) fsa1 capa1), (2, .pointer (some ⟨b1, 0, none⟩)), (5, .slice A17 y16.length c18), (6, .int .i8 y9), (11, .int .i8 a0.High), (12, .int .i8 y9), (16, .int .i8 a0.Wide), (17, .int .i8 y19)] ∧ St w no w1 [box b1 (cPasture.enc a0) 31, rowC cSpot A17 c18 34 y16] [] ∧ impl_Pasture_cells.l2 a0 a1 y9 k y16 y19 = some j2347) k (F' := [(1, .func (.func na1) fsa1 capa1), (2, .pointer (some ⟨b1, 0, none⟩)), (5, .slice A7 y6.length c8), (6, .int .i8 y9), (11, .int .i8 a0.High), (12, .int .i8 y9), (16, .int .i8 a0.Wide), (17, .int .i8 0)]) ⟨rfl, rfl, rfl, rfl, rfl, rfl, rfl, rfl, trivial⟩ ⟨y6, 0, A7, c8, rfl, hS.pick [0, 1] [] rfl, H⟩ ?_
            rintro k F w1 ⟨y16, y19, A17, c18, rfl, hS, H⟩
            cases k with
            | zero => rw [impl_Pasture_cells.l2] at H; cases H
            | succ k =>
              rw [impl_Pasture_cells.l2] at H
              refine CJ.seq ?_
              refine CJ.region ?_
              refine OJ.pures tU_ok 1 rfl ?_
              refine OJ.nil (EJ.next ?_)
              refine CJ.seq ?_
              refine CJ.cond rfl (fun hb => ?_) (fun hb => ?_)
              · replace H := pif_t (of_decide_eq_true hb) H
                refine CJ.skip (EJ.next ?_)
                refine CJ.seq ?_
                refine CJ.block ?_
                refine CJ.seq ?_
                refine CJ.region ?_
                refine OJ.pures tU_ok 2 rfl ?_
                refine OJ.nil (EJ.next ?_)
                refine CJ.seq ?_
                refine CJ.region ?_
                refine OJ.pures tU_ok 2 rfl ?_
                refine OJ.st rfl rfl rfl (SR.build (C := cSpot) tU_ok tI_ok rfl rfl rfl (zs := [.int .i8 0, .int .i8 0]) rfl rfl rfl (⟨y19, y9⟩ : Spot) rfl) ?_
                refine OJ.ef rfl rfl rfl (Ef.alloc hS tI_ok rfl rfl (cSpot.enc (⟨0, 0⟩ : Spot)) rfl) ?_
                rintro _ w1 ⟨b20, rfl, hS⟩
                refine OJ.es rfl rfl (Es.store tI_ok hS (i := 2) rfl rfl rfl rfl rfl rfl (vs := cSpot.enc (⟨y19, y9⟩ : Spot)) rfl (cSpot.len _) (cSpot.one _) (Nat.le_of_ble_eq_true rfl) (cSpot.enc (⟨y19, y9⟩ : Spot)) rfl) ?_
                intro w1 hS
                refine OJ.nil (EJ.next ?_)
                refine CJ.seq ?_
                refine CJ.region ?_
                refine OJ.pures tU_ok 1 rfl ?_
                refine OJ.st rfl rfl rfl (SR.load rfl rfl (fun w' hx => ldE tU_ok tI_ok rfl rfl rfl (CA.ext (hS.cells (i := 2) rfl) hx) rfl)) ?_
                obtain ⟨t21, ht21, H⟩ := pbind H
                refine OJ.call rfl rfl (Nat.le_of_ble_eq_true rfl) rfl rfl rfl hb1 rfl (hf1 (⟨y19, y9⟩ : Spot) _ ht21 _ hS.chg) ?_
                rintro _ w1 ⟨rfl, hs⟩
                replace hS := hS.grow hs
                refine OJ.nil (EJ.next ?_)
                refine CJ.cond rfl (fun hb => ?_) (fun hb => ?_)
                · replace H := pif_t hb H
                  refine CJ.region ?_
                  refine OJ.pures tU_ok 1 rfl ?_
                  refine OJ.st rfl rfl rfl (SR.load rfl rfl (fun w' hx => ldE tU_ok tI_ok rfl rfl rfl (CA.ext (hS.cells (i := 2) rfl) hx) rfl)) ?_
                  refine OJ.ef rfl rfl rfl (Ef.lit tU_ok tI_ok hS (C := cSpot) rfl rfl rfl rfl rfl rfl ([(⟨y19, y9⟩ : Spot)] : List Spot) rfl rfl rfl rfl) ?_
                  rintro _ w1 ⟨A22, rfl, hS⟩
                  obtain ⟨u23, hu23, H⟩ := pbind H
                  refine OJ.ew rfl rfl rfl (Ew.append tU_ok tI_ok (C := cSpot) (xs := y16) (ys := ([(⟨y19, y9⟩ : Spot)] : List Spot)) hS (i := 1) rfl rfl rfl rfl rfl rfl rfl rfl rfl rfl rfl rfl rfl (hS.rd (i := 3) rfl) (chk_some hu23)) ?_
                  rintro _ w1 ⟨A24, c25, rfl, hS⟩
                  refine OJ.pures tU_ok 1 rfl ?_
                  refine OJ.nil (EJ.blk (EJ.next ?_))
                  refine CJ.region ?_
                  refine OJ.pures tU_ok 2 rfl ?_
                  refine OJ.nil ?_
                  exact EJ.round k (F' := [(1, .func (.func na1) fsa1 capa1), (2, .pointer (some ⟨b1, 0, none⟩)), (5, .slice A24 (y16 ++ ([(⟨y19, y9⟩ : Spot)] : List Spot)).length c25), (6, .int .i8 y9), (11, .int .i8 a0.High), (12, .int .i8 y9), (16, .int .i8 a0.Wide), (17, .int .i8 (IntKind.i8.wrap (y19 + 1)))]) ⟨rfl, rfl, rfl, rfl, rfl, rfl, rfl, rfl, trivial⟩ (Nat.lt_succ_self _) ⟨(y16 ++ ([(⟨y19, y9⟩ : Spot)] : List Spot)), (IntKind.i8.wrap (y19 + 1)), A24, c25, rfl, hS.pick [0, 1] [] rfl, H⟩
                · replace H := pifb_f hb H
                  refine CJ.skip (EJ.blk (EJ.next ?_))
                  refine CJ.region ?_
                  refine OJ.pures tU_ok 2 rfl ?_
                  refine OJ.nil ?_
                  exact EJ.round k (F' := [(1, .func (.func na1) fsa1 capa1), (2, .pointer (some ⟨b1, 0, none⟩)), (5, .slice A17 y16.length c18), (6, .int .i8 y9), (11, .int .i8 a0.High), (12, .int .i8 y9), (16, .int .i8 a0.Wide), (17, .int .i8 (IntKind.i8.wrap (y19 + 1)))]) ⟨rfl, rfl, rfl, rfl, rfl, rfl, rfl, rfl, trivial⟩ (Nat.lt_succ_self _) ⟨y16, (IntKind.i8.wrap (y19 + 1)), A17, c18, rfl, hS.pick [0, 1] [] rfl, H⟩
              · replace H := pif_f (of_decide_eq_false hb) H
                refine CJ.exit (EJ.skE (EJ.skE (EJ.hit (?_))))
                exact EJ.meet (F' := [(1, .func (.func na1) fsa1 capa1), (2, .pointer (some ⟨b1, 0, none⟩)), (5, .slice A17 y16.length c18), (11, .int .i8 a0.High), (12, .int .i8 y9)]) ⟨rfl, rfl, rfl, rfl, rfl, trivial⟩ ⟨y16, A17, c18, H, rfl, hS.pick [0, 1] [] rfl⟩
          · rintro F w1 ⟨y13, A14, c15, he, rfl, hS⟩
            obtain rfl := Option.some.inj he
            have H := K2347
            refine EJ.blk (?_)
            exact EJ.meet (F' := [(1, .func (.func na1) fsa1 capa1), (2, .pointer (some ⟨b1, 0, none⟩)), (5, .slice A14 y13.length c15), (11, .int .i8 a0.High), (12, .int .i8 y9)]) ⟨rfl, rfl, rfl, rfl, rfl, trivial⟩ ⟨y13, A14, c15, H, rfl, hS.pick [0, 1] [] rfl⟩
        · rintro F w1 ⟨y10, A11, c12, he, rfl, hS⟩
          obtain rfl := Option.some.inj he
          have H := K2345
          refine CJ.region ?_
          refine OJ.pures tU_ok 2 rfl ?_
          refine OJ.nil ?_
          exact EJ.round k (F' := [(1, .func (.func na1) fsa1 capa1), (2, .pointer (some ⟨b1, 0, none⟩)), (5, .slice A11 y10.length c12), (11, .int .i8 a0.High), (12, .int .i8 (IntKind.i8.wrap (y9 + 1)))]) ⟨rfl, rfl, rfl, rfl, rfl, trivial⟩ (Nat.lt_succ_self _) ⟨y10, (IntKind.i8.wrap (y9 + 1)), A11, c12, rfl, hS.pick [0, 1] [] rfl, H⟩
      · replace H := pif_f (of_decide_eq_false hb) H
        refine CJ.exit (EJ.skE (EJ.skE (EJ.hit (?_))))
        exact EJ.meet (F' := [(5, .slice A7 y6.length c8)]) ⟨rfl, trivial⟩ ⟨y6, A7, c8, H, rfl, hS.pick [1] [] rfl⟩
  rintro F w1 ⟨y3, A4, c5, he, rfl, hS⟩
  obtain rfl := Option.some.inj he
  have H := K2338
  refine EJ.next ?_
  refine CJ.seq ?_
  refine CJ.region ?_
  refine OJ.pures tU_ok 2 rfl ?_
  refine OJ.nil (EJ.next ?_)
  refine CJ.ret (?_)
  obtain rfl := Option.some.inj H
  exact EJ.fin rfl (.tmp rfl .nil) ⟨A4, c5, rfl, hS.pick [0] [] rfl⟩

def impl_steps_at.f (a0 : Arr 10 (Arr 10 Int)) (a1 : Spot) : Option Int := (getI a0.l a1.Y).bind fun t2 => (getI t2.l a1.X).bind fun t3 => some (IntKind.i64.wrap t3)
theorem impl_steps_at.c (w : World) (pa0 : Addr) (a0 : Arr 10 (Arr 10 Int)) (hp0 : CA w pa0 ((carr 10 (carr 10 (ci .i16))).enc a0)) (a1 : Spot) (r : Int) (H : impl_steps_at.f a0 a1 = some r) :
    CV Tryz.prog 70 [.pointer (some pa0), .agg (cSpot.enc a1).toArray].toArray w fun v w' => v = .int .i64 r ∧ Ext w w' := by
  have hS := ((St.init w no).paramP pa0 ((carr 10 (carr 10 (ci .i16))).enc a0) hp0)
  unfold impl_steps_at.f at H
  refine CV.body Tryz.func70 rfl Tryz.ntmps70 rfl ?_
  refine CJ.seq ?_
  refine CJ.region ?_
  refine OJ.ef rfl rfl rfl (Ef.box hS rfl rfl (cSpot.enc a1) rfl) ?_
  rintro _ w1 ⟨b1, rfl, hS⟩
  refine OJ.pures tU_ok 1 rfl ?_
  refine OJ.nil (EJ.next ?_)
  refine CJ.seq ?_
  refine CJ.draw [] [0, 1, 2, 3, 4, 5, 6, 7, 8, 9, 10] mixed (by kernel_rfl) hS fun w1 hS => ?_
  refine DJ.pures tU_ok 1 rfl ?_
  refine DJ.st rfl rfl rfl rfl rfl (SR.fieldAddr tU_ok tI_ok rfl rfl rfl rfl rfl rfl) ?_
  refine DJ.st rfl rfl rfl rfl rfl (SR.load rfl rfl (fun w' hx => ld1 tU_ok rfl rfl (CA.ext (CA.sub (hS.cells (i := 0) rfl) 1) hx) rfl)) ?_
  refine DJ.st rfl rfl rfl rfl rfl (SR.fieldAddr tU_ok tI_ok rfl rfl rfl rfl rfl rfl) ?_
  refine DJ.st rfl rfl rfl rfl rfl (SR.load rfl rfl (fun w' hx => ld1 tU_ok rfl rfl (CA.ext (CA.sub (hS.cells (i := 0) rfl) 0) hx) rfl)) ?_
  refine DJ.pures tU_ok 1 rfl ?_
  obtain ⟨t2, ht2, H⟩ := pbind H
  refine DJ.st rfl rfl rfl rfl rfl (SR.idxA tU_ok tI_ok rfl rfl rfl rfl rfl (Arr.lt ht2)) ?_
  obtain ⟨t3, ht3, H⟩ := pbind H
  refine DJ.st rfl rfl rfl rfl rfl (SR.idxA tU_ok tI_ok rfl rfl rfl rfl rfl (Arr.lt ht3)) ?_
  refine DJ.st rfl rfl rfl rfl rfl (SR.load rfl rfl (fun w' hx => ld1 tU_ok rfl rfl (CA.ext (CA.idx (CA.idx (hS.ca (i := 0) rfl) ht2) ht3) hx) rfl)) ?_
  refine DJ.pures tU_ok 2 rfl ?_
  refine DJ.nil (EJ.next ?_)
  refine CJ.ret (?_)
  obtain rfl := Option.some.inj H
  exact EJ.fin rfl (.tmp rfl .nil) ⟨rfl, hS.ext⟩

def impl_Pasture_yard_1.f (a1 : Arr 10 (Arr 10 Int)) (a0 : Spot) : Option Bool := (impl_steps_at.f a1 a0).bind fun t2 => some (decide (0 ≤ t2))
theorem impl_Pasture_yard_1.c (w : World) (pa1 : Addr) (a1 : Arr 10 (Arr 10 Int)) (hp1 : CA w pa1 ((carr 10 (carr 10 (ci .i16))).enc a1)) (a0 : Spot) (r : Bool) (H : impl_Pasture_yard_1.f a1 a0 = some r) :
    CV Tryz.prog 69 [.agg (cSpot.enc a0).toArray, .pointer (some pa1)].toArray w fun v w' => v = .bool r ∧ Ext w w' := by
  have hS := ((St.init w no).paramP pa1 ((carr 10 (carr 10 (ci .i16))).enc a1) hp1)
  unfold impl_Pasture_yard_1.f at H
  refine CV.body Tryz.func69 rfl Tryz.ntmps69 rfl ?_
  refine CJ.seq ?_
  refine CJ.region ?_
  refine OJ.ef rfl rfl rfl (Ef.box hS rfl rfl (cSpot.enc a0) rfl) ?_
  rintro _ w1 ⟨b1, rfl, hS⟩
  refine OJ.pures tU_ok 1 rfl ?_
  refine OJ.nil (EJ.next ?_)
  refine CJ.seq ?_
  refine CJ.region ?_
  refine OJ.st rfl rfl rfl (SR.load rfl rfl (fun w' hx => ldE tU_ok tI_ok rfl rfl rfl (CA.ext (hS.cells (i := 0) rfl) hx) rfl)) ?_
  obtain ⟨t2, ht2, H⟩ := pbind H
  refine OJ.callF rfl rfl rfl rfl rfl hb70 rfl (impl_steps_at.c _ _ a1 (hS.ca (i := 0) rfl) a0 _ ht2) ?_
  rintro _ w1 ⟨rfl, hs⟩
  replace hS := hS.grow hs
  refine OJ.pures tU_ok 2 rfl ?_
  refine OJ.nil (EJ.next ?_)
  refine CJ.ret (?_)
  obtain rfl := Option.some.inj H
  exact EJ.fin rfl (.tmp rfl .nil) ⟨rfl, hS.ext⟩

def impl_Pasture_yard.f (k : Nat) (a0 : Pasture) (a1 : Spot) : Option (List Spot) := (impl_Pasture_far.f k a0 ([a1] : List Spot)).bind fun t4 => (impl_Pasture_cells.f k a0 (impl_Pasture_yard_1.f t4)).bind fun t6 => some t6
theorem impl_Pasture_yard.c (k : Nat) (w : World) (a0 : Pasture) (a1 : Spot) (r : List Spot) (H : impl_Pasture_yard.f k a0 a1 = some r) :
    CV Tryz.prog 37 [.agg (cPasture.enc a0).toArray, .agg (cSpot.enc a1).toArray].toArray w fun v w' => ∃ (A0 : Option Addr) (c0 : Nat), v = .slice A0 r.length c0 ∧ St w no w' [rowC cSpot A0 c0 34 r] [] := by
  have hS := (St.init w no)
  unfold impl_Pasture_yard.f at H
  refine CV.body Tryz.func37 rfl Tryz.ntmps37 rfl ?_
  refine CJ.seq ?_
  refine CJ.region ?_
  refine OJ.ef rfl rfl rfl (Ef.box hS rfl rfl (cPasture.enc a0) rfl) ?_
  rintro _ w1 ⟨b1, rfl, hS⟩
  refine OJ.ef rfl rfl rfl (Ef.box hS rfl rfl (cSpot.enc a1) rfl) ?_
  rintro _ w1 ⟨b2, rfl, hS⟩
  refine OJ.pures tU_ok 1 rfl ?_
  refine OJ.nil (EJ.next ?_)
  refine CJ.seq ?_
  refine CJ.region ?_
  refine OJ.st rfl rfl rfl (SR.load rfl rfl (fun w' hx => ldE tU_ok tI_ok rfl rfl rfl (CA.ext (hS.cells (i := 0) rfl) hx) rfl)) ?_
  refine OJ.st rfl rfl rfl (SR.load rfl rfl (fun w' hx => ldE tU_ok tI_ok rfl rfl rfl (CA.ext (hS.cells (i := 1) rfl) hx) rfl)) ?_
  refine OJ.ef rfl rfl rfl (Ef.lit tU_ok tI_ok hS (C := cSpot) rfl rfl rfl rfl rfl rfl ([a1] : List Spot) rfl rfl rfl rfl) ?_
  rintro _ w1 ⟨A3, rfl, hS⟩
  obtain ⟨t4, ht4, H⟩ := pbind H
  refine OJ.callF rfl rfl rfl rfl rfl hb67 rfl (impl_Pasture_far.c k _ a0 A3 (([a1] : List Spot).length) ([a1] : List Spot) (hS.rd (i := 2) rfl) (hS.le (i := 2) rfl) _ ht4) ?_
  rintro _ w1 ⟨rfl, hs⟩
  replace hS := hS.grow hs
  refine OJ.ef rfl rfl rfl (Ef.alloc hS tI_ok rfl rfl ((carr 10 (carr 10 (ci .i16))).enc (Arr.mk' (Arr.mk' 0 : Arr 10 Int) : Arr 10 (Arr 10 Int))) (by kernel_rfl)) ?_
  rintro _ w1 ⟨b5, rfl, hS⟩
  refine OJ.es rfl rfl (Es.put tI_ok hS (i := 3) rfl rfl rfl rfl rfl (vs := (carr 10 (carr 10 (ci .i16))).enc t4) rfl ((carr 10 (carr 10 (ci .i16))).len _) ((carr 10 (carr 10 (ci .i16))).one _) (Put.all (carr 10 (carr 10 (ci .i16))) (Arr.mk' (Arr.mk' 0 : Arr 10 Int) : Arr 10 (Arr 10 Int)) t4) (by (try simp only [add_lit, Nat.add_assoc, Nat.zero_add, Nat.add_zero]) <;> rfl)) ?_
  intro w1 hS
  refine OJ.nil (EJ.next ?_)
  refine CJ.seq ?_
  refine CJ.region ?_
  refine OJ.st rfl rfl rfl (SR.load rfl rfl (fun w' hx => ldE tU_ok tI_ok rfl rfl rfl (CA.ext (hS.cells (i := 0) rfl) hx) rfl)) ?_
  refine OJ.pures tU_ok 1 rfl ?_
  obtain ⟨t6, ht6, H⟩ := pbind H
  refine OJ.callF rfl rfl rfl rfl rfl hb68 rfl (impl_Pasture_cells.c k _ a0 69 #[] #[.pointer (some ⟨b5, 0, none⟩)] hb69 (impl_Pasture_yard_1.f t4) (fun z0 r h w' hx => CV.cast (impl_Pasture_yard_1.c w' ⟨b5, 0, none⟩ t4 (CA.ext (hS.cells (i := 3) rfl) hx)  z0 r h) (by simp)) _ ht6) ?_
  rintro _ w1 ⟨A7, c8, rfl, hs⟩
  replace hS := hS.addN hs
  refine OJ.pures tU_ok 1 rfl ?_
  refine OJ.nil (EJ.next ?_)
  refine CJ.ret (?_)
  obtain rfl := Option.some.inj H
  exact EJ.fin rfl (.tmp rfl .nil) ⟨A7, c8, rfl, hS.pick [4] [] rfl⟩

def impl_YardOf.f (k : Nat) (a0 : Pasture) (a1 : Spot) : Option (List Spot × Int) := (impl_cellCode.f k a0 ([a1] : List Spot)).bind fun t4 => if t4 ≠ 0 then (some ([], t4)) else ((impl_Pasture_yard.f k a0 a1).bind fun t5 => some (t5, 0))
theorem impl_YardOf.c (k : Nat) (w : World) (a0 : Pasture) (a1 : Spot) (r : List Spot × Int) (H : impl_YardOf.f k a0 a1 = some r) :
    CV Tryz.prog 14 [.agg (cPasture.enc a0).toArray, .agg (cSpot.enc a1).toArray].toArray w fun v w' => ∃ (A0 : Option Addr) (c0 : Nat), v = .tuple #[.slice A0 r.1.length c0, .int .i64 r.2] ∧ St w no w' [rowC cSpot A0 c0 34 r.1] [] := by
  have hS := (St.init w no)
  unfold impl_YardOf.f at H
  refine CV.body Tryz.func14 rfl Tryz.ntmps14 rfl ?_
  refine CJ.seq ?_
  refine CJ.region ?_
  refine OJ.ef rfl rfl rfl (Ef.box hS rfl rfl (cPasture.enc a0) rfl) ?_
  rintro _ w1 ⟨b1, rfl, hS⟩
  refine OJ.ef rfl rfl rfl (Ef.box hS rfl rfl (cSpot.enc a1) rfl) ?_
  rintro _ w1 ⟨b2, rfl, hS⟩
  refine OJ.pures tU_ok 2 rfl ?_
  refine OJ.nil (EJ.next ?_)
  refine CJ.seq ?_
  refine CJ.seq ?_
  refine CJ.region ?_
  refine OJ.st rfl rfl rfl (SR.load rfl rfl (fun w' hx => ldE tU_ok tI_ok rfl rfl rfl (CA.ext (hS.cells (i := 0) rfl) hx) rfl)) ?_
  refine OJ.st rfl rfl rfl (SR.load rfl rfl (fun w' hx => ldE tU_ok tI_ok rfl rfl rfl (CA.ext (hS.cells (i := 1) rfl) hx) rfl)) ?_
  refine OJ.ef rfl rfl rfl (Ef.lit tU_ok tI_ok hS (C := cSpot) rfl rfl rfl rfl rfl rfl ([a1] : List Spot) rfl rfl rfl rfl) ?_
  rintro _ w1 ⟨A3, rfl, hS⟩
  obtain ⟨t4, ht4, H⟩ := pbind H
  refine OJ.callF rfl rfl rfl rfl rfl hb20 rfl (impl_cellCode.c k _ a0 A3 (([a1] : List Spot).length) ([a1] : List Spot) (hS.rd (i := 2) rfl) (hS.le (i := 2) rfl) _ ht4) ?_
  rintro _ w1 ⟨rfl, hs⟩
  replace hS := hS.grow hs
  refine OJ.pures tU_ok 1 rfl ?_
  refine OJ.nil (EJ.next ?_)
  refine CJ.seq ?_
  refine CJ.region ?_
  refine OJ.pures tU_ok 2 rfl ?_
  refine OJ.nil (EJ.next ?_)
  refine CJ.cond rfl (fun hb => ?_) (fun hb => ?_)
  · replace H := pif_t (of_decide_eq_true hb) H
    refine CJ.seq ?_
    refine CJ.region ?_
    refine OJ.pures tU_ok 3 rfl ?_
    refine OJ.nil (EJ.next ?_)
    refine CJ.ret (EJ.skR (?_))
    replace hS := hS.addNil cSpot 34 none
    obtain rfl := Option.some.inj H
    exact EJ.fin rfl (.tmp rfl (.tmp rfl .nil)) ⟨none, 0, rfl, hS.pick [3] [] rfl⟩
  replace H := pif_f (of_decide_eq_false hb) H
  refine CJ.skip (EJ.next ?_)
  refine CJ.seq ?_
  refine CJ.region ?_
  refine OJ.st rfl rfl rfl (SR.load rfl rfl (fun w' hx => ldE tU_ok tI_ok rfl rfl rfl (CA.ext (hS.cells (i := 0) rfl) hx) rfl)) ?_
  refine OJ.st rfl rfl rfl (SR.load rfl rfl (fun w' hx => ldE tU_ok tI_ok rfl rfl rfl (CA.ext (hS.cells (i := 1) rfl) hx) rfl)) ?_
  obtain ⟨t5, ht5, H⟩ := pbind H
  refine OJ.callF rfl rfl rfl rfl rfl hb37 rfl (impl_Pasture_yard.c k _ a0 a1 _ ht5) ?_
  rintro _ w1 ⟨A6, c7, rfl, hs⟩
  replace hS := hS.addN hs
  refine OJ.pures tU_ok 2 rfl ?_
  refine OJ.nil (EJ.next ?_)
  refine CJ.ret (?_)
  obtain rfl := Option.some.inj H
  exact EJ.fin rfl (.tmp rfl (.tmp rfl .nil)) ⟨A6, c7, rfl, hS.pick [3] [] rfl⟩

def impl_OpenSides.f (k : Nat) (a0 : Pasture) (a1 : List Spot) : Option (List Hurdle × Int) := (impl_cellCode.f k a0 a1).bind fun t2 => if t2 ≠ 0 then (some ([], t2)) else ((impl_Pasture_openSides.f k a0 a1).bind fun t3 => some (t3, 0))
theorem impl_OpenSides.c (k : Nat) (w : World) (a0 : Pasture) (Aa1 : Option Addr) (ca1 : Nat) (a1 : List Spot) (hr1 : Rd cSpot w Aa1 a1) (hc1 : a1.length ≤ ca1) (r : List Hurdle × Int) (H : impl_OpenSides.f k a0 a1 = some r) :
    CV Tryz.prog 15 [.agg (cPasture.enc a0).toArray, .slice Aa1 a1.length ca1].toArray w fun v w' => ∃ (A0 : Option Addr) (c0 : Nat), v = .tuple #[.slice A0 r.1.length c0, .int .i64 r.2] ∧ St w no w' [rowC cHurdle A0 c0 75 r.1] [] := by
  have hS := ((St.init w no).param cSpot Aa1 ca1 a1 hr1 hc1)
  unfold impl_OpenSides.f at H
  refine CV.body Tryz.func15 rfl Tryz.ntmps15 rfl ?_
  refine CJ.seq ?_
  refine CJ.region ?_
  refine OJ.ef rfl rfl rfl (Ef.box hS rfl rfl (cPasture.enc a0) rfl) ?_
  rintro _ w1 ⟨b1, rfl, hS⟩
  refine OJ.pures tU_ok 2 rfl ?_
  refine OJ.nil (EJ.next ?_)
  refine CJ.seq ?_
  refine CJ.seq ?_
  refine CJ.region ?_
  refine OJ.st rfl rfl rfl (SR.load rfl rfl (fun w' hx => ldE tU_ok tI_ok rfl rfl rfl (CA.ext (hS.cells (i := 0) rfl) hx) rfl)) ?_
  refine OJ.pures tU_ok 1 rfl ?_
  obtain ⟨t2, ht2, H⟩ := pbind H
  refine OJ.callF rfl rfl rfl rfl rfl hb20 rfl (impl_cellCode.c k _ a0 Aa1 ca1 a1 (hS.rd' (i := 0) rfl) (hS.le' (i := 0) rfl) _ ht2) ?_
  rintro _ w1 ⟨rfl, hs⟩
  replace hS := hS.grow hs
  refine OJ.pures tU_ok 1 rfl ?_
  refine OJ.nil (EJ.next ?_)
  refine CJ.seq ?_
  refine CJ.region ?_
  refine OJ.pures tU_ok 2 rfl ?_
  refine OJ.nil (EJ.next ?_)
  refine CJ.cond rfl (fun hb => ?_) (fun hb => ?_)
  · replace H := pif_t (of_decide_eq_true hb) H
    refine CJ.seq ?_
    refine CJ.region ?_
    refine OJ.pures tU_ok 3 rfl ?_
    refine OJ.nil (EJ.next ?_)
    refine CJ.ret (EJ.skR (?_))
    replace hS := hS.addNil cHurdle 75 none
    obtain rfl := Option.some.inj H
    exact EJ.fin rfl (.tmp rfl (.tmp rfl .nil)) ⟨none, 0, rfl, hS.pick [1] [] rfl⟩
  replace H := pif_f (of_decide_eq_false hb) H
  refine CJ.skip (EJ.next ?_)
  refine CJ.seq ?_
  refine CJ.region ?_
  refine OJ.st rfl rfl rfl (SR.load rfl rfl (fun w' hx => ldE tU_ok tI_ok rfl rfl rfl (CA.ext (hS.cells (i := 0) rfl) hx) rfl)) ?_
  refine OJ.pures tU_ok 1 rfl ?_
  obtain ⟨t3, ht3, H⟩ := pbind H
  refine OJ.callF rfl rfl rfl rfl rfl hb26 rfl (impl_Pasture_openSides.c k _ a0 Aa1 ca1 a1 (hS.rd' (i := 0) rfl) (hS.le' (i := 0) rfl) _ ht3) ?_
  rintro _ w1 ⟨A4, c5, rfl, hs⟩
  replace hS := hS.addN hs
  refine OJ.pures tU_ok 2 rfl ?_
  refine OJ.nil (EJ.next ?_)
  refine CJ.ret (?_)
  obtain rfl := Option.some.inj H
  exact EJ.fin rfl (.tmp rfl (.tmp rfl .nil)) ⟨A4, c5, rfl, hS.pick [1] [] rfl⟩

def impl_BesideOf.f (k : Nat) (a0 : Pasture) (a1 : Spot) : Option (List Spot × Int) := (impl_cellCode.f k a0 ([a1] : List Spot)).bind fun t4 => if t4 ≠ 0 then (some ([], t4)) else ((impl_Pasture_beside.f k a0 a1).bind fun t5 => some (t5, 0))
theorem impl_BesideOf.c (k : Nat) (w : World) (a0 : Pasture) (a1 : Spot) (r : List Spot × Int) (H : impl_BesideOf.f k a0 a1 = some r) :
    CV Tryz.prog 16 [.agg (cPasture.enc a0).toArray, .agg (cSpot.enc a1).toArray].toArray w fun v w' => ∃ (A0 : Option Addr) (c0 : Nat), v = .tuple #[.slice A0 r.1.length c0, .int .i64 r.2] ∧ St w no w' [rowC cSpot A0 c0 34 r.1] [] := by
  have hS := (St.init w no)
  unfold impl_BesideOf.f at H
  refine CV.body Tryz.func16 rfl Tryz.ntmps16 rfl ?_
  refine CJ.seq ?_
  refine CJ.region ?_
  refine OJ.ef rfl rfl rfl (Ef.box hS rfl rfl (cPasture.enc a0) rfl) ?_
  rintro _ w1 ⟨b1, rfl, hS⟩
  refine OJ.ef rfl rfl rfl (Ef.box hS rfl rfl (cSpot.enc a1) rfl) ?_
  rintro _ w1 ⟨b2, rfl, hS⟩
  refine OJ.pures tU_ok 2 rfl ?_
  refine OJ.nil (EJ.next ?_)
  refine CJ.seq ?_
  refine CJ.seq ?_
  refine CJ.region ?_
  refine OJ.st rfl rfl rfl (SR.load rfl rfl (fun w' hx => ldE tU_ok tI_ok rfl rfl rfl (CA.ext (hS.cells (i := 0) rfl) hx) rfl)) ?_
  refine OJ.st rfl rfl rfl (SR.load rfl rfl (fun w' hx => ldE tU_ok tI_ok rfl rfl rfl (CA.ext (hS.cells (i := 1) rfl) hx) rfl)) ?_
  refine OJ.ef rfl rfl rfl (Ef.lit tU_ok tI_ok hS (C := cSpot) rfl rfl rfl rfl rfl rfl ([a1] : List Spot) rfl rfl rfl rfl) ?_
  rintro _ w1 ⟨A3, rfl, hS⟩
  obtain ⟨t4, ht4, H⟩ := pbind H
  refine OJ.callF rfl rfl rfl rfl rfl hb20 rfl (impl_cellCode.c k _ a0 A3 (([a1] : List Spot).length) ([a1] : List Spot) (hS.rd (i := 2) rfl) (hS.le (i := 2) rfl) _ ht4) ?_
  rintro _ w1 ⟨rfl, hs⟩
  replace hS := hS.grow hs
  refine OJ.pures tU_ok 1 rfl ?_
  refine OJ.nil (EJ.next ?_)
  refine CJ.seq ?_
  refine CJ.region ?_
  refine OJ.pures tU_ok 2 rfl ?_
  refine OJ.nil (EJ.next ?_)
  refine CJ.cond rfl (fun hb => ?_) (fun hb => ?_)
  · replace H := pif_t (of_decide_eq_true hb) H
    refine CJ.seq ?_
    refine CJ.region ?_
    refine OJ.pures tU_ok 3 rfl ?_
    refine OJ.nil (EJ.next ?_)
    refine CJ.ret (EJ.skR (?_))
    replace hS := hS.addNil cSpot 34 none
    obtain rfl := Option.some.inj H
    exact EJ.fin rfl (.tmp rfl (.tmp rfl .nil)) ⟨none, 0, rfl, hS.pick [3] [] rfl⟩
  replace H := pif_f (of_decide_eq_false hb) H
  refine CJ.skip (EJ.next ?_)
  refine CJ.seq ?_
  refine CJ.region ?_
  refine OJ.st rfl rfl rfl (SR.load rfl rfl (fun w' hx => ldE tU_ok tI_ok rfl rfl rfl (CA.ext (hS.cells (i := 0) rfl) hx) rfl)) ?_
  refine OJ.st rfl rfl rfl (SR.load rfl rfl (fun w' hx => ldE tU_ok tI_ok rfl rfl rfl (CA.ext (hS.cells (i := 1) rfl) hx) rfl)) ?_
  obtain ⟨t5, ht5, H⟩ := pbind H
  refine OJ.callF rfl rfl rfl rfl rfl hb22 rfl (impl_Pasture_beside.c k _ a0 a1 _ ht5) ?_
  rintro _ w1 ⟨A6, c7, rfl, hs⟩
  replace hS := hS.addN hs
  refine OJ.pures tU_ok 2 rfl ?_
  refine OJ.nil (EJ.next ?_)
  refine CJ.ret (?_)
  obtain rfl := Option.some.inj H
  exact EJ.fin rfl (.tmp rfl (.tmp rfl .nil)) ⟨A6, c7, rfl, hS.pick [3] [] rfl⟩

def laws_FnSmallYards.f (k : Nat) (a0 : List Int) (a1 : List Int) : Option Bool := ((laws_f6big.f a0).bind fun t2 => if t2 = true then (some true) else ((laws_f6big.f a1).bind fun t3 => some t3)).bind fun y1 => if y1 = true then (some true) else ((spec_P6Pasture.f k a0).bind fun t4 => (spec_P6Spot.f a1 t4).bind fun t6 => (spec_P6Pick.f a1 5).bind fun t8 => (impl_SmallYard.f k t4 t6 (IntKind.i64.wrap (1 + t8))).bind fun t9 => (spec_SmallYard.f k t4 t6 (IntKind.i64.wrap (1 + t8))).bind fun t12 => (spec_YardOf.f k t4 t6).bind fun t15 => (if t9.2.2 ≠ t12.2.2 then (some true) else ((spec_SameSpots.f k t9.1 t12.1).bind fun t19 => if (!t19) = true then (some true) else (if t9.2.1 ≠ t12.2.1 then (some true) else (if t15.2 ≠ 0 then (some true) else (some (decide ((decide (t9.2.2 = 0)) ≠ (decide ((IntKind.i64.wrap (1 + t8)) ≤ (t15.1.length : Int)))))))))).bind fun y18 => if y18 = true then (some false) else (if t9.2.2 ≠ 0 then (some (decide (t9.2.2 = 6))) else ((impl_EncloseCells.f k t4 t12.1).bind fun t20 => (spec_EncloseCells.f k t4 t12.1).bind fun t22 => (impl_YardOf.f k t22.1 t6).bind fun t24 => (impl_OpenSides.f k t4 t12.1).bind fun t27 => (if t20.2.2 ≠ t22.2.2 then (some true) else (if t20.2.2 ≠ 0 then (some true) else (if t20.1 ≠ t22.1 then (some true) else (if t20.2.1 ≠ t22.2.1 then (some true) else (if t22.2.1 ≠ t12.2.1 then (some true) else (if t24.2 ≠ 0 then (some true) else ((spec_SameSpots.f k t24.1 t12.1).bind fun t31 => if (!t31) = true then (some true) else (if (t12.1.length : Int) ≠ (IntKind.i64.wrap (1 + t8)) then (some true) else (if t27.2 ≠ 0 then (some true) else (some (decide ((t27.1.length : Int) ≠ t12.2.1)))))))))))).bind fun y30 => if y30 = true then (some false) else (if (IntKind.i64.wrap (1 + t8)) = 1 then ((impl_BesideOf.f k t4 t6).bind fun t32 => (if t32.2 = 0 then (some (decide ((t32.1.length : Int) = t12.2.1))) else (some false)).bind fun y35 => some y35) else ((impl_OpenSides.f k t4 t15.1).bind fun t36 => if t36.2 = 0 then (if (t36.1.length : Int) = 0 then (if (IntKind.i64.wrap (1 + t8)) < (t15.1.length : Int) then (some true) else (some (decide (t12.2.1 = 0)))) else (some false)) else (some false))))))
theorem laws_FnSmallYards.c (k : Nat) (w : World) (Aa0 : Option Addr) (ca0 : Nat) (a0 : List Int) (hr0 : Rd (ci .u8) w Aa0 a0) (hc0 : a0.length ≤ ca0) (Aa1 : Option Addr) (ca1 : Nat) (a1 : List Int) (hr1 : Rd (ci .u8) w Aa1 a1) (hc1 : a1.length ≤ ca1) (r : Bool) (H : laws_FnSmallYards.f k a0 a1 = some r) :
    CV Tryz.prog 3 [.slice Aa0 a0.length ca0, .slice Aa1 a1.length ca1].toArray w fun v w' => v = .bool r ∧ Ext w w' := by
  have hS := (((St.init w no).param (ci .u8) Aa0 ca0 a0 hr0 hc0).param (ci .u8) Aa1 ca1 a1 hr1 hc1)
  unfold laws_FnSmallYards.f at H
  refine CV.body Tryz.func3 rfl Tryz.ntmps3 rfl ?_
  refine CJ.seq ?_
  refine CJ.region ?_
  refine OJ.pures tU_ok 1 rfl ?_
  refine OJ.nil (EJ.next ?_)
  refine CJ.seq ?_
  obtain ⟨j1, H, K1⟩ := pbind H
  refine CJ.cut (fun F w1 => ∃ (y1 : Bool) , (some y1 : Option Bool) = some j1 ∧ F = [(0, .slice Aa0 a0.length ca0), (1, .slice Aa1 a1.length ca1), (35, .bool y1)] ∧ St w no w1 [] [roC (ci .u8) Aa0 ca0 a0, roC (ci .u8) Aa1 ca1 a1]) ?_ ?_
  · skip
    refine CJ.region ?_
    refine OJ.pures tU_ok 1 rfl ?_
    obtain ⟨t2, ht2, H⟩ := pbind H
    refine OJ.callF rfl rfl rfl rfl rfl hb4 rfl (laws_f6big.c _ Aa0 ca0 a0 (hS.rd' (i := 0) rfl) (hS.le' (i := 0) rfl) _ ht2) ?_
    rintro _ w1 ⟨rfl, hs⟩
    replace hS := hS.grow hs
    refine OJ.pures tU_ok 1 rfl ?_
    refine OJ.split (t := 32) rfl (fun hb => ?_) (fun hb => ?_)
    · replace H := pif_t hb H
      refine OJ.pures tU_ok 3 rfl ?_
      refine OJ.nil ?_
      exact EJ.meet (F' := [(0, .slice Aa0 a0.length ca0), (1, .slice Aa1 a1.length ca1), (35, .bool true)]) ⟨rfl, rfl, rfl, trivial⟩ ⟨true, H, rfl, hS.pick [] [0, 1] rfl⟩
    replace H := pifb_f hb H
    refine OJ.pures tU_ok 1 rfl ?_
    obtain ⟨t3, ht3, H⟩ := pbind H
    refine OJ.callF rfl rfl rfl rfl rfl hb4 rfl (laws_f6big.c _ Aa1 ca1 a1 (hS.rd' (i := 1) rfl) (hS.le' (i := 1) rfl) _ ht3) ?_
    rintro _ w1 ⟨rfl, hs⟩
    replace hS := hS.grow hs
    refine OJ.pures tU_ok 1 rfl ?_
    refine OJ.nil ?_
    exact EJ.meet (F' := [(0, .slice Aa0 a0.length ca0), (1, .slice Aa1 a1.length ca1), (35, .bool t3)]) ⟨rfl, rfl, rfl, trivial⟩ ⟨t3, H, rfl, hS.pick [] [0, 1] rfl⟩
  rintro F w1 ⟨y1, he, rfl, hS⟩
  obtain rfl := Option.some.inj he
  have H := K1
  refine CJ.cond rfl (fun hb => ?_) (fun hb => ?_)
  · replace H := pif_t hb H
    refine CJ.seq ?_
    refine CJ.region ?_
    refine OJ.pures tU_ok 1 rfl ?_
    refine OJ.nil (EJ.next ?_)
    refine CJ.ret (EJ.skR (?_))
    obtain rfl := Option.some.inj H
    exact EJ.fin rfl (.tmp rfl .nil) ⟨rfl, hS.ext⟩
  replace H := pifb_f hb H
  refine CJ.skip (EJ.next ?_)
  refine CJ.seq ?_
  refine CJ.region ?_
  refine OJ.pures tU_ok 1 rfl ?_
  obtain ⟨t4, ht4, H⟩ := pbind H
  refine OJ.callF rfl rfl rfl rfl rfl hb5 rfl (spec_P6Pasture.c k _ Aa0 ca0 a0 (hS.rd' (i := 0) rfl) (hS.le' (i := 0) rfl) _ ht4) ?_
  rintro _ w1 ⟨rfl, hs⟩
  replace hS := hS.grow hs
  refine OJ.ef rfl rfl rfl (Ef.alloc hS tI_ok rfl rfl (cPasture.enc (⟨0, 0, (Arr.mk' (Arr.mk' 0 : Arr 10 Int) : Arr 10 (Arr 10 Int)), (Arr.mk' 0 : Arr 10 Int), (Arr.mk' 0 : Arr 10 Int)⟩ : Pasture)) (by kernel_rfl)) ?_
  rintro _ w1 ⟨b5, rfl, hS⟩
  refine OJ.es rfl rfl (Es.put tI_ok hS (i := 0) rfl rfl rfl rfl rfl (vs := cPasture.enc t4) rfl (cPasture.len _) (cPasture.one _) (Put.all cPasture (⟨0, 0, (Arr.mk' (Arr.mk' 0 : Arr 10 Int) : Arr 10 (Arr 10 Int)), (Arr.mk' 0 : Arr 10 Int), (Arr.mk' 0 : Arr 10 Int)⟩ : Pasture) t4) (by (try simp only [add_lit, Nat.add_assoc, Nat.zero_add, Nat.add_zero]) <;> rfl)) ?_
  intro w1 hS
  refine OJ.nil (EJ.next ?_)
  refine CJ.seq ?_
  refine CJ.region ?_
  refine OJ.pures tU_ok 1 rfl ?_
  refine OJ.st rfl rfl rfl (SR.load rfl rfl (fun w' hx => ldE tU_ok tI_ok rfl rfl rfl (CA.ext (hS.cells (i := 0) rfl) hx) rfl)) ?_
  obtain ⟨t6, ht6, H⟩ := pbind H
  refine OJ.callF rfl rfl rfl rfl rfl hb6 rfl (spec_P6Spot.c _ Aa1 ca1 a1 (hS.rd' (i := 1) rfl) (hS.le' (i := 1) rfl) t4 _ ht6) ?_
  rintro _ w1 ⟨rfl, hs⟩
  replace hS := hS.grow hs
  refine OJ.ef rfl rfl rfl (Ef.alloc hS tI_ok rfl rfl (cSpot.enc (⟨0, 0⟩ : Spot)) rfl) ?_
  rintro _ w1 ⟨b7, rfl, hS⟩
  refine OJ.es rfl rfl (Es.store tI_ok hS (i := 1) rfl rfl rfl rfl rfl rfl (vs := cSpot.enc t6) rfl (cSpot.len _) (cSpot.one _) (Nat.le_of_ble_eq_true rfl) (cSpot.enc t6) rfl) ?_
  intro w1 hS
  refine OJ.nil (EJ.next ?_)
  refine CJ.seq ?_
  refine CJ.region ?_
  refine OJ.pures tU_ok 1 rfl ?_
  obtain ⟨t8, ht8, H⟩ := pbind H
  refine OJ.callF rfl rfl rfl rfl rfl hb7 rfl (spec_P6Pick.c _ Aa1 ca1 a1 (hS.rd' (i := 1) rfl) (hS.le' (i := 1) rfl) 5 _ ht8) ?_
  rintro _ w1 ⟨rfl, hs⟩
  replace hS := hS.grow hs
  refine OJ.pures tU_ok 2 rfl ?_
  refine OJ.nil (EJ.next ?_)
  refine CJ.seq ?_
  refine CJ.region ?_
  refine OJ.st rfl rfl rfl (SR.load rfl rfl (fun w' hx => ldE tU_ok tI_ok rfl rfl rfl (CA.ext (hS.cells (i := 0) rfl) hx) rfl)) ?_
  refine OJ.st rfl rfl rfl (SR.load rfl rfl (fun w' hx => ldE tU_ok tI_ok rfl rfl rfl (CA.ext (hS.cells (i := 1) rfl) hx) rfl)) ?_
  refine OJ.pures tU_ok 1 rfl ?_
  obtain ⟨t9, ht9, H⟩ := pbind H
  refine OJ.callF rfl rfl rfl rfl rfl hb8 rfl (impl_SmallYard.c k _ t4 t6 (IntKind.i64.wrap (1 + t8)) _ ht9) ?_
  rintro _ w1 ⟨A10, c11, rfl, hx, hr0⟩
  replace hS := hS.addRos hx [roC cSpot A10 c11 t9.1] (by intro c hc; simp only [List.mem_cons, List.not_mem_nil, or_false] at hc; rcases hc with rfl; exact ⟨hr0.1, fun b hb => (by have hb := hr0.2 b hb; rcases hb with hb | hb; exact .inl hb; exact hb.elim)⟩)
  refine OJ.pures tU_ok 7 rfl ?_
  refine OJ.nil (EJ.next ?_)
  refine CJ.seq ?_
  refine CJ.region ?_
  refine OJ.st rfl rfl rfl (SR.load rfl rfl (fun w' hx => ldE tU_ok tI_ok rfl rfl rfl (CA.ext (hS.cells (i := 0) rfl) hx) rfl)) ?_
  refine OJ.st rfl rfl rfl (SR.load rfl rfl (fun w' hx => ldE tU_ok tI_ok rfl rfl rfl (CA.ext (hS.cells (i := 1) rfl) hx) rfl)) ?_
  refine OJ.pures tU_ok 1 rfl ?_
  obtain ⟨t12, ht12, H⟩ := pbind H
  refine OJ.callF rfl rfl rfl rfl rfl hb9 rfl (spec_SmallYard.c k _ t4 t6 (IntKind.i64.wrap (1 + t8)) _ ht12) ?_
  rintro _ w1 ⟨A13, c14, rfl, hs⟩
  replace hS := hS.addN hs
  refine OJ.pures tU_ok 7 rfl ?_
  refine OJ.nil (EJ.next ?_)
  refine CJ.seq ?_
  refine CJ.region ?_
  refine OJ.st rfl rfl rfl (SR.load rfl rfl (fun w' hx => ldE tU_ok tI_ok rfl rfl rfl (CA.ext (hS.cells (i := 0) rfl) hx) rfl)) ?_
  refine OJ.st rfl rfl rfl (SR.load rfl rfl (fun w' hx => ldE tU_ok tI_ok rfl rfl rfl (CA.ext (hS.cells (i := 1) rfl) hx) rfl)) ?_
  obtain ⟨t15, ht15, H⟩ := pbind H
  refine OJ.callF rfl rfl rfl rfl rfl hb10 rfl (spec_YardOf.c k _ t4 t6 _ ht15) ?_
  rintro _ w1 ⟨A16, c17, rfl, hs⟩
  replace hS := hS.addN hs
  refine OJ.pures tU_ok 5 rfl ?_
  refine OJ.nil (EJ.next ?_)
  refine CJ.seq ?_
  obtain ⟨j2294, H, K2294⟩ := pbind H
  refine CJ.cut (fun F w1 => ∃ (y18 : Bool) , (some y18 : Option Bool) = some j2294 ∧ F = [(5, .pointer (some ⟨b5, 0, none⟩)), (6, .pointer (some ⟨b7, 0, none⟩)), (7, .int .i64 (IntKind.i64.wrap (1 + t8))), (10, .int .i64 t9.2.2), (11, .slice A13 t12.1.length c14), (12, .int .i64 t12.2.1), (14, .slice A16 t15.1.length c17), (92, .bool y18)] ∧ St w no w1 [box b5 (cPasture.enc t4) 31, box b7 (cSpot.enc t6) 34, rowC cSpot A13 c14 34 t12.1, rowC cSpot A16 c17 34 t15.1] [roC (ci .u8) Aa0 ca0 a0, roC (ci .u8) Aa1 ca1 a1, roC cSpot A10 c11 t9.1]) ?_ ?_
  · skip
    refine CJ.region ?_
    refine OJ.pures tU_ok 4 rfl ?_
    refine OJ.split (t := 69) rfl (fun hb => ?_) (fun hb => ?_)
    · replace H := pif_t (of_decide_eq_true hb) H
      refine OJ.pures tU_ok 23 rfl ?_
      refine OJ.nil ?_
      exact EJ.meet (F' := [(5, .pointer (some ⟨b5, 0, none⟩)), (6, .pointer (some ⟨b7, 0, none⟩)), (7, .int .i64 (IntKind.i64.wrap (1 + t8))), (10, .int .i64 t9.2.2), (11, .slice A13 t12.1.length c14), (12, .int .i64 t12.2.1), (14, .slice A16 t15.1.length c17), (92, .bool true)]) ⟨rfl, rfl, rfl, rfl, rfl, rfl, rfl, rfl, trivial⟩ ⟨true, H, rfl, hS.pick [0, 1, 2, 3] [0, 1, 2] rfl⟩
    replace H := pif_f (of_decide_eq_false hb) H
    refine OJ.pures tU_ok 2 rfl ?_
    obtain ⟨t19, ht19, H⟩ := pbind H
    refine OJ.callF rfl rfl rfl rfl rfl hb11 rfl (spec_SameSpots.c k _ A10 c11 t9.1 (hS.rd' (i := 2) rfl) (hS.le' (i := 2) rfl) A13 c14 t12.1 (hS.rd (i := 2) rfl) (hS.le (i := 2) rfl) _ ht19) ?_
    rintro _ w1 ⟨rfl, hs⟩
    replace hS := hS.grow hs
    refine OJ.pures tU_ok 3 rfl ?_
    refine OJ.split (t := 75) rfl (fun hb => ?_) (fun hb => ?_)
    · replace H := pif_t hb H
      refine OJ.pures tU_ok 17 rfl ?_
      refine OJ.nil ?_
      exact EJ.meet (F' := [(5, .pointer (some ⟨b5, 0, none⟩)), (6, .pointer (some ⟨b7, 0, none⟩)), (7, .int .i64 (IntKind.i64.wrap (1 + t8))), (10, .int .i64 t9.2.2), (11, .slice A13 t12.1.length c14), (12, .int .i64 t12.2.1), (14, .slice A16 t15.1.length c17), (92, .bool true)]) ⟨rfl, rfl, rfl, rfl, rfl, rfl, rfl, rfl, trivial⟩ ⟨true, H, rfl, hS.pick [0, 1, 2, 3] [0, 1, 2] rfl⟩
    replace H := pifb_f hb H
    refine OJ.pures tU_ok 5 rfl ?_
    refine OJ.split (t := 80) rfl (fun hb => ?_) (fun hb => ?_)
    · replace H := pif_t (of_decide_eq_true hb) H
      refine OJ.pures tU_ok 12 rfl ?_
      refine OJ.nil ?_
      exact EJ.meet (F' := [(5, .pointer (some ⟨b5, 0, none⟩)), (6, .pointer (some ⟨b7, 0, none⟩)), (7, .int .i64 (IntKind.i64.wrap (1 + t8))), (10, .int .i64 t9.2.2), (11, .slice A13 t12.1.length c14), (12, .int .i64 t12.2.1), (14, .slice A16 t15.1.length c17), (92, .bool true)]) ⟨rfl, rfl, rfl, rfl, rfl, rfl, rfl, rfl, trivial⟩ ⟨true, H, rfl, hS.pick [0, 1, 2, 3] [0, 1, 2] rfl⟩
    replace H := pif_f (of_decide_eq_false hb) H
    refine OJ.pures tU_ok 4 rfl ?_
    refine OJ.split (t := 84) rfl (fun hb => ?_) (fun hb => ?_)
    · replace H := pif_t (of_decide_eq_true hb) H
      refine OJ.pures tU_ok 8 rfl ?_
      refine OJ.nil ?_
      exact EJ.meet (F' := [(5, .pointer (some ⟨b5, 0, none⟩)), (6, .pointer (some ⟨b7, 0, none⟩)), (7, .int .i64 (IntKind.i64.wrap (1 + t8))), (10, .int .i64 t9.2.2), (11, .slice A13 t12.1.length c14), (12, .int .i64 t12.2.1), (14, .slice A16 t15.1.length c17), (92, .bool true)]) ⟨rfl, rfl, rfl, rfl, rfl, rfl, rfl, rfl, trivial⟩ ⟨true, H, rfl, hS.pick [0, 1, 2, 3] [0, 1, 2] rfl⟩
    replace H := pif_f (of_decide_eq_false hb) H
    refine OJ.pures tU_ok 6 rfl ?_
    refine OJ.st rfl rfl rfl (SR.neB tU_ok rfl rfl rfl rfl) ?_
    refine OJ.pures tU_ok 1 rfl ?_
    refine OJ.nil ?_
    exact EJ.meet (F' := [(5, .pointer (some ⟨b5, 0, none⟩)), (6, .pointer (some ⟨b7, 0, none⟩)), (7, .int .i64 (IntKind.i64.wrap (1 + t8))), (10, .int .i64 t9.2.2), (11, .slice A13 t12.1.length c14), (12, .int .i64 t12.2.1), (14, .slice A16 t15.1.length c17), (92, .bool (decide ((decide (t9.2.2 = 0)) ≠ (decide ((IntKind.i64.wrap (1 + t8)) ≤ (t15.1.length : Int))))))]) ⟨rfl, rfl, rfl, rfl, rfl, rfl, rfl, rfl, trivial⟩ ⟨(decide ((decide (t9.2.2 = 0)) ≠ (decide ((IntKind.i64.wrap (1 + t8)) ≤ (t15.1.length : Int))))), H, rfl, hS.pick [0, 1, 2, 3] [0, 1, 2] rfl⟩
  rintro F w1 ⟨y18, he, rfl, hS⟩
  obtain rfl := Option.some.inj he
  have H := K2294
  refine CJ.cond rfl (fun hb => ?_) (fun hb => ?_)
  · replace H := pif_t hb H
    refine CJ.seq ?_
    refine CJ.region ?_
    refine OJ.pures tU_ok 1 rfl ?_
    refine OJ.nil (EJ.next ?_)
    refine CJ.ret (EJ.skR (?_))
    obtain rfl := Option.some.inj H
    exact EJ.fin rfl (.tmp rfl .nil) ⟨rfl, hS.ext⟩
  replace H := pifb_f hb H
  refine CJ.skip (EJ.next ?_)
  refine CJ.seq ?_
  refine CJ.seq ?_
  refine CJ.region ?_
  refine OJ.pures tU_ok 2 rfl ?_
  refine OJ.nil (EJ.next ?_)
  refine CJ.cond rfl (fun hb => ?_) (fun hb => ?_)
  · replace H := pif_t (of_decide_eq_true hb) H
    refine CJ.seq ?_
    refine CJ.region ?_
    refine OJ.pures tU_ok 3 rfl ?_
    refine OJ.nil (EJ.next ?_)
    refine CJ.ret (EJ.skR (?_))
    obtain rfl := Option.some.inj H
    exact EJ.fin rfl (.tmp rfl .nil) ⟨rfl, hS.ext⟩
  replace H := pif_f (of_decide_eq_false hb) H
  refine CJ.skip (EJ.next ?_)
  refine CJ.seq ?_
  refine CJ.region ?_
  refine OJ.st rfl rfl rfl (SR.load rfl rfl (fun w' hx => ldE tU_ok tI_ok rfl rfl rfl (CA.ext (hS.cells (i := 0) rfl) hx) rfl)) ?_
  refine OJ.pures tU_ok 1 rfl ?_
  obtain ⟨t20, ht20, H⟩ := pbind H
  refine OJ.callF rfl rfl rfl rfl rfl hb12 rfl (impl_EncloseCells.c k _ t4 A13 c14 t12.1 (hS.rd (i := 2) rfl) (hS.le (i := 2) rfl) _ ht20) ?_
  rintro _ w1 ⟨rfl, hs⟩
  replace hS := hS.grow hs
  refine OJ.pures tU_ok 4 rfl ?_
  refine OJ.ef rfl rfl rfl (Ef.alloc hS tI_ok rfl rfl (cPasture.enc (⟨0, 0, (Arr.mk' (Arr.mk' 0 : Arr 10 Int) : Arr 10 (Arr 10 Int)), (Arr.mk' 0 : Arr 10 Int), (Arr.mk' 0 : Arr 10 Int)⟩ : Pasture)) (by kernel_rfl)) ?_
  rintro _ w1 ⟨b21, rfl, hS⟩
  refine OJ.es rfl rfl (Es.put tI_ok hS (i := 4) rfl rfl rfl rfl rfl (vs := cPasture.enc t20.1) rfl (cPasture.len _) (cPasture.one _) (Put.all cPasture (⟨0, 0, (Arr.mk' (Arr.mk' 0 : Arr 10 Int) : Arr 10 (Arr 10 Int)), (Arr.mk' 0 : Arr 10 Int), (Arr.mk' 0 : Arr 10 Int)⟩ : Pasture) t20.1) (by (try simp only [add_lit, Nat.add_assoc, Nat.zero_add, Nat.add_zero]) <;> rfl)) ?_
  intro w1 hS
  refine OJ.pures tU_ok 2 rfl ?_
  refine OJ.nil (EJ.next ?_)
  refine CJ.seq ?_
  refine CJ.region ?_
  refine OJ.st rfl rfl rfl (SR.load rfl rfl (fun w' hx => ldE tU_ok tI_ok rfl rfl rfl (CA.ext (hS.cells (i := 0) rfl) hx) rfl)) ?_
  refine OJ.pures tU_ok 1 rfl ?_
  obtain ⟨t22, ht22, H⟩ := pbind H
  refine OJ.callF rfl rfl rfl rfl rfl hb13 rfl (spec_EncloseCells.c k _ t4 A13 c14 t12.1 (hS.rd (i := 2) rfl) (hS.le (i := 2) rfl) _ ht22) ?_
  rintro _ w1 ⟨rfl, hs⟩
  replace hS := hS.grow hs
  refine OJ.pures tU_ok 4 rfl ?_
  refine OJ.ef rfl rfl rfl (Ef.alloc hS tI_ok rfl rfl (cPasture.enc (⟨0, 0, (Arr.mk' (Arr.mk' 0 : Arr 10 Int) : Arr 10 (Arr 10 Int)), (Arr.mk' 0 : Arr 10 Int), (Arr.mk' 0 : Arr 10 Int)⟩ : Pasture)) (by kernel_rfl)) ?_
  rintro _ w1 ⟨b23, rfl, hS⟩
  refine OJ.es rfl rfl (Es.put tI_ok hS (i := 5) rfl rfl rfl rfl rfl (vs := cPasture.enc t22.1) rfl (cPasture.len _) (cPasture.one _) (Put.all cPasture (⟨0, 0, (Arr.mk' (Arr.mk' 0 : Arr 10 Int) : Arr 10 (Arr 10 Int)), (Arr.mk' 0 : Arr 10 Int), (Arr.mk' 0 : Arr 10 Int)⟩ : Pasture) t22.1) (by (try simp only [add_lit, Nat.add_assoc, Nat.zero_add, Nat.add_zero]) <;> rfl)) ?_
  intro w1 hS
  refine OJ.pures tU_ok 2 rfl ?_
  refine OJ.nil (EJ.next ?_)
  refine CJ.seq ?_
  refine CJ.region ?_
  refine OJ.st rfl rfl rfl (SR.load rfl rfl (fun w' hx => ldE tU_ok tI_ok rfl rfl rfl (CA.ext (hS.cells (i := 5) rfl) hx) rfl)) ?_
  refine OJ.st rfl rfl rfl (SR.load rfl rfl (fun w' hx => ldE tU_ok tI_ok rfl rfl rfl (CA.ext (hS.cells (i := 1) rfl) hx) rfl)) ?_
  obtain ⟨t24, ht24, H⟩ := pbind H
  refine OJ.callF rfl rfl rfl rfl rfl hb14 rfl (impl_YardOf.c k _ t22.1 t6 _ ht24) ?_
  rintro _ w1 ⟨A25, c26, rfl, hs⟩
  replace hS := hS.addN hs
  have hS : St w no w1 [box b5 (cPasture.enc t4) 31, box b7 (cSpot.enc t6) 34, rowC cSpot A13 c14 34 t12.1, rowC cSpot A16 c17 34 t15.1, box b21 (cPasture.enc t20.1) 31, box b23 (cPasture.enc t22.1) 31, rowC cSpot A25 c26 34 t24.1] [roC (ci .u8) Aa0 ca0 a0, roC (ci .u8) Aa1 ca1 a1, roC cSpot A10 c11 t9.1] := hS
  refine OJ.pures tU_ok 5 rfl ?_
  refine OJ.nil (EJ.next ?_)
  refine CJ.seq ?_
  refine CJ.region ?_
  refine OJ.st rfl rfl rfl (SR.load rfl rfl (fun w' hx => ldE tU_ok tI_ok rfl rfl rfl (CA.ext (hS.cells (i := 0) rfl) hx) rfl)) ?_
  refine OJ.pures tU_ok 1 rfl ?_
  obtain ⟨t27, ht27, H⟩ := pbind H
  refine OJ.callF rfl rfl rfl rfl rfl hb15 rfl (impl_OpenSides.c k _ t4 A13 c14 t12.1 (hS.rd (i := 2) rfl) (hS.le (i := 2) rfl) _ ht27) ?_
  rintro _ w1 ⟨A28, c29, rfl, hs⟩
  replace hS := hS.addN hs
  have hS : St w no w1 [box b5 (cPasture.enc t4) 31, box b7 (cSpot.enc t6) 34, rowC cSpot A13 c14 34 t12.1, rowC cSpot A16 c17 34 t15.1, box b21 (cPasture.enc t20.1) 31, box b23 (cPasture.enc t22.1) 31, rowC cSpot A25 c26 34 t24.1, rowC cHurdle A28 c29 75 t27.1] [roC (ci .u8) Aa0 ca0 a0, roC (ci .u8) Aa1 ca1 a1, roC cSpot A10 c11 t9.1] := hS
  refine OJ.pures tU_ok 5 rfl ?_
  refine OJ.nil (EJ.next ?_)
  refine CJ.seq ?_
  obtain ⟨j2348, H, K2348⟩ := pbind H
  refine CJ.cut (fun F w1 => ∃ (y30 : Bool) , (some y30 : Option Bool) = some j2348 ∧ F = [(5, .pointer (some ⟨b5, 0, none⟩)), (6, .pointer (some ⟨b7, 0, none⟩)), (7, .int .i64 (IntKind.i64.wrap (1 + t8))), (12, .int .i64 t12.2.1), (14, .slice A16 t15.1.length c17), (170, .bool y30)] ∧ St w no w1 [box b5 (cPasture.enc t4) 31, box b7 (cSpot.enc t6) 34, rowC cSpot A16 c17 34 t15.1] [roC (ci .u8) Aa0 ca0 a0, roC (ci .u8) Aa1 ca1 a1, roC cSpot A10 c11 t9.1]) ?_ ?_
  · skip
    refine CJ.region ?_
    refine OJ.pures tU_ok 4 rfl ?_
    refine OJ.split (t := 126) rfl (fun hb => ?_) (fun hb => ?_)
    · replace H := pif_t (of_decide_eq_true hb) H
      refine OJ.pures tU_ok 44 rfl ?_
      refine OJ.nil ?_
      exact EJ.meet (F' := [(5, .pointer (some ⟨b5, 0, none⟩)), (6, .pointer (some ⟨b7, 0, none⟩)), (7, .int .i64 (IntKind.i64.wrap (1 + t8))), (12, .int .i64 t12.2.1), (14, .slice A16 t15.1.length c17), (170, .bool true)]) ⟨rfl, rfl, rfl, rfl, rfl, rfl, trivial⟩ ⟨true, H, rfl, hS.pick [0, 1, 3] [0, 1, 2] rfl⟩
    replace H := pif_f (of_decide_eq_false hb) H
    refine OJ.pures tU_ok 4 rfl ?_
    refine OJ.split (t := 130) rfl (fun hb => ?_) (fun hb => ?_)
    · replace H := pif_t (of_decide_eq_true hb) H
      refine OJ.pures tU_ok 40 rfl ?_
      refine OJ.nil ?_
      exact EJ.meet (F' := [(5, .pointer (some ⟨b5, 0, none⟩)), (6, .pointer (some ⟨b7, 0, none⟩)), (7, .int .i64 (IntKind.i64.wrap (1 + t8))), (12, .int .i64 t12.2.1), (14, .slice A16 t15.1.length c17), (170, .bool true)]) ⟨rfl, rfl, rfl, rfl, rfl, rfl, trivial⟩ ⟨true, H, rfl, hS.pick [0, 1, 3] [0, 1, 2] rfl⟩
    replace H := pif_f (of_decide_eq_false hb) H
    refine OJ.st rfl rfl rfl (SR.load rfl rfl (fun w' hx => ldE tU_ok tI_ok rfl rfl rfl (CA.ext (hS.cells (i := 4) rfl) hx) rfl)) ?_
    refine OJ.st rfl rfl rfl (SR.load rfl rfl (fun w' hx => ldE tU_ok tI_ok rfl rfl rfl (CA.ext (hS.cells (i := 5) rfl) hx) rfl)) ?_
    refine OJ.st rfl rfl rfl (SR.neS eqT31 eqG31 rfl rfl rfl (rfl : _ = (cPasture.enc t20.1).toArray) (rfl : _ = (cPasture.enc t22.1).toArray)) ?_
    refine OJ.pures tU_ok 2 rfl ?_
    refine OJ.split (t := 135) rfl (fun hb => ?_) (fun hb => ?_)
    · replace H := pif_t (of_decide_eq_true hb) H
      refine OJ.pures tU_ok 35 rfl ?_
      refine OJ.nil ?_
      exact EJ.meet (F' := [(5, .pointer (some ⟨b5, 0, none⟩)), (6, .pointer (some ⟨b7, 0, none⟩)), (7, .int .i64 (IntKind.i64.wrap (1 + t8))), (12, .int .i64 t12.2.1), (14, .slice A16 t15.1.length c17), (170, .bool true)]) ⟨rfl, rfl, rfl, rfl, rfl, rfl, trivial⟩ ⟨true, H, rfl, hS.pick [0, 1, 3] [0, 1, 2] rfl⟩
    replace H := pif_f (of_decide_eq_false hb) H
    refine OJ.pures tU_ok 5 rfl ?_
    refine OJ.split (t := 140) rfl (fun hb => ?_) (fun hb => ?_)
    · replace H := pif_t (of_decide_eq_true hb) H
      refine OJ.pures tU_ok 30 rfl ?_
      refine OJ.nil ?_
      exact EJ.meet (F' := [(5, .pointer (some ⟨b5, 0, none⟩)), (6, .pointer (some ⟨b7, 0, none⟩)), (7, .int .i64 (IntKind.i64.wrap (1 + t8))), (12, .int .i64 t12.2.1), (14, .slice A16 t15.1.length c17), (170, .bool true)]) ⟨rfl, rfl, rfl, rfl, rfl, rfl, trivial⟩ ⟨true, H, rfl, hS.pick [0, 1, 3] [0, 1, 2] rfl⟩
    replace H := pif_f (of_decide_eq_false hb) H
    refine OJ.pures tU_ok 5 rfl ?_
    refine OJ.split (t := 145) rfl (fun hb => ?_) (fun hb => ?_)
    · replace H := pif_t (of_decide_eq_true hb) H
      refine OJ.pures tU_ok 25 rfl ?_
      refine OJ.nil ?_
      exact EJ.meet (F' := [(5, .pointer (some ⟨b5, 0, none⟩)), (6, .pointer (some ⟨b7, 0, none⟩)), (7, .int .i64 (IntKind.i64.wrap (1 + t8))), (12, .int .i64 t12.2.1), (14, .slice A16 t15.1.length c17), (170, .bool true)]) ⟨rfl, rfl, rfl, rfl, rfl, rfl, trivial⟩ ⟨true, H, rfl, hS.pick [0, 1, 3] [0, 1, 2] rfl⟩
    replace H := pif_f (of_decide_eq_false hb) H
    refine OJ.pures tU_ok 4 rfl ?_
    refine OJ.split (t := 149) rfl (fun hb => ?_) (fun hb => ?_)
    · replace H := pif_t (of_decide_eq_true hb) H
      refine OJ.pures tU_ok 21 rfl ?_
      refine OJ.nil ?_
      exact EJ.meet (F' := [(5, .pointer (some ⟨b5, 0, none⟩)), (6, .pointer (some ⟨b7, 0, none⟩)), (7, .int .i64 (IntKind.i64.wrap (1 + t8))), (12, .int .i64 t12.2.1), (14, .slice A16 t15.1.length c17), (170, .bool true)]) ⟨rfl, rfl, rfl, rfl, rfl, rfl, trivial⟩ ⟨true, H, rfl, hS.pick [0, 1, 3] [0, 1, 2] rfl⟩
    replace H := pif_f (of_decide_eq_false hb) H
    refine OJ.pures tU_ok 2 rfl ?_
    obtain ⟨t31, ht31, H⟩ := pbind H
    refine OJ.callF rfl rfl rfl rfl rfl hb11 rfl (spec_SameSpots.c k _ A25 c26 t24.1 (hS.rd (i := 6) rfl) (hS.le (i := 6) rfl) A13 c14 t12.1 (hS.rd (i := 2) rfl) (hS.le (i := 2) rfl) _ ht31) ?_
    rintro _ w1 ⟨rfl, hs⟩
    replace hS := hS.grow hs
    refine OJ.pures tU_ok 3 rfl ?_
    refine OJ.split (t := 155) rfl (fun hb => ?_) (fun hb => ?_)
    · replace H := pif_t hb H
      refine OJ.pures tU_ok 15 rfl ?_
      refine OJ.nil ?_
      exact EJ.meet (F' := [(5, .pointer (some ⟨b5, 0, none⟩)), (6, .pointer (some ⟨b7, 0, none⟩)), (7, .int .i64 (IntKind.i64.wrap (1 + t8))), (12, .int .i64 t12.2.1), (14, .slice A16 t15.1.length c17), (170, .bool true)]) ⟨rfl, rfl, rfl, rfl, rfl, rfl, trivial⟩ ⟨true, H, rfl, hS.pick [0, 1, 3] [0, 1, 2] rfl⟩
    replace H := pifb_f hb H
    refine OJ.pures tU_ok 6 rfl ?_
    refine OJ.split (t := 161) rfl (fun hb => ?_) (fun hb => ?_)
    · replace H := pif_t (of_decide_eq_true hb) H
      refine OJ.pures tU_ok 9 rfl ?_
      refine OJ.nil ?_
      exact EJ.meet (F' := [(5, .pointer (some ⟨b5, 0, none⟩)), (6, .pointer (some ⟨b7, 0, none⟩)), (7, .int .i64 (IntKind.i64.wrap (1 + t8))), (12, .int .i64 t12.2.1), (14, .slice A16 t15.1.length c17), (170, .bool true)]) ⟨rfl, rfl, rfl, rfl, rfl, rfl, trivial⟩ ⟨true, H, rfl, hS.pick [0, 1, 3] [0, 1, 2] rfl⟩
    replace H := pif_f (of_decide_eq_false hb) H
    refine OJ.pures tU_ok 4 rfl ?_
    refine OJ.split (t := 165) rfl (fun hb => ?_) (fun hb => ?_)
    · replace H := pif_t (of_decide_eq_true hb) H
      refine OJ.pures tU_ok 5 rfl ?_
      refine OJ.nil ?_
      exact EJ.meet (F' := [(5, .pointer (some ⟨b5, 0, none⟩)), (6, .pointer (some ⟨b7, 0, none⟩)), (7, .int .i64 (IntKind.i64.wrap (1 + t8))), (12, .int .i64 t12.2.1), (14, .slice A16 t15.1.length c17), (170, .bool true)]) ⟨rfl, rfl, rfl, rfl, rfl, rfl, trivial⟩ ⟨true, H, rfl, hS.pick [0, 1, 3] [0, 1, 2] rfl⟩
    replace H := pif_f (of_decide_eq_false hb) H
    refine OJ.pures tU_ok 5 rfl ?_
    refine OJ.nil ?_
    exact EJ.meet (F' := [(5, .pointer (some ⟨b5, 0, none⟩)), (6, .pointer (some ⟨b7, 0, none⟩)), (7, .int .i64 (IntKind.i64.wrap (1 + t8))), (12, .int .i64 t12.2.1), (14, .slice A16 t15.1.length c17), (170, .bool (decide ((t27.1.length : Int) ≠ t12.2.1)))]) ⟨rfl, rfl, rfl, rfl, rfl, rfl, trivial⟩ ⟨(decide ((t27.1.length : Int) ≠ t12.2.1)), H, rfl, hS.pick [0, 1, 3] [0, 1, 2] rfl⟩
  rintro F w1 ⟨y30, he, rfl, hS⟩
  obtain rfl := Option.some.inj he
  have H := K2348
  refine CJ.cond rfl (fun hb => ?_) (fun hb => ?_)
  · replace H := pif_t hb H
    refine CJ.seq ?_
    refine CJ.region ?_
    refine OJ.pures tU_ok 1 rfl ?_
    refine OJ.nil (EJ.next ?_)
    refine CJ.ret (EJ.skR (?_))
    obtain rfl := Option.some.inj H
    exact EJ.fin rfl (.tmp rfl .nil) ⟨rfl, hS.ext⟩
  replace H := pifb_f hb H
  refine CJ.skip (EJ.next ?_)
  refine CJ.seq ?_
  refine CJ.seq ?_
  refine CJ.region ?_
  refine OJ.pures tU_ok 2 rfl ?_
  refine OJ.nil (EJ.next ?_)
  refine CJ.cond rfl (fun hb => ?_) (fun hb => ?_)
  · replace H := pif_t (of_decide_eq_true hb) H
    refine CJ.seq ?_
    refine CJ.region ?_
    refine OJ.st rfl rfl rfl (SR.load rfl rfl (fun w' hx => ldE tU_ok tI_ok rfl rfl rfl (CA.ext (hS.cells (i := 0) rfl) hx) rfl)) ?_
    refine OJ.st rfl rfl rfl (SR.load rfl rfl (fun w' hx => ldE tU_ok tI_ok rfl rfl rfl (CA.ext (hS.cells (i := 1) rfl) hx) rfl)) ?_
    obtain ⟨t32, ht32, H⟩ := pbind H
    refine OJ.callF rfl rfl rfl rfl rfl hb16 rfl (impl_BesideOf.c k _ t4 t6 _ ht32) ?_
    rintro _ w1 ⟨A33, c34, rfl, hs⟩
    replace hS := hS.addN hs
    refine OJ.pures tU_ok 5 rfl ?_
    refine OJ.nil (EJ.next ?_)
    obtain ⟨j2349, H, K2349⟩ := pbind H
    refine CJ.cut (fun F w1 => ∃ (y35 : Bool) , (some y35 : Option Bool) = some j2349 ∧ F = [(4, .bool y35)] ∧ St w no w1 [] [roC (ci .u8) Aa0 ca0 a0, roC (ci .u8) Aa1 ca1 a1, roC cSpot A10 c11 t9.1]) ?_ ?_
    · skip
      refine CJ.region ?_
      refine OJ.pures tU_ok 3 rfl ?_
      refine OJ.split (t := 181) rfl (fun hb => ?_) (fun hb => ?_)
      · replace H := pif_t (of_decide_eq_true hb) H
        refine OJ.pures tU_ok 6 rfl ?_
        refine OJ.nil ?_
        exact EJ.meet (F' := [(4, .bool (decide ((t32.1.length : Int) = t12.2.1)))]) ⟨rfl, trivial⟩ ⟨(decide ((t32.1.length : Int) = t12.2.1)), H, rfl, hS.pick [] [0, 1, 2] rfl⟩
      replace H := pif_f (of_decide_eq_false hb) H
      refine OJ.pures tU_ok 6 rfl ?_
      refine OJ.nil ?_
      exact EJ.meet (F' := [(4, .bool false)]) ⟨rfl, trivial⟩ ⟨false, H, rfl, hS.pick [] [0, 1, 2] rfl⟩
    rintro F w1 ⟨y35, he, rfl, hS⟩
    obtain rfl := Option.some.inj he
    have H := K2349
    refine CJ.ret (EJ.skR (?_))
    obtain rfl := Option.some.inj H
    exact EJ.fin rfl (.tmp rfl .nil) ⟨rfl, hS.ext⟩
  replace H := pif_f (of_decide_eq_false hb) H
  refine CJ.skip (EJ.next ?_)
  refine CJ.seq ?_
  refine CJ.region ?_
  refine OJ.st rfl rfl rfl (SR.load rfl rfl (fun w' hx => ldE tU_ok tI_ok rfl rfl rfl (CA.ext (hS.cells (i := 0) rfl) hx) rfl)) ?_
  refine OJ.pures tU_ok 1 rfl ?_
  obtain ⟨t36, ht36, H⟩ := pbind H
  refine OJ.callF rfl rfl rfl rfl rfl hb15 rfl (impl_OpenSides.c k _ t4 A16 c17 t15.1 (hS.rd (i := 2) rfl) (hS.le (i := 2) rfl) _ ht36) ?_
  rintro _ w1 ⟨A37, c38, rfl, hs⟩
  replace hS := hS.addN hs
  refine OJ.pures tU_ok 5 rfl ?_
  refine OJ.nil (EJ.next ?_)
  refine CJ.seq ?_
  refine CJ.region ?_
  refine OJ.pures tU_ok 3 rfl ?_
  refine OJ.split (t := 195) rfl (fun hb => ?_) (fun hb => ?_)
  · replace H := pif_t (of_decide_eq_true hb) H
    refine OJ.pures tU_ok 5 rfl ?_
    refine OJ.split (t := 200) rfl (fun hb => ?_) (fun hb => ?_)
    · replace H := pif_t (of_decide_eq_true hb) H
      refine OJ.pures tU_ok 5 rfl ?_
      refine OJ.split (t := 205) rfl (fun hb => ?_) (fun hb => ?_)
      · replace H := pif_t (of_decide_eq_true hb) H
        refine OJ.pures tU_ok 5 rfl ?_
        refine OJ.nil (EJ.next ?_)
        refine CJ.ret (?_)
        obtain rfl := Option.some.inj H
        exact EJ.fin rfl (.tmp rfl .nil) ⟨rfl, hS.ext⟩
      replace H := pif_f (of_decide_eq_false hb) H
      refine OJ.pures tU_ok 5 rfl ?_
      refine OJ.nil (EJ.next ?_)
      refine CJ.ret (?_)
      obtain rfl := Option.some.inj H
      exact EJ.fin rfl (.tmp rfl .nil) ⟨rfl, hS.ext⟩
    replace H := pif_f (of_decide_eq_false hb) H
    refine OJ.pures tU_ok 10 rfl ?_
    refine OJ.nil (EJ.next ?_)
    refine CJ.ret (?_)
    obtain rfl := Option.some.inj H
    exact EJ.fin rfl (.tmp rfl .nil) ⟨rfl, hS.ext⟩
  replace H := pif_f (of_decide_eq_false hb) H
  refine OJ.pures tU_ok 15 rfl ?_
  refine OJ.nil (EJ.next ?_)
  refine CJ.ret (?_)
  obtain rfl := Option.some.inj H
  exact EJ.fin rfl (.tmp rfl .nil) ⟨rfl, hS.ext⟩
end Go.Proofs.YtegibnmfiogebaaGreat
