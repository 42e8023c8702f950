/-
  What the functions come to.
-/
import Derived.Test.YtpaciifeklccfaaGP2
namespace Go.Proofs.Ytpaciifeklccfaa
open G
set_option linter.unusedVariables false
set_option linter.unusedSimpArgs false
set_option maxRecDepth 100000
set_option maxHeartbeats 1000000
def spec_l01Set.f (a0 : Pasture) (a1 : Spot) (a2 : Int) (a3 : Bool) : Option Pasture := (if a2 = 0 then (some true) else (some (decide (a2 = 3)))).bind fun y2 => if y2 = true then ((spec_l01Next.f a1 a2).bind fun t3 => (chk (0 ≤ (IntKind.u64.wrap t3.X))).bind fun u4 => (if a2 = 1 then (some true) else (some (decide (a2 = 3)))).bind fun y5 => if y5 = true then ((getI a0.East.l t3.Y).bind fun t6 => (getI a0.East.l t3.Y).bind fun t7 => if a3 = true then ((getI (aset a0.East t3.Y.toNat (andNotI .u16 t6 (shlI .u16 1 (IntKind.u64.wrap t3.X)))).l t3.Y).bind fun t8 => (getI (aset a0.East t3.Y.toNat (andNotI .u16 t6 (shlI .u16 1 (IntKind.u64.wrap t3.X)))).l t3.Y).bind fun t9 => some (⟨a0.Wide, a0.High, a0.Grass, (aset (aset a0.East t3.Y.toNat (andNotI .u16 t6 (shlI .u16 1 (IntKind.u64.wrap t3.X)))) t3.Y.toNat (orI .u16 t8 (shlI .u16 1 (IntKind.u64.wrap t3.X)))), a0.South⟩ : Pasture)) else (some (⟨a0.Wide, a0.High, a0.Grass, (aset a0.East t3.Y.toNat (andNotI .u16 t6 (shlI .u16 1 (IntKind.u64.wrap t3.X)))), a0.South⟩ : Pasture))) else ((getI a0.South.l t3.Y).bind fun t10 => (getI a0.South.l t3.Y).bind fun t11 => if a3 = true then ((getI (aset a0.South t3.Y.toNat (andNotI .u16 t10 (shlI .u16 1 (IntKind.u64.wrap t3.X)))).l t3.Y).bind fun t12 => (getI (aset a0.South t3.Y.toNat (andNotI .u16 t10 (shlI .u16 1 (IntKind.u64.wrap t3.X)))).l t3.Y).bind fun t13 => some (⟨a0.Wide, a0.High, a0.Grass, a0.East, (aset (aset a0.South t3.Y.toNat (andNotI .u16 t10 (shlI .u16 1 (IntKind.u64.wrap t3.X)))) t3.Y.toNat (orI .u16 t12 (shlI .u16 1 (IntKind.u64.wrap t3.X))))⟩ : Pasture)) else (some (⟨a0.Wide, a0.High, a0.Grass, a0.East, (aset a0.South t3.Y.toNat (andNotI .u16 t10 (shlI .u16 1 (IntKind.u64.wrap t3.X))))⟩ : Pasture)))) else ((chk (0 ≤ (IntKind.u64.wrap a1.X))).bind fun u14 => (if a2 = 1 then (some true) else (some (decide (a2 = 3)))).bind fun y15 => if y15 = true then ((getI a0.East.l a1.Y).bind fun t16 => (getI a0.East.l a1.Y).bind fun t17 => if a3 = true then ((getI (aset a0.East a1.Y.toNat (andNotI .u16 t16 (shlI .u16 1 (IntKind.u64.wrap a1.X)))).l a1.Y).bind fun t18 => (getI (aset a0.East a1.Y.toNat (andNotI .u16 t16 (shlI .u16 1 (IntKind.u64.wrap a1.X)))).l a1.Y).bind fun t19 => some (⟨a0.Wide, a0.High, a0.Grass, (aset (aset a0.East a1.Y.toNat (andNotI .u16 t16 (shlI .u16 1 (IntKind.u64.wrap a1.X)))) a1.Y.toNat (orI .u16 t18 (shlI .u16 1 (IntKind.u64.wrap a1.X)))), a0.South⟩ : Pasture)) else (some (⟨a0.Wide, a0.High, a0.Grass, (aset a0.East a1.Y.toNat (andNotI .u16 t16 (shlI .u16 1 (IntKind.u64.wrap a1.X)))), a0.South⟩ : Pasture))) else ((getI a0.South.l a1.Y).bind fun t20 => (getI a0.South.l a1.Y).bind fun t21 => if a3 = true then ((getI (aset a0.South a1.Y.toNat (andNotI .u16 t20 (shlI .u16 1 (IntKind.u64.wrap a1.X)))).l a1.Y).bind fun t22 => (getI (aset a0.South a1.Y.toNat (andNotI .u16 t20 (shlI .u16 1 (IntKind.u64.wrap a1.X)))).l a1.Y).bind fun t23 => some (⟨a0.Wide, a0.High, a0.Grass, a0.East, (aset (aset a0.South a1.Y.toNat (andNotI .u16 t20 (shlI .u16 1 (IntKind.u64.wrap a1.X)))) a1.Y.toNat (orI .u16 t22 (shlI .u16 1 (IntKind.u64.wrap a1.X))))⟩ : Pasture)) else (some (⟨a0.Wide, a0.High, a0.Grass, a0.East, (aset a0.South a1.Y.toNat (andNotI .u16 t20 (shlI .u16 1 (IntKind.u64.wrap a1.X))))⟩ : Pasture))))
theorem spec_l01Set.c (w : World) (ba0 : Nat) (a0 : Pasture) (a1 : Spot) (a2 : Int) (a3 : Bool) (hin : St w (fpU [box ba0 (cPasture.enc a0) 32]) w [box ba0 (cPasture.enc a0) 32] []) (r : Pasture) (H : spec_l01Set.f a0 a1 a2 a3 = some r) :
    CV Try.prog 162 [.pointer (some ⟨ba0, 0, none⟩), .agg (cSpot.enc a1).toArray, .int .i64 a2, .bool a3].toArray w fun v w' => v = .tuple #[] ∧ St w (fpU [box ba0 (cPasture.enc a0) 32]) w' [box ba0 (cPasture.enc r) 32] [] := by
  have hS := hin
  unfold spec_l01Set.f at H
  refine CV.body Try.func162 rfl Try.ntmps162 rfl ?_
  refine CJ.seq ?_
  refine CJ.region ?_
  refine OJ.ef rfl rfl rfl (Ef.box hS rfl rfl (cSpot.enc a1) rfl) ?_
  rintro _ w1 ⟨b1, rfl, hS⟩
  refine OJ.nil (EJ.next ?_)
  refine CJ.seq ?_
  obtain ⟨j169, H, K169⟩ := pbind H
  refine CJ.cut (fun F w1 => ∃ (y2 : Bool) , (some y2 : Option Bool) = some j169 ∧ F = [(0, .pointer (some ⟨ba0, 0, none⟩)), (2, .int .i64 a2), (3, .bool a3), (5, .pointer (some ⟨b1, 0, none⟩)), (14, .bool y2)] ∧ St w (fpU [box ba0 (cPasture.enc a0) 32]) w1 [box ba0 (cPasture.enc a0) 32, box b1 (cSpot.enc a1) 105] []) ?_ ?_
  · skip
    refine CJ.region ?_
    refine OJ.pures tU_ok 3 rfl ?_
    refine OJ.split (t := 11) rfl (fun hb => ?_) (fun hb => ?_)
    · replace H := pif_t (of_decide_eq_true hb) H
      refine OJ.pures tU_ok 3 rfl ?_
      refine OJ.nil ?_
      exact EJ.meet (F' := [(0, .pointer (some ⟨ba0, 0, none⟩)), (2, .int .i64 a2), (3, .bool a3), (5, .pointer (some ⟨b1, 0, none⟩)), (14, .bool true)]) ⟨rfl, rfl, rfl, rfl, rfl, trivial⟩ ⟨true, H, rfl, hS.pick [0, 1] [] rfl⟩
    · replace H := pif_f (of_decide_eq_false hb) H
      refine OJ.pures tU_ok 3 rfl ?_
      refine OJ.nil ?_
      exact EJ.meet (F' := [(0, .pointer (some ⟨ba0, 0, none⟩)), (2, .int .i64 a2), (3, .bool a3), (5, .pointer (some ⟨b1, 0, none⟩)), (14, .bool (decide (a2 = 3)))]) ⟨rfl, rfl, rfl, rfl, rfl, trivial⟩ ⟨(decide (a2 = 3)), H, rfl, hS.pick [0, 1] [] rfl⟩
  · rintro F w1 ⟨y2, he, rfl, hS⟩
    obtain rfl := Option.some.inj he
    have H := K169
    refine CJ.cond rfl (fun hb => ?_) (fun hb => ?_)
    · replace H := pif_t hb H
      refine CJ.region ?_
      refine OJ.st rfl rfl rfl (SR.load rfl rfl (fun w' hx => ldE tU_ok tI_ok rfl rfl rfl (CA.ext (hS.cells (i := 1) rfl) hx) rfl)) ?_
      refine OJ.pures tU_ok 1 rfl ?_
      obtain ⟨t3, ht3, H⟩ := pbind H
      refine OJ.callF rfl rfl rfl rfl rfl hb178 rfl (spec_l01Next.c _ a1 a2 _ ht3) ?_
      rintro _ w1 ⟨rfl, hs⟩
      replace hS := hS.grow hs
      refine OJ.es rfl rfl (Es.store tI_ok hS (i := 1) rfl rfl rfl rfl rfl rfl (vs := cSpot.enc t3) rfl (cSpot.len _) (cSpot.one _) (Nat.le_of_ble_eq_true rfl) (cSpot.enc t3) rfl) ?_
      intro w1 hS
      refine OJ.nil (EJ.next ?_)
      refine CJ.seq ?_
      refine CJ.region ?_
      refine OJ.st rfl rfl rfl (SR.fieldAddr tU_ok tI_ok rfl rfl rfl rfl rfl rfl) ?_
      refine OJ.st rfl rfl rfl (SR.load rfl rfl (fun w' hx => ld1 tU_ok rfl rfl (CA.ext (CA.sub (hS.cells (i := 1) rfl) 0) hx) rfl)) ?_
      refine OJ.pures tU_ok 1 rfl ?_
      obtain ⟨u4, hu4, H⟩ := pbind H
      refine OJ.st rfl rfl rfl (SR.shl rfl rfl rfl (chk_some hu4)) ?_
      refine OJ.pures tU_ok 1 rfl ?_
      refine OJ.nil (EJ.next ?_)
      refine CJ.seq ?_
      obtain ⟨j170, H, K170⟩ := pbind H
      refine CJ.cut (fun F w1 => ∃ (y5 : Bool) , (some y5 : Option Bool) = some j170 ∧ F = [(0, .pointer (some ⟨ba0, 0, none⟩)), (3, .bool a3), (5, .pointer (some ⟨b1, 0, none⟩)), (8, .int .u16 (shlI .u16 1 (IntKind.u64.wrap t3.X))), (27, .bool y5)] ∧ St w (fpU [box ba0 (cPasture.enc a0) 32]) w1 [box ba0 (cPasture.enc a0) 32, box b1 (cSpot.enc t3) 105] []) ?_ ?_
      · skip
        refine CJ.region ?_
        refine OJ.pures tU_ok 3 rfl ?_
        refine OJ.split (t := 24) rfl (fun hb => ?_) (fun hb => ?_)
        · replace H := pif_t (of_decide_eq_true hb) H
          refine OJ.pures tU_ok 3 rfl ?_
          refine OJ.nil ?_
          exact EJ.meet (F' := [(0, .pointer (some ⟨ba0, 0, none⟩)), (3, .bool a3), (5, .pointer (some ⟨b1, 0, none⟩)), (8, .int .u16 (shlI .u16 1 (IntKind.u64.wrap t3.X))), (27, .bool true)]) ⟨rfl, rfl, rfl, rfl, rfl, trivial⟩ ⟨true, H, rfl, hS.pick [0, 1] [] rfl⟩
        · replace H := pif_f (of_decide_eq_false hb) H
          refine OJ.pures tU_ok 3 rfl ?_
          refine OJ.nil ?_
          exact EJ.meet (F' := [(0, .pointer (some ⟨ba0, 0, none⟩)), (3, .bool a3), (5, .pointer (some ⟨b1, 0, none⟩)), (8, .int .u16 (shlI .u16 1 (IntKind.u64.wrap t3.X))), (27, .bool (decide (a2 = 3)))]) ⟨rfl, rfl, rfl, rfl, rfl, trivial⟩ ⟨(decide (a2 = 3)), H, rfl, hS.pick [0, 1] [] rfl⟩
      · rintro F w1 ⟨y5, he, rfl, hS⟩
        obtain rfl := Option.some.inj he
        have H := K170
        refine CJ.cond rfl (fun hb => ?_) (fun hb => ?_)
        · replace H := pif_t hb H
          refine CJ.seq ?_
          refine CJ.draw [] [0, 1, 2, 3, 4, 5, 6, 7, 8, 9, 10, 11, 12] mixed (by kernel_rfl) hS fun w1 hS => ?_
          refine DJ.pures tU_ok 1 rfl ?_
          refine DJ.st rfl rfl rfl rfl rfl (SR.fieldAddr tU_ok tI_ok rfl rfl rfl rfl rfl rfl) ?_
          refine DJ.st rfl rfl rfl rfl rfl (SR.load rfl rfl (fun w' hx => ld1 tU_ok rfl rfl (CA.ext (CA.sub (hS.cells (i := 1) rfl) 1) hx) rfl)) ?_
          refine DJ.pures tU_ok 1 rfl ?_
          refine DJ.st rfl rfl rfl rfl rfl (SR.fieldAddr tU_ok tI_ok rfl rfl rfl rfl rfl rfl) ?_
          obtain ⟨t6, ht6, H⟩ := pbind H
          refine DJ.st rfl rfl rfl rfl rfl (SR.idxA tU_ok tI_ok rfl rfl rfl rfl rfl (Arr.lt ht6)) ?_
          refine DJ.st rfl rfl rfl rfl rfl (SR.load rfl rfl (fun w' hx => ld1 tU_ok rfl rfl (CA.ext (CA.idx (CA.fld (hS.cells (i := 0) rfl) (mid_part (fe_Pasture_3 _) (fl_Pasture_3 _) ((carr 10 (ci .u16)).len _))) ht6) hx) rfl)) ?_
          refine DJ.pures tU_ok 3 rfl ?_
          refine DJ.st rfl rfl rfl rfl rfl (SR.fieldAddr tU_ok tI_ok rfl rfl rfl rfl rfl rfl) ?_
          obtain ⟨t7, ht7, H⟩ := pbind H
          refine DJ.st rfl rfl rfl rfl rfl (SR.idxA tU_ok tI_ok rfl rfl rfl rfl rfl (Arr.lt ht7)) ?_
          refine DJ.es rfl rfl rfl rfl (Es.put tI_ok hS (i := 0) rfl rfl rfl rfl rfl (vs := (ci .u16).enc (andNotI .u16 t6 (shlI .u16 1 (IntKind.u64.wrap t3.X)))) rfl rfl (one1 rfl) (put_Pasture_3 (Put.idx (Put.all (ci .u16) t7 (andNotI .u16 t6 (shlI .u16 1 (IntKind.u64.wrap t3.X)))) ht7)) (by (try simp only [add_lit, Nat.add_assoc, Nat.zero_add, Nat.add_zero]) <;> rfl)) ?_
          intro w1 hS
          refine DJ.nil (EJ.next ?_)
          refine CJ.seq ?_
          refine CJ.seq ?_
          refine CJ.region ?_
          refine OJ.pures tU_ok 1 rfl ?_
          refine OJ.nil (EJ.next ?_)
          refine CJ.cond rfl (fun hb => ?_) (fun hb => ?_)
          · replace H := pif_t hb H
            refine CJ.draw [] [0, 1, 2, 3, 4, 5, 6, 7, 8, 9, 10, 11, 12] mixed (by kernel_rfl) hS fun w1 hS => ?_
            refine DJ.pures tU_ok 1 rfl ?_
            refine DJ.st rfl rfl rfl rfl rfl (SR.fieldAddr tU_ok tI_ok rfl rfl rfl rfl rfl rfl) ?_
            refine DJ.st rfl rfl rfl rfl rfl (SR.load rfl rfl (fun w' hx => ld1 tU_ok rfl rfl (CA.ext (CA.sub (hS.cells (i := 1) rfl) 1) hx) rfl)) ?_
            refine DJ.pures tU_ok 1 rfl ?_
            refine DJ.st rfl rfl rfl rfl rfl (SR.fieldAddr tU_ok tI_ok rfl rfl rfl rfl rfl rfl) ?_
            obtain ⟨t8, ht8, H⟩ := pbind H
            refine DJ.st rfl rfl rfl rfl rfl (SR.idxA tU_ok tI_ok rfl rfl rfl rfl rfl (Arr.lt ht8)) ?_
            refine DJ.st rfl rfl rfl rfl rfl (SR.load rfl rfl (fun w' hx => ld1 tU_ok rfl rfl (CA.ext (CA.idx (CA.fld (hS.cells (i := 0) rfl) (mid_part (fe_Pasture_3 _) (fl_Pasture_3 _) ((carr 10 (ci .u16)).len _))) ht8) hx) rfl)) ?_
            refine DJ.pures tU_ok 3 rfl ?_
            refine DJ.st rfl rfl rfl rfl rfl (SR.fieldAddr tU_ok tI_ok rfl rfl rfl rfl rfl rfl) ?_
            obtain ⟨t9, ht9, H⟩ := pbind H
            refine DJ.st rfl rfl rfl rfl rfl (SR.idxA tU_ok tI_ok rfl rfl rfl rfl rfl (Arr.lt ht9)) ?_
            refine DJ.es rfl rfl rfl rfl (Es.put tI_ok hS (i := 0) rfl rfl rfl rfl rfl (vs := (ci .u16).enc (orI .u16 t8 (shlI .u16 1 (IntKind.u64.wrap t3.X)))) rfl rfl (one1 rfl) (put_Pasture_3 (Put.idx (Put.all (ci .u16) t9 (orI .u16 t8 (shlI .u16 1 (IntKind.u64.wrap t3.X)))) ht9)) (by (try simp only [add_lit, Nat.add_assoc, Nat.zero_add, Nat.add_zero]) <;> rfl)) ?_
            intro w1 hS
            refine DJ.nil (EJ.next ?_)
            refine CJ.ret (EJ.skR (?_))
            obtain rfl := Option.some.inj H
            exact EJ.fin rfl .nil ⟨rfl, hS.pick [0] [] rfl⟩
          · replace H := pifb_f hb H
            refine CJ.skip (EJ.next ?_)
            refine CJ.ret (EJ.skR (?_))
            obtain rfl := Option.some.inj H
            exact EJ.fin rfl .nil ⟨rfl, hS.pick [0] [] rfl⟩
        · replace H := pifb_f hb H
          refine CJ.skip (EJ.next ?_)
          refine CJ.seq ?_
          refine CJ.draw [] [0, 1, 2, 3, 4, 5, 6, 7, 8, 9, 10, 11, 12] mixed (by kernel_rfl) hS fun w1 hS => ?_
          refine DJ.pures tU_ok 1 rfl ?_
          refine DJ.st rfl rfl rfl rfl rfl (SR.fieldAddr tU_ok tI_ok rfl rfl rfl rfl rfl rfl) ?_
          refine DJ.st rfl rfl rfl rfl rfl (SR.load rfl rfl (fun w' hx => ld1 tU_ok rfl rfl (CA.ext (CA.sub (hS.cells (i := 1) rfl) 1) hx) rfl)) ?_
          refine DJ.pures tU_ok 1 rfl ?_
          refine DJ.st rfl rfl rfl rfl rfl (SR.fieldAddr tU_ok tI_ok rfl rfl rfl rfl rfl rfl) ?_
          obtain ⟨t10, ht10, H⟩ := pbind H
          refine DJ.st rfl rfl rfl rfl rfl (SR.idxA tU_ok tI_ok rfl rfl rfl rfl rfl (Arr.lt ht10)) ?_
          refine DJ.st rfl rfl rfl rfl rfl (SR.load rfl rfl (fun w' hx => ld1 tU_ok rfl rfl (CA.ext (CA.idx (CA.fld (hS.cells (i := 0) rfl) (mid_part (fe_Pasture_4 _) (fl_Pasture_4 _) ((carr 10 (ci .u16)).len _))) ht10) hx) rfl)) ?_
          refine DJ.pures tU_ok 3 rfl ?_
          refine DJ.st rfl rfl rfl rfl rfl (SR.fieldAddr tU_ok tI_ok rfl rfl rfl rfl rfl rfl) ?_
          obtain ⟨t11, ht11, H⟩ := pbind H
          refine DJ.st rfl rfl rfl rfl rfl (SR.idxA tU_ok tI_ok rfl rfl rfl rfl rfl (Arr.lt ht11)) ?_
          refine DJ.es rfl rfl rfl rfl (Es.put tI_ok hS (i := 0) rfl rfl rfl rfl rfl (vs := (ci .u16).enc (andNotI .u16 t10 (shlI .u16 1 (IntKind.u64.wrap t3.X)))) rfl rfl (one1 rfl) (put_Pasture_4 (Put.idx (Put.all (ci .u16) t11 (andNotI .u16 t10 (shlI .u16 1 (IntKind.u64.wrap t3.X)))) ht11)) (by (try simp only [add_lit, Nat.add_assoc, Nat.zero_add, Nat.add_zero]) <;> rfl)) ?_
          intro w1 hS
          refine DJ.nil (EJ.next ?_)
          refine CJ.seq ?_
          refine CJ.region ?_
          refine OJ.pures tU_ok 1 rfl ?_
          refine OJ.nil (EJ.next ?_)
          refine CJ.cond rfl (fun hb => ?_) (fun hb => ?_)
          · replace H := pif_t hb H
            refine CJ.draw [] [0, 1, 2, 3, 4, 5, 6, 7, 8, 9, 10, 11, 12] mixed (by kernel_rfl) hS fun w1 hS => ?_
            refine DJ.pures tU_ok 1 rfl ?_
            refine DJ.st rfl rfl rfl rfl rfl (SR.fieldAddr tU_ok tI_ok rfl rfl rfl rfl rfl rfl) ?_
            refine DJ.st rfl rfl rfl rfl rfl (SR.load rfl rfl (fun w' hx => ld1 tU_ok rfl rfl (CA.ext (CA.sub (hS.cells (i := 1) rfl) 1) hx) rfl)) ?_
            refine DJ.pures tU_ok 1 rfl ?_
            refine DJ.st rfl rfl rfl rfl rfl (SR.fieldAddr tU_ok tI_ok rfl rfl rfl rfl rfl rfl) ?_
            obtain ⟨t12, ht12, H⟩ := pbind H
            refine DJ.st rfl rfl rfl rfl rfl (SR.idxA tU_ok tI_ok rfl rfl rfl rfl rfl (Arr.lt ht12)) ?_
            refine DJ.st rfl rfl rfl rfl rfl (SR.load rfl rfl (fun w' hx => ld1 tU_ok rfl rfl (CA.ext (CA.idx (CA.fld (hS.cells (i := 0) rfl) (mid_part (fe_Pasture_4 _) (fl_Pasture_4 _) ((carr 10 (ci .u16)).len _))) ht12) hx) rfl)) ?_
            refine DJ.pures tU_ok 3 rfl ?_
            refine DJ.st rfl rfl rfl rfl rfl (SR.fieldAddr tU_ok tI_ok rfl rfl rfl rfl rfl rfl) ?_
            obtain ⟨t13, ht13, H⟩ := pbind H
            refine DJ.st rfl rfl rfl rfl rfl (SR.idxA tU_ok tI_ok rfl rfl rfl rfl rfl (Arr.lt ht13)) ?_
            refine DJ.es rfl rfl rfl rfl (Es.put tI_ok hS (i := 0) rfl rfl rfl rfl rfl (vs := (ci .u16).enc (orI .u16 t12 (shlI .u16 1 (IntKind.u64.wrap t3.X)))) rfl rfl (one1 rfl) (put_Pasture_4 (Put.idx (Put.all (ci .u16) t13 (orI .u16 t12 (shlI .u16 1 (IntKind.u64.wrap t3.X)))) ht13)) (by (try simp only [add_lit, Nat.add_assoc, Nat.zero_add, Nat.add_zero]) <;> rfl)) ?_
            intro w1 hS
            refine DJ.nil ?_
            obtain rfl := Option.some.inj H
            exact EJ.fin' rfl .nil ⟨rfl, hS.pick [0] [] rfl⟩
          · replace H := pifb_f hb H
            refine CJ.skip (?_)
            obtain rfl := Option.some.inj H
            exact EJ.fin' rfl .nil ⟨rfl, hS.pick [0] [] rfl⟩
    · replace H := pifb_f hb H
      refine CJ.skip (EJ.next ?_)
      refine CJ.seq ?_
      refine CJ.region ?_
      refine OJ.st rfl rfl rfl (SR.fieldAddr tU_ok tI_ok rfl rfl rfl rfl rfl rfl) ?_
      refine OJ.st rfl rfl rfl (SR.load rfl rfl (fun w' hx => ld1 tU_ok rfl rfl (CA.ext (CA.sub (hS.cells (i := 1) rfl) 0) hx) rfl)) ?_
      refine OJ.pures tU_ok 1 rfl ?_
      obtain ⟨u14, hu14, H⟩ := pbind H
      refine OJ.st rfl rfl rfl (SR.shl rfl rfl rfl (chk_some hu14)) ?_
      refine OJ.pures tU_ok 1 rfl ?_
      refine OJ.nil (EJ.next ?_)
      refine CJ.seq ?_
      obtain ⟨j171, H, K171⟩ := pbind H
      refine CJ.cut (fun F w1 => ∃ (y15 : Bool) , (some y15 : Option Bool) = some j171 ∧ F = [(0, .pointer (some ⟨ba0, 0, none⟩)), (3, .bool a3), (5, .pointer (some ⟨b1, 0, none⟩)), (8, .int .u16 (shlI .u16 1 (IntKind.u64.wrap a1.X))), (27, .bool y15)] ∧ St w (fpU [box ba0 (cPasture.enc a0) 32]) w1 [box ba0 (cPasture.enc a0) 32, box b1 (cSpot.enc a1) 105] []) ?_ ?_
      · skip
        refine CJ.region ?_
        refine OJ.pures tU_ok 3 rfl ?_
        refine OJ.split (t := 24) rfl (fun hb => ?_) (fun hb => ?_)
        · replace H := pif_t (of_decide_eq_true hb) H
          refine OJ.pures tU_ok 3 rfl ?_
          refine OJ.nil ?_
          exact EJ.meet (F' := [(0, .pointer (some ⟨ba0, 0, none⟩)), (3, .bool a3), (5, .pointer (some ⟨b1, 0, none⟩)), (8, .int .u16 (shlI .u16 1 (IntKind.u64.wrap a1.X))), (27, .bool true)]) ⟨rfl, rfl, rfl, rfl, rfl, trivial⟩ ⟨true, H, rfl, hS.pick [0, 1] [] rfl⟩
        · replace H := pif_f (of_decide_eq_false hb) H
          refine OJ.pures tU_ok 3 rfl ?_
          refine OJ.nil ?_
          exact EJ.meet (F' := [(0, .pointer (some ⟨ba0, 0, none⟩)), (3, .bool a3), (5, .pointer (some ⟨b1, 0, none⟩)), (8, .int .u16 (shlI .u16 1 (IntKind.u64.wrap a1.X))), (27, .bool (decide (a2 = 3)))]) ⟨rfl, rfl, rfl, rfl, rfl, trivial⟩ ⟨(decide (a2 = 3)), H, rfl, hS.pick [0, 1] [] rfl⟩
      · rintro F w1 ⟨y15, he, rfl, hS⟩
        obtain rfl := Option.some.inj he
        have H := K171
        refine CJ.cond rfl (fun hb => ?_) (fun hb => ?_)
        · replace H := pif_t hb H
          refine CJ.seq ?_
          refine CJ.draw [] [0, 1, 2, 3, 4, 5, 6, 7, 8, 9, 10, 11, 12] mixed (by kernel_rfl) hS fun w1 hS => ?_
          refine DJ.pures tU_ok 1 rfl ?_
          refine DJ.st rfl rfl rfl rfl rfl (SR.fieldAddr tU_ok tI_ok rfl rfl rfl rfl rfl rfl) ?_
          refine DJ.st rfl rfl rfl rfl rfl (SR.load rfl rfl (fun w' hx => ld1 tU_ok rfl rfl (CA.ext (CA.sub (hS.cells (i := 1) rfl) 1) hx) rfl)) ?_
          refine DJ.pures tU_ok 1 rfl ?_
          refine DJ.st rfl rfl rfl rfl rfl (SR.fieldAddr tU_ok tI_ok rfl rfl rfl rfl rfl rfl) ?_
          obtain ⟨t16, ht16, H⟩ := pbind H
          refine DJ.st rfl rfl rfl rfl rfl (SR.idxA tU_ok tI_ok rfl rfl rfl rfl rfl (Arr.lt ht16)) ?_
          refine DJ.st rfl rfl rfl rfl rfl (SR.load rfl rfl (fun w' hx => ld1 tU_ok rfl rfl (CA.ext (CA.idx (CA.fld (hS.cells (i := 0) rfl) (mid_part (fe_Pasture_3 _) (fl_Pasture_3 _) ((carr 10 (ci .u16)).len _))) ht16) hx) rfl)) ?_
          refine DJ.pures tU_ok 3 rfl ?_
          refine DJ.st rfl rfl rfl rfl rfl (SR.fieldAddr tU_ok tI_ok rfl rfl rfl rfl rfl rfl) ?_
          obtain ⟨t17, ht17, H⟩ := pbind H
          refine DJ.st rfl rfl rfl rfl rfl (SR.idxA tU_ok tI_ok rfl rfl rfl rfl rfl (Arr.lt ht17)) ?_
          refine DJ.es rfl rfl rfl rfl (Es.put tI_ok hS (i := 0) rfl rfl rfl rfl rfl (vs := (ci .u16).enc (andNotI .u16 t16 (shlI .u16 1 (IntKind.u64.wrap a1.X)))) rfl rfl (one1 rfl) (put_Pasture_3 (Put.idx (Put.all (ci .u16) t17 (andNotI .u16 t16 (shlI .u16 1 (IntKind.u64.wrap a1.X)))) ht17)) (by (try simp only [add_lit, Nat.add_assoc, Nat.zero_add, Nat.add_zero]) <;> rfl)) ?_
          intro w1 hS
          refine DJ.nil (EJ.next ?_)
          refine CJ.seq ?_
          refine CJ.seq ?_
          refine CJ.region ?_
          refine OJ.pures tU_ok 1 rfl ?_
          refine OJ.nil (EJ.next ?_)
          refine CJ.cond rfl (fun hb => ?_) (fun hb => ?_)
          · replace H := pif_t hb H
            refine CJ.draw [] [0, 1, 2, 3, 4, 5, 6, 7, 8, 9, 10, 11, 12] mixed (by kernel_rfl) hS fun w1 hS => ?_
            refine DJ.pures tU_ok 1 rfl ?_
            refine DJ.st rfl rfl rfl rfl rfl (SR.fieldAddr tU_ok tI_ok rfl rfl rfl rfl rfl rfl) ?_
            refine DJ.st rfl rfl rfl rfl rfl (SR.load rfl rfl (fun w' hx => ld1 tU_ok rfl rfl (CA.ext (CA.sub (hS.cells (i := 1) rfl) 1) hx) rfl)) ?_
            refine DJ.pures tU_ok 1 rfl ?_
            refine DJ.st rfl rfl rfl rfl rfl (SR.fieldAddr tU_ok tI_ok rfl rfl rfl rfl rfl rfl) ?_
            obtain ⟨t18, ht18, H⟩ := pbind H
            refine DJ.st rfl rfl rfl rfl rfl (SR.idxA tU_ok tI_ok rfl rfl rfl rfl rfl (Arr.lt ht18)) ?_
            refine DJ.st rfl rfl rfl rfl rfl (SR.load rfl rfl (fun w' hx => ld1 tU_ok rfl rfl (CA.ext (CA.idx (CA.fld (hS.cells (i := 0) rfl) (mid_part (fe_Pasture_3 _) (fl_Pasture_3 _) ((carr 10 (ci .u16)).len _))) ht18) hx) rfl)) ?_
            refine DJ.pures tU_ok 3 rfl ?_
            refine DJ.st rfl rfl rfl rfl rfl (SR.fieldAddr tU_ok tI_ok rfl rfl rfl rfl rfl rfl) ?_
            obtain ⟨t19, ht19, H⟩ := pbind H
            refine DJ.st rfl rfl rfl rfl rfl (SR.idxA tU_ok tI_ok rfl rfl rfl rfl rfl (Arr.lt ht19)) ?_
            refine DJ.es rfl rfl rfl rfl (Es.put tI_ok hS (i := 0) rfl rfl rfl rfl rfl (vs := (ci .u16).enc (orI .u16 t18 (shlI .u16 1 (IntKind.u64.wrap a1.X)))) rfl rfl (one1 rfl) (put_Pasture_3 (Put.idx (Put.all (ci .u16) t19 (orI .u16 t18 (shlI .u16 1 (IntKind.u64.wrap a1.X)))) ht19)) (by (try simp only [add_lit, Nat.add_assoc, Nat.zero_add, Nat.add_zero]) <;> rfl)) ?_
            intro w1 hS
            refine DJ.nil (EJ.next ?_)
            refine CJ.ret (EJ.skR (?_))
            obtain rfl := Option.some.inj H
            exact EJ.fin rfl .nil ⟨rfl, hS.pick [0] [] rfl⟩
          · replace H := pifb_f hb H
            refine CJ.skip (EJ.next ?_)
            refine CJ.ret (EJ.skR (?_))
            obtain rfl := Option.some.inj H
            exact EJ.fin rfl .nil ⟨rfl, hS.pick [0] [] rfl⟩
        · replace H := pifb_f hb H
          refine CJ.skip (EJ.next ?_)
          refine CJ.seq ?_
          refine CJ.draw [] [0, 1, 2, 3, 4, 5, 6, 7, 8, 9, 10, 11, 12] mixed (by kernel_rfl) hS fun w1 hS => ?_
          refine DJ.pures tU_ok 1 rfl ?_
          refine DJ.st rfl rfl rfl rfl rfl (SR.fieldAddr tU_ok tI_ok rfl rfl rfl rfl rfl rfl) ?_
          refine DJ.st rfl rfl rfl rfl rfl (SR.load rfl rfl (fun w' hx => ld1 tU_ok rfl rfl (CA.ext (CA.sub (hS.cells (i := 1) rfl) 1) hx) rfl)) ?_
          refine DJ.pures tU_ok 1 rfl ?_
          refine DJ.st rfl rfl rfl rfl rfl (SR.fieldAddr tU_ok tI_ok rfl rfl rfl rfl rfl rfl) ?_
          obtain ⟨t20, ht20, H⟩ := pbind H
          refine DJ.st rfl rfl rfl rfl rfl (SR.idxA tU_ok tI_ok rfl rfl rfl rfl rfl (Arr.lt ht20)) ?_
          refine DJ.st rfl rfl rfl rfl rfl (SR.load rfl rfl (fun w' hx => ld1 tU_ok rfl rfl (CA.ext (CA.idx (CA.fld (hS.cells (i := 0) rfl) (mid_part (fe_Pasture_4 _) (fl_Pasture_4 _) ((carr 10 (ci .u16)).len _))) ht20) hx) rfl)) ?_
          refine DJ.pures tU_ok 3 rfl ?_
          refine DJ.st rfl rfl rfl rfl rfl (SR.fieldAddr tU_ok tI_ok rfl rfl rfl rfl rfl rfl) ?_
          obtain ⟨t21, ht21, H⟩ := pbind H
          refine DJ.st rfl rfl rfl rfl rfl (SR.idxA tU_ok tI_ok rfl rfl rfl rfl rfl (Arr.lt ht21)) ?_
          refine DJ.es rfl rfl rfl rfl (Es.put tI_ok hS (i := 0) rfl rfl rfl rfl rfl (vs := (ci .u16).enc (andNotI .u16 t20 (shlI .u16 1 (IntKind.u64.wrap a1.X)))) rfl rfl (one1 rfl) (put_Pasture_4 (Put.idx (Put.all (ci .u16) t21 (andNotI .u16 t20 (shlI .u16 1 (IntKind.u64.wrap a1.X)))) ht21)) (by (try simp only [add_lit, Nat.add_assoc, Nat.zero_add, Nat.add_zero]) <;> rfl)) ?_
          intro w1 hS
          refine DJ.nil (EJ.next ?_)
          refine CJ.seq ?_
          refine CJ.region ?_
          refine OJ.pures tU_ok 1 rfl ?_
          refine OJ.nil (EJ.next ?_)
          refine CJ.cond rfl (fun hb => ?_) (fun hb => ?_)
          · replace H := pif_t hb H
            refine CJ.draw [] [0, 1, 2, 3, 4, 5, 6, 7, 8, 9, 10, 11, 12] mixed (by kernel_rfl) hS fun w1 hS => ?_
            refine DJ.pures tU_ok 1 rfl ?_
            refine DJ.st rfl rfl rfl rfl rfl (SR.fieldAddr tU_ok tI_ok rfl rfl rfl rfl rfl rfl) ?_
            refine DJ.st rfl rfl rfl rfl rfl (SR.load rfl rfl (fun w' hx => ld1 tU_ok rfl rfl (CA.ext (CA.sub (hS.cells (i := 1) rfl) 1) hx) rfl)) ?_
            refine DJ.pures tU_ok 1 rfl ?_
            refine DJ.st rfl rfl rfl rfl rfl (SR.fieldAddr tU_ok tI_ok rfl rfl rfl rfl rfl rfl) ?_
            obtain ⟨t22, ht22, H⟩ := pbind H
            refine DJ.st rfl rfl rfl rfl rfl (SR.idxA tU_ok tI_ok rfl rfl rfl rfl rfl (Arr.lt ht22)) ?_
            refine DJ.st rfl rfl rfl rfl rfl (SR.load rfl rfl (fun w' hx => ld1 tU_ok rfl rfl (CA.ext (CA.idx (CA.fld (hS.cells (i := 0) rfl) (mid_part (fe_Pasture_4 _) (fl_Pasture_4 _) ((carr 10 (ci .u16)).len _))) ht22) hx) rfl)) ?_
            refine DJ.pures tU_ok 3 rfl ?_
            refine DJ.st rfl rfl rfl rfl rfl (SR.fieldAddr tU_ok tI_ok rfl rfl rfl rfl rfl rfl) ?_
            obtain ⟨t23, ht23, H⟩ := pbind H
            refine DJ.st rfl rfl rfl rfl rfl (SR.idxA tU_ok tI_ok rfl rfl rfl rfl rfl (Arr.lt ht23)) ?_
            refine DJ.es rfl rfl rfl rfl (Es.put tI_ok hS (i := 0) rfl rfl rfl rfl rfl (vs := (ci .u16).enc (orI .u16 t22 (shlI .u16 1 (IntKind.u64.wrap a1.X)))) rfl rfl (one1 rfl) (put_Pasture_4 (Put.idx (Put.all (ci .u16) t23 (orI .u16 t22 (shlI .u16 1 (IntKind.u64.wrap a1.X)))) ht23)) (by (try simp only [add_lit, Nat.add_assoc, Nat.zero_add, Nat.add_zero]) <;> rfl)) ?_
            intro w1 hS
            refine DJ.nil ?_
            obtain rfl := Option.some.inj H
            exact EJ.fin' rfl .nil ⟨rfl, hS.pick [0] [] rfl⟩
          · replace H := pifb_f hb H
            refine CJ.skip (?_)
            obtain rfl := Option.some.inj H
            exact EJ.fin' rfl .nil ⟨rfl, hS.pick [0] [] rfl⟩

def spec_l03Put.l1 (a1 : List Hurdle) (a2 : Bool) : Nat → Pasture → Int → Option Pasture
  | 0, _, _ => none
  | k + 1, y4, y5 => if y5 < (a1.length : Int) then ((getI a1 y5).bind fun t6 => (getI a1 y5).bind fun t7 => (spec_l03Side.f t7).bind fun t8 => (spec_l01Set.f y4 t6.At t8 a2).bind fun t9 => spec_l03Put.l1 a1 a2 k t9 (IntKind.i64.wrap (y5 + 1))) else (some y4)
def spec_l03Put.f (k : Nat) (a0 : Pasture) (a1 : List Hurdle) (a2 : Bool) : Option Pasture := (spec_l03Put.l1 a1 a2 k a0 0).bind fun y3 => some y3
theorem spec_l03Put.c (k : Nat) (w : World) (a0 : Pasture) (Aa1 : Option Addr) (ca1 : Nat) (a1 : List Hurdle) (hr1 : Rd cHurdle w Aa1 a1) (hc1 : a1.length ≤ ca1) (a2 : Bool) (r : Pasture) (H : spec_l03Put.f k a0 a1 a2 = some r) :
    CV Try.prog 128 [.agg (cPasture.enc a0).toArray, .slice Aa1 a1.length ca1, .bool a2].toArray w fun v w' => v = .agg (cPasture.enc r).toArray ∧ Ext w w' := by
  have hS := ((St.init w no).param cHurdle Aa1 ca1 a1 hr1 hc1)
  unfold spec_l03Put.f at H
  refine CV.body Try.func128 rfl Try.ntmps128 rfl ?_
  refine CJ.seq ?_
  refine CJ.region ?_
  refine OJ.ef rfl rfl rfl (Ef.box hS rfl rfl (cPasture.enc a0) rfl) ?_
  rintro _ w1 ⟨b1, rfl, hS⟩
  refine OJ.ef rfl rfl rfl (Ef.alloc hS tI_ok rfl rfl (cPasture.enc (⟨0, 0, (Arr.mk' (Arr.mk' 0 : Arr 10 Int) : Arr 10 (Arr 10 Int)), (Arr.mk' 0 : Arr 10 Int), (Arr.mk' 0 : Arr 10 Int)⟩ : Pasture)) (by kernel_rfl)) ?_
  rintro _ w1 ⟨b2, rfl, hS⟩
  refine OJ.nil (EJ.next ?_)
  refine CJ.seq ?_
  refine CJ.seq ?_
  refine CJ.region ?_
  refine OJ.pures tU_ok 1 rfl ?_
  refine OJ.nil (EJ.next ?_)
  obtain ⟨j166, H, K166⟩ := pbind H
  refine CJ.cut1 (fun F w1 => ∃ (y3 : Pasture) , (some y3 : Option Pasture) = some j166 ∧ F = [(3, .pointer (some ⟨b1, 0, none⟩)), (6, .pointer (some ⟨b2, 0, none⟩))] ∧ St w no w1 [box b1 (cPasture.enc y3) 32, box b2 (cPasture.enc (⟨0, 0, (Arr.mk' (Arr.mk' 0 : Arr 10 Int) : Arr 10 (Arr 10 Int)), (Arr.mk' 0 : Arr 10 Int), (Arr.mk' 0 : Arr 10 Int)⟩ : Pasture)) 32] [roC cHurdle Aa1 ca1 a1]) ?_ ?_
  · skip
    refine CJ.block ?_
    refine CJ.loop (fun k F w1 => ∃ (y4 : Pasture) (y5 : Int), F = [(1, .slice Aa1 a1.length ca1), (2, .bool a2), (3, .pointer (some ⟨b1, 0, none⟩)), (6, .pointer (some ⟨b2, 0, none⟩)), (7, .int .i64 y5)] ∧ St w no w1 [box b1 (cPasture.enc y4) 32, box b2 (cPasture.enc (⟨0, 0, (Arr.mk' (Arr.mk' 0 : Arr 10 Int) : Arr 10 (Arr 10 Int)), (Arr.mk' 0 : Arr 10 Int), (Arr.mk' 0 : Arr 10 Int)⟩ : Pasture)) 32] [roC cHurdle Aa1 ca1 a1] ∧ spec_l03Put.l1 a1 a2 k y4 y5 = some j166) k (F' := [(1, .slice Aa1 a1.length ca1), (2, .bool a2), (3, .pointer (some ⟨b1, 0, none⟩)), (6, .pointer (some ⟨b2, 0, none⟩)), (7, .int .i64 0)]) ⟨rfl, rfl, rfl, rfl, rfl, trivial⟩ ⟨a0, 0, rfl, hS.pick [0, 1] [0] rfl, H⟩ ?_
    rintro k F w1 ⟨y4, y5, rfl, hS, H⟩
    cases k with
    | zero => rw [spec_l03Put.l1] at H; cases H
    | succ k =>
      rw [spec_l03Put.l1] at H
      refine CJ.seq ?_
      refine CJ.seq ?_
      refine CJ.region ?_
      refine OJ.pures tU_ok 4 rfl ?_
      refine OJ.nil (EJ.next ?_)
      refine CJ.cond rfl (fun hb => ?_) (fun hb => ?_)
      · replace H := pif_t (of_decide_eq_true hb) H
        refine CJ.skip (EJ.next ?_)
        refine CJ.seq ?_
        refine CJ.block ?_
        refine CJ.draw [11] [0, 1, 2, 3, 4, 5, 6, 7, 8, 10, 9, 11] mixed (by kernel_rfl) hS fun w1 hS => ?_
        refine DJ.pures tU_ok 2 rfl ?_
        obtain ⟨t6, ht6, H⟩ := pbind H
        obtain ⟨ad6, e6⟩ := (hS.rd' (i := 0) rfl).some' ht6
        refine DJ.st rfl rfl rfl rfl rfl (SR.idxS tU_ok tI_ok rfl rfl rfl rfl e6 rfl (getI_some ht6).1) ?_
        refine DJ.st rfl rfl rfl rfl rfl (SR.fieldAddr tU_ok tI_ok rfl rfl rfl rfl rfl rfl) ?_
        refine DJ.st rfl rfl rfl rfl rfl (SR.load rfl rfl (fun w' hx => ldN tU_ok tI_ok rfl rfl rfl (CA.ext (CA.sub ((hS.rd' (i := 0) rfl).at_ e6 ht6) 0) hx) (cSpot.len _) rfl)) ?_
        refine DJ.pures tU_ok 2 rfl ?_
        obtain ⟨t7, ht7, H⟩ := pbind H
        obtain ⟨ad7, e7⟩ := (hS.rd' (i := 0) rfl).some' ht7
        refine DJ.st rfl rfl rfl rfl rfl (SR.idxS tU_ok tI_ok rfl rfl rfl rfl e7 rfl (getI_some ht7).1) ?_
        refine DJ.st rfl rfl rfl rfl rfl (SR.load rfl rfl (fun w' hx => ldE tU_ok tI_ok rfl rfl rfl (CA.ext ((hS.rd' (i := 0) rfl).at_ e7 ht7) hx) rfl)) ?_
        refine DJ.pures tU_ok 1 rfl ?_
        obtain ⟨t8, ht8, H⟩ := pbind H
        refine DJ.callF rfl rfl rfl rfl rfl rfl rfl hb163 rfl (spec_l03Side.c _ t7 _ ht8) (by rintro v w' ⟨rfl, hs⟩; exact hs) ?_
        rintro _ w1 ⟨rfl, hs⟩
        replace hS := hS.grow hs
        obtain ⟨t9, ht9, H⟩ := pbind H
        refine DJ.callFw rfl rfl rfl rfl rfl rfl rfl hb162 rfl (spec_l01Set.c _ b1 y4 t6.At t8 a2 ((hS.subs [0] [] [] rfl).pick [0] [] rfl) _ ht9) ?_
        rintro _ w1 ⟨rfl, hs⟩
        replace hS := hS.back [0] rfl rfl [box b1 (cPasture.enc t9) 32] [] hs ⟨fun _ => Iff.rfl, trivial⟩
        refine DJ.nil (EJ.blk (EJ.next ?_))
        refine CJ.region ?_
        refine OJ.pures tU_ok 3 rfl ?_
        refine OJ.nil ?_
        exact EJ.round k (F' := [(1, .slice Aa1 a1.length ca1), (2, .bool a2), (3, .pointer (some ⟨b1, 0, none⟩)), (6, .pointer (some ⟨b2, 0, none⟩)), (7, .int .i64 (IntKind.i64.wrap (y5 + 1)))]) ⟨rfl, rfl, rfl, rfl, rfl, trivial⟩ (Nat.lt_succ_self _) ⟨t9, (IntKind.i64.wrap (y5 + 1)), rfl, hS.pick [0, 1] [0] rfl, H⟩
      · replace H := pif_f (of_decide_eq_false hb) H
        refine CJ.exit (EJ.skE (EJ.skE (EJ.hit (?_))))
        exact EJ.meet (F' := [(3, .pointer (some ⟨b1, 0, none⟩)), (6, .pointer (some ⟨b2, 0, none⟩))]) ⟨rfl, rfl, trivial⟩ ⟨y4, H, rfl, hS.pick [0, 1] [0] rfl⟩
  · rintro F w1 ⟨y3, he, rfl, hS⟩
    obtain rfl := Option.some.inj he
    have H := K166
    refine EJ.next ?_
    refine CJ.seq ?_
    refine CJ.region ?_
    refine OJ.st rfl rfl rfl (SR.load rfl rfl (fun w' hx => ldE tU_ok tI_ok rfl rfl rfl (CA.ext (hS.cells (i := 0) rfl) hx) rfl)) ?_
    refine OJ.es rfl rfl (Es.put tI_ok hS (i := 1) rfl rfl rfl rfl rfl (vs := cPasture.enc y3) rfl (cPasture.len _) (cPasture.one _) (Put.all cPasture (⟨0, 0, (Arr.mk' (Arr.mk' 0 : Arr 10 Int) : Arr 10 (Arr 10 Int)), (Arr.mk' 0 : Arr 10 Int), (Arr.mk' 0 : Arr 10 Int)⟩ : Pasture) y3) (by (try simp only [add_lit, Nat.add_assoc, Nat.zero_add, Nat.add_zero]) <;> rfl)) ?_
    intro w1 hS
    refine OJ.nil (EJ.next ?_)
    refine CJ.ret (?_)
    obtain rfl := Option.some.inj H
    exact EJ.fin rfl (.cell rfl (ldE tU_ok tI_ok rfl rfl rfl (hS.cells (i := 1) rfl) rfl) .nil) ⟨rfl, hS.ext⟩

def slices_IndexFunc_impl_Hurdle_impl_Hurdle.l1 (a0 : List Hurdle) (a1 : Hurdle → Option Bool) : Nat → Int → Option (Int ⊕ Unit)
  | 0, _ => none
  | k + 1, y1 => if y1 < (a0.length : Int) then ((getI a0 y1).bind fun t2 => (a1 t2).bind fun t3 => if t3 = true then (some (Sum.inl y1)) else (slices_IndexFunc_impl_Hurdle_impl_Hurdle.l1 a0 a1 k (IntKind.i64.wrap (y1 + 1)))) else (some (Sum.inr ()))
def slices_IndexFunc_impl_Hurdle_impl_Hurdle.f (k : Nat) (a0 : List Hurdle) (a1 : Hurdle → Option Bool) : Option Int := (slices_IndexFunc_impl_Hurdle_impl_Hurdle.l1 a0 a1 k 0).bind fun s172 => match s172 with | .inl r => some r | .inr _ => some (-1)
theorem slices_IndexFunc_impl_Hurdle_impl_Hurdle.c (k : Nat) (w : World) (Aa0 : Option Addr) (ca0 : Nat) (a0 : List Hurdle) (hr0 : Rd cHurdle w Aa0 a0) (hc0 : a0.length ≤ ca0) (na1 : Nat) (fsa1 capa1 : Array Value) (hb1 : hasBody Try.prog na1) (a1 : Hurdle → Option Bool) (hf1 : ∀ (z0 : Hurdle) (r : Bool), a1 z0 = some r → ∀ w', Chg no w w' → CV Try.prog na1 (fsa1 ++ [.agg (cHurdle.enc z0).toArray].toArray ++ capa1) w' fun v w'' => v = .bool r ∧ Ext w' w'') (r : Int) (H : slices_IndexFunc_impl_Hurdle_impl_Hurdle.f k a0 a1 = some r) :
    CV Try.prog 164 [.slice Aa0 a0.length ca0, .func (.func na1) fsa1 capa1].toArray w fun v w' => v = .int .i64 r ∧ Ext w w' := by
  have hS := ((St.init w no).param cHurdle Aa0 ca0 a0 hr0 hc0)
  unfold slices_IndexFunc_impl_Hurdle_impl_Hurdle.f at H
  refine CV.body Try.func164 rfl Try.ntmps164 rfl ?_
  refine CJ.seq ?_
  refine CJ.region ?_
  refine OJ.pures tU_ok 1 rfl ?_
  refine OJ.nil (EJ.next ?_)
  refine CJ.seq ?_
  refine CJ.seq ?_
  refine CJ.region ?_
  refine OJ.pures tU_ok 3 rfl ?_
  refine OJ.nil (EJ.next ?_)
  obtain ⟨j172, H, K172⟩ := pbind H
  refine CJ.cut1 (fun F w1 => (some (Sum.inr ()) : Option (Int ⊕ Unit)) = some j172 ∧ F = [] ∧ St w no w1 [] [roC cHurdle Aa0 ca0 a0]) ?_ ?_
  · skip
    refine CJ.block ?_
    refine CJ.loop (fun k F w1 => ∃ (y1 : Int), F = [(0, .slice Aa0 a0.length ca0), (1, .func (.func na1) fsa1 capa1), (7, .int .i64 (a0.length : Int)), (8, .int .i64 y1)] ∧ St w no w1 [] [roC cHurdle Aa0 ca0 a0] ∧ slices_IndexFunc_impl_Hurdle_impl_Hurdle.l1 a0 a1 k y1 = some j172) k (F' := [(0, .slice Aa0 a0.length ca0), (1, .func (.func na1) fsa1 capa1), (7, .int .i64 (a0.length : Int)), (8, .int .i64 0)]) ⟨rfl, rfl, rfl, rfl, trivial⟩ ⟨0, rfl, hS.pick [] [0] rfl, H⟩ ?_
    rintro k F w1 ⟨y1, rfl, hS, H⟩
    cases k with
    | zero => rw [slices_IndexFunc_impl_Hurdle_impl_Hurdle.l1] at H; cases H
    | succ k =>
      rw [slices_IndexFunc_impl_Hurdle_impl_Hurdle.l1] at H
      refine CJ.seq ?_
      refine CJ.region ?_
      refine OJ.pures tU_ok 1 rfl ?_
      refine OJ.nil (EJ.next ?_)
      refine CJ.seq ?_
      refine CJ.cond rfl (fun hb => ?_) (fun hb => ?_)
      · replace H := pif_t (of_decide_eq_true hb) H
        refine CJ.skip (EJ.next ?_)
        refine CJ.seq ?_
        refine CJ.block ?_
        refine CJ.seq ?_
        refine CJ.region ?_
        refine OJ.pures tU_ok 2 rfl ?_
        refine OJ.nil (EJ.next ?_)
        refine CJ.seq ?_
        refine CJ.region ?_
        refine OJ.pures tU_ok 3 rfl ?_
        obtain ⟨t2, ht2, H⟩ := pbind H
        obtain ⟨ad2, e2⟩ := (hS.rd' (i := 0) rfl).some' ht2
        refine OJ.st rfl rfl rfl (SR.idxS tU_ok tI_ok rfl rfl rfl rfl e2 rfl (getI_some ht2).1) ?_
        refine OJ.st rfl rfl rfl (SR.load rfl rfl (fun w' hx => ldE tU_ok tI_ok rfl rfl rfl (CA.ext ((hS.rd' (i := 0) rfl).at_ e2 ht2) hx) rfl)) ?_
        obtain ⟨t3, ht3, H⟩ := pbind H
        refine OJ.call rfl rfl (Nat.le_of_ble_eq_true rfl) rfl rfl rfl hb1 rfl (hf1 t2 _ ht3 _ hS.chg) ?_
        rintro _ w1 ⟨rfl, hs⟩
        replace hS := hS.grow hs
        refine OJ.nil (EJ.next ?_)
        refine CJ.cond rfl (fun hb => ?_) (fun hb => ?_)
        · replace H := pif_t hb H
          refine CJ.seq ?_
          refine CJ.region ?_
          refine OJ.pures tU_ok 2 rfl ?_
          refine OJ.nil (EJ.next ?_)
          refine CJ.ret (EJ.bkR (EJ.skR (EJ.skR (EJ.bkR (EJ.skR (EJ.skR (?_)))))))
          first | (obtain rfl := Option.some.inj H; have H := K172) | (obtain ⟨q172, H2, e172⟩ := pbind H; obtain rfl := Option.some.inj e172; obtain rfl := Option.some.inj K172; have H := H2)
          obtain rfl := Option.some.inj H
          exact EJ.fin rfl (.tmp rfl .nil) ⟨rfl, hS.ext⟩
        · replace H := pifb_f hb H
          refine CJ.skip (EJ.blk (EJ.next ?_))
          refine CJ.region ?_
          refine OJ.pures tU_ok 2 rfl ?_
          refine OJ.nil ?_
          exact EJ.round k (F' := [(0, .slice Aa0 a0.length ca0), (1, .func (.func na1) fsa1 capa1), (7, .int .i64 (a0.length : Int)), (8, .int .i64 (IntKind.i64.wrap (y1 + 1)))]) ⟨rfl, rfl, rfl, rfl, trivial⟩ (Nat.lt_succ_self _) ⟨(IntKind.i64.wrap (y1 + 1)), rfl, hS.pick [] [0] rfl, H⟩
      · replace H := pif_f (of_decide_eq_false hb) H
        refine CJ.exit (EJ.skE (EJ.skE (EJ.hit (?_))))
        exact EJ.meet (F' := []) trivial ⟨H, rfl, hS.pick [] [0] rfl⟩
  · rintro F w1 ⟨he, rfl, hS⟩
    obtain rfl := Option.some.inj he
    have H := K172
    refine EJ.next ?_
    refine CJ.seq ?_
    refine CJ.region ?_
    refine OJ.pures tU_ok 1 rfl ?_
    refine OJ.nil (EJ.next ?_)
    refine CJ.ret (?_)
    obtain rfl := Option.some.inj H
    exact EJ.fin rfl (.tmp rfl .nil) ⟨rfl, hS.ext⟩

def slices_DeleteFunc_impl_Hurdle_impl_Hurdle.l1 (a1 : Hurdle → Option Bool) : Nat → (List Hurdle) → Int → Int → Option ((List Hurdle) × Int)
  | 0, _, _, _ => none
  | k + 1, y4, y5, y6 => if y6 < (y4.length : Int) then ((getI y4 y6).bind fun t7 => (a1 t7).bind fun t9 => if (!t9) = true then ((getI y4 y5).bind fun t10 => slices_DeleteFunc_impl_Hurdle_impl_Hurdle.l1 a1 k (y4.set y5.toNat t7) (IntKind.i64.wrap (y5 + 1)) (IntKind.i64.wrap (y6 + 1))) else (slices_DeleteFunc_impl_Hurdle_impl_Hurdle.l1 a1 k y4 y5 (IntKind.i64.wrap (y6 + 1)))) else (some (y4, y5))
def slices_DeleteFunc_impl_Hurdle_impl_Hurdle.f (k : Nat) (a0 : List Hurdle) (a1 : Hurdle → Option Bool) : Option (List Hurdle) := (slices_IndexFunc_impl_Hurdle_impl_Hurdle.f k a0 a1).bind fun t1 => if t1 = (-1) then (some a0) else ((slices_DeleteFunc_impl_Hurdle_impl_Hurdle.l1 a1 k a0 t1 (IntKind.i64.wrap (t1 + 1))).bind fun (y2, y3) => (chk (0 ≤ y3 ∧ y3 ≤ (y2.length : Int) ∧ (y2.length : Int) ≤ (y2.length : Int))).bind fun u11 => (chk (0 ≤ 0 ∧ 0 ≤ y3 ∧ y3 ≤ ((y2.take y3.toNat ++ List.replicate (y2.length - y3.toNat) (⟨(⟨0, 0⟩ : Spot), false⟩ : Hurdle)).length : Int))).bind fun u12 => some ((y2.take y3.toNat ++ List.replicate (y2.length - y3.toNat) (⟨(⟨0, 0⟩ : Spot), false⟩ : Hurdle)).take y3.toNat))
theorem slices_DeleteFunc_impl_Hurdle_impl_Hurdle.c (k : Nat) (w : World) (Aa0 : Option Addr) (ca0 : Nat) (a0 : List Hurdle) (na1 : Nat) (fsa1 capa1 : Array Value) (hb1 : hasBody Try.prog na1) (a1 : Hurdle → Option Bool) (hf1 : ∀ (z0 : Hurdle) (r : Bool), a1 z0 = some r → ∀ w', Chg (fpU [rowC cHurdle Aa0 ca0 161 a0]) w w' → CV Try.prog na1 (fsa1 ++ [.agg (cHurdle.enc z0).toArray].toArray ++ capa1) w' fun v w'' => v = .bool r ∧ Ext w' w'') (hin : St w (fpU [rowC cHurdle Aa0 ca0 161 a0]) w [rowC cHurdle Aa0 ca0 161 a0] []) (r : List Hurdle) (H : slices_DeleteFunc_impl_Hurdle_impl_Hurdle.f k a0 a1 = some r) :
    CV Try.prog 129 [.slice Aa0 a0.length ca0, .func (.func na1) fsa1 capa1].toArray w fun v w' => ∃ (A0 : Option Addr) (c0 : Nat), v = .slice A0 r.length c0 ∧ St w (fpU [rowC cHurdle Aa0 ca0 161 a0]) w' [rowC cHurdle A0 c0 161 r] [] := by
  have hS := hin
  unfold slices_DeleteFunc_impl_Hurdle_impl_Hurdle.f at H
  refine CV.body Try.func129 rfl Try.ntmps129 rfl ?_
  refine CJ.seq ?_
  refine CJ.region ?_
  refine OJ.pures tU_ok 1 rfl ?_
  refine OJ.nil (EJ.next ?_)
  refine CJ.seq ?_
  refine CJ.region ?_
  refine OJ.pures tU_ok 2 rfl ?_
  obtain ⟨t1, ht1, H⟩ := pbind H
  refine OJ.callF rfl rfl rfl rfl rfl hb164 rfl (slices_IndexFunc_impl_Hurdle_impl_Hurdle.c k _ Aa0 ca0 a0 (hS.rd (i := 0) rfl) (hS.le (i := 0) rfl) na1 fsa1 capa1 hb1 a1 (fun z0 r h w' hx => hf1 z0 r h w' (hS.chg.then hx (fun _ _ e => e.elim))) _ ht1) ?_
  rintro _ w1 ⟨rfl, hs⟩
  replace hS := hS.grow hs
  refine OJ.pures tU_ok 1 rfl ?_
  refine OJ.nil (EJ.next ?_)
  refine CJ.seq ?_
  refine CJ.seq ?_
  refine CJ.region ?_
  refine OJ.pures tU_ok 2 rfl ?_
  refine OJ.nil (EJ.next ?_)
  refine CJ.cond rfl (fun hb => ?_) (fun hb => ?_)
  · replace H := pif_t (of_decide_eq_true hb) H
    refine CJ.seq ?_
    refine CJ.region ?_
    refine OJ.pures tU_ok 2 rfl ?_
    refine OJ.nil (EJ.next ?_)
    refine CJ.ret (EJ.skR (?_))
    obtain rfl := Option.some.inj H
    exact EJ.fin rfl (.tmp rfl .nil) ⟨Aa0, ca0, rfl, hS.pick [0] [] rfl⟩
  · replace H := pif_f (of_decide_eq_false hb) H
    refine CJ.skip (EJ.next ?_)
    refine CJ.seq ?_
    refine CJ.seq ?_
    refine CJ.region ?_
    refine OJ.pures tU_ok 3 rfl ?_
    refine OJ.nil (EJ.next ?_)
    obtain ⟨j173, H, K173⟩ := pbind H
    refine CJ.cut1 (fun F w1 => ∃ (y2 : List Hurdle) (y3 : Int) , (some (y2, y3) : Option ((List Hurdle) × Int)) = some j173 ∧ F = [(0, .slice Aa0 y2.length ca0), (5, .int .i64 y3)] ∧ St w (fpU [rowC cHurdle Aa0 ca0 161 a0]) w1 [rowC cHurdle Aa0 ca0 161 y2] []) ?_ ?_
    · skip
      refine CJ.block ?_
      refine CJ.loop (fun k F w1 => ∃ (y4 : List Hurdle) (y5 : Int) (y6 : Int), F = [(0, .slice Aa0 y4.length ca0), (1, .func (.func na1) fsa1 capa1), (5, .int .i64 y5), (6, .int .i64 y6)] ∧ St w (fpU [rowC cHurdle Aa0 ca0 161 a0]) w1 [rowC cHurdle Aa0 ca0 161 y4] [] ∧ slices_DeleteFunc_impl_Hurdle_impl_Hurdle.l1 a1 k y4 y5 y6 = some j173) k (F' := [(0, .slice Aa0 a0.length ca0), (1, .func (.func na1) fsa1 capa1), (5, .int .i64 t1), (6, .int .i64 (IntKind.i64.wrap (t1 + 1)))]) ⟨rfl, rfl, rfl, rfl, trivial⟩ ⟨a0, t1, (IntKind.i64.wrap (t1 + 1)), rfl, hS.pick [0] [] rfl, H⟩ ?_
      rintro k F w1 ⟨y4, y5, y6, rfl, hS, H⟩
      cases k with
      | zero => rw [slices_DeleteFunc_impl_Hurdle_impl_Hurdle.l1] at H; cases H
      | succ k =>
        rw [slices_DeleteFunc_impl_Hurdle_impl_Hurdle.l1] at H
        refine CJ.seq ?_
        refine CJ.seq ?_
        refine CJ.region ?_
        refine OJ.pures tU_ok 4 rfl ?_
        refine OJ.nil (EJ.next ?_)
        refine CJ.cond rfl (fun hb => ?_) (fun hb => ?_)
        · replace H := pif_t (of_decide_eq_true hb) H
          refine CJ.skip (EJ.next ?_)
          refine CJ.seq ?_
          refine CJ.block ?_
          refine CJ.seq ?_
          refine CJ.region ?_
          refine OJ.pures tU_ok 2 rfl ?_
          obtain ⟨t7, ht7, H⟩ := pbind H
          obtain ⟨ad7, e7⟩ := (hS.rd (i := 0) rfl).some' ht7
          refine OJ.st rfl rfl rfl (SR.idxS tU_ok tI_ok rfl rfl rfl rfl e7 rfl (getI_some ht7).1) ?_
          refine OJ.st rfl rfl rfl (SR.load rfl rfl (fun w' hx => ldE tU_ok tI_ok rfl rfl rfl (CA.ext ((hS.rd (i := 0) rfl).at_ e7 ht7) hx) rfl)) ?_
          refine OJ.ef rfl rfl rfl (Ef.alloc hS tI_ok rfl rfl (cHurdle.enc (⟨(⟨0, 0⟩ : Spot), false⟩ : Hurdle)) rfl) ?_
          rintro _ w1 ⟨b8, rfl, hS⟩
          refine OJ.es rfl rfl (Es.store tI_ok hS (i := 1) rfl rfl rfl rfl rfl rfl (vs := cHurdle.enc t7) rfl (cHurdle.len _) (cHurdle.one _) (Nat.le_of_ble_eq_true rfl) (cHurdle.enc t7) rfl) ?_
          intro w1 hS
          refine OJ.nil (EJ.next ?_)
          refine CJ.seq ?_
          refine CJ.region ?_
          refine OJ.pures tU_ok 1 rfl ?_
          refine OJ.st rfl rfl rfl (SR.load rfl rfl (fun w' hx => ldE tU_ok tI_ok rfl rfl rfl (CA.ext (hS.cells (i := 1) rfl) hx) rfl)) ?_
          obtain ⟨t9, ht9, H⟩ := pbind H
          refine OJ.call rfl rfl (Nat.le_of_ble_eq_true rfl) rfl rfl rfl hb1 rfl (hf1 t7 _ ht9 _ hS.chg) ?_
          rintro _ w1 ⟨rfl, hs⟩
          replace hS := hS.grow hs
          refine OJ.pures tU_ok 1 rfl ?_
          refine OJ.nil (EJ.next ?_)
          refine CJ.cond rfl (fun hb => ?_) (fun hb => ?_)
          · replace H := pif_t hb H
            refine CJ.seq ?_
            refine CJ.region ?_
            refine OJ.pures tU_ok 2 rfl ?_
            refine OJ.st rfl rfl rfl (SR.load rfl rfl (fun w' hx => ldE tU_ok tI_ok rfl rfl rfl (CA.ext (hS.cells (i := 1) rfl) hx) rfl)) ?_
            obtain ⟨t10, ht10, H⟩ := pbind H
            obtain ⟨ad10, e10⟩ := (hS.rd (i := 0) rfl).some' ht10
            refine OJ.st rfl rfl rfl (SR.idxS tU_ok tI_ok rfl rfl rfl rfl e10 rfl (getI_some ht10).1) ?_
            refine OJ.es rfl rfl (Es.storeR tI_ok hS (i := 0) (off := 0) rfl rfl ht10 e10 rfl rfl rfl rfl (vs := cHurdle.enc t7) rfl (cHurdle.len _) (cHurdle.one _) (Nat.le_of_ble_eq_true rfl) t7 rfl) ?_
            intro w1 hS
            refine OJ.as (t := 0) rfl (show _ = (.slice Aa0 (y4.set y5.toNat t7).length ca0 : Value) by simp only [List.length_set]) ?_
            refine OJ.as (t := 17) rfl (show _ = (.slice Aa0 (y4.set y5.toNat t7).length ca0 : Value) by simp only [List.length_set]) ?_
            refine OJ.as (t := 22) rfl (show _ = (.slice Aa0 (y4.set y5.toNat t7).length ca0 : Value) by simp only [List.length_set]) ?_
            refine OJ.as (t := 30) rfl (show _ = (.slice Aa0 (y4.set y5.toNat t7).length ca0 : Value) by simp only [List.length_set]) ?_
            refine OJ.nil (EJ.next ?_)
            refine CJ.region ?_
            refine OJ.pures tU_ok 3 rfl ?_
            refine OJ.nil (EJ.blk (EJ.next ?_))
            refine CJ.region ?_
            refine OJ.pures tU_ok 3 rfl ?_
            refine OJ.nil ?_
            exact EJ.round k (F' := [(0, .slice Aa0 (y4.set y5.toNat t7).length ca0), (1, .func (.func na1) fsa1 capa1), (5, .int .i64 (IntKind.i64.wrap (y5 + 1))), (6, .int .i64 (IntKind.i64.wrap (y6 + 1)))]) ⟨rfl, rfl, rfl, rfl, trivial⟩ (Nat.lt_succ_self _) ⟨(y4.set y5.toNat t7), (IntKind.i64.wrap (y5 + 1)), (IntKind.i64.wrap (y6 + 1)), rfl, hS.pick [0] [] rfl, H⟩
          · replace H := pifb_f hb H
            refine CJ.skip (EJ.blk (EJ.next ?_))
            refine CJ.region ?_
            refine OJ.pures tU_ok 3 rfl ?_
            refine OJ.nil ?_
            exact EJ.round k (F' := [(0, .slice Aa0 y4.length ca0), (1, .func (.func na1) fsa1 capa1), (5, .int .i64 y5), (6, .int .i64 (IntKind.i64.wrap (y6 + 1)))]) ⟨rfl, rfl, rfl, rfl, trivial⟩ (Nat.lt_succ_self _) ⟨y4, y5, (IntKind.i64.wrap (y6 + 1)), rfl, hS.pick [0] [] rfl, H⟩
        · replace H := pif_f (of_decide_eq_false hb) H
          refine CJ.exit (EJ.skE (EJ.skE (EJ.hit (?_))))
          exact EJ.meet (F' := [(0, .slice Aa0 y4.length ca0), (5, .int .i64 y5)]) ⟨rfl, rfl, trivial⟩ ⟨y4, y5, H, rfl, hS.pick [0] [] rfl⟩
    · rintro F w1 ⟨y2, y3, he, rfl, hS⟩
      obtain rfl := Option.some.inj he
      have H := K173
      refine EJ.next ?_
      refine CJ.seq ?_
      refine CJ.region ?_
      refine OJ.pures tU_ok 2 rfl ?_
      obtain ⟨u11, hu11, H⟩ := pbind H
      refine OJ.st rfl rfl rfl (SR.cutS tU_ok tI_ok (y3.toNat) (y2.length) rfl rfl rfl rfl rfl rfl (.inr ⟨_, _, rfl, (chk_some hu11).1, rfl⟩) (.inl ⟨rfl, rfl⟩) (by have := (chk_some hu11); omega) (by have := (chk_some hu11); have := (hS.le (i := 0) rfl : y2.length ≤ ca0); omega)) ?_
      refine OJ.ewn rfl rfl (Ew.clear tU_ok tI_ok (C := cHurdle) (lo := y3.toNat) hS (i := 0) rfl rfl rfl rfl rfl rfl rfl rfl rfl (⟨(⟨0, 0⟩ : Spot), false⟩ : Hurdle) rfl (by have := (chk_some hu11); omega) rfl) ?_
      rintro _ w1 ⟨rfl, hS⟩
      refine OJ.as (t := 0) rfl (show _ = (.slice Aa0 (y2.take y3.toNat ++ List.replicate (y2.length - y3.toNat) (⟨(⟨0, 0⟩ : Spot), false⟩ : Hurdle)).length ca0 : Value) by (rw [List.length_append, List.length_take, List.length_replicate, Nat.min_eq_left (by have := (chk_some hu11); omega), Nat.add_sub_cancel' (by have := (chk_some hu11); omega)])) ?_
      refine OJ.as (t := 36) rfl (show _ = (.slice Aa0 (y2.take y3.toNat ++ List.replicate (y2.length - y3.toNat) (⟨(⟨0, 0⟩ : Spot), false⟩ : Hurdle)).length ca0 : Value) by (rw [List.length_append, List.length_take, List.length_replicate, Nat.min_eq_left (by have := (chk_some hu11); omega), Nat.add_sub_cancel' (by have := (chk_some hu11); omega)])) ?_
      refine OJ.nil (EJ.next ?_)
      refine CJ.seq ?_
      refine CJ.region ?_
      refine OJ.pures tU_ok 2 rfl ?_
      obtain ⟨u12, hu12, H⟩ := pbind H
      refine OJ.st rfl rfl rfl (SR.cut0 tU_ok tI_ok rfl rfl rfl rfl rfl (by have := (chk_some hu12); omega) (by have := (chk_some hu12); have := (hS.le (i := 0) rfl : (y2.take y3.toNat ++ List.replicate (y2.length - y3.toNat) (⟨(⟨0, 0⟩ : Spot), false⟩ : Hurdle)).length ≤ ca0); omega)) ?_
      replace hS := hS.shrink (i := 0) (m := y3.toNat) rfl (by have := (chk_some hu12); omega)
      refine OJ.as (t := 41) rfl (show _ = (.slice Aa0 ((y2.take y3.toNat ++ List.replicate (y2.length - y3.toNat) (⟨(⟨0, 0⟩ : Spot), false⟩ : Hurdle)).take y3.toNat).length ca0 : Value) by rw [List.length_take, Nat.min_eq_left (by have := (chk_some hu12); omega)]) ?_
      refine OJ.pures tU_ok 1 rfl ?_
      refine OJ.nil (EJ.next ?_)
      refine CJ.ret (?_)
      obtain rfl := Option.some.inj H
      exact EJ.fin rfl (.tmp rfl .nil) ⟨Aa0, ca0, rfl, hS.pick [0] [] rfl⟩

def impl_Spot_ahead.f (a0 : Spot) (a1 : Int) : Option Spot := if a1 = 0 then (some (⟨a0.X, IntKind.i8.wrap (a0.Y - 1)⟩ : Spot)) else (if a1 = 1 then (some (⟨IntKind.i8.wrap (a0.X + 1), a0.Y⟩ : Spot)) else (if a1 = 2 then (some (⟨a0.X, IntKind.i8.wrap (a0.Y + 1)⟩ : Spot)) else (some (⟨IntKind.i8.wrap (a0.X - 1), a0.Y⟩ : Spot))))
theorem impl_Spot_ahead.c (w : World) (a0 : Spot) (a1 : Int) (r : Spot) (H : impl_Spot_ahead.f a0 a1 = some r) :
    CV Try.prog 170 [.agg (cSpot.enc a0).toArray, .int .i64 a1].toArray w fun v w' => v = .agg (cSpot.enc r).toArray ∧ Ext w w' := by
  have hS := (St.init w no)
  unfold impl_Spot_ahead.f at H
  refine CV.body Try.func170 rfl Try.ntmps170 rfl ?_
  refine CJ.seq ?_
  refine CJ.region ?_
  refine OJ.ef rfl rfl rfl (Ef.box hS rfl rfl (cSpot.enc a0) rfl) ?_
  rintro _ w1 ⟨b1, rfl, hS⟩
  refine OJ.ef rfl rfl rfl (Ef.alloc hS tI_ok rfl rfl (cSpot.enc (⟨0, 0⟩ : Spot)) rfl) ?_
  rintro _ w1 ⟨b2, rfl, hS⟩
  refine OJ.nil (EJ.next ?_)
  refine CJ.seq ?_
  refine CJ.seq ?_
  refine CJ.region ?_
  refine OJ.pures tU_ok 1 rfl ?_
  refine OJ.nil (EJ.next ?_)
  refine CJ.block ?_
  refine CJ.seq ?_
  refine CJ.region ?_
  refine OJ.pures tU_ok 2 rfl ?_
  refine OJ.nil (EJ.next ?_)
  refine CJ.cond rfl (fun hb => ?_) (fun hb => ?_)
  · replace H := pif_t (of_decide_eq_true hb) H
    refine CJ.region ?_
    refine OJ.st rfl rfl rfl (SR.fieldAddr tU_ok tI_ok rfl rfl rfl rfl rfl rfl) ?_
    refine OJ.st rfl rfl rfl (SR.load rfl rfl (fun w' hx => ld1 tU_ok rfl rfl (CA.ext (CA.sub (hS.cells (i := 0) rfl) 1) hx) rfl)) ?_
    refine OJ.pures tU_ok 1 rfl ?_
    refine OJ.st rfl rfl rfl (SR.fieldAddr tU_ok tI_ok rfl rfl rfl rfl rfl rfl) ?_
    refine OJ.es rfl rfl (Es.store tI_ok hS (i := 0) rfl rfl rfl (ad1 _ _) rfl rfl (vs := (ci .i8).enc (IntKind.i8.wrap (a0.Y - 1))) rfl rfl (one1 rfl) (Nat.le_of_ble_eq_true rfl) (cSpot.enc (⟨a0.X, IntKind.i8.wrap (a0.Y - 1)⟩ : Spot)) rfl) ?_
    intro w1 hS
    refine OJ.nil (EJ.blk (EJ.next ?_))
    refine CJ.seq ?_
    refine CJ.region ?_
    refine OJ.st rfl rfl rfl (SR.load rfl rfl (fun w' hx => ldE tU_ok tI_ok rfl rfl rfl (CA.ext (hS.cells (i := 0) rfl) hx) rfl)) ?_
    refine OJ.es rfl rfl (Es.store tI_ok hS (i := 1) rfl rfl rfl rfl rfl rfl (vs := cSpot.enc (⟨a0.X, IntKind.i8.wrap (a0.Y - 1)⟩ : Spot)) rfl (cSpot.len _) (cSpot.one _) (Nat.le_of_ble_eq_true rfl) (cSpot.enc (⟨a0.X, IntKind.i8.wrap (a0.Y - 1)⟩ : Spot)) rfl) ?_
    intro w1 hS
    refine OJ.nil (EJ.next ?_)
    refine CJ.ret (?_)
    obtain rfl := Option.some.inj H
    exact EJ.fin rfl (.cell rfl (ldE tU_ok tI_ok rfl rfl rfl (hS.cells (i := 1) rfl) rfl) .nil) ⟨rfl, hS.ext⟩
  · replace H := pif_f (of_decide_eq_false hb) H
    refine CJ.seq ?_
    refine CJ.region ?_
    refine OJ.pures tU_ok 2 rfl ?_
    refine OJ.nil (EJ.next ?_)
    refine CJ.cond rfl (fun hb => ?_) (fun hb => ?_)
    · replace H := pif_t (of_decide_eq_true hb) H
      refine CJ.region ?_
      refine OJ.st rfl rfl rfl (SR.fieldAddr tU_ok tI_ok rfl rfl rfl rfl rfl rfl) ?_
      refine OJ.st rfl rfl rfl (SR.load rfl rfl (fun w' hx => ld1 tU_ok rfl rfl (CA.ext (CA.sub (hS.cells (i := 0) rfl) 0) hx) rfl)) ?_
      refine OJ.pures tU_ok 1 rfl ?_
      refine OJ.st rfl rfl rfl (SR.fieldAddr tU_ok tI_ok rfl rfl rfl rfl rfl rfl) ?_
      refine OJ.es rfl rfl (Es.store tI_ok hS (i := 0) rfl rfl rfl (ad1 _ _) rfl rfl (vs := (ci .i8).enc (IntKind.i8.wrap (a0.X + 1))) rfl rfl (one1 rfl) (Nat.le_of_ble_eq_true rfl) (cSpot.enc (⟨IntKind.i8.wrap (a0.X + 1), a0.Y⟩ : Spot)) rfl) ?_
      intro w1 hS
      refine OJ.nil (EJ.blk (EJ.next ?_))
      refine CJ.seq ?_
      refine CJ.region ?_
      refine OJ.st rfl rfl rfl (SR.load rfl rfl (fun w' hx => ldE tU_ok tI_ok rfl rfl rfl (CA.ext (hS.cells (i := 0) rfl) hx) rfl)) ?_
      refine OJ.es rfl rfl (Es.store tI_ok hS (i := 1) rfl rfl rfl rfl rfl rfl (vs := cSpot.enc (⟨IntKind.i8.wrap (a0.X + 1), a0.Y⟩ : Spot)) rfl (cSpot.len _) (cSpot.one _) (Nat.le_of_ble_eq_true rfl) (cSpot.enc (⟨IntKind.i8.wrap (a0.X + 1), a0.Y⟩ : Spot)) rfl) ?_
      intro w1 hS
      refine OJ.nil (EJ.next ?_)
      refine CJ.ret (?_)
      obtain rfl := Option.some.inj H
      exact EJ.fin rfl (.cell rfl (ldE tU_ok tI_ok rfl rfl rfl (hS.cells (i := 1) rfl) rfl) .nil) ⟨rfl, hS.ext⟩
    · replace H := pif_f (of_decide_eq_false hb) H
      refine CJ.seq ?_
      refine CJ.region ?_
      refine OJ.pures tU_ok 2 rfl ?_
      refine OJ.nil (EJ.next ?_)
      refine CJ.cond rfl (fun hb => ?_) (fun hb => ?_)
      · replace H := pif_t (of_decide_eq_true hb) H
        refine CJ.region ?_
        refine OJ.st rfl rfl rfl (SR.fieldAddr tU_ok tI_ok rfl rfl rfl rfl rfl rfl) ?_
        refine OJ.st rfl rfl rfl (SR.load rfl rfl (fun w' hx => ld1 tU_ok rfl rfl (CA.ext (CA.sub (hS.cells (i := 0) rfl) 1) hx) rfl)) ?_
        refine OJ.pures tU_ok 1 rfl ?_
        refine OJ.st rfl rfl rfl (SR.fieldAddr tU_ok tI_ok rfl rfl rfl rfl rfl rfl) ?_
        refine OJ.es rfl rfl (Es.store tI_ok hS (i := 0) rfl rfl rfl (ad1 _ _) rfl rfl (vs := (ci .i8).enc (IntKind.i8.wrap (a0.Y + 1))) rfl rfl (one1 rfl) (Nat.le_of_ble_eq_true rfl) (cSpot.enc (⟨a0.X, IntKind.i8.wrap (a0.Y + 1)⟩ : Spot)) rfl) ?_
        intro w1 hS
        refine OJ.nil (EJ.blk (EJ.next ?_))
        refine CJ.seq ?_
        refine CJ.region ?_
        refine OJ.st rfl rfl rfl (SR.load rfl rfl (fun w' hx => ldE tU_ok tI_ok rfl rfl rfl (CA.ext (hS.cells (i := 0) rfl) hx) rfl)) ?_
        refine OJ.es rfl rfl (Es.store tI_ok hS (i := 1) rfl rfl rfl rfl rfl rfl (vs := cSpot.enc (⟨a0.X, IntKind.i8.wrap (a0.Y + 1)⟩ : Spot)) rfl (cSpot.len _) (cSpot.one _) (Nat.le_of_ble_eq_true rfl) (cSpot.enc (⟨a0.X, IntKind.i8.wrap (a0.Y + 1)⟩ : Spot)) rfl) ?_
        intro w1 hS
        refine OJ.nil (EJ.next ?_)
        refine CJ.ret (?_)
        obtain rfl := Option.some.inj H
        exact EJ.fin rfl (.cell rfl (ldE tU_ok tI_ok rfl rfl rfl (hS.cells (i := 1) rfl) rfl) .nil) ⟨rfl, hS.ext⟩
      · replace H := pif_f (of_decide_eq_false hb) H
        refine CJ.region ?_
        refine OJ.st rfl rfl rfl (SR.fieldAddr tU_ok tI_ok rfl rfl rfl rfl rfl rfl) ?_
        refine OJ.st rfl rfl rfl (SR.load rfl rfl (fun w' hx => ld1 tU_ok rfl rfl (CA.ext (CA.sub (hS.cells (i := 0) rfl) 0) hx) rfl)) ?_
        refine OJ.pures tU_ok 1 rfl ?_
        refine OJ.st rfl rfl rfl (SR.fieldAddr tU_ok tI_ok rfl rfl rfl rfl rfl rfl) ?_
        refine OJ.es rfl rfl (Es.store tI_ok hS (i := 0) rfl rfl rfl (ad1 _ _) rfl rfl (vs := (ci .i8).enc (IntKind.i8.wrap (a0.X - 1))) rfl rfl (one1 rfl) (Nat.le_of_ble_eq_true rfl) (cSpot.enc (⟨IntKind.i8.wrap (a0.X - 1), a0.Y⟩ : Spot)) rfl) ?_
        intro w1 hS
        refine OJ.nil (EJ.blk (EJ.next ?_))
        refine CJ.seq ?_
        refine CJ.region ?_
        refine OJ.st rfl rfl rfl (SR.load rfl rfl (fun w' hx => ldE tU_ok tI_ok rfl rfl rfl (CA.ext (hS.cells (i := 0) rfl) hx) rfl)) ?_
        refine OJ.es rfl rfl (Es.store tI_ok hS (i := 1) rfl rfl rfl rfl rfl rfl (vs := cSpot.enc (⟨IntKind.i8.wrap (a0.X - 1), a0.Y⟩ : Spot)) rfl (cSpot.len _) (cSpot.one _) (Nat.le_of_ble_eq_true rfl) (cSpot.enc (⟨IntKind.i8.wrap (a0.X - 1), a0.Y⟩ : Spot)) rfl) ?_
        intro w1 hS
        refine OJ.nil (EJ.next ?_)
        refine CJ.ret (?_)
        obtain rfl := Option.some.inj H
        exact EJ.fin rfl (.cell rfl (ldE tU_ok tI_ok rfl rfl rfl (hS.cells (i := 1) rfl) rfl) .nil) ⟨rfl, hS.ext⟩

def impl_Hurdle_other.f (a0 : Hurdle) : Option Spot := if a0.South = true then ((impl_Spot_ahead.f a0.At 2).bind fun t3 => some t3) else ((impl_Spot_ahead.f a0.At 1).bind fun t4 => some t4)
theorem impl_Hurdle_other.c (w : World) (a0 : Hurdle) (r : Spot) (H : impl_Hurdle_other.f a0 = some r) :
    CV Try.prog 181 [.agg (cHurdle.enc a0).toArray].toArray w fun v w' => v = .agg (cSpot.enc r).toArray ∧ Ext w w' := by
  have hS := (St.init w no)
  unfold impl_Hurdle_other.f at H
  refine CV.body Try.func181 rfl Try.ntmps181 rfl ?_
  refine CJ.seq ?_
  refine CJ.region ?_
  refine OJ.ef rfl rfl rfl (Ef.box hS rfl rfl (cHurdle.enc a0) rfl) ?_
  rintro _ w1 ⟨b1, rfl, hS⟩
  refine OJ.ef rfl rfl rfl (Ef.alloc hS tI_ok rfl rfl (cSpot.enc (⟨0, 0⟩ : Spot)) rfl) ?_
  rintro _ w1 ⟨b2, rfl, hS⟩
  refine OJ.nil (EJ.next ?_)
  refine CJ.seq ?_
  refine CJ.seq ?_
  refine CJ.region ?_
  refine OJ.st rfl rfl rfl (SR.fieldAddr tU_ok tI_ok rfl rfl rfl rfl rfl rfl) ?_
  refine OJ.st rfl rfl rfl (SR.load rfl rfl (fun w' hx => ld1 tU_ok rfl rfl (CA.ext (CA.sub (hS.cells (i := 0) rfl) 2) hx) rfl)) ?_
  refine OJ.nil (EJ.next ?_)
  refine CJ.cond rfl (fun hb => ?_) (fun hb => ?_)
  · replace H := pif_t hb H
    refine CJ.seq ?_
    refine CJ.region ?_
    refine OJ.st rfl rfl rfl (SR.fieldAddr tU_ok tI_ok rfl rfl rfl rfl rfl rfl) ?_
    refine OJ.st rfl rfl rfl (SR.load rfl rfl (fun w' hx => ldN tU_ok tI_ok rfl rfl rfl (CA.ext (CA.sub (hS.cells (i := 0) rfl) 0) hx) (cSpot.len _) rfl)) ?_
    obtain ⟨t3, ht3, H⟩ := pbind H
    refine OJ.callF rfl rfl rfl rfl rfl hb170 rfl (impl_Spot_ahead.c _ a0.At 2 _ ht3) ?_
    rintro _ w1 ⟨rfl, hs⟩
    replace hS := hS.grow hs
    refine OJ.es rfl rfl (Es.store tI_ok hS (i := 1) rfl rfl rfl rfl rfl rfl (vs := cSpot.enc t3) rfl (cSpot.len _) (cSpot.one _) (Nat.le_of_ble_eq_true rfl) (cSpot.enc t3) rfl) ?_
    intro w1 hS
    refine OJ.nil (EJ.next ?_)
    refine CJ.ret (EJ.skR (?_))
    obtain rfl := Option.some.inj H
    exact EJ.fin rfl (.cell rfl (ldE tU_ok tI_ok rfl rfl rfl (hS.cells (i := 1) rfl) rfl) .nil) ⟨rfl, hS.ext⟩
  · replace H := pifb_f hb H
    refine CJ.skip (EJ.next ?_)
    refine CJ.seq ?_
    refine CJ.region ?_
    refine OJ.st rfl rfl rfl (SR.fieldAddr tU_ok tI_ok rfl rfl rfl rfl rfl rfl) ?_
    refine OJ.st rfl rfl rfl (SR.load rfl rfl (fun w' hx => ldN tU_ok tI_ok rfl rfl rfl (CA.ext (CA.sub (hS.cells (i := 0) rfl) 0) hx) (cSpot.len _) rfl)) ?_
    obtain ⟨t4, ht4, H⟩ := pbind H
    refine OJ.callF rfl rfl rfl rfl rfl hb170 rfl (impl_Spot_ahead.c _ a0.At 1 _ ht4) ?_
    rintro _ w1 ⟨rfl, hs⟩
    replace hS := hS.grow hs
    refine OJ.es rfl rfl (Es.store tI_ok hS (i := 1) rfl rfl rfl rfl rfl rfl (vs := cSpot.enc t4) rfl (cSpot.len _) (cSpot.one _) (Nat.le_of_ble_eq_true rfl) (cSpot.enc t4) rfl) ?_
    intro w1 hS
    refine OJ.nil (EJ.next ?_)
    refine CJ.ret (?_)
    obtain rfl := Option.some.inj H
    exact EJ.fin rfl (.cell rfl (ldE tU_ok tI_ok rfl rfl rfl (hS.cells (i := 1) rfl) rfl) .nil) ⟨rfl, hS.ext⟩

def impl_Pasture_isHurdle.f (a0 : Pasture) (a1 : Hurdle) : Option Bool := (impl_Pasture_isCell.f a0 a1.At).bind fun t3 => if t3 = true then ((impl_Hurdle_other.f a1).bind fun t4 => (impl_Pasture_isCell.f a0 t4).bind fun t5 => some t5) else (some false)
theorem impl_Pasture_isHurdle.c (w : World) (a0 : Pasture) (a1 : Hurdle) (r : Bool) (H : impl_Pasture_isHurdle.f a0 a1 = some r) :
    CV Try.prog 179 [.agg (cPasture.enc a0).toArray, .agg (cHurdle.enc a1).toArray].toArray w fun v w' => v = .bool r ∧ Ext w w' := by
  have hS := (St.init w no)
  unfold impl_Pasture_isHurdle.f at H
  refine CV.body Try.func179 rfl Try.ntmps179 rfl ?_
  refine CJ.seq ?_
  refine CJ.region ?_
  refine OJ.ef rfl rfl rfl (Ef.box hS rfl rfl (cPasture.enc a0) rfl) ?_
  rintro _ w1 ⟨b1, rfl, hS⟩
  refine OJ.ef rfl rfl rfl (Ef.box hS rfl rfl (cHurdle.enc a1) rfl) ?_
  rintro _ w1 ⟨b2, rfl, hS⟩
  refine OJ.pures tU_ok 1 rfl ?_
  refine OJ.nil (EJ.next ?_)
  refine CJ.seq ?_
  refine CJ.draw [] [0, 1, 2, 3, 4, 5, 6, 7, 8, 9, 10] mixed (by kernel_rfl) hS fun w1 hS => ?_
  refine DJ.st rfl rfl rfl rfl rfl (SR.load rfl rfl (fun w' hx => ldE tU_ok tI_ok rfl rfl rfl (CA.ext (hS.cells (i := 0) rfl) hx) rfl)) ?_
  refine DJ.st rfl rfl rfl rfl rfl (SR.fieldAddr tU_ok tI_ok rfl rfl rfl rfl rfl rfl) ?_
  refine DJ.st rfl rfl rfl rfl rfl (SR.load rfl rfl (fun w' hx => ldN tU_ok tI_ok rfl rfl rfl (CA.ext (CA.sub (hS.cells (i := 1) rfl) 0) hx) (cSpot.len _) rfl)) ?_
  obtain ⟨t3, ht3, H⟩ := pbind H
  refine DJ.callF rfl rfl rfl rfl rfl rfl rfl hb136 rfl (impl_Pasture_isCell.c _ a0 a1.At _ ht3) (by rintro v w' ⟨rfl, hs⟩; exact hs) ?_
  rintro _ w1 ⟨rfl, hs⟩
  replace hS := hS.grow hs
  refine DJ.pures tU_ok 1 rfl ?_
  refine DJ.split (t := 9) rfl (fun hb => ?_) (fun hb => ?_)
  · replace H := pif_t hb H
    refine DJ.st rfl rfl rfl rfl rfl (SR.load rfl rfl (fun w' hx => ldE tU_ok tI_ok rfl rfl rfl (CA.ext (hS.cells (i := 0) rfl) hx) rfl)) ?_
    refine DJ.st rfl rfl rfl rfl rfl (SR.load rfl rfl (fun w' hx => ldE tU_ok tI_ok rfl rfl rfl (CA.ext (hS.cells (i := 1) rfl) hx) rfl)) ?_
    obtain ⟨t4, ht4, H⟩ := pbind H
    refine DJ.callF rfl rfl rfl rfl rfl rfl rfl hb181 rfl (impl_Hurdle_other.c _ a1 _ ht4) (by rintro v w' ⟨rfl, hs⟩; exact hs) ?_
    rintro _ w1 ⟨rfl, hs⟩
    replace hS := hS.grow hs
    obtain ⟨t5, ht5, H⟩ := pbind H
    refine DJ.callF rfl rfl rfl rfl rfl rfl rfl hb136 rfl (impl_Pasture_isCell.c _ a0 t4 _ ht5) (by rintro v w' ⟨rfl, hs⟩; exact hs) ?_
    rintro _ w1 ⟨rfl, hs⟩
    replace hS := hS.grow hs
    refine DJ.pures tU_ok 2 rfl ?_
    refine DJ.nil (EJ.next ?_)
    refine CJ.ret (?_)
    obtain rfl := Option.some.inj H
    exact EJ.fin rfl (.tmp rfl .nil) ⟨rfl, hS.ext⟩
  · replace H := pifb_f hb H
    refine DJ.pures tU_ok 6 rfl ?_
    refine DJ.nil (EJ.next ?_)
    refine CJ.ret (?_)
    obtain rfl := Option.some.inj H
    exact EJ.fin rfl (.tmp rfl .nil) ⟨rfl, hS.ext⟩

def impl_Pasture_sides.l2 (a0 : Pasture) (a1 : Hurdle → Option Bool) (t16 : Spot) : Nat → (List Hurdle) → Int → Option (List Hurdle)
  | 0, _, _ => none
  | k + 1, y22, y25 => if y25 < (([false, true] : List Bool).length : Int) then ((getI ([false, true] : List Bool) y25).bind fun t26 => (impl_Pasture_isHurdle.f a0 (⟨t16, t26⟩ : Hurdle)).bind fun t28 => if t28 = true then ((a1 (⟨t16, t26⟩ : Hurdle)).bind fun t29 => if t29 = true then ((chk (y22.length + ([(⟨t16, t26⟩ : Hurdle)] : List Hurdle).length ≤ 4294967296)).bind fun u31 => impl_Pasture_sides.l2 a0 a1 t16 k (y22 ++ ([(⟨t16, t26⟩ : Hurdle)] : List Hurdle)) (IntKind.i64.wrap (y25 + 1))) else (impl_Pasture_sides.l2 a0 a1 t16 k y22 (IntKind.i64.wrap (y25 + 1)))) else (impl_Pasture_sides.l2 a0 a1 t16 k y22 (IntKind.i64.wrap (y25 + 1)))) else (some y22)
def impl_Pasture_sides.l1 (a0 : Pasture) (a1 : Hurdle → Option Bool) (t3 : List Spot) : Nat → (List Hurdle) → Int → Option (List Hurdle)
  | 0, _, _ => none
  | k + 1, y9, y12 => if y12 < (t3.length : Int) then (((getI t3 y12).bind fun t16 => (impl_Pasture_sides.l2 a0 a1 t16 k y9 0).bind fun y19 => some y19).bind fun y13 => impl_Pasture_sides.l1 a0 a1 t3 k y13 (IntKind.i64.wrap (y12 + 1))) else (some y9)
def impl_Pasture_sides.f (k : Nat) (a0 : Pasture) (a1 : Hurdle → Option Bool) : Option (List Hurdle) := (impl_Pasture_all.f k a0).bind fun t3 => (impl_Pasture_sides.l1 a0 a1 t3 k ([] : List Hurdle) 0).bind fun y6 => some y6
theorem impl_Pasture_sides.c (k : Nat) (w : World) (a0 : Pasture) (na1 : Nat) (fsa1 capa1 : Array Value) (hb1 : hasBody Try.prog na1) (a1 : Hurdle → Option Bool) (hf1 : ∀ (z0 : Hurdle) (r : Bool), a1 z0 = some r → ∀ w', Chg no w w' → CV Try.prog na1 (fsa1 ++ [.agg (cHurdle.enc z0).toArray].toArray ++ capa1) w' fun v w'' => v = .bool r ∧ Ext w' w'') (r : List Hurdle) (H : impl_Pasture_sides.f k a0 a1 = some r) :
    CV Try.prog 165 [.agg (cPasture.enc a0).toArray, .func (.func na1) fsa1 capa1].toArray w fun v w' => ∃ (A0 : Option Addr) (c0 : Nat), v = .slice A0 r.length c0 ∧ St w no w' [rowC cHurdle A0 c0 161 r] [] := by
  have hS := (St.init w no)
  unfold impl_Pasture_sides.f at H
  refine CV.body Try.func165 rfl Try.ntmps165 rfl ?_
  refine CJ.seq ?_
  refine CJ.region ?_
  refine OJ.ef rfl rfl rfl (Ef.box hS rfl rfl (cPasture.enc a0) rfl) ?_
  rintro _ w1 ⟨b1, rfl, hS⟩
  refine OJ.pures tU_ok 1 rfl ?_
  refine OJ.nil (EJ.next ?_)
  refine CJ.seq ?_
  refine CJ.region ?_
  refine OJ.ef rfl rfl rfl (Ef.lit tU_ok tI_ok hS (C := cHurdle) rfl rfl rfl rfl rfl rfl ([] : List Hurdle) rfl rfl rfl rfl) ?_
  rintro _ w1 ⟨A2, rfl, hS⟩
  refine OJ.pures tU_ok 1 rfl ?_
  refine OJ.nil (EJ.next ?_)
  refine CJ.seq ?_
  refine CJ.seq ?_
  refine CJ.region ?_
  refine OJ.st rfl rfl rfl (SR.load rfl rfl (fun w' hx => ldE tU_ok tI_ok rfl rfl rfl (CA.ext (hS.cells (i := 0) rfl) hx) rfl)) ?_
  obtain ⟨t3, ht3, H⟩ := pbind H
  refine OJ.callF rfl rfl rfl rfl rfl hb76 rfl (impl_Pasture_all.c k _ a0 _ ht3) ?_
  rintro _ w1 ⟨A4, c5, rfl, hs⟩
  replace hS := hS.addN hs
  refine OJ.pures tU_ok 2 rfl ?_
  refine OJ.nil (EJ.next ?_)
  obtain ⟨j174, H, K174⟩ := pbind H
  refine CJ.cut1 (fun F w1 => ∃ (y6 : List Hurdle) (A7 : Option Addr) (c8 : Nat), (some y6 : Option (List Hurdle)) = some j174 ∧ F = [(5, .slice A7 y6.length c8)] ∧ St w no w1 [rowC cHurdle A7 c8 161 y6] []) ?_ ?_
  · skip
    refine CJ.block ?_
    refine CJ.loop (fun k F w1 => ∃ (y9 : List Hurdle) (y12 : Int) (A10 : Option Addr) (c11 : Nat), F = [(1, .func (.func na1) fsa1 capa1), (2, .pointer (some ⟨b1, 0, none⟩)), (5, .slice A10 y9.length c11), (13, .slice A4 t3.length c5), (14, .int .i64 (t3.length : Int)), (15, .int .i64 y12)] ∧ St w no w1 [box b1 (cPasture.enc a0) 32, rowC cHurdle A10 c11 161 y9, rowC cSpot A4 c5 105 t3] [] ∧ impl_Pasture_sides.l1 a0 a1 t3 k y9 y12 = some j174) k (F' := [(1, .func (.func na1) fsa1 capa1), (2, .pointer (some ⟨b1, 0, none⟩)), (5, .slice A2 ([] : List Hurdle).length (([] : List Hurdle).length)), (13, .slice A4 t3.length c5), (14, .int .i64 (t3.length : Int)), (15, .int .i64 0)]) ⟨rfl, rfl, rfl, rfl, rfl, rfl, trivial⟩ ⟨([] : List Hurdle), 0, A2, (([] : List Hurdle).length), rfl, hS.pick [0, 1, 2] [] rfl, H⟩ ?_
    rintro k F w1 ⟨y9, y12, A10, c11, rfl, hS, H⟩
    cases k with
    | zero => rw [impl_Pasture_sides.l1] at H; cases H
    | succ k =>
      rw [impl_Pasture_sides.l1] at H
      refine CJ.seq ?_
      refine CJ.region ?_
      refine OJ.pures tU_ok 1 rfl ?_
      refine OJ.nil (EJ.next ?_)
      refine CJ.seq ?_
      refine CJ.cond rfl (fun hb => ?_) (fun hb => ?_)
      · replace H := pif_t (of_decide_eq_true hb) H
        refine CJ.skip (EJ.next ?_)
        obtain ⟨j181, H, K181⟩ := pbind H
        refine CJ.cut (fun F w1 => ∃ (y13 : List Hurdle) (A14 : Option Addr) (c15 : Nat), (some y13 : Option (List Hurdle)) = some j181 ∧ F = [(1, .func (.func na1) fsa1 capa1), (2, .pointer (some ⟨b1, 0, none⟩)), (5, .slice A14 y13.length c15), (13, .slice A4 t3.length c5), (14, .int .i64 (t3.length : Int)), (15, .int .i64 y12)] ∧ St w no w1 [box b1 (cPasture.enc a0) 32, rowC cHurdle A14 c15 161 y13, rowC cSpot A4 c5 105 t3] []) ?_ ?_
        · skip
          refine CJ.block ?_
          refine CJ.seq ?_
          refine CJ.region ?_
          obtain ⟨t16, ht16, H⟩ := pbind H
          obtain ⟨ad16, e16⟩ := (hS.rd (i := 2) rfl).some' ht16
          refine OJ.st rfl rfl rfl (SR.idxS tU_ok tI_ok rfl rfl rfl rfl e16 rfl (getI_some ht16).1) ?_
          refine OJ.st rfl rfl rfl (SR.load rfl rfl (fun w' hx => ldE tU_ok tI_ok rfl rfl rfl (CA.ext ((hS.rd (i := 2) rfl).at_ e16 ht16) hx) rfl)) ?_
          refine OJ.ef rfl rfl rfl (Ef.alloc hS tI_ok rfl rfl (cSpot.enc (⟨0, 0⟩ : Spot)) rfl) ?_
          rintro _ w1 ⟨b17, rfl, hS⟩
          refine OJ.es rfl rfl (Es.store tI_ok hS (i := 3) rfl rfl rfl rfl rfl rfl (vs := cSpot.enc t16) rfl (cSpot.len _) (cSpot.one _) (Nat.le_of_ble_eq_true rfl) (cSpot.enc t16) rfl) ?_
          intro w1 hS
          refine OJ.nil (EJ.next ?_)
          refine CJ.seq ?_
          refine CJ.region ?_
          refine OJ.ef rfl rfl rfl (Ef.lit tU_ok tI_ok hS (C := cb) rfl rfl rfl rfl rfl rfl ([false, true] : List Bool) rfl rfl rfl rfl) ?_
          rintro _ w1 ⟨A18, rfl, hS⟩
          refine OJ.pures tU_ok 2 rfl ?_
          refine OJ.nil (EJ.next ?_)
          obtain ⟨j183, H, K183⟩ := pbind H
          refine CJ.cut1 (fun F w1 => ∃ (y19 : List Hurdle) (A20 : Option Addr) (c21 : Nat), (some y19 : Option (List Hurdle)) = some j183 ∧ F = [(1, .func (.func na1) fsa1 capa1), (2, .pointer (some ⟨b1, 0, none⟩)), (5, .slice A20 y19.length c21), (13, .slice A4 t3.length c5), (14, .int .i64 (t3.length : Int)), (15, .int .i64 y12)] ∧ St w no w1 [box b1 (cPasture.enc a0) 32, rowC cHurdle A20 c21 161 y19, rowC cSpot A4 c5 105 t3] []) ?_ ?_
          · skip
            refine CJ.block ?_
            refine CJ.loop (fun k F w1 => ∃ (y22 : List Hurdle) (y25 : Int) (A23 : Option Addr) (c24 : Nat), F = [(1, .func (.func na1) fsa1 capa1), (2, .pointer (some ⟨b1, 0, none⟩)), (5, .slice A23 y22.length c24), (7, .pointer (some ⟨b17, 0, none⟩)), (13, .slice A4 t3.length c5), (14, .int .i64 (t3.length : Int)), (15, .int .i64 y12), (19, .slice A18 ([false, true] : List Bool).length (([false, true] : List Bool).length)), (20, .int .i64 (([false, true] : List Bool).length : Int)), (21, .int .i64 y25)] ∧ St w no w1 [box b1 (cPasture.enc a0) 32, rowC cHurdle A23 c24 161 y22, rowC cSpot A4 c5 105 t3, box b17 (cSpot.enc t16) 105, rowC cb A18 (([false, true] : List Bool).length) 4 ([false, true] : List Bool)] [] ∧ impl_Pasture_sides.l2 a0 a1 t16 k y22 y25 = some j183) k (F' := [(1, .func (.func na1) fsa1 capa1), (2, .pointer (some ⟨b1, 0, none⟩)), (5, .slice A10 y9.length c11), (7, .pointer (some ⟨b17, 0, none⟩)), (13, .slice A4 t3.length c5), (14, .int .i64 (t3.length : Int)), (15, .int .i64 y12), (19, .slice A18 ([false, true] : List Bool).length (([false, true] : List Bool).length)), (20, .int .i64 (([false, true] : List Bool).length : Int)), (21, .int .i64 0)]) ⟨rfl, rfl, rfl, rfl, rfl, rfl, rfl, rfl, rfl, rfl, trivial⟩ ⟨y9, 0, A10, c11, rfl, hS.pick [0, 1, 2, 3, 4] [] rfl, H⟩ ?_
            rintro k F w1 ⟨y22, y25, A23, c24, rfl, hS, H⟩
            cases k with
            | zero => rw [impl_Pasture_sides.l2] at H; cases H
            | succ k =>
              rw [impl_Pasture_sides.l2] at H
              refine CJ.seq ?_
              refine CJ.region ?_
              refine OJ.pures tU_ok 1 rfl ?_
              refine OJ.nil (EJ.next ?_)
              refine CJ.seq ?_
              refine CJ.cond rfl (fun hb => ?_) (fun hb => ?_)
              · replace H := pif_t (of_decide_eq_true hb) H
                refine CJ.skip (EJ.next ?_)
                refine CJ.seq ?_
                refine CJ.block ?_
                refine CJ.seq ?_
                refine CJ.region ?_
                obtain ⟨t26, ht26, H⟩ := pbind H
                obtain ⟨ad26, e26⟩ := (hS.rd (i := 4) rfl).some' ht26
                refine OJ.st rfl rfl rfl (SR.idxS tU_ok tI_ok rfl rfl rfl rfl e26 rfl (getI_some ht26).1) ?_
                refine OJ.st rfl rfl rfl (SR.load rfl rfl (fun w' hx => ld1 tU_ok rfl rfl (CA.ext ((hS.rd (i := 4) rfl).at_ e26 ht26) hx) rfl)) ?_
                refine OJ.pures tU_ok 1 rfl ?_
                refine OJ.nil (EJ.next ?_)
                refine CJ.seq ?_
                refine CJ.region ?_
                refine OJ.st rfl rfl rfl (SR.load rfl rfl (fun w' hx => ldE tU_ok tI_ok rfl rfl rfl (CA.ext (hS.cells (i := 3) rfl) hx) rfl)) ?_
                refine OJ.pures tU_ok 1 rfl ?_
                refine OJ.st rfl rfl rfl (SR.build (C := cHurdle) tU_ok tI_ok rfl rfl rfl (zs := [.int .i8 0, .int .i8 0, .bool false]) rfl rfl rfl (⟨t16, t26⟩ : Hurdle) rfl) ?_
                refine OJ.ef rfl rfl rfl (Ef.alloc hS tI_ok rfl rfl (cHurdle.enc (⟨(⟨0, 0⟩ : Spot), false⟩ : Hurdle)) rfl) ?_
                rintro _ w1 ⟨b27, rfl, hS⟩
                refine OJ.es rfl rfl (Es.store tI_ok hS (i := 5) rfl rfl rfl rfl rfl rfl (vs := cHurdle.enc (⟨t16, t26⟩ : Hurdle)) rfl (cHurdle.len _) (cHurdle.one _) (Nat.le_of_ble_eq_true rfl) (cHurdle.enc (⟨t16, t26⟩ : Hurdle)) rfl) ?_
                intro w1 hS
                refine OJ.nil (EJ.next ?_)
                refine CJ.seq ?_
                refine CJ.region ?_
                refine OJ.st rfl rfl rfl (SR.load rfl rfl (fun w' hx => ldE tU_ok tI_ok rfl rfl rfl (CA.ext (hS.cells (i := 0) rfl) hx) rfl)) ?_
                refine OJ.st rfl rfl rfl (SR.load rfl rfl (fun w' hx => ldE tU_ok tI_ok rfl rfl rfl (CA.ext (hS.cells (i := 5) rfl) hx) rfl)) ?_
                obtain ⟨t28, ht28, H⟩ := pbind H
                refine OJ.callF rfl rfl rfl rfl rfl hb179 rfl (impl_Pasture_isHurdle.c _ a0 (⟨t16, t26⟩ : Hurdle) _ ht28) ?_
                rintro _ w1 ⟨rfl, hs⟩
                replace hS := hS.grow hs
                refine OJ.pures tU_ok 1 rfl ?_
                refine OJ.split (t := 31) rfl (fun hb => ?_) (fun hb => ?_)
                · replace H := pif_t hb H
                  refine OJ.pures tU_ok 1 rfl ?_
                  refine OJ.st rfl rfl rfl (SR.load rfl rfl (fun w' hx => ldE tU_ok tI_ok rfl rfl rfl (CA.ext (hS.cells (i := 5) rfl) hx) rfl)) ?_
                  obtain ⟨t29, ht29, H⟩ := pbind H
                  refine OJ.call rfl rfl (Nat.le_of_ble_eq_true rfl) rfl rfl rfl hb1 rfl (hf1 (⟨t16, t26⟩ : Hurdle) _ ht29 _ hS.chg) ?_
                  rintro _ w1 ⟨rfl, hs⟩
                  replace hS := hS.grow hs
                  refine OJ.pures tU_ok 1 rfl ?_
                  refine OJ.nil (EJ.next ?_)
                  refine CJ.cond rfl (fun hb => ?_) (fun hb => ?_)
                  · replace H := pif_t hb H
                    refine CJ.region ?_
                    refine OJ.pures tU_ok 1 rfl ?_
                    refine OJ.st rfl rfl rfl (SR.load rfl rfl (fun w' hx => ldE tU_ok tI_ok rfl rfl rfl (CA.ext (hS.cells (i := 5) rfl) hx) rfl)) ?_
                    refine OJ.ef rfl rfl rfl (Ef.lit tU_ok tI_ok hS (C := cHurdle) rfl rfl rfl rfl rfl rfl ([(⟨t16, t26⟩ : Hurdle)] : List Hurdle) rfl rfl rfl rfl) ?_
                    rintro _ w1 ⟨A30, rfl, hS⟩
                    obtain ⟨u31, hu31, H⟩ := pbind H
                    refine OJ.ew rfl rfl rfl (Ew.append tU_ok tI_ok (C := cHurdle) (xs := y22) (ys := ([(⟨t16, t26⟩ : Hurdle)] : List Hurdle)) hS (i := 1) rfl rfl rfl rfl rfl rfl rfl rfl rfl rfl rfl rfl rfl (hS.rd (i := 6) rfl) (chk_some hu31)) ?_
                    rintro _ w1 ⟨A32, c33, rfl, hS⟩
                    refine OJ.pures tU_ok 1 rfl ?_
                    refine OJ.nil (EJ.blk (EJ.next ?_))
                    refine CJ.region ?_
                    refine OJ.pures tU_ok 2 rfl ?_
                    refine OJ.nil ?_
                    exact EJ.round k (F' := [(1, .func (.func na1) fsa1 capa1), (2, .pointer (some ⟨b1, 0, none⟩)), (5, .slice A32 (y22 ++ ([(⟨t16, t26⟩ : Hurdle)] : List Hurdle)).length c33), (7, .pointer (some ⟨b17, 0, none⟩)), (13, .slice A4 t3.length c5), (14, .int .i64 (t3.length : Int)), (15, .int .i64 y12), (19, .slice A18 ([false, true] : List Bool).length (([false, true] : List Bool).length)), (20, .int .i64 (([false, true] : List Bool).length : Int)), (21, .int .i64 (IntKind.i64.wrap (y25 + 1)))]) ⟨rfl, rfl, rfl, rfl, rfl, rfl, rfl, rfl, rfl, rfl, trivial⟩ (Nat.lt_succ_self _) ⟨(y22 ++ ([(⟨t16, t26⟩ : Hurdle)] : List Hurdle)), (IntKind.i64.wrap (y25 + 1)), A32, c33, rfl, hS.pick [0, 1, 2, 3, 4] [] rfl, H⟩
                  · replace H := pifb_f hb H
                    refine CJ.skip (EJ.blk (EJ.next ?_))
                    refine CJ.region ?_
                    refine OJ.pures tU_ok 2 rfl ?_
                    refine OJ.nil ?_
                    exact EJ.round k (F' := [(1, .func (.func na1) fsa1 capa1), (2, .pointer (some ⟨b1, 0, none⟩)), (5, .slice A23 y22.length c24), (7, .pointer (some ⟨b17, 0, none⟩)), (13, .slice A4 t3.length c5), (14, .int .i64 (t3.length : Int)), (15, .int .i64 y12), (19, .slice A18 ([false, true] : List Bool).length (([false, true] : List Bool).length)), (20, .int .i64 (([false, true] : List Bool).length : Int)), (21, .int .i64 (IntKind.i64.wrap (y25 + 1)))]) ⟨rfl, rfl, rfl, rfl, rfl, rfl, rfl, rfl, rfl, rfl, trivial⟩ (Nat.lt_succ_self _) ⟨y22, (IntKind.i64.wrap (y25 + 1)), A23, c24, rfl, hS.pick [0, 1, 2, 3, 4] [] rfl, H⟩
                · replace H := pifb_f hb H
                  refine OJ.pures tU_ok 4 rfl ?_
                  refine OJ.nil (EJ.next ?_)
                  refine CJ.condF rfl ?_
                  refine CJ.skip (EJ.blk (EJ.next ?_))
                  refine CJ.region ?_
                  refine OJ.pures tU_ok 2 rfl ?_
                  refine OJ.nil ?_
                  exact EJ.round k (F' := [(1, .func (.func na1) fsa1 capa1), (2, .pointer (some ⟨b1, 0, none⟩)), (5, .slice A23 y22.length c24), (7, .pointer (some ⟨b17, 0, none⟩)), (13, .slice A4 t3.length c5), (14, .int .i64 (t3.length : Int)), (15, .int .i64 y12), (19, .slice A18 ([false, true] : List Bool).length (([false, true] : List Bool).length)), (20, .int .i64 (([false, true] : List Bool).length : Int)), (21, .int .i64 (IntKind.i64.wrap (y25 + 1)))]) ⟨rfl, rfl, rfl, rfl, rfl, rfl, rfl, rfl, rfl, rfl, trivial⟩ (Nat.lt_succ_self _) ⟨y22, (IntKind.i64.wrap (y25 + 1)), A23, c24, rfl, hS.pick [0, 1, 2, 3, 4] [] rfl, H⟩
              · replace H := pif_f (of_decide_eq_false hb) H
                refine CJ.exit (EJ.skE (EJ.skE (EJ.hit (?_))))
                exact EJ.meet (F' := [(1, .func (.func na1) fsa1 capa1), (2, .pointer (some ⟨b1, 0, none⟩)), (5, .slice A23 y22.length c24), (13, .slice A4 t3.length c5), (14, .int .i64 (t3.length : Int)), (15, .int .i64 y12)]) ⟨rfl, rfl, rfl, rfl, rfl, rfl, trivial⟩ ⟨y22, A23, c24, H, rfl, hS.pick [0, 1, 2] [] rfl⟩
          · rintro F w1 ⟨y19, A20, c21, he, rfl, hS⟩
            obtain rfl := Option.some.inj he
            have H := K183
            refine EJ.blk (?_)
            exact EJ.meet (F' := [(1, .func (.func na1) fsa1 capa1), (2, .pointer (some ⟨b1, 0, none⟩)), (5, .slice A20 y19.length c21), (13, .slice A4 t3.length c5), (14, .int .i64 (t3.length : Int)), (15, .int .i64 y12)]) ⟨rfl, rfl, rfl, rfl, rfl, rfl, trivial⟩ ⟨y19, A20, c21, H, rfl, hS.pick [0, 1, 2] [] rfl⟩
        · rintro F w1 ⟨y13, A14, c15, he, rfl, hS⟩
          obtain rfl := Option.some.inj he
          have H := K181
          refine CJ.region ?_
          refine OJ.pures tU_ok 2 rfl ?_
          refine OJ.nil ?_
          exact EJ.round k (F' := [(1, .func (.func na1) fsa1 capa1), (2, .pointer (some ⟨b1, 0, none⟩)), (5, .slice A14 y13.length c15), (13, .slice A4 t3.length c5), (14, .int .i64 (t3.length : Int)), (15, .int .i64 (IntKind.i64.wrap (y12 + 1)))]) ⟨rfl, rfl, rfl, rfl, rfl, rfl, trivial⟩ (Nat.lt_succ_self _) ⟨y13, (IntKind.i64.wrap (y12 + 1)), A14, c15, rfl, hS.pick [0, 1, 2] [] rfl, H⟩
      · replace H := pif_f (of_decide_eq_false hb) H
        refine CJ.exit (EJ.skE (EJ.skE (EJ.hit (?_))))
        exact EJ.meet (F' := [(5, .slice A10 y9.length c11)]) ⟨rfl, trivial⟩ ⟨y9, A10, c11, H, rfl, hS.pick [1] [] rfl⟩
  · rintro F w1 ⟨y6, A7, c8, he, rfl, hS⟩
    obtain rfl := Option.some.inj he
    have H := K174
    refine EJ.next ?_
    refine CJ.seq ?_
    refine CJ.region ?_
    refine OJ.pures tU_ok 2 rfl ?_
    refine OJ.nil (EJ.next ?_)
    refine CJ.ret (?_)
    obtain rfl := Option.some.inj H
    exact EJ.fin rfl (.tmp rfl .nil) ⟨A7, c8, rfl, hS.pick [0] [] rfl⟩

def impl_Pasture_stands.f (a0 : Pasture) (a1 : Hurdle) : Option Bool := if a1.South = true then ((getI a0.South.l a1.At.Y).bind fun t3 => (chk (0 ≤ a1.At.X)).bind fun u4 => some (decide ((andI .u16 (shrI .u16 t3 a1.At.X) 1) = 1))) else ((getI a0.East.l a1.At.Y).bind fun t5 => (chk (0 ≤ a1.At.X)).bind fun u6 => some (decide ((andI .u16 (shrI .u16 t5 a1.At.X) 1) = 1)))
theorem impl_Pasture_stands.c (w : World) (a0 : Pasture) (a1 : Hurdle) (r : Bool) (H : impl_Pasture_stands.f a0 a1 = some r) :
    CV Try.prog 166 [.agg (cPasture.enc a0).toArray, .agg (cHurdle.enc a1).toArray].toArray w fun v w' => v = .bool r ∧ Ext w w' := by
  have hS := (St.init w no)
  unfold impl_Pasture_stands.f at H
  refine CV.body Try.func166 rfl Try.ntmps166 rfl ?_
  refine CJ.seq ?_
  refine CJ.region ?_
  refine OJ.ef rfl rfl rfl (Ef.box hS rfl rfl (cPasture.enc a0) rfl) ?_
  rintro _ w1 ⟨b1, rfl, hS⟩
  refine OJ.ef rfl rfl rfl (Ef.box hS rfl rfl (cHurdle.enc a1) rfl) ?_
  rintro _ w1 ⟨b2, rfl, hS⟩
  refine OJ.pures tU_ok 1 rfl ?_
  refine OJ.nil (EJ.next ?_)
  refine CJ.seq ?_
  refine CJ.seq ?_
  refine CJ.region ?_
  refine OJ.st rfl rfl rfl (SR.fieldAddr tU_ok tI_ok rfl rfl rfl rfl rfl rfl) ?_
  refine OJ.st rfl rfl rfl (SR.load rfl rfl (fun w' hx => ld1 tU_ok rfl rfl (CA.ext (CA.sub (hS.cells (i := 1) rfl) 2) hx) rfl)) ?_
  refine OJ.nil (EJ.next ?_)
  refine CJ.cond rfl (fun hb => ?_) (fun hb => ?_)
  · replace H := pif_t hb H
    refine CJ.seq ?_
    refine CJ.draw [] [0, 1, 2, 3, 4, 5, 6, 7, 8, 9, 10, 11, 12] mixed (by kernel_rfl) hS fun w1 hS => ?_
    refine DJ.st rfl rfl rfl rfl rfl (SR.fieldAddr tU_ok tI_ok rfl rfl rfl rfl rfl rfl) ?_
    refine DJ.st rfl rfl rfl rfl rfl (SR.fieldAddr tU_ok tI_ok rfl rfl rfl rfl rfl rfl) ?_
    refine DJ.st rfl rfl rfl rfl rfl (SR.load rfl rfl (fun w' hx => ld1 tU_ok rfl rfl (CA.ext (CA.sub (CA.sub (hS.cells (i := 1) rfl) 0) 1) hx) rfl)) ?_
    refine DJ.st rfl rfl rfl rfl rfl (SR.fieldAddr tU_ok tI_ok rfl rfl rfl rfl rfl rfl) ?_
    obtain ⟨t3, ht3, H⟩ := pbind H
    refine DJ.st rfl rfl rfl rfl rfl (SR.idxA tU_ok tI_ok rfl rfl rfl rfl rfl (Arr.lt ht3)) ?_
    refine DJ.st rfl rfl rfl rfl rfl (SR.load rfl rfl (fun w' hx => ld1 tU_ok rfl rfl (CA.ext (CA.idx (CA.fld (hS.cells (i := 0) rfl) (mid_part (fe_Pasture_4 _) (fl_Pasture_4 _) ((carr 10 (ci .u16)).len _))) ht3) hx) rfl)) ?_
    refine DJ.st rfl rfl rfl rfl rfl (SR.fieldAddr tU_ok tI_ok rfl rfl rfl rfl rfl rfl) ?_
    refine DJ.st rfl rfl rfl rfl rfl (SR.fieldAddr tU_ok tI_ok rfl rfl rfl rfl rfl rfl) ?_
    refine DJ.st rfl rfl rfl rfl rfl (SR.load rfl rfl (fun w' hx => ld1 tU_ok rfl rfl (CA.ext (CA.sub (CA.sub (hS.cells (i := 1) rfl) 0) 0) hx) rfl)) ?_
    obtain ⟨u4, hu4, H⟩ := pbind H
    refine DJ.st rfl rfl rfl rfl rfl (SR.shr rfl rfl rfl (chk_some hu4)) ?_
    refine DJ.pures tU_ok 3 rfl ?_
    refine DJ.nil (EJ.next ?_)
    refine CJ.ret (EJ.skR (?_))
    obtain rfl := Option.some.inj H
    exact EJ.fin rfl (.tmp rfl .nil) ⟨rfl, hS.ext⟩
  · replace H := pifb_f hb H
    refine CJ.skip (EJ.next ?_)
    refine CJ.seq ?_
    refine CJ.draw [] [0, 1, 2, 3, 4, 5, 6, 7, 8, 9, 10, 11, 12] mixed (by kernel_rfl) hS fun w1 hS => ?_
    refine DJ.st rfl rfl rfl rfl rfl (SR.fieldAddr tU_ok tI_ok rfl rfl rfl rfl rfl rfl) ?_
    refine DJ.st rfl rfl rfl rfl rfl (SR.fieldAddr tU_ok tI_ok rfl rfl rfl rfl rfl rfl) ?_
    refine DJ.st rfl rfl rfl rfl rfl (SR.load rfl rfl (fun w' hx => ld1 tU_ok rfl rfl (CA.ext (CA.sub (CA.sub (hS.cells (i := 1) rfl) 0) 1) hx) rfl)) ?_
    refine DJ.st rfl rfl rfl rfl rfl (SR.fieldAddr tU_ok tI_ok rfl rfl rfl rfl rfl rfl) ?_
    obtain ⟨t5, ht5, H⟩ := pbind H
    refine DJ.st rfl rfl rfl rfl rfl (SR.idxA tU_ok tI_ok rfl rfl rfl rfl rfl (Arr.lt ht5)) ?_
    refine DJ.st rfl rfl rfl rfl rfl (SR.load rfl rfl (fun w' hx => ld1 tU_ok rfl rfl (CA.ext (CA.idx (CA.fld (hS.cells (i := 0) rfl) (mid_part (fe_Pasture_3 _) (fl_Pasture_3 _) ((carr 10 (ci .u16)).len _))) ht5) hx) rfl)) ?_
    refine DJ.st rfl rfl rfl rfl rfl (SR.fieldAddr tU_ok tI_ok rfl rfl rfl rfl rfl rfl) ?_
    refine DJ.st rfl rfl rfl rfl rfl (SR.fieldAddr tU_ok tI_ok rfl rfl rfl rfl rfl rfl) ?_
    refine DJ.st rfl rfl rfl rfl rfl (SR.load rfl rfl (fun w' hx => ld1 tU_ok rfl rfl (CA.ext (CA.sub (CA.sub (hS.cells (i := 1) rfl) 0) 0) hx) rfl)) ?_
    obtain ⟨u6, hu6, H⟩ := pbind H
    refine DJ.st rfl rfl rfl rfl rfl (SR.shr rfl rfl rfl (chk_some hu6)) ?_
    refine DJ.pures tU_ok 3 rfl ?_
    refine DJ.nil (EJ.next ?_)
    refine CJ.ret (?_)
    obtain rfl := Option.some.inj H
    exact EJ.fin rfl (.tmp rfl .nil) ⟨rfl, hS.ext⟩

def impl_Pasture_hurdles.f (k : Nat) (a0 : Pasture) : Option (List Hurdle) := (impl_Pasture_sides.f k a0 (impl_Pasture_stands.f a0)).bind fun t2 => some t2
theorem impl_Pasture_hurdles.c (k : Nat) (w : World) (a0 : Pasture) (r : List Hurdle) (H : impl_Pasture_hurdles.f k a0 = some r) :
    CV Try.prog 130 [.agg (cPasture.enc a0).toArray].toArray w fun v w' => ∃ (A0 : Option Addr) (c0 : Nat), v = .slice A0 r.length c0 ∧ St w no w' [rowC cHurdle A0 c0 161 r] [] := by
  have hS := (St.init w no)
  unfold impl_Pasture_hurdles.f at H
  refine CV.body Try.func130 rfl Try.ntmps130 rfl ?_
  refine CJ.seq ?_
  refine CJ.region ?_
  refine OJ.ef rfl rfl rfl (Ef.box hS rfl rfl (cPasture.enc a0) rfl) ?_
  rintro _ w1 ⟨b1, rfl, hS⟩
  refine OJ.pures tU_ok 1 rfl ?_
  refine OJ.nil (EJ.next ?_)
  refine CJ.seq ?_
  refine CJ.region ?_
  refine OJ.st rfl rfl rfl (SR.load rfl rfl (fun w' hx => ldE tU_ok tI_ok rfl rfl rfl (CA.ext (hS.cells (i := 0) rfl) hx) rfl)) ?_
  refine OJ.st rfl rfl rfl (SR.load rfl rfl (fun w' hx => ldE tU_ok tI_ok rfl rfl rfl (CA.ext (hS.cells (i := 0) rfl) hx) rfl)) ?_
  refine OJ.pures tU_ok 1 rfl ?_
  obtain ⟨t2, ht2, H⟩ := pbind H
  refine OJ.callF rfl rfl rfl rfl rfl hb165 rfl (impl_Pasture_sides.c k _ a0 166 #[.agg (cPasture.enc a0).toArray] #[] hb166 (impl_Pasture_stands.f a0) (fun z0 r h w' hx => CV.cast (impl_Pasture_stands.c w'  a0 z0 r h) (by simp)) _ ht2) ?_
  rintro _ w1 ⟨A3, c4, rfl, hs⟩
  replace hS := hS.addN hs
  refine OJ.pures tU_ok 1 rfl ?_
  refine OJ.nil (EJ.next ?_)
  refine CJ.ret (?_)
  obtain rfl := Option.some.inj H
  exact EJ.fin rfl (.tmp rfl .nil) ⟨A3, c4, rfl, hS.pick [1] [] rfl⟩

def impl_Pasture_put.f (a0 : Pasture) (a1 : Hurdle) (a2 : Bool) : Option Pasture := if a1.South = true then ((getI a0.South.l a1.At.Y).bind fun t2 => (chk (0 ≤ a1.At.X)).bind fun u3 => (getI a0.South.l a1.At.Y).bind fun t4 => if a2 = true then ((getI (aset a0.South a1.At.Y.toNat (andNotI .u16 t2 (shlI .u16 1 a1.At.X))).l a1.At.Y).bind fun t5 => (chk (0 ≤ a1.At.X)).bind fun u6 => (getI (aset a0.South a1.At.Y.toNat (andNotI .u16 t2 (shlI .u16 1 a1.At.X))).l a1.At.Y).bind fun t7 => some (⟨a0.Wide, a0.High, a0.Grass, a0.East, (aset (aset a0.South a1.At.Y.toNat (andNotI .u16 t2 (shlI .u16 1 a1.At.X))) a1.At.Y.toNat (orI .u16 t5 (shlI .u16 1 a1.At.X)))⟩ : Pasture)) else (some (⟨a0.Wide, a0.High, a0.Grass, a0.East, (aset a0.South a1.At.Y.toNat (andNotI .u16 t2 (shlI .u16 1 a1.At.X)))⟩ : Pasture))) else ((getI a0.East.l a1.At.Y).bind fun t8 => (chk (0 ≤ a1.At.X)).bind fun u9 => (getI a0.East.l a1.At.Y).bind fun t10 => if a2 = true then ((getI (aset a0.East a1.At.Y.toNat (andNotI .u16 t8 (shlI .u16 1 a1.At.X))).l a1.At.Y).bind fun t11 => (chk (0 ≤ a1.At.X)).bind fun u12 => (getI (aset a0.East a1.At.Y.toNat (andNotI .u16 t8 (shlI .u16 1 a1.At.X))).l a1.At.Y).bind fun t13 => some (⟨a0.Wide, a0.High, a0.Grass, (aset (aset a0.East a1.At.Y.toNat (andNotI .u16 t8 (shlI .u16 1 a1.At.X))) a1.At.Y.toNat (orI .u16 t11 (shlI .u16 1 a1.At.X))), a0.South⟩ : Pasture)) else (some (⟨a0.Wide, a0.High, a0.Grass, (aset a0.East a1.At.Y.toNat (andNotI .u16 t8 (shlI .u16 1 a1.At.X))), a0.South⟩ : Pasture)))
theorem impl_Pasture_put.c (w : World) (ba0 : Nat) (a0 : Pasture) (a1 : Hurdle) (a2 : Bool) (hin : St w (fpU [box ba0 (cPasture.enc a0) 32]) w [box ba0 (cPasture.enc a0) 32] []) (r : Pasture) (H : impl_Pasture_put.f a0 a1 a2 = some r) :
    CV Try.prog 167 [.pointer (some ⟨ba0, 0, none⟩), .agg (cHurdle.enc a1).toArray, .bool a2].toArray w fun v w' => v = .tuple #[] ∧ St w (fpU [box ba0 (cPasture.enc a0) 32]) w' [box ba0 (cPasture.enc r) 32] [] := by
  have hS := hin
  unfold impl_Pasture_put.f at H
  refine CV.body Try.func167 rfl Try.ntmps167 rfl ?_
  refine CJ.seq ?_
  refine CJ.region ?_
  refine OJ.ef rfl rfl rfl (Ef.box hS rfl rfl (cHurdle.enc a1) rfl) ?_
  rintro _ w1 ⟨b1, rfl, hS⟩
  refine OJ.nil (EJ.next ?_)
  refine CJ.seq ?_
  refine CJ.region ?_
  refine OJ.pures tU_ok 2 rfl ?_
  refine OJ.st rfl rfl rfl (SR.fieldAddr tU_ok tI_ok rfl rfl rfl rfl rfl rfl) ?_
  refine OJ.pures tU_ok 1 rfl ?_
  refine OJ.nil (EJ.next ?_)
  refine CJ.seq ?_
  refine CJ.seq ?_
  refine CJ.region ?_
  refine OJ.st rfl rfl rfl (SR.fieldAddr tU_ok tI_ok rfl rfl rfl rfl rfl rfl) ?_
  refine OJ.st rfl rfl rfl (SR.load rfl rfl (fun w' hx => ld1 tU_ok rfl rfl (CA.ext (CA.sub (hS.cells (i := 1) rfl) 2) hx) rfl)) ?_
  refine OJ.nil (EJ.next ?_)
  refine CJ.cond rfl (fun hb => ?_) (fun hb => ?_)
  · replace H := pif_t hb H
    refine CJ.region ?_
    refine OJ.pures tU_ok 2 rfl ?_
    refine OJ.st rfl rfl rfl (SR.fieldAddr tU_ok tI_ok rfl rfl rfl rfl rfl rfl) ?_
    refine OJ.pures tU_ok 1 rfl ?_
    refine OJ.nil (EJ.next ?_)
    refine CJ.seq ?_
    refine CJ.draw [] [0, 1, 2, 3, 4, 5, 6, 7, 8, 9, 10, 11, 12, 13, 14] mixed (by kernel_rfl) hS fun w1 hS => ?_
    refine DJ.pures tU_ok 1 rfl ?_
    refine DJ.st rfl rfl rfl rfl rfl (SR.fieldAddr tU_ok tI_ok rfl rfl rfl rfl rfl rfl) ?_
    refine DJ.st rfl rfl rfl rfl rfl (SR.fieldAddr tU_ok tI_ok rfl rfl rfl rfl rfl rfl) ?_
    refine DJ.st rfl rfl rfl rfl rfl (SR.load rfl rfl (fun w' hx => ld1 tU_ok rfl rfl (CA.ext (CA.sub (CA.sub (hS.cells (i := 1) rfl) 0) 1) hx) rfl)) ?_
    refine DJ.pures tU_ok 1 rfl ?_
    obtain ⟨t2, ht2, H⟩ := pbind H
    refine DJ.st rfl rfl rfl rfl rfl (SR.idxA tU_ok tI_ok rfl rfl rfl rfl rfl (Arr.lt ht2)) ?_
    refine DJ.st rfl rfl rfl rfl rfl (SR.load rfl rfl (fun w' hx => ld1 tU_ok rfl rfl (CA.ext (CA.idx (CA.fld (hS.cells (i := 0) rfl) (mid_part (fe_Pasture_4 _) (fl_Pasture_4 _) ((carr 10 (ci .u16)).len _))) ht2) hx) rfl)) ?_
    refine DJ.st rfl rfl rfl rfl rfl (SR.fieldAddr tU_ok tI_ok rfl rfl rfl rfl rfl rfl) ?_
    refine DJ.st rfl rfl rfl rfl rfl (SR.fieldAddr tU_ok tI_ok rfl rfl rfl rfl rfl rfl) ?_
    refine DJ.st rfl rfl rfl rfl rfl (SR.load rfl rfl (fun w' hx => ld1 tU_ok rfl rfl (CA.ext (CA.sub (CA.sub (hS.cells (i := 1) rfl) 0) 0) hx) rfl)) ?_
    obtain ⟨u3, hu3, H⟩ := pbind H
    refine DJ.st rfl rfl rfl rfl rfl (SR.shl rfl rfl rfl (chk_some hu3)) ?_
    refine DJ.pures tU_ok 2 rfl ?_
    obtain ⟨t4, ht4, H⟩ := pbind H
    refine DJ.st rfl rfl rfl rfl rfl (SR.idxA tU_ok tI_ok rfl rfl rfl rfl rfl (Arr.lt ht4)) ?_
    refine DJ.es rfl rfl rfl rfl (Es.put tI_ok hS (i := 0) rfl rfl rfl rfl rfl (vs := (ci .u16).enc (andNotI .u16 t2 (shlI .u16 1 a1.At.X))) rfl rfl (one1 rfl) (put_Pasture_4 (Put.idx (Put.all (ci .u16) t4 (andNotI .u16 t2 (shlI .u16 1 a1.At.X))) ht4)) (by (try simp only [add_lit, Nat.add_assoc, Nat.zero_add, Nat.add_zero]) <;> rfl)) ?_
    intro w1 hS
    refine DJ.nil (EJ.next ?_)
    refine CJ.seq ?_
    refine CJ.region ?_
    refine OJ.pures tU_ok 1 rfl ?_
    refine OJ.nil (EJ.next ?_)
    refine CJ.cond rfl (fun hb => ?_) (fun hb => ?_)
    · replace H := pif_t hb H
      refine CJ.draw [] [0, 1, 2, 3, 4, 5, 6, 7, 8, 9, 10, 11, 12, 13, 14] mixed (by kernel_rfl) hS fun w1 hS => ?_
      refine DJ.pures tU_ok 1 rfl ?_
      refine DJ.st rfl rfl rfl rfl rfl (SR.fieldAddr tU_ok tI_ok rfl rfl rfl rfl rfl rfl) ?_
      refine DJ.st rfl rfl rfl rfl rfl (SR.fieldAddr tU_ok tI_ok rfl rfl rfl rfl rfl rfl) ?_
      refine DJ.st rfl rfl rfl rfl rfl (SR.load rfl rfl (fun w' hx => ld1 tU_ok rfl rfl (CA.ext (CA.sub (CA.sub (hS.cells (i := 1) rfl) 0) 1) hx) rfl)) ?_
      refine DJ.pures tU_ok 1 rfl ?_
      obtain ⟨t5, ht5, H⟩ := pbind H
      refine DJ.st rfl rfl rfl rfl rfl (SR.idxA tU_ok tI_ok rfl rfl rfl rfl rfl (Arr.lt ht5)) ?_
      refine DJ.st rfl rfl rfl rfl rfl (SR.load rfl rfl (fun w' hx => ld1 tU_ok rfl rfl (CA.ext (CA.idx (CA.fld (hS.cells (i := 0) rfl) (mid_part (fe_Pasture_4 _) (fl_Pasture_4 _) ((carr 10 (ci .u16)).len _))) ht5) hx) rfl)) ?_
      refine DJ.st rfl rfl rfl rfl rfl (SR.fieldAddr tU_ok tI_ok rfl rfl rfl rfl rfl rfl) ?_
      refine DJ.st rfl rfl rfl rfl rfl (SR.fieldAddr tU_ok tI_ok rfl rfl rfl rfl rfl rfl) ?_
      refine DJ.st rfl rfl rfl rfl rfl (SR.load rfl rfl (fun w' hx => ld1 tU_ok rfl rfl (CA.ext (CA.sub (CA.sub (hS.cells (i := 1) rfl) 0) 0) hx) rfl)) ?_
      obtain ⟨u6, hu6, H⟩ := pbind H
      refine DJ.st rfl rfl rfl rfl rfl (SR.shl rfl rfl rfl (chk_some hu6)) ?_
      refine DJ.pures tU_ok 2 rfl ?_
      obtain ⟨t7, ht7, H⟩ := pbind H
      refine DJ.st rfl rfl rfl rfl rfl (SR.idxA tU_ok tI_ok rfl rfl rfl rfl rfl (Arr.lt ht7)) ?_
      refine DJ.es rfl rfl rfl rfl (Es.put tI_ok hS (i := 0) rfl rfl rfl rfl rfl (vs := (ci .u16).enc (orI .u16 t5 (shlI .u16 1 a1.At.X))) rfl rfl (one1 rfl) (put_Pasture_4 (Put.idx (Put.all (ci .u16) t7 (orI .u16 t5 (shlI .u16 1 a1.At.X))) ht7)) (by (try simp only [add_lit, Nat.add_assoc, Nat.zero_add, Nat.add_zero]) <;> rfl)) ?_
      intro w1 hS
      refine DJ.nil ?_
      obtain rfl := Option.some.inj H
      exact EJ.fin' rfl .nil ⟨rfl, hS.pick [0] [] rfl⟩
    · replace H := pifb_f hb H
      refine CJ.skip (?_)
      obtain rfl := Option.some.inj H
      exact EJ.fin' rfl .nil ⟨rfl, hS.pick [0] [] rfl⟩
  · replace H := pifb_f hb H
    refine CJ.skip (EJ.next ?_)
    refine CJ.seq ?_
    refine CJ.draw [] [0, 1, 2, 3, 4, 5, 6, 7, 8, 9, 10, 11, 12, 13, 14] mixed (by kernel_rfl) hS fun w1 hS => ?_
    refine DJ.pures tU_ok 1 rfl ?_
    refine DJ.st rfl rfl rfl rfl rfl (SR.fieldAddr tU_ok tI_ok rfl rfl rfl rfl rfl rfl) ?_
    refine DJ.st rfl rfl rfl rfl rfl (SR.fieldAddr tU_ok tI_ok rfl rfl rfl rfl rfl rfl) ?_
    refine DJ.st rfl rfl rfl rfl rfl (SR.load rfl rfl (fun w' hx => ld1 tU_ok rfl rfl (CA.ext (CA.sub (CA.sub (hS.cells (i := 1) rfl) 0) 1) hx) rfl)) ?_
    refine DJ.pures tU_ok 1 rfl ?_
    obtain ⟨t8, ht8, H⟩ := pbind H
    refine DJ.st rfl rfl rfl rfl rfl (SR.idxA tU_ok tI_ok rfl rfl rfl rfl rfl (Arr.lt ht8)) ?_
    refine DJ.st rfl rfl rfl rfl rfl (SR.load rfl rfl (fun w' hx => ld1 tU_ok rfl rfl (CA.ext (CA.idx (CA.fld (hS.cells (i := 0) rfl) (mid_part (fe_Pasture_3 _) (fl_Pasture_3 _) ((carr 10 (ci .u16)).len _))) ht8) hx) rfl)) ?_
    refine DJ.st rfl rfl rfl rfl rfl (SR.fieldAddr tU_ok tI_ok rfl rfl rfl rfl rfl rfl) ?_
    refine DJ.st rfl rfl rfl rfl rfl (SR.fieldAddr tU_ok tI_ok rfl rfl rfl rfl rfl rfl) ?_
    refine DJ.st rfl rfl rfl rfl rfl (SR.load rfl rfl (fun w' hx => ld1 tU_ok rfl rfl (CA.ext (CA.sub (CA.sub (hS.cells (i := 1) rfl) 0) 0) hx) rfl)) ?_
    obtain ⟨u9, hu9, H⟩ := pbind H
    refine DJ.st rfl rfl rfl rfl rfl (SR.shl rfl rfl rfl (chk_some hu9)) ?_
    refine DJ.pures tU_ok 2 rfl ?_
    obtain ⟨t10, ht10, H⟩ := pbind H
    refine DJ.st rfl rfl rfl rfl rfl (SR.idxA tU_ok tI_ok rfl rfl rfl rfl rfl (Arr.lt ht10)) ?_
    refine DJ.es rfl rfl rfl rfl (Es.put tI_ok hS (i := 0) rfl rfl rfl rfl rfl (vs := (ci .u16).enc (andNotI .u16 t8 (shlI .u16 1 a1.At.X))) rfl rfl (one1 rfl) (put_Pasture_3 (Put.idx (Put.all (ci .u16) t10 (andNotI .u16 t8 (shlI .u16 1 a1.At.X))) ht10)) (by (try simp only [add_lit, Nat.add_assoc, Nat.zero_add, Nat.add_zero]) <;> rfl)) ?_
    intro w1 hS
    refine DJ.nil (EJ.next ?_)
    refine CJ.seq ?_
    refine CJ.region ?_
    refine OJ.pures tU_ok 1 rfl ?_
    refine OJ.nil (EJ.next ?_)
    refine CJ.cond rfl (fun hb => ?_) (fun hb => ?_)
    · replace H := pif_t hb H
      refine CJ.draw [] [0, 1, 2, 3, 4, 5, 6, 7, 8, 9, 10, 11, 12, 13, 14] mixed (by kernel_rfl) hS fun w1 hS => ?_
      refine DJ.pures tU_ok 1 rfl ?_
      refine DJ.st rfl rfl rfl rfl rfl (SR.fieldAddr tU_ok tI_ok rfl rfl rfl rfl rfl rfl) ?_
      refine DJ.st rfl rfl rfl rfl rfl (SR.fieldAddr tU_ok tI_ok rfl rfl rfl rfl rfl rfl) ?_
      refine DJ.st rfl rfl rfl rfl rfl (SR.load rfl rfl (fun w' hx => ld1 tU_ok rfl rfl (CA.ext (CA.sub (CA.sub (hS.cells (i := 1) rfl) 0) 1) hx) rfl)) ?_
      refine DJ.pures tU_ok 1 rfl ?_
      obtain ⟨t11, ht11, H⟩ := pbind H
      refine DJ.st rfl rfl rfl rfl rfl (SR.idxA tU_ok tI_ok rfl rfl rfl rfl rfl (Arr.lt ht11)) ?_
      refine DJ.st rfl rfl rfl rfl rfl (SR.load rfl rfl (fun w' hx => ld1 tU_ok rfl rfl (CA.ext (CA.idx (CA.fld (hS.cells (i := 0) rfl) (mid_part (fe_Pasture_3 _) (fl_Pasture_3 _) ((carr 10 (ci .u16)).len _))) ht11) hx) rfl)) ?_
      refine DJ.st rfl rfl rfl rfl rfl (SR.fieldAddr tU_ok tI_ok rfl rfl rfl rfl rfl rfl) ?_
      refine DJ.st rfl rfl rfl rfl rfl (SR.fieldAddr tU_ok tI_ok rfl rfl rfl rfl rfl rfl) ?_
      refine DJ.st rfl rfl rfl rfl rfl (SR.load rfl rfl (fun w' hx => ld1 tU_ok rfl rfl (CA.ext (CA.sub (CA.sub (hS.cells (i := 1) rfl) 0) 0) hx) rfl)) ?_
      obtain ⟨u12, hu12, H⟩ := pbind H
      refine DJ.st rfl rfl rfl rfl rfl (SR.shl rfl rfl rfl (chk_some hu12)) ?_
      refine DJ.pures tU_ok 2 rfl ?_
      obtain ⟨t13, ht13, H⟩ := pbind H
      refine DJ.st rfl rfl rfl rfl rfl (SR.idxA tU_ok tI_ok rfl rfl rfl rfl rfl (Arr.lt ht13)) ?_
      refine DJ.es rfl rfl rfl rfl (Es.put tI_ok hS (i := 0) rfl rfl rfl rfl rfl (vs := (ci .u16).enc (orI .u16 t11 (shlI .u16 1 a1.At.X))) rfl rfl (one1 rfl) (put_Pasture_3 (Put.idx (Put.all (ci .u16) t13 (orI .u16 t11 (shlI .u16 1 a1.At.X))) ht13)) (by (try simp only [add_lit, Nat.add_assoc, Nat.zero_add, Nat.add_zero]) <;> rfl)) ?_
      intro w1 hS
      refine DJ.nil ?_
      obtain rfl := Option.some.inj H
      exact EJ.fin' rfl .nil ⟨rfl, hS.pick [0] [] rfl⟩
    · replace H := pifb_f hb H
      refine CJ.skip (?_)
      obtain rfl := Option.some.inj H
      exact EJ.fin' rfl .nil ⟨rfl, hS.pick [0] [] rfl⟩

def impl_Pasture_with.l1 (a1 : List Hurdle) (a2 : Bool) : Nat → Pasture → Int → Option Pasture
  | 0, _, _ => none
  | k + 1, y4, y5 => if y5 < (a1.length : Int) then ((getI a1 y5).bind fun t6 => (impl_Pasture_put.f y4 t6 a2).bind fun t8 => impl_Pasture_with.l1 a1 a2 k t8 (IntKind.i64.wrap (y5 + 1))) else (some y4)
def impl_Pasture_with.f (k : Nat) (a0 : Pasture) (a1 : List Hurdle) (a2 : Bool) : Option Pasture := (impl_Pasture_with.l1 a1 a2 k a0 0).bind fun y3 => some y3
theorem impl_Pasture_with.c (k : Nat) (w : World) (a0 : Pasture) (Aa1 : Option Addr) (ca1 : Nat) (a1 : List Hurdle) (hr1 : Rd cHurdle w Aa1 a1) (hc1 : a1.length ≤ ca1) (a2 : Bool) (r : Pasture) (H : impl_Pasture_with.f k a0 a1 a2 = some r) :
    CV Try.prog 132 [.agg (cPasture.enc a0).toArray, .slice Aa1 a1.length ca1, .bool a2].toArray w fun v w' => v = .agg (cPasture.enc r).toArray ∧ Ext w w' := by
  have hS := ((St.init w no).param cHurdle Aa1 ca1 a1 hr1 hc1)
  unfold impl_Pasture_with.f at H
  refine CV.body Try.func132 rfl Try.ntmps132 rfl ?_
  refine CJ.seq ?_
  refine CJ.region ?_
  refine OJ.ef rfl rfl rfl (Ef.box hS rfl rfl (cPasture.enc a0) rfl) ?_
  rintro _ w1 ⟨b1, rfl, hS⟩
  refine OJ.ef rfl rfl rfl (Ef.alloc hS tI_ok rfl rfl (cPasture.enc (⟨0, 0, (Arr.mk' (Arr.mk' 0 : Arr 10 Int) : Arr 10 (Arr 10 Int)), (Arr.mk' 0 : Arr 10 Int), (Arr.mk' 0 : Arr 10 Int)⟩ : Pasture)) (by kernel_rfl)) ?_
  rintro _ w1 ⟨b2, rfl, hS⟩
  refine OJ.nil (EJ.next ?_)
  refine CJ.seq ?_
  refine CJ.seq ?_
  refine CJ.region ?_
  refine OJ.pures tU_ok 3 rfl ?_
  refine OJ.nil (EJ.next ?_)
  obtain ⟨j184, H, K184⟩ := pbind H
  refine CJ.cut1 (fun F w1 => ∃ (y3 : Pasture) , (some y3 : Option Pasture) = some j184 ∧ F = [(3, .pointer (some ⟨b1, 0, none⟩)), (6, .pointer (some ⟨b2, 0, none⟩))] ∧ St w no w1 [box b1 (cPasture.enc y3) 32, box b2 (cPasture.enc (⟨0, 0, (Arr.mk' (Arr.mk' 0 : Arr 10 Int) : Arr 10 (Arr 10 Int)), (Arr.mk' 0 : Arr 10 Int), (Arr.mk' 0 : Arr 10 Int)⟩ : Pasture)) 32] [roC cHurdle Aa1 ca1 a1]) ?_ ?_
  · skip
    refine CJ.block ?_
    refine CJ.loop (fun k F w1 => ∃ (y4 : Pasture) (y5 : Int), F = [(2, .bool a2), (3, .pointer (some ⟨b1, 0, none⟩)), (6, .pointer (some ⟨b2, 0, none⟩)), (9, .slice Aa1 a1.length ca1), (10, .int .i64 (a1.length : Int)), (11, .int .i64 y5)] ∧ St w no w1 [box b1 (cPasture.enc y4) 32, box b2 (cPasture.enc (⟨0, 0, (Arr.mk' (Arr.mk' 0 : Arr 10 Int) : Arr 10 (Arr 10 Int)), (Arr.mk' 0 : Arr 10 Int), (Arr.mk' 0 : Arr 10 Int)⟩ : Pasture)) 32] [roC cHurdle Aa1 ca1 a1] ∧ impl_Pasture_with.l1 a1 a2 k y4 y5 = some j184) k (F' := [(2, .bool a2), (3, .pointer (some ⟨b1, 0, none⟩)), (6, .pointer (some ⟨b2, 0, none⟩)), (9, .slice Aa1 a1.length ca1), (10, .int .i64 (a1.length : Int)), (11, .int .i64 0)]) ⟨rfl, rfl, rfl, rfl, rfl, rfl, trivial⟩ ⟨a0, 0, rfl, hS.pick [0, 1] [0] rfl, H⟩ ?_
    rintro k F w1 ⟨y4, y5, rfl, hS, H⟩
    cases k with
    | zero => rw [impl_Pasture_with.l1] at H; cases H
    | succ k =>
      rw [impl_Pasture_with.l1] at H
      refine CJ.seq ?_
      refine CJ.region ?_
      refine OJ.pures tU_ok 1 rfl ?_
      refine OJ.nil (EJ.next ?_)
      refine CJ.seq ?_
      refine CJ.cond rfl (fun hb => ?_) (fun hb => ?_)
      · replace H := pif_t (of_decide_eq_true hb) H
        refine CJ.skip (EJ.next ?_)
        refine CJ.seq ?_
        refine CJ.block ?_
        refine CJ.seq ?_
        refine CJ.region ?_
        obtain ⟨t6, ht6, H⟩ := pbind H
        obtain ⟨ad6, e6⟩ := (hS.rd' (i := 0) rfl).some' ht6
        refine OJ.st rfl rfl rfl (SR.idxS tU_ok tI_ok rfl rfl rfl rfl e6 rfl (getI_some ht6).1) ?_
        refine OJ.st rfl rfl rfl (SR.load rfl rfl (fun w' hx => ldE tU_ok tI_ok rfl rfl rfl (CA.ext ((hS.rd' (i := 0) rfl).at_ e6 ht6) hx) rfl)) ?_
        refine OJ.ef rfl rfl rfl (Ef.alloc hS tI_ok rfl rfl (cHurdle.enc (⟨(⟨0, 0⟩ : Spot), false⟩ : Hurdle)) rfl) ?_
        rintro _ w1 ⟨b7, rfl, hS⟩
        refine OJ.es rfl rfl (Es.store tI_ok hS (i := 2) rfl rfl rfl rfl rfl rfl (vs := cHurdle.enc t6) rfl (cHurdle.len _) (cHurdle.one _) (Nat.le_of_ble_eq_true rfl) (cHurdle.enc t6) rfl) ?_
        intro w1 hS
        refine OJ.nil (EJ.next ?_)
        refine CJ.region ?_
        refine OJ.st rfl rfl rfl (SR.load rfl rfl (fun w' hx => ldE tU_ok tI_ok rfl rfl rfl (CA.ext (hS.cells (i := 2) rfl) hx) rfl)) ?_
        refine OJ.pures tU_ok 1 rfl ?_
        obtain ⟨t8, ht8, H⟩ := pbind H
        refine OJ.callF rfl rfl rfl rfl rfl hb167 rfl (impl_Pasture_put.c _ b1 y4 t6 a2 ((hS.subs [0] [] [] rfl).pick [0] [] rfl) _ ht8) ?_
        rintro _ w1 ⟨rfl, hs⟩
        replace hS := hS.back [0] rfl rfl [box b1 (cPasture.enc t8) 32] [] hs ⟨fun _ => Iff.rfl, trivial⟩
        refine OJ.nil (EJ.blk (EJ.next ?_))
        refine CJ.region ?_
        refine OJ.pures tU_ok 2 rfl ?_
        refine OJ.nil ?_
        exact EJ.round k (F' := [(2, .bool a2), (3, .pointer (some ⟨b1, 0, none⟩)), (6, .pointer (some ⟨b2, 0, none⟩)), (9, .slice Aa1 a1.length ca1), (10, .int .i64 (a1.length : Int)), (11, .int .i64 (IntKind.i64.wrap (y5 + 1)))]) ⟨rfl, rfl, rfl, rfl, rfl, rfl, trivial⟩ (Nat.lt_succ_self _) ⟨t8, (IntKind.i64.wrap (y5 + 1)), rfl, hS.pick [0, 1] [0] rfl, H⟩
      · replace H := pif_f (of_decide_eq_false hb) H
        refine CJ.exit (EJ.skE (EJ.skE (EJ.hit (?_))))
        exact EJ.meet (F' := [(3, .pointer (some ⟨b1, 0, none⟩)), (6, .pointer (some ⟨b2, 0, none⟩))]) ⟨rfl, rfl, trivial⟩ ⟨y4, H, rfl, hS.pick [0, 1] [0] rfl⟩
  · rintro F w1 ⟨y3, he, rfl, hS⟩
    obtain rfl := Option.some.inj he
    have H := K184
    refine EJ.next ?_
    refine CJ.seq ?_
    refine CJ.region ?_
    refine OJ.st rfl rfl rfl (SR.load rfl rfl (fun w' hx => ldE tU_ok tI_ok rfl rfl rfl (CA.ext (hS.cells (i := 0) rfl) hx) rfl)) ?_
    refine OJ.es rfl rfl (Es.put tI_ok hS (i := 1) rfl rfl rfl rfl rfl (vs := cPasture.enc y3) rfl (cPasture.len _) (cPasture.one _) (Put.all cPasture (⟨0, 0, (Arr.mk' (Arr.mk' 0 : Arr 10 Int) : Arr 10 (Arr 10 Int)), (Arr.mk' 0 : Arr 10 Int), (Arr.mk' 0 : Arr 10 Int)⟩ : Pasture) y3) (by (try simp only [add_lit, Nat.add_assoc, Nat.zero_add, Nat.add_zero]) <;> rfl)) ?_
    intro w1 hS
    refine OJ.nil (EJ.next ?_)
    refine CJ.ret (?_)
    obtain rfl := Option.some.inj H
    exact EJ.fin rfl (.cell rfl (ldE tU_ok tI_ok rfl rfl rfl (hS.cells (i := 1) rfl) rfl) .nil) ⟨rfl, hS.ext⟩

def impl_hurdleAt.f (a0 : Spot) (a1 : Int) : Option Hurdle := (if a1 = 0 then (some true) else (some (decide (a1 = 3)))).bind fun y3 => if y3 = true then ((impl_Spot_ahead.f a0 a1).bind fun t4 => if a1 = 0 then (some (⟨t4, true⟩ : Hurdle)) else (some (⟨t4, decide (a1 = 2)⟩ : Hurdle))) else (if a1 = 0 then (some (⟨a0, true⟩ : Hurdle)) else (some (⟨a0, decide (a1 = 2)⟩ : Hurdle)))
theorem impl_hurdleAt.c (w : World) (a0 : Spot) (a1 : Int) (r : Hurdle) (H : impl_hurdleAt.f a0 a1 = some r) :
    CV Try.prog 180 [.agg (cSpot.enc a0).toArray, .int .i64 a1].toArray w fun v w' => v = .agg (cHurdle.enc r).toArray ∧ Ext w w' := by
  have hS := (St.init w no)
  unfold impl_hurdleAt.f at H
  refine CV.body Try.func180 rfl Try.ntmps180 rfl ?_
  refine CJ.seq ?_
  refine CJ.region ?_
  refine OJ.ef rfl rfl rfl (Ef.box hS rfl rfl (cSpot.enc a0) rfl) ?_
  rintro _ w1 ⟨b1, rfl, hS⟩
  refine OJ.ef rfl rfl rfl (Ef.alloc hS tI_ok rfl rfl (cHurdle.enc (⟨(⟨0, 0⟩ : Spot), false⟩ : Hurdle)) rfl) ?_
  rintro _ w1 ⟨b2, rfl, hS⟩
  refine OJ.nil (EJ.next ?_)
  refine CJ.seq ?_
  obtain ⟨j200, H, K200⟩ := pbind H
  refine CJ.cut (fun F w1 => ∃ (y3 : Bool) , (some y3 : Option Bool) = some j200 ∧ F = [(1, .int .i64 a1), (2, .pointer (some ⟨b1, 0, none⟩)), (4, .pointer (some ⟨b2, 0, none⟩)), (10, .bool y3)] ∧ St w no w1 [box b1 (cSpot.enc a0) 105, box b2 (cHurdle.enc (⟨(⟨0, 0⟩ : Spot), false⟩ : Hurdle)) 161] []) ?_ ?_
  · skip
    refine CJ.region ?_
    refine OJ.pures tU_ok 3 rfl ?_
    refine OJ.split (t := 7) rfl (fun hb => ?_) (fun hb => ?_)
    · replace H := pif_t (of_decide_eq_true hb) H
      refine OJ.pures tU_ok 3 rfl ?_
      refine OJ.nil ?_
      exact EJ.meet (F' := [(1, .int .i64 a1), (2, .pointer (some ⟨b1, 0, none⟩)), (4, .pointer (some ⟨b2, 0, none⟩)), (10, .bool true)]) ⟨rfl, rfl, rfl, rfl, trivial⟩ ⟨true, H, rfl, hS.pick [0, 1] [] rfl⟩
    · replace H := pif_f (of_decide_eq_false hb) H
      refine OJ.pures tU_ok 3 rfl ?_
      refine OJ.nil ?_
      exact EJ.meet (F' := [(1, .int .i64 a1), (2, .pointer (some ⟨b1, 0, none⟩)), (4, .pointer (some ⟨b2, 0, none⟩)), (10, .bool (decide (a1 = 3)))]) ⟨rfl, rfl, rfl, rfl, trivial⟩ ⟨(decide (a1 = 3)), H, rfl, hS.pick [0, 1] [] rfl⟩
  · rintro F w1 ⟨y3, he, rfl, hS⟩
    obtain rfl := Option.some.inj he
    have H := K200
    refine CJ.cond rfl (fun hb => ?_) (fun hb => ?_)
    · replace H := pif_t hb H
      refine CJ.region ?_
      refine OJ.st rfl rfl rfl (SR.load rfl rfl (fun w' hx => ldE tU_ok tI_ok rfl rfl rfl (CA.ext (hS.cells (i := 0) rfl) hx) rfl)) ?_
      refine OJ.pures tU_ok 1 rfl ?_
      obtain ⟨t4, ht4, H⟩ := pbind H
      refine OJ.callF rfl rfl rfl rfl rfl hb170 rfl (impl_Spot_ahead.c _ a0 a1 _ ht4) ?_
      rintro _ w1 ⟨rfl, hs⟩
      replace hS := hS.grow hs
      refine OJ.es rfl rfl (Es.store tI_ok hS (i := 0) rfl rfl rfl rfl rfl rfl (vs := cSpot.enc t4) rfl (cSpot.len _) (cSpot.one _) (Nat.le_of_ble_eq_true rfl) (cSpot.enc t4) rfl) ?_
      intro w1 hS
      refine OJ.nil (EJ.next ?_)
      refine CJ.seq ?_
      refine CJ.region ?_
      refine OJ.st rfl rfl rfl (SR.load rfl rfl (fun w' hx => ldE tU_ok tI_ok rfl rfl rfl (CA.ext (hS.cells (i := 0) rfl) hx) rfl)) ?_
      refine OJ.pures tU_ok 3 rfl ?_
      refine OJ.split (t := 17) rfl (fun hb => ?_) (fun hb => ?_)
      · replace H := pif_t (of_decide_eq_true hb) H
        refine OJ.pures tU_ok 3 rfl ?_
        refine OJ.st rfl rfl rfl (SR.build (C := cHurdle) tU_ok tI_ok rfl rfl rfl (zs := [.int .i8 0, .int .i8 0, .bool false]) rfl rfl rfl (⟨t4, true⟩ : Hurdle) rfl) ?_
        refine OJ.es rfl rfl (Es.store tI_ok hS (i := 1) rfl rfl rfl rfl rfl rfl (vs := cHurdle.enc (⟨t4, true⟩ : Hurdle)) rfl (cHurdle.len _) (cHurdle.one _) (Nat.le_of_ble_eq_true rfl) (cHurdle.enc (⟨t4, true⟩ : Hurdle)) rfl) ?_
        intro w1 hS
        refine OJ.nil (EJ.next ?_)
        refine CJ.ret (?_)
        obtain rfl := Option.some.inj H
        exact EJ.fin rfl (.cell rfl (ldE tU_ok tI_ok rfl rfl rfl (hS.cells (i := 1) rfl) rfl) .nil) ⟨rfl, hS.ext⟩
      · replace H := pif_f (of_decide_eq_false hb) H
        refine OJ.pures tU_ok 3 rfl ?_
        refine OJ.st rfl rfl rfl (SR.build (C := cHurdle) tU_ok tI_ok rfl rfl rfl (zs := [.int .i8 0, .int .i8 0, .bool false]) rfl rfl rfl (⟨t4, decide (a1 = 2)⟩ : Hurdle) rfl) ?_
        refine OJ.es rfl rfl (Es.store tI_ok hS (i := 1) rfl rfl rfl rfl rfl rfl (vs := cHurdle.enc (⟨t4, decide (a1 = 2)⟩ : Hurdle)) rfl (cHurdle.len _) (cHurdle.one _) (Nat.le_of_ble_eq_true rfl) (cHurdle.enc (⟨t4, decide (a1 = 2)⟩ : Hurdle)) rfl) ?_
        intro w1 hS
        refine OJ.nil (EJ.next ?_)
        refine CJ.ret (?_)
        obtain rfl := Option.some.inj H
        exact EJ.fin rfl (.cell rfl (ldE tU_ok tI_ok rfl rfl rfl (hS.cells (i := 1) rfl) rfl) .nil) ⟨rfl, hS.ext⟩
    · replace H := pifb_f hb H
      refine CJ.skip (EJ.next ?_)
      refine CJ.seq ?_
      refine CJ.region ?_
      refine OJ.st rfl rfl rfl (SR.load rfl rfl (fun w' hx => ldE tU_ok tI_ok rfl rfl rfl (CA.ext (hS.cells (i := 0) rfl) hx) rfl)) ?_
      refine OJ.pures tU_ok 3 rfl ?_
      refine OJ.split (t := 17) rfl (fun hb => ?_) (fun hb => ?_)
      · replace H := pif_t (of_decide_eq_true hb) H
        refine OJ.pures tU_ok 3 rfl ?_
        refine OJ.st rfl rfl rfl (SR.build (C := cHurdle) tU_ok tI_ok rfl rfl rfl (zs := [.int .i8 0, .int .i8 0, .bool false]) rfl rfl rfl (⟨a0, true⟩ : Hurdle) rfl) ?_
        refine OJ.es rfl rfl (Es.store tI_ok hS (i := 1) rfl rfl rfl rfl rfl rfl (vs := cHurdle.enc (⟨a0, true⟩ : Hurdle)) rfl (cHurdle.len _) (cHurdle.one _) (Nat.le_of_ble_eq_true rfl) (cHurdle.enc (⟨a0, true⟩ : Hurdle)) rfl) ?_
        intro w1 hS
        refine OJ.nil (EJ.next ?_)
        refine CJ.ret (?_)
        obtain rfl := Option.some.inj H
        exact EJ.fin rfl (.cell rfl (ldE tU_ok tI_ok rfl rfl rfl (hS.cells (i := 1) rfl) rfl) .nil) ⟨rfl, hS.ext⟩
      · replace H := pif_f (of_decide_eq_false hb) H
        refine OJ.pures tU_ok 3 rfl ?_
        refine OJ.st rfl rfl rfl (SR.build (C := cHurdle) tU_ok tI_ok rfl rfl rfl (zs := [.int .i8 0, .int .i8 0, .bool false]) rfl rfl rfl (⟨a0, decide (a1 = 2)⟩ : Hurdle) rfl) ?_
        refine OJ.es rfl rfl (Es.store tI_ok hS (i := 1) rfl rfl rfl rfl rfl rfl (vs := cHurdle.enc (⟨a0, decide (a1 = 2)⟩ : Hurdle)) rfl (cHurdle.len _) (cHurdle.one _) (Nat.le_of_ble_eq_true rfl) (cHurdle.enc (⟨a0, decide (a1 = 2)⟩ : Hurdle)) rfl) ?_
        intro w1 hS
        refine OJ.nil (EJ.next ?_)
        refine CJ.ret (?_)
        obtain rfl := Option.some.inj H
        exact EJ.fin rfl (.cell rfl (ldE tU_ok tI_ok rfl rfl rfl (hS.cells (i := 1) rfl) rfl) .nil) ⟨rfl, hS.ext⟩

def impl_Pasture_canGo.f (a0 : Pasture) (a1 : Spot) (a2 : Int) : Option Bool := (impl_Spot_ahead.f a1 a2).bind fun t3 => (impl_Pasture_isCell.f a0 t3).bind fun t4 => if t4 = true then ((impl_hurdleAt.f a1 a2).bind fun t5 => (impl_Pasture_stands.f a0 t5).bind fun t6 => some (!t6)) else (some false)
theorem impl_Pasture_canGo.c (w : World) (a0 : Pasture) (a1 : Spot) (a2 : Int) (r : Bool) (H : impl_Pasture_canGo.f a0 a1 a2 = some r) :
    CV Try.prog 171 [.agg (cPasture.enc a0).toArray, .agg (cSpot.enc a1).toArray, .int .i64 a2].toArray w fun v w' => v = .bool r ∧ Ext w w' := by
  have hS := (St.init w no)
  unfold impl_Pasture_canGo.f at H
  refine CV.body Try.func171 rfl Try.ntmps171 rfl ?_
  refine CJ.seq ?_
  refine CJ.region ?_
  refine OJ.ef rfl rfl rfl (Ef.box hS rfl rfl (cPasture.enc a0) rfl) ?_
  rintro _ w1 ⟨b1, rfl, hS⟩
  refine OJ.ef rfl rfl rfl (Ef.box hS rfl rfl (cSpot.enc a1) rfl) ?_
  rintro _ w1 ⟨b2, rfl, hS⟩
  refine OJ.pures tU_ok 1 rfl ?_
  refine OJ.nil (EJ.next ?_)
  refine CJ.seq ?_
  refine CJ.draw [] [0, 1, 2, 3, 4, 5, 6, 7, 8, 9, 10, 11, 12, 13] mixed (by kernel_rfl) hS fun w1 hS => ?_
  refine DJ.st rfl rfl rfl rfl rfl (SR.load rfl rfl (fun w' hx => ldE tU_ok tI_ok rfl rfl rfl (CA.ext (hS.cells (i := 0) rfl) hx) rfl)) ?_
  refine DJ.st rfl rfl rfl rfl rfl (SR.load rfl rfl (fun w' hx => ldE tU_ok tI_ok rfl rfl rfl (CA.ext (hS.cells (i := 1) rfl) hx) rfl)) ?_
  refine DJ.pures tU_ok 1 rfl ?_
  obtain ⟨t3, ht3, H⟩ := pbind H
  refine DJ.callF rfl rfl rfl rfl rfl rfl rfl hb170 rfl (impl_Spot_ahead.c _ a1 a2 _ ht3) (by rintro v w' ⟨rfl, hs⟩; exact hs) ?_
  rintro _ w1 ⟨rfl, hs⟩
  replace hS := hS.grow hs
  obtain ⟨t4, ht4, H⟩ := pbind H
  refine DJ.callF rfl rfl rfl rfl rfl rfl rfl hb136 rfl (impl_Pasture_isCell.c _ a0 t3 _ ht4) (by rintro v w' ⟨rfl, hs⟩; exact hs) ?_
  rintro _ w1 ⟨rfl, hs⟩
  replace hS := hS.grow hs
  refine DJ.pures tU_ok 1 rfl ?_
  refine DJ.split (t := 12) rfl (fun hb => ?_) (fun hb => ?_)
  · replace H := pif_t hb H
    refine DJ.st rfl rfl rfl rfl rfl (SR.load rfl rfl (fun w' hx => ldE tU_ok tI_ok rfl rfl rfl (CA.ext (hS.cells (i := 0) rfl) hx) rfl)) ?_
    refine DJ.st rfl rfl rfl rfl rfl (SR.load rfl rfl (fun w' hx => ldE tU_ok tI_ok rfl rfl rfl (CA.ext (hS.cells (i := 1) rfl) hx) rfl)) ?_
    refine DJ.pures tU_ok 1 rfl ?_
    obtain ⟨t5, ht5, H⟩ := pbind H
    refine DJ.callF rfl rfl rfl rfl rfl rfl rfl hb180 rfl (impl_hurdleAt.c _ a1 a2 _ ht5) (by rintro v w' ⟨rfl, hs⟩; exact hs) ?_
    rintro _ w1 ⟨rfl, hs⟩
    replace hS := hS.grow hs
    obtain ⟨t6, ht6, H⟩ := pbind H
    refine DJ.callF rfl rfl rfl rfl rfl rfl rfl hb166 rfl (impl_Pasture_stands.c _ a0 t5 _ ht6) (by rintro v w' ⟨rfl, hs⟩; exact hs) ?_
    rintro _ w1 ⟨rfl, hs⟩
    replace hS := hS.grow hs
    refine DJ.pures tU_ok 3 rfl ?_
    refine DJ.nil (EJ.next ?_)
    refine CJ.ret (?_)
    obtain rfl := Option.some.inj H
    exact EJ.fin rfl (.tmp rfl .nil) ⟨rfl, hS.ext⟩
  · replace H := pifb_f hb H
    refine DJ.pures tU_ok 8 rfl ?_
    refine DJ.nil (EJ.next ?_)
    refine CJ.ret (?_)
    obtain rfl := Option.some.inj H
    exact EJ.fin rfl (.tmp rfl .nil) ⟨rfl, hS.ext⟩

def impl_Pasture_far.l2 (y6 : Int) : Nat → (Arr 10 (Arr 10 Int)) → Int → Option (Arr 10 (Arr 10 Int))
  | 0, _, _ => none
  | k + 1, y9, y10 => if y10 < 10 then ((getI y9.l y6).bind fun t11 => (getI t11.l y10).bind fun t12 => impl_Pasture_far.l2 y6 k (aset y9 y6.toNat (aset t11 y10.toNat (-1))) (IntKind.i64.wrap (y10 + 1))) else (some y9)
def impl_Pasture_far.l1 : Nat → (Arr 10 (Arr 10 Int)) → Int → Option (Arr 10 (Arr 10 Int))
  | 0, _, _ => none
  | k + 1, y5, y6 => if y6 < 10 then (((impl_Pasture_far.l2 y6 k y5 0).bind fun y8 => some y8).bind fun y7 => impl_Pasture_far.l1 k y7 (IntKind.i64.wrap (y6 + 1))) else (some y5)
def impl_Pasture_far.l3 (a1 : List Spot) : Nat → (Arr 10 (Arr 10 Int)) → Int → Option (Arr 10 (Arr 10 Int))
  | 0, _, _ => none
  | k + 1, y14, y15 => if y15 < (a1.length : Int) then ((getI a1 y15).bind fun t16 => (getI y14.l t16.Y).bind fun t18 => (getI t18.l t16.X).bind fun t19 => impl_Pasture_far.l3 a1 k (aset y14 t16.Y.toNat (aset t18 t16.X.toNat 0)) (IntKind.i64.wrap (y15 + 1))) else (some y14)
def impl_Pasture_far.l5 (a0 : Pasture) (t33 : Spot) : Nat → (Arr 10 (Arr 10 Int)) → (List Spot) → Int → Option ((Arr 10 (Arr 10 Int)) × (List Spot))
  | 0, _, _, _ => none
  | k + 1, y39, y40, y43 => if y43 < 4 then ((impl_Spot_ahead.f t33 y43).bind fun t44 => ((impl_Pasture_canGo.f a0 t33 y43).bind fun t47 => if t47 = true then ((getI y39.l t44.Y).bind fun t48 => (getI t48.l t44.X).bind fun t49 => some (decide (t49 < 0))) else (some false)).bind fun y46 => if y46 = true then ((getI y39.l t33.Y).bind fun t50 => (getI t50.l t33.X).bind fun t51 => (getI y39.l t44.Y).bind fun t52 => (getI t52.l t44.X).bind fun t53 => (chk (y40.length + ([t44] : List Spot).length ≤ 4294967296)).bind fun u55 => impl_Pasture_far.l5 a0 t33 k (aset y39 t44.Y.toNat (aset t52 t44.X.toNat (IntKind.i16.wrap (t51 + 1)))) (y40 ++ ([t44] : List Spot)) (IntKind.i64.wrap (y43 + 1))) else (impl_Pasture_far.l5 a0 t33 k y39 y40 (IntKind.i64.wrap (y43 + 1)))) else (some (y39, y40))
def impl_Pasture_far.l4 (a0 : Pasture) : Nat → (Arr 10 (Arr 10 Int)) → (List Spot) → Int → Option (Arr 10 (Arr 10 Int))
  | 0, _, _, _ => none
  | k + 1, y24, y25, y28 => if y28 < (y25.length : Int) then (((getI y25 y28).bind fun t33 => (impl_Pasture_far.l5 a0 t33 k y24 y25 0).bind fun (y35, y36) => some (y35, y36)).bind fun (y29, y30) => impl_Pasture_far.l4 a0 k y29 y30 (IntKind.i64.wrap (y28 + 1))) else (some y24)
def impl_Pasture_far.f (k : Nat) (a0 : Pasture) (a1 : List Spot) : Option (Arr 10 (Arr 10 Int)) := (impl_Pasture_far.l1 k (Arr.mk' (Arr.mk' 0 : Arr 10 Int) : Arr 10 (Arr 10 Int)) 0).bind fun y4 => (impl_Pasture_far.l3 a1 k y4 0).bind fun y13 => (slices_Clone_impl_Spot_impl_Spot.f a1).bind fun t20 => (impl_Pasture_far.l4 a0 k y13 t20 0).bind fun y23 => some y23
theorem impl_Pasture_far.c (k : Nat) (w : World) (a0 : Pasture) (Aa1 : Option Addr) (ca1 : Nat) (a1 : List Spot) (hr1 : Rd cSpot w Aa1 a1) (hc1 : a1.length ≤ ca1) (r : Arr 10 (Arr 10 Int)) (H : impl_Pasture_far.f k a0 a1 = some r) :
    CV Try.prog 145 [.agg (cPasture.enc a0).toArray, .slice Aa1 a1.length ca1].toArray w fun v w' => v = .agg ((carr 10 (carr 10 (ci .i16))).enc r).toArray ∧ Ext w w' := by
  have hS := ((St.init w no).param cSpot Aa1 ca1 a1 hr1 hc1)
  unfold impl_Pasture_far.f at H
  refine CV.body Try.func145 rfl Try.ntmps145 rfl ?_
  refine CJ.seq ?_
  refine CJ.region ?_
  refine OJ.ef rfl rfl rfl (Ef.box hS rfl rfl (cPasture.enc a0) rfl) ?_
  rintro _ w1 ⟨b1, rfl, hS⟩
  refine OJ.ef rfl rfl rfl (Ef.alloc hS tI_ok rfl rfl ((carr 10 (carr 10 (ci .i16))).enc (Arr.mk' (Arr.mk' 0 : Arr 10 Int) : Arr 10 (Arr 10 Int))) (by kernel_rfl)) ?_
  rintro _ w1 ⟨b2, rfl, hS⟩
  refine OJ.nil (EJ.next ?_)
  refine CJ.seq ?_
  refine CJ.region ?_
  refine OJ.st rfl rfl rfl (SR.buildA tU_ok tI_ok rfl rfl rfl rfl (zs := [.int .i16 0, .int .i16 0, .int .i16 0, .int .i16 0, .int .i16 0, .int .i16 0, .int .i16 0, .int .i16 0, .int .i16 0, .int .i16 0, .int .i16 0, .int .i16 0, .int .i16 0, .int .i16 0, .int .i16 0, .int .i16 0, .int .i16 0, .int .i16 0, .int .i16 0, .int .i16 0, .int .i16 0, .int .i16 0, .int .i16 0, .int .i16 0, .int .i16 0, .int .i16 0, .int .i16 0, .int .i16 0, .int .i16 0, .int .i16 0, .int .i16 0, .int .i16 0, .int .i16 0, .int .i16 0, .int .i16 0, .int .i16 0, .int .i16 0, .int .i16 0, .int .i16 0, .int .i16 0, .int .i16 0, .int .i16 0, .int .i16 0, .int .i16 0, .int .i16 0, .int .i16 0, .int .i16 0, .int .i16 0, .int .i16 0, .int .i16 0, .int .i16 0, .int .i16 0, .int .i16 0, .int .i16 0, .int .i16 0, .int .i16 0, .int .i16 0, .int .i16 0, .int .i16 0, .int .i16 0, .int .i16 0, .int .i16 0, .int .i16 0, .int .i16 0, .int .i16 0, .int .i16 0, .int .i16 0, .int .i16 0, .int .i16 0, .int .i16 0, .int .i16 0, .int .i16 0, .int .i16 0, .int .i16 0, .int .i16 0, .int .i16 0, .int .i16 0, .int .i16 0, .int .i16 0, .int .i16 0, .int .i16 0, .int .i16 0, .int .i16 0, .int .i16 0, .int .i16 0, .int .i16 0, .int .i16 0, .int .i16 0, .int .i16 0, .int .i16 0, .int .i16 0, .int .i16 0, .int .i16 0, .int .i16 0, .int .i16 0, .int .i16 0, .int .i16 0, .int .i16 0, .int .i16 0, .int .i16 0]) rfl rfl ((carr 10 (carr 10 (ci .i16))).enc (Arr.mk' (Arr.mk' 0 : Arr 10 Int) : Arr 10 (Arr 10 Int))) (by kernel_rfl)) ?_
  refine OJ.ef rfl rfl rfl (Ef.alloc hS tI_ok rfl rfl ((carr 10 (carr 10 (ci .i16))).enc (Arr.mk' (Arr.mk' 0 : Arr 10 Int) : Arr 10 (Arr 10 Int))) (by kernel_rfl)) ?_
  rintro _ w1 ⟨b3, rfl, hS⟩
  refine OJ.es rfl rfl (Es.put tI_ok hS (i := 2) rfl rfl rfl rfl rfl (vs := (carr 10 (carr 10 (ci .i16))).enc (Arr.mk' (Arr.mk' 0 : Arr 10 Int) : Arr 10 (Arr 10 Int))) rfl ((carr 10 (carr 10 (ci .i16))).len _) ((carr 10 (carr 10 (ci .i16))).one _) (Put.all (carr 10 (carr 10 (ci .i16))) (Arr.mk' (Arr.mk' 0 : Arr 10 Int) : Arr 10 (Arr 10 Int)) (Arr.mk' (Arr.mk' 0 : Arr 10 Int) : Arr 10 (Arr 10 Int))) (by (try simp only [add_lit, Nat.add_assoc, Nat.zero_add, Nat.add_zero]) <;> rfl)) ?_
  intro w1 hS
  refine OJ.nil (EJ.next ?_)
  refine CJ.seq ?_
  refine CJ.seq ?_
  refine CJ.region ?_
  refine OJ.pures tU_ok 1 rfl ?_
  refine OJ.nil (EJ.next ?_)
  obtain ⟨j185, H, K185⟩ := pbind H
  refine CJ.cut1 (fun F w1 => ∃ (y4 : Arr 10 (Arr 10 Int)) , (some y4 : Option (Arr 10 (Arr 10 Int))) = some j185 ∧ F = [(1, .slice Aa1 a1.length ca1), (2, .pointer (some ⟨b1, 0, none⟩)), (4, .pointer (some ⟨b2, 0, none⟩)), (5, .pointer (some ⟨b3, 0, none⟩))] ∧ St w no w1 [box b1 (cPasture.enc a0) 32, box b2 ((carr 10 (carr 10 (ci .i16))).enc (Arr.mk' (Arr.mk' 0 : Arr 10 Int) : Arr 10 (Arr 10 Int))) 181, box b3 ((carr 10 (carr 10 (ci .i16))).enc y4) 181] [roC cSpot Aa1 ca1 a1]) ?_ ?_
  · skip
    refine CJ.block ?_
    refine CJ.loop (fun k F w1 => ∃ (y5 : Arr 10 (Arr 10 Int)) (y6 : Int), F = [(1, .slice Aa1 a1.length ca1), (2, .pointer (some ⟨b1, 0, none⟩)), (4, .pointer (some ⟨b2, 0, none⟩)), (5, .pointer (some ⟨b3, 0, none⟩)), (15, .int .i64 y6)] ∧ St w no w1 [box b1 (cPasture.enc a0) 32, box b2 ((carr 10 (carr 10 (ci .i16))).enc (Arr.mk' (Arr.mk' 0 : Arr 10 Int) : Arr 10 (Arr 10 Int))) 181, box b3 ((carr 10 (carr 10 (ci .i16))).enc y5) 181] [roC cSpot Aa1 ca1 a1] ∧ impl_Pasture_far.l1 k y5 y6 = some j185) k (F' := [(1, .slice Aa1 a1.length ca1), (2, .pointer (some ⟨b1, 0, none⟩)), (4, .pointer (some ⟨b2, 0, none⟩)), (5, .pointer (some ⟨b3, 0, none⟩)), (15, .int .i64 0)]) ⟨rfl, rfl, rfl, rfl, rfl, trivial⟩ ⟨(Arr.mk' (Arr.mk' 0 : Arr 10 Int) : Arr 10 (Arr 10 Int)), 0, rfl, hS.pick [0, 1, 2] [0] rfl, H⟩ ?_
    rintro k F w1 ⟨y5, y6, rfl, hS, H⟩
    cases k with
    | zero => rw [impl_Pasture_far.l1] at H; cases H
    | succ k =>
      rw [impl_Pasture_far.l1] at H
      refine CJ.seq ?_
      refine CJ.region ?_
      refine OJ.pures tU_ok 1 rfl ?_
      refine OJ.nil (EJ.next ?_)
      refine CJ.seq ?_
      refine CJ.cond rfl (fun hb => ?_) (fun hb => ?_)
      · replace H := pif_t (of_decide_eq_true hb) H
        refine CJ.skip (EJ.next ?_)
        obtain ⟨j192, H, K192⟩ := pbind H
        refine CJ.cut (fun F w1 => ∃ (y7 : Arr 10 (Arr 10 Int)) , (some y7 : Option (Arr 10 (Arr 10 Int))) = some j192 ∧ F = [(1, .slice Aa1 a1.length ca1), (2, .pointer (some ⟨b1, 0, none⟩)), (4, .pointer (some ⟨b2, 0, none⟩)), (5, .pointer (some ⟨b3, 0, none⟩)), (15, .int .i64 y6)] ∧ St w no w1 [box b1 (cPasture.enc a0) 32, box b2 ((carr 10 (carr 10 (ci .i16))).enc (Arr.mk' (Arr.mk' 0 : Arr 10 Int) : Arr 10 (Arr 10 Int))) 181, box b3 ((carr 10 (carr 10 (ci .i16))).enc y7) 181] [roC cSpot Aa1 ca1 a1]) ?_ ?_
        · skip
          refine CJ.block ?_
          refine CJ.seq ?_
          refine CJ.region ?_
          refine OJ.pures tU_ok 2 rfl ?_
          refine OJ.nil (EJ.next ?_)
          refine CJ.seq ?_
          refine CJ.region ?_
          refine OJ.pures tU_ok 1 rfl ?_
          refine OJ.nil (EJ.next ?_)
          obtain ⟨j194, H, K194⟩ := pbind H
          refine CJ.cut1 (fun F w1 => ∃ (y8 : Arr 10 (Arr 10 Int)) , (some y8 : Option (Arr 10 (Arr 10 Int))) = some j194 ∧ F = [(1, .slice Aa1 a1.length ca1), (2, .pointer (some ⟨b1, 0, none⟩)), (4, .pointer (some ⟨b2, 0, none⟩)), (5, .pointer (some ⟨b3, 0, none⟩)), (15, .int .i64 y6)] ∧ St w no w1 [box b1 (cPasture.enc a0) 32, box b2 ((carr 10 (carr 10 (ci .i16))).enc (Arr.mk' (Arr.mk' 0 : Arr 10 Int) : Arr 10 (Arr 10 Int))) 181, box b3 ((carr 10 (carr 10 (ci .i16))).enc y8) 181] [roC cSpot Aa1 ca1 a1]) ?_ ?_
          · skip
            refine CJ.block ?_
            refine CJ.loop (fun k F w1 => ∃ (y9 : Arr 10 (Arr 10 Int)) (y10 : Int), F = [(1, .slice Aa1 a1.length ca1), (2, .pointer (some ⟨b1, 0, none⟩)), (4, .pointer (some ⟨b2, 0, none⟩)), (5, .pointer (some ⟨b3, 0, none⟩)), (6, .int .i64 y6), (15, .int .i64 y6), (18, .int .i64 y10)] ∧ St w no w1 [box b1 (cPasture.enc a0) 32, box b2 ((carr 10 (carr 10 (ci .i16))).enc (Arr.mk' (Arr.mk' 0 : Arr 10 Int) : Arr 10 (Arr 10 Int))) 181, box b3 ((carr 10 (carr 10 (ci .i16))).enc y9) 181] [roC cSpot Aa1 ca1 a1] ∧ impl_Pasture_far.l2 y6 k y9 y10 = some j194) k (F' := [(1, .slice Aa1 a1.length ca1), (2, .pointer (some ⟨b1, 0, none⟩)), (4, .pointer (some ⟨b2, 0, none⟩)), (5, .pointer (some ⟨b3, 0, none⟩)), (6, .int .i64 y6), (15, .int .i64 y6), (18, .int .i64 0)]) ⟨rfl, rfl, rfl, rfl, rfl, rfl, rfl, trivial⟩ ⟨y5, 0, rfl, hS.pick [0, 1, 2] [0] rfl, H⟩ ?_
            rintro k F w1 ⟨y9, y10, rfl, hS, H⟩
            cases k with
            | zero => rw [impl_Pasture_far.l2] at H; cases H
            | succ k =>
              rw [impl_Pasture_far.l2] at H
              refine CJ.seq ?_
              refine CJ.region ?_
              refine OJ.pures tU_ok 1 rfl ?_
              refine OJ.nil (EJ.next ?_)
              refine CJ.seq ?_
              refine CJ.cond rfl (fun hb => ?_) (fun hb => ?_)
              · replace H := pif_t (of_decide_eq_true hb) H
                refine CJ.skip (EJ.next ?_)
                refine CJ.seq ?_
                refine CJ.block ?_
                refine CJ.seq ?_
                refine CJ.region ?_
                refine OJ.pures tU_ok 2 rfl ?_
                refine OJ.nil (EJ.next ?_)
                refine CJ.region ?_
                refine OJ.pures tU_ok 2 rfl ?_
                obtain ⟨t11, ht11, H⟩ := pbind H
                refine OJ.st rfl rfl rfl (SR.idxA tU_ok tI_ok rfl rfl rfl rfl rfl (Arr.lt ht11)) ?_
                obtain ⟨t12, ht12, H⟩ := pbind H
                refine OJ.st rfl rfl rfl (SR.idxA tU_ok tI_ok rfl rfl rfl rfl rfl (Arr.lt ht12)) ?_
                refine OJ.es rfl rfl (Es.put tI_ok hS (i := 2) rfl rfl rfl rfl rfl (vs := (ci .i16).enc (-1)) rfl rfl (one1 rfl) (Put.idx (Put.idx (Put.all (ci .i16) t12 (-1)) ht12) ht11) (by (try simp only [add_lit, Nat.add_assoc, Nat.zero_add, Nat.add_zero]) <;> rfl)) ?_
                intro w1 hS
                refine OJ.nil (EJ.blk (EJ.next ?_))
                refine CJ.region ?_
                refine OJ.pures tU_ok 2 rfl ?_
                refine OJ.nil ?_
                exact EJ.round k (F' := [(1, .slice Aa1 a1.length ca1), (2, .pointer (some ⟨b1, 0, none⟩)), (4, .pointer (some ⟨b2, 0, none⟩)), (5, .pointer (some ⟨b3, 0, none⟩)), (6, .int .i64 y6), (15, .int .i64 y6), (18, .int .i64 (IntKind.i64.wrap (y10 + 1)))]) ⟨rfl, rfl, rfl, rfl, rfl, rfl, rfl, trivial⟩ (Nat.lt_succ_self _) ⟨(aset y9 y6.toNat (aset t11 y10.toNat (-1))), (IntKind.i64.wrap (y10 + 1)), rfl, hS.pick [0, 1, 2] [0] rfl, H⟩
              · replace H := pif_f (of_decide_eq_false hb) H
                refine CJ.exit (EJ.skE (EJ.skE (EJ.hit (?_))))
                exact EJ.meet (F' := [(1, .slice Aa1 a1.length ca1), (2, .pointer (some ⟨b1, 0, none⟩)), (4, .pointer (some ⟨b2, 0, none⟩)), (5, .pointer (some ⟨b3, 0, none⟩)), (15, .int .i64 y6)]) ⟨rfl, rfl, rfl, rfl, rfl, trivial⟩ ⟨y9, H, rfl, hS.pick [0, 1, 2] [0] rfl⟩
          · rintro F w1 ⟨y8, he, rfl, hS⟩
            obtain rfl := Option.some.inj he
            have H := K194
            refine EJ.blk (?_)
            exact EJ.meet (F' := [(1, .slice Aa1 a1.length ca1), (2, .pointer (some ⟨b1, 0, none⟩)), (4, .pointer (some ⟨b2, 0, none⟩)), (5, .pointer (some ⟨b3, 0, none⟩)), (15, .int .i64 y6)]) ⟨rfl, rfl, rfl, rfl, rfl, trivial⟩ ⟨y8, H, rfl, hS.pick [0, 1, 2] [0] rfl⟩
        · rintro F w1 ⟨y7, he, rfl, hS⟩
          obtain rfl := Option.some.inj he
          have H := K192
          refine CJ.region ?_
          refine OJ.pures tU_ok 2 rfl ?_
          refine OJ.nil ?_
          exact EJ.round k (F' := [(1, .slice Aa1 a1.length ca1), (2, .pointer (some ⟨b1, 0, none⟩)), (4, .pointer (some ⟨b2, 0, none⟩)), (5, .pointer (some ⟨b3, 0, none⟩)), (15, .int .i64 (IntKind.i64.wrap (y6 + 1)))]) ⟨rfl, rfl, rfl, rfl, rfl, trivial⟩ (Nat.lt_succ_self _) ⟨y7, (IntKind.i64.wrap (y6 + 1)), rfl, hS.pick [0, 1, 2] [0] rfl, H⟩
      · replace H := pif_f (of_decide_eq_false hb) H
        refine CJ.exit (EJ.skE (EJ.skE (EJ.hit (?_))))
        exact EJ.meet (F' := [(1, .slice Aa1 a1.length ca1), (2, .pointer (some ⟨b1, 0, none⟩)), (4, .pointer (some ⟨b2, 0, none⟩)), (5, .pointer (some ⟨b3, 0, none⟩))]) ⟨rfl, rfl, rfl, rfl, trivial⟩ ⟨y5, H, rfl, hS.pick [0, 1, 2] [0] rfl⟩
  · rintro F w1 ⟨y4, he, rfl, hS⟩
    obtain rfl := Option.some.inj he
    have H := K185
    refine EJ.next ?_
    refine CJ.seq ?_
    refine CJ.seq ?_
    refine CJ.region ?_
    refine OJ.pures tU_ok 3 rfl ?_
    refine OJ.nil (EJ.next ?_)
    obtain ⟨j195, H, K195⟩ := pbind H
    refine CJ.cut1 (fun F w1 => ∃ (y13 : Arr 10 (Arr 10 Int)) , (some y13 : Option (Arr 10 (Arr 10 Int))) = some j195 ∧ F = [(1, .slice Aa1 a1.length ca1), (2, .pointer (some ⟨b1, 0, none⟩)), (4, .pointer (some ⟨b2, 0, none⟩)), (5, .pointer (some ⟨b3, 0, none⟩))] ∧ St w no w1 [box b1 (cPasture.enc a0) 32, box b2 ((carr 10 (carr 10 (ci .i16))).enc (Arr.mk' (Arr.mk' 0 : Arr 10 Int) : Arr 10 (Arr 10 Int))) 181, box b3 ((carr 10 (carr 10 (ci .i16))).enc y13) 181] [roC cSpot Aa1 ca1 a1]) ?_ ?_
    · skip
      refine CJ.block ?_
      refine CJ.loop (fun k F w1 => ∃ (y14 : Arr 10 (Arr 10 Int)) (y15 : Int), F = [(1, .slice Aa1 a1.length ca1), (2, .pointer (some ⟨b1, 0, none⟩)), (4, .pointer (some ⟨b2, 0, none⟩)), (5, .pointer (some ⟨b3, 0, none⟩)), (27, .slice Aa1 a1.length ca1), (28, .int .i64 (a1.length : Int)), (29, .int .i64 y15)] ∧ St w no w1 [box b1 (cPasture.enc a0) 32, box b2 ((carr 10 (carr 10 (ci .i16))).enc (Arr.mk' (Arr.mk' 0 : Arr 10 Int) : Arr 10 (Arr 10 Int))) 181, box b3 ((carr 10 (carr 10 (ci .i16))).enc y14) 181] [roC cSpot Aa1 ca1 a1] ∧ impl_Pasture_far.l3 a1 k y14 y15 = some j195) k (F' := [(1, .slice Aa1 a1.length ca1), (2, .pointer (some ⟨b1, 0, none⟩)), (4, .pointer (some ⟨b2, 0, none⟩)), (5, .pointer (some ⟨b3, 0, none⟩)), (27, .slice Aa1 a1.length ca1), (28, .int .i64 (a1.length : Int)), (29, .int .i64 0)]) ⟨rfl, rfl, rfl, rfl, rfl, rfl, rfl, trivial⟩ ⟨y4, 0, rfl, hS.pick [0, 1, 2] [0] rfl, H⟩ ?_
      rintro k F w1 ⟨y14, y15, rfl, hS, H⟩
      cases k with
      | zero => rw [impl_Pasture_far.l3] at H; cases H
      | succ k =>
        rw [impl_Pasture_far.l3] at H
        refine CJ.seq ?_
        refine CJ.region ?_
        refine OJ.pures tU_ok 1 rfl ?_
        refine OJ.nil (EJ.next ?_)
        refine CJ.seq ?_
        refine CJ.cond rfl (fun hb => ?_) (fun hb => ?_)
        · replace H := pif_t (of_decide_eq_true hb) H
          refine CJ.skip (EJ.next ?_)
          refine CJ.seq ?_
          refine CJ.block ?_
          refine CJ.seq ?_
          refine CJ.region ?_
          obtain ⟨t16, ht16, H⟩ := pbind H
          obtain ⟨ad16, e16⟩ := (hS.rd' (i := 0) rfl).some' ht16
          refine OJ.st rfl rfl rfl (SR.idxS tU_ok tI_ok rfl rfl rfl rfl e16 rfl (getI_some ht16).1) ?_
          refine OJ.st rfl rfl rfl (SR.load rfl rfl (fun w' hx => ldE tU_ok tI_ok rfl rfl rfl (CA.ext ((hS.rd' (i := 0) rfl).at_ e16 ht16) hx) rfl)) ?_
          refine OJ.ef rfl rfl rfl (Ef.alloc hS tI_ok rfl rfl (cSpot.enc (⟨0, 0⟩ : Spot)) rfl) ?_
          rintro _ w1 ⟨b17, rfl, hS⟩
          refine OJ.es rfl rfl (Es.store tI_ok hS (i := 3) rfl rfl rfl rfl rfl rfl (vs := cSpot.enc t16) rfl (cSpot.len _) (cSpot.one _) (Nat.le_of_ble_eq_true rfl) (cSpot.enc t16) rfl) ?_
          intro w1 hS
          refine OJ.nil (EJ.next ?_)
          refine CJ.draw [] [0, 1, 2, 3, 4, 5, 6] mixed (by kernel_rfl) hS fun w1 hS => ?_
          refine DJ.st rfl rfl rfl rfl rfl (SR.fieldAddr tU_ok tI_ok rfl rfl rfl rfl rfl rfl) ?_
          refine DJ.st rfl rfl rfl rfl rfl (SR.load rfl rfl (fun w' hx => ld1 tU_ok rfl rfl (CA.ext (CA.sub (hS.cells (i := 3) rfl) 1) hx) rfl)) ?_
          refine DJ.st rfl rfl rfl rfl rfl (SR.fieldAddr tU_ok tI_ok rfl rfl rfl rfl rfl rfl) ?_
          refine DJ.st rfl rfl rfl rfl rfl (SR.load rfl rfl (fun w' hx => ld1 tU_ok rfl rfl (CA.ext (CA.sub (hS.cells (i := 3) rfl) 0) hx) rfl)) ?_
          obtain ⟨t18, ht18, H⟩ := pbind H
          refine DJ.st rfl rfl rfl rfl rfl (SR.idxA tU_ok tI_ok rfl rfl rfl rfl rfl (Arr.lt ht18)) ?_
          obtain ⟨t19, ht19, H⟩ := pbind H
          refine DJ.st rfl rfl rfl rfl rfl (SR.idxA tU_ok tI_ok rfl rfl rfl rfl rfl (Arr.lt ht19)) ?_
          refine DJ.es rfl rfl rfl rfl (Es.put tI_ok hS (i := 2) rfl rfl rfl rfl rfl (vs := (ci .i16).enc 0) rfl rfl (one1 rfl) (Put.idx (Put.idx (Put.all (ci .i16) t19 0) ht19) ht18) (by (try simp only [add_lit, Nat.add_assoc, Nat.zero_add, Nat.add_zero]) <;> rfl)) ?_
          intro w1 hS
          refine DJ.nil (EJ.blk (EJ.next ?_))
          refine CJ.region ?_
          refine OJ.pures tU_ok 2 rfl ?_
          refine OJ.nil ?_
          exact EJ.round k (F' := [(1, .slice Aa1 a1.length ca1), (2, .pointer (some ⟨b1, 0, none⟩)), (4, .pointer (some ⟨b2, 0, none⟩)), (5, .pointer (some ⟨b3, 0, none⟩)), (27, .slice Aa1 a1.length ca1), (28, .int .i64 (a1.length : Int)), (29, .int .i64 (IntKind.i64.wrap (y15 + 1)))]) ⟨rfl, rfl, rfl, rfl, rfl, rfl, rfl, trivial⟩ (Nat.lt_succ_self _) ⟨(aset y14 t16.Y.toNat (aset t18 t16.X.toNat 0)), (IntKind.i64.wrap (y15 + 1)), rfl, hS.pick [0, 1, 2] [0] rfl, H⟩
        · replace H := pif_f (of_decide_eq_false hb) H
          refine CJ.exit (EJ.skE (EJ.skE (EJ.hit (?_))))
          exact EJ.meet (F' := [(1, .slice Aa1 a1.length ca1), (2, .pointer (some ⟨b1, 0, none⟩)), (4, .pointer (some ⟨b2, 0, none⟩)), (5, .pointer (some ⟨b3, 0, none⟩))]) ⟨rfl, rfl, rfl, rfl, trivial⟩ ⟨y14, H, rfl, hS.pick [0, 1, 2] [0] rfl⟩
    · rintro F w1 ⟨y13, he, rfl, hS⟩
      obtain rfl := Option.some.inj he
      have H := K195
      refine EJ.next ?_
      refine CJ.seq ?_
      refine CJ.region ?_
      refine OJ.pures tU_ok 1 rfl ?_
      obtain ⟨t20, ht20, H⟩ := pbind H
      refine OJ.callF rfl rfl rfl rfl rfl hb152 rfl (slices_Clone_impl_Spot_impl_Spot.c _ Aa1 ca1 a1 (hS.rd' (i := 0) rfl) (hS.le' (i := 0) rfl) _ ht20) ?_
      rintro _ w1 ⟨A21, c22, rfl, hs⟩
      replace hS := hS.addN hs
      refine OJ.pures tU_ok 1 rfl ?_
      refine OJ.nil (EJ.next ?_)
      refine CJ.seq ?_
      refine CJ.seq ?_
      refine CJ.region ?_
      refine OJ.pures tU_ok 1 rfl ?_
      refine OJ.nil (EJ.next ?_)
      obtain ⟨j196, H, K196⟩ := pbind H
      refine CJ.cut1 (fun F w1 => ∃ (y23 : Arr 10 (Arr 10 Int)) , (some y23 : Option (Arr 10 (Arr 10 Int))) = some j196 ∧ F = [(4, .pointer (some ⟨b2, 0, none⟩)), (5, .pointer (some ⟨b3, 0, none⟩))] ∧ St w no w1 [box b2 ((carr 10 (carr 10 (ci .i16))).enc (Arr.mk' (Arr.mk' 0 : Arr 10 Int) : Arr 10 (Arr 10 Int))) 181, box b3 ((carr 10 (carr 10 (ci .i16))).enc y23) 181] [roC cSpot Aa1 ca1 a1]) ?_ ?_
      · skip
        refine CJ.block ?_
        refine CJ.loop (fun k F w1 => ∃ (y24 : Arr 10 (Arr 10 Int)) (y25 : List Spot) (y28 : Int) (A26 : Option Addr) (c27 : Nat), F = [(1, .slice A26 y25.length c27), (2, .pointer (some ⟨b1, 0, none⟩)), (4, .pointer (some ⟨b2, 0, none⟩)), (5, .pointer (some ⟨b3, 0, none⟩)), (10, .int .i64 y28)] ∧ St w no w1 [box b1 (cPasture.enc a0) 32, box b2 ((carr 10 (carr 10 (ci .i16))).enc (Arr.mk' (Arr.mk' 0 : Arr 10 Int) : Arr 10 (Arr 10 Int))) 181, box b3 ((carr 10 (carr 10 (ci .i16))).enc y24) 181, rowC cSpot A26 c27 105 y25] [roC cSpot Aa1 ca1 a1] ∧ impl_Pasture_far.l4 a0 k y24 y25 y28 = some j196) k (F' := [(1, .slice A21 t20.length c22), (2, .pointer (some ⟨b1, 0, none⟩)), (4, .pointer (some ⟨b2, 0, none⟩)), (5, .pointer (some ⟨b3, 0, none⟩)), (10, .int .i64 0)]) ⟨rfl, rfl, rfl, rfl, rfl, trivial⟩ ⟨y13, t20, 0, A21, c22, rfl, hS.pick [0, 1, 2, 3] [0] rfl, H⟩ ?_
        rintro k F w1 ⟨y24, y25, y28, A26, c27, rfl, hS, H⟩
        cases k with
        | zero => rw [impl_Pasture_far.l4] at H; cases H
        | succ k =>
          rw [impl_Pasture_far.l4] at H
          refine CJ.seq ?_
          refine CJ.seq ?_
          refine CJ.region ?_
          refine OJ.pures tU_ok 4 rfl ?_
          refine OJ.nil (EJ.next ?_)
          refine CJ.cond rfl (fun hb => ?_) (fun hb => ?_)
          · replace H := pif_t (of_decide_eq_true hb) H
            refine CJ.skip (EJ.next ?_)
            obtain ⟨j216, H, K216⟩ := pbind H
            refine CJ.cut (fun F w1 => ∃ (y29 : Arr 10 (Arr 10 Int)) (y30 : List Spot) (A31 : Option Addr) (c32 : Nat), (some (y29, y30) : Option ((Arr 10 (Arr 10 Int)) × (List Spot))) = some j216 ∧ F = [(1, .slice A31 y30.length c32), (2, .pointer (some ⟨b1, 0, none⟩)), (4, .pointer (some ⟨b2, 0, none⟩)), (5, .pointer (some ⟨b3, 0, none⟩)), (10, .int .i64 y28)] ∧ St w no w1 [box b1 (cPasture.enc a0) 32, box b2 ((carr 10 (carr 10 (ci .i16))).enc (Arr.mk' (Arr.mk' 0 : Arr 10 Int) : Arr 10 (Arr 10 Int))) 181, box b3 ((carr 10 (carr 10 (ci .i16))).enc y29) 181, rowC cSpot A31 c32 105 y30] [roC cSpot Aa1 ca1 a1]) ?_ ?_
            · skip
              refine CJ.block ?_
              refine CJ.seq ?_
              refine CJ.region ?_
              refine OJ.pures tU_ok 2 rfl ?_
              obtain ⟨t33, ht33, H⟩ := pbind H
              obtain ⟨ad33, e33⟩ := (hS.rd (i := 3) rfl).some' ht33
              refine OJ.st rfl rfl rfl (SR.idxS tU_ok tI_ok rfl rfl rfl rfl e33 rfl (getI_some ht33).1) ?_
              refine OJ.st rfl rfl rfl (SR.load rfl rfl (fun w' hx => ldE tU_ok tI_ok rfl rfl rfl (CA.ext ((hS.rd (i := 3) rfl).at_ e33 ht33) hx) rfl)) ?_
              refine OJ.ef rfl rfl rfl (Ef.alloc hS tI_ok rfl rfl (cSpot.enc (⟨0, 0⟩ : Spot)) rfl) ?_
              rintro _ w1 ⟨b34, rfl, hS⟩
              refine OJ.es rfl rfl (Es.store tI_ok hS (i := 4) rfl rfl rfl rfl rfl rfl (vs := cSpot.enc t33) rfl (cSpot.len _) (cSpot.one _) (Nat.le_of_ble_eq_true rfl) (cSpot.enc t33) rfl) ?_
              intro w1 hS
              refine OJ.nil (EJ.next ?_)
              refine CJ.seq ?_
              refine CJ.region ?_
              refine OJ.pures tU_ok 1 rfl ?_
              refine OJ.nil (EJ.next ?_)
              obtain ⟨j221, H, K221⟩ := pbind H
              refine CJ.cut1 (fun F w1 => ∃ (y35 : Arr 10 (Arr 10 Int)) (y36 : List Spot) (A37 : Option Addr) (c38 : Nat), (some (y35, y36) : Option ((Arr 10 (Arr 10 Int)) × (List Spot))) = some j221 ∧ F = [(1, .slice A37 y36.length c38), (2, .pointer (some ⟨b1, 0, none⟩)), (4, .pointer (some ⟨b2, 0, none⟩)), (5, .pointer (some ⟨b3, 0, none⟩)), (10, .int .i64 y28)] ∧ St w no w1 [box b1 (cPasture.enc a0) 32, box b2 ((carr 10 (carr 10 (ci .i16))).enc (Arr.mk' (Arr.mk' 0 : Arr 10 Int) : Arr 10 (Arr 10 Int))) 181, box b3 ((carr 10 (carr 10 (ci .i16))).enc y35) 181, rowC cSpot A37 c38 105 y36] [roC cSpot Aa1 ca1 a1]) ?_ ?_
              · skip
                refine CJ.block ?_
                refine CJ.loop (fun k F w1 => ∃ (y39 : Arr 10 (Arr 10 Int)) (y40 : List Spot) (y43 : Int) (A41 : Option Addr) (c42 : Nat), F = [(1, .slice A41 y40.length c42), (2, .pointer (some ⟨b1, 0, none⟩)), (4, .pointer (some ⟨b2, 0, none⟩)), (5, .pointer (some ⟨b3, 0, none⟩)), (10, .int .i64 y28), (11, .pointer (some ⟨b34, 0, none⟩)), (52, .int .i64 y43)] ∧ St w no w1 [box b1 (cPasture.enc a0) 32, box b2 ((carr 10 (carr 10 (ci .i16))).enc (Arr.mk' (Arr.mk' 0 : Arr 10 Int) : Arr 10 (Arr 10 Int))) 181, box b3 ((carr 10 (carr 10 (ci .i16))).enc y39) 181, rowC cSpot A41 c42 105 y40, box b34 (cSpot.enc t33) 105] [roC cSpot Aa1 ca1 a1] ∧ impl_Pasture_far.l5 a0 t33 k y39 y40 y43 = some j221) k (F' := [(1, .slice A26 y25.length c27), (2, .pointer (some ⟨b1, 0, none⟩)), (4, .pointer (some ⟨b2, 0, none⟩)), (5, .pointer (some ⟨b3, 0, none⟩)), (10, .int .i64 y28), (11, .pointer (some ⟨b34, 0, none⟩)), (52, .int .i64 0)]) ⟨rfl, rfl, rfl, rfl, rfl, rfl, rfl, trivial⟩ ⟨y24, y25, 0, A26, c27, rfl, hS.pick [0, 1, 2, 3, 4] [0] rfl, H⟩ ?_
                rintro k F w1 ⟨y39, y40, y43, A41, c42, rfl, hS, H⟩
                cases k with
                | zero => rw [impl_Pasture_far.l5] at H; cases H
                | succ k =>
                  rw [impl_Pasture_far.l5] at H
                  refine CJ.seq ?_
                  refine CJ.region ?_
                  refine OJ.pures tU_ok 1 rfl ?_
                  refine OJ.nil (EJ.next ?_)
                  refine CJ.seq ?_
                  refine CJ.cond rfl (fun hb => ?_) (fun hb => ?_)
                  · replace H := pif_t (of_decide_eq_true hb) H
                    refine CJ.skip (EJ.next ?_)
                    refine CJ.seq ?_
                    refine CJ.block ?_
                    refine CJ.seq ?_
                    refine CJ.region ?_
                    refine OJ.pures tU_ok 2 rfl ?_
                    refine OJ.nil (EJ.next ?_)
                    refine CJ.seq ?_
                    refine CJ.region ?_
                    refine OJ.st rfl rfl rfl (SR.load rfl rfl (fun w' hx => ldE tU_ok tI_ok rfl rfl rfl (CA.ext (hS.cells (i := 4) rfl) hx) rfl)) ?_
                    refine OJ.pures tU_ok 1 rfl ?_
                    obtain ⟨t44, ht44, H⟩ := pbind H
                    refine OJ.callF rfl rfl rfl rfl rfl hb170 rfl (impl_Spot_ahead.c _ t33 y43 _ ht44) ?_
                    rintro _ w1 ⟨rfl, hs⟩
                    replace hS := hS.grow hs
                    refine OJ.ef rfl rfl rfl (Ef.alloc hS tI_ok rfl rfl (cSpot.enc (⟨0, 0⟩ : Spot)) rfl) ?_
                    rintro _ w1 ⟨b45, rfl, hS⟩
                    refine OJ.es rfl rfl (Es.store tI_ok hS (i := 5) rfl rfl rfl rfl rfl rfl (vs := cSpot.enc t44) rfl (cSpot.len _) (cSpot.one _) (Nat.le_of_ble_eq_true rfl) (cSpot.enc t44) rfl) ?_
                    intro w1 hS
                    refine OJ.nil (EJ.next ?_)
                    obtain ⟨j224, H, K224⟩ := pbind H
                    refine CJ.cut (fun F w1 => ∃ (y46 : Bool) , (some y46 : Option Bool) = some j224 ∧ F = [(1, .slice A41 y40.length c42), (2, .pointer (some ⟨b1, 0, none⟩)), (4, .pointer (some ⟨b2, 0, none⟩)), (5, .pointer (some ⟨b3, 0, none⟩)), (10, .int .i64 y28), (11, .pointer (some ⟨b34, 0, none⟩)), (13, .pointer (some ⟨b45, 0, none⟩)), (52, .int .i64 y43), (71, .bool y46)] ∧ St w no w1 [box b1 (cPasture.enc a0) 32, box b2 ((carr 10 (carr 10 (ci .i16))).enc (Arr.mk' (Arr.mk' 0 : Arr 10 Int) : Arr 10 (Arr 10 Int))) 181, box b3 ((carr 10 (carr 10 (ci .i16))).enc y39) 181, rowC cSpot A41 c42 105 y40, box b34 (cSpot.enc t33) 105, box b45 (cSpot.enc t44) 105] [roC cSpot Aa1 ca1 a1]) ?_ ?_
                    · skip
                      refine CJ.draw [] [0, 1, 2, 3, 4, 5, 6, 7, 8, 9, 10, 11, 12, 13] mixed (by kernel_rfl) hS fun w1 hS => ?_
                      refine DJ.st rfl rfl rfl rfl rfl (SR.load rfl rfl (fun w' hx => ldE tU_ok tI_ok rfl rfl rfl (CA.ext (hS.cells (i := 0) rfl) hx) rfl)) ?_
                      refine DJ.st rfl rfl rfl rfl rfl (SR.load rfl rfl (fun w' hx => ldE tU_ok tI_ok rfl rfl rfl (CA.ext (hS.cells (i := 4) rfl) hx) rfl)) ?_
                      refine DJ.pures tU_ok 1 rfl ?_
                      obtain ⟨t47, ht47, H⟩ := pbind H
                      refine DJ.callF rfl rfl rfl rfl rfl rfl rfl hb171 rfl (impl_Pasture_canGo.c _ a0 t33 y43 _ ht47) (by rintro v w' ⟨rfl, hs⟩; exact hs) ?_
                      rintro _ w1 ⟨rfl, hs⟩
                      replace hS := hS.grow hs
                      refine DJ.pures tU_ok 1 rfl ?_
                      refine DJ.split (t := 62) rfl (fun hb => ?_) (fun hb => ?_)
                      · replace H := pif_t hb H
                        refine DJ.st rfl rfl rfl rfl rfl (SR.fieldAddr tU_ok tI_ok rfl rfl rfl rfl rfl rfl) ?_
                        refine DJ.st rfl rfl rfl rfl rfl (SR.load rfl rfl (fun w' hx => ld1 tU_ok rfl rfl (CA.ext (CA.sub (hS.cells (i := 5) rfl) 1) hx) rfl)) ?_
                        refine DJ.st rfl rfl rfl rfl rfl (SR.fieldAddr tU_ok tI_ok rfl rfl rfl rfl rfl rfl) ?_
                        refine DJ.st rfl rfl rfl rfl rfl (SR.load rfl rfl (fun w' hx => ld1 tU_ok rfl rfl (CA.ext (CA.sub (hS.cells (i := 5) rfl) 0) hx) rfl)) ?_
                        obtain ⟨t48, ht48, H⟩ := pbind H
                        refine DJ.st rfl rfl rfl rfl rfl (SR.idxA tU_ok tI_ok rfl rfl rfl rfl rfl (Arr.lt ht48)) ?_
                        obtain ⟨t49, ht49, H⟩ := pbind H
                        refine DJ.st rfl rfl rfl rfl rfl (SR.idxA tU_ok tI_ok rfl rfl rfl rfl rfl (Arr.lt ht49)) ?_
                        refine DJ.st rfl rfl rfl rfl rfl (SR.load rfl rfl (fun w' hx => ld1 tU_ok rfl rfl (CA.ext (CA.idx (CA.idx (hS.cells (i := 2) rfl) ht48) ht49) hx) rfl)) ?_
                        refine DJ.pures tU_ok 2 rfl ?_
                        refine DJ.nil ?_
                        exact EJ.meet (F' := [(1, .slice A41 y40.length c42), (2, .pointer (some ⟨b1, 0, none⟩)), (4, .pointer (some ⟨b2, 0, none⟩)), (5, .pointer (some ⟨b3, 0, none⟩)), (10, .int .i64 y28), (11, .pointer (some ⟨b34, 0, none⟩)), (13, .pointer (some ⟨b45, 0, none⟩)), (52, .int .i64 y43), (71, .bool (decide (t49 < 0)))]) ⟨rfl, rfl, rfl, rfl, rfl, rfl, rfl, rfl, rfl, trivial⟩ ⟨(decide (t49 < 0)), H, rfl, hS.pick [0, 1, 2, 3, 4, 5] [0] rfl⟩
                      · replace H := pifb_f hb H
                        refine DJ.pures tU_ok 9 rfl ?_
                        refine DJ.nil ?_
                        exact EJ.meet (F' := [(1, .slice A41 y40.length c42), (2, .pointer (some ⟨b1, 0, none⟩)), (4, .pointer (some ⟨b2, 0, none⟩)), (5, .pointer (some ⟨b3, 0, none⟩)), (10, .int .i64 y28), (11, .pointer (some ⟨b34, 0, none⟩)), (13, .pointer (some ⟨b45, 0, none⟩)), (52, .int .i64 y43), (71, .bool false)]) ⟨rfl, rfl, rfl, rfl, rfl, rfl, rfl, rfl, rfl, trivial⟩ ⟨false, H, rfl, hS.pick [0, 1, 2, 3, 4, 5] [0] rfl⟩
                    · rintro F w1 ⟨y46, he, rfl, hS⟩
                      obtain rfl := Option.some.inj he
                      have H := K224
                      refine CJ.cond rfl (fun hb => ?_) (fun hb => ?_)
                      · replace H := pif_t hb H
                        refine CJ.seq ?_
                        refine CJ.draw [] [0, 1, 2, 3, 4, 5, 6, 7, 8, 9, 10, 11, 12, 13, 14] mixed (by kernel_rfl) hS fun w1 hS => ?_
                        refine DJ.st rfl rfl rfl rfl rfl (SR.fieldAddr tU_ok tI_ok rfl rfl rfl rfl rfl rfl) ?_
                        refine DJ.st rfl rfl rfl rfl rfl (SR.load rfl rfl (fun w' hx => ld1 tU_ok rfl rfl (CA.ext (CA.sub (hS.cells (i := 5) rfl) 1) hx) rfl)) ?_
                        refine DJ.st rfl rfl rfl rfl rfl (SR.fieldAddr tU_ok tI_ok rfl rfl rfl rfl rfl rfl) ?_
                        refine DJ.st rfl rfl rfl rfl rfl (SR.load rfl rfl (fun w' hx => ld1 tU_ok rfl rfl (CA.ext (CA.sub (hS.cells (i := 5) rfl) 0) hx) rfl)) ?_
                        refine DJ.st rfl rfl rfl rfl rfl (SR.fieldAddr tU_ok tI_ok rfl rfl rfl rfl rfl rfl) ?_
                        refine DJ.st rfl rfl rfl rfl rfl (SR.load rfl rfl (fun w' hx => ld1 tU_ok rfl rfl (CA.ext (CA.sub (hS.cells (i := 4) rfl) 1) hx) rfl)) ?_
                        refine DJ.st rfl rfl rfl rfl rfl (SR.fieldAddr tU_ok tI_ok rfl rfl rfl rfl rfl rfl) ?_
                        refine DJ.st rfl rfl rfl rfl rfl (SR.load rfl rfl (fun w' hx => ld1 tU_ok rfl rfl (CA.ext (CA.sub (hS.cells (i := 4) rfl) 0) hx) rfl)) ?_
                        obtain ⟨t50, ht50, H⟩ := pbind H
                        refine DJ.st rfl rfl rfl rfl rfl (SR.idxA tU_ok tI_ok rfl rfl rfl rfl rfl (Arr.lt ht50)) ?_
                        obtain ⟨t51, ht51, H⟩ := pbind H
                        refine DJ.st rfl rfl rfl rfl rfl (SR.idxA tU_ok tI_ok rfl rfl rfl rfl rfl (Arr.lt ht51)) ?_
                        refine DJ.st rfl rfl rfl rfl rfl (SR.load rfl rfl (fun w' hx => ld1 tU_ok rfl rfl (CA.ext (CA.idx (CA.idx (hS.cells (i := 2) rfl) ht50) ht51) hx) rfl)) ?_
                        refine DJ.pures tU_ok 1 rfl ?_
                        obtain ⟨t52, ht52, H⟩ := pbind H
                        refine DJ.st rfl rfl rfl rfl rfl (SR.idxA tU_ok tI_ok rfl rfl rfl rfl rfl (Arr.lt ht52)) ?_
                        obtain ⟨t53, ht53, H⟩ := pbind H
                        refine DJ.st rfl rfl rfl rfl rfl (SR.idxA tU_ok tI_ok rfl rfl rfl rfl rfl (Arr.lt ht53)) ?_
                        refine DJ.es rfl rfl rfl rfl (Es.put tI_ok hS (i := 2) rfl rfl rfl rfl rfl (vs := (ci .i16).enc (IntKind.i16.wrap (t51 + 1))) rfl rfl (one1 rfl) (Put.idx (Put.idx (Put.all (ci .i16) t53 (IntKind.i16.wrap (t51 + 1))) ht53) ht52) (by (try simp only [add_lit, Nat.add_assoc, Nat.zero_add, Nat.add_zero]) <;> rfl)) ?_
                        intro w1 hS
                        refine DJ.nil (EJ.next ?_)
                        refine CJ.region ?_
                        refine OJ.pures tU_ok 1 rfl ?_
                        refine OJ.st rfl rfl rfl (SR.load rfl rfl (fun w' hx => ldE tU_ok tI_ok rfl rfl rfl (CA.ext (hS.cells (i := 5) rfl) hx) rfl)) ?_
                        refine OJ.ef rfl rfl rfl (Ef.lit tU_ok tI_ok hS (C := cSpot) rfl rfl rfl rfl rfl rfl ([t44] : List Spot) rfl rfl rfl rfl) ?_
                        rintro _ w1 ⟨A54, rfl, hS⟩
                        obtain ⟨u55, hu55, H⟩ := pbind H
                        refine OJ.ew rfl rfl rfl (Ew.append tU_ok tI_ok (C := cSpot) (xs := y40) (ys := ([t44] : List Spot)) hS (i := 3) rfl rfl rfl rfl rfl rfl rfl rfl rfl rfl rfl rfl rfl (hS.rd (i := 6) rfl) (chk_some hu55)) ?_
                        rintro _ w1 ⟨A56, c57, rfl, hS⟩
                        refine OJ.pures tU_ok 1 rfl ?_
                        refine OJ.nil (EJ.blk (EJ.next ?_))
                        refine CJ.region ?_
                        refine OJ.pures tU_ok 2 rfl ?_
                        refine OJ.nil ?_
                        exact EJ.round k (F' := [(1, .slice A56 (y40 ++ ([t44] : List Spot)).length c57), (2, .pointer (some ⟨b1, 0, none⟩)), (4, .pointer (some ⟨b2, 0, none⟩)), (5, .pointer (some ⟨b3, 0, none⟩)), (10, .int .i64 y28), (11, .pointer (some ⟨b34, 0, none⟩)), (52, .int .i64 (IntKind.i64.wrap (y43 + 1)))]) ⟨rfl, rfl, rfl, rfl, rfl, rfl, rfl, trivial⟩ (Nat.lt_succ_self _) ⟨(aset y39 t44.Y.toNat (aset t52 t44.X.toNat (IntKind.i16.wrap (t51 + 1)))), (y40 ++ ([t44] : List Spot)), (IntKind.i64.wrap (y43 + 1)), A56, c57, rfl, hS.pick [0, 1, 2, 3, 4] [0] rfl, H⟩
                      · replace H := pifb_f hb H
                        refine CJ.skip (EJ.blk (EJ.next ?_))
                        refine CJ.region ?_
                        refine OJ.pures tU_ok 2 rfl ?_
                        refine OJ.nil ?_
                        exact EJ.round k (F' := [(1, .slice A41 y40.length c42), (2, .pointer (some ⟨b1, 0, none⟩)), (4, .pointer (some ⟨b2, 0, none⟩)), (5, .pointer (some ⟨b3, 0, none⟩)), (10, .int .i64 y28), (11, .pointer (some ⟨b34, 0, none⟩)), (52, .int .i64 (IntKind.i64.wrap (y43 + 1)))]) ⟨rfl, rfl, rfl, rfl, rfl, rfl, rfl, trivial⟩ (Nat.lt_succ_self _) ⟨y39, y40, (IntKind.i64.wrap (y43 + 1)), A41, c42, rfl, hS.pick [0, 1, 2, 3, 4] [0] rfl, H⟩
                  · replace H := pif_f (of_decide_eq_false hb) H
                    refine CJ.exit (EJ.skE (EJ.skE (EJ.hit (?_))))
                    exact EJ.meet (F' := [(1, .slice A41 y40.length c42), (2, .pointer (some ⟨b1, 0, none⟩)), (4, .pointer (some ⟨b2, 0, none⟩)), (5, .pointer (some ⟨b3, 0, none⟩)), (10, .int .i64 y28)]) ⟨rfl, rfl, rfl, rfl, rfl, trivial⟩ ⟨y39, y40, A41, c42, H, rfl, hS.pick [0, 1, 2, 3] [0] rfl⟩
              · rintro F w1 ⟨y35, y36, A37, c38, he, rfl, hS⟩
                obtain rfl := Option.some.inj he
                have H := K221
                refine EJ.blk (?_)
                exact EJ.meet (F' := [(1, .slice A37 y36.length c38), (2, .pointer (some ⟨b1, 0, none⟩)), (4, .pointer (some ⟨b2, 0, none⟩)), (5, .pointer (some ⟨b3, 0, none⟩)), (10, .int .i64 y28)]) ⟨rfl, rfl, rfl, rfl, rfl, trivial⟩ ⟨y35, y36, A37, c38, H, rfl, hS.pick [0, 1, 2, 3] [0] rfl⟩
            · rintro F w1 ⟨y29, y30, A31, c32, he, rfl, hS⟩
              obtain rfl := Option.some.inj he
              have H := K216
              refine CJ.region ?_
              refine OJ.pures tU_ok 3 rfl ?_
              refine OJ.nil ?_
              exact EJ.round k (F' := [(1, .slice A31 y30.length c32), (2, .pointer (some ⟨b1, 0, none⟩)), (4, .pointer (some ⟨b2, 0, none⟩)), (5, .pointer (some ⟨b3, 0, none⟩)), (10, .int .i64 (IntKind.i64.wrap (y28 + 1)))]) ⟨rfl, rfl, rfl, rfl, rfl, trivial⟩ (Nat.lt_succ_self _) ⟨y29, y30, (IntKind.i64.wrap (y28 + 1)), A31, c32, rfl, hS.pick [0, 1, 2, 3] [0] rfl, H⟩
          · replace H := pif_f (of_decide_eq_false hb) H
            refine CJ.exit (EJ.skE (EJ.skE (EJ.hit (?_))))
            exact EJ.meet (F' := [(4, .pointer (some ⟨b2, 0, none⟩)), (5, .pointer (some ⟨b3, 0, none⟩))]) ⟨rfl, rfl, trivial⟩ ⟨y24, H, rfl, hS.pick [1, 2] [0] rfl⟩
      · rintro F w1 ⟨y23, he, rfl, hS⟩
        obtain rfl := Option.some.inj he
        have H := K196
        refine EJ.next ?_
        refine CJ.seq ?_
        refine CJ.region ?_
        refine OJ.st rfl rfl rfl (SR.load rfl rfl (fun w' hx => ldE tU_ok tI_ok rfl rfl rfl (CA.ext (hS.cells (i := 1) rfl) hx) rfl)) ?_
        refine OJ.es rfl rfl (Es.put tI_ok hS (i := 0) rfl rfl rfl rfl rfl (vs := (carr 10 (carr 10 (ci .i16))).enc y23) rfl ((carr 10 (carr 10 (ci .i16))).len _) ((carr 10 (carr 10 (ci .i16))).one _) (Put.all (carr 10 (carr 10 (ci .i16))) (Arr.mk' (Arr.mk' 0 : Arr 10 Int) : Arr 10 (Arr 10 Int)) y23) (by (try simp only [add_lit, Nat.add_assoc, Nat.zero_add, Nat.add_zero]) <;> rfl)) ?_
        intro w1 hS
        refine OJ.nil (EJ.next ?_)
        refine CJ.ret (?_)
        obtain rfl := Option.some.inj H
        exact EJ.fin rfl (.cell rfl (ldE tU_ok tI_ok rfl rfl rfl (hS.cells (i := 0) rfl) rfl) .nil) ⟨rfl, hS.ext⟩

def impl_steps_at.f (a0 : Arr 10 (Arr 10 Int)) (a1 : Spot) : Option Int := (getI a0.l a1.Y).bind fun t2 => (getI t2.l a1.X).bind fun t3 => some (IntKind.i64.wrap t3)
theorem impl_steps_at.c (w : World) (pa0 : Addr) (a0 : Arr 10 (Arr 10 Int)) (hp0 : CA w pa0 ((carr 10 (carr 10 (ci .i16))).enc a0)) (a1 : Spot) (r : Int) (H : impl_steps_at.f a0 a1 = some r) :
    CV Try.prog 146 [.pointer (some pa0), .agg (cSpot.enc a1).toArray].toArray w fun v w' => v = .int .i64 r ∧ Ext w w' := by
  have hS := ((St.init w no).paramP pa0 ((carr 10 (carr 10 (ci .i16))).enc a0) hp0)
  unfold impl_steps_at.f at H
  refine CV.body Try.func146 rfl Try.ntmps146 rfl ?_
  refine CJ.seq ?_
  refine CJ.region ?_
  refine OJ.ef rfl rfl rfl (Ef.box hS rfl rfl (cSpot.enc a1) rfl) ?_
  rintro _ w1 ⟨b1, rfl, hS⟩
  refine OJ.pures tU_ok 1 rfl ?_
  refine OJ.nil (EJ.next ?_)
  refine CJ.seq ?_
  refine CJ.draw [] [0, 1, 2, 3, 4, 5, 6, 7, 8, 9, 10] mixed (by kernel_rfl) hS fun w1 hS => ?_
  refine DJ.pures tU_ok 1 rfl ?_
  refine DJ.st rfl rfl rfl rfl rfl (SR.fieldAddr tU_ok tI_ok rfl rfl rfl rfl rfl rfl) ?_
  refine DJ.st rfl rfl rfl rfl rfl (SR.load rfl rfl (fun w' hx => ld1 tU_ok rfl rfl (CA.ext (CA.sub (hS.cells (i := 0) rfl) 1) hx) rfl)) ?_
  refine DJ.st rfl rfl rfl rfl rfl (SR.fieldAddr tU_ok tI_ok rfl rfl rfl rfl rfl rfl) ?_
  refine DJ.st rfl rfl rfl rfl rfl (SR.load rfl rfl (fun w' hx => ld1 tU_ok rfl rfl (CA.ext (CA.sub (hS.cells (i := 0) rfl) 0) hx) rfl)) ?_
  refine DJ.pures tU_ok 1 rfl ?_
  obtain ⟨t2, ht2, H⟩ := pbind H
  refine DJ.st rfl rfl rfl rfl rfl (SR.idxA tU_ok tI_ok rfl rfl rfl rfl rfl (Arr.lt ht2)) ?_
  obtain ⟨t3, ht3, H⟩ := pbind H
  refine DJ.st rfl rfl rfl rfl rfl (SR.idxA tU_ok tI_ok rfl rfl rfl rfl rfl (Arr.lt ht3)) ?_
  refine DJ.st rfl rfl rfl rfl rfl (SR.load rfl rfl (fun w' hx => ld1 tU_ok rfl rfl (CA.ext (CA.idx (CA.idx (hS.ca (i := 0) rfl) ht2) ht3) hx) rfl)) ?_
  refine DJ.pures tU_ok 2 rfl ?_
  refine DJ.nil (EJ.next ?_)
  refine CJ.ret (?_)
  obtain rfl := Option.some.inj H
  exact EJ.fin rfl (.tmp rfl .nil) ⟨rfl, hS.ext⟩

def spec_l01Yard.l2 (a0 : Pasture) (t2 : Arr 10 (Arr 10 Int)) (y11 : Int) : Nat → (List Spot) → Int → Option (List Spot)
  | 0, _, _ => none
  | k + 1, y18, y21 => if y21 < a0.Wide then ((getI t2.l y11).bind fun t22 => (getI t22.l y21).bind fun t23 => if 0 < t23 then ((chk (y18.length + ([(⟨y21, y11⟩ : Spot)] : List Spot).length ≤ 4294967296)).bind fun u25 => spec_l01Yard.l2 a0 t2 y11 k (y18 ++ ([(⟨y21, y11⟩ : Spot)] : List Spot)) (IntKind.i8.wrap (y21 + 1))) else (spec_l01Yard.l2 a0 t2 y11 k y18 (IntKind.i8.wrap (y21 + 1)))) else (some y18)
def spec_l01Yard.l1 (a0 : Pasture) (t2 : Arr 10 (Arr 10 Int)) : Nat → (List Spot) → Int → Option (List Spot)
  | 0, _, _ => none
  | k + 1, y8, y11 => if y11 < a0.High then (((spec_l01Yard.l2 a0 t2 y11 k y8 0).bind fun y15 => some y15).bind fun y12 => spec_l01Yard.l1 a0 t2 k y12 (IntKind.i8.wrap (y11 + 1))) else (some y8)
def spec_l01Yard.f (k : Nat) (a0 : Pasture) (a1 : Spot) : Option (List Spot) := (spec_l01Steps.f k a0 a1).bind fun t2 => (spec_l01Yard.l1 a0 t2 k ([] : List Spot) 0).bind fun y5 => some y5
theorem spec_l01Yard.c (k : Nat) (w : World) (pa0 : Addr) (a0 : Pasture) (hp0 : CA w pa0 (cPasture.enc a0)) (a1 : Spot) (r : List Spot) (H : spec_l01Yard.f k a0 a1 = some r) :
    CV Try.prog 147 [.pointer (some pa0), .agg (cSpot.enc a1).toArray].toArray w fun v w' => ∃ (A0 : Option Addr) (c0 : Nat), v = .slice A0 r.length c0 ∧ St w no w' [rowC cSpot A0 c0 105 r] [] := by
  have hS := ((St.init w no).paramP pa0 (cPasture.enc a0) hp0)
  unfold spec_l01Yard.f at H
  refine CV.body Try.func147 rfl Try.ntmps147 rfl ?_
  refine CJ.seq ?_
  refine CJ.region ?_
  refine OJ.ef rfl rfl rfl (Ef.box hS rfl rfl (cSpot.enc a1) rfl) ?_
  rintro _ w1 ⟨b1, rfl, hS⟩
  refine OJ.pures tU_ok 1 rfl ?_
  refine OJ.nil (EJ.next ?_)
  refine CJ.seq ?_
  refine CJ.region ?_
  refine OJ.pures tU_ok 1 rfl ?_
  refine OJ.st rfl rfl rfl (SR.load rfl rfl (fun w' hx => ldE tU_ok tI_ok rfl rfl rfl (CA.ext (hS.cells (i := 0) rfl) hx) rfl)) ?_
  obtain ⟨t2, ht2, H⟩ := pbind H
  refine OJ.callF rfl rfl rfl rfl rfl hb144 rfl (spec_l01Steps.c k _ _ a0 (hS.ca (i := 0) rfl) a1 _ ht2) ?_
  rintro _ w1 ⟨rfl, hs⟩
  replace hS := hS.grow hs
  refine OJ.ef rfl rfl rfl (Ef.alloc hS tI_ok rfl rfl ((carr 10 (carr 10 (ci .i64))).enc (Arr.mk' (Arr.mk' 0 : Arr 10 Int) : Arr 10 (Arr 10 Int))) (by kernel_rfl)) ?_
  rintro _ w1 ⟨b3, rfl, hS⟩
  refine OJ.es rfl rfl (Es.put tI_ok hS (i := 1) rfl rfl rfl rfl rfl (vs := (carr 10 (carr 10 (ci .i64))).enc t2) rfl ((carr 10 (carr 10 (ci .i64))).len _) ((carr 10 (carr 10 (ci .i64))).one _) (Put.all (carr 10 (carr 10 (ci .i64))) (Arr.mk' (Arr.mk' 0 : Arr 10 Int) : Arr 10 (Arr 10 Int)) t2) (by (try simp only [add_lit, Nat.add_assoc, Nat.zero_add, Nat.add_zero]) <;> rfl)) ?_
  intro w1 hS
  refine OJ.nil (EJ.next ?_)
  refine CJ.seq ?_
  refine CJ.region ?_
  refine OJ.ef rfl rfl rfl (Ef.lit tU_ok tI_ok hS (C := cSpot) rfl rfl rfl rfl rfl rfl ([] : List Spot) rfl rfl rfl rfl) ?_
  rintro _ w1 ⟨A4, rfl, hS⟩
  refine OJ.pures tU_ok 1 rfl ?_
  refine OJ.nil (EJ.next ?_)
  refine CJ.seq ?_
  refine CJ.seq ?_
  refine CJ.region ?_
  refine OJ.pures tU_ok 1 rfl ?_
  refine OJ.nil (EJ.next ?_)
  obtain ⟨j225, H, K225⟩ := pbind H
  refine CJ.cut1 (fun F w1 => ∃ (y5 : List Spot) (A6 : Option Addr) (c7 : Nat), (some y5 : Option (List Spot)) = some j225 ∧ F = [(6, .slice A6 y5.length c7)] ∧ St w no w1 [rowC cSpot A6 c7 105 y5] [roP pa0 (cPasture.enc a0)]) ?_ ?_
  · skip
    refine CJ.block ?_
    refine CJ.loop (fun k F w1 => ∃ (y8 : List Spot) (y11 : Int) (A9 : Option Addr) (c10 : Nat), F = [(0, .pointer (some pa0)), (5, .pointer (some ⟨b3, 0, none⟩)), (6, .slice A9 y8.length c10), (7, .int .i8 y11)] ∧ St w no w1 [box b3 ((carr 10 (carr 10 (ci .i64))).enc t2) 128, rowC cSpot A9 c10 105 y8] [roP pa0 (cPasture.enc a0)] ∧ spec_l01Yard.l1 a0 t2 k y8 y11 = some j225) k (F' := [(0, .pointer (some pa0)), (5, .pointer (some ⟨b3, 0, none⟩)), (6, .slice A4 ([] : List Spot).length (([] : List Spot).length)), (7, .int .i8 0)]) ⟨rfl, rfl, rfl, rfl, trivial⟩ ⟨([] : List Spot), 0, A4, (([] : List Spot).length), rfl, hS.pick [1, 2] [0] rfl, H⟩ ?_
    rintro k F w1 ⟨y8, y11, A9, c10, rfl, hS, H⟩
    cases k with
    | zero => rw [spec_l01Yard.l1] at H; cases H
    | succ k =>
      rw [spec_l01Yard.l1] at H
      refine CJ.seq ?_
      refine CJ.seq ?_
      refine CJ.region ?_
      refine OJ.pures tU_ok 3 rfl ?_
      refine OJ.st rfl rfl rfl (SR.fieldAddr tU_ok tI_ok rfl rfl rfl rfl rfl rfl) ?_
      refine OJ.st rfl rfl rfl (SR.load rfl rfl (fun w' hx => ld1 tU_ok rfl rfl (CA.ext (CA.fld (hS.ca (i := 0) rfl) (mid_part (fe_Pasture_1 _) (fl_Pasture_1 _) ((ci .i8).len _))) hx) rfl)) ?_
      refine OJ.pures tU_ok 1 rfl ?_
      refine OJ.nil (EJ.next ?_)
      refine CJ.cond rfl (fun hb => ?_) (fun hb => ?_)
      · replace H := pif_t (of_decide_eq_true hb) H
        refine CJ.skip (EJ.next ?_)
        obtain ⟨j232, H, K232⟩ := pbind H
        refine CJ.cut (fun F w1 => ∃ (y12 : List Spot) (A13 : Option Addr) (c14 : Nat), (some y12 : Option (List Spot)) = some j232 ∧ F = [(0, .pointer (some pa0)), (5, .pointer (some ⟨b3, 0, none⟩)), (6, .slice A13 y12.length c14), (7, .int .i8 y11)] ∧ St w no w1 [box b3 ((carr 10 (carr 10 (ci .i64))).enc t2) 128, rowC cSpot A13 c14 105 y12] [roP pa0 (cPasture.enc a0)]) ?_ ?_
        · skip
          refine CJ.block ?_
          refine CJ.seq ?_
          refine CJ.region ?_
          refine OJ.pures tU_ok 1 rfl ?_
          refine OJ.nil (EJ.next ?_)
          obtain ⟨j234, H, K234⟩ := pbind H
          refine CJ.cut1 (fun F w1 => ∃ (y15 : List Spot) (A16 : Option Addr) (c17 : Nat), (some y15 : Option (List Spot)) = some j234 ∧ F = [(0, .pointer (some pa0)), (5, .pointer (some ⟨b3, 0, none⟩)), (6, .slice A16 y15.length c17), (7, .int .i8 y11)] ∧ St w no w1 [box b3 ((carr 10 (carr 10 (ci .i64))).enc t2) 128, rowC cSpot A16 c17 105 y15] [roP pa0 (cPasture.enc a0)]) ?_ ?_
          · skip
            refine CJ.block ?_
            refine CJ.loop (fun k F w1 => ∃ (y18 : List Spot) (y21 : Int) (A19 : Option Addr) (c20 : Nat), F = [(0, .pointer (some pa0)), (5, .pointer (some ⟨b3, 0, none⟩)), (6, .slice A19 y18.length c20), (7, .int .i8 y11), (8, .int .i8 y21)] ∧ St w no w1 [box b3 ((carr 10 (carr 10 (ci .i64))).enc t2) 128, rowC cSpot A19 c20 105 y18] [roP pa0 (cPasture.enc a0)] ∧ spec_l01Yard.l2 a0 t2 y11 k y18 y21 = some j234) k (F' := [(0, .pointer (some pa0)), (5, .pointer (some ⟨b3, 0, none⟩)), (6, .slice A9 y8.length c10), (7, .int .i8 y11), (8, .int .i8 0)]) ⟨rfl, rfl, rfl, rfl, rfl, trivial⟩ ⟨y8, 0, A9, c10, rfl, hS.pick [0, 1] [0] rfl, H⟩ ?_
            rintro k F w1 ⟨y18, y21, A19, c20, rfl, hS, H⟩
            cases k with
            | zero => rw [spec_l01Yard.l2] at H; cases H
            | succ k =>
              rw [spec_l01Yard.l2] at H
              refine CJ.seq ?_
              refine CJ.seq ?_
              refine CJ.region ?_
              refine OJ.pures tU_ok 3 rfl ?_
              refine OJ.st rfl rfl rfl (SR.fieldAddr tU_ok tI_ok rfl rfl rfl rfl rfl rfl) ?_
              refine OJ.st rfl rfl rfl (SR.load rfl rfl (fun w' hx => ld1 tU_ok rfl rfl (CA.ext (CA.fld (hS.ca (i := 0) rfl) (mid_part (fe_Pasture_0 _) (fl_Pasture_0 _) ((ci .i8).len _))) hx) rfl)) ?_
              refine OJ.pures tU_ok 1 rfl ?_
              refine OJ.nil (EJ.next ?_)
              refine CJ.cond rfl (fun hb => ?_) (fun hb => ?_)
              · replace H := pif_t (of_decide_eq_true hb) H
                refine CJ.skip (EJ.next ?_)
                refine CJ.seq ?_
                refine CJ.block ?_
                refine CJ.seq ?_
                refine CJ.region ?_
                refine OJ.pures tU_ok 2 rfl ?_
                obtain ⟨t22, ht22, H⟩ := pbind H
                refine OJ.st rfl rfl rfl (SR.idxA tU_ok tI_ok rfl rfl rfl rfl rfl (Arr.lt ht22)) ?_
                obtain ⟨t23, ht23, H⟩ := pbind H
                refine OJ.st rfl rfl rfl (SR.idxA tU_ok tI_ok rfl rfl rfl rfl rfl (Arr.lt ht23)) ?_
                refine OJ.st rfl rfl rfl (SR.load rfl rfl (fun w' hx => ld1 tU_ok rfl rfl (CA.ext (CA.idx (CA.idx (hS.cells (i := 0) rfl) ht22) ht23) hx) rfl)) ?_
                refine OJ.pures tU_ok 1 rfl ?_
                refine OJ.nil (EJ.next ?_)
                refine CJ.cond rfl (fun hb => ?_) (fun hb => ?_)
                · replace H := pif_t (of_decide_eq_true hb) H
                  refine CJ.region ?_
                  refine OJ.pures tU_ok 3 rfl ?_
                  refine OJ.st rfl rfl rfl (SR.build (C := cSpot) tU_ok tI_ok rfl rfl rfl (zs := [.int .i8 0, .int .i8 0]) rfl rfl rfl (⟨y21, y11⟩ : Spot) rfl) ?_
                  refine OJ.ef rfl rfl rfl (Ef.lit tU_ok tI_ok hS (C := cSpot) rfl rfl rfl rfl rfl rfl ([(⟨y21, y11⟩ : Spot)] : List Spot) rfl rfl rfl rfl) ?_
                  rintro _ w1 ⟨A24, rfl, hS⟩
                  obtain ⟨u25, hu25, H⟩ := pbind H
                  refine OJ.ew rfl rfl rfl (Ew.append tU_ok tI_ok (C := cSpot) (xs := y18) (ys := ([(⟨y21, y11⟩ : Spot)] : List Spot)) hS (i := 1) rfl rfl rfl rfl rfl rfl rfl rfl rfl rfl rfl rfl rfl (hS.rd (i := 2) rfl) (chk_some hu25)) ?_
                  rintro _ w1 ⟨A26, c27, rfl, hS⟩
                  refine OJ.pures tU_ok 1 rfl ?_
                  refine OJ.nil (EJ.blk (EJ.next ?_))
                  refine CJ.region ?_
                  refine OJ.pures tU_ok 3 rfl ?_
                  refine OJ.nil ?_
                  exact EJ.round k (F' := [(0, .pointer (some pa0)), (5, .pointer (some ⟨b3, 0, none⟩)), (6, .slice A26 (y18 ++ ([(⟨y21, y11⟩ : Spot)] : List Spot)).length c27), (7, .int .i8 y11), (8, .int .i8 (IntKind.i8.wrap (y21 + 1)))]) ⟨rfl, rfl, rfl, rfl, rfl, trivial⟩ (Nat.lt_succ_self _) ⟨(y18 ++ ([(⟨y21, y11⟩ : Spot)] : List Spot)), (IntKind.i8.wrap (y21 + 1)), A26, c27, rfl, hS.pick [0, 1] [0] rfl, H⟩
                · replace H := pif_f (of_decide_eq_false hb) H
                  refine CJ.skip (EJ.blk (EJ.next ?_))
                  refine CJ.region ?_
                  refine OJ.pures tU_ok 3 rfl ?_
                  refine OJ.nil ?_
                  exact EJ.round k (F' := [(0, .pointer (some pa0)), (5, .pointer (some ⟨b3, 0, none⟩)), (6, .slice A19 y18.length c20), (7, .int .i8 y11), (8, .int .i8 (IntKind.i8.wrap (y21 + 1)))]) ⟨rfl, rfl, rfl, rfl, rfl, trivial⟩ (Nat.lt_succ_self _) ⟨y18, (IntKind.i8.wrap (y21 + 1)), A19, c20, rfl, hS.pick [0, 1] [0] rfl, H⟩
              · replace H := pif_f (of_decide_eq_false hb) H
                refine CJ.exit (EJ.skE (EJ.skE (EJ.hit (?_))))
                exact EJ.meet (F' := [(0, .pointer (some pa0)), (5, .pointer (some ⟨b3, 0, none⟩)), (6, .slice A19 y18.length c20), (7, .int .i8 y11)]) ⟨rfl, rfl, rfl, rfl, trivial⟩ ⟨y18, A19, c20, H, rfl, hS.pick [0, 1] [0] rfl⟩
          · rintro F w1 ⟨y15, A16, c17, he, rfl, hS⟩
            obtain rfl := Option.some.inj he
            have H := K234
            refine EJ.blk (?_)
            exact EJ.meet (F' := [(0, .pointer (some pa0)), (5, .pointer (some ⟨b3, 0, none⟩)), (6, .slice A16 y15.length c17), (7, .int .i8 y11)]) ⟨rfl, rfl, rfl, rfl, trivial⟩ ⟨y15, A16, c17, H, rfl, hS.pick [0, 1] [0] rfl⟩
        · rintro F w1 ⟨y12, A13, c14, he, rfl, hS⟩
          obtain rfl := Option.some.inj he
          have H := K232
          refine CJ.region ?_
          refine OJ.pures tU_ok 3 rfl ?_
          refine OJ.nil ?_
          exact EJ.round k (F' := [(0, .pointer (some pa0)), (5, .pointer (some ⟨b3, 0, none⟩)), (6, .slice A13 y12.length c14), (7, .int .i8 (IntKind.i8.wrap (y11 + 1)))]) ⟨rfl, rfl, rfl, rfl, trivial⟩ (Nat.lt_succ_self _) ⟨y12, (IntKind.i8.wrap (y11 + 1)), A13, c14, rfl, hS.pick [0, 1] [0] rfl, H⟩
      · replace H := pif_f (of_decide_eq_false hb) H
        refine CJ.exit (EJ.skE (EJ.skE (EJ.hit (?_))))
        exact EJ.meet (F' := [(6, .slice A9 y8.length c10)]) ⟨rfl, trivial⟩ ⟨y8, A9, c10, H, rfl, hS.pick [1] [0] rfl⟩
  · rintro F w1 ⟨y5, A6, c7, he, rfl, hS⟩
    obtain rfl := Option.some.inj he
    have H := K225
    refine EJ.next ?_
    refine CJ.seq ?_
    refine CJ.region ?_
    refine OJ.pures tU_ok 2 rfl ?_
    refine OJ.nil (EJ.next ?_)
    refine CJ.ret (?_)
    obtain rfl := Option.some.inj H
    exact EJ.fin rfl (.tmp rfl .nil) ⟨A6, c7, rfl, hS.pick [0] [] rfl⟩

def impl_Pasture_yard_1.f (a1 : Arr 10 (Arr 10 Int)) (a0 : Spot) : Option Bool := (impl_steps_at.f a1 a0).bind fun t2 => some (decide (0 ≤ t2))
theorem impl_Pasture_yard_1.c (w : World) (pa1 : Addr) (a1 : Arr 10 (Arr 10 Int)) (hp1 : CA w pa1 ((carr 10 (carr 10 (ci .i16))).enc a1)) (a0 : Spot) (r : Bool) (H : impl_Pasture_yard_1.f a1 a0 = some r) :
    CV Try.prog 173 [.agg (cSpot.enc a0).toArray, .pointer (some pa1)].toArray w fun v w' => v = .bool r ∧ Ext w w' := by
  have hS := ((St.init w no).paramP pa1 ((carr 10 (carr 10 (ci .i16))).enc a1) hp1)
  unfold impl_Pasture_yard_1.f at H
  refine CV.body Try.func173 rfl Try.ntmps173 rfl ?_
  refine CJ.seq ?_
  refine CJ.region ?_
  refine OJ.ef rfl rfl rfl (Ef.box hS rfl rfl (cSpot.enc a0) rfl) ?_
  rintro _ w1 ⟨b1, rfl, hS⟩
  refine OJ.pures tU_ok 1 rfl ?_
  refine OJ.nil (EJ.next ?_)
  refine CJ.seq ?_
  refine CJ.region ?_
  refine OJ.st rfl rfl rfl (SR.load rfl rfl (fun w' hx => ldE tU_ok tI_ok rfl rfl rfl (CA.ext (hS.cells (i := 0) rfl) hx) rfl)) ?_
  obtain ⟨t2, ht2, H⟩ := pbind H
  refine OJ.callF rfl rfl rfl rfl rfl hb146 rfl (impl_steps_at.c _ _ a1 (hS.ca (i := 0) rfl) a0 _ ht2) ?_
  rintro _ w1 ⟨rfl, hs⟩
  replace hS := hS.grow hs
  refine OJ.pures tU_ok 2 rfl ?_
  refine OJ.nil (EJ.next ?_)
  refine CJ.ret (?_)
  obtain rfl := Option.some.inj H
  exact EJ.fin rfl (.tmp rfl .nil) ⟨rfl, hS.ext⟩

def impl_Pasture_yard.f (k : Nat) (a0 : Pasture) (a1 : Spot) : Option (List Spot) := (impl_Pasture_far.f k a0 ([a1] : List Spot)).bind fun t4 => (impl_Pasture_cells.f k a0 (impl_Pasture_yard_1.f t4)).bind fun t6 => some t6
theorem impl_Pasture_yard.c (k : Nat) (w : World) (a0 : Pasture) (a1 : Spot) (r : List Spot) (H : impl_Pasture_yard.f k a0 a1 = some r) :
    CV Try.prog 150 [.agg (cPasture.enc a0).toArray, .agg (cSpot.enc a1).toArray].toArray w fun v w' => ∃ (A0 : Option Addr) (c0 : Nat), v = .slice A0 r.length c0 ∧ St w no w' [rowC cSpot A0 c0 105 r] [] := by
  have hS := (St.init w no)
  unfold impl_Pasture_yard.f at H
  refine CV.body Try.func150 rfl Try.ntmps150 rfl ?_
  refine CJ.seq ?_
  refine CJ.region ?_
  refine OJ.ef rfl rfl rfl (Ef.box hS rfl rfl (cPasture.enc a0) rfl) ?_
  rintro _ w1 ⟨b1, rfl, hS⟩
  refine OJ.ef rfl rfl rfl (Ef.box hS rfl rfl (cSpot.enc a1) rfl) ?_
  rintro _ w1 ⟨b2, rfl, hS⟩
  refine OJ.pures tU_ok 1 rfl ?_
  refine OJ.nil (EJ.next ?_)
  refine CJ.seq ?_
  refine CJ.region ?_
  refine OJ.st rfl rfl rfl (SR.load rfl rfl (fun w' hx => ldE tU_ok tI_ok rfl rfl rfl (CA.ext (hS.cells (i := 0) rfl) hx) rfl)) ?_
  refine OJ.st rfl rfl rfl (SR.load rfl rfl (fun w' hx => ldE tU_ok tI_ok rfl rfl rfl (CA.ext (hS.cells (i := 1) rfl) hx) rfl)) ?_
  refine OJ.ef rfl rfl rfl (Ef.lit tU_ok tI_ok hS (C := cSpot) rfl rfl rfl rfl rfl rfl ([a1] : List Spot) rfl rfl rfl rfl) ?_
  rintro _ w1 ⟨A3, rfl, hS⟩
  obtain ⟨t4, ht4, H⟩ := pbind H
  refine OJ.callF rfl rfl rfl rfl rfl hb145 rfl (impl_Pasture_far.c k _ a0 A3 (([a1] : List Spot).length) ([a1] : List Spot) (hS.rd (i := 2) rfl) (hS.le (i := 2) rfl) _ ht4) ?_
  rintro _ w1 ⟨rfl, hs⟩
  replace hS := hS.grow hs
  refine OJ.ef rfl rfl rfl (Ef.alloc hS tI_ok rfl rfl ((carr 10 (carr 10 (ci .i16))).enc (Arr.mk' (Arr.mk' 0 : Arr 10 Int) : Arr 10 (Arr 10 Int))) (by kernel_rfl)) ?_
  rintro _ w1 ⟨b5, rfl, hS⟩
  refine OJ.es rfl rfl (Es.put tI_ok hS (i := 3) rfl rfl rfl rfl rfl (vs := (carr 10 (carr 10 (ci .i16))).enc t4) rfl ((carr 10 (carr 10 (ci .i16))).len _) ((carr 10 (carr 10 (ci .i16))).one _) (Put.all (carr 10 (carr 10 (ci .i16))) (Arr.mk' (Arr.mk' 0 : Arr 10 Int) : Arr 10 (Arr 10 Int)) t4) (by (try simp only [add_lit, Nat.add_assoc, Nat.zero_add, Nat.add_zero]) <;> rfl)) ?_
  intro w1 hS
  refine OJ.nil (EJ.next ?_)
  refine CJ.seq ?_
  refine CJ.region ?_
  refine OJ.st rfl rfl rfl (SR.load rfl rfl (fun w' hx => ldE tU_ok tI_ok rfl rfl rfl (CA.ext (hS.cells (i := 0) rfl) hx) rfl)) ?_
  refine OJ.pures tU_ok 1 rfl ?_
  obtain ⟨t6, ht6, H⟩ := pbind H
  refine OJ.callF rfl rfl rfl rfl rfl hb77 rfl (impl_Pasture_cells.c k _ a0 173 #[] #[.pointer (some ⟨b5, 0, none⟩)] hb173 (impl_Pasture_yard_1.f t4) (fun z0 r h w' hx => CV.cast (impl_Pasture_yard_1.c w' ⟨b5, 0, none⟩ t4 (CA.ext (hS.cells (i := 3) rfl) hx)  z0 r h) (by simp)) _ ht6) ?_
  rintro _ w1 ⟨A7, c8, rfl, hs⟩
  replace hS := hS.addN hs
  refine OJ.pures tU_ok 1 rfl ?_
  refine OJ.nil (EJ.next ?_)
  refine CJ.ret (?_)
  obtain rfl := Option.some.inj H
  exact EJ.fin rfl (.tmp rfl .nil) ⟨A7, c8, rfl, hS.pick [4] [] rfl⟩
end Go.Proofs.Ytpaciifeklccfaa
