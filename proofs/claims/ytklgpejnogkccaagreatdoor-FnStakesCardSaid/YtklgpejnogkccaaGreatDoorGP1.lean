/-
  What the functions come to.
-/
import Derived.Test.YtklgpejnogkccaaGreatDoorGP0
namespace Go.Proofs.YtklgpejnogkccaaGreatDoor
open G
set_option linter.unusedVariables false
set_option linter.unusedSimpArgs false
set_option maxRecDepth 100000
set_option maxHeartbeats 4000000
def impl_Pasture_cells.l2 (a0 : Pasture) (a1 : Spot → Option Bool) (y9 : Int) : Nat → (List Spot) → Int → Option (List Spot)
  | 0, _, _ => none
  | k + 1, y16, y19 => if y19 < a0.Wide then ((a1 (⟨y19, y9⟩ : Spot)).bind fun t21 => if t21 = true then ((chk (y16.length + ([(⟨y19, y9⟩ : Spot)] : List Spot).length ≤ 4294967296)).bind fun u23 => impl_Pasture_cells.l2 a0 a1 y9 k (y16 ++ ([(⟨y19, y9⟩ : Spot)] : List Spot)) (IntKind.i8.wrap (y19 + 1))) else (impl_Pasture_cells.l2 a0 a1 y9 k y16 (IntKind.i8.wrap (y19 + 1)))) else (some y16)
def impl_Pasture_cells.l1 (a0 : Pasture) (a1 : Spot → Option Bool) : Nat → (List Spot) → Int → Option (List Spot)
  | 0, _, _ => none
  | k + 1, y6, y9 => if y9 < a0.High then (((impl_Pasture_cells.l2 a0 a1 y9 k y6 0).bind fun y13 => some y13).bind fun y10 => impl_Pasture_cells.l1 a0 a1 k y10 (IntKind.i8.wrap (y9 + 1))) else (some y6)
def impl_Pasture_cells.f (k : Nat) (a0 : Pasture) (a1 : Spot → Option Bool) : Option (List Spot) := (impl_Pasture_cells.l1 a0 a1 k ([] : List Spot) 0).bind fun y3 => some y3
theorem impl_Pasture_cells.c (k : Nat) (w : World) (a0 : Pasture) (na1 : Nat) (fsa1 capa1 : Array Value) (hb1 : hasBody Tryz.prog na1) (a1 : Spot → Option Bool) (hf1 : ∀ (z0 : Spot) (r : Bool), a1 z0 = some r → ∀ w', Chg no w w' → CV Tryz.prog na1 (fsa1 ++ [.agg (cSpot.enc z0).toArray].toArray ++ capa1) w' fun v w'' => v = .bool r ∧ Ext w' w'') (r : List Spot) (H : impl_Pasture_cells.f k a0 a1 = some r) :
 CV Tryz.prog 92 [.agg (cPasture.enc a0).toArray, .func (.func na1) fsa1 capa1].toArray w fun v w' => ∃ (A0 : Option Addr) (c0 : Nat), v = .slice A0 r.length c0 ∧ St w no w' [rowC cSpot A0 c0 49 r] [] := by
 have hS := (St.init w no)
 unfold impl_Pasture_cells.f at H
 refine CV.body Tryz.func92 Z Tryz.ntmps92 Z ?_
 refine CJ.seq (CJ.region ?_)
 refine OJ.ef Z Z Z (Ef.box hS Z Z (cPasture.enc a0) Z) ?_
 rintro _ w1 ⟨b1, rfl, hS⟩
 refine OJ.pures oU 1 Z (OJ.nil (EJ.next ?_))
 refine CJ.seq (CJ.region ?_)
 refine OJ.ef Z Z Z (Ef.lit oU oI hS (C := cSpot) Z Z Z Z Z Z ([] : List Spot) Z Z Z Z) ?_
 rintro _ w1 ⟨A2, rfl, hS⟩
 refine OJ.pures oU 1 Z (OJ.nil (EJ.next ?_))
 refine CJ.seq ?_
 refine CJ.seq (CJ.region ?_)
 refine OJ.st Z Z Z (SR.fieldAddr oU oI Z Z Z Z Z Z) ?_
 refine OJ.st Z Z Z (SR.load Z Z (fun w' hx => ld1 oU Z Z (CA.ext (CA.fld (hS.cells (i := 0) Z) (mid_part (fe_Pasture_1 _) (fl_Pasture_1 _) ((ci .i8).len _))) hx) Z)) ?_
 refine OJ.pures oU 1 Z (OJ.nil (EJ.next ?_))
 obtain ⟨j144, H, K144⟩ := pbind H
 refine CJ.cut1 (fun F w1 => ∃ (y3 : List Spot) (A4 : Option Addr) (c5 : Nat), (some y3 : Option (List Spot)) = some j144 ∧ F = [(5, .slice A4 y3.length c5)] ∧ St w no w1 [rowC cSpot A4 c5 49 y3] []) ?_ ?_
 ·skip
  refine CJ.block ?_
  refine CJ.loop (fun k F w1 => ∃ (y6 : List Spot) (y9 : Int) (A7 : Option Addr) (c8 : Nat), F = [(1, .func (.func na1) fsa1 capa1), (2, .pointer (some ⟨b1, 0, none⟩)), (5, .slice A7 y6.length c8), (11, .int .i8 a0.High), (12, .int .i8 y9)] ∧ St w no w1 [box b1 (cPasture.enc a0) 31, rowC cSpot A7 c8 49 y6] [] ∧ impl_Pasture_cells.l1 a0 a1 k y6 y9 = some j144) k (F' := [(1, .func (.func na1) fsa1 capa1), (2, .pointer (some ⟨b1, 0, none⟩)), (5, .slice A2 ([] : List Spot).length (([] : List Spot).length)), (11, .int .i8 a0.High), (12, .int .i8 0)]) ⟨Z, Z, Z, Z, Z, trivial⟩ ⟨([] : List Spot), 0, A2, (([] : List Spot).length), Z, hS.pick [0, 1] [] Z, H⟩ ?_
  rintro k F w1 ⟨y6, y9, A7, c8, rfl, hS, H⟩
  cases k with
  | zero => rw [impl_Pasture_cells.l1] at H; cases H
  | succ k =>
    rw [impl_Pasture_cells.l1] at H
    refine CJ.seq (CJ.region ?_)
    refine OJ.pures oU 1 Z (OJ.nil (EJ.next ?_))
    refine CJ.seq ?_
    refine CJ.cond Z (fun hb => ?_) (fun hb => ?_)
    · replace H := pif_t (of_decide_eq_true hb) H
      refine CJ.skip (EJ.next ?_)
      obtain ⟨j151, H, K151⟩ := pbind H
      refine CJ.cut (fun F w1 => ∃ (y10 : List Spot) (A11 : Option Addr) (c12 : Nat), (some y10 : Option (List Spot)) = some j151 ∧ F = [(1, .func (.func na1) fsa1 capa1), (2, .pointer (some ⟨b1, 0, none⟩)), (5, .slice A11 y10.length c12), (11, .int .i8 a0.High), (12, .int .i8 y9)] ∧ St w no w1 [box b1 (cPasture.enc a0) 31, rowC cSpot A11 c12 49 y10] []) ?_ ?_
      · skip
        refine CJ.block ?_
        refine CJ.seq (CJ.region ?_)
        refine OJ.pures oU 2 Z (OJ.nil (EJ.next ?_))
        refine CJ.seq (CJ.region ?_)
        refine OJ.st Z Z Z (SR.fieldAddr oU oI Z Z Z Z Z Z) ?_
        refine OJ.st Z Z Z (SR.load Z Z (fun w' hx => ld1 oU Z Z (CA.ext (CA.fld (hS.cells (i := 0) Z) (mid_part (fe_Pasture_0 _) (fl_Pasture_0 _) ((ci .i8).len _))) hx) Z)) ?_
        refine OJ.pures oU 1 Z (OJ.nil (EJ.next ?_))
        obtain ⟨j153, H, K153⟩ := pbind H
        refine CJ.cut1 (fun F w1 => ∃ (y13 : List Spot) (A14 : Option Addr) (c15 : Nat), (some y13 : Option (List Spot)) = some j153 ∧ F = [(1, .func (.func na1) fsa1 capa1), (2, .pointer (some ⟨b1, 0, none⟩)), (5, .slice A14 y13.length c15), (11, .int .i8 a0.High), (12, .int .i8 y9)] ∧ St w no w1 [box b1 (cPasture.enc a0) 31, rowC cSpot A14 c15 49 y13] []) ?_ ?_
        · skip
          refine CJ.block ?_
          refine CJ.loop (fun k F w1 => ∃ (y16 : List Spot) (y19 : Int) (A17 : Option Addr) (c18 : Nat), F = [(1, .func (.func na1) fsa1 capa1), (2, .pointer (some ⟨b1, 0, none⟩)), (5, .slice A17 y16.length c18), (6, .int .i8 y9), (11, .int .i8 a0.High), (12, .int .i8 y9), (16, .int .i8 a0.Wide), (17, .int .i8 y19)] ∧ St w no w1 [box b1 (cPasture.enc a0) 31, rowC cSpot A17 c18 49 y16] [] ∧ impl_Pasture_cells.l2 a0 a1 y9 k y16 y19 = some j153) k (F' := [(1, .func (.func na1) fsa1 capa1), (2, .pointer (some ⟨b1, 0, none⟩)), (5, .slice A7 y6.length c8), (6, .int .i8 y9), (11, .int .i8 a0.High), (12, .int .i8 y9), (16, .int .i8 a0.Wide), (17, .int .i8 0)]) ⟨Z, Z, Z, Z, Z, Z, Z, Z, trivial⟩ ⟨y6, 0, A7, c8, Z, hS.pick [0, 1] [] Z, H⟩ ?_
          rintro k F w1 ⟨y16, y19, A17, c18, rfl, hS, H⟩
          cases k with
          | zero => rw [impl_Pasture_cells.l2] at H; cases H
          | succ k =>
            rw [impl_Pasture_cells.l2] at H
            refine CJ.seq (CJ.region ?_)
            refine OJ.pures oU 1 Z (OJ.nil (EJ.next ?_))
            refine CJ.seq ?_
            refine CJ.cond Z (fun hb => ?_) (fun hb => ?_)
            · replace H := pif_t (of_decide_eq_true hb) H
              refine CJ.skip (EJ.next ?_)
              refine CJ.seq ?_
              refine CJ.block ?_
              refine CJ.seq (CJ.region ?_)
              refine OJ.pures oU 2 Z (OJ.nil (EJ.next ?_))
              refine CJ.seq (CJ.region ?_)
              refine OJ.pures oU 2 Z ?_
              refine OJ.st Z Z Z (SR.build (C := cSpot) oU oI Z Z Z (zs := [.int .i8 0, .int .i8 0]) Z Z Z (⟨y19, y9⟩ : Spot) Z) ?_
              refine OJ.ef Z Z Z (Ef.alloc hS oI Z Z (cSpot.enc (⟨0, 0⟩ : Spot)) Z) ?_
              rintro _ w1 ⟨b20, rfl, hS⟩
              refine OJ.es Z Z (Es.store oI hS (i := 2) Z Z Z Z Z Z (vs := cSpot.enc (⟨y19, y9⟩ : Spot)) Z (cSpot.len _) (cSpot.one _) (Nat.le_of_ble_eq_true Z) (cSpot.enc (⟨y19, y9⟩ : Spot)) Z) ?_
              intro w1 hS
              refine OJ.nil (EJ.next ?_)
              refine CJ.seq (CJ.region ?_)
              refine OJ.pures oU 1 Z ?_
              refine OJ.st Z Z Z (SR.load Z Z (fun w' hx => ldE oU oI Z Z Z (CA.ext (hS.cells (i := 2) Z) hx) Z)) ?_
              obtain ⟨t21, ht21, H⟩ := pbind H
              refine OJ.call Z Z (Nat.le_of_ble_eq_true Z) Z Z Z hb1 Z (hf1 (⟨y19, y9⟩ : Spot) _ ht21 _ hS.chg) ?_
              rintro _ w1 ⟨rfl, hs⟩
              replace hS := hS.grow hs
              refine OJ.nil (EJ.next ?_)
              refine CJ.cond Z (fun hb => ?_) (fun hb => ?_)
              · replace H := pif_t hb H
                refine CJ.region ?_
                refine OJ.pures oU 1 Z ?_
                refine OJ.st Z Z Z (SR.load Z Z (fun w' hx => ldE oU oI Z Z Z (CA.ext (hS.cells (i := 2) Z) hx) Z)) ?_
                refine OJ.ef Z Z Z (Ef.lit oU oI hS (C := cSpot) Z Z Z Z Z Z ([(⟨y19, y9⟩ : Spot)] : List Spot) Z Z Z Z) ?_
                rintro _ w1 ⟨A22, rfl, hS⟩
                obtain ⟨u23, hu23, H⟩ := pbind H
                refine OJ.ew Z Z Z (Ew.append oU oI (C := cSpot) (xs := y16) (ys := ([(⟨y19, y9⟩ : Spot)] : List Spot)) hS (i := 1) Z Z Z Z Z Z Z Z Z Z Z Z Z (hS.rd (i := 3) Z) (chk_some hu23)) ?_
                rintro _ w1 ⟨A24, c25, rfl, hS⟩
                refine OJ.pures oU 1 Z ?_
                refine OJ.nil (EJ.blk (EJ.next ?_))
                refine CJ.region ?_
                refine OJ.pures oU 2 Z ?_
                refine OJ.nil ?_
                exact EJ.round k (F' := [(1, .func (.func na1) fsa1 capa1), (2, .pointer (some ⟨b1, 0, none⟩)), (5, .slice A24 (y16 ++ ([(⟨y19, y9⟩ : Spot)] : List Spot)).length c25), (6, .int .i8 y9), (11, .int .i8 a0.High), (12, .int .i8 y9), (16, .int .i8 a0.Wide), (17, .int .i8 (IntKind.i8.wrap (y19 + 1)))]) ⟨Z, Z, Z, Z, Z, Z, Z, Z, trivial⟩ (Nat.lt_succ_self _) ⟨(y16 ++ ([(⟨y19, y9⟩ : Spot)] : List Spot)), (IntKind.i8.wrap (y19 + 1)), A24, c25, Z, hS.pick [0, 1] [] Z, H⟩
              · replace H := pifb_f hb H
                refine CJ.skip (EJ.blk (EJ.next ?_))
                refine CJ.region ?_
                refine OJ.pures oU 2 Z ?_
                refine OJ.nil ?_
                exact EJ.round k (F' := [(1, .func (.func na1) fsa1 capa1), (2, .pointer (some ⟨b1, 0, none⟩)), (5, .slice A17 y16.length c18), (6, .int .i8 y9), (11, .int .i8 a0.High), (12, .int .i8 y9), (16, .int .i8 a0.Wide), (17, .int .i8 (IntKind.i8.wrap (y19 + 1)))]) ⟨Z, Z, Z, Z, Z, Z, Z, Z, trivial⟩ (Nat.lt_succ_self _) ⟨y16, (IntKind.i8.wrap (y19 + 1)), A17, c18, Z, hS.pick [0, 1] [] Z, H⟩
            · replace H := pif_f (of_decide_eq_false hb) H
              refine CJ.exit (EJ.skE (EJ.skE (EJ.hit (?_))))
              exact EJ.meet (F' := [(1, .func (.func na1) fsa1 capa1), (2, .pointer (some ⟨b1, 0, none⟩)), (5, .slice A17 y16.length c18), (11, .int .i8 a0.High), (12, .int .i8 y9)]) ⟨Z, Z, Z, Z, Z, trivial⟩ ⟨y16, A17, c18, H, Z, hS.pick [0, 1] [] Z⟩
        · rintro F w1 ⟨y13, A14, c15, he, rfl, hS⟩
          obtain rfl := Option.some.inj he
          have H := K153
          refine EJ.blk (?_)
          exact EJ.meet (F' := [(1, .func (.func na1) fsa1 capa1), (2, .pointer (some ⟨b1, 0, none⟩)), (5, .slice A14 y13.length c15), (11, .int .i8 a0.High), (12, .int .i8 y9)]) ⟨Z, Z, Z, Z, Z, trivial⟩ ⟨y13, A14, c15, H, Z, hS.pick [0, 1] [] Z⟩
      · rintro F w1 ⟨y10, A11, c12, he, rfl, hS⟩
        obtain rfl := Option.some.inj he
        have H := K151
        refine CJ.region ?_
        refine OJ.pures oU 2 Z ?_
        refine OJ.nil ?_
        exact EJ.round k (F' := [(1, .func (.func na1) fsa1 capa1), (2, .pointer (some ⟨b1, 0, none⟩)), (5, .slice A11 y10.length c12), (11, .int .i8 a0.High), (12, .int .i8 (IntKind.i8.wrap (y9 + 1)))]) ⟨Z, Z, Z, Z, Z, trivial⟩ (Nat.lt_succ_self _) ⟨y10, (IntKind.i8.wrap (y9 + 1)), A11, c12, Z, hS.pick [0, 1] [] Z, H⟩
    · replace H := pif_f (of_decide_eq_false hb) H
      refine CJ.exit (EJ.skE (EJ.skE (EJ.hit (?_))))
      exact EJ.meet (F' := [(5, .slice A7 y6.length c8)]) ⟨Z, trivial⟩ ⟨y6, A7, c8, H, Z, hS.pick [1] [] Z⟩
 rintro F w1 ⟨y3, A4, c5, he, rfl, hS⟩
 obtain rfl := Option.some.inj he
 have H := K144
 refine EJ.next ?_
 refine CJ.seq (CJ.region ?_)
 refine OJ.pures oU 2 Z (OJ.nil (EJ.next ?_))
 refine CJ.ret (?_)
 obtain rfl := Option.some.inj H
 exact EJ.fin Z (.tmp Z .nil) ⟨A4, c5, Z, hS.pick [0] [] Z⟩

def impl_steps_at.f (a0 : Arr 10 (Arr 10 Int)) (a1 : Spot) : Option Int := (getI a0.l a1.Y).bind fun t2 => (getI t2.l a1.X).bind fun t3 => some (IntKind.i64.wrap t3)
theorem impl_steps_at.c (w : World) (pa0 : Addr) (a0 : Arr 10 (Arr 10 Int)) (hp0 : CA w pa0 ((carr 10 (carr 10 (ci .i16))).enc a0)) (a1 : Spot) (r : Int) (H : impl_steps_at.f a0 a1 = some r) :
 CV Tryz.prog 107 [.pointer (some pa0), .agg (cSpot.enc a1).toArray].toArray w fun v w' => v = .int .i64 r ∧ Ext w w' := by
 have hS := ((St.init w no).paramP pa0 ((carr 10 (carr 10 (ci .i16))).enc a0) hp0)
 unfold impl_steps_at.f at H
 refine CV.body Tryz.func107 Z Tryz.ntmps107 Z ?_
 refine CJ.seq (CJ.region ?_)
 refine OJ.ef Z Z Z (Ef.box hS Z Z (cSpot.enc a1) Z) ?_
 rintro _ w1 ⟨b1, rfl, hS⟩
 refine OJ.pures oU 1 Z (OJ.nil (EJ.next ?_))
 refine CJ.seq ?_
 refine CJ.draw [] [0, 1, 2, 3, 4, 5, 6, 7, 8, 9, 10] mixed (by kernel_rfl) hS fun w1 hS => ?_
 refine DJ.pures oU 1 Z ?_
 refine DJ.st Z Z Z Z Z (SR.fieldAddr oU oI Z Z Z Z Z Z) ?_
 refine DJ.st Z Z Z Z Z (SR.load Z Z (fun w' hx => ld1 oU Z Z (CA.ext (CA.sub (hS.cells (i := 0) Z) 1) hx) Z)) ?_
 refine DJ.st Z Z Z Z Z (SR.fieldAddr oU oI Z Z Z Z Z Z) ?_
 refine DJ.st Z Z Z Z Z (SR.load Z Z (fun w' hx => ld1 oU Z Z (CA.ext (CA.sub (hS.cells (i := 0) Z) 0) hx) Z)) ?_
 refine DJ.pures oU 1 Z ?_
 obtain ⟨t2, ht2, H⟩ := pbind H
 refine DJ.st Z Z Z Z Z (SR.idxA oU oI Z Z Z Z Z (Arr.lt ht2)) ?_
 obtain ⟨t3, ht3, H⟩ := pbind H
 refine DJ.st Z Z Z Z Z (SR.idxA oU oI Z Z Z Z Z (Arr.lt ht3)) ?_
 refine DJ.st Z Z Z Z Z (SR.load Z Z (fun w' hx => ld1 oU Z Z (CA.ext (CA.idx (CA.idx (hS.ca (i := 0) Z) ht2) ht3) hx) Z)) ?_
 refine DJ.pures oU 2 Z ?_
 refine DJ.nil (EJ.next ?_)
 refine CJ.ret (?_)
 obtain rfl := Option.some.inj H
 exact EJ.fin Z (.tmp Z .nil) ⟨Z, hS.ext⟩

def impl_Pasture_yard_1.f (a1 : Arr 10 (Arr 10 Int)) (a0 : Spot) : Option Bool := (impl_steps_at.f a1 a0).bind fun t2 => some (decide (0 ≤ t2))
theorem impl_Pasture_yard_1.c (w : World) (pa1 : Addr) (a1 : Arr 10 (Arr 10 Int)) (hp1 : CA w pa1 ((carr 10 (carr 10 (ci .i16))).enc a1)) (a0 : Spot) (r : Bool) (H : impl_Pasture_yard_1.f a1 a0 = some r) :
 CV Tryz.prog 106 [.agg (cSpot.enc a0).toArray, .pointer (some pa1)].toArray w fun v w' => v = .bool r ∧ Ext w w' := by
 have hS := ((St.init w no).paramP pa1 ((carr 10 (carr 10 (ci .i16))).enc a1) hp1)
 unfold impl_Pasture_yard_1.f at H
 refine CV.body Tryz.func106 Z Tryz.ntmps106 Z ?_
 refine CJ.seq (CJ.region ?_)
 refine OJ.ef Z Z Z (Ef.box hS Z Z (cSpot.enc a0) Z) ?_
 rintro _ w1 ⟨b1, rfl, hS⟩
 refine OJ.pures oU 1 Z (OJ.nil (EJ.next ?_))
 refine CJ.seq (CJ.region ?_)
 refine OJ.st Z Z Z (SR.load Z Z (fun w' hx => ldE oU oI Z Z Z (CA.ext (hS.cells (i := 0) Z) hx) Z)) ?_
 obtain ⟨t2, ht2, H⟩ := pbind H
 refine OJ.callF Z Z Z Z Z hb107 Z (impl_steps_at.c _ _ a1 (hS.ca (i := 0) Z) a0 _ ht2) ?_
 rintro _ w1 ⟨rfl, hs⟩
 replace hS := hS.grow hs
 refine OJ.pures oU 2 Z (OJ.nil (EJ.next ?_))
 refine CJ.ret (?_)
 obtain rfl := Option.some.inj H
 exact EJ.fin Z (.tmp Z .nil) ⟨Z, hS.ext⟩

def impl_Pasture_yard.f (k : Nat) (a0 : Pasture) (a1 : Spot) : Option (List Spot) := (impl_Pasture_far.f k a0 ([a1] : List Spot)).bind fun t4 => (impl_Pasture_cells.f k a0 (impl_Pasture_yard_1.f t4)).bind fun t6 => some t6
theorem impl_Pasture_yard.c (k : Nat) (w : World) (a0 : Pasture) (a1 : Spot) (r : List Spot) (H : impl_Pasture_yard.f k a0 a1 = some r) :
 CV Tryz.prog 73 [.agg (cPasture.enc a0).toArray, .agg (cSpot.enc a1).toArray].toArray w fun v w' => ∃ (A0 : Option Addr) (c0 : Nat), v = .slice A0 r.length c0 ∧ St w no w' [rowC cSpot A0 c0 49 r] [] := by
 have hS := (St.init w no)
 unfold impl_Pasture_yard.f at H
 refine CV.body Tryz.func73 Z Tryz.ntmps73 Z ?_
 refine CJ.seq (CJ.region ?_)
 refine OJ.ef Z Z Z (Ef.box hS Z Z (cPasture.enc a0) Z) ?_
 rintro _ w1 ⟨b1, rfl, hS⟩
 refine OJ.ef Z Z Z (Ef.box hS Z Z (cSpot.enc a1) Z) ?_
 rintro _ w1 ⟨b2, rfl, hS⟩
 refine OJ.pures oU 1 Z (OJ.nil (EJ.next ?_))
 refine CJ.seq (CJ.region ?_)
 refine OJ.st Z Z Z (SR.load Z Z (fun w' hx => ldE oU oI Z Z Z (CA.ext (hS.cells (i := 0) Z) hx) Z)) ?_
 refine OJ.st Z Z Z (SR.load Z Z (fun w' hx => ldE oU oI Z Z Z (CA.ext (hS.cells (i := 1) Z) hx) Z)) ?_
 refine OJ.ef Z Z Z (Ef.lit oU oI hS (C := cSpot) Z Z Z Z Z Z ([a1] : List Spot) Z Z Z Z) ?_
 rintro _ w1 ⟨A3, rfl, hS⟩
 obtain ⟨t4, ht4, H⟩ := pbind H
 refine OJ.callF Z Z Z Z Z hb105 Z (impl_Pasture_far.c k _ a0 A3 (([a1] : List Spot).length) ([a1] : List Spot) (hS.rd (i := 2) Z) (hS.le (i := 2) Z) _ ht4) ?_
 rintro _ w1 ⟨rfl, hs⟩
 replace hS := hS.grow hs
 refine OJ.ef rfl rfl rfl (Ef.alloc hS oI rfl rfl ((carr 10 (carr 10 (ci .i16))).enc (Arr.mk' (Arr.mk' 0 : Arr 10 Int) : Arr 10 (Arr 10 Int))) (by kernel_rfl)) ?_
 rintro _ w1 ⟨b5, rfl, hS⟩
 refine OJ.es rfl rfl (Es.put oI hS (i := 3) rfl rfl rfl rfl rfl (vs := (carr 10 (carr 10 (ci .i16))).enc t4) rfl ((carr 10 (carr 10 (ci .i16))).len _) ((carr 10 (carr 10 (ci .i16))).one _) (Put.all (carr 10 (carr 10 (ci .i16))) (Arr.mk' (Arr.mk' 0 : Arr 10 Int) : Arr 10 (Arr 10 Int)) t4) (by (try simp only [add_lit, Nat.add_assoc, Nat.zero_add, Nat.add_zero]) <;> rfl)) ?_
 intro w1 hS
 refine OJ.nil (EJ.next ?_)
 refine CJ.seq (CJ.region ?_)
 refine OJ.st Z Z Z (SR.load Z Z (fun w' hx => ldE oU oI Z Z Z (CA.ext (hS.cells (i := 0) Z) hx) Z)) ?_
 refine OJ.pures oU 1 Z ?_
 obtain ⟨t6, ht6, H⟩ := pbind H
 refine OJ.callF rfl rfl rfl rfl rfl hb92 rfl (impl_Pasture_cells.c k _ a0 106 #[] #[.pointer (some ⟨b5, 0, none⟩)] hb106 (impl_Pasture_yard_1.f t4) (fun z0 r h w' hx => CV.cast (impl_Pasture_yard_1.c w' ⟨b5, 0, none⟩ t4 (CA.ext (hS.cells (i := 3) rfl) hx)  z0 r h) (by simp)) _ ht6) ?_
 rintro _ w1 ⟨A7, c8, rfl, hs⟩
 replace hS := hS.addN hs
 refine OJ.pures oU 1 Z (OJ.nil (EJ.next ?_))
 refine CJ.ret (?_)
 obtain rfl := Option.some.inj H
 exact EJ.fin Z (.tmp Z .nil) ⟨A7, c8, Z, hS.pick [4] [] Z⟩

def slices_IndexFunc_impl_Spot_impl_Spot.l1 (a0 : List Spot) (a1 : Spot → Option Bool) : Nat → Int → Option (Int ⊕ Unit)
  | 0, _ => none
  | k + 1, y1 => if y1 < (a0.length : Int) then ((getI a0 y1).bind fun t2 => (a1 t2).bind fun t3 => if t3 = true then (some (Sum.inl y1)) else (slices_IndexFunc_impl_Spot_impl_Spot.l1 a0 a1 k (IntKind.i64.wrap (y1 + 1)))) else (some (Sum.inr ()))
def slices_IndexFunc_impl_Spot_impl_Spot.f (k : Nat) (a0 : List Spot) (a1 : Spot → Option Bool) : Option Int := (slices_IndexFunc_impl_Spot_impl_Spot.l1 a0 a1 k 0).bind fun s154 => match s154 with | .inl r => some r | .inr _ => some (-1)
theorem slices_IndexFunc_impl_Spot_impl_Spot.c (k : Nat) (w : World) (Aa0 : Option Addr) (ca0 : Nat) (a0 : List Spot) (hr0 : Rd cSpot w Aa0 a0) (hc0 : a0.length ≤ ca0) (na1 : Nat) (fsa1 capa1 : Array Value) (hb1 : hasBody Tryz.prog na1) (a1 : Spot → Option Bool) (hf1 : ∀ (z0 : Spot) (r : Bool), a1 z0 = some r → ∀ w', Chg no w w' → CV Tryz.prog na1 (fsa1 ++ [.agg (cSpot.enc z0).toArray].toArray ++ capa1) w' fun v w'' => v = .bool r ∧ Ext w' w'') (r : Int) (H : slices_IndexFunc_impl_Spot_impl_Spot.f k a0 a1 = some r) :
 CV Tryz.prog 121 [.slice Aa0 a0.length ca0, .func (.func na1) fsa1 capa1].toArray w fun v w' => v = .int .i64 r ∧ Ext w w' := by
 have hS := ((St.init w no).param cSpot Aa0 ca0 a0 hr0 hc0)
 unfold slices_IndexFunc_impl_Spot_impl_Spot.f at H
 refine CV.body Tryz.func121 Z Tryz.ntmps121 Z ?_
 refine CJ.seq (CJ.region ?_)
 refine OJ.pures oU 1 Z (OJ.nil (EJ.next ?_))
 refine CJ.seq ?_
 refine CJ.seq (CJ.region ?_)
 refine OJ.pures oU 3 Z (OJ.nil (EJ.next ?_))
 obtain ⟨j154, H, K154⟩ := pbind H
 refine CJ.cut1 (fun F w1 => (some (Sum.inr ()) : Option (Int ⊕ Unit)) = some j154 ∧ F = [] ∧ St w no w1 [] [roC cSpot Aa0 ca0 a0]) ?_ ?_
 ·skip
  refine CJ.block ?_
  refine CJ.loop (fun k F w1 => ∃ (y1 : Int), F = [(0, .slice Aa0 a0.length ca0), (1, .func (.func na1) fsa1 capa1), (7, .int .i64 (a0.length : Int)), (8, .int .i64 y1)] ∧ St w no w1 [] [roC cSpot Aa0 ca0 a0] ∧ slices_IndexFunc_impl_Spot_impl_Spot.l1 a0 a1 k y1 = some j154) k (F' := [(0, .slice Aa0 a0.length ca0), (1, .func (.func na1) fsa1 capa1), (7, .int .i64 (a0.length : Int)), (8, .int .i64 0)]) ⟨Z, Z, Z, Z, trivial⟩ ⟨0, Z, hS.pick [] [0] Z, H⟩ ?_
  rintro k F w1 ⟨y1, rfl, hS, H⟩
  cases k with
  | zero => rw [slices_IndexFunc_impl_Spot_impl_Spot.l1] at H; cases H
  | succ k =>
    rw [slices_IndexFunc_impl_Spot_impl_Spot.l1] at H
    refine CJ.seq (CJ.region ?_)
    refine OJ.pures oU 1 Z (OJ.nil (EJ.next ?_))
    refine CJ.seq ?_
    refine CJ.cond Z (fun hb => ?_) (fun hb => ?_)
    · replace H := pif_t (of_decide_eq_true hb) H
      refine CJ.skip (EJ.next ?_)
      refine CJ.seq ?_
      refine CJ.block ?_
      refine CJ.seq (CJ.region ?_)
      refine OJ.pures oU 2 Z (OJ.nil (EJ.next ?_))
      refine CJ.seq (CJ.region ?_)
      refine OJ.pures oU 3 Z ?_
      obtain ⟨t2, ht2, H⟩ := pbind H
      obtain ⟨ad2, e2⟩ := (hS.rd' (i := 0) rfl).some' ht2
      refine OJ.st Z Z Z (SR.idxS oU oI Z Z Z Z e2 Z (getI_some ht2).1) ?_
      refine OJ.st Z Z Z (SR.load Z Z (fun w' hx => ldE oU oI Z Z Z (CA.ext ((hS.rd' (i := 0) Z).at_ e2 ht2) hx) Z)) ?_
      obtain ⟨t3, ht3, H⟩ := pbind H
      refine OJ.call Z Z (Nat.le_of_ble_eq_true Z) Z Z Z hb1 Z (hf1 t2 _ ht3 _ hS.chg) ?_
      rintro _ w1 ⟨rfl, hs⟩
      replace hS := hS.grow hs
      refine OJ.nil (EJ.next ?_)
      refine CJ.cond Z (fun hb => ?_) (fun hb => ?_)
      · replace H := pif_t hb H
        refine CJ.seq (CJ.region ?_)
        refine OJ.pures oU 2 Z (OJ.nil (EJ.next ?_))
        refine CJ.ret (EJ.bkR (EJ.skR (EJ.skR (EJ.bkR (EJ.skR (EJ.skR (?_)))))))
        first | (obtain rfl := Option.some.inj H; have H := K154) | (obtain ⟨q154, H2, e154⟩ := pbind H; obtain rfl := Option.some.inj e154; obtain rfl := Option.some.inj K154; have H := H2)
        obtain rfl := Option.some.inj H
        exact EJ.fin Z (.tmp Z .nil) ⟨Z, hS.ext⟩
      · replace H := pifb_f hb H
        refine CJ.skip (EJ.blk (EJ.next ?_))
        refine CJ.region ?_
        refine OJ.pures oU 2 Z ?_
        refine OJ.nil ?_
        exact EJ.round k (F' := [(0, .slice Aa0 a0.length ca0), (1, .func (.func na1) fsa1 capa1), (7, .int .i64 (a0.length : Int)), (8, .int .i64 (IntKind.i64.wrap (y1 + 1)))]) ⟨Z, Z, Z, Z, trivial⟩ (Nat.lt_succ_self _) ⟨(IntKind.i64.wrap (y1 + 1)), Z, hS.pick [] [0] Z, H⟩
    · replace H := pif_f (of_decide_eq_false hb) H
      refine CJ.exit (EJ.skE (EJ.skE (EJ.hit (?_))))
      exact EJ.meet (F' := []) trivial ⟨H, Z, hS.pick [] [0] Z⟩
 rintro F w1 ⟨he, rfl, hS⟩
 obtain rfl := Option.some.inj he
 have H := K154
 refine EJ.next ?_
 refine CJ.seq (CJ.region ?_)
 refine OJ.pures oU 1 Z (OJ.nil (EJ.next ?_))
 refine CJ.ret (?_)
 obtain rfl := Option.some.inj H
 exact EJ.fin Z (.tmp Z .nil) ⟨Z, hS.ext⟩

def slices_DeleteFunc_impl_Spot_impl_Spot.l1 (a1 : Spot → Option Bool) : Nat → (List Spot) → Int → Int → Option ((List Spot) × Int)
  | 0, _, _, _ => none
  | k + 1, y4, y5, y6 => if y6 < (y4.length : Int) then ((getI y4 y6).bind fun t7 => (a1 t7).bind fun t9 => if (!t9) = true then ((getI y4 y5).bind fun t10 => slices_DeleteFunc_impl_Spot_impl_Spot.l1 a1 k (y4.set y5.toNat t7) (IntKind.i64.wrap (y5 + 1)) (IntKind.i64.wrap (y6 + 1))) else (slices_DeleteFunc_impl_Spot_impl_Spot.l1 a1 k y4 y5 (IntKind.i64.wrap (y6 + 1)))) else (some (y4, y5))
def slices_DeleteFunc_impl_Spot_impl_Spot.f (k : Nat) (a0 : List Spot) (a1 : Spot → Option Bool) : Option (List Spot) := (slices_IndexFunc_impl_Spot_impl_Spot.f k a0 a1).bind fun t1 => if t1 = (-1) then (some a0) else ((slices_DeleteFunc_impl_Spot_impl_Spot.l1 a1 k a0 t1 (IntKind.i64.wrap (t1 + 1))).bind fun (y2, y3) => (chk ((0 : Int) ≤ y3 ∧ y3 ≤ (y2.length : Int) ∧ (y2.length : Int) ≤ (y2.length : Int))).bind fun u11 => (chk ((0 : Int) ≤ 0 ∧ 0 ≤ y3 ∧ y3 ≤ ((y2.take y3.toNat ++ List.replicate (y2.length - y3.toNat) (⟨0, 0⟩ : Spot)).length : Int))).bind fun u12 => some ((y2.take y3.toNat ++ List.replicate (y2.length - y3.toNat) (⟨0, 0⟩ : Spot)).take y3.toNat))
theorem slices_DeleteFunc_impl_Spot_impl_Spot.c (k : Nat) (w : World) (Aa0 : Option Addr) (ca0 : Nat) (a0 : List Spot) (na1 : Nat) (fsa1 capa1 : Array Value) (hb1 : hasBody Tryz.prog na1) (a1 : Spot → Option Bool) (hf1 : ∀ (z0 : Spot) (r : Bool), a1 z0 = some r → ∀ w', Chg (fpU [rowC cSpot Aa0 ca0 49 a0]) w w' → CV Tryz.prog na1 (fsa1 ++ [.agg (cSpot.enc z0).toArray].toArray ++ capa1) w' fun v w'' => v = .bool r ∧ Ext w' w'') (hin : St w (fpU [rowC cSpot Aa0 ca0 49 a0]) w [rowC cSpot Aa0 ca0 49 a0] []) (r : List Spot) (H : slices_DeleteFunc_impl_Spot_impl_Spot.f k a0 a1 = some r) :
 CV Tryz.prog 96 [.slice Aa0 a0.length ca0, .func (.func na1) fsa1 capa1].toArray w fun v w' => ∃ (A0 : Option Addr) (c0 : Nat), v = .slice A0 r.length c0 ∧ St w (fpU [rowC cSpot Aa0 ca0 49 a0]) w' [rowC cSpot A0 c0 49 r] [] := by
 have hS := hin
 unfold slices_DeleteFunc_impl_Spot_impl_Spot.f at H
 refine CV.body Tryz.func96 Z Tryz.ntmps96 Z ?_
 refine CJ.seq (CJ.region ?_)
 refine OJ.pures oU 1 Z (OJ.nil (EJ.next ?_))
 refine CJ.seq (CJ.region ?_)
 refine OJ.pures oU 2 Z ?_
 obtain ⟨t1, ht1, H⟩ := pbind H
 refine OJ.callF Z Z Z Z Z hb121 Z (slices_IndexFunc_impl_Spot_impl_Spot.c k _ Aa0 ca0 a0 (hS.rd (i := 0) Z) (hS.le (i := 0) Z) na1 fsa1 capa1 hb1 a1 (fun z0 r h w' hx => hf1 z0 r h w' (hS.chg.then hx (fun _ _ e => e.elim))) _ ht1) ?_
 rintro _ w1 ⟨rfl, hs⟩
 replace hS := hS.grow hs
 refine OJ.pures oU 1 Z (OJ.nil (EJ.next ?_))
 refine CJ.seq ?_
 refine CJ.seq (CJ.region ?_)
 refine OJ.pures oU 2 Z (OJ.nil (EJ.next ?_))
 refine CJ.cond Z (fun hb => ?_) (fun hb => ?_)
 ·replace H := pif_t (of_decide_eq_true hb) H
  refine CJ.seq (CJ.region ?_)
  refine OJ.pures oU 2 Z (OJ.nil (EJ.next ?_))
  refine CJ.ret (EJ.skR (?_))
  obtain rfl := Option.some.inj H
  exact EJ.fin Z (.tmp Z .nil) ⟨Aa0, ca0, Z, hS.pick [0] [] Z⟩
 replace H := pif_f (of_decide_eq_false hb) H
 refine CJ.skip (EJ.next ?_)
 refine CJ.seq ?_
 refine CJ.seq (CJ.region ?_)
 refine OJ.pures oU 3 Z (OJ.nil (EJ.next ?_))
 obtain ⟨j155, H, K155⟩ := pbind H
 refine CJ.cut1 (fun F w1 => ∃ (y2 : List Spot) (y3 : Int) , (some (y2, y3) : Option ((List Spot) × Int)) = some j155 ∧ F = [(0, .slice Aa0 y2.length ca0), (5, .int .i64 y3)] ∧ St w (fpU [rowC cSpot Aa0 ca0 49 a0]) w1 [rowC cSpot Aa0 ca0 49 y2] []) ?_ ?_
 ·skip
  refine CJ.block ?_
  refine CJ.loop (fun k F w1 => ∃ (y4 : List Spot) (y5 : Int) (y6 : Int), F = [(0, .slice Aa0 y4.length ca0), (1, .func (.func na1) fsa1 capa1), (5, .int .i64 y5), (6, .int .i64 y6)] ∧ St w (fpU [rowC cSpot Aa0 ca0 49 a0]) w1 [rowC cSpot Aa0 ca0 49 y4] [] ∧ slices_DeleteFunc_impl_Spot_impl_Spot.l1 a1 k y4 y5 y6 = some j155) k (F' := [(0, .slice Aa0 a0.length ca0), (1, .func (.func na1) fsa1 capa1), (5, .int .i64 t1), (6, .int .i64 (IntKind.i64.wrap (t1 + 1)))]) ⟨Z, Z, Z, Z, trivial⟩ ⟨a0, t1, (IntKind.i64.wrap (t1 + 1)), Z, hS.pick [0] [] Z, H⟩ ?_
  rintro k F w1 ⟨y4, y5, y6, rfl, hS, H⟩
  cases k with
  | zero => rw [slices_DeleteFunc_impl_Spot_impl_Spot.l1] at H; cases H
  | succ k =>
    rw [slices_DeleteFunc_impl_Spot_impl_Spot.l1] at H
    refine CJ.seq ?_
    refine CJ.seq (CJ.region ?_)
    refine OJ.pures oU 4 Z (OJ.nil (EJ.next ?_))
    refine CJ.cond Z (fun hb => ?_) (fun hb => ?_)
    · replace H := pif_t (of_decide_eq_true hb) H
      refine CJ.skip (EJ.next ?_)
      refine CJ.seq ?_
      refine CJ.block ?_
      refine CJ.seq (CJ.region ?_)
      refine OJ.pures oU 2 Z ?_
      obtain ⟨t7, ht7, H⟩ := pbind H
      obtain ⟨ad7, e7⟩ := (hS.rd (i := 0) rfl).some' ht7
      refine OJ.st Z Z Z (SR.idxS oU oI Z Z Z Z e7 Z (getI_some ht7).1) ?_
      refine OJ.st Z Z Z (SR.load Z Z (fun w' hx => ldE oU oI Z Z Z (CA.ext ((hS.rd (i := 0) Z).at_ e7 ht7) hx) Z)) ?_
      refine OJ.ef Z Z Z (Ef.alloc hS oI Z Z (cSpot.enc (⟨0, 0⟩ : Spot)) Z) ?_
      rintro _ w1 ⟨b8, rfl, hS⟩
      refine OJ.es Z Z (Es.store oI hS (i := 1) Z Z Z Z Z Z (vs := cSpot.enc t7) Z (cSpot.len _) (cSpot.one _) (Nat.le_of_ble_eq_true Z) (cSpot.enc t7) Z) ?_
      intro w1 hS
      refine OJ.nil (EJ.next ?_)
      refine CJ.seq (CJ.region ?_)
      refine OJ.pures oU 1 Z ?_
      refine OJ.st Z Z Z (SR.load Z Z (fun w' hx => ldE oU oI Z Z Z (CA.ext (hS.cells (i := 1) Z) hx) Z)) ?_
      obtain ⟨t9, ht9, H⟩ := pbind H
      refine OJ.call Z Z (Nat.le_of_ble_eq_true Z) Z Z Z hb1 Z (hf1 t7 _ ht9 _ hS.chg) ?_
      rintro _ w1 ⟨rfl, hs⟩
      replace hS := hS.grow hs
      refine OJ.pures oU 1 Z (OJ.nil (EJ.next ?_))
      refine CJ.cond Z (fun hb => ?_) (fun hb => ?_)
      · replace H := pif_t hb H
        refine CJ.seq (CJ.region ?_)
        refine OJ.pures oU 2 Z ?_
        refine OJ.st Z Z Z (SR.load Z Z (fun w' hx => ldE oU oI Z Z Z (CA.ext (hS.cells (i := 1) Z) hx) Z)) ?_
        obtain ⟨t10, ht10, H⟩ := pbind H
        obtain ⟨ad10, e10⟩ := (hS.rd (i := 0) rfl).some' ht10
        refine OJ.st Z Z Z (SR.idxS oU oI Z Z Z Z e10 Z (getI_some ht10).1) ?_
        refine OJ.es Z Z (Es.storeR oI hS (i := 0) (off := 0) Z Z ht10 e10 Z Z Z Z (vs := cSpot.enc t7) Z (cSpot.len _) (cSpot.one _) (Nat.le_of_ble_eq_true Z) t7 Z) ?_
        intro w1 hS
        refine OJ.as (t := 0) rfl (show _ = (.slice Aa0 (y4.set y5.toNat t7).length ca0 : Value) by simp only [List.length_set]) ?_
        refine OJ.as (t := 17) rfl (show _ = (.slice Aa0 (y4.set y5.toNat t7).length ca0 : Value) by simp only [List.length_set]) ?_
        refine OJ.as (t := 22) rfl (show _ = (.slice Aa0 (y4.set y5.toNat t7).length ca0 : Value) by simp only [List.length_set]) ?_
        refine OJ.as (t := 30) rfl (show _ = (.slice Aa0 (y4.set y5.toNat t7).length ca0 : Value) by simp only [List.length_set]) ?_
        refine OJ.nil (EJ.next ?_)
        refine CJ.region ?_
        refine OJ.pures oU 3 Z ?_
        refine OJ.nil (EJ.blk (EJ.next ?_))
        refine CJ.region ?_
        refine OJ.pures oU 3 Z ?_
        refine OJ.nil ?_
        exact EJ.round k (F' := [(0, .slice Aa0 (y4.set y5.toNat t7).length ca0), (1, .func (.func na1) fsa1 capa1), (5, .int .i64 (IntKind.i64.wrap (y5 + 1))), (6, .int .i64 (IntKind.i64.wrap (y6 + 1)))]) ⟨Z, Z, Z, Z, trivial⟩ (Nat.lt_succ_self _) ⟨(y4.set y5.toNat t7), (IntKind.i64.wrap (y5 + 1)), (IntKind.i64.wrap (y6 + 1)), Z, hS.pick [0] [] Z, H⟩
      · replace H := pifb_f hb H
        refine CJ.skip (EJ.blk (EJ.next ?_))
        refine CJ.region ?_
        refine OJ.pures oU 3 Z ?_
        refine OJ.nil ?_
        exact EJ.round k (F' := [(0, .slice Aa0 y4.length ca0), (1, .func (.func na1) fsa1 capa1), (5, .int .i64 y5), (6, .int .i64 (IntKind.i64.wrap (y6 + 1)))]) ⟨Z, Z, Z, Z, trivial⟩ (Nat.lt_succ_self _) ⟨y4, y5, (IntKind.i64.wrap (y6 + 1)), Z, hS.pick [0] [] Z, H⟩
    · replace H := pif_f (of_decide_eq_false hb) H
      refine CJ.exit (EJ.skE (EJ.skE (EJ.hit (?_))))
      exact EJ.meet (F' := [(0, .slice Aa0 y4.length ca0), (5, .int .i64 y5)]) ⟨Z, Z, trivial⟩ ⟨y4, y5, H, Z, hS.pick [0] [] Z⟩
 rintro F w1 ⟨y2, y3, he, rfl, hS⟩
 obtain rfl := Option.some.inj he
 have H := K155
 refine EJ.next ?_
 refine CJ.seq (CJ.region ?_)
 refine OJ.pures oU 2 Z ?_
 obtain ⟨u11, hu11, H⟩ := pbind H
 refine OJ.st rfl rfl rfl (SR.cutS oU oI (y3.toNat) (y2.length) rfl rfl rfl rfl rfl rfl (.inr ⟨_, _, rfl, (chk_some hu11).1, rfl⟩) (.inl ⟨rfl, rfl⟩) (by have := (chk_some hu11); omega) (by have := (chk_some hu11); have := (hS.le (i := 0) rfl : y2.length ≤ ca0); omega)) ?_
 refine OJ.ewn rfl rfl (Ew.clear oU oI (C := cSpot) (lo := y3.toNat) hS (i := 0) rfl rfl rfl rfl rfl rfl rfl rfl rfl (⟨0, 0⟩ : Spot) rfl (by have := (chk_some hu11); omega) rfl) ?_
 rintro _ w1 ⟨rfl, hS⟩
 refine OJ.as (t := 0) rfl (show _ = (.slice Aa0 (y2.take y3.toNat ++ List.replicate (y2.length - y3.toNat) (⟨0, 0⟩ : Spot)).length ca0 : Value) by (rw [List.length_append, List.length_take, List.length_replicate, Nat.min_eq_left (by have := (chk_some hu11); omega), Nat.add_sub_cancel' (by have := (chk_some hu11); omega)])) ?_
 refine OJ.as (t := 36) rfl (show _ = (.slice Aa0 (y2.take y3.toNat ++ List.replicate (y2.length - y3.toNat) (⟨0, 0⟩ : Spot)).length ca0 : Value) by (rw [List.length_append, List.length_take, List.length_replicate, Nat.min_eq_left (by have := (chk_some hu11); omega), Nat.add_sub_cancel' (by have := (chk_some hu11); omega)])) ?_
 refine OJ.nil (EJ.next ?_)
 refine CJ.seq (CJ.region ?_)
 refine OJ.pures oU 2 Z ?_
 obtain ⟨u12, hu12, H⟩ := pbind H
 refine OJ.st rfl rfl rfl (SR.cut0 oU oI rfl rfl rfl rfl rfl (by have := (chk_some hu12); omega) (by have := (chk_some hu12); have := (hS.le (i := 0) rfl : (y2.take y3.toNat ++ List.replicate (y2.length - y3.toNat) (⟨0, 0⟩ : Spot)).length ≤ ca0); omega)) ?_
 replace hS := hS.shrink (i := 0) (m := y3.toNat) rfl (by have := (chk_some hu12); omega)
 refine OJ.as (t := 41) rfl (show _ = (.slice Aa0 ((y2.take y3.toNat ++ List.replicate (y2.length - y3.toNat) (⟨0, 0⟩ : Spot)).take y3.toNat).length ca0 : Value) by rw [List.length_take, Nat.min_eq_left (by have := (chk_some hu12); omega)]) ?_
 refine OJ.pures oU 1 Z (OJ.nil (EJ.next ?_))
 refine CJ.ret (?_)
 obtain rfl := Option.some.inj H
 exact EJ.fin Z (.tmp Z .nil) ⟨Aa0, ca0, Z, hS.pick [0] [] Z⟩

def impl_SquareOf.f (a0 : Spot) (a1 : Spot) : Option Int := some (IntKind.i64.wrap ((IntKind.i64.wrap ((IntKind.i64.wrap ((IntKind.i64.wrap a0.X) - (IntKind.i64.wrap a1.X))) * (IntKind.i64.wrap ((IntKind.i64.wrap a0.X) - (IntKind.i64.wrap a1.X))))) + (IntKind.i64.wrap ((IntKind.i64.wrap ((IntKind.i64.wrap a0.Y) - (IntKind.i64.wrap a1.Y))) * (IntKind.i64.wrap ((IntKind.i64.wrap a0.Y) - (IntKind.i64.wrap a1.Y)))))))
theorem impl_SquareOf.c (w : World) (a0 : Spot) (a1 : Spot) (r : Int) (H : impl_SquareOf.f a0 a1 = some r) :
 CV Tryz.prog 24 [.agg (cSpot.enc a0).toArray, .agg (cSpot.enc a1).toArray].toArray w fun v w' => v = .int .i64 r ∧ Ext w w' := by
 have hS := (St.init w no)
 unfold impl_SquareOf.f at H
 refine CV.body Tryz.func24 Z Tryz.ntmps24 Z ?_
 refine CJ.seq (CJ.region ?_)
 refine OJ.ef Z Z Z (Ef.box hS Z Z (cSpot.enc a0) Z) ?_
 rintro _ w1 ⟨b1, rfl, hS⟩
 refine OJ.ef Z Z Z (Ef.box hS Z Z (cSpot.enc a1) Z) ?_
 rintro _ w1 ⟨b2, rfl, hS⟩
 refine OJ.pures oU 1 Z (OJ.nil (EJ.next ?_))
 refine CJ.seq ?_
 refine CJ.draw [] [0, 1, 2, 3, 4, 5, 6, 7, 8, 9, 10, 11, 12, 13, 14, 15] mixed (by kernel_rfl) hS fun w1 hS => ?_
 refine DJ.st Z Z Z Z Z (SR.fieldAddr oU oI Z Z Z Z Z Z) ?_
 refine DJ.st Z Z Z Z Z (SR.load Z Z (fun w' hx => ld1 oU Z Z (CA.ext (CA.sub (hS.cells (i := 0) Z) 0) hx) Z)) ?_
 refine DJ.pures oU 1 Z ?_
 refine DJ.st Z Z Z Z Z (SR.fieldAddr oU oI Z Z Z Z Z Z) ?_
 refine DJ.st Z Z Z Z Z (SR.load Z Z (fun w' hx => ld1 oU Z Z (CA.ext (CA.sub (hS.cells (i := 1) Z) 0) hx) Z)) ?_
 refine DJ.pures oU 2 Z ?_
 refine DJ.st Z Z Z Z Z (SR.fieldAddr oU oI Z Z Z Z Z Z) ?_
 refine DJ.st Z Z Z Z Z (SR.load Z Z (fun w' hx => ld1 oU Z Z (CA.ext (CA.sub (hS.cells (i := 0) Z) 1) hx) Z)) ?_
 refine DJ.pures oU 1 Z ?_
 refine DJ.st Z Z Z Z Z (SR.fieldAddr oU oI Z Z Z Z Z Z) ?_
 refine DJ.st Z Z Z Z Z (SR.load Z Z (fun w' hx => ld1 oU Z Z (CA.ext (CA.sub (hS.cells (i := 1) Z) 1) hx) Z)) ?_
 refine DJ.pures oU 4 Z ?_
 refine DJ.nil (EJ.next ?_)
 refine CJ.seq (CJ.region ?_)
 refine OJ.pures oU 8 Z (OJ.nil (EJ.next ?_))
 refine CJ.ret (?_)
 obtain rfl := Option.some.inj H
 exact EJ.fin Z (.tmp Z .nil) ⟨Z, hS.ext⟩

def impl_Pasture_reach_1.f (a1 : Stake) (a0 : Spot) : Option Bool := (impl_SquareOf.f a1.At a0).bind fun t2 => some (decide ((IntKind.i64.wrap a1.Reach) < t2))
theorem impl_Pasture_reach_1.c (w : World) (pa1 : Addr) (a1 : Stake) (hp1 : CA w pa1 (cStake.enc a1)) (a0 : Spot) (r : Bool) (H : impl_Pasture_reach_1.f a1 a0 = some r) :
 CV Tryz.prog 97 [.agg (cSpot.enc a0).toArray, .pointer (some pa1)].toArray w fun v w' => v = .bool r ∧ Ext w w' := by
 have hS := ((St.init w no).paramP pa1 (cStake.enc a1) hp1)
 unfold impl_Pasture_reach_1.f at H
 refine CV.body Tryz.func97 Z Tryz.ntmps97 Z ?_
 refine CJ.seq (CJ.region ?_)
 refine OJ.ef Z Z Z (Ef.box hS Z Z (cSpot.enc a0) Z) ?_
 rintro _ w1 ⟨b1, rfl, hS⟩
 refine OJ.pures oU 1 Z (OJ.nil (EJ.next ?_))
 refine CJ.seq ?_
 refine CJ.draw [] [0, 1, 2, 4, 5, 6, 3, 7, 8] mixed (by kernel_rfl) hS fun w1 hS => ?_
 refine DJ.st Z Z Z Z Z (SR.fieldAddr oU oI Z Z Z Z Z Z) ?_
 refine DJ.st Z Z Z Z Z (SR.load Z Z (fun w' hx => ldN oU oI Z Z Z (CA.ext (CA.sub (hS.ca (i := 0) Z) 0) hx) (cSpot.len _) Z)) ?_
 refine DJ.st Z Z Z Z Z (SR.load Z Z (fun w' hx => ldE oU oI Z Z Z (CA.ext (hS.cells (i := 0) Z) hx) Z)) ?_
 refine DJ.st Z Z Z Z Z (SR.fieldAddr oU oI Z Z Z Z Z Z) ?_
 refine DJ.st Z Z Z Z Z (SR.load Z Z (fun w' hx => ld1 oU Z Z (CA.ext (CA.sub (hS.ca (i := 0) Z) 2) hx) Z)) ?_
 refine DJ.pures oU 1 Z ?_
 obtain ⟨t2, ht2, H⟩ := pbind H
 refine DJ.callF rfl rfl rfl rfl rfl rfl rfl hb24 rfl (impl_SquareOf.c _ a1.At a0 _ ht2) (by rintro v w' ⟨rfl, hs⟩; exact hs) ?_
 rintro _ w1 ⟨rfl, hs⟩
 replace hS := hS.grow hs
 refine DJ.pures oU 2 Z ?_
 refine DJ.nil (EJ.next ?_)
 refine CJ.ret (?_)
 obtain rfl := Option.some.inj H
 exact EJ.fin Z (.tmp Z .nil) ⟨Z, hS.ext⟩

def impl_Pasture_reach.f (k : Nat) (a0 : Pasture) (a1 : Stake) : Option (List Spot) := (impl_Pasture_yard.f k a0 a1.At).bind fun t3 => (slices_DeleteFunc_impl_Spot_impl_Spot.f k t3 (impl_Pasture_reach_1.f a1)).bind fun t6 => some t6
theorem impl_Pasture_reach.c (k : Nat) (w : World) (a0 : Pasture) (a1 : Stake) (r : List Spot) (H : impl_Pasture_reach.f k a0 a1 = some r) :
 CV Tryz.prog 57 [.agg (cPasture.enc a0).toArray, .agg (cStake.enc a1).toArray].toArray w fun v w' => ∃ (A0 : Option Addr) (c0 : Nat), v = .slice A0 r.length c0 ∧ St w no w' [rowC cSpot A0 c0 49 r] [] := by
 have hS := (St.init w no)
 unfold impl_Pasture_reach.f at H
 refine CV.body Tryz.func57 Z Tryz.ntmps57 Z ?_
 refine CJ.seq (CJ.region ?_)
 refine OJ.ef Z Z Z (Ef.box hS Z Z (cPasture.enc a0) Z) ?_
 rintro _ w1 ⟨b1, rfl, hS⟩
 refine OJ.ef Z Z Z (Ef.box hS Z Z (cStake.enc a1) Z) ?_
 rintro _ w1 ⟨b2, rfl, hS⟩
 refine OJ.pures oU 1 Z (OJ.nil (EJ.next ?_))
 refine CJ.seq (CJ.region ?_)
 refine OJ.st Z Z Z (SR.load Z Z (fun w' hx => ldE oU oI Z Z Z (CA.ext (hS.cells (i := 0) Z) hx) Z)) ?_
 refine OJ.st Z Z Z (SR.fieldAddr oU oI Z Z Z Z Z Z) ?_
 refine OJ.st Z Z Z (SR.load Z Z (fun w' hx => ldN oU oI Z Z Z (CA.ext (CA.sub (hS.cells (i := 1) Z) 0) hx) (cSpot.len _) Z)) ?_
 obtain ⟨t3, ht3, H⟩ := pbind H
 refine OJ.callF Z Z Z Z Z hb73 Z (impl_Pasture_yard.c k _ a0 a1.At _ ht3) ?_
 rintro _ w1 ⟨A4, c5, rfl, hs⟩
 replace hS := hS.addN hs
 refine OJ.pures oU 1 Z ?_
 obtain ⟨t6, ht6, H⟩ := pbind H
 refine OJ.callF rfl rfl rfl rfl rfl hb96 rfl (slices_DeleteFunc_impl_Spot_impl_Spot.c k _ A4 c5 t3 97 #[] #[.pointer (some ⟨b2, 0, none⟩)] hb97 (impl_Pasture_reach_1.f a1) (fun z0 r h w' hx => CV.cast (impl_Pasture_reach_1.c w' ⟨b2, 0, none⟩ a1 (box.ca (hS.stayL [2] hx (j := 1) rfl rfl))  z0 r h) (by simp)) ((hS.subs [2] [] [] rfl).pick [0] [] rfl) _ ht6) ?_
 rintro _ w1 ⟨A7, c8, rfl, hs⟩
 replace hS := hS.back' [] [2] rfl rfl [] [rowC cSpot A7 c8 49 t6] [] hs trivial (fun _ h => by cases h) (.inr rfl)
 refine OJ.pures oU 1 Z (OJ.nil (EJ.next ?_))
 refine CJ.ret (?_)
 obtain rfl := Option.some.inj H
 exact EJ.fin Z (.tmp Z .nil) ⟨A7, c8, Z, hS.pick [3] [] Z⟩

def impl_Pasture_reaches.l1 (a0 : Pasture) (a1 : List Stake) : Nat → (List (List Spot)) → Int → Option (List (List Spot))
  | 0, _, _ => none
  | k + 1, y7, y11 => if y11 < (a1.length : Int) then ((getI a1 y11).bind fun t12 => (impl_Pasture_reach.f k a0 t12).bind fun t14 => (chk (y7.length + [t14].length ≤ 4294967296)).bind fun u18 => impl_Pasture_reaches.l1 a0 a1 k (y7 ++ [t14]) (IntKind.i64.wrap (y11 + 1))) else (some y7)
def impl_Pasture_reaches.f (k : Nat) (a0 : Pasture) (a1 : List Stake) : Option (List (List Spot)) := (impl_Pasture_reaches.l1 a0 a1 k ([] : List (List Spot)) 0).bind fun y3 => some y3
theorem impl_Pasture_reaches.c (k : Nat) (w : World) (a0 : Pasture) (Aa1 : Option Addr) (ca1 : Nat) (a1 : List Stake) (hr1 : Rd cStake w Aa1 a1) (hc1 : a1.length ≤ ca1) (r : List (List Spot)) (H : impl_Pasture_reaches.f k a0 a1 = some r) :
 CV Tryz.prog 47 [.agg (cPasture.enc a0).toArray, .slice Aa1 a1.length ca1].toArray w fun v w' => ∃ (A0 : Option Addr) (c0 : Nat) (D0 : List SH), v = .slice A0 r.length c0 ∧ St w no w' [rowsC cSpot A0 c0 41 49 D0 r] [] := by
 have hS := ((St.init w no).param cStake Aa1 ca1 a1 hr1 hc1)
 unfold impl_Pasture_reaches.f at H
 refine CV.body Tryz.func47 Z Tryz.ntmps47 Z ?_
 refine CJ.seq (CJ.region ?_)
 refine OJ.ef Z Z Z (Ef.box hS Z Z (cPasture.enc a0) Z) ?_
 rintro _ w1 ⟨b1, rfl, hS⟩
 refine OJ.pures oU 1 Z (OJ.nil (EJ.next ?_))
 refine CJ.seq (CJ.region ?_)
 refine OJ.ef Z Z Z (Ef.litS0 (e := 49) oU oI hS Z Z Z Z cSpot) ?_
 rintro _ w1 ⟨A2, rfl, hS⟩
 refine OJ.pures oU 1 Z (OJ.nil (EJ.next ?_))
 refine CJ.seq ?_
 refine CJ.seq (CJ.region ?_)
 refine OJ.pures oU 3 Z (OJ.nil (EJ.next ?_))
 obtain ⟨j103, H, K103⟩ := pbind H
 refine CJ.cut1 (fun F w1 => ∃ (y3 : List (List Spot)) (A4 : Option Addr) (c5 : Nat) (D6 : List SH), (some y3 : Option (List (List Spot))) = some j103 ∧ F = [(5, .slice A4 y3.length c5)] ∧ St w no w1 [rowsC cSpot A4 c5 41 49 D6 y3] [roC cStake Aa1 ca1 a1]) ?_ ?_
 ·skip
  refine CJ.block ?_
  refine CJ.loop (fun k F w1 => ∃ (y7 : List (List Spot)) (y11 : Int) (A8 : Option Addr) (c9 : Nat) (D10 : List SH), F = [(2, .pointer (some ⟨b1, 0, none⟩)), (5, .slice A8 y7.length c9), (9, .slice Aa1 a1.length ca1), (10, .int .i64 (a1.length : Int)), (11, .int .i64 y11)] ∧ St w no w1 [box b1 (cPasture.enc a0) 31, rowsC cSpot A8 c9 41 49 D10 y7] [roC cStake Aa1 ca1 a1] ∧ impl_Pasture_reaches.l1 a0 a1 k y7 y11 = some j103) k (F' := [(2, .pointer (some ⟨b1, 0, none⟩)), (5, .slice A2 ([] : List (List Spot)).length (([] : List (List Spot)).length)), (9, .slice Aa1 a1.length ca1), (10, .int .i64 (a1.length : Int)), (11, .int .i64 0)]) ⟨Z, Z, Z, Z, Z, trivial⟩ ⟨([] : List (List Spot)), 0, A2, (([] : List (List Spot)).length), [], Z, hS.pick [0, 1] [0] Z, H⟩ ?_
  rintro k F w1 ⟨y7, y11, A8, c9, D10, rfl, hS, H⟩
  cases k with
  | zero => rw [impl_Pasture_reaches.l1] at H; cases H
  | succ k =>
    rw [impl_Pasture_reaches.l1] at H
    refine CJ.seq (CJ.region ?_)
    refine OJ.pures oU 1 Z (OJ.nil (EJ.next ?_))
    refine CJ.seq ?_
    refine CJ.cond Z (fun hb => ?_) (fun hb => ?_)
    · replace H := pif_t (of_decide_eq_true hb) H
      refine CJ.skip (EJ.next ?_)
      refine CJ.seq ?_
      refine CJ.block ?_
      refine CJ.seq (CJ.region ?_)
      obtain ⟨t12, ht12, H⟩ := pbind H
      obtain ⟨ad12, e12⟩ := (hS.rd' (i := 0) rfl).some' ht12
      refine OJ.st Z Z Z (SR.idxS oU oI Z Z Z Z e12 Z (getI_some ht12).1) ?_
      refine OJ.st Z Z Z (SR.load Z Z (fun w' hx => ldE oU oI Z Z Z (CA.ext ((hS.rd' (i := 0) Z).at_ e12 ht12) hx) Z)) ?_
      refine OJ.ef Z Z Z (Ef.alloc hS oI Z Z (cStake.enc (⟨(⟨0, 0⟩ : Spot), 0⟩ : Stake)) Z) ?_
      rintro _ w1 ⟨b13, rfl, hS⟩
      refine OJ.es Z Z (Es.store oI hS (i := 2) Z Z Z Z Z Z (vs := cStake.enc t12) Z (cStake.len _) (cStake.one _) (Nat.le_of_ble_eq_true Z) (cStake.enc t12) Z) ?_
      intro w1 hS
      refine OJ.nil (EJ.next ?_)
      refine CJ.region ?_
      refine OJ.pures oU 1 Z ?_
      refine OJ.st Z Z Z (SR.load Z Z (fun w' hx => ldE oU oI Z Z Z (CA.ext (hS.cells (i := 0) Z) hx) Z)) ?_
      refine OJ.st Z Z Z (SR.load Z Z (fun w' hx => ldE oU oI Z Z Z (CA.ext (hS.cells (i := 2) Z) hx) Z)) ?_
      obtain ⟨t14, ht14, H⟩ := pbind H
      refine OJ.callF Z Z Z Z Z hb57 Z (impl_Pasture_reach.c k _ a0 t12 _ ht14) ?_
      rintro _ w1 ⟨A15, c16, rfl, hs⟩
      replace hS := hS.addN hs
      refine OJ.ef Z Z Z (Ef.litS1 (C := cSpot) oU oI hS (k := 3) Z Z Z Z Z Z) ?_
      rintro _ w1 ⟨A17, rfl, hS⟩
      obtain ⟨u18, hu18, H⟩ := pbind H
      have hdl := (hS.rowsRo (i := 1) rfl).1
      have dd21 := subD (D := D10) hdl (show ([(A15, c16)] : List SH)[0]? = _ from rfl)
      have xd21 := subD (D := y7) rfl (show ([t14] : List (List Spot))[0]? = _ from rfl)
      refine OJ.ew Z Z Z (Ew.appendS oU oI hS (i := 1) (j := 4) Z Z Z Z Z Z Z Z Z Z Z Z Z Z (chk_some hu18)) ?_
      rintro _ w1 ⟨A19, c20, rfl, hS⟩
      refine OJ.pures oU 1 Z ?_
      refine OJ.nil (EJ.blk (EJ.next ?_))
      refine CJ.region ?_
      refine OJ.pures oU 2 Z ?_
      refine OJ.nil ?_
      exact EJ.round k (F' := [(2, .pointer (some ⟨b1, 0, none⟩)), (5, .slice A19 (y7 ++ [t14]).length c20), (9, .slice Aa1 a1.length ca1), (10, .int .i64 (a1.length : Int)), (11, .int .i64 (IntKind.i64.wrap (y11 + 1)))]) ⟨Z, Z, Z, Z, Z, trivial⟩ (Nat.lt_succ_self _) ⟨(y7 ++ [t14]), (IntKind.i64.wrap (y11 + 1)), A19, c20, (D10 ++ [(A15, c16)]), Z, hS.pick [0, 1] [0] Z, H⟩
    · replace H := pif_f (of_decide_eq_false hb) H
      refine CJ.exit (EJ.skE (EJ.skE (EJ.hit (?_))))
      exact EJ.meet (F' := [(5, .slice A8 y7.length c9)]) ⟨Z, trivial⟩ ⟨y7, A8, c9, D10, H, Z, hS.pick [1] [0] Z⟩
 rintro F w1 ⟨y3, A4, c5, D6, he, rfl, hS⟩
 obtain rfl := Option.some.inj he
 have H := K103
 refine EJ.next ?_
 refine CJ.seq (CJ.region ?_)
 refine OJ.pures oU 2 Z (OJ.nil (EJ.next ?_))
 refine CJ.ret (?_)
 obtain rfl := Option.some.inj H
 exact EJ.fin Z (.tmp Z .nil) ⟨A4, c5, D6, Z, hS.pick [0] [] Z⟩

def slices_Index_impl_Spot_impl_Spot.l1 (a0 : List Spot) (a1 : Spot) : Nat → Int → Option (Int ⊕ Unit)
  | 0, _ => none
  | k + 1, y2 => if y2 < (a0.length : Int) then ((getI a0 y2).bind fun t3 => if a1 = t3 then (some (Sum.inl y2)) else (slices_Index_impl_Spot_impl_Spot.l1 a0 a1 k (IntKind.i64.wrap (y2 + 1)))) else (some (Sum.inr ()))
def slices_Index_impl_Spot_impl_Spot.f (k : Nat) (a0 : List Spot) (a1 : Spot) : Option Int := (slices_Index_impl_Spot_impl_Spot.l1 a0 a1 k 0).bind fun s159 => match s159 with | .inl r => some r | .inr _ => some (-1)
theorem slices_Index_impl_Spot_impl_Spot.c (k : Nat) (w : World) (Aa0 : Option Addr) (ca0 : Nat) (a0 : List Spot) (hr0 : Rd cSpot w Aa0 a0) (hc0 : a0.length ≤ ca0) (a1 : Spot) (r : Int) (H : slices_Index_impl_Spot_impl_Spot.f k a0 a1 = some r) :
 CV Tryz.prog 123 [.slice Aa0 a0.length ca0, .agg (cSpot.enc a1).toArray].toArray w fun v w' => v = .int .i64 r ∧ Ext w w' := by
 have hS := ((St.init w no).param cSpot Aa0 ca0 a0 hr0 hc0)
 unfold slices_Index_impl_Spot_impl_Spot.f at H
 refine CV.body Tryz.func123 Z Tryz.ntmps123 Z ?_
 refine CJ.seq (CJ.region ?_)
 refine OJ.ef Z Z Z (Ef.box hS Z Z (cSpot.enc a1) Z) ?_
 rintro _ w1 ⟨b1, rfl, hS⟩
 refine OJ.pures oU 1 Z (OJ.nil (EJ.next ?_))
 refine CJ.seq ?_
 refine CJ.seq (CJ.region ?_)
 refine OJ.pures oU 3 Z (OJ.nil (EJ.next ?_))
 obtain ⟨j159, H, K159⟩ := pbind H
 refine CJ.cut1 (fun F w1 => (some (Sum.inr ()) : Option (Int ⊕ Unit)) = some j159 ∧ F = [] ∧ St w no w1 [] [roC cSpot Aa0 ca0 a0]) ?_ ?_
 ·skip
  refine CJ.block ?_
  refine CJ.loop (fun k F w1 => ∃ (y2 : Int), F = [(0, .slice Aa0 a0.length ca0), (3, .pointer (some ⟨b1, 0, none⟩)), (7, .int .i64 (a0.length : Int)), (8, .int .i64 y2)] ∧ St w no w1 [box b1 (cSpot.enc a1) 49] [roC cSpot Aa0 ca0 a0] ∧ slices_Index_impl_Spot_impl_Spot.l1 a0 a1 k y2 = some j159) k (F' := [(0, .slice Aa0 a0.length ca0), (3, .pointer (some ⟨b1, 0, none⟩)), (7, .int .i64 (a0.length : Int)), (8, .int .i64 0)]) ⟨Z, Z, Z, Z, trivial⟩ ⟨0, Z, hS.pick [0] [0] Z, H⟩ ?_
  rintro k F w1 ⟨y2, rfl, hS, H⟩
  cases k with
  | zero => rw [slices_Index_impl_Spot_impl_Spot.l1] at H; cases H
  | succ k =>
    rw [slices_Index_impl_Spot_impl_Spot.l1] at H
    refine CJ.seq (CJ.region ?_)
    refine OJ.pures oU 1 Z (OJ.nil (EJ.next ?_))
    refine CJ.seq ?_
    refine CJ.cond Z (fun hb => ?_) (fun hb => ?_)
    · replace H := pif_t (of_decide_eq_true hb) H
      refine CJ.skip (EJ.next ?_)
      refine CJ.seq ?_
      refine CJ.block ?_
      refine CJ.seq (CJ.region ?_)
      refine OJ.pures oU 2 Z (OJ.nil (EJ.next ?_))
      refine CJ.seq ?_
      refine CJ.draw [] [0, 1, 2, 3, 4, 5] mixed (by kernel_rfl) hS fun w1 hS => ?_
      refine DJ.st Z Z Z Z Z (SR.load Z Z (fun w' hx => ldE oU oI Z Z Z (CA.ext (hS.cells (i := 0) Z) hx) Z)) ?_
      refine DJ.pures oU 2 Z ?_
      obtain ⟨t3, ht3, H⟩ := pbind H
      obtain ⟨ad3, e3⟩ := (hS.rd' (i := 0) rfl).some' ht3
      refine DJ.st Z Z Z Z Z (SR.idxS oU oI Z Z Z Z e3 Z (getI_some ht3).1) ?_
      refine DJ.st Z Z Z Z Z (SR.load Z Z (fun w' hx => ldE oU oI Z Z Z (CA.ext ((hS.rd' (i := 0) Z).at_ e3 ht3) hx) Z)) ?_
      refine DJ.st Z Z Z Z Z (SR.eqS eqT49 eqG49 Z Z Z (Z : _ = (cSpot.enc a1).toArray) (Z : _ = (cSpot.enc t3).toArray)) ?_
      refine DJ.nil (EJ.next ?_)
      refine CJ.cond Z (fun hb => ?_) (fun hb => ?_)
      · replace H := pif_t (of_decide_eq_true hb) H
        refine CJ.seq (CJ.region ?_)
        refine OJ.pures oU 2 Z (OJ.nil (EJ.next ?_))
        refine CJ.ret (EJ.bkR (EJ.skR (EJ.skR (EJ.bkR (EJ.skR (EJ.skR (?_)))))))
        first | (obtain rfl := Option.some.inj H; have H := K159) | (obtain ⟨q159, H2, e159⟩ := pbind H; obtain rfl := Option.some.inj e159; obtain rfl := Option.some.inj K159; have H := H2)
        obtain rfl := Option.some.inj H
        exact EJ.fin Z (.tmp Z .nil) ⟨Z, hS.ext⟩
      · replace H := pif_f (of_decide_eq_false hb) H
        refine CJ.skip (EJ.blk (EJ.next ?_))
        refine CJ.region ?_
        refine OJ.pures oU 2 Z ?_
        refine OJ.nil ?_
        exact EJ.round k (F' := [(0, .slice Aa0 a0.length ca0), (3, .pointer (some ⟨b1, 0, none⟩)), (7, .int .i64 (a0.length : Int)), (8, .int .i64 (IntKind.i64.wrap (y2 + 1)))]) ⟨Z, Z, Z, Z, trivial⟩ (Nat.lt_succ_self _) ⟨(IntKind.i64.wrap (y2 + 1)), Z, hS.pick [0] [0] Z, H⟩
    · replace H := pif_f (of_decide_eq_false hb) H
      refine CJ.exit (EJ.skE (EJ.skE (EJ.hit (?_))))
      exact EJ.meet (F' := []) trivial ⟨H, Z, hS.pick [] [0] Z⟩
 rintro F w1 ⟨he, rfl, hS⟩
 obtain rfl := Option.some.inj he
 have H := K159
 refine EJ.next ?_
 refine CJ.seq (CJ.region ?_)
 refine OJ.pures oU 1 Z (OJ.nil (EJ.next ?_))
 refine CJ.ret (?_)
 obtain rfl := Option.some.inj H
 exact EJ.fin Z (.tmp Z .nil) ⟨Z, hS.ext⟩

def slices_Contains_impl_Spot_impl_Spot.f (k : Nat) (a0 : List Spot) (a1 : Spot) : Option Bool := (slices_Index_impl_Spot_impl_Spot.f k a0 a1).bind fun t2 => some (decide (0 ≤ t2))
theorem slices_Contains_impl_Spot_impl_Spot.c (k : Nat) (w : World) (Aa0 : Option Addr) (ca0 : Nat) (a0 : List Spot) (hr0 : Rd cSpot w Aa0 a0) (hc0 : a0.length ≤ ca0) (a1 : Spot) (r : Bool) (H : slices_Contains_impl_Spot_impl_Spot.f k a0 a1 = some r) :
 CV Tryz.prog 102 [.slice Aa0 a0.length ca0, .agg (cSpot.enc a1).toArray].toArray w fun v w' => v = .bool r ∧ Ext w w' := by
 have hS := ((St.init w no).param cSpot Aa0 ca0 a0 hr0 hc0)
 unfold slices_Contains_impl_Spot_impl_Spot.f at H
 refine CV.body Tryz.func102 Z Tryz.ntmps102 Z ?_
 refine CJ.seq (CJ.region ?_)
 refine OJ.ef Z Z Z (Ef.box hS Z Z (cSpot.enc a1) Z) ?_
 rintro _ w1 ⟨b1, rfl, hS⟩
 refine OJ.pures oU 1 Z (OJ.nil (EJ.next ?_))
 refine CJ.seq (CJ.region ?_)
 refine OJ.pures oU 1 Z ?_
 refine OJ.st Z Z Z (SR.load Z Z (fun w' hx => ldE oU oI Z Z Z (CA.ext (hS.cells (i := 0) Z) hx) Z)) ?_
 obtain ⟨t2, ht2, H⟩ := pbind H
 refine OJ.callF Z Z Z Z Z hb123 Z (slices_Index_impl_Spot_impl_Spot.c k _ Aa0 ca0 a0 (hS.rd' (i := 0) Z) (hS.le' (i := 0) Z) a1 _ ht2) ?_
 rintro _ w1 ⟨rfl, hs⟩
 replace hS := hS.grow hs
 refine OJ.pures oU 2 Z (OJ.nil (EJ.next ?_))
 refine CJ.ret (?_)
 obtain rfl := Option.some.inj H
 exact EJ.fin Z (.tmp Z .nil) ⟨Z, hS.ext⟩

def impl_common_1.f (k : Nat) (a1 : List Spot) (a0 : Spot) : Option Bool := (slices_Contains_impl_Spot_impl_Spot.f k a1 a0).bind fun t2 => some (!t2)
theorem impl_common_1.c (k : Nat) (w : World) (Aa1 : Option Addr) (ca1 : Nat) (a1 : List Spot) (hr1 : Rd cSpot w Aa1 a1) (hc1 : a1.length ≤ ca1) (pa1 : Addr) (hp1 : CA w pa1 [.slice Aa1 a1.length ca1]) (a0 : Spot) (r : Bool) (H : impl_common_1.f k a1 a0 = some r) :
 CV Tryz.prog 101 [.agg (cSpot.enc a0).toArray, .pointer (some pa1)].toArray w fun v w' => v = .bool r ∧ Ext w w' := by
 have hS := (((St.init w no).param cSpot Aa1 ca1 a1 hr1 hc1).paramP pa1 [.slice Aa1 a1.length ca1] hp1)
 unfold impl_common_1.f at H
 refine CV.body Tryz.func101 Z Tryz.ntmps101 Z ?_
 refine CJ.seq (CJ.region ?_)
 refine OJ.ef Z Z Z (Ef.box hS Z Z (cSpot.enc a0) Z) ?_
 rintro _ w1 ⟨b1, rfl, hS⟩
 refine OJ.pures oU 1 Z (OJ.nil (EJ.next ?_))
 refine CJ.seq (CJ.region ?_)
 refine OJ.st Z Z Z (SR.load Z Z (fun w' hx => ld1 oU Z Z (CA.ext (hS.ca (i := 1) Z) hx) Z)) ?_
 refine OJ.st Z Z Z (SR.load Z Z (fun w' hx => ldE oU oI Z Z Z (CA.ext (hS.cells (i := 0) Z) hx) Z)) ?_
 obtain ⟨t2, ht2, H⟩ := pbind H
 refine OJ.callF Z Z Z Z Z hb102 Z (slices_Contains_impl_Spot_impl_Spot.c k _ Aa1 ca1 a1 (hS.rd' (i := 0) Z) (hS.le' (i := 0) Z) a0 _ ht2) ?_
 rintro _ w1 ⟨rfl, hs⟩
 replace hS := hS.grow hs
 refine OJ.pures oU 2 Z (OJ.nil (EJ.next ?_))
 refine CJ.ret (?_)
 obtain rfl := Option.some.inj H
 exact EJ.fin Z (.tmp Z .nil) ⟨Z, hS.ext⟩

def impl_common.f (k : Nat) (a0 : List Spot) (a1 : List Spot) : Option (List Spot) := (slices_Clone_impl_Spot_impl_Spot.f a0).bind fun t2 => (slices_DeleteFunc_impl_Spot_impl_Spot.f k t2 (impl_common_1.f k a1)).bind fun t5 => some t5
theorem impl_common.c (k : Nat) (w : World) (Aa0 : Option Addr) (ca0 : Nat) (a0 : List Spot) (hr0 : Rd cSpot w Aa0 a0) (hc0 : a0.length ≤ ca0) (Aa1 : Option Addr) (ca1 : Nat) (a1 : List Spot) (hr1 : Rd cSpot w Aa1 a1) (hc1 : a1.length ≤ ca1) (r : List Spot) (H : impl_common.f k a0 a1 = some r) :
 CV Tryz.prog 67 [.slice Aa0 a0.length ca0, .slice Aa1 a1.length ca1].toArray w fun v w' => ∃ (A0 : Option Addr) (c0 : Nat), v = .slice A0 r.length c0 ∧ St w no w' [rowC cSpot A0 c0 49 r] [] := by
 have hS := (((St.init w no).param cSpot Aa0 ca0 a0 hr0 hc0).param cSpot Aa1 ca1 a1 hr1 hc1)
 unfold impl_common.f at H
 refine CV.body Tryz.func67 Z Tryz.ntmps67 Z ?_
 refine CJ.seq (CJ.region ?_)
 refine OJ.ef Z Z Z (Ef.box hS Z Z ([.slice Aa1 a1.length ca1]) Z) ?_
 rintro _ w1 ⟨b1, rfl, hS⟩
 refine OJ.pures oU 1 Z (OJ.nil (EJ.next ?_))
 refine CJ.seq (CJ.region ?_)
 refine OJ.pures oU 1 Z ?_
 obtain ⟨t2, ht2, H⟩ := pbind H
 refine OJ.callF Z Z Z Z Z hb100 Z (slices_Clone_impl_Spot_impl_Spot.c _ Aa0 ca0 a0 (hS.rd' (i := 0) Z) (hS.le' (i := 0) Z) _ ht2) ?_
 rintro _ w1 ⟨A3, c4, rfl, hs⟩
 replace hS := hS.addN hs
 refine OJ.pures oU 1 Z ?_
 obtain ⟨t5, ht5, H⟩ := pbind H
 refine OJ.callF rfl rfl rfl rfl rfl hb96 rfl (slices_DeleteFunc_impl_Spot_impl_Spot.c k _ A3 c4 t2 101 #[] #[.pointer (some ⟨b1, 0, none⟩)] hb101 (impl_common_1.f k a1) (fun z0 r h w' hx => CV.cast (impl_common_1.c k w' Aa1 ca1 a1 (roC.rd (hS.stayR [1] hx (j := 1) rfl)) (hS.le' (i := 1) rfl) ⟨b1, 0, none⟩ (box.ca (hS.stayL [1] hx (j := 0) rfl rfl))  z0 r h) (by simp)) ((hS.subs [1] [] [] rfl).pick [0] [] rfl) _ ht5) ?_
 rintro _ w1 ⟨A6, c7, rfl, hs⟩
 replace hS := hS.back' [] [1] rfl rfl [] [rowC cSpot A6 c7 49 t5] [] hs trivial (fun _ h => by cases h) (.inr rfl)
 refine OJ.pures oU 1 Z (OJ.nil (EJ.next ?_))
 refine CJ.ret (?_)
 obtain rfl := Option.some.inj H
 exact EJ.fin Z (.tmp Z .nil) ⟨A6, c7, Z, hS.pick [2] [] Z⟩

def impl_pairs.l2 (a0 : List (List Spot)) (y8 : Int) (t12 : List Spot) : Nat → (List (Arr 2 Int)) → Int → Option (List (Arr 2 Int))
  | 0, _, _ => none
  | k + 1, y16, y19 => if y19 < (a0.length : Int) then ((getI a0 y19).bind fun t20 => (impl_common.f k t12 t20).bind fun t21 => if 0 < (t21.length : Int) then ((chk (y16.length + ([(⟨[y8, y19], rfl⟩ : Arr 2 Int)] : List (Arr 2 Int)).length ≤ 4294967296)).bind fun u25 => impl_pairs.l2 a0 y8 t12 k (y16 ++ ([(⟨[y8, y19], rfl⟩ : Arr 2 Int)] : List (Arr 2 Int))) (IntKind.i64.wrap (y19 + 1))) else (impl_pairs.l2 a0 y8 t12 k y16 (IntKind.i64.wrap (y19 + 1)))) else (some y16)
def impl_pairs.l1 (a0 : List (List Spot)) : Nat → (List (Arr 2 Int)) → Int → Option (List (Arr 2 Int))
  | 0, _, _ => none
  | k + 1, y5, y8 => if y8 < (a0.length : Int) then (((getI a0 y8).bind fun t12 => (impl_pairs.l2 a0 y8 t12 k y5 (IntKind.i64.wrap (y8 + 1))).bind fun y13 => some y13).bind fun y9 => impl_pairs.l1 a0 k y9 (IntKind.i64.wrap (y8 + 1))) else (some y5)
def impl_pairs.f (k : Nat) (a0 : List (List Spot)) : Option (List (Arr 2 Int)) := (impl_pairs.l1 a0 k ([] : List (Arr 2 Int)) 0).bind fun y2 => some y2
theorem impl_pairs.c (k : Nat) (w : World) (Aa0 : Option Addr) (ca0 : Nat) (Da0 : List SH) (a0 : List (List Spot)) (hr0 : (rosC cSpot Aa0 ca0 Da0 a0).holds w) (r : List (Arr 2 Int)) (H : impl_pairs.f k a0 = some r) :
 CV Tryz.prog 46 [.slice Aa0 a0.length ca0].toArray w fun v w' => ∃ (A0 : Option Addr) (c0 : Nat), v = .slice A0 r.length c0 ∧ St w no w' [rowC (carr 2 (ci .i64)) A0 c0 61 r] [] := by
 have hS := ((St.init w no).paramC (rosC cSpot Aa0 ca0 Da0 a0) hr0)
 unfold impl_pairs.f at H
 refine CV.body Tryz.func46 Z Tryz.ntmps46 Z ?_
 refine CJ.seq (CJ.region ?_)
 refine OJ.pures oU 1 Z (OJ.nil (EJ.next ?_))
 refine CJ.seq (CJ.region ?_)
 refine OJ.ef Z Z Z (Ef.lit oU oI hS (C := (carr 2 (ci .i64))) Z Z Z Z Z Z ([] : List (Arr 2 Int)) Z Z Z Z) ?_
 rintro _ w1 ⟨A1, rfl, hS⟩
 refine OJ.pures oU 1 Z (OJ.nil (EJ.next ?_))
 refine CJ.seq ?_
 refine CJ.seq (CJ.region ?_)
 refine OJ.pures oU 3 Z (OJ.nil (EJ.next ?_))
 obtain ⟨j156, H, K156⟩ := pbind H
 refine CJ.cut1 (fun F w1 => ∃ (y2 : List (Arr 2 Int)) (A3 : Option Addr) (c4 : Nat), (some y2 : Option (List (Arr 2 Int))) = some j156 ∧ F = [(3, .slice A3 y2.length c4)] ∧ St w no w1 [rowC (carr 2 (ci .i64)) A3 c4 61 y2] [rosC cSpot Aa0 ca0 Da0 a0]) ?_ ?_
 ·skip
  refine CJ.block ?_
  refine CJ.loop (fun k F w1 => ∃ (y5 : List (Arr 2 Int)) (y8 : Int) (A6 : Option Addr) (c7 : Nat), F = [(0, .slice Aa0 a0.length ca0), (3, .slice A6 y5.length c7), (8, .slice Aa0 a0.length ca0), (9, .int .i64 (a0.length : Int)), (10, .int .i64 y8)] ∧ St w no w1 [rowC (carr 2 (ci .i64)) A6 c7 61 y5] [rosC cSpot Aa0 ca0 Da0 a0] ∧ impl_pairs.l1 a0 k y5 y8 = some j156) k (F' := [(0, .slice Aa0 a0.length ca0), (3, .slice A1 ([] : List (Arr 2 Int)).length (([] : List (Arr 2 Int)).length)), (8, .slice Aa0 a0.length ca0), (9, .int .i64 (a0.length : Int)), (10, .int .i64 0)]) ⟨Z, Z, Z, Z, Z, trivial⟩ ⟨([] : List (Arr 2 Int)), 0, A1, (([] : List (Arr 2 Int)).length), Z, hS.pick [0] [0] Z, H⟩ ?_
  rintro k F w1 ⟨y5, y8, A6, c7, rfl, hS, H⟩
  cases k with
  | zero => rw [impl_pairs.l1] at H; cases H
  | succ k =>
    rw [impl_pairs.l1] at H
    refine CJ.seq (CJ.region ?_)
    refine OJ.pures oU 1 Z (OJ.nil (EJ.next ?_))
    refine CJ.seq ?_
    refine CJ.cond Z (fun hb => ?_) (fun hb => ?_)
    · replace H := pif_t (of_decide_eq_true hb) H
      refine CJ.skip (EJ.next ?_)
      obtain ⟨j164, H, K164⟩ := pbind H
      refine CJ.cut (fun F w1 => ∃ (y9 : List (Arr 2 Int)) (A10 : Option Addr) (c11 : Nat), (some y9 : Option (List (Arr 2 Int))) = some j164 ∧ F = [(0, .slice Aa0 a0.length ca0), (3, .slice A10 y9.length c11), (8, .slice Aa0 a0.length ca0), (9, .int .i64 (a0.length : Int)), (10, .int .i64 y8)] ∧ St w no w1 [rowC (carr 2 (ci .i64)) A10 c11 61 y9] [rosC cSpot Aa0 ca0 Da0 a0]) ?_ ?_
      · skip
        refine CJ.block ?_
        refine CJ.seq (CJ.region ?_)
        refine OJ.pures oU 1 Z ?_
        obtain ⟨t12, ht12, H⟩ := pbind H
        obtain ⟨Ae12, ce12, g12, d12, hx12⟩ := ros_el (hS.rosH (i := 0) rfl) ht12
        obtain ⟨ad12, e12⟩ := (ros_rd (hS.rosH (i := 0) rfl)).some' g12
        refine OJ.st Z Z Z (SR.idxS oU oI Z Z Z Z e12 Z (getI_some ht12).1) ?_
        refine OJ.st Z Z Z (SR.load Z Z (fun w' hx => ld1 oU Z Z (CA.ext ((ros_rd (hS.rosH (i := 0) Z)).at_ e12 g12) hx) Z)) ?_
        refine OJ.pures oU 2 Z (OJ.nil (EJ.next ?_))
        refine CJ.seq (CJ.region ?_)
        refine OJ.pures oU 3 Z (OJ.nil (EJ.next ?_))
        obtain ⟨j166, H, K166⟩ := pbind H
        refine CJ.cut1 (fun F w1 => ∃ (y13 : List (Arr 2 Int)) (A14 : Option Addr) (c15 : Nat), (some y13 : Option (List (Arr 2 Int))) = some j166 ∧ F = [(0, .slice Aa0 a0.length ca0), (3, .slice A14 y13.length c15), (8, .slice Aa0 a0.length ca0), (9, .int .i64 (a0.length : Int)), (10, .int .i64 y8)] ∧ St w no w1 [rowC (carr 2 (ci .i64)) A14 c15 61 y13] [rosC cSpot Aa0 ca0 Da0 a0]) ?_ ?_
        · skip
          refine CJ.block ?_
          refine CJ.loop (fun k F w1 => ∃ (y16 : List (Arr 2 Int)) (y19 : Int) (A17 : Option Addr) (c18 : Nat), F = [(0, .slice Aa0 a0.length ca0), (3, .slice A17 y16.length c18), (4, .int .i64 y8), (5, .slice Ae12 t12.length ce12), (6, .int .i64 y19), (8, .slice Aa0 a0.length ca0), (9, .int .i64 (a0.length : Int)), (10, .int .i64 y8)] ∧ St w no w1 [rowC (carr 2 (ci .i64)) A17 c18 61 y16] [rosC cSpot Aa0 ca0 Da0 a0] ∧ impl_pairs.l2 a0 y8 t12 k y16 y19 = some j166) k (F' := [(0, .slice Aa0 a0.length ca0), (3, .slice A6 y5.length c7), (4, .int .i64 y8), (5, .slice Ae12 t12.length ce12), (6, .int .i64 (IntKind.i64.wrap (y8 + 1))), (8, .slice Aa0 a0.length ca0), (9, .int .i64 (a0.length : Int)), (10, .int .i64 y8)]) ⟨Z, Z, Z, Z, Z, Z, Z, Z, trivial⟩ ⟨y5, (IntKind.i64.wrap (y8 + 1)), A6, c7, Z, hS.pick [0] [0] Z, H⟩ ?_
          rintro k F w1 ⟨y16, y19, A17, c18, rfl, hS, H⟩
          cases k with
          | zero => rw [impl_pairs.l2] at H; cases H
          | succ k =>
            rw [impl_pairs.l2] at H
            refine CJ.seq ?_
            refine CJ.seq (CJ.region ?_)
            refine OJ.pures oU 4 Z (OJ.nil (EJ.next ?_))
            refine CJ.cond Z (fun hb => ?_) (fun hb => ?_)
            · replace H := pif_t (of_decide_eq_true hb) H
              refine CJ.skip (EJ.next ?_)
              refine CJ.seq ?_
              refine CJ.block ?_
              refine CJ.seq (CJ.region ?_)
              refine OJ.pures oU 3 Z ?_
              obtain ⟨t20, ht20, H⟩ := pbind H
              obtain ⟨Ae20, ce20, g20, d20, hx20⟩ := ros_el (hS.rosH (i := 0) rfl) ht20
              obtain ⟨ad20, e20⟩ := (ros_rd (hS.rosH (i := 0) rfl)).some' g20
              refine OJ.st Z Z Z (SR.idxS oU oI Z Z Z Z e20 Z (getI_some ht20).1) ?_
              refine OJ.st Z Z Z (SR.load Z Z (fun w' hx => ld1 oU Z Z (CA.ext ((ros_rd (hS.rosH (i := 0) Z)).at_ e20 g20) hx) Z)) ?_
              obtain ⟨t21, ht21, H⟩ := pbind H
              refine OJ.callF Z Z Z Z Z hb67 Z (impl_common.c k _ Ae12 ce12 t12 (ros_sub (hS.rosH (i := 0) Z) d12 hx12) (ros_subLe (hS.rosH (i := 0) Z) d12 hx12) Ae20 ce20 t20 (ros_sub (hS.rosH (i := 0) Z) d20 hx20) (ros_subLe (hS.rosH (i := 0) Z) d20 hx20) _ ht21) ?_
              rintro _ w1 ⟨A22, c23, rfl, hs⟩
              replace hS := hS.addN hs
              refine OJ.pures oU 2 Z (OJ.nil (EJ.next ?_))
              refine CJ.cond Z (fun hb => ?_) (fun hb => ?_)
              · replace H := pif_t (of_decide_eq_true hb) H
                refine CJ.region ?_
                refine OJ.pures oU 3 Z ?_
                refine OJ.st rfl rfl rfl (SR.buildA oU oI rfl rfl rfl rfl (zs := [.int .i64 0, .int .i64 0]) rfl rfl ((carr 2 (ci .i64)).enc (⟨[y8, y19], rfl⟩ : Arr 2 Int)) (by kernel_rfl)) ?_
                refine OJ.ef Z Z Z (Ef.lit oU oI hS (C := (carr 2 (ci .i64))) Z Z Z Z Z Z ([(⟨[y8, y19], Z⟩ : Arr 2 Int)] : List (Arr 2 Int)) Z Z Z Z) ?_
                rintro _ w1 ⟨A24, rfl, hS⟩
                obtain ⟨u25, hu25, H⟩ := pbind H
                refine OJ.ew Z Z Z (Ew.append oU oI (C := (carr 2 (ci .i64))) (xs := y16) (ys := ([(⟨[y8, y19], Z⟩ : Arr 2 Int)] : List (Arr 2 Int))) hS (i := 0) Z Z Z Z Z Z Z Z Z Z Z Z Z (hS.rd (i := 2) Z) (chk_some hu25)) ?_
                rintro _ w1 ⟨A26, c27, rfl, hS⟩
                refine OJ.pures oU 1 Z ?_
                refine OJ.nil (EJ.blk (EJ.next ?_))
                refine CJ.region ?_
                refine OJ.pures oU 3 Z ?_
                refine OJ.nil ?_
                exact EJ.round k (F' := [(0, .slice Aa0 a0.length ca0), (3, .slice A26 (y16 ++ ([(⟨[y8, y19], Z⟩ : Arr 2 Int)] : List (Arr 2 Int))).length c27), (4, .int .i64 y8), (5, .slice Ae12 t12.length ce12), (6, .int .i64 (IntKind.i64.wrap (y19 + 1))), (8, .slice Aa0 a0.length ca0), (9, .int .i64 (a0.length : Int)), (10, .int .i64 y8)]) ⟨Z, Z, Z, Z, Z, Z, Z, Z, trivial⟩ (Nat.lt_succ_self _) ⟨(y16 ++ ([(⟨[y8, y19], Z⟩ : Arr 2 Int)] : List (Arr 2 Int))), (IntKind.i64.wrap (y19 + 1)), A26, c27, Z, hS.pick [0] [0] Z, H⟩
              · replace H := pif_f (of_decide_eq_false hb) H
                refine CJ.skip (EJ.blk (EJ.next ?_))
                refine CJ.region ?_
                refine OJ.pures oU 3 Z ?_
                refine OJ.nil ?_
                exact EJ.round k (F' := [(0, .slice Aa0 a0.length ca0), (3, .slice A17 y16.length c18), (4, .int .i64 y8), (5, .slice Ae12 t12.length ce12), (6, .int .i64 (IntKind.i64.wrap (y19 + 1))), (8, .slice Aa0 a0.length ca0), (9, .int .i64 (a0.length : Int)), (10, .int .i64 y8)]) ⟨Z, Z, Z, Z, Z, Z, Z, Z, trivial⟩ (Nat.lt_succ_self _) ⟨y16, (IntKind.i64.wrap (y19 + 1)), A17, c18, Z, hS.pick [0] [0] Z, H⟩
            · replace H := pif_f (of_decide_eq_false hb) H
              refine CJ.exit (EJ.skE (EJ.skE (EJ.hit (?_))))
              exact EJ.meet (F' := [(0, .slice Aa0 a0.length ca0), (3, .slice A17 y16.length c18), (8, .slice Aa0 a0.length ca0), (9, .int .i64 (a0.length : Int)), (10, .int .i64 y8)]) ⟨Z, Z, Z, Z, Z, trivial⟩ ⟨y16, A17, c18, H, Z, hS.pick [0] [0] Z⟩
        · rintro F w1 ⟨y13, A14, c15, he, rfl, hS⟩
          obtain rfl := Option.some.inj he
          have H := K166
          refine EJ.blk (?_)
          exact EJ.meet (F' := [(0, .slice Aa0 a0.length ca0), (3, .slice A14 y13.length c15), (8, .slice Aa0 a0.length ca0), (9, .int .i64 (a0.length : Int)), (10, .int .i64 y8)]) ⟨Z, Z, Z, Z, Z, trivial⟩ ⟨y13, A14, c15, H, Z, hS.pick [0] [0] Z⟩
      · rintro F w1 ⟨y9, A10, c11, he, rfl, hS⟩
        obtain rfl := Option.some.inj he
        have H := K164
        refine CJ.region ?_
        refine OJ.pures oU 2 Z ?_
        refine OJ.nil ?_
        exact EJ.round k (F' := [(0, .slice Aa0 a0.length ca0), (3, .slice A10 y9.length c11), (8, .slice Aa0 a0.length ca0), (9, .int .i64 (a0.length : Int)), (10, .int .i64 (IntKind.i64.wrap (y8 + 1)))]) ⟨Z, Z, Z, Z, Z, trivial⟩ (Nat.lt_succ_self _) ⟨y9, (IntKind.i64.wrap (y8 + 1)), A10, c11, Z, hS.pick [0] [0] Z, H⟩
    · replace H := pif_f (of_decide_eq_false hb) H
      refine CJ.exit (EJ.skE (EJ.skE (EJ.hit (?_))))
      exact EJ.meet (F' := [(3, .slice A6 y5.length c7)]) ⟨Z, trivial⟩ ⟨y5, A6, c7, H, Z, hS.pick [0] [0] Z⟩
 rintro F w1 ⟨y2, A3, c4, he, rfl, hS⟩
 obtain rfl := Option.some.inj he
 have H := K156
 refine EJ.next ?_
 refine CJ.seq (CJ.region ?_)
 refine OJ.pures oU 2 Z (OJ.nil (EJ.next ?_))
 refine CJ.ret (?_)
 obtain rfl := Option.some.inj H
 exact EJ.fin Z (.tmp Z .nil) ⟨A3, c4, Z, hS.pick [0] [] Z⟩

def impl_MeetingPairs.f (k : Nat) (a0 : Pasture) (a1 : List Stake) : Option (List (Arr 2 Int) × Int) := (impl_stakeCode.f k a0 a1).bind fun t2 => if t2 ≠ 0 then (some ([], t2)) else ((impl_Pasture_reaches.f k a0 a1).bind fun t3 => (impl_pairs.f k t3).bind fun t7 => some (t7, 0))
theorem impl_MeetingPairs.c (k : Nat) (w : World) (a0 : Pasture) (Aa1 : Option Addr) (ca1 : Nat) (a1 : List Stake) (hr1 : Rd cStake w Aa1 a1) (hc1 : a1.length ≤ ca1) (r : List (Arr 2 Int) × Int) (H : impl_MeetingPairs.f k a0 a1 = some r) :
 CV Tryz.prog 9 [.agg (cPasture.enc a0).toArray, .slice Aa1 a1.length ca1].toArray w fun v w' => ∃ (A0 : Option Addr) (c0 : Nat), v = .tuple #[.slice A0 r.1.length c0, .int .i64 r.2] ∧ St w no w' [rowC (carr 2 (ci .i64)) A0 c0 61 r.1] [] := by
 have hS := ((St.init w no).param cStake Aa1 ca1 a1 hr1 hc1)
 unfold impl_MeetingPairs.f at H
 refine CV.body Tryz.func9 Z Tryz.ntmps9 Z ?_
 refine CJ.seq (CJ.region ?_)
 refine OJ.ef Z Z Z (Ef.box hS Z Z (cPasture.enc a0) Z) ?_
 rintro _ w1 ⟨b1, rfl, hS⟩
 refine OJ.pures oU 2 Z (OJ.nil (EJ.next ?_))
 refine CJ.seq ?_
 refine CJ.seq (CJ.region ?_)
 refine OJ.st Z Z Z (SR.load Z Z (fun w' hx => ldE oU oI Z Z Z (CA.ext (hS.cells (i := 0) Z) hx) Z)) ?_
 refine OJ.pures oU 1 Z ?_
 obtain ⟨t2, ht2, H⟩ := pbind H
 refine OJ.callF Z Z Z Z Z hb45 Z (impl_stakeCode.c k _ a0 Aa1 ca1 a1 (hS.rd' (i := 0) Z) (hS.le' (i := 0) Z) _ ht2) ?_
 rintro _ w1 ⟨rfl, hs⟩
 replace hS := hS.grow hs
 refine OJ.pures oU 1 Z (OJ.nil (EJ.next ?_))
 refine CJ.seq (CJ.region ?_)
 refine OJ.pures oU 2 Z (OJ.nil (EJ.next ?_))
 refine CJ.cond Z (fun hb => ?_) (fun hb => ?_)
 ·replace H := pif_t (of_decide_eq_true hb) H
  refine CJ.seq (CJ.region ?_)
  refine OJ.pures oU 3 Z (OJ.nil (EJ.next ?_))
  refine CJ.ret (EJ.skR (?_))
  replace hS := hS.addNil (carr 2 (ci .i64)) 61 none
  obtain rfl := Option.some.inj H
  exact EJ.fin Z (.tmp Z (.tmp Z .nil)) ⟨none, 0, Z, hS.pick [1] [] Z⟩
 replace H := pif_f (of_decide_eq_false hb) H
 refine CJ.skip (EJ.next ?_)
 refine CJ.seq (CJ.region ?_)
 refine OJ.st Z Z Z (SR.load Z Z (fun w' hx => ldE oU oI Z Z Z (CA.ext (hS.cells (i := 0) Z) hx) Z)) ?_
 refine OJ.pures oU 1 Z ?_
 obtain ⟨t3, ht3, H⟩ := pbind H
 refine OJ.callF Z Z Z Z Z hb47 Z (impl_Pasture_reaches.c k _ a0 Aa1 ca1 a1 (hS.rd' (i := 0) Z) (hS.le' (i := 0) Z) _ ht3) ?_
 rintro _ w1 ⟨A4, c5, D6, rfl, hs⟩
 replace hS := hS.addN hs
 obtain ⟨t7, ht7, H⟩ := pbind H
 refine OJ.callF Z Z Z Z Z hb46 Z (impl_pairs.c k _ A4 c5 D6 t3 (hS.rowsRo (i := 1) Z) _ ht7) ?_
 rintro _ w1 ⟨A8, c9, rfl, hs⟩
 replace hS := hS.addN hs
 refine OJ.pures oU 2 Z (OJ.nil (EJ.next ?_))
 refine CJ.ret (?_)
 obtain rfl := Option.some.inj H
 exact EJ.fin Z (.tmp Z (.tmp Z .nil)) ⟨A8, c9, Z, hS.pick [2] [] Z⟩

def slices_Grow_impl_Spot_impl_Spot.f (a0 : Int) : Option (List Spot) := (chk (0 ≤ a0 ∧ a0 ≤ 4294967296)).bind fun _ => some []
theorem slices_Grow_impl_Spot_impl_Spot.c (w : World) (a0 : Int) (r : List Spot) (H : slices_Grow_impl_Spot_impl_Spot.f a0 = some r) :
 CV Tryz.prog 120 [.slice none 0 0, .int .i64 a0].toArray w fun v w' => ∃ (A0 : Option Addr) (c0 : Nat), v = .slice A0 r.length c0 ∧ St w no w' [rowC cSpot A0 c0 49 r] [] := by
 unfold slices_Grow_impl_Spot_impl_Spot.f at H
 obtain ⟨u, hu, H⟩ := pbind H
 have h := chk_some hu
 obtain rfl := Option.some.inj H
 obtain ⟨ii, hii, hiz, hs, hby⟩ := oI.at_ (t := 49) (d := ⟨2, 2, (.agg #[.int .i8 0, .int .i8 0])⟩) rfl
 exact grow_cv (C := cSpot) (sz := 2) (by_ := 2) (z := (.agg #[.int .i8 0, .int .i8 0])) w h Z Z Z
   (fun w => Any8.slices_Grow_room layGrowSpot none 0 0 0 w (Nat.le_refl _) (by omega) (by omega) (Nat.le_refl _))
   (fun n w h1 h2 h3 => Any8.slices_Grow_grow layGrowSpot ii (.agg #[.int .i8 0, .int .i8 0]) hii hiz (by rw [hs]; decide) none 0 0 n [] w (Nat.le_refl _) h1 (by rw [hby]; exact h2) h3 (by simp) (fun _ => rfl) (fun a ha => by cases ha))

def slices_Concat_impl_Spot_impl_Spot.l1 (a0 : List (List Spot)) : Nat → Int → Int → Option Int
  | 0, _, _ => none
  | k + 1, y2, y3 => if y3 < (a0.length : Int) then ((getI a0 y3).bind fun t4 => if (IntKind.i64.wrap (y2 + (t4.length : Int))) < 0 then none else (slices_Concat_impl_Spot_impl_Spot.l1 a0 k (IntKind.i64.wrap (y2 + (t4.length : Int))) (IntKind.i64.wrap (y3 + 1)))) else (some y2)
def slices_Concat_impl_Spot_impl_Spot.l2 (a0 : List (List Spot)) : Nat → (List Spot) → Int → Option (List Spot)
  | 0, _, _ => none
  | k + 1, y11, y14 => if y14 < (a0.length : Int) then ((getI a0 y14).bind fun t15 => (chk (y11.length + t15.length ≤ 4294967296)).bind fun u16 => slices_Concat_impl_Spot_impl_Spot.l2 a0 k (y11 ++ t15) (IntKind.i64.wrap (y14 + 1))) else (some y11)
def slices_Concat_impl_Spot_impl_Spot.f (k : Nat) (a0 : List (List Spot)) : Option (List Spot) := (slices_Concat_impl_Spot_impl_Spot.l1 a0 k 0 0).bind fun y1 => (slices_Grow_impl_Spot_impl_Spot.f y1).bind fun t5 => (slices_Concat_impl_Spot_impl_Spot.l2 a0 k t5 0).bind fun y8 => some y8
theorem slices_Concat_impl_Spot_impl_Spot.c (k : Nat) (w : World) (Aa0 : Option Addr) (ca0 : Nat) (Da0 : List SH) (a0 : List (List Spot)) (hr0 : (rosC cSpot Aa0 ca0 Da0 a0).holds w) (r : List Spot) (H : slices_Concat_impl_Spot_impl_Spot.f k a0 = some r) :
 CV Tryz.prog 91 [.slice Aa0 a0.length ca0].toArray w fun v w' => ∃ (A0 : Option Addr) (c0 : Nat), v = .slice A0 r.length c0 ∧ St w no w' [rowC cSpot A0 c0 49 r] [] := by
 have hS := ((St.init w no).paramC (rosC cSpot Aa0 ca0 Da0 a0) hr0)
 unfold slices_Concat_impl_Spot_impl_Spot.f at H
 refine CV.body Tryz.func91 Z Tryz.ntmps91 Z ?_
 refine CJ.seq (CJ.region ?_)
 refine OJ.pures oU 1 Z (OJ.nil (EJ.next ?_))
 refine CJ.seq (CJ.region ?_)
 refine OJ.pures oU 1 Z (OJ.nil (EJ.next ?_))
 refine CJ.seq ?_
 refine CJ.seq (CJ.region ?_)
 refine OJ.pures oU 3 Z (OJ.nil (EJ.next ?_))
 obtain ⟨j167, H, K167⟩ := pbind H
 refine CJ.cut1 (fun F w1 => ∃ (y1 : Int) , (some y1 : Option Int) = some j167 ∧ F = [(0, .slice Aa0 a0.length ca0), (3, .int .i64 y1)] ∧ St w no w1 [] [rosC cSpot Aa0 ca0 Da0 a0]) ?_ ?_
 ·skip
  refine CJ.block ?_
  refine CJ.loop (fun k F w1 => ∃ (y2 : Int) (y3 : Int), F = [(0, .slice Aa0 a0.length ca0), (3, .int .i64 y2), (9, .slice Aa0 a0.length ca0), (10, .int .i64 (a0.length : Int)), (11, .int .i64 y3)] ∧ St w no w1 [] [rosC cSpot Aa0 ca0 Da0 a0] ∧ slices_Concat_impl_Spot_impl_Spot.l1 a0 k y2 y3 = some j167) k (F' := [(0, .slice Aa0 a0.length ca0), (3, .int .i64 0), (9, .slice Aa0 a0.length ca0), (10, .int .i64 (a0.length : Int)), (11, .int .i64 0)]) ⟨Z, Z, Z, Z, Z, trivial⟩ ⟨0, 0, Z, hS.pick [] [0] Z, H⟩ ?_
  rintro k F w1 ⟨y2, y3, rfl, hS, H⟩
  cases k with
  | zero => rw [slices_Concat_impl_Spot_impl_Spot.l1] at H; cases H
  | succ k =>
    rw [slices_Concat_impl_Spot_impl_Spot.l1] at H
    refine CJ.seq (CJ.region ?_)
    refine OJ.pures oU 1 Z (OJ.nil (EJ.next ?_))
    refine CJ.seq ?_
    refine CJ.cond Z (fun hb => ?_) (fun hb => ?_)
    · replace H := pif_t (of_decide_eq_true hb) H
      refine CJ.skip (EJ.next ?_)
      refine CJ.seq ?_
      refine CJ.block ?_
      refine CJ.seq (CJ.region ?_)
      obtain ⟨t4, ht4, H⟩ := pbind H
      obtain ⟨Ae4, ce4, g4, d4, hx4⟩ := ros_el (hS.rosH (i := 0) rfl) ht4
      obtain ⟨ad4, e4⟩ := (ros_rd (hS.rosH (i := 0) rfl)).some' g4
      refine OJ.st Z Z Z (SR.idxS oU oI Z Z Z Z e4 Z (getI_some ht4).1) ?_
      refine OJ.st Z Z Z (SR.load Z Z (fun w' hx => ld1 oU Z Z (CA.ext ((ros_rd (hS.rosH (i := 0) Z)).at_ e4 g4) hx) Z)) ?_
      refine OJ.pures oU 1 Z (OJ.nil (EJ.next ?_))
      refine CJ.seq (CJ.region ?_)
      refine OJ.pures oU 5 Z (OJ.nil (EJ.next ?_))
      refine CJ.seq (CJ.region ?_)
      refine OJ.pures oU 2 Z (OJ.nil (EJ.next ?_))
      refine CJ.cond Z (fun hb => ?_) (fun hb => ?_)
      · replace H := pif_t (of_decide_eq_true hb) H
        cases H
      · replace H := pif_f (of_decide_eq_false hb) H
        refine CJ.skip (EJ.blk (EJ.next ?_))
        refine CJ.region ?_
        refine OJ.pures oU 2 Z ?_
        refine OJ.nil ?_
        exact EJ.round k (F' := [(0, .slice Aa0 a0.length ca0), (3, .int .i64 (IntKind.i64.wrap (y2 + (t4.length : Int)))), (9, .slice Aa0 a0.length ca0), (10, .int .i64 (a0.length : Int)), (11, .int .i64 (IntKind.i64.wrap (y3 + 1)))]) ⟨Z, Z, Z, Z, Z, trivial⟩ (Nat.lt_succ_self _) ⟨(IntKind.i64.wrap (y2 + (t4.length : Int))), (IntKind.i64.wrap (y3 + 1)), Z, hS.pick [] [0] Z, H⟩
    · replace H := pif_f (of_decide_eq_false hb) H
      refine CJ.exit (EJ.skE (EJ.skE (EJ.hit (?_))))
      exact EJ.meet (F' := [(0, .slice Aa0 a0.length ca0), (3, .int .i64 y2)]) ⟨Z, Z, trivial⟩ ⟨y2, H, Z, hS.pick [] [0] Z⟩
 rintro F w1 ⟨y1, he, rfl, hS⟩
 obtain rfl := Option.some.inj he
 have H := K167
 refine EJ.next ?_
 refine CJ.seq (CJ.region ?_)
 refine OJ.pures oU 1 Z ?_
 obtain ⟨t5, ht5, H⟩ := pbind H
 refine OJ.callF Z Z Z Z Z hb120 Z (slices_Grow_impl_Spot_impl_Spot.c _ y1 _ ht5) ?_
 rintro _ w1 ⟨A6, c7, rfl, hs⟩
 replace hS := hS.addN hs
 refine OJ.pures oU 1 Z (OJ.nil (EJ.next ?_))
 refine CJ.seq ?_
 refine CJ.seq (CJ.region ?_)
 refine OJ.pures oU 3 Z (OJ.nil (EJ.next ?_))
 obtain ⟨j168, H, K168⟩ := pbind H
 refine CJ.cut1 (fun F w1 => ∃ (y8 : List Spot) (A9 : Option Addr) (c10 : Nat), (some y8 : Option (List Spot)) = some j168 ∧ F = [(6, .slice A9 y8.length c10)] ∧ St w no w1 [rowC cSpot A9 c10 49 y8] [rosC cSpot Aa0 ca0 Da0 a0]) ?_ ?_
 ·skip
  refine CJ.block ?_
  refine CJ.loop (fun k F w1 => ∃ (y11 : List Spot) (y14 : Int) (A12 : Option Addr) (c13 : Nat), F = [(6, .slice A12 y11.length c13), (25, .slice Aa0 a0.length ca0), (26, .int .i64 (a0.length : Int)), (27, .int .i64 y14)] ∧ St w no w1 [rowC cSpot A12 c13 49 y11] [rosC cSpot Aa0 ca0 Da0 a0] ∧ slices_Concat_impl_Spot_impl_Spot.l2 a0 k y11 y14 = some j168) k (F' := [(6, .slice A6 t5.length c7), (25, .slice Aa0 a0.length ca0), (26, .int .i64 (a0.length : Int)), (27, .int .i64 0)]) ⟨Z, Z, Z, Z, trivial⟩ ⟨t5, 0, A6, c7, Z, hS.pick [0] [0] Z, H⟩ ?_
  rintro k F w1 ⟨y11, y14, A12, c13, rfl, hS, H⟩
  cases k with
  | zero => rw [slices_Concat_impl_Spot_impl_Spot.l2] at H; cases H
  | succ k =>
    rw [slices_Concat_impl_Spot_impl_Spot.l2] at H
    refine CJ.seq (CJ.region ?_)
    refine OJ.pures oU 1 Z (OJ.nil (EJ.next ?_))
    refine CJ.seq ?_
    refine CJ.cond Z (fun hb => ?_) (fun hb => ?_)
    · replace H := pif_t (of_decide_eq_true hb) H
      refine CJ.skip (EJ.next ?_)
      refine CJ.seq ?_
      refine CJ.block ?_
      refine CJ.seq (CJ.region ?_)
      obtain ⟨t15, ht15, H⟩ := pbind H
      obtain ⟨Ae15, ce15, g15, d15, hx15⟩ := ros_el (hS.rosH (i := 0) rfl) ht15
      obtain ⟨ad15, e15⟩ := (ros_rd (hS.rosH (i := 0) rfl)).some' g15
      refine OJ.st Z Z Z (SR.idxS oU oI Z Z Z Z e15 Z (getI_some ht15).1) ?_
      refine OJ.st Z Z Z (SR.load Z Z (fun w' hx => ld1 oU Z Z (CA.ext ((ros_rd (hS.rosH (i := 0) Z)).at_ e15 g15) hx) Z)) ?_
      refine OJ.pures oU 1 Z (OJ.nil (EJ.next ?_))
      refine CJ.region ?_
      refine OJ.pures oU 2 Z ?_
      obtain ⟨u16, hu16, H⟩ := pbind H
      refine OJ.ew Z Z Z (Ew.append oU oI (C := cSpot) (xs := y11) (ys := t15) hS (i := 0) Z Z Z Z Z Z Z Z Z Z Z Z Z (ros_sub (hS.rosH (i := 0) Z) d15 hx15) (chk_some hu16)) ?_
      rintro _ w1 ⟨A17, c18, rfl, hS⟩
      refine OJ.pures oU 1 Z ?_
      refine OJ.nil (EJ.blk (EJ.next ?_))
      refine CJ.region ?_
      refine OJ.pures oU 2 Z ?_
      refine OJ.nil ?_
      exact EJ.round k (F' := [(6, .slice A17 (y11 ++ t15).length c18), (25, .slice Aa0 a0.length ca0), (26, .int .i64 (a0.length : Int)), (27, .int .i64 (IntKind.i64.wrap (y14 + 1)))]) ⟨Z, Z, Z, Z, trivial⟩ (Nat.lt_succ_self _) ⟨(y11 ++ t15), (IntKind.i64.wrap (y14 + 1)), A17, c18, Z, hS.pick [0] [0] Z, H⟩
    · replace H := pif_f (of_decide_eq_false hb) H
      refine CJ.exit (EJ.skE (EJ.skE (EJ.hit (?_))))
      exact EJ.meet (F' := [(6, .slice A12 y11.length c13)]) ⟨Z, trivial⟩ ⟨y11, A12, c13, H, Z, hS.pick [0] [0] Z⟩
 rintro F w1 ⟨y8, A9, c10, he, rfl, hS⟩
 obtain rfl := Option.some.inj he
 have H := K168
 refine EJ.next ?_
 refine CJ.seq (CJ.region ?_)
 refine OJ.pures oU 2 Z (OJ.nil (EJ.next ?_))
 refine CJ.ret (?_)
 obtain rfl := Option.some.inj H
 exact EJ.fin Z (.tmp Z .nil) ⟨A9, c10, Z, hS.pick [0] [] Z⟩

def impl_Pasture_reachedBy_1.l1 (a1 : List Spot) (a0 : Spot) : Nat → Int → Int → Option Int
  | 0, _, _ => none
  | k + 1, y3, y4 => if y4 < (a1.length : Int) then ((getI a1 y4).bind fun t5 => if t5 = a0 then (impl_Pasture_reachedBy_1.l1 a1 a0 k (IntKind.i64.wrap (y3 + 1)) (IntKind.i64.wrap (y4 + 1))) else (impl_Pasture_reachedBy_1.l1 a1 a0 k y3 (IntKind.i64.wrap (y4 + 1)))) else (some y3)
def impl_Pasture_reachedBy_1.f (k : Nat) (a1 : List Spot) (a2 : Int → Option Bool) (a0 : Spot) : Option Bool := (impl_Pasture_reachedBy_1.l1 a1 a0 k 0 0).bind fun y2 => (a2 y2).bind fun t7 => some t7
theorem impl_Pasture_reachedBy_1.c (k : Nat) (w : World) (Aa1 : Option Addr) (ca1 : Nat) (a1 : List Spot) (hr1 : Rd cSpot w Aa1 a1) (hc1 : a1.length ≤ ca1) (pa1 : Addr) (hp1 : CA w pa1 [.slice Aa1 a1.length ca1]) (na2 : Nat) (fsa2 capa2 : Array Value) (hb2 : hasBody Tryz.prog na2) (a2 : Int → Option Bool) (hf2 : ∀ (z0 : Int) (r : Bool), a2 z0 = some r → ∀ w', Chg no w w' → CV Tryz.prog na2 (fsa2 ++ [.int .i64 z0].toArray ++ capa2) w' fun v w'' => v = .bool r ∧ Ext w' w'') (pa2 : Addr) (hp2 : CA w pa2 [.func (.func na2) fsa2 capa2]) (a0 : Spot) (r : Bool) (H : impl_Pasture_reachedBy_1.f k a1 a2 a0 = some r) :
 CV Tryz.prog 93 [.agg (cSpot.enc a0).toArray, .pointer (some pa1), .pointer (some pa2)].toArray w fun v w' => v = .bool r ∧ Ext w w' := by
 have hS := ((((St.init w no).param cSpot Aa1 ca1 a1 hr1 hc1).paramP pa1 [.slice Aa1 a1.length ca1] hp1).paramP pa2 [.func (.func na2) fsa2 capa2] hp2)
 unfold impl_Pasture_reachedBy_1.f at H
 refine CV.body Tryz.func93 Z Tryz.ntmps93 Z ?_
 refine CJ.seq (CJ.region ?_)
 refine OJ.ef Z Z Z (Ef.box hS Z Z (cSpot.enc a0) Z) ?_
 rintro _ w1 ⟨b1, rfl, hS⟩
 refine OJ.pures oU 1 Z (OJ.nil (EJ.next ?_))
 refine CJ.seq (CJ.region ?_)
 refine OJ.pures oU 1 Z (OJ.nil (EJ.next ?_))
 refine CJ.seq ?_
 refine CJ.seq (CJ.region ?_)
 refine OJ.st Z Z Z (SR.load Z Z (fun w' hx => ld1 oU Z Z (CA.ext (hS.ca (i := 1) Z) hx) Z)) ?_
 refine OJ.pures oU 2 Z (OJ.nil (EJ.next ?_))
 obtain ⟨j169, H, K169⟩ := pbind H
 refine CJ.cut1 (fun F w1 => ∃ (y2 : Int) , (some y2 : Option Int) = some j169 ∧ F = [(2, .pointer (some pa2)), (5, .int .i64 y2)] ∧ St w no w1 [] [roC cSpot Aa1 ca1 a1, roP pa1 ([.slice Aa1 a1.length ca1]), roP pa2 ([.func (.func na2) fsa2 capa2])]) ?_ ?_
 ·skip
  refine CJ.block ?_
  refine CJ.loop (fun k F w1 => ∃ (y3 : Int) (y4 : Int), F = [(2, .pointer (some pa2)), (3, .pointer (some ⟨b1, 0, none⟩)), (5, .int .i64 y3), (8, .slice Aa1 a1.length ca1), (9, .int .i64 (a1.length : Int)), (10, .int .i64 y4)] ∧ St w no w1 [box b1 (cSpot.enc a0) 49] [roC cSpot Aa1 ca1 a1, roP pa1 ([.slice Aa1 a1.length ca1]), roP pa2 ([.func (.func na2) fsa2 capa2])] ∧ impl_Pasture_reachedBy_1.l1 a1 a0 k y3 y4 = some j169) k (F' := [(2, .pointer (some pa2)), (3, .pointer (some ⟨b1, 0, none⟩)), (5, .int .i64 0), (8, .slice Aa1 a1.length ca1), (9, .int .i64 (a1.length : Int)), (10, .int .i64 0)]) ⟨Z, Z, Z, Z, Z, Z, trivial⟩ ⟨0, 0, Z, hS.pick [0] [0, 1, 2] Z, H⟩ ?_
  rintro k F w1 ⟨y3, y4, rfl, hS, H⟩
  cases k with
  | zero => rw [impl_Pasture_reachedBy_1.l1] at H; cases H
  | succ k =>
    rw [impl_Pasture_reachedBy_1.l1] at H
    refine CJ.seq (CJ.region ?_)
    refine OJ.pures oU 1 Z (OJ.nil (EJ.next ?_))
    refine CJ.seq ?_
    refine CJ.cond Z (fun hb => ?_) (fun hb => ?_)
    · replace H := pif_t (of_decide_eq_true hb) H
      refine CJ.skip (EJ.next ?_)
      refine CJ.seq ?_
      refine CJ.block ?_
      refine CJ.seq (CJ.region ?_)
      obtain ⟨t5, ht5, H⟩ := pbind H
      obtain ⟨ad5, e5⟩ := (hS.rd' (i := 0) rfl).some' ht5
      refine OJ.st Z Z Z (SR.idxS oU oI Z Z Z Z e5 Z (getI_some ht5).1) ?_
      refine OJ.st Z Z Z (SR.load Z Z (fun w' hx => ldE oU oI Z Z Z (CA.ext ((hS.rd' (i := 0) Z).at_ e5 ht5) hx) Z)) ?_
      refine OJ.ef Z Z Z (Ef.alloc hS oI Z Z (cSpot.enc (⟨0, 0⟩ : Spot)) Z) ?_
      rintro _ w1 ⟨b6, rfl, hS⟩
      refine OJ.es Z Z (Es.store oI hS (i := 1) Z Z Z Z Z Z (vs := cSpot.enc t5) Z (cSpot.len _) (cSpot.one _) (Nat.le_of_ble_eq_true Z) (cSpot.enc t5) Z) ?_
      intro w1 hS
      refine OJ.nil (EJ.next ?_)
      refine CJ.seq (CJ.region ?_)
      refine OJ.st Z Z Z (SR.load Z Z (fun w' hx => ldE oU oI Z Z Z (CA.ext (hS.cells (i := 1) Z) hx) Z)) ?_
      refine OJ.st Z Z Z (SR.load Z Z (fun w' hx => ldE oU oI Z Z Z (CA.ext (hS.cells (i := 0) Z) hx) Z)) ?_
      refine OJ.st Z Z Z (SR.eqS eqT49 eqG49 Z Z Z (Z : _ = (cSpot.enc t5).toArray) (Z : _ = (cSpot.enc a0).toArray)) ?_
      refine OJ.nil (EJ.next ?_)
      refine CJ.cond Z (fun hb => ?_) (fun hb => ?_)
      · replace H := pif_t (of_decide_eq_true hb) H
        refine CJ.region ?_
        refine OJ.pures oU 3 Z ?_
        refine OJ.nil (EJ.blk (EJ.next ?_))
        refine CJ.region ?_
        refine OJ.pures oU 2 Z ?_
        refine OJ.nil ?_
        exact EJ.round k (F' := [(2, .pointer (some pa2)), (3, .pointer (some ⟨b1, 0, none⟩)), (5, .int .i64 (IntKind.i64.wrap (y3 + 1))), (8, .slice Aa1 a1.length ca1), (9, .int .i64 (a1.length : Int)), (10, .int .i64 (IntKind.i64.wrap (y4 + 1)))]) ⟨Z, Z, Z, Z, Z, Z, trivial⟩ (Nat.lt_succ_self _) ⟨(IntKind.i64.wrap (y3 + 1)), (IntKind.i64.wrap (y4 + 1)), Z, hS.pick [0] [0, 1, 2] Z, H⟩
      · replace H := pif_f (of_decide_eq_false hb) H
        refine CJ.skip (EJ.blk (EJ.next ?_))
        refine CJ.region ?_
        refine OJ.pures oU 2 Z ?_
        refine OJ.nil ?_
        exact EJ.round k (F' := [(2, .pointer (some pa2)), (3, .pointer (some ⟨b1, 0, none⟩)), (5, .int .i64 y3), (8, .slice Aa1 a1.length ca1), (9, .int .i64 (a1.length : Int)), (10, .int .i64 (IntKind.i64.wrap (y4 + 1)))]) ⟨Z, Z, Z, Z, Z, Z, trivial⟩ (Nat.lt_succ_self _) ⟨y3, (IntKind.i64.wrap (y4 + 1)), Z, hS.pick [0] [0, 1, 2] Z, H⟩
    · replace H := pif_f (of_decide_eq_false hb) H
      refine CJ.exit (EJ.skE (EJ.skE (EJ.hit (?_))))
      exact EJ.meet (F' := [(2, .pointer (some pa2)), (5, .int .i64 y3)]) ⟨Z, Z, trivial⟩ ⟨y3, H, Z, hS.pick [] [0, 1, 2] Z⟩
 rintro F w1 ⟨y2, he, rfl, hS⟩
 obtain rfl := Option.some.inj he
 have H := K169
 refine EJ.next ?_
 refine CJ.seq (CJ.region ?_)
 refine OJ.st Z Z Z (SR.load Z Z (fun w' hx => ld1 oU Z Z (CA.ext (hS.ca (i := 2) Z) hx) Z)) ?_
 refine OJ.pures oU 1 Z ?_
 obtain ⟨t7, ht7, H⟩ := pbind H
 refine OJ.call Z Z (Nat.le_of_ble_eq_true Z) Z Z Z hb2 Z (hf2 y2 _ ht7 _ hS.chg) ?_
 rintro _ w1 ⟨rfl, hs⟩
 replace hS := hS.grow hs
 refine OJ.pures oU 1 Z (OJ.nil (EJ.next ?_))
 refine CJ.ret (?_)
 obtain rfl := Option.some.inj H
 exact EJ.fin Z (.tmp Z .nil) ⟨Z, hS.ext⟩

def impl_Pasture_reachedBy.f (k : Nat) (a0 : Pasture) (a1 : List Stake) (a2 : Int → Option Bool) : Option (List Spot) := (impl_Pasture_reaches.f k a0 a1).bind fun t3 => (slices_Concat_impl_Spot_impl_Spot.f k t3).bind fun t7 => (impl_Pasture_cells.f k a0 (impl_Pasture_reachedBy_1.f k t7 a2)).bind fun t11 => some t11
theorem impl_Pasture_reachedBy.c (k : Nat) (w : World) (a0 : Pasture) (Aa1 : Option Addr) (ca1 : Nat) (a1 : List Stake) (hr1 : Rd cStake w Aa1 a1) (hc1 : a1.length ≤ ca1) (na2 : Nat) (fsa2 capa2 : Array Value) (hb2 : hasBody Tryz.prog na2) (a2 : Int → Option Bool) (hf2 : ∀ (z0 : Int) (r : Bool), a2 z0 = some r → ∀ w', Chg no w w' → CV Tryz.prog na2 (fsa2 ++ [.int .i64 z0].toArray ++ capa2) w' fun v w'' => v = .bool r ∧ Ext w' w'') (r : List Spot) (H : impl_Pasture_reachedBy.f k a0 a1 a2 = some r) :
 CV Tryz.prog 48 [.agg (cPasture.enc a0).toArray, .slice Aa1 a1.length ca1, .func (.func na2) fsa2 capa2].toArray w fun v w' => ∃ (A0 : Option Addr) (c0 : Nat), v = .slice A0 r.length c0 ∧ St w no w' [rowC cSpot A0 c0 49 r] [] := by
 have hS := ((St.init w no).param cStake Aa1 ca1 a1 hr1 hc1)
 unfold impl_Pasture_reachedBy.f at H
 refine CV.body Tryz.func48 Z Tryz.ntmps48 Z ?_
 refine CJ.seq (CJ.region ?_)
 refine OJ.ef Z Z Z (Ef.box hS Z Z (cPasture.enc a0) Z) ?_
 rintro _ w1 ⟨b1, rfl, hS⟩
 refine OJ.ef Z Z Z (Ef.box hS Z Z ([.func (.func na2) fsa2 capa2]) Z) ?_
 rintro _ w1 ⟨b2, rfl, hS⟩
 refine OJ.pures oU 1 Z (OJ.nil (EJ.next ?_))
 refine CJ.seq (CJ.region ?_)
 refine OJ.st Z Z Z (SR.load Z Z (fun w' hx => ldE oU oI Z Z Z (CA.ext (hS.cells (i := 0) Z) hx) Z)) ?_
 refine OJ.pures oU 1 Z ?_
 obtain ⟨t3, ht3, H⟩ := pbind H
 refine OJ.callF Z Z Z Z Z hb47 Z (impl_Pasture_reaches.c k _ a0 Aa1 ca1 a1 (hS.rd' (i := 0) Z) (hS.le' (i := 0) Z) _ ht3) ?_
 rintro _ w1 ⟨A4, c5, D6, rfl, hs⟩
 replace hS := hS.addN hs
 obtain ⟨t7, ht7, H⟩ := pbind H
 refine OJ.callF Z Z Z Z Z hb91 Z (slices_Concat_impl_Spot_impl_Spot.c k _ A4 c5 D6 t3 (hS.rowsRo (i := 2) Z) _ ht7) ?_
 rintro _ w1 ⟨A8, c9, rfl, hs⟩
 replace hS := hS.addN hs
 refine OJ.ef Z Z Z (Ef.alloc hS oI Z Z ([.slice none 0 0]) Z) ?_
 rintro _ w1 ⟨b10, rfl, hS⟩
 refine OJ.es Z Z (Es.store oI hS (i := 4) (vs := [.slice A8 t7.length c9]) Z Z Z Z Z Z Z Z (one1 Z) (Nat.le_of_ble_eq_true Z) ([.slice A8 t7.length c9]) Z) ?_
 intro w1 hS
 refine OJ.nil (EJ.next ?_)
 refine CJ.seq (CJ.region ?_)
 refine OJ.st Z Z Z (SR.load Z Z (fun w' hx => ldE oU oI Z Z Z (CA.ext (hS.cells (i := 0) Z) hx) Z)) ?_
 refine OJ.pures oU 1 Z ?_
 obtain ⟨t11, ht11, H⟩ := pbind H
 refine OJ.callF rfl rfl rfl rfl rfl hb92 rfl (impl_Pasture_cells.c k _ a0 93 #[] #[.pointer (some ⟨b10, 0, none⟩), .pointer (some ⟨b2, 0, none⟩)] hb93 (impl_Pasture_reachedBy_1.f k t7 a2) (fun z0 r h w' hx => CV.cast (impl_Pasture_reachedBy_1.c k w' A8 c9 t7 ((hS.rd (i := 3) rfl).ext hx) (hS.le (i := 3) rfl) ⟨b10, 0, none⟩ (CA.ext (hS.cells (i := 4) rfl) hx) na2 fsa2 capa2 hb2 a2 (fun z0 r h w'' hx2 => hf2 z0 r h w'' ((hS.chg.then hx (fun _ _ e => e.elim)).then hx2 (fun _ _ e => e.elim))) ⟨b2, 0, none⟩ (CA.ext (hS.cells (i := 1) rfl) hx)  z0 r h) (by simp)) _ ht11) ?_
 rintro _ w1 ⟨A12, c13, rfl, hs⟩
 replace hS := hS.addN hs
 have hS : St w no w1 [box b1 (cPasture.enc a0) 31, box b2 ([.func (.func na2) fsa2 capa2]) 90, rowsC cSpot A4 c5 41 49 D6 t3, rowC cSpot A8 c9 49 t7, box b10 ([.slice A8 t7.length c9]) 41, rowC cSpot A12 c13 49 t11] [roC cStake Aa1 ca1 a1] := hS
 refine OJ.pures oU 1 Z (OJ.nil (EJ.next ?_))
 refine CJ.ret (?_)
 obtain rfl := Option.some.inj H
 exact EJ.fin Z (.tmp Z .nil) ⟨A12, c13, Z, hS.pick [5] [] Z⟩

def impl_UncoveredBy_1.f (a0 : Int) : Option Bool := some (decide (a0 = 0))
theorem impl_UncoveredBy_1.c (w : World) (a0 : Int) (r : Bool) (H : impl_UncoveredBy_1.f a0 = some r) :
 CV Tryz.prog 49 [.int .i64 a0].toArray w fun v w' => v = .bool r ∧ Ext w w' := by
 have hS := (St.init w no)
 unfold impl_UncoveredBy_1.f at H
 refine CV.body Tryz.func49 Z Tryz.ntmps49 Z ?_
 refine CJ.seq (CJ.region ?_)
 refine OJ.pures oU 1 Z (OJ.nil (EJ.next ?_))
 refine CJ.seq (CJ.region ?_)
 refine OJ.pures oU 3 Z (OJ.nil (EJ.next ?_))
 refine CJ.ret (?_)
 obtain rfl := Option.some.inj H
 exact EJ.fin Z (.tmp Z .nil) ⟨Z, hS.ext⟩

def impl_UncoveredBy.f (k : Nat) (a0 : Pasture) (a1 : List Stake) : Option (List Spot × Int) := (impl_stakeCode.f k a0 a1).bind fun t2 => if t2 ≠ 0 then (some ([], t2)) else ((impl_Pasture_reachedBy.f k a0 a1 impl_UncoveredBy_1.f).bind fun t3 => some (t3, 0))
theorem impl_UncoveredBy.c (k : Nat) (w : World) (a0 : Pasture) (Aa1 : Option Addr) (ca1 : Nat) (a1 : List Stake) (hr1 : Rd cStake w Aa1 a1) (hc1 : a1.length ≤ ca1) (r : List Spot × Int) (H : impl_UncoveredBy.f k a0 a1 = some r) :
 CV Tryz.prog 10 [.agg (cPasture.enc a0).toArray, .slice Aa1 a1.length ca1].toArray w fun v w' => ∃ (A0 : Option Addr) (c0 : Nat), v = .tuple #[.slice A0 r.1.length c0, .int .i64 r.2] ∧ St w no w' [rowC cSpot A0 c0 49 r.1] [] := by
 have hS := ((St.init w no).param cStake Aa1 ca1 a1 hr1 hc1)
 unfold impl_UncoveredBy.f at H
 refine CV.body Tryz.func10 Z Tryz.ntmps10 Z ?_
 refine CJ.seq (CJ.region ?_)
 refine OJ.ef Z Z Z (Ef.box hS Z Z (cPasture.enc a0) Z) ?_
 rintro _ w1 ⟨b1, rfl, hS⟩
 refine OJ.pures oU 2 Z (OJ.nil (EJ.next ?_))
 refine CJ.seq ?_
 refine CJ.seq (CJ.region ?_)
 refine OJ.st Z Z Z (SR.load Z Z (fun w' hx => ldE oU oI Z Z Z (CA.ext (hS.cells (i := 0) Z) hx) Z)) ?_
 refine OJ.pures oU 1 Z ?_
 obtain ⟨t2, ht2, H⟩ := pbind H
 refine OJ.callF Z Z Z Z Z hb45 Z (impl_stakeCode.c k _ a0 Aa1 ca1 a1 (hS.rd' (i := 0) Z) (hS.le' (i := 0) Z) _ ht2) ?_
 rintro _ w1 ⟨rfl, hs⟩
 replace hS := hS.grow hs
 refine OJ.pures oU 1 Z (OJ.nil (EJ.next ?_))
 refine CJ.seq (CJ.region ?_)
 refine OJ.pures oU 2 Z (OJ.nil (EJ.next ?_))
 refine CJ.cond Z (fun hb => ?_) (fun hb => ?_)
 ·replace H := pif_t (of_decide_eq_true hb) H
  refine CJ.seq (CJ.region ?_)
  refine OJ.pures oU 3 Z (OJ.nil (EJ.next ?_))
  refine CJ.ret (EJ.skR (?_))
  replace hS := hS.addNil cSpot 49 none
  obtain rfl := Option.some.inj H
  exact EJ.fin Z (.tmp Z (.tmp Z .nil)) ⟨none, 0, Z, hS.pick [1] [] Z⟩
 replace H := pif_f (of_decide_eq_false hb) H
 refine CJ.skip (EJ.next ?_)
 refine CJ.seq (CJ.region ?_)
 refine OJ.st Z Z Z (SR.load Z Z (fun w' hx => ldE oU oI Z Z Z (CA.ext (hS.cells (i := 0) Z) hx) Z)) ?_
 refine OJ.pures oU 1 Z ?_
 obtain ⟨t3, ht3, H⟩ := pbind H
 refine OJ.callF rfl rfl rfl rfl rfl hb48 rfl (impl_Pasture_reachedBy.c k _ a0 Aa1 ca1 a1 (hS.rd' (i := 0) rfl) (hS.le' (i := 0) rfl) 49 #[] #[] hb49 impl_UncoveredBy_1.f (fun z0 r h w' hx => CV.cast (impl_UncoveredBy_1.c w'   z0 r h) (by simp)) _ ht3) ?_
 rintro _ w1 ⟨A4, c5, rfl, hs⟩
 replace hS := hS.addN hs
 refine OJ.pures oU 2 Z (OJ.nil (EJ.next ?_))
 refine CJ.ret (?_)
 obtain rfl := Option.some.inj H
 exact EJ.fin Z (.tmp Z (.tmp Z .nil)) ⟨A4, c5, Z, hS.pick [1] [] Z⟩

def spec_l01Grass.f (a0 : Int) : Option Bool := (spec_l00In.f a0 0 1000).bind fun t1 => some t1
theorem spec_l01Grass.c (w : World) (a0 : Int) (r : Bool) (H : spec_l01Grass.f a0 = some r) :
 CV Tryz.prog 103 [.int .i64 a0].toArray w fun v w' => v = .bool r ∧ Ext w w' := by
 have hS := (St.init w no)
 unfold spec_l01Grass.f at H
 refine CV.body Tryz.func103 Z Tryz.ntmps103 Z ?_
 refine CJ.seq (CJ.region ?_)
 refine OJ.pures oU 1 Z (OJ.nil (EJ.next ?_))
 refine CJ.seq (CJ.region ?_)
 refine OJ.pures oU 1 Z ?_
 obtain ⟨t1, ht1, H⟩ := pbind H
 refine OJ.callF Z Z Z Z Z hb74 Z (spec_l00In.c _ a0 0 1000 _ ht1) ?_
 rintro _ w1 ⟨rfl, hs⟩
 replace hS := hS.grow hs
 refine OJ.pures oU 1 Z (OJ.nil (EJ.next ?_))
 refine CJ.ret (?_)
 obtain rfl := Option.some.inj H
 exact EJ.fin Z (.tmp Z .nil) ⟨Z, hS.ext⟩

def spec_l01Ok.l2 (a0 : Pasture) (y4 : Int) : Nat → Int → Option (((Bool ⊕ Unit) ⊕ Unit) ⊕ Unit)
  | 0, _ => none
  | k + 1, y5 => if y5 < 10 then ((getI a0.Grass.l y4).bind fun t6 => (getI t6.l y5).bind fun t7 => (spec_l01Grass.f (IntKind.i64.wrap t7)).bind fun t8 => if (!t8) = true then (some (Sum.inl (Sum.inl (Sum.inl false)))) else (if 0 < (IntKind.i64.wrap t7) then ((spec_l01Is.f a0 (⟨y5, y4⟩ : Spot)).bind fun t9 => if (!t9) = true then (some (Sum.inl (Sum.inl (Sum.inl false)))) else (spec_l01Ok.l2 a0 y4 k (IntKind.i8.wrap (y5 + 1)))) else (spec_l01Ok.l2 a0 y4 k (IntKind.i8.wrap (y5 + 1))))) else (some (Sum.inr ()))
def spec_l01Ok.l1 (a0 : Pasture) : Nat → Int → Option (Bool ⊕ Unit)
  | 0, _ => none
  | k + 1, y4 => if y4 < 10 then (((spec_l01Ok.l2 a0 y4 k 0).bind fun s181 => match s181 with | .inl r => some r | .inr _ => (chk (0 ≤ (IntKind.u64.wrap a0.Wide))).bind fun u10 => if a0.High ≤ y4 then ((getI a0.East.l y4).bind fun t11 => if (andNotI .u16 t11 (shrI .u16 0 1)) ≠ 0 then (some (Sum.inl (Sum.inl false))) else (if (IntKind.i8.wrap (a0.High - 1)) ≤ y4 then ((getI a0.South.l y4).bind fun t12 => if (andNotI .u16 t12 0) ≠ 0 then (some (Sum.inl (Sum.inl false))) else (some (Sum.inr ()))) else ((getI a0.South.l y4).bind fun t13 => if (andNotI .u16 t13 0) ≠ 0 then (some (Sum.inl (Sum.inl false))) else (some (Sum.inr ()))))) else ((getI a0.East.l y4).bind fun t14 => if (andNotI .u16 t14 (shrI .u16 (IntKind.u16.wrap ((shlI .u16 1 (IntKind.u64.wrap a0.Wide)) - 1)) 1)) ≠ 0 then (some (Sum.inl (Sum.inl false))) else (if (IntKind.i8.wrap (a0.High - 1)) ≤ y4 then ((getI a0.South.l y4).bind fun t15 => if (andNotI .u16 t15 0) ≠ 0 then (some (Sum.inl (Sum.inl false))) else (some (Sum.inr ()))) else ((getI a0.South.l y4).bind fun t16 => if (andNotI .u16 t16 (IntKind.u16.wrap ((shlI .u16 1 (IntKind.u64.wrap a0.Wide)) - 1))) ≠ 0 then (some (Sum.inl (Sum.inl false))) else (some (Sum.inr ())))))).bind fun s179 => match s179 with | .inl r => some r | .inr _ => spec_l01Ok.l1 a0 k (IntKind.i8.wrap (y4 + 1))) else (some (Sum.inr ()))
def spec_l01Ok.f (k : Nat) (a0 : Pasture) : Option Bool := ((spec_l00In.f (IntKind.i64.wrap a0.Wide) 1 10).bind fun t2 => if (!t2) = true then (some true) else ((spec_l00In.f (IntKind.i64.wrap a0.High) 1 10).bind fun t3 => some (!t3))).bind fun y1 => if y1 = true then (some false) else ((spec_l01Ok.l1 a0 k 0).bind fun s172 => match s172 with | .inl r => some r | .inr _ => some true)
theorem spec_l01Ok.c (k : Nat) (w : World) (pa0 : Addr) (a0 : Pasture) (hp0 : CA w pa0 (cPasture.enc a0)) (r : Bool) (H : spec_l01Ok.f k a0 = some r) :
 CV Tryz.prog 68 [.pointer (some pa0)].toArray w fun v w' => v = .bool r ∧ Ext w w' := by
 have hS := ((St.init w no).paramP pa0 (cPasture.enc a0) hp0)
 unfold spec_l01Ok.f at H
 refine CV.body Tryz.func68 Z Tryz.ntmps68 Z ?_
 refine CJ.seq (CJ.region ?_)
 refine OJ.pures oU 1 Z (OJ.nil (EJ.next ?_))
 refine CJ.seq ?_
 obtain ⟨j171, H, K171⟩ := pbind H
 refine CJ.cut (fun F w1 => ∃ (y1 : Bool) , (some y1 : Option Bool) = some j171 ∧ F = [(0, .pointer (some pa0)), (22, .bool y1)] ∧ St w no w1 [] [roP pa0 (cPasture.enc a0)]) ?_ ?_
 ·skip
  refine CJ.region ?_
  refine OJ.pures oU 2 Z ?_
  refine OJ.st Z Z Z (SR.fieldAddr oU oI Z Z Z Z Z Z) ?_
  refine OJ.st Z Z Z (SR.load Z Z (fun w' hx => ld1 oU Z Z (CA.ext (CA.fld (hS.ca (i := 0) Z) (mid_part (fe_Pasture_0 _) (fl_Pasture_0 _) ((ci .i8).len _))) hx) Z)) ?_
  refine OJ.pures oU 1 Z ?_
  obtain ⟨t2, ht2, H⟩ := pbind H
  refine OJ.callF Z Z Z Z Z hb74 Z (spec_l00In.c _ (IntKind.i64.wrap a0.Wide) 1 10 _ ht2) ?_
  rintro _ w1 ⟨rfl, hs⟩
  replace hS := hS.grow hs
  refine OJ.pures oU 2 Z ?_
  refine OJ.split (t := 14) Z (fun hb => ?_) (fun hb => ?_)
  ·replace H := pif_t hb H
   refine OJ.pures oU 8 Z ?_
   refine OJ.nil ?_
   exact EJ.meet (F' := [(0, .pointer (some pa0)), (22, .bool true)]) ⟨Z, Z, trivial⟩ ⟨true, H, Z, hS.pick [] [0] Z⟩
  replace H := pifb_f hb H
  refine OJ.pures oU 2 Z ?_
  refine OJ.st Z Z Z (SR.fieldAddr oU oI Z Z Z Z Z Z) ?_
  refine OJ.st Z Z Z (SR.load Z Z (fun w' hx => ld1 oU Z Z (CA.ext (CA.fld (hS.ca (i := 0) Z) (mid_part (fe_Pasture_1 _) (fl_Pasture_1 _) ((ci .i8).len _))) hx) Z)) ?_
  refine OJ.pures oU 1 Z ?_
  obtain ⟨t3, ht3, H⟩ := pbind H
  refine OJ.callF Z Z Z Z Z hb74 Z (spec_l00In.c _ (IntKind.i64.wrap a0.High) 1 10 _ ht3) ?_
  rintro _ w1 ⟨rfl, hs⟩
  replace hS := hS.grow hs
  refine OJ.pures oU 2 Z ?_
  refine OJ.nil ?_
  exact EJ.meet (F' := [(0, .pointer (some pa0)), (22, .bool (!t3))]) ⟨Z, Z, trivial⟩ ⟨(!t3), H, Z, hS.pick [] [0] Z⟩
 rintro F w1 ⟨y1, he, rfl, hS⟩
 obtain rfl := Option.some.inj he
 have H := K171
 refine CJ.cond Z (fun hb => ?_) (fun hb => ?_)
 ·replace H := pif_t hb H
  refine CJ.seq (CJ.region ?_)
  refine OJ.pures oU 1 Z (OJ.nil (EJ.next ?_))
  refine CJ.ret (EJ.skR (?_))
  obtain rfl := Option.some.inj H
  exact EJ.fin Z (.tmp Z .nil) ⟨Z, hS.ext⟩
 replace H := pifb_f hb H
 refine CJ.skip (EJ.next ?_)
 refine CJ.seq ?_
 refine CJ.seq (CJ.region ?_)
 refine OJ.pures oU 1 Z (OJ.nil (EJ.next ?_))
 obtain ⟨j172, H, K172⟩ := pbind H
 refine CJ.cut1 (fun F w1 => (some (Sum.inr ()) : Option (Bool ⊕ Unit)) = some j172 ∧ F = [] ∧ St w no w1 [] [roP pa0 (cPasture.enc a0)]) ?_ ?_
 ·skip
  refine CJ.block ?_
  refine CJ.loop (fun k F w1 => ∃ (y4 : Int), F = [(0, .pointer (some pa0)), (3, .int .i8 y4)] ∧ St w no w1 [] [roP pa0 (cPasture.enc a0)] ∧ spec_l01Ok.l1 a0 k y4 = some j172) k (F' := [(0, .pointer (some pa0)), (3, .int .i8 0)]) ⟨Z, Z, trivial⟩ ⟨0, Z, hS.pick [] [0] Z, H⟩ ?_
  rintro k F w1 ⟨y4, rfl, hS, H⟩
  cases k with
  | zero => rw [spec_l01Ok.l1] at H; cases H
  | succ k =>
    rw [spec_l01Ok.l1] at H
    refine CJ.seq ?_
    refine CJ.seq (CJ.region ?_)
    refine OJ.pures oU 2 Z (OJ.nil (EJ.next ?_))
    refine CJ.cond Z (fun hb => ?_) (fun hb => ?_)
    · replace H := pif_t (of_decide_eq_true hb) H
      refine CJ.skip (EJ.next ?_)
      obtain ⟨j179, H, K179⟩ := pbind H
      refine CJ.cut (fun F w1 => (some (Sum.inr ()) : Option ((Bool ⊕ Unit) ⊕ Unit)) = some j179 ∧ F = [(0, .pointer (some pa0)), (3, .int .i8 y4)] ∧ St w no w1 [] [roP pa0 (cPasture.enc a0)]) ?_ ?_
      · skip
        refine CJ.block ?_
        refine CJ.seq ?_
        refine CJ.seq (CJ.region ?_)
        refine OJ.pures oU 1 Z (OJ.nil (EJ.next ?_))
        obtain ⟨j181, H, K181⟩ := pbind H
        refine CJ.cut1 (fun F w1 => (some (Sum.inr ()) : Option (((Bool ⊕ Unit) ⊕ Unit) ⊕ Unit)) = some j181 ∧ F = [(0, .pointer (some pa0)), (3, .int .i8 y4)] ∧ St w no w1 [] [roP pa0 (cPasture.enc a0)]) ?_ ?_
        · skip
          refine CJ.block ?_
          refine CJ.loop (fun k F w1 => ∃ (y5 : Int), F = [(0, .pointer (some pa0)), (3, .int .i8 y4), (4, .int .i8 y5)] ∧ St w no w1 [] [roP pa0 (cPasture.enc a0)] ∧ spec_l01Ok.l2 a0 y4 k y5 = some j181) k (F' := [(0, .pointer (some pa0)), (3, .int .i8 y4), (4, .int .i8 0)]) ⟨Z, Z, Z, trivial⟩ ⟨0, Z, hS.pick [] [0] Z, H⟩ ?_
          rintro k F w1 ⟨y5, rfl, hS, H⟩
          cases k with
          | zero => rw [spec_l01Ok.l2] at H; cases H
          | succ k =>
            rw [spec_l01Ok.l2] at H
            refine CJ.seq ?_
            refine CJ.seq (CJ.region ?_)
            refine OJ.pures oU 2 Z (OJ.nil (EJ.next ?_))
            refine CJ.cond Z (fun hb => ?_) (fun hb => ?_)
            · replace H := pif_t (of_decide_eq_true hb) H
              refine CJ.skip (EJ.next ?_)
              refine CJ.seq ?_
              refine CJ.block ?_
              refine CJ.seq (CJ.region ?_)
              refine OJ.pures oU 4 Z ?_
              refine OJ.st Z Z Z (SR.fieldAddr oU oI Z Z Z Z Z Z) ?_
              obtain ⟨t6, ht6, H⟩ := pbind H
              refine OJ.st Z Z Z (SR.idxA oU oI Z Z Z Z Z (Arr.lt ht6)) ?_
              obtain ⟨t7, ht7, H⟩ := pbind H
              refine OJ.st Z Z Z (SR.idxA oU oI Z Z Z Z Z (Arr.lt ht7)) ?_
              refine OJ.st Z Z Z (SR.load Z Z (fun w' hx => ld1 oU Z Z (CA.ext (CA.idx (CA.idx (CA.fld (hS.ca (i := 0) Z) (mid_part (fe_Pasture_2 _) (fl_Pasture_2 _) ((carr 10 (carr 10 (ci .i16))).len _))) ht6) ht7) hx) Z)) ?_
              refine OJ.pures oU 2 Z (OJ.nil (EJ.next ?_))
              refine CJ.seq (CJ.region ?_)
              refine OJ.pures oU 1 Z ?_
              obtain ⟨t8, ht8, H⟩ := pbind H
              refine OJ.callF Z Z Z Z Z hb103 Z (spec_l01Grass.c _ (IntKind.i64.wrap t7) _ ht8) ?_
              rintro _ w1 ⟨rfl, hs⟩
              replace hS := hS.grow hs
              refine OJ.pures oU 2 Z ?_
              refine OJ.split (t := 43) Z (fun hb => ?_) (fun hb => ?_)
              · replace H := pif_t hb H
                refine OJ.pures oU 11 Z (OJ.nil (EJ.next ?_))
                refine CJ.condT Z ?_
                refine CJ.seq (CJ.region ?_)
                refine OJ.pures oU 1 Z (OJ.nil (EJ.next ?_))
                refine CJ.ret (EJ.bkR (EJ.skR (EJ.skR (EJ.bkR (EJ.skR (EJ.skR (EJ.bkR (EJ.skR (EJ.skR (EJ.bkR (EJ.skR (EJ.skR (?_)))))))))))))
                first | (obtain rfl := Option.some.inj H; have H := K181) | (obtain ⟨q181, H2, e181⟩ := pbind H; obtain rfl := Option.some.inj e181; obtain rfl := Option.some.inj K181; have H := H2)
                first | (obtain rfl := Option.some.inj H; have H := K179) | (obtain ⟨q179, H2, e179⟩ := pbind H; obtain rfl := Option.some.inj e179; obtain rfl := Option.some.inj K179; have H := H2)
                first | (obtain rfl := Option.some.inj H; have H := K172) | (obtain ⟨q172, H2, e172⟩ := pbind H; obtain rfl := Option.some.inj e172; obtain rfl := Option.some.inj K172; have H := H2)
                obtain rfl := Option.some.inj H
                exact EJ.fin Z (.tmp Z .nil) ⟨Z, hS.ext⟩
              · replace H := pifb_f hb H
                refine OJ.pures oU 3 Z ?_
                refine OJ.split (t := 46) Z (fun hb => ?_) (fun hb => ?_)
                · replace H := pif_t (of_decide_eq_true hb) H
                  refine OJ.pures oU 3 Z ?_
                  refine OJ.st Z Z Z (SR.build (C := cSpot) oU oI Z Z Z (zs := [.int .i8 0, .int .i8 0]) Z Z Z (⟨y5, y4⟩ : Spot) Z) ?_
                  obtain ⟨t9, ht9, H⟩ := pbind H
                  refine OJ.callF Z Z Z Z Z hb64 Z (spec_l01Is.c _ _ a0 (hS.ca (i := 0) Z) (⟨y5, y4⟩ : Spot) _ ht9) ?_
                  rintro _ w1 ⟨rfl, hs⟩
                  replace hS := hS.grow hs
                  refine OJ.pures oU 3 Z (OJ.nil (EJ.next ?_))
                  refine CJ.cond Z (fun hb => ?_) (fun hb => ?_)
                  · replace H := pif_t hb H
                    refine CJ.seq (CJ.region ?_)
                    refine OJ.pures oU 1 Z (OJ.nil (EJ.next ?_))
                    refine CJ.ret (EJ.bkR (EJ.skR (EJ.skR (EJ.bkR (EJ.skR (EJ.skR (EJ.bkR (EJ.skR (EJ.skR (EJ.bkR (EJ.skR (EJ.skR (?_)))))))))))))
                    first | (obtain rfl := Option.some.inj H; have H := K181) | (obtain ⟨q181, H2, e181⟩ := pbind H; obtain rfl := Option.some.inj e181; obtain rfl := Option.some.inj K181; have H := H2)
                    first | (obtain rfl := Option.some.inj H; have H := K179) | (obtain ⟨q179, H2, e179⟩ := pbind H; obtain rfl := Option.some.inj e179; obtain rfl := Option.some.inj K179; have H := H2)
                    first | (obtain rfl := Option.some.inj H; have H := K172) | (obtain ⟨q172, H2, e172⟩ := pbind H; obtain rfl := Option.some.inj e172; obtain rfl := Option.some.inj K172; have H := H2)
                    obtain rfl := Option.some.inj H
                    exact EJ.fin Z (.tmp Z .nil) ⟨Z, hS.ext⟩
                  · replace H := pifb_f hb H
                    refine CJ.skip (EJ.blk (EJ.next ?_))
                    refine CJ.region ?_
                    refine OJ.pures oU 3 Z ?_
                    refine OJ.nil ?_
                    exact EJ.round k (F' := [(0, .pointer (some pa0)), (3, .int .i8 y4), (4, .int .i8 (IntKind.i8.wrap (y5 + 1)))]) ⟨Z, Z, Z, trivial⟩ (Nat.lt_succ_self _) ⟨(IntKind.i8.wrap (y5 + 1)), Z, hS.pick [] [0] Z, H⟩
                · replace H := pif_f (of_decide_eq_false hb) H
                  refine OJ.pures oU 8 Z (OJ.nil (EJ.next ?_))
                  refine CJ.condF Z ?_
                  refine CJ.skip (EJ.blk (EJ.next ?_))
                  refine CJ.region ?_
                  refine OJ.pures oU 3 Z ?_
                  refine OJ.nil ?_
                  exact EJ.round k (F' := [(0, .pointer (some pa0)), (3, .int .i8 y4), (4, .int .i8 (IntKind.i8.wrap (y5 + 1)))]) ⟨Z, Z, Z, trivial⟩ (Nat.lt_succ_self _) ⟨(IntKind.i8.wrap (y5 + 1)), Z, hS.pick [] [0] Z, H⟩
            · replace H := pif_f (of_decide_eq_false hb) H
              refine CJ.exit (EJ.skE (EJ.skE (EJ.hit (?_))))
              exact EJ.meet (F' := [(0, .pointer (some pa0)), (3, .int .i8 y4)]) ⟨Z, Z, trivial⟩ ⟨H, Z, hS.pick [] [0] Z⟩
        · rintro F w1 ⟨he, rfl, hS⟩
          obtain rfl := Option.some.inj he
          have H := K181
          refine EJ.next ?_
          refine CJ.seq (CJ.region ?_)
          refine OJ.pures oU 2 Z ?_
          refine OJ.st Z Z Z (SR.fieldAddr oU oI Z Z Z Z Z Z) ?_
          refine OJ.st Z Z Z (SR.load Z Z (fun w' hx => ld1 oU Z Z (CA.ext (CA.fld (hS.ca (i := 0) Z) (mid_part (fe_Pasture_0 _) (fl_Pasture_0 _) ((ci .i8).len _))) hx) Z)) ?_
          refine OJ.pures oU 1 Z ?_
          obtain ⟨u10, hu10, H⟩ := pbind H
          refine OJ.st Z Z Z (SR.shl Z Z Z (chk_some hu10)) ?_
          refine OJ.pures oU 2 Z (OJ.nil (EJ.next ?_))
          refine CJ.seq ?_
          refine CJ.seq (CJ.region ?_)
          refine OJ.pures oU 3 Z ?_
          refine OJ.st Z Z Z (SR.fieldAddr oU oI Z Z Z Z Z Z) ?_
          refine OJ.st Z Z Z (SR.load Z Z (fun w' hx => ld1 oU Z Z (CA.ext (CA.fld (hS.ca (i := 0) Z) (mid_part (fe_Pasture_1 _) (fl_Pasture_1 _) ((ci .i8).len _))) hx) Z)) ?_
          refine OJ.pures oU 1 Z (OJ.nil (EJ.next ?_))
          refine CJ.cond Z (fun hb => ?_) (fun hb => ?_)
          · replace H := pif_t (of_decide_eq_true hb) H
            refine CJ.region ?_
            refine OJ.pures oU 1 Z (OJ.nil (EJ.next ?_))
            refine CJ.seq ?_
            refine CJ.seq (CJ.region ?_)
            refine OJ.pures oU 3 Z ?_
            refine OJ.st Z Z Z (SR.fieldAddr oU oI Z Z Z Z Z Z) ?_
            obtain ⟨t11, ht11, H⟩ := pbind H
            refine OJ.st Z Z Z (SR.idxA oU oI Z Z Z Z Z (Arr.lt ht11)) ?_
            refine OJ.st Z Z Z (SR.load Z Z (fun w' hx => ld1 oU Z Z (CA.ext (CA.idx (CA.fld (hS.ca (i := 0) Z) (mid_part (fe_Pasture_3 _) (fl_Pasture_3 _) ((carr 10 (ci .u16)).len _))) ht11) hx) Z)) ?_
            refine OJ.pures oU 1 Z ?_
            refine OJ.st rfl rfl rfl (SR.shr rfl rfl rfl (by decide)) ?_
            refine OJ.pures oU 2 Z (OJ.nil (EJ.next ?_))
            refine CJ.cond Z (fun hb => ?_) (fun hb => ?_)
            · replace H := pif_t (of_decide_eq_true hb) H
              refine CJ.seq (CJ.region ?_)
              refine OJ.pures oU 1 Z (OJ.nil (EJ.next ?_))
              refine CJ.ret (EJ.skR (EJ.bkR (EJ.skR (EJ.skR (EJ.bkR (EJ.skR (EJ.skR (?_))))))))
              first | (obtain rfl := Option.some.inj H; have H := K179) | (obtain ⟨q179, H2, e179⟩ := pbind H; obtain rfl := Option.some.inj e179; obtain rfl := Option.some.inj K179; have H := H2)
              first | (obtain rfl := Option.some.inj H; have H := K172) | (obtain ⟨q172, H2, e172⟩ := pbind H; obtain rfl := Option.some.inj e172; obtain rfl := Option.some.inj K172; have H := H2)
              obtain rfl := Option.some.inj H
              exact EJ.fin Z (.tmp Z .nil) ⟨Z, hS.ext⟩
            · replace H := pif_f (of_decide_eq_false hb) H
              refine CJ.skip (EJ.next ?_)
              refine CJ.seq ?_
              refine CJ.seq (CJ.region ?_)
              refine OJ.pures oU 3 Z ?_
              refine OJ.st Z Z Z (SR.fieldAddr oU oI Z Z Z Z Z Z) ?_
              refine OJ.st Z Z Z (SR.load Z Z (fun w' hx => ld1 oU Z Z (CA.ext (CA.fld (hS.ca (i := 0) Z) (mid_part (fe_Pasture_1 _) (fl_Pasture_1 _) ((ci .i8).len _))) hx) Z)) ?_
              refine OJ.pures oU 2 Z (OJ.nil (EJ.next ?_))
              refine CJ.cond Z (fun hb => ?_) (fun hb => ?_)
              · replace H := pif_t (of_decide_eq_true hb) H
                refine CJ.region ?_
                refine OJ.pures oU 1 Z (OJ.nil (EJ.next ?_))
                refine CJ.seq (CJ.region ?_)
                refine OJ.pures oU 3 Z ?_
                refine OJ.st Z Z Z (SR.fieldAddr oU oI Z Z Z Z Z Z) ?_
                obtain ⟨t12, ht12, H⟩ := pbind H
                refine OJ.st Z Z Z (SR.idxA oU oI Z Z Z Z Z (Arr.lt ht12)) ?_
                refine OJ.st Z Z Z (SR.load Z Z (fun w' hx => ld1 oU Z Z (CA.ext (CA.idx (CA.fld (hS.ca (i := 0) Z) (mid_part (fe_Pasture_4 _) (fl_Pasture_4 _) ((carr 10 (ci .u16)).len _))) ht12) hx) Z)) ?_
                refine OJ.pures oU 3 Z (OJ.nil (EJ.next ?_))
                refine CJ.cond Z (fun hb => ?_) (fun hb => ?_)
                · replace H := pif_t (of_decide_eq_true hb) H
                  refine CJ.seq (CJ.region ?_)
                  refine OJ.pures oU 1 Z (OJ.nil (EJ.next ?_))
                  refine CJ.ret (EJ.bkR (EJ.skR (EJ.skR (EJ.bkR (EJ.skR (EJ.skR (?_)))))))
                  first | (obtain rfl := Option.some.inj H; have H := K179) | (obtain ⟨q179, H2, e179⟩ := pbind H; obtain rfl := Option.some.inj e179; obtain rfl := Option.some.inj K179; have H := H2)
                  first | (obtain rfl := Option.some.inj H; have H := K172) | (obtain ⟨q172, H2, e172⟩ := pbind H; obtain rfl := Option.some.inj e172; obtain rfl := Option.some.inj K172; have H := H2)
                  obtain rfl := Option.some.inj H
                  exact EJ.fin Z (.tmp Z .nil) ⟨Z, hS.ext⟩
                · replace H := pif_f (of_decide_eq_false hb) H
                  refine CJ.skip (EJ.blk (?_))
                  exact EJ.meet (F' := [(0, .pointer (some pa0)), (3, .int .i8 y4)]) ⟨Z, Z, trivial⟩ ⟨H, Z, hS.pick [] [0] Z⟩
              · replace H := pif_f (of_decide_eq_false hb) H
                refine CJ.skip (EJ.next ?_)
                refine CJ.seq (CJ.region ?_)
                refine OJ.pures oU 3 Z ?_
                refine OJ.st Z Z Z (SR.fieldAddr oU oI Z Z Z Z Z Z) ?_
                obtain ⟨t13, ht13, H⟩ := pbind H
                refine OJ.st Z Z Z (SR.idxA oU oI Z Z Z Z Z (Arr.lt ht13)) ?_
                refine OJ.st Z Z Z (SR.load Z Z (fun w' hx => ld1 oU Z Z (CA.ext (CA.idx (CA.fld (hS.ca (i := 0) Z) (mid_part (fe_Pasture_4 _) (fl_Pasture_4 _) ((carr 10 (ci .u16)).len _))) ht13) hx) Z)) ?_
                refine OJ.pures oU 3 Z (OJ.nil (EJ.next ?_))
                refine CJ.cond Z (fun hb => ?_) (fun hb => ?_)
                · replace H := pif_t (of_decide_eq_true hb) H
                  refine CJ.seq (CJ.region ?_)
                  refine OJ.pures oU 1 Z (OJ.nil (EJ.next ?_))
                  refine CJ.ret (EJ.bkR (EJ.skR (EJ.skR (EJ.bkR (EJ.skR (EJ.skR (?_)))))))
                  first | (obtain rfl := Option.some.inj H; have H := K179) | (obtain ⟨q179, H2, e179⟩ := pbind H; obtain rfl := Option.some.inj e179; obtain rfl := Option.some.inj K179; have H := H2)
                  first | (obtain rfl := Option.some.inj H; have H := K172) | (obtain ⟨q172, H2, e172⟩ := pbind H; obtain rfl := Option.some.inj e172; obtain rfl := Option.some.inj K172; have H := H2)
                  obtain rfl := Option.some.inj H
                  exact EJ.fin Z (.tmp Z .nil) ⟨Z, hS.ext⟩
                · replace H := pif_f (of_decide_eq_false hb) H
                  refine CJ.skip (EJ.blk (?_))
                  exact EJ.meet (F' := [(0, .pointer (some pa0)), (3, .int .i8 y4)]) ⟨Z, Z, trivial⟩ ⟨H, Z, hS.pick [] [0] Z⟩
          · replace H := pif_f (of_decide_eq_false hb) H
            refine CJ.skip (EJ.next ?_)
            refine CJ.seq ?_
            refine CJ.seq (CJ.region ?_)
            refine OJ.pures oU 3 Z ?_
            refine OJ.st Z Z Z (SR.fieldAddr oU oI Z Z Z Z Z Z) ?_
            obtain ⟨t14, ht14, H⟩ := pbind H
            refine OJ.st Z Z Z (SR.idxA oU oI Z Z Z Z Z (Arr.lt ht14)) ?_
            refine OJ.st Z Z Z (SR.load Z Z (fun w' hx => ld1 oU Z Z (CA.ext (CA.idx (CA.fld (hS.ca (i := 0) Z) (mid_part (fe_Pasture_3 _) (fl_Pasture_3 _) ((carr 10 (ci .u16)).len _))) ht14) hx) Z)) ?_
            refine OJ.pures oU 1 Z ?_
            refine OJ.st rfl rfl rfl (SR.shr rfl rfl rfl (by decide)) ?_
            refine OJ.pures oU 2 Z (OJ.nil (EJ.next ?_))
            refine CJ.cond Z (fun hb => ?_) (fun hb => ?_)
            · replace H := pif_t (of_decide_eq_true hb) H
              refine CJ.seq (CJ.region ?_)
              refine OJ.pures oU 1 Z (OJ.nil (EJ.next ?_))
              refine CJ.ret (EJ.skR (EJ.bkR (EJ.skR (EJ.skR (EJ.bkR (EJ.skR (EJ.skR (?_))))))))
              first | (obtain rfl := Option.some.inj H; have H := K179) | (obtain ⟨q179, H2, e179⟩ := pbind H; obtain rfl := Option.some.inj e179; obtain rfl := Option.some.inj K179; have H := H2)
              first | (obtain rfl := Option.some.inj H; have H := K172) | (obtain ⟨q172, H2, e172⟩ := pbind H; obtain rfl := Option.some.inj e172; obtain rfl := Option.some.inj K172; have H := H2)
              obtain rfl := Option.some.inj H
              exact EJ.fin Z (.tmp Z .nil) ⟨Z, hS.ext⟩
            · replace H := pif_f (of_decide_eq_false hb) H
              refine CJ.skip (EJ.next ?_)
              refine CJ.seq ?_
              refine CJ.seq (CJ.region ?_)
              refine OJ.pures oU 3 Z ?_
              refine OJ.st Z Z Z (SR.fieldAddr oU oI Z Z Z Z Z Z) ?_
              refine OJ.st Z Z Z (SR.load Z Z (fun w' hx => ld1 oU Z Z (CA.ext (CA.fld (hS.ca (i := 0) Z) (mid_part (fe_Pasture_1 _) (fl_Pasture_1 _) ((ci .i8).len _))) hx) Z)) ?_
              refine OJ.pures oU 2 Z (OJ.nil (EJ.next ?_))
              refine CJ.cond Z (fun hb => ?_) (fun hb => ?_)
              · replace H := pif_t (of_decide_eq_true hb) H
                refine CJ.region ?_
                refine OJ.pures oU 1 Z (OJ.nil (EJ.next ?_))
                refine CJ.seq (CJ.region ?_)
                refine OJ.pures oU 3 Z ?_
                refine OJ.st Z Z Z (SR.fieldAddr oU oI Z Z Z Z Z Z) ?_
                obtain ⟨t15, ht15, H⟩ := pbind H
                refine OJ.st Z Z Z (SR.idxA oU oI Z Z Z Z Z (Arr.lt ht15)) ?_
                refine OJ.st Z Z Z (SR.load Z Z (fun w' hx => ld1 oU Z Z (CA.ext (CA.idx (CA.fld (hS.ca (i := 0) Z) (mid_part (fe_Pasture_4 _) (fl_Pasture_4 _) ((carr 10 (ci .u16)).len _))) ht15) hx) Z)) ?_
                refine OJ.pures oU 3 Z (OJ.nil (EJ.next ?_))
                refine CJ.cond Z (fun hb => ?_) (fun hb => ?_)
                · replace H := pif_t (of_decide_eq_true hb) H
                  refine CJ.seq (CJ.region ?_)
                  refine OJ.pures oU 1 Z (OJ.nil (EJ.next ?_))
                  refine CJ.ret (EJ.bkR (EJ.skR (EJ.skR (EJ.bkR (EJ.skR (EJ.skR (?_)))))))
                  first | (obtain rfl := Option.some.inj H; have H := K179) | (obtain ⟨q179, H2, e179⟩ := pbind H; obtain rfl := Option.some.inj e179; obtain rfl := Option.some.inj K179; have H := H2)
                  first | (obtain rfl := Option.some.inj H; have H := K172) | (obtain ⟨q172, H2, e172⟩ := pbind H; obtain rfl := Option.some.inj e172; obtain rfl := Option.some.inj K172; have H := H2)
                  obtain rfl := Option.some.inj H
                  exact EJ.fin Z (.tmp Z .nil) ⟨Z, hS.ext⟩
                · replace H := pif_f (of_decide_eq_false hb) H
                  refine CJ.skip (EJ.blk (?_))
                  exact EJ.meet (F' := [(0, .pointer (some pa0)), (3, .int .i8 y4)]) ⟨Z, Z, trivial⟩ ⟨H, Z, hS.pick [] [0] Z⟩
              · replace H := pif_f (of_decide_eq_false hb) H
                refine CJ.skip (EJ.next ?_)
                refine CJ.seq (CJ.region ?_)
                refine OJ.pures oU 3 Z ?_
                refine OJ.st Z Z Z (SR.fieldAddr oU oI Z Z Z Z Z Z) ?_
                obtain ⟨t16, ht16, H⟩ := pbind H
                refine OJ.st Z Z Z (SR.idxA oU oI Z Z Z Z Z (Arr.lt ht16)) ?_
                refine OJ.st Z Z Z (SR.load Z Z (fun w' hx => ld1 oU Z Z (CA.ext (CA.idx (CA.fld (hS.ca (i := 0) Z) (mid_part (fe_Pasture_4 _) (fl_Pasture_4 _) ((carr 10 (ci .u16)).len _))) ht16) hx) Z)) ?_
                refine OJ.pures oU 3 Z (OJ.nil (EJ.next ?_))
                refine CJ.cond Z (fun hb => ?_) (fun hb => ?_)
                · replace H := pif_t (of_decide_eq_true hb) H
                  refine CJ.seq (CJ.region ?_)
                  refine OJ.pures oU 1 Z (OJ.nil (EJ.next ?_))
                  refine CJ.ret (EJ.bkR (EJ.skR (EJ.skR (EJ.bkR (EJ.skR (EJ.skR (?_)))))))
                  first | (obtain rfl := Option.some.inj H; have H := K179) | (obtain ⟨q179, H2, e179⟩ := pbind H; obtain rfl := Option.some.inj e179; obtain rfl := Option.some.inj K179; have H := H2)
                  first | (obtain rfl := Option.some.inj H; have H := K172) | (obtain ⟨q172, H2, e172⟩ := pbind H; obtain rfl := Option.some.inj e172; obtain rfl := Option.some.inj K172; have H := H2)
                  obtain rfl := Option.some.inj H
                  exact EJ.fin Z (.tmp Z .nil) ⟨Z, hS.ext⟩
                · replace H := pif_f (of_decide_eq_false hb) H
                  refine CJ.skip (EJ.blk (?_))
                  exact EJ.meet (F' := [(0, .pointer (some pa0)), (3, .int .i8 y4)]) ⟨Z, Z, trivial⟩ ⟨H, Z, hS.pick [] [0] Z⟩
      · rintro F w1 ⟨he, rfl, hS⟩
        obtain rfl := Option.some.inj he
        have H := K179
        refine CJ.region ?_
        refine OJ.pures oU 3 Z ?_
        refine OJ.nil ?_
        exact EJ.round k (F' := [(0, .pointer (some pa0)), (3, .int .i8 (IntKind.i8.wrap (y4 + 1)))]) ⟨Z, Z, trivial⟩ (Nat.lt_succ_self _) ⟨(IntKind.i8.wrap (y4 + 1)), Z, hS.pick [] [0] Z, H⟩
    · replace H := pif_f (of_decide_eq_false hb) H
      refine CJ.exit (EJ.skE (EJ.skE (EJ.hit (?_))))
      exact EJ.meet (F' := []) trivial ⟨H, Z, hS.pick [] [0] Z⟩
 rintro F w1 ⟨he, rfl, hS⟩
 obtain rfl := Option.some.inj he
 have H := K172
 refine EJ.next ?_
 refine CJ.seq (CJ.region ?_)
 refine OJ.pures oU 1 Z (OJ.nil (EJ.next ?_))
 refine CJ.ret (?_)
 obtain rfl := Option.some.inj H
 exact EJ.fin Z (.tmp Z .nil) ⟨Z, hS.ext⟩

def spec_l05Reach.f (a0 : Int) : Option Bool := (spec_l00In.f a0 0 200).bind fun t1 => some t1
theorem spec_l05Reach.c (w : World) (a0 : Int) (r : Bool) (H : spec_l05Reach.f a0 = some r) :
 CV Tryz.prog 104 [.int .i64 a0].toArray w fun v w' => v = .bool r ∧ Ext w w' := by
 have hS := (St.init w no)
 unfold spec_l05Reach.f at H
 refine CV.body Tryz.func104 Z Tryz.ntmps104 Z ?_
 refine CJ.seq (CJ.region ?_)
 refine OJ.pures oU 1 Z (OJ.nil (EJ.next ?_))
 refine CJ.seq (CJ.region ?_)
 refine OJ.pures oU 1 Z ?_
 obtain ⟨t1, ht1, H⟩ := pbind H
 refine OJ.callF Z Z Z Z Z hb74 Z (spec_l00In.c _ a0 0 200 _ ht1) ?_
 rintro _ w1 ⟨rfl, hs⟩
 replace hS := hS.grow hs
 refine OJ.pures oU 1 Z (OJ.nil (EJ.next ?_))
 refine CJ.ret (?_)
 obtain rfl := Option.some.inj H
 exact EJ.fin Z (.tmp Z .nil) ⟨Z, hS.ext⟩

def spec_l05Stake.f (a0 : Pasture) (a1 : Stake) : Option Bool := (spec_l01Is.f a0 a1.At).bind fun t2 => if t2 = true then ((spec_l05Reach.f (IntKind.i64.wrap a1.Reach)).bind fun t3 => some t3) else (some false)
theorem spec_l05Stake.c (w : World) (pa0 : Addr) (a0 : Pasture) (hp0 : CA w pa0 (cPasture.enc a0)) (a1 : Stake) (r : Bool) (H : spec_l05Stake.f a0 a1 = some r) :
 CV Tryz.prog 69 [.pointer (some pa0), .agg (cStake.enc a1).toArray].toArray w fun v w' => v = .bool r ∧ Ext w w' := by
 have hS := ((St.init w no).paramP pa0 (cPasture.enc a0) hp0)
 unfold spec_l05Stake.f at H
 refine CV.body Tryz.func69 Z Tryz.ntmps69 Z ?_
 refine CJ.seq (CJ.region ?_)
 refine OJ.ef Z Z Z (Ef.box hS Z Z (cStake.enc a1) Z) ?_
 rintro _ w1 ⟨b1, rfl, hS⟩
 refine OJ.pures oU 1 Z (OJ.nil (EJ.next ?_))
 refine CJ.seq (CJ.region ?_)
 refine OJ.pures oU 1 Z ?_
 refine OJ.st Z Z Z (SR.fieldAddr oU oI Z Z Z Z Z Z) ?_
 refine OJ.st Z Z Z (SR.load Z Z (fun w' hx => ldN oU oI Z Z Z (CA.ext (CA.sub (hS.cells (i := 0) Z) 0) hx) (cSpot.len _) Z)) ?_
 obtain ⟨t2, ht2, H⟩ := pbind H
 refine OJ.callF Z Z Z Z Z hb64 Z (spec_l01Is.c _ _ a0 (hS.ca (i := 0) Z) a1.At _ ht2) ?_
 rintro _ w1 ⟨rfl, hs⟩
 replace hS := hS.grow hs
 refine OJ.pures oU 1 Z ?_
 refine OJ.split (t := 9) Z (fun hb => ?_) (fun hb => ?_)
 ·replace H := pif_t hb H
  refine OJ.st Z Z Z (SR.fieldAddr oU oI Z Z Z Z Z Z) ?_
  refine OJ.st Z Z Z (SR.load Z Z (fun w' hx => ld1 oU Z Z (CA.ext (CA.sub (hS.cells (i := 0) Z) 2) hx) Z)) ?_
  refine OJ.pures oU 1 Z ?_
  obtain ⟨t3, ht3, H⟩ := pbind H
  refine OJ.callF Z Z Z Z Z hb104 Z (spec_l05Reach.c _ (IntKind.i64.wrap a1.Reach) _ ht3) ?_
  rintro _ w1 ⟨rfl, hs⟩
  replace hS := hS.grow hs
  refine OJ.pures oU 2 Z (OJ.nil (EJ.next ?_))
  refine CJ.ret (?_)
  obtain rfl := Option.some.inj H
  exact EJ.fin Z (.tmp Z .nil) ⟨Z, hS.ext⟩
 replace H := pifb_f hb H
 refine OJ.pures oU 6 Z (OJ.nil (EJ.next ?_))
 refine CJ.ret (?_)
 obtain rfl := Option.some.inj H
 exact EJ.fin Z (.tmp Z .nil) ⟨Z, hS.ext⟩

def spec_l05Ok.l2 (a1 : List Stake) (y3 : Int) : Nat → Int → Option (((Bool ⊕ Unit) ⊕ Unit) ⊕ Unit)
  | 0, _ => none
  | k + 1, y6 => if y6 < y3 then ((getI a1 y6).bind fun t7 => (getI a1 y3).bind fun t8 => if t7.At = t8.At then (some (Sum.inl (Sum.inl (Sum.inl false)))) else (spec_l05Ok.l2 a1 y3 k (IntKind.i64.wrap (y6 + 1)))) else (some (Sum.inr ()))
def spec_l05Ok.l1 (a0 : Pasture) (a1 : List Stake) : Nat → Int → Option (Bool ⊕ Unit)
  | 0, _ => none
  | k + 1, y3 => if y3 < (a1.length : Int) then (((getI a1 y3).bind fun t4 => (spec_l05Stake.f a0 t4).bind fun t5 => if (!t5) = true then (some (Sum.inl (Sum.inl false))) else ((spec_l05Ok.l2 a1 y3 k 0).bind fun s191 => match s191 with | .inl r => some r | .inr _ => some (Sum.inr ()))).bind fun s189 => match s189 with | .inl r => some r | .inr _ => spec_l05Ok.l1 a0 a1 k (IntKind.i64.wrap (y3 + 1))) else (some (Sum.inr ()))
def spec_l05Ok.f (k : Nat) (a0 : Pasture) (a1 : List Stake) : Option Bool := ((spec_l01Ok.f k a0).bind fun t2 => if (!t2) = true then (some true) else (some (decide (12 < (a1.length : Int))))).bind fun y1 => if y1 = true then (some false) else ((spec_l05Ok.l1 a0 a1 k 0).bind fun s182 => match s182 with | .inl r => some r | .inr _ => some true)
theorem spec_l05Ok.c (k : Nat) (w : World) (pa0 : Addr) (a0 : Pasture) (hp0 : CA w pa0 (cPasture.enc a0)) (Aa1 : Option Addr) (ca1 : Nat) (a1 : List Stake) (hr1 : Rd cStake w Aa1 a1) (hc1 : a1.length ≤ ca1) (r : Bool) (H : spec_l05Ok.f k a0 a1 = some r) :
 CV Tryz.prog 94 [.pointer (some pa0), .slice Aa1 a1.length ca1].toArray w fun v w' => v = .bool r ∧ Ext w w' := by
 have hS := (((St.init w no).paramP pa0 (cPasture.enc a0) hp0).param cStake Aa1 ca1 a1 hr1 hc1)
 unfold spec_l05Ok.f at H
 refine CV.body Tryz.func94 Z Tryz.ntmps94 Z ?_
 refine CJ.seq (CJ.region ?_)
 refine OJ.pures oU 1 Z (OJ.nil (EJ.next ?_))
 refine CJ.seq ?_
 obtain ⟨j170, H, K170⟩ := pbind H
 refine CJ.cut (fun F w1 => ∃ (y1 : Bool) , (some y1 : Option Bool) = some j170 ∧ F = [(0, .pointer (some pa0)), (1, .slice Aa1 a1.length ca1), (14, .bool y1)] ∧ St w no w1 [] [roP pa0 (cPasture.enc a0), roC cStake Aa1 ca1 a1]) ?_ ?_
 ·skip
  refine CJ.region ?_
  refine OJ.pures oU 1 Z ?_
  obtain ⟨t2, ht2, H⟩ := pbind H
  refine OJ.callF Z Z Z Z Z hb68 Z (spec_l01Ok.c k _ _ a0 (hS.ca (i := 0) Z) _ ht2) ?_
  rintro _ w1 ⟨rfl, hs⟩
  replace hS := hS.grow hs
  refine OJ.pures oU 2 Z ?_
  refine OJ.split (t := 10) Z (fun hb => ?_) (fun hb => ?_)
  ·replace H := pif_t hb H
   refine OJ.pures oU 4 Z ?_
   refine OJ.nil ?_
   exact EJ.meet (F' := [(0, .pointer (some pa0)), (1, .slice Aa1 a1.length ca1), (14, .bool true)]) ⟨Z, Z, Z, trivial⟩ ⟨true, H, Z, hS.pick [] [0, 1] Z⟩
  replace H := pifb_f hb H
  refine OJ.pures oU 4 Z ?_
  refine OJ.nil ?_
  exact EJ.meet (F' := [(0, .pointer (some pa0)), (1, .slice Aa1 a1.length ca1), (14, .bool (decide (12 < (a1.length : Int))))]) ⟨Z, Z, Z, trivial⟩ ⟨(decide (12 < (a1.length : Int))), H, Z, hS.pick [] [0, 1] Z⟩
 rintro F w1 ⟨y1, he, rfl, hS⟩
 obtain rfl := Option.some.inj he
 have H := K170
 refine CJ.cond Z (fun hb => ?_) (fun hb => ?_)
 ·replace H := pif_t hb H
  refine CJ.seq (CJ.region ?_)
  refine OJ.pures oU 1 Z (OJ.nil (EJ.next ?_))
  refine CJ.ret (EJ.skR (?_))
  obtain rfl := Option.some.inj H
  exact EJ.fin Z (.tmp Z .nil) ⟨Z, hS.ext⟩
 replace H := pifb_f hb H
 refine CJ.skip (EJ.next ?_)
 refine CJ.seq ?_
 refine CJ.seq (CJ.region ?_)
 refine OJ.pures oU 1 Z (OJ.nil (EJ.next ?_))
 obtain ⟨j182, H, K182⟩ := pbind H
 refine CJ.cut1 (fun F w1 => (some (Sum.inr ()) : Option (Bool ⊕ Unit)) = some j182 ∧ F = [] ∧ St w no w1 [] [roP pa0 (cPasture.enc a0), roC cStake Aa1 ca1 a1]) ?_ ?_
 ·skip
  refine CJ.block ?_
  refine CJ.loop (fun k F w1 => ∃ (y3 : Int), F = [(0, .pointer (some pa0)), (1, .slice Aa1 a1.length ca1), (5, .int .i64 y3)] ∧ St w no w1 [] [roP pa0 (cPasture.enc a0), roC cStake Aa1 ca1 a1] ∧ spec_l05Ok.l1 a0 a1 k y3 = some j182) k (F' := [(0, .pointer (some pa0)), (1, .slice Aa1 a1.length ca1), (5, .int .i64 0)]) ⟨Z, Z, Z, trivial⟩ ⟨0, Z, hS.pick [] [0, 1] Z, H⟩ ?_
  rintro k F w1 ⟨y3, rfl, hS, H⟩
  cases k with
  | zero => rw [spec_l05Ok.l1] at H; cases H
  | succ k =>
    rw [spec_l05Ok.l1] at H
    refine CJ.seq ?_
    refine CJ.seq (CJ.region ?_)
    refine OJ.pures oU 4 Z (OJ.nil (EJ.next ?_))
    refine CJ.cond Z (fun hb => ?_) (fun hb => ?_)
    · replace H := pif_t (of_decide_eq_true hb) H
      refine CJ.skip (EJ.next ?_)
      obtain ⟨j189, H, K189⟩ := pbind H
      refine CJ.cut (fun F w1 => (some (Sum.inr ()) : Option ((Bool ⊕ Unit) ⊕ Unit)) = some j189 ∧ F = [(0, .pointer (some pa0)), (1, .slice Aa1 a1.length ca1), (5, .int .i64 y3)] ∧ St w no w1 [] [roP pa0 (cPasture.enc a0), roC cStake Aa1 ca1 a1]) ?_ ?_
      · skip
        refine CJ.block ?_
        refine CJ.seq ?_
        refine CJ.seq (CJ.region ?_)
        refine OJ.pures oU 3 Z ?_
        obtain ⟨t4, ht4, H⟩ := pbind H
        obtain ⟨ad4, e4⟩ := (hS.rd' (i := 1) rfl).some' ht4
        refine OJ.st Z Z Z (SR.idxS oU oI Z Z Z Z e4 Z (getI_some ht4).1) ?_
        refine OJ.st Z Z Z (SR.load Z Z (fun w' hx => ldE oU oI Z Z Z (CA.ext ((hS.rd' (i := 1) Z).at_ e4 ht4) hx) Z)) ?_
        obtain ⟨t5, ht5, H⟩ := pbind H
        refine OJ.callF Z Z Z Z Z hb69 Z (spec_l05Stake.c _ _ a0 (hS.ca (i := 0) Z) t4 _ ht5) ?_
        rintro _ w1 ⟨rfl, hs⟩
        replace hS := hS.grow hs
        refine OJ.pures oU 1 Z (OJ.nil (EJ.next ?_))
        refine CJ.cond Z (fun hb => ?_) (fun hb => ?_)
        · replace H := pif_t hb H
          refine CJ.seq (CJ.region ?_)
          refine OJ.pures oU 1 Z (OJ.nil (EJ.next ?_))
          refine CJ.ret (EJ.skR (EJ.bkR (EJ.skR (EJ.skR (EJ.bkR (EJ.skR (EJ.skR (?_))))))))
          first | (obtain rfl := Option.some.inj H; have H := K189) | (obtain ⟨q189, H2, e189⟩ := pbind H; obtain rfl := Option.some.inj e189; obtain rfl := Option.some.inj K189; have H := H2)
          first | (obtain rfl := Option.some.inj H; have H := K182) | (obtain ⟨q182, H2, e182⟩ := pbind H; obtain rfl := Option.some.inj e182; obtain rfl := Option.some.inj K182; have H := H2)
          obtain rfl := Option.some.inj H
          exact EJ.fin Z (.tmp Z .nil) ⟨Z, hS.ext⟩
        · replace H := pifb_f hb H
          refine CJ.skip (EJ.next ?_)
          refine CJ.seq (CJ.region ?_)
          refine OJ.pures oU 1 Z (OJ.nil (EJ.next ?_))
          obtain ⟨j191, H, K191⟩ := pbind H
          refine CJ.cut1 (fun F w1 => (some (Sum.inr ()) : Option (((Bool ⊕ Unit) ⊕ Unit) ⊕ Unit)) = some j191 ∧ F = [(0, .pointer (some pa0)), (1, .slice Aa1 a1.length ca1), (5, .int .i64 y3)] ∧ St w no w1 [] [roP pa0 (cPasture.enc a0), roC cStake Aa1 ca1 a1]) ?_ ?_
          · skip
            refine CJ.block ?_
            refine CJ.loop (fun k F w1 => ∃ (y6 : Int), F = [(0, .pointer (some pa0)), (1, .slice Aa1 a1.length ca1), (5, .int .i64 y3), (6, .int .i64 y6)] ∧ St w no w1 [] [roP pa0 (cPasture.enc a0), roC cStake Aa1 ca1 a1] ∧ spec_l05Ok.l2 a1 y3 k y6 = some j191) k (F' := [(0, .pointer (some pa0)), (1, .slice Aa1 a1.length ca1), (5, .int .i64 y3), (6, .int .i64 0)]) ⟨Z, Z, Z, Z, trivial⟩ ⟨0, Z, hS.pick [] [0, 1] Z, H⟩ ?_
            rintro k F w1 ⟨y6, rfl, hS, H⟩
            cases k with
            | zero => rw [spec_l05Ok.l2] at H; cases H
            | succ k =>
              rw [spec_l05Ok.l2] at H
              refine CJ.seq ?_
              refine CJ.seq (CJ.region ?_)
              refine OJ.pures oU 3 Z (OJ.nil (EJ.next ?_))
              refine CJ.cond Z (fun hb => ?_) (fun hb => ?_)
              · replace H := pif_t (of_decide_eq_true hb) H
                refine CJ.skip (EJ.next ?_)
                refine CJ.seq ?_
                refine CJ.block ?_
                refine CJ.seq ?_
                refine CJ.draw [] [0, 1, 2, 3, 4, 5, 6, 7, 8, 9, 10] mixed (by kernel_rfl) hS fun w1 hS => ?_
                refine DJ.pures oU 2 Z ?_
                obtain ⟨t7, ht7, H⟩ := pbind H
                obtain ⟨ad7, e7⟩ := (hS.rd' (i := 1) rfl).some' ht7
                refine DJ.st Z Z Z Z Z (SR.idxS oU oI Z Z Z Z e7 Z (getI_some ht7).1) ?_
                refine DJ.st Z Z Z Z Z (SR.fieldAddr oU oI Z Z Z Z Z Z) ?_
                refine DJ.st Z Z Z Z Z (SR.load Z Z (fun w' hx => ldN oU oI Z Z Z (CA.ext (CA.sub ((hS.rd' (i := 1) Z).at_ e7 ht7) 0) hx) (cSpot.len _) Z)) ?_
                refine DJ.pures oU 2 Z ?_
                obtain ⟨t8, ht8, H⟩ := pbind H
                obtain ⟨ad8, e8⟩ := (hS.rd' (i := 1) rfl).some' ht8
                refine DJ.st Z Z Z Z Z (SR.idxS oU oI Z Z Z Z e8 Z (getI_some ht8).1) ?_
                refine DJ.st Z Z Z Z Z (SR.fieldAddr oU oI Z Z Z Z Z Z) ?_
                refine DJ.st Z Z Z Z Z (SR.load Z Z (fun w' hx => ldN oU oI Z Z Z (CA.ext (CA.sub ((hS.rd' (i := 1) Z).at_ e8 ht8) 0) hx) (cSpot.len _) Z)) ?_
                refine DJ.st Z Z Z Z Z (SR.eqS eqT49 eqG49 Z Z Z (Z : _ = (cSpot.enc t7.At).toArray) (Z : _ = (cSpot.enc t8.At).toArray)) ?_
                refine DJ.nil (EJ.next ?_)
                refine CJ.cond Z (fun hb => ?_) (fun hb => ?_)
                · replace H := pif_t (of_decide_eq_true hb) H
                  refine CJ.seq (CJ.region ?_)
                  refine OJ.pures oU 1 Z (OJ.nil (EJ.next ?_))
                  refine CJ.ret (EJ.bkR (EJ.skR (EJ.skR (EJ.bkR (EJ.skR (EJ.bkR (EJ.skR (EJ.skR (EJ.bkR (EJ.skR (EJ.skR (?_))))))))))))
                  first | (obtain rfl := Option.some.inj H; have H := K191) | (obtain ⟨q191, H2, e191⟩ := pbind H; obtain rfl := Option.some.inj e191; obtain rfl := Option.some.inj K191; have H := H2)
                  first | (obtain rfl := Option.some.inj H; have H := K189) | (obtain ⟨q189, H2, e189⟩ := pbind H; obtain rfl := Option.some.inj e189; obtain rfl := Option.some.inj K189; have H := H2)
                  first | (obtain rfl := Option.some.inj H; have H := K182) | (obtain ⟨q182, H2, e182⟩ := pbind H; obtain rfl := Option.some.inj e182; obtain rfl := Option.some.inj K182; have H := H2)
                  obtain rfl := Option.some.inj H
                  exact EJ.fin Z (.tmp Z .nil) ⟨Z, hS.ext⟩
                · replace H := pif_f (of_decide_eq_false hb) H
                  refine CJ.skip (EJ.blk (EJ.next ?_))
                  refine CJ.region ?_
                  refine OJ.pures oU 3 Z ?_
                  refine OJ.nil ?_
                  exact EJ.round k (F' := [(0, .pointer (some pa0)), (1, .slice Aa1 a1.length ca1), (5, .int .i64 y3), (6, .int .i64 (IntKind.i64.wrap (y6 + 1)))]) ⟨Z, Z, Z, Z, trivial⟩ (Nat.lt_succ_self _) ⟨(IntKind.i64.wrap (y6 + 1)), Z, hS.pick [] [0, 1] Z, H⟩
              · replace H := pif_f (of_decide_eq_false hb) H
                refine CJ.exit (EJ.skE (EJ.skE (EJ.hit (?_))))
                exact EJ.meet (F' := [(0, .pointer (some pa0)), (1, .slice Aa1 a1.length ca1), (5, .int .i64 y3)]) ⟨Z, Z, Z, trivial⟩ ⟨H, Z, hS.pick [] [0, 1] Z⟩
          · rintro F w1 ⟨he, rfl, hS⟩
            obtain rfl := Option.some.inj he
            have H := K191
            refine EJ.blk (?_)
            exact EJ.meet (F' := [(0, .pointer (some pa0)), (1, .slice Aa1 a1.length ca1), (5, .int .i64 y3)]) ⟨Z, Z, Z, trivial⟩ ⟨H, Z, hS.pick [] [0, 1] Z⟩
      · rintro F w1 ⟨he, rfl, hS⟩
        obtain rfl := Option.some.inj he
        have H := K189
        refine CJ.region ?_
        refine OJ.pures oU 3 Z ?_
        refine OJ.nil ?_
        exact EJ.round k (F' := [(0, .pointer (some pa0)), (1, .slice Aa1 a1.length ca1), (5, .int .i64 (IntKind.i64.wrap (y3 + 1)))]) ⟨Z, Z, Z, trivial⟩ (Nat.lt_succ_self _) ⟨(IntKind.i64.wrap (y3 + 1)), Z, hS.pick [] [0, 1] Z, H⟩
    · replace H := pif_f (of_decide_eq_false hb) H
      refine CJ.exit (EJ.skE (EJ.skE (EJ.hit (?_))))
      exact EJ.meet (F' := []) trivial ⟨H, Z, hS.pick [] [0, 1] Z⟩
 rintro F w1 ⟨he, rfl, hS⟩
 obtain rfl := Option.some.inj he
 have H := K182
 refine EJ.next ?_
 refine CJ.seq (CJ.region ?_)
 refine OJ.pures oU 1 Z (OJ.nil (EJ.next ?_))
 refine CJ.ret (?_)
 obtain rfl := Option.some.inj H
 exact EJ.fin Z (.tmp Z .nil) ⟨Z, hS.ext⟩

def spec_l05Asked.f (k : Nat) (a0 : Pasture) (a1 : List Stake) (a2 : Bool) : Option Int := (spec_l05Ok.f k a0 a1).bind fun t1 => if (!t1) = true then (some 1) else (if (!a2) = true then (some 2) else (some 0))
theorem spec_l05Asked.c (k : Nat) (w : World) (pa0 : Addr) (a0 : Pasture) (hp0 : CA w pa0 (cPasture.enc a0)) (Aa1 : Option Addr) (ca1 : Nat) (a1 : List Stake) (hr1 : Rd cStake w Aa1 a1) (hc1 : a1.length ≤ ca1) (a2 : Bool) (r : Int) (H : spec_l05Asked.f k a0 a1 a2 = some r) :
 CV Tryz.prog 50 [.pointer (some pa0), .slice Aa1 a1.length ca1, .bool a2].toArray w fun v w' => v = .int .i64 r ∧ Ext w w' := by
 have hS := (((St.init w no).paramP pa0 (cPasture.enc a0) hp0).param cStake Aa1 ca1 a1 hr1 hc1)
 unfold spec_l05Asked.f at H
 refine CV.body Tryz.func50 Z Tryz.ntmps50 Z ?_
 refine CJ.seq (CJ.region ?_)
 refine OJ.pures oU 1 Z (OJ.nil (EJ.next ?_))
 refine CJ.seq ?_
 refine CJ.seq (CJ.region ?_)
 refine OJ.pures oU 2 Z ?_
 obtain ⟨t1, ht1, H⟩ := pbind H
 refine OJ.callF Z Z Z Z Z hb94 Z (spec_l05Ok.c k _ _ a0 (hS.ca (i := 0) Z) Aa1 ca1 a1 (hS.rd' (i := 1) Z) (hS.le' (i := 1) Z) _ ht1) ?_
 rintro _ w1 ⟨rfl, hs⟩
 replace hS := hS.grow hs
 refine OJ.pures oU 1 Z (OJ.nil (EJ.next ?_))
 refine CJ.cond Z (fun hb => ?_) (fun hb => ?_)
 ·replace H := pif_t hb H
  refine CJ.seq (CJ.region ?_)
  refine OJ.pures oU 1 Z (OJ.nil (EJ.next ?_))
  refine CJ.ret (EJ.skR (?_))
  obtain rfl := Option.some.inj H
  exact EJ.fin Z (.tmp Z .nil) ⟨Z, hS.ext⟩
 replace H := pifb_f hb H
 refine CJ.skip (EJ.next ?_)
 refine CJ.seq ?_
 refine CJ.seq (CJ.region ?_)
 refine OJ.pures oU 2 Z (OJ.nil (EJ.next ?_))
 refine CJ.cond Z (fun hb => ?_) (fun hb => ?_)
 ·replace H := pif_t hb H
  refine CJ.seq (CJ.region ?_)
  refine OJ.pures oU 1 Z (OJ.nil (EJ.next ?_))
  refine CJ.ret (EJ.skR (?_))
  obtain rfl := Option.some.inj H
  exact EJ.fin Z (.tmp Z .nil) ⟨Z, hS.ext⟩
 replace H := pifb_f hb H
 refine CJ.skip (EJ.next ?_)
 refine CJ.seq (CJ.region ?_)
 refine OJ.pures oU 1 Z (OJ.nil (EJ.next ?_))
 refine CJ.ret (?_)
 obtain rfl := Option.some.inj H
 exact EJ.fin Z (.tmp Z .nil) ⟨Z, hS.ext⟩

def spec_l01Closed.f (a0 : Pasture) (a1 : Spot) (a2 : Int) : Option Bool := (spec_l01Next.f a1 a2).bind fun t2 => (spec_l01Is.f a0 t2).bind fun t4 => if (!t4) = true then (some true) else (if a2 = 0 then ((getI a0.South.l t2.Y).bind fun t5 => (chk (0 ≤ (IntKind.u64.wrap a1.X))).bind fun u6 => some (decide ((andI .u16 (shrI .u16 t5 (IntKind.u64.wrap a1.X)) 1) = 1))) else (if a2 = 1 then ((getI a0.East.l a1.Y).bind fun t7 => (chk (0 ≤ (IntKind.u64.wrap a1.X))).bind fun u8 => some (decide ((andI .u16 (shrI .u16 t7 (IntKind.u64.wrap a1.X)) 1) = 1))) else (if a2 = 2 then ((getI a0.South.l a1.Y).bind fun t9 => (chk (0 ≤ (IntKind.u64.wrap a1.X))).bind fun u10 => some (decide ((andI .u16 (shrI .u16 t9 (IntKind.u64.wrap a1.X)) 1) = 1))) else ((getI a0.East.l a1.Y).bind fun t11 => (chk (0 ≤ (IntKind.u64.wrap t2.X))).bind fun u12 => some (decide ((andI .u16 (shrI .u16 t11 (IntKind.u64.wrap t2.X)) 1) = 1))))))
theorem spec_l01Closed.c (w : World) (pa0 : Addr) (a0 : Pasture) (hp0 : CA w pa0 (cPasture.enc a0)) (a1 : Spot) (a2 : Int) (r : Bool) (H : spec_l01Closed.f a0 a1 a2 = some r) :
 CV Tryz.prog 122 [.pointer (some pa0), .agg (cSpot.enc a1).toArray, .int .i64 a2].toArray w fun v w' => v = .bool r ∧ Ext w w' := by
 have hS := ((St.init w no).paramP pa0 (cPasture.enc a0) hp0)
 unfold spec_l01Closed.f at H
 refine CV.body Tryz.func122 Z Tryz.ntmps122 Z ?_
 refine CJ.seq (CJ.region ?_)
 refine OJ.ef Z Z Z (Ef.box hS Z Z (cSpot.enc a1) Z) ?_
 rintro _ w1 ⟨b1, rfl, hS⟩
 refine OJ.pures oU 1 Z (OJ.nil (EJ.next ?_))
 refine CJ.seq (CJ.region ?_)
 refine OJ.st Z Z Z (SR.load Z Z (fun w' hx => ldE oU oI Z Z Z (CA.ext (hS.cells (i := 0) Z) hx) Z)) ?_
 refine OJ.pures oU 1 Z ?_
 obtain ⟨t2, ht2, H⟩ := pbind H
 refine OJ.callF Z Z Z Z Z hb80 Z (spec_l01Next.c _ a1 a2 _ ht2) ?_
 rintro _ w1 ⟨rfl, hs⟩
 replace hS := hS.grow hs
 refine OJ.ef Z Z Z (Ef.alloc hS oI Z Z (cSpot.enc (⟨0, 0⟩ : Spot)) Z) ?_
 rintro _ w1 ⟨b3, rfl, hS⟩
 refine OJ.es Z Z (Es.store oI hS (i := 1) Z Z Z Z Z Z (vs := cSpot.enc t2) Z (cSpot.len _) (cSpot.one _) (Nat.le_of_ble_eq_true Z) (cSpot.enc t2) Z) ?_
 intro w1 hS
 refine OJ.nil (EJ.next ?_)
 refine CJ.seq ?_
 refine CJ.seq (CJ.region ?_)
 refine OJ.pures oU 1 Z ?_
 refine OJ.st Z Z Z (SR.load Z Z (fun w' hx => ldE oU oI Z Z Z (CA.ext (hS.cells (i := 1) Z) hx) Z)) ?_
 obtain ⟨t4, ht4, H⟩ := pbind H
 refine OJ.callF Z Z Z Z Z hb64 Z (spec_l01Is.c _ _ a0 (hS.ca (i := 0) Z) t2 _ ht4) ?_
 rintro _ w1 ⟨rfl, hs⟩
 replace hS := hS.grow hs
 refine OJ.pures oU 1 Z (OJ.nil (EJ.next ?_))
 refine CJ.cond Z (fun hb => ?_) (fun hb => ?_)
 ·replace H := pif_t hb H
  refine CJ.seq (CJ.region ?_)
  refine OJ.pures oU 1 Z (OJ.nil (EJ.next ?_))
  refine CJ.ret (EJ.skR (?_))
  obtain rfl := Option.some.inj H
  exact EJ.fin Z (.tmp Z .nil) ⟨Z, hS.ext⟩
 replace H := pifb_f hb H
 refine CJ.skip (EJ.next ?_)
 refine CJ.seq ?_
 refine CJ.seq (CJ.region ?_)
 refine OJ.pures oU 1 Z (OJ.nil (EJ.next ?_))
 refine CJ.block ?_
 refine CJ.seq (CJ.region ?_)
 refine OJ.pures oU 2 Z (OJ.nil (EJ.next ?_))
 refine CJ.cond Z (fun hb => ?_) (fun hb => ?_)
 ·replace H := pif_t (of_decide_eq_true hb) H
  refine CJ.seq ?_
  refine CJ.draw [] [0, 1, 2, 3, 4, 5, 6, 7, 8, 9, 10, 11, 12, 13] mixed (by kernel_rfl) hS fun w1 hS => ?_
  refine DJ.pures oU 1 Z ?_
  refine DJ.st Z Z Z Z Z (SR.fieldAddr oU oI Z Z Z Z Z Z) ?_
  refine DJ.st Z Z Z Z Z (SR.load Z Z (fun w' hx => ld1 oU Z Z (CA.ext (CA.sub (hS.cells (i := 1) Z) 1) hx) Z)) ?_
  refine DJ.pures oU 1 Z ?_
  refine DJ.st Z Z Z Z Z (SR.fieldAddr oU oI Z Z Z Z Z Z) ?_
  obtain ⟨t5, ht5, H⟩ := pbind H
  refine DJ.st Z Z Z Z Z (SR.idxA oU oI Z Z Z Z Z (Arr.lt ht5)) ?_
  refine DJ.st Z Z Z Z Z (SR.load Z Z (fun w' hx => ld1 oU Z Z (CA.ext (CA.idx (CA.fld (hS.ca (i := 0) Z) (mid_part (fe_Pasture_4 _) (fl_Pasture_4 _) ((carr 10 (ci .u16)).len _))) ht5) hx) Z)) ?_
  refine DJ.st Z Z Z Z Z (SR.fieldAddr oU oI Z Z Z Z Z Z) ?_
  refine DJ.st Z Z Z Z Z (SR.load Z Z (fun w' hx => ld1 oU Z Z (CA.ext (CA.sub (hS.cells (i := 0) Z) 0) hx) Z)) ?_
  refine DJ.pures oU 1 Z ?_
  obtain ⟨u6, hu6, H⟩ := pbind H
  refine DJ.st Z Z Z Z Z (SR.shr Z Z Z (chk_some hu6)) ?_
  refine DJ.pures oU 3 Z ?_
  refine DJ.nil (EJ.next ?_)
  refine CJ.ret (EJ.bkR (EJ.skR (?_)))
  obtain rfl := Option.some.inj H
  exact EJ.fin Z (.tmp Z .nil) ⟨Z, hS.ext⟩
 replace H := pif_f (of_decide_eq_false hb) H
 refine CJ.seq (CJ.region ?_)
 refine OJ.pures oU 2 Z (OJ.nil (EJ.next ?_))
 refine CJ.cond Z (fun hb => ?_) (fun hb => ?_)
 ·replace H := pif_t (of_decide_eq_true hb) H
  refine CJ.seq ?_
  refine CJ.draw [] [0, 1, 2, 3, 4, 5, 6, 7, 8, 9, 10, 11, 12, 13] mixed (by kernel_rfl) hS fun w1 hS => ?_
  refine DJ.pures oU 1 Z ?_
  refine DJ.st Z Z Z Z Z (SR.fieldAddr oU oI Z Z Z Z Z Z) ?_
  refine DJ.st Z Z Z Z Z (SR.load Z Z (fun w' hx => ld1 oU Z Z (CA.ext (CA.sub (hS.cells (i := 0) Z) 1) hx) Z)) ?_
  refine DJ.pures oU 1 Z ?_
  refine DJ.st Z Z Z Z Z (SR.fieldAddr oU oI Z Z Z Z Z Z) ?_
  obtain ⟨t7, ht7, H⟩ := pbind H
  refine DJ.st Z Z Z Z Z (SR.idxA oU oI Z Z Z Z Z (Arr.lt ht7)) ?_
  refine DJ.st Z Z Z Z Z (SR.load Z Z (fun w' hx => ld1 oU Z Z (CA.ext (CA.idx (CA.fld (hS.ca (i := 0) Z) (mid_part (fe_Pasture_3 _) (fl_Pasture_3 _) ((carr 10 (ci .u16)).len _))) ht7) hx) Z)) ?_
  refine DJ.st Z Z Z Z Z (SR.fieldAddr oU oI Z Z Z Z Z Z) ?_
  refine DJ.st Z Z Z Z Z (SR.load Z Z (fun w' hx => ld1 oU Z Z (CA.ext (CA.sub (hS.cells (i := 0) Z) 0) hx) Z)) ?_
  refine DJ.pures oU 1 Z ?_
  obtain ⟨u8, hu8, H⟩ := pbind H
  refine DJ.st Z Z Z Z Z (SR.shr Z Z Z (chk_some hu8)) ?_
  refine DJ.pures oU 3 Z ?_
  refine DJ.nil (EJ.next ?_)
  refine CJ.ret (EJ.bkR (EJ.skR (?_)))
  obtain rfl := Option.some.inj H
  exact EJ.fin Z (.tmp Z .nil) ⟨Z, hS.ext⟩
 replace H := pif_f (of_decide_eq_false hb) H
 refine CJ.seq (CJ.region ?_)
 refine OJ.pures oU 2 Z (OJ.nil (EJ.next ?_))
 refine CJ.cond Z (fun hb => ?_) (fun hb => ?_)
 ·replace H := pif_t (of_decide_eq_true hb) H
  refine CJ.seq ?_
  refine CJ.draw [] [0, 1, 2, 3, 4, 5, 6, 7, 8, 9, 10, 11, 12, 13] mixed (by kernel_rfl) hS fun w1 hS => ?_
  refine DJ.pures oU 1 Z ?_
  refine DJ.st Z Z Z Z Z (SR.fieldAddr oU oI Z Z Z Z Z Z) ?_
  refine DJ.st Z Z Z Z Z (SR.load Z Z (fun w' hx => ld1 oU Z Z (CA.ext (CA.sub (hS.cells (i := 0) Z) 1) hx) Z)) ?_
  refine DJ.pures oU 1 Z ?_
  refine DJ.st Z Z Z Z Z (SR.fieldAddr oU oI Z Z Z Z Z Z) ?_
  obtain ⟨t9, ht9, H⟩ := pbind H
  refine DJ.st Z Z Z Z Z (SR.idxA oU oI Z Z Z Z Z (Arr.lt ht9)) ?_
  refine DJ.st Z Z Z Z Z (SR.load Z Z (fun w' hx => ld1 oU Z Z (CA.ext (CA.idx (CA.fld (hS.ca (i := 0) Z) (mid_part (fe_Pasture_4 _) (fl_Pasture_4 _) ((carr 10 (ci .u16)).len _))) ht9) hx) Z)) ?_
  refine DJ.st Z Z Z Z Z (SR.fieldAddr oU oI Z Z Z Z Z Z) ?_
  refine DJ.st Z Z Z Z Z (SR.load Z Z (fun w' hx => ld1 oU Z Z (CA.ext (CA.sub (hS.cells (i := 0) Z) 0) hx) Z)) ?_
  refine DJ.pures oU 1 Z ?_
  obtain ⟨u10, hu10, H⟩ := pbind H
  refine DJ.st Z Z Z Z Z (SR.shr Z Z Z (chk_some hu10)) ?_
  refine DJ.pures oU 3 Z ?_
  refine DJ.nil (EJ.next ?_)
  refine CJ.ret (EJ.bkR (EJ.skR (?_)))
  obtain rfl := Option.some.inj H
  exact EJ.fin Z (.tmp Z .nil) ⟨Z, hS.ext⟩
 replace H := pif_f (of_decide_eq_false hb) H
 refine CJ.skip (EJ.blk (EJ.next ?_))
 refine CJ.seq ?_
 refine CJ.draw [] [0, 1, 2, 3, 4, 5, 6, 7, 8, 9, 10, 11, 12, 13] mixed (by kernel_rfl) hS fun w1 hS => ?_
 refine DJ.pures oU 1 Z ?_
 refine DJ.st Z Z Z Z Z (SR.fieldAddr oU oI Z Z Z Z Z Z) ?_
 refine DJ.st Z Z Z Z Z (SR.load Z Z (fun w' hx => ld1 oU Z Z (CA.ext (CA.sub (hS.cells (i := 0) Z) 1) hx) Z)) ?_
 refine DJ.pures oU 1 Z ?_
 refine DJ.st Z Z Z Z Z (SR.fieldAddr oU oI Z Z Z Z Z Z) ?_
 obtain ⟨t11, ht11, H⟩ := pbind H
 refine DJ.st Z Z Z Z Z (SR.idxA oU oI Z Z Z Z Z (Arr.lt ht11)) ?_
 refine DJ.st Z Z Z Z Z (SR.load Z Z (fun w' hx => ld1 oU Z Z (CA.ext (CA.idx (CA.fld (hS.ca (i := 0) Z) (mid_part (fe_Pasture_3 _) (fl_Pasture_3 _) ((carr 10 (ci .u16)).len _))) ht11) hx) Z)) ?_
 refine DJ.st Z Z Z Z Z (SR.fieldAddr oU oI Z Z Z Z Z Z) ?_
 refine DJ.st Z Z Z Z Z (SR.load Z Z (fun w' hx => ld1 oU Z Z (CA.ext (CA.sub (hS.cells (i := 1) Z) 0) hx) Z)) ?_
 refine DJ.pures oU 1 Z ?_
 obtain ⟨u12, hu12, H⟩ := pbind H
 refine DJ.st Z Z Z Z Z (SR.shr Z Z Z (chk_some hu12)) ?_
 refine DJ.pures oU 3 Z ?_
 refine DJ.nil (EJ.next ?_)
 refine CJ.ret (?_)
 obtain rfl := Option.some.inj H
 exact EJ.fin Z (.tmp Z .nil) ⟨Z, hS.ext⟩

def spec_l01Beside.l1 (a0 : Pasture) (a1 : Spot) : Nat → (List Spot) → Int → Option (List Spot)
  | 0, _, _ => none
  | k + 1, y6, y9 => if y9 < 4 then ((spec_l01Closed.f a0 a1 y9).bind fun t10 => if (!t10) = true then ((spec_l01Next.f a1 y9).bind fun t11 => (chk (y6.length + ([t11] : List Spot).length ≤ 4294967296)).bind fun u13 => spec_l01Beside.l1 a0 a1 k (y6 ++ ([t11] : List Spot)) (IntKind.i64.wrap (y9 + 1))) else (spec_l01Beside.l1 a0 a1 k y6 (IntKind.i64.wrap (y9 + 1)))) else (some y6)
def spec_l01Beside.f (k : Nat) (a0 : Pasture) (a1 : Spot) : Option (List Spot) := (spec_l01Beside.l1 a0 a1 k ([] : List Spot) 0).bind fun y3 => some y3
theorem spec_l01Beside.c (k : Nat) (w : World) (pa0 : Addr) (a0 : Pasture) (hp0 : CA w pa0 (cPasture.enc a0)) (a1 : Spot) (r : List Spot) (H : spec_l01Beside.f k a0 a1 = some r) :
 CV Tryz.prog 99 [.pointer (some pa0), .agg (cSpot.enc a1).toArray].toArray w fun v w' => ∃ (A0 : Option Addr) (c0 : Nat), v = .slice A0 r.length c0 ∧ St w no w' [rowC cSpot A0 c0 49 r] [] := by
 have hS := ((St.init w no).paramP pa0 (cPasture.enc a0) hp0)
 unfold spec_l01Beside.f at H
 refine CV.body Tryz.func99 Z Tryz.ntmps99 Z ?_
 refine CJ.seq (CJ.region ?_)
 refine OJ.ef Z Z Z (Ef.box hS Z Z (cSpot.enc a1) Z) ?_
 rintro _ w1 ⟨b1, rfl, hS⟩
 refine OJ.pures oU 1 Z (OJ.nil (EJ.next ?_))
 refine CJ.seq (CJ.region ?_)
 refine OJ.ef Z Z Z (Ef.lit oU oI hS (C := cSpot) Z Z Z Z Z Z ([] : List Spot) Z Z Z Z) ?_
 rintro _ w1 ⟨A2, rfl, hS⟩
 refine OJ.pures oU 1 Z (OJ.nil (EJ.next ?_))
 refine CJ.seq ?_
 refine CJ.seq (CJ.region ?_)
 refine OJ.pures oU 1 Z (OJ.nil (EJ.next ?_))
 obtain ⟨j196, H, K196⟩ := pbind H
 refine CJ.cut1 (fun F w1 => ∃ (y3 : List Spot) (A4 : Option Addr) (c5 : Nat), (some y3 : Option (List Spot)) = some j196 ∧ F = [(5, .slice A4 y3.length c5)] ∧ St w no w1 [rowC cSpot A4 c5 49 y3] [roP pa0 (cPasture.enc a0)]) ?_ ?_
 ·skip
  refine CJ.block ?_
  refine CJ.loop (fun k F w1 => ∃ (y6 : List Spot) (y9 : Int) (A7 : Option Addr) (c8 : Nat), F = [(0, .pointer (some pa0)), (3, .pointer (some ⟨b1, 0, none⟩)), (5, .slice A7 y6.length c8), (6, .int .i64 y9)] ∧ St w no w1 [box b1 (cSpot.enc a1) 49, rowC cSpot A7 c8 49 y6] [roP pa0 (cPasture.enc a0)] ∧ spec_l01Beside.l1 a0 a1 k y6 y9 = some j196) k (F' := [(0, .pointer (some pa0)), (3, .pointer (some ⟨b1, 0, none⟩)), (5, .slice A2 ([] : List Spot).length (([] : List Spot).length)), (6, .int .i64 0)]) ⟨Z, Z, Z, Z, trivial⟩ ⟨([] : List Spot), 0, A2, (([] : List Spot).length), Z, hS.pick [0, 1] [0] Z, H⟩ ?_
  rintro k F w1 ⟨y6, y9, A7, c8, rfl, hS, H⟩
  cases k with
  | zero => rw [spec_l01Beside.l1] at H; cases H
  | succ k =>
    rw [spec_l01Beside.l1] at H
    refine CJ.seq ?_
    refine CJ.seq (CJ.region ?_)
    refine OJ.pures oU 2 Z (OJ.nil (EJ.next ?_))
    refine CJ.cond Z (fun hb => ?_) (fun hb => ?_)
    · replace H := pif_t (of_decide_eq_true hb) H
      refine CJ.skip (EJ.next ?_)
      refine CJ.seq ?_
      refine CJ.block ?_
      refine CJ.seq (CJ.region ?_)
      refine OJ.pures oU 1 Z ?_
      refine OJ.st Z Z Z (SR.load Z Z (fun w' hx => ldE oU oI Z Z Z (CA.ext (hS.cells (i := 0) Z) hx) Z)) ?_
      refine OJ.pures oU 1 Z ?_
      obtain ⟨t10, ht10, H⟩ := pbind H
      refine OJ.callF Z Z Z Z Z hb122 Z (spec_l01Closed.c _ _ a0 (hS.ca (i := 0) Z) a1 y9 _ ht10) ?_
      rintro _ w1 ⟨rfl, hs⟩
      replace hS := hS.grow hs
      refine OJ.pures oU 1 Z (OJ.nil (EJ.next ?_))
      refine CJ.cond Z (fun hb => ?_) (fun hb => ?_)
      · replace H := pif_t hb H
        refine CJ.region ?_
        refine OJ.pures oU 1 Z ?_
        refine OJ.st Z Z Z (SR.load Z Z (fun w' hx => ldE oU oI Z Z Z (CA.ext (hS.cells (i := 0) Z) hx) Z)) ?_
        refine OJ.pures oU 1 Z ?_
        obtain ⟨t11, ht11, H⟩ := pbind H
        refine OJ.callF Z Z Z Z Z hb80 Z (spec_l01Next.c _ a1 y9 _ ht11) ?_
        rintro _ w1 ⟨rfl, hs⟩
        replace hS := hS.grow hs
        refine OJ.ef Z Z Z (Ef.lit oU oI hS (C := cSpot) Z Z Z Z Z Z ([t11] : List Spot) Z Z Z Z) ?_
        rintro _ w1 ⟨A12, rfl, hS⟩
        obtain ⟨u13, hu13, H⟩ := pbind H
        refine OJ.ew Z Z Z (Ew.append oU oI (C := cSpot) (xs := y6) (ys := ([t11] : List Spot)) hS (i := 1) Z Z Z Z Z Z Z Z Z Z Z Z Z (hS.rd (i := 2) Z) (chk_some hu13)) ?_
        rintro _ w1 ⟨A14, c15, rfl, hS⟩
        refine OJ.pures oU 1 Z ?_
        refine OJ.nil (EJ.blk (EJ.next ?_))
        refine CJ.region ?_
        refine OJ.pures oU 3 Z ?_
        refine OJ.nil ?_
        exact EJ.round k (F' := [(0, .pointer (some pa0)), (3, .pointer (some ⟨b1, 0, none⟩)), (5, .slice A14 (y6 ++ ([t11] : List Spot)).length c15), (6, .int .i64 (IntKind.i64.wrap (y9 + 1)))]) ⟨Z, Z, Z, Z, trivial⟩ (Nat.lt_succ_self _) ⟨(y6 ++ ([t11] : List Spot)), (IntKind.i64.wrap (y9 + 1)), A14, c15, Z, hS.pick [0, 1] [0] Z, H⟩
      · replace H := pifb_f hb H
        refine CJ.skip (EJ.blk (EJ.next ?_))
        refine CJ.region ?_
        refine OJ.pures oU 3 Z ?_
        refine OJ.nil ?_
        exact EJ.round k (F' := [(0, .pointer (some pa0)), (3, .pointer (some ⟨b1, 0, none⟩)), (5, .slice A7 y6.length c8), (6, .int .i64 (IntKind.i64.wrap (y9 + 1)))]) ⟨Z, Z, Z, Z, trivial⟩ (Nat.lt_succ_self _) ⟨y6, (IntKind.i64.wrap (y9 + 1)), A7, c8, Z, hS.pick [0, 1] [0] Z, H⟩
    · replace H := pif_f (of_decide_eq_false hb) H
      refine CJ.exit (EJ.skE (EJ.skE (EJ.hit (?_))))
      exact EJ.meet (F' := [(5, .slice A7 y6.length c8)]) ⟨Z, trivial⟩ ⟨y6, A7, c8, H, Z, hS.pick [1] [0] Z⟩
 rintro F w1 ⟨y3, A4, c5, he, rfl, hS⟩
 obtain rfl := Option.some.inj he
 have H := K196
 refine EJ.next ?_
 refine CJ.seq (CJ.region ?_)
 refine OJ.pures oU 2 Z (OJ.nil (EJ.next ?_))
 refine CJ.ret (?_)
 obtain rfl := Option.some.inj H
 exact EJ.fin Z (.tmp Z .nil) ⟨A4, c5, Z, hS.pick [0] [] Z⟩

def spec_l01Steps.l2 (t17 : Spot) (t19 : List Spot) : Nat → (Arr 10 (Arr 10 Int)) → (List Spot) → Int → Option ((Arr 10 (Arr 10 Int)) × (List Spot))
  | 0, _, _, _ => none
  | k + 1, y26, y27, y30 => if y30 < (t19.length : Int) then ((getI t19 y30).bind fun t31 => (getI t19 y30).bind fun t32 => (getI y26.l t31.Y).bind fun t33 => (getI t33.l t32.X).bind fun t34 => if t34 = 0 then ((getI t19 y30).bind fun t35 => (getI t19 y30).bind fun t36 => (getI y26.l t17.Y).bind fun t37 => (getI t37.l t17.X).bind fun t38 => (getI y26.l t35.Y).bind fun t39 => (getI t39.l t36.X).bind fun t40 => (getI t19 y30).bind fun t41 => (chk (y27.length + ([t41] : List Spot).length ≤ 4294967296)).bind fun u43 => spec_l01Steps.l2 t17 t19 k (aset y26 t35.Y.toNat (aset t39 t36.X.toNat (IntKind.i64.wrap (t38 + 1)))) (y27 ++ ([t41] : List Spot)) (IntKind.i64.wrap (y30 + 1))) else (spec_l01Steps.l2 t17 t19 k y26 y27 (IntKind.i64.wrap (y30 + 1)))) else (some (y26, y27))
def spec_l01Steps.l1 (a0 : Pasture) : Nat → (Arr 10 (Arr 10 Int)) → (List Spot) → Int → Option (Arr 10 (Arr 10 Int))
  | 0, _, _, _ => none
  | k + 1, y8, y9, y12 => if y12 < (y9.length : Int) then (((getI y9 y12).bind fun t17 => (spec_l01Beside.f k a0 t17).bind fun t19 => (spec_l01Steps.l2 t17 t19 k y8 y9 0).bind fun (y22, y23) => some (y22, y23)).bind fun (y13, y14) => spec_l01Steps.l1 a0 k y13 y14 (IntKind.i64.wrap (y12 + 1))) else (some y8)
def spec_l01Steps.f (k : Nat) (a0 : Pasture) (a1 : Spot) : Option (Arr 10 (Arr 10 Int)) := (getI (Arr.mk' (Arr.mk' 0 : Arr 10 Int) : Arr 10 (Arr 10 Int)).l a1.Y).bind fun t4 => (getI t4.l a1.X).bind fun t5 => (spec_l01Steps.l1 a0 k (aset (Arr.mk' (Arr.mk' 0 : Arr 10 Int) : Arr 10 (Arr 10 Int)) a1.Y.toNat (aset t4 a1.X.toNat 1)) ([a1] : List Spot) 0).bind fun y7 => some y7
theorem spec_l01Steps.c (k : Nat) (w : World) (pa0 : Addr) (a0 : Pasture) (hp0 : CA w pa0 (cPasture.enc a0)) (a1 : Spot) (r : Arr 10 (Arr 10 Int)) (H : spec_l01Steps.f k a0 a1 = some r) :
 CV Tryz.prog 65 [.pointer (some pa0), .agg (cSpot.enc a1).toArray].toArray w fun v w' => v = .agg ((carr 10 (carr 10 (ci .i64))).enc r).toArray ∧ Ext w w' := by
 have hS := ((St.init w no).paramP pa0 (cPasture.enc a0) hp0)
 unfold spec_l01Steps.f at H
 refine CV.body Tryz.func65 Z Tryz.ntmps65 Z ?_
 refine CJ.seq (CJ.region ?_)
 refine OJ.ef Z Z Z (Ef.box hS Z Z (cSpot.enc a1) Z) ?_
 rintro _ w1 ⟨b1, rfl, hS⟩
 refine OJ.ef rfl rfl rfl (Ef.alloc hS oI rfl rfl ((carr 10 (carr 10 (ci .i64))).enc (Arr.mk' (Arr.mk' 0 : Arr 10 Int) : Arr 10 (Arr 10 Int))) (by kernel_rfl)) ?_
 rintro _ w1 ⟨b2, rfl, hS⟩
 refine OJ.nil (EJ.next ?_)
 refine CJ.seq (CJ.region ?_)
 refine OJ.st rfl rfl rfl (SR.buildA oU oI rfl rfl rfl rfl (zs := [.int .i64 0, .int .i64 0, .int .i64 0, .int .i64 0, .int .i64 0, .int .i64 0, .int .i64 0, .int .i64 0, .int .i64 0, .int .i64 0, .int .i64 0, .int .i64 0, .int .i64 0, .int .i64 0, .int .i64 0, .int .i64 0, .int .i64 0, .int .i64 0, .int .i64 0, .int .i64 0, .int .i64 0, .int .i64 0, .int .i64 0, .int .i64 0, .int .i64 0, .int .i64 0, .int .i64 0, .int .i64 0, .int .i64 0, .int .i64 0, .int .i64 0, .int .i64 0, .int .i64 0, .int .i64 0, .int .i64 0, .int .i64 0, .int .i64 0, .int .i64 0, .int .i64 0, .int .i64 0, .int .i64 0, .int .i64 0, .int .i64 0, .int .i64 0, .int .i64 0, .int .i64 0, .int .i64 0, .int .i64 0, .int .i64 0, .int .i64 0, .int .i64 0, .int .i64 0, .int .i64 0, .int .i64 0, .int .i64 0, .int .i64 0, .int .i64 0, .int .i64 0, .int .i64 0, .int .i64 0, .int .i64 0, .int .i64 0, .int .i64 0, .int .i64 0, .int .i64 0, .int .i64 0, .int .i64 0, .int .i64 0, .int .i64 0, .int .i64 0, .int .i64 0, .int .i64 0, .int .i64 0, .int .i64 0, .int .i64 0, .int .i64 0, .int .i64 0, .int .i64 0, .int .i64 0, .int .i64 0, .int .i64 0, .int .i64 0, .int .i64 0, .int .i64 0, .int .i64 0, .int .i64 0, .int .i64 0, .int .i64 0, .int .i64 0, .int .i64 0, .int .i64 0, .int .i64 0, .int .i64 0, .int .i64 0, .int .i64 0, .int .i64 0, .int .i64 0, .int .i64 0, .int .i64 0, .int .i64 0]) rfl rfl ((carr 10 (carr 10 (ci .i64))).enc (Arr.mk' (Arr.mk' 0 : Arr 10 Int) : Arr 10 (Arr 10 Int))) (by kernel_rfl)) ?_
 refine OJ.ef rfl rfl rfl (Ef.alloc hS oI rfl rfl ((carr 10 (carr 10 (ci .i64))).enc (Arr.mk' (Arr.mk' 0 : Arr 10 Int) : Arr 10 (Arr 10 Int))) (by kernel_rfl)) ?_
 rintro _ w1 ⟨b3, rfl, hS⟩
 refine OJ.es rfl rfl (Es.put oI hS (i := 2) rfl rfl rfl rfl rfl (vs := (carr 10 (carr 10 (ci .i64))).enc (Arr.mk' (Arr.mk' 0 : Arr 10 Int) : Arr 10 (Arr 10 Int))) rfl ((carr 10 (carr 10 (ci .i64))).len _) ((carr 10 (carr 10 (ci .i64))).one _) (Put.all (carr 10 (carr 10 (ci .i64))) (Arr.mk' (Arr.mk' 0 : Arr 10 Int) : Arr 10 (Arr 10 Int)) (Arr.mk' (Arr.mk' 0 : Arr 10 Int) : Arr 10 (Arr 10 Int))) (by (try simp only [add_lit, Nat.add_assoc, Nat.zero_add, Nat.add_zero]) <;> rfl)) ?_
 intro w1 hS
 refine OJ.nil (EJ.next ?_)
 refine CJ.seq ?_
 refine CJ.draw [] [0, 1, 2, 3, 4, 5, 6] mixed (by kernel_rfl) hS fun w1 hS => ?_
 refine DJ.st Z Z Z Z Z (SR.fieldAddr oU oI Z Z Z Z Z Z) ?_
 refine DJ.st Z Z Z Z Z (SR.load Z Z (fun w' hx => ld1 oU Z Z (CA.ext (CA.sub (hS.cells (i := 0) Z) 1) hx) Z)) ?_
 refine DJ.st Z Z Z Z Z (SR.fieldAddr oU oI Z Z Z Z Z Z) ?_
 refine DJ.st Z Z Z Z Z (SR.load Z Z (fun w' hx => ld1 oU Z Z (CA.ext (CA.sub (hS.cells (i := 0) Z) 0) hx) Z)) ?_
 obtain ⟨t4, ht4, H⟩ := pbind H
 refine DJ.st Z Z Z Z Z (SR.idxA oU oI Z Z Z Z Z (Arr.lt ht4)) ?_
 obtain ⟨t5, ht5, H⟩ := pbind H
 refine DJ.st Z Z Z Z Z (SR.idxA oU oI Z Z Z Z Z (Arr.lt ht5)) ?_
 refine DJ.es rfl rfl rfl rfl (Es.put oI hS (i := 2) rfl rfl rfl rfl rfl (vs := (ci .i64).enc 1) rfl rfl (one1 rfl) (Put.idx (Put.idx (Put.all (ci .i64) t5 1) ht5) ht4) (by (try simp only [add_lit, Nat.add_assoc, Nat.zero_add, Nat.add_zero]) <;> rfl)) ?_
 intro w1 hS
 refine DJ.nil (EJ.next ?_)
 refine CJ.seq (CJ.region ?_)
 refine OJ.st Z Z Z (SR.load Z Z (fun w' hx => ldE oU oI Z Z Z (CA.ext (hS.cells (i := 0) Z) hx) Z)) ?_
 refine OJ.ef Z Z Z (Ef.lit oU oI hS (C := cSpot) Z Z Z Z Z Z ([a1] : List Spot) Z Z Z Z) ?_
 rintro _ w1 ⟨A6, rfl, hS⟩
 refine OJ.pures oU 1 Z (OJ.nil (EJ.next ?_))
 refine CJ.seq ?_
 refine CJ.seq (CJ.region ?_)
 refine OJ.pures oU 1 Z (OJ.nil (EJ.next ?_))
 obtain ⟨j194, H, K194⟩ := pbind H
 refine CJ.cut1 (fun F w1 => ∃ (y7 : Arr 10 (Arr 10 Int)) , (some y7 : Option (Arr 10 (Arr 10 Int))) = some j194 ∧ F = [(4, .pointer (some ⟨b2, 0, none⟩)), (5, .pointer (some ⟨b3, 0, none⟩))] ∧ St w no w1 [box b2 ((carr 10 (carr 10 (ci .i64))).enc (Arr.mk' (Arr.mk' 0 : Arr 10 Int) : Arr 10 (Arr 10 Int))) 106, box b3 ((carr 10 (carr 10 (ci .i64))).enc y7) 106] [roP pa0 (cPasture.enc a0)]) ?_ ?_
 ·skip
  refine CJ.block ?_
  refine CJ.loop (fun k F w1 => ∃ (y8 : Arr 10 (Arr 10 Int)) (y9 : List Spot) (y12 : Int) (A10 : Option Addr) (c11 : Nat), F = [(0, .pointer (some pa0)), (4, .pointer (some ⟨b2, 0, none⟩)), (5, .pointer (some ⟨b3, 0, none⟩)), (6, .slice A10 y9.length c11), (7, .int .i64 y12)] ∧ St w no w1 [box b2 ((carr 10 (carr 10 (ci .i64))).enc (Arr.mk' (Arr.mk' 0 : Arr 10 Int) : Arr 10 (Arr 10 Int))) 106, box b3 ((carr 10 (carr 10 (ci .i64))).enc y8) 106, rowC cSpot A10 c11 49 y9] [roP pa0 (cPasture.enc a0)] ∧ spec_l01Steps.l1 a0 k y8 y9 y12 = some j194) k (F' := [(0, .pointer (some pa0)), (4, .pointer (some ⟨b2, 0, none⟩)), (5, .pointer (some ⟨b3, 0, none⟩)), (6, .slice A6 ([a1] : List Spot).length (([a1] : List Spot).length)), (7, .int .i64 0)]) ⟨Z, Z, Z, Z, Z, trivial⟩ ⟨(aset (Arr.mk' (Arr.mk' 0 : Arr 10 Int) : Arr 10 (Arr 10 Int)) a1.Y.toNat (aset t4 a1.X.toNat 1)), ([a1] : List Spot), 0, A6, (([a1] : List Spot).length), Z, hS.pick [1, 2, 3] [0] Z, H⟩ ?_
  rintro k F w1 ⟨y8, y9, y12, A10, c11, rfl, hS, H⟩
  cases k with
  | zero => rw [spec_l01Steps.l1] at H; cases H
  | succ k =>
    rw [spec_l01Steps.l1] at H
    refine CJ.seq ?_
    refine CJ.seq (CJ.region ?_)
    refine OJ.pures oU 4 Z (OJ.nil (EJ.next ?_))
    refine CJ.cond Z (fun hb => ?_) (fun hb => ?_)
    · replace H := pif_t (of_decide_eq_true hb) H
      refine CJ.skip (EJ.next ?_)
      obtain ⟨j202, H, K202⟩ := pbind H
      refine CJ.cut (fun F w1 => ∃ (y13 : Arr 10 (Arr 10 Int)) (y14 : List Spot) (A15 : Option Addr) (c16 : Nat), (some (y13, y14) : Option ((Arr 10 (Arr 10 Int)) × (List Spot))) = some j202 ∧ F = [(0, .pointer (some pa0)), (4, .pointer (some ⟨b2, 0, none⟩)), (5, .pointer (some ⟨b3, 0, none⟩)), (6, .slice A15 y14.length c16), (7, .int .i64 y12)] ∧ St w no w1 [box b2 ((carr 10 (carr 10 (ci .i64))).enc (Arr.mk' (Arr.mk' 0 : Arr 10 Int) : Arr 10 (Arr 10 Int))) 106, box b3 ((carr 10 (carr 10 (ci .i64))).enc y13) 106, rowC cSpot A15 c16 49 y14] [roP pa0 (cPasture.enc a0)]) ?_ ?_
      · skip
        refine CJ.block ?_
        refine CJ.seq (CJ.region ?_)
        refine OJ.pures oU 2 Z ?_
        obtain ⟨t17, ht17, H⟩ := pbind H
        obtain ⟨ad17, e17⟩ := (hS.rd (i := 2) rfl).some' ht17
        refine OJ.st Z Z Z (SR.idxS oU oI Z Z Z Z e17 Z (getI_some ht17).1) ?_
        refine OJ.st Z Z Z (SR.load Z Z (fun w' hx => ldE oU oI Z Z Z (CA.ext ((hS.rd (i := 2) Z).at_ e17 ht17) hx) Z)) ?_
        refine OJ.ef Z Z Z (Ef.alloc hS oI Z Z (cSpot.enc (⟨0, 0⟩ : Spot)) Z) ?_
        rintro _ w1 ⟨b18, rfl, hS⟩
        refine OJ.es Z Z (Es.store oI hS (i := 3) Z Z Z Z Z Z (vs := cSpot.enc t17) Z (cSpot.len _) (cSpot.one _) (Nat.le_of_ble_eq_true Z) (cSpot.enc t17) Z) ?_
        intro w1 hS
        refine OJ.nil (EJ.next ?_)
        refine CJ.seq (CJ.region ?_)
        refine OJ.pures oU 1 Z ?_
        refine OJ.st Z Z Z (SR.load Z Z (fun w' hx => ldE oU oI Z Z Z (CA.ext (hS.cells (i := 3) Z) hx) Z)) ?_
        obtain ⟨t19, ht19, H⟩ := pbind H
        refine OJ.callF Z Z Z Z Z hb99 Z (spec_l01Beside.c k _ _ a0 (hS.ca (i := 0) Z) t17 _ ht19) ?_
        rintro _ w1 ⟨A20, c21, rfl, hs⟩
        replace hS := hS.addN hs
        refine OJ.pures oU 1 Z (OJ.nil (EJ.next ?_))
        refine CJ.seq (CJ.region ?_)
        refine OJ.pures oU 1 Z (OJ.nil (EJ.next ?_))
        obtain ⟨j204, H, K204⟩ := pbind H
        refine CJ.cut1 (fun F w1 => ∃ (y22 : Arr 10 (Arr 10 Int)) (y23 : List Spot) (A24 : Option Addr) (c25 : Nat), (some (y22, y23) : Option ((Arr 10 (Arr 10 Int)) × (List Spot))) = some j204 ∧ F = [(0, .pointer (some pa0)), (4, .pointer (some ⟨b2, 0, none⟩)), (5, .pointer (some ⟨b3, 0, none⟩)), (6, .slice A24 y23.length c25), (7, .int .i64 y12)] ∧ St w no w1 [box b2 ((carr 10 (carr 10 (ci .i64))).enc (Arr.mk' (Arr.mk' 0 : Arr 10 Int) : Arr 10 (Arr 10 Int))) 106, box b3 ((carr 10 (carr 10 (ci .i64))).enc y22) 106, rowC cSpot A24 c25 49 y23] [roP pa0 (cPasture.enc a0)]) ?_ ?_
        · skip
          refine CJ.block ?_
          refine CJ.loop (fun k F w1 => ∃ (y26 : Arr 10 (Arr 10 Int)) (y27 : List Spot) (y30 : Int) (A28 : Option Addr) (c29 : Nat), F = [(0, .pointer (some pa0)), (4, .pointer (some ⟨b2, 0, none⟩)), (5, .pointer (some ⟨b3, 0, none⟩)), (6, .slice A28 y27.length c29), (7, .int .i64 y12), (8, .pointer (some ⟨b18, 0, none⟩)), (9, .slice A20 t19.length c21), (10, .int .i64 y30)] ∧ St w no w1 [box b2 ((carr 10 (carr 10 (ci .i64))).enc (Arr.mk' (Arr.mk' 0 : Arr 10 Int) : Arr 10 (Arr 10 Int))) 106, box b3 ((carr 10 (carr 10 (ci .i64))).enc y26) 106, rowC cSpot A28 c29 49 y27, box b18 (cSpot.enc t17) 49, rowC cSpot A20 c21 49 t19] [roP pa0 (cPasture.enc a0)] ∧ spec_l01Steps.l2 t17 t19 k y26 y27 y30 = some j204) k (F' := [(0, .pointer (some pa0)), (4, .pointer (some ⟨b2, 0, none⟩)), (5, .pointer (some ⟨b3, 0, none⟩)), (6, .slice A10 y9.length c11), (7, .int .i64 y12), (8, .pointer (some ⟨b18, 0, none⟩)), (9, .slice A20 t19.length c21), (10, .int .i64 0)]) ⟨Z, Z, Z, Z, Z, Z, Z, Z, trivial⟩ ⟨y8, y9, 0, A10, c11, Z, hS.pick [0, 1, 2, 3, 4] [0] Z, H⟩ ?_
          rintro k F w1 ⟨y26, y27, y30, A28, c29, rfl, hS, H⟩
          cases k with
          | zero => rw [spec_l01Steps.l2] at H; cases H
          | succ k =>
            rw [spec_l01Steps.l2] at H
            refine CJ.seq ?_
            refine CJ.seq (CJ.region ?_)
            refine OJ.pures oU 4 Z (OJ.nil (EJ.next ?_))
            refine CJ.cond Z (fun hb => ?_) (fun hb => ?_)
            · replace H := pif_t (of_decide_eq_true hb) H
              refine CJ.skip (EJ.next ?_)
              refine CJ.seq ?_
              refine CJ.block ?_
              refine CJ.seq ?_
              refine CJ.draw [] [0, 1, 2, 3, 4, 5, 6, 7, 8, 9, 10, 11, 12, 13] mixed (by kernel_rfl) hS fun w1 hS => ?_
              refine DJ.pures oU 2 Z ?_
              obtain ⟨t31, ht31, H⟩ := pbind H
              obtain ⟨ad31, e31⟩ := (hS.rd (i := 4) rfl).some' ht31
              refine DJ.st Z Z Z Z Z (SR.idxS oU oI Z Z Z Z e31 Z (getI_some ht31).1) ?_
              refine DJ.st Z Z Z Z Z (SR.fieldAddr oU oI Z Z Z Z Z Z) ?_
              refine DJ.st Z Z Z Z Z (SR.load Z Z (fun w' hx => ld1 oU Z Z (CA.ext (CA.sub ((hS.rd (i := 4) Z).at_ e31 ht31) 1) hx) Z)) ?_
              refine DJ.pures oU 2 Z ?_
              obtain ⟨t32, ht32, H⟩ := pbind H
              obtain ⟨ad32, e32⟩ := (hS.rd (i := 4) rfl).some' ht32
              refine DJ.st Z Z Z Z Z (SR.idxS oU oI Z Z Z Z e32 Z (getI_some ht32).1) ?_
              refine DJ.st Z Z Z Z Z (SR.fieldAddr oU oI Z Z Z Z Z Z) ?_
              refine DJ.st Z Z Z Z Z (SR.load Z Z (fun w' hx => ld1 oU Z Z (CA.ext (CA.sub ((hS.rd (i := 4) Z).at_ e32 ht32) 0) hx) Z)) ?_
              obtain ⟨t33, ht33, H⟩ := pbind H
              refine DJ.st Z Z Z Z Z (SR.idxA oU oI Z Z Z Z Z (Arr.lt ht33)) ?_
              obtain ⟨t34, ht34, H⟩ := pbind H
              refine DJ.st Z Z Z Z Z (SR.idxA oU oI Z Z Z Z Z (Arr.lt ht34)) ?_
              refine DJ.st Z Z Z Z Z (SR.load Z Z (fun w' hx => ld1 oU Z Z (CA.ext (CA.idx (CA.idx (hS.cells (i := 1) Z) ht33) ht34) hx) Z)) ?_
              refine DJ.pures oU 1 Z ?_
              refine DJ.nil (EJ.next ?_)
              refine CJ.cond Z (fun hb => ?_) (fun hb => ?_)
              · replace H := pif_t (of_decide_eq_true hb) H
                refine CJ.seq ?_
                refine CJ.draw [] [0, 1, 2, 3, 4, 5, 6, 7, 8, 9, 10, 11, 12, 13, 14, 15, 16, 17, 18, 19, 20] mixed (by kernel_rfl) hS fun w1 hS => ?_
                refine DJ.pures oU 2 Z ?_
                obtain ⟨t35, ht35, H⟩ := pbind H
                obtain ⟨ad35, e35⟩ := (hS.rd (i := 4) rfl).some' ht35
                refine DJ.st Z Z Z Z Z (SR.idxS oU oI Z Z Z Z e35 Z (getI_some ht35).1) ?_
                refine DJ.st Z Z Z Z Z (SR.fieldAddr oU oI Z Z Z Z Z Z) ?_
                refine DJ.st Z Z Z Z Z (SR.load Z Z (fun w' hx => ld1 oU Z Z (CA.ext (CA.sub ((hS.rd (i := 4) Z).at_ e35 ht35) 1) hx) Z)) ?_
                refine DJ.pures oU 2 Z ?_
                obtain ⟨t36, ht36, H⟩ := pbind H
                obtain ⟨ad36, e36⟩ := (hS.rd (i := 4) rfl).some' ht36
                refine DJ.st Z Z Z Z Z (SR.idxS oU oI Z Z Z Z e36 Z (getI_some ht36).1) ?_
                refine DJ.st Z Z Z Z Z (SR.fieldAddr oU oI Z Z Z Z Z Z) ?_
                refine DJ.st Z Z Z Z Z (SR.load Z Z (fun w' hx => ld1 oU Z Z (CA.ext (CA.sub ((hS.rd (i := 4) Z).at_ e36 ht36) 0) hx) Z)) ?_
                refine DJ.st Z Z Z Z Z (SR.fieldAddr oU oI Z Z Z Z Z Z) ?_
                refine DJ.st Z Z Z Z Z (SR.load Z Z (fun w' hx => ld1 oU Z Z (CA.ext (CA.sub (hS.cells (i := 3) Z) 1) hx) Z)) ?_
                refine DJ.st Z Z Z Z Z (SR.fieldAddr oU oI Z Z Z Z Z Z) ?_
                refine DJ.st Z Z Z Z Z (SR.load Z Z (fun w' hx => ld1 oU Z Z (CA.ext (CA.sub (hS.cells (i := 3) Z) 0) hx) Z)) ?_
                obtain ⟨t37, ht37, H⟩ := pbind H
                refine DJ.st Z Z Z Z Z (SR.idxA oU oI Z Z Z Z Z (Arr.lt ht37)) ?_
                obtain ⟨t38, ht38, H⟩ := pbind H
                refine DJ.st Z Z Z Z Z (SR.idxA oU oI Z Z Z Z Z (Arr.lt ht38)) ?_
                refine DJ.st Z Z Z Z Z (SR.load Z Z (fun w' hx => ld1 oU Z Z (CA.ext (CA.idx (CA.idx (hS.cells (i := 1) Z) ht37) ht38) hx) Z)) ?_
                refine DJ.pures oU 1 Z ?_
                obtain ⟨t39, ht39, H⟩ := pbind H
                refine DJ.st Z Z Z Z Z (SR.idxA oU oI Z Z Z Z Z (Arr.lt ht39)) ?_
                obtain ⟨t40, ht40, H⟩ := pbind H
                refine DJ.st Z Z Z Z Z (SR.idxA oU oI Z Z Z Z Z (Arr.lt ht40)) ?_
                refine DJ.es rfl rfl rfl rfl (Es.put oI hS (i := 1) rfl rfl rfl rfl rfl (vs := (ci .i64).enc (IntKind.i64.wrap (t38 + 1))) rfl rfl (one1 rfl) (Put.idx (Put.idx (Put.all (ci .i64) t40 (IntKind.i64.wrap (t38 + 1))) ht40) ht39) (by (try simp only [add_lit, Nat.add_assoc, Nat.zero_add, Nat.add_zero]) <;> rfl)) ?_
                intro w1 hS
                refine DJ.nil (EJ.next ?_)
                refine CJ.region ?_
                refine OJ.pures oU 3 Z ?_
                obtain ⟨t41, ht41, H⟩ := pbind H
                obtain ⟨ad41, e41⟩ := (hS.rd (i := 4) rfl).some' ht41
                refine OJ.st Z Z Z (SR.idxS oU oI Z Z Z Z e41 Z (getI_some ht41).1) ?_
                refine OJ.st Z Z Z (SR.load Z Z (fun w' hx => ldE oU oI Z Z Z (CA.ext ((hS.rd (i := 4) Z).at_ e41 ht41) hx) Z)) ?_
                refine OJ.ef Z Z Z (Ef.lit oU oI hS (C := cSpot) Z Z Z Z Z Z ([t41] : List Spot) Z Z Z Z) ?_
                rintro _ w1 ⟨A42, rfl, hS⟩
                obtain ⟨u43, hu43, H⟩ := pbind H
                refine OJ.ew Z Z Z (Ew.append oU oI (C := cSpot) (xs := y27) (ys := ([t41] : List Spot)) hS (i := 2) Z Z Z Z Z Z Z Z Z Z Z Z Z (hS.rd (i := 5) Z) (chk_some hu43)) ?_
                rintro _ w1 ⟨A44, c45, rfl, hS⟩
                refine OJ.pures oU 1 Z ?_
                refine OJ.nil (EJ.blk (EJ.next ?_))
                refine CJ.region ?_
                refine OJ.pures oU 3 Z ?_
                refine OJ.nil ?_
                exact EJ.round k (F' := [(0, .pointer (some pa0)), (4, .pointer (some ⟨b2, 0, none⟩)), (5, .pointer (some ⟨b3, 0, none⟩)), (6, .slice A44 (y27 ++ ([t41] : List Spot)).length c45), (7, .int .i64 y12), (8, .pointer (some ⟨b18, 0, none⟩)), (9, .slice A20 t19.length c21), (10, .int .i64 (IntKind.i64.wrap (y30 + 1)))]) ⟨Z, Z, Z, Z, Z, Z, Z, Z, trivial⟩ (Nat.lt_succ_self _) ⟨(aset y26 t35.Y.toNat (aset t39 t36.X.toNat (IntKind.i64.wrap (t38 + 1)))), (y27 ++ ([t41] : List Spot)), (IntKind.i64.wrap (y30 + 1)), A44, c45, Z, hS.pick [0, 1, 2, 3, 4] [0] Z, H⟩
              · replace H := pif_f (of_decide_eq_false hb) H
                refine CJ.skip (EJ.blk (EJ.next ?_))
                refine CJ.region ?_
                refine OJ.pures oU 3 Z ?_
                refine OJ.nil ?_
                exact EJ.round k (F' := [(0, .pointer (some pa0)), (4, .pointer (some ⟨b2, 0, none⟩)), (5, .pointer (some ⟨b3, 0, none⟩)), (6, .slice A28 y27.length c29), (7, .int .i64 y12), (8, .pointer (some ⟨b18, 0, none⟩)), (9, .slice A20 t19.length c21), (10, .int .i64 (IntKind.i64.wrap (y30 + 1)))]) ⟨Z, Z, Z, Z, Z, Z, Z, Z, trivial⟩ (Nat.lt_succ_self _) ⟨y26, y27, (IntKind.i64.wrap (y30 + 1)), A28, c29, Z, hS.pick [0, 1, 2, 3, 4] [0] Z, H⟩
            · replace H := pif_f (of_decide_eq_false hb) H
              refine CJ.exit (EJ.skE (EJ.skE (EJ.hit (?_))))
              exact EJ.meet (F' := [(0, .pointer (some pa0)), (4, .pointer (some ⟨b2, 0, none⟩)), (5, .pointer (some ⟨b3, 0, none⟩)), (6, .slice A28 y27.length c29), (7, .int .i64 y12)]) ⟨Z, Z, Z, Z, Z, trivial⟩ ⟨y26, y27, A28, c29, H, Z, hS.pick [0, 1, 2] [0] Z⟩
        · rintro F w1 ⟨y22, y23, A24, c25, he, rfl, hS⟩
          obtain rfl := Option.some.inj he
          have H := K204
          refine EJ.blk (?_)
          exact EJ.meet (F' := [(0, .pointer (some pa0)), (4, .pointer (some ⟨b2, 0, none⟩)), (5, .pointer (some ⟨b3, 0, none⟩)), (6, .slice A24 y23.length c25), (7, .int .i64 y12)]) ⟨Z, Z, Z, Z, Z, trivial⟩ ⟨y22, y23, A24, c25, H, Z, hS.pick [0, 1, 2] [0] Z⟩
      · rintro F w1 ⟨y13, y14, A15, c16, he, rfl, hS⟩
        obtain rfl := Option.some.inj he
        have H := K202
        refine CJ.region ?_
        refine OJ.pures oU 3 Z ?_
        refine OJ.nil ?_
        exact EJ.round k (F' := [(0, .pointer (some pa0)), (4, .pointer (some ⟨b2, 0, none⟩)), (5, .pointer (some ⟨b3, 0, none⟩)), (6, .slice A15 y14.length c16), (7, .int .i64 (IntKind.i64.wrap (y12 + 1)))]) ⟨Z, Z, Z, Z, Z, trivial⟩ (Nat.lt_succ_self _) ⟨y13, y14, (IntKind.i64.wrap (y12 + 1)), A15, c16, Z, hS.pick [0, 1, 2] [0] Z, H⟩
    · replace H := pif_f (of_decide_eq_false hb) H
      refine CJ.exit (EJ.skE (EJ.skE (EJ.hit (?_))))
      exact EJ.meet (F' := [(4, .pointer (some ⟨b2, 0, none⟩)), (5, .pointer (some ⟨b3, 0, none⟩))]) ⟨Z, Z, trivial⟩ ⟨y8, H, Z, hS.pick [0, 1] [0] Z⟩
 rintro F w1 ⟨y7, he, rfl, hS⟩
 obtain rfl := Option.some.inj he
 have H := K194
 refine EJ.next ?_
 refine CJ.seq (CJ.region ?_)
 refine OJ.st Z Z Z (SR.load Z Z (fun w' hx => ldE oU oI Z Z Z (CA.ext (hS.cells (i := 1) Z) hx) Z)) ?_
 refine OJ.es rfl rfl (Es.put oI hS (i := 0) rfl rfl rfl rfl rfl (vs := (carr 10 (carr 10 (ci .i64))).enc y7) rfl ((carr 10 (carr 10 (ci .i64))).len _) ((carr 10 (carr 10 (ci .i64))).one _) (Put.all (carr 10 (carr 10 (ci .i64))) (Arr.mk' (Arr.mk' 0 : Arr 10 Int) : Arr 10 (Arr 10 Int)) y7) (by (try simp only [add_lit, Nat.add_assoc, Nat.zero_add, Nat.add_zero]) <;> rfl)) ?_
 intro w1 hS
 refine OJ.nil (EJ.next ?_)
 refine CJ.ret (?_)
 obtain rfl := Option.some.inj H
 exact EJ.fin Z (.cell Z (ldE oU oI Z Z Z (hS.cells (i := 0) Z) Z) .nil) ⟨Z, hS.ext⟩

def spec_SquareOf.f (a0 : Spot) (a1 : Spot) : Option Int := some (IntKind.i64.wrap ((IntKind.i64.wrap ((IntKind.i64.wrap ((IntKind.i64.wrap a0.X) - (IntKind.i64.wrap a1.X))) * (IntKind.i64.wrap ((IntKind.i64.wrap a0.X) - (IntKind.i64.wrap a1.X))))) + (IntKind.i64.wrap ((IntKind.i64.wrap ((IntKind.i64.wrap a0.Y) - (IntKind.i64.wrap a1.Y))) * (IntKind.i64.wrap ((IntKind.i64.wrap a0.Y) - (IntKind.i64.wrap a1.Y)))))))
theorem spec_SquareOf.c (w : World) (a0 : Spot) (a1 : Spot) (r : Int) (H : spec_SquareOf.f a0 a1 = some r) :
 CV Tryz.prog 77 [.agg (cSpot.enc a0).toArray, .agg (cSpot.enc a1).toArray].toArray w fun v w' => v = .int .i64 r ∧ Ext w w' := by
 have hS := (St.init w no)
 unfold spec_SquareOf.f at H
 refine CV.body Tryz.func77 Z Tryz.ntmps77 Z ?_
 refine CJ.seq (CJ.region ?_)
 refine OJ.ef Z Z Z (Ef.box hS Z Z (cSpot.enc a0) Z) ?_
 rintro _ w1 ⟨b1, rfl, hS⟩
 refine OJ.ef Z Z Z (Ef.box hS Z Z (cSpot.enc a1) Z) ?_
 rintro _ w1 ⟨b2, rfl, hS⟩
 refine OJ.pures oU 1 Z (OJ.nil (EJ.next ?_))
 refine CJ.seq (CJ.region ?_)
 refine OJ.st Z Z Z (SR.fieldAddr oU oI Z Z Z Z Z Z) ?_
 refine OJ.st Z Z Z (SR.load Z Z (fun w' hx => ld1 oU Z Z (CA.ext (CA.sub (hS.cells (i := 0) Z) 0) hx) Z)) ?_
 refine OJ.pures oU 1 Z ?_
 refine OJ.st Z Z Z (SR.fieldAddr oU oI Z Z Z Z Z Z) ?_
 refine OJ.st Z Z Z (SR.load Z Z (fun w' hx => ld1 oU Z Z (CA.ext (CA.sub (hS.cells (i := 1) Z) 0) hx) Z)) ?_
 refine OJ.pures oU 3 Z (OJ.nil (EJ.next ?_))
 refine CJ.seq (CJ.region ?_)
 refine OJ.st Z Z Z (SR.fieldAddr oU oI Z Z Z Z Z Z) ?_
 refine OJ.st Z Z Z (SR.load Z Z (fun w' hx => ld1 oU Z Z (CA.ext (CA.sub (hS.cells (i := 0) Z) 1) hx) Z)) ?_
 refine OJ.pures oU 1 Z ?_
 refine OJ.st Z Z Z (SR.fieldAddr oU oI Z Z Z Z Z Z) ?_
 refine OJ.st Z Z Z (SR.load Z Z (fun w' hx => ld1 oU Z Z (CA.ext (CA.sub (hS.cells (i := 1) Z) 1) hx) Z)) ?_
 refine OJ.pures oU 3 Z (OJ.nil (EJ.next ?_))
 refine CJ.seq (CJ.region ?_)
 refine OJ.pures oU 8 Z (OJ.nil (EJ.next ?_))
 refine CJ.ret (?_)
 obtain rfl := Option.some.inj H
 exact EJ.fin Z (.tmp Z .nil) ⟨Z, hS.ext⟩

def spec_l05Mask.l2 (a0 : Pasture) (a1 : Stake) (t3 : Arr 10 (Arr 10 Int)) (y8 : Int) : Nat → (Arr 10 (Arr 10 Bool)) → Int → Option (Arr 10 (Arr 10 Bool))
  | 0, _, _ => none
  | k + 1, y11, y12 => if y12 < a0.Wide then ((getI t3.l y8).bind fun t13 => (getI t13.l y12).bind fun t14 => if 0 < t14 then ((getI y11.l y8).bind fun t15 => (spec_SquareOf.f a1.At (⟨y12, y8⟩ : Spot)).bind fun t16 => (getI t15.l y12).bind fun t17 => spec_l05Mask.l2 a0 a1 t3 y8 k (aset y11 y8.toNat (aset t15 y12.toNat (decide (t16 ≤ (IntKind.i64.wrap a1.Reach))))) (IntKind.i8.wrap (y12 + 1))) else ((getI y11.l y8).bind fun t18 => (getI t18.l y12).bind fun t19 => spec_l05Mask.l2 a0 a1 t3 y8 k (aset y11 y8.toNat (aset t18 y12.toNat false)) (IntKind.i8.wrap (y12 + 1)))) else (some y11)
def spec_l05Mask.l1 (a0 : Pasture) (a1 : Stake) (t3 : Arr 10 (Arr 10 Int)) : Nat → (Arr 10 (Arr 10 Bool)) → Int → Option (Arr 10 (Arr 10 Bool))
  | 0, _, _ => none
  | k + 1, y7, y8 => if y8 < a0.High then (((spec_l05Mask.l2 a0 a1 t3 y8 k y7 0).bind fun y10 => some y10).bind fun y9 => spec_l05Mask.l1 a0 a1 t3 k y9 (IntKind.i8.wrap (y8 + 1))) else (some y7)
def spec_l05Mask.f (k : Nat) (a0 : Pasture) (a1 : Stake) : Option (Arr 10 (Arr 10 Bool)) := (spec_l01Steps.f k a0 a1.At).bind fun t3 => (spec_l05Mask.l1 a0 a1 t3 k (Arr.mk' (Arr.mk' false : Arr 10 Bool) : Arr 10 (Arr 10 Bool)) 0).bind fun y6 => some y6
theorem spec_l05Mask.c (k : Nat) (w : World) (pa0 : Addr) (a0 : Pasture) (hp0 : CA w pa0 (cPasture.enc a0)) (a1 : Stake) (r : Arr 10 (Arr 10 Bool)) (H : spec_l05Mask.f k a0 a1 = some r) :
 CV Tryz.prog 59 [.pointer (some pa0), .agg (cStake.enc a1).toArray].toArray w fun v w' => v = .agg ((carr 10 (carr 10 cb)).enc r).toArray ∧ Ext w w' := by
 have hS := ((St.init w no).paramP pa0 (cPasture.enc a0) hp0)
 unfold spec_l05Mask.f at H
 refine CV.body Tryz.func59 Z Tryz.ntmps59 Z ?_
 refine CJ.seq (CJ.region ?_)
 refine OJ.ef Z Z Z (Ef.box hS Z Z (cStake.enc a1) Z) ?_
 rintro _ w1 ⟨b1, rfl, hS⟩
 refine OJ.ef rfl rfl rfl (Ef.alloc hS oI rfl rfl ((carr 10 (carr 10 cb)).enc (Arr.mk' (Arr.mk' false : Arr 10 Bool) : Arr 10 (Arr 10 Bool))) (by kernel_rfl)) ?_
 rintro _ w1 ⟨b2, rfl, hS⟩
 refine OJ.nil (EJ.next ?_)
 refine CJ.seq (CJ.region ?_)
 refine OJ.pures oU 1 Z ?_
 refine OJ.st Z Z Z (SR.fieldAddr oU oI Z Z Z Z Z Z) ?_
 refine OJ.st Z Z Z (SR.load Z Z (fun w' hx => ldN oU oI Z Z Z (CA.ext (CA.sub (hS.cells (i := 0) Z) 0) hx) (cSpot.len _) Z)) ?_
 obtain ⟨t3, ht3, H⟩ := pbind H
 refine OJ.callF Z Z Z Z Z hb65 Z (spec_l01Steps.c k _ _ a0 (hS.ca (i := 0) Z) a1.At _ ht3) ?_
 rintro _ w1 ⟨rfl, hs⟩
 replace hS := hS.grow hs
 refine OJ.ef rfl rfl rfl (Ef.alloc hS oI rfl rfl ((carr 10 (carr 10 (ci .i64))).enc (Arr.mk' (Arr.mk' 0 : Arr 10 Int) : Arr 10 (Arr 10 Int))) (by kernel_rfl)) ?_
 rintro _ w1 ⟨b4, rfl, hS⟩
 refine OJ.es rfl rfl (Es.put oI hS (i := 2) rfl rfl rfl rfl rfl (vs := (carr 10 (carr 10 (ci .i64))).enc t3) rfl ((carr 10 (carr 10 (ci .i64))).len _) ((carr 10 (carr 10 (ci .i64))).one _) (Put.all (carr 10 (carr 10 (ci .i64))) (Arr.mk' (Arr.mk' 0 : Arr 10 Int) : Arr 10 (Arr 10 Int)) t3) (by (try simp only [add_lit, Nat.add_assoc, Nat.zero_add, Nat.add_zero]) <;> rfl)) ?_
 intro w1 hS
 refine OJ.nil (EJ.next ?_)
 refine CJ.seq (CJ.region ?_)
 refine OJ.st rfl rfl rfl (SR.buildA oU oI rfl rfl rfl rfl (zs := [.bool false, .bool false, .bool false, .bool false, .bool false, .bool false, .bool false, .bool false, .bool false, .bool false, .bool false, .bool false, .bool false, .bool false, .bool false, .bool false, .bool false, .bool false, .bool false, .bool false, .bool false, .bool false, .bool false, .bool false, .bool false, .bool false, .bool false, .bool false, .bool false, .bool false, .bool false, .bool false, .bool false, .bool false, .bool false, .bool false, .bool false, .bool false, .bool false, .bool false, .bool false, .bool false, .bool false, .bool false, .bool false, .bool false, .bool false, .bool false, .bool false, .bool false, .bool false, .bool false, .bool false, .bool false, .bool false, .bool false, .bool false, .bool false, .bool false, .bool false, .bool false, .bool false, .bool false, .bool false, .bool false, .bool false, .bool false, .bool false, .bool false, .bool false, .bool false, .bool false, .bool false, .bool false, .bool false, .bool false, .bool false, .bool false, .bool false, .bool false, .bool false, .bool false, .bool false, .bool false, .bool false, .bool false, .bool false, .bool false, .bool false, .bool false, .bool false, .bool false, .bool false, .bool false, .bool false, .bool false, .bool false, .bool false, .bool false, .bool false]) rfl rfl ((carr 10 (carr 10 cb)).enc (Arr.mk' (Arr.mk' false : Arr 10 Bool) : Arr 10 (Arr 10 Bool))) (by kernel_rfl)) ?_
 refine OJ.ef rfl rfl rfl (Ef.alloc hS oI rfl rfl ((carr 10 (carr 10 cb)).enc (Arr.mk' (Arr.mk' false : Arr 10 Bool) : Arr 10 (Arr 10 Bool))) (by kernel_rfl)) ?_
 rintro _ w1 ⟨b5, rfl, hS⟩
 refine OJ.es rfl rfl (Es.put oI hS (i := 3) rfl rfl rfl rfl rfl (vs := (carr 10 (carr 10 cb)).enc (Arr.mk' (Arr.mk' false : Arr 10 Bool) : Arr 10 (Arr 10 Bool))) rfl ((carr 10 (carr 10 cb)).len _) ((carr 10 (carr 10 cb)).one _) (Put.all (carr 10 (carr 10 cb)) (Arr.mk' (Arr.mk' false : Arr 10 Bool) : Arr 10 (Arr 10 Bool)) (Arr.mk' (Arr.mk' false : Arr 10 Bool) : Arr 10 (Arr 10 Bool))) (by (try simp only [add_lit, Nat.add_assoc, Nat.zero_add, Nat.add_zero]) <;> rfl)) ?_
 intro w1 hS
 refine OJ.nil (EJ.next ?_)
 refine CJ.seq ?_
 refine CJ.seq (CJ.region ?_)
 refine OJ.pures oU 1 Z (OJ.nil (EJ.next ?_))
 obtain ⟨j205, H, K205⟩ := pbind H
 refine CJ.cut1 (fun F w1 => ∃ (y6 : Arr 10 (Arr 10 Bool)) , (some y6 : Option (Arr 10 (Arr 10 Bool))) = some j205 ∧ F = [(4, .pointer (some ⟨b2, 0, none⟩)), (6, .pointer (some ⟨b5, 0, none⟩))] ∧ St w no w1 [box b2 ((carr 10 (carr 10 cb)).enc (Arr.mk' (Arr.mk' false : Arr 10 Bool) : Arr 10 (Arr 10 Bool))) 97, box b5 ((carr 10 (carr 10 cb)).enc y6) 97] [roP pa0 (cPasture.enc a0)]) ?_ ?_
 ·skip
  refine CJ.block ?_
  refine CJ.loop (fun k F w1 => ∃ (y7 : Arr 10 (Arr 10 Bool)) (y8 : Int), F = [(0, .pointer (some pa0)), (3, .pointer (some ⟨b1, 0, none⟩)), (4, .pointer (some ⟨b2, 0, none⟩)), (5, .pointer (some ⟨b4, 0, none⟩)), (6, .pointer (some ⟨b5, 0, none⟩)), (7, .int .i8 y8)] ∧ St w no w1 [box b1 (cStake.enc a1) 51, box b2 ((carr 10 (carr 10 cb)).enc (Arr.mk' (Arr.mk' false : Arr 10 Bool) : Arr 10 (Arr 10 Bool))) 97, box b4 ((carr 10 (carr 10 (ci .i64))).enc t3) 106, box b5 ((carr 10 (carr 10 cb)).enc y7) 97] [roP pa0 (cPasture.enc a0)] ∧ spec_l05Mask.l1 a0 a1 t3 k y7 y8 = some j205) k (F' := [(0, .pointer (some pa0)), (3, .pointer (some ⟨b1, 0, none⟩)), (4, .pointer (some ⟨b2, 0, none⟩)), (5, .pointer (some ⟨b4, 0, none⟩)), (6, .pointer (some ⟨b5, 0, none⟩)), (7, .int .i8 0)]) ⟨Z, Z, Z, Z, Z, Z, trivial⟩ ⟨(Arr.mk' (Arr.mk' false : Arr 10 Bool) : Arr 10 (Arr 10 Bool)), 0, Z, hS.pick [0, 1, 2, 3] [0] Z, H⟩ ?_
  rintro k F w1 ⟨y7, y8, rfl, hS, H⟩
  cases k with
  | zero => rw [spec_l05Mask.l1] at H; cases H
  | succ k =>
    rw [spec_l05Mask.l1] at H
    refine CJ.seq ?_
    refine CJ.seq (CJ.region ?_)
    refine OJ.pures oU 3 Z ?_
    refine OJ.st Z Z Z (SR.fieldAddr oU oI Z Z Z Z Z Z) ?_
    refine OJ.st Z Z Z (SR.load Z Z (fun w' hx => ld1 oU Z Z (CA.ext (CA.fld (hS.ca (i := 0) Z) (mid_part (fe_Pasture_1 _) (fl_Pasture_1 _) ((ci .i8).len _))) hx) Z)) ?_
    refine OJ.pures oU 1 Z (OJ.nil (EJ.next ?_))
    refine CJ.cond Z (fun hb => ?_) (fun hb => ?_)
    · replace H := pif_t (of_decide_eq_true hb) H
      refine CJ.skip (EJ.next ?_)
      obtain ⟨j212, H, K212⟩ := pbind H
      refine CJ.cut (fun F w1 => ∃ (y9 : Arr 10 (Arr 10 Bool)) , (some y9 : Option (Arr 10 (Arr 10 Bool))) = some j212 ∧ F = [(0, .pointer (some pa0)), (3, .pointer (some ⟨b1, 0, none⟩)), (4, .pointer (some ⟨b2, 0, none⟩)), (5, .pointer (some ⟨b4, 0, none⟩)), (6, .pointer (some ⟨b5, 0, none⟩)), (7, .int .i8 y8)] ∧ St w no w1 [box b1 (cStake.enc a1) 51, box b2 ((carr 10 (carr 10 cb)).enc (Arr.mk' (Arr.mk' false : Arr 10 Bool) : Arr 10 (Arr 10 Bool))) 97, box b4 ((carr 10 (carr 10 (ci .i64))).enc t3) 106, box b5 ((carr 10 (carr 10 cb)).enc y9) 97] [roP pa0 (cPasture.enc a0)]) ?_ ?_
      · skip
        refine CJ.block ?_
        refine CJ.seq (CJ.region ?_)
        refine OJ.pures oU 1 Z (OJ.nil (EJ.next ?_))
        obtain ⟨j214, H, K214⟩ := pbind H
        refine CJ.cut1 (fun F w1 => ∃ (y10 : Arr 10 (Arr 10 Bool)) , (some y10 : Option (Arr 10 (Arr 10 Bool))) = some j214 ∧ F = [(0, .pointer (some pa0)), (3, .pointer (some ⟨b1, 0, none⟩)), (4, .pointer (some ⟨b2, 0, none⟩)), (5, .pointer (some ⟨b4, 0, none⟩)), (6, .pointer (some ⟨b5, 0, none⟩)), (7, .int .i8 y8)] ∧ St w no w1 [box b1 (cStake.enc a1) 51, box b2 ((carr 10 (carr 10 cb)).enc (Arr.mk' (Arr.mk' false : Arr 10 Bool) : Arr 10 (Arr 10 Bool))) 97, box b4 ((carr 10 (carr 10 (ci .i64))).enc t3) 106, box b5 ((carr 10 (carr 10 cb)).enc y10) 97] [roP pa0 (cPasture.enc a0)]) ?_ ?_
        · skip
          refine CJ.block ?_
          refine CJ.loop (fun k F w1 => ∃ (y11 : Arr 10 (Arr 10 Bool)) (y12 : Int), F = [(0, .pointer (some pa0)), (3, .pointer (some ⟨b1, 0, none⟩)), (4, .pointer (some ⟨b2, 0, none⟩)), (5, .pointer (some ⟨b4, 0, none⟩)), (6, .pointer (some ⟨b5, 0, none⟩)), (7, .int .i8 y8), (8, .int .i8 y12)] ∧ St w no w1 [box b1 (cStake.enc a1) 51, box b2 ((carr 10 (carr 10 cb)).enc (Arr.mk' (Arr.mk' false : Arr 10 Bool) : Arr 10 (Arr 10 Bool))) 97, box b4 ((carr 10 (carr 10 (ci .i64))).enc t3) 106, box b5 ((carr 10 (carr 10 cb)).enc y11) 97] [roP pa0 (cPasture.enc a0)] ∧ spec_l05Mask.l2 a0 a1 t3 y8 k y11 y12 = some j214) k (F' := [(0, .pointer (some pa0)), (3, .pointer (some ⟨b1, 0, none⟩)), (4, .pointer (some ⟨b2, 0, none⟩)), (5, .pointer (some ⟨b4, 0, none⟩)), (6, .pointer (some ⟨b5, 0, none⟩)), (7, .int .i8 y8), (8, .int .i8 0)]) ⟨Z, Z, Z, Z, Z, Z, Z, trivial⟩ ⟨y7, 0, Z, hS.pick [0, 1, 2, 3] [0] Z, H⟩ ?_
          rintro k F w1 ⟨y11, y12, rfl, hS, H⟩
          cases k with
          | zero => rw [spec_l05Mask.l2] at H; cases H
          | succ k =>
            rw [spec_l05Mask.l2] at H
            refine CJ.seq ?_
            refine CJ.seq (CJ.region ?_)
            refine OJ.pures oU 3 Z ?_
            refine OJ.st Z Z Z (SR.fieldAddr oU oI Z Z Z Z Z Z) ?_
            refine OJ.st Z Z Z (SR.load Z Z (fun w' hx => ld1 oU Z Z (CA.ext (CA.fld (hS.ca (i := 0) Z) (mid_part (fe_Pasture_0 _) (fl_Pasture_0 _) ((ci .i8).len _))) hx) Z)) ?_
            refine OJ.pures oU 1 Z (OJ.nil (EJ.next ?_))
            refine CJ.cond Z (fun hb => ?_) (fun hb => ?_)
            · replace H := pif_t (of_decide_eq_true hb) H
              refine CJ.skip (EJ.next ?_)
              refine CJ.seq ?_
              refine CJ.block ?_
              refine CJ.draw [] [0, 1, 2, 3, 4, 5, 6, 7, 8, 9, 10, 11, 12, 15, 16, 17, 20, 13, 14, 18, 19, 21, 22] mixed (by kernel_rfl) hS fun w1 hS => ?_
              refine DJ.pures oU 4 Z ?_
              obtain ⟨t13, ht13, H⟩ := pbind H
              refine DJ.st Z Z Z Z Z (SR.idxA oU oI Z Z Z Z Z (Arr.lt ht13)) ?_
              obtain ⟨t14, ht14, H⟩ := pbind H
              refine DJ.st Z Z Z Z Z (SR.idxA oU oI Z Z Z Z Z (Arr.lt ht14)) ?_
              refine DJ.st Z Z Z Z Z (SR.load Z Z (fun w' hx => ld1 oU Z Z (CA.ext (CA.idx (CA.idx (hS.cells (i := 2) Z) ht13) ht14) hx) Z)) ?_
              refine DJ.pures oU 2 Z ?_
              refine DJ.split (t := 38) Z (fun hb => ?_) (fun hb => ?_)
              · replace H := pif_t (of_decide_eq_true hb) H
                refine DJ.st Z Z Z Z Z (SR.fieldAddr oU oI Z Z Z Z Z Z) ?_
                refine DJ.st Z Z Z Z Z (SR.load Z Z (fun w' hx => ldN oU oI Z Z Z (CA.ext (CA.sub (hS.cells (i := 0) Z) 0) hx) (cSpot.len _) Z)) ?_
                refine DJ.pures oU 2 Z ?_
                refine DJ.st Z Z Z Z Z (SR.fieldAddr oU oI Z Z Z Z Z Z) ?_
                refine DJ.st Z Z Z Z Z (SR.load Z Z (fun w' hx => ld1 oU Z Z (CA.ext (CA.sub (hS.cells (i := 0) Z) 2) hx) Z)) ?_
                refine DJ.pures oU 1 Z ?_
                obtain ⟨t15, ht15, H⟩ := pbind H
                refine DJ.st Z Z Z Z Z (SR.idxA oU oI Z Z Z Z Z (Arr.lt ht15)) ?_
                refine DJ.ef Z Z Z Z Z ((SR.build (C := cSpot) oU oI Z Z Z (zs := [.int .i8 0, .int .i8 0]) Z Z Z (⟨y12, y8⟩ : Spot) Z).ef) ?_
                rintro _ w1 ⟨rfl, hx⟩
                replace hS := hS.grow hx
                obtain ⟨t16, ht16, H⟩ := pbind H
                refine DJ.callF rfl rfl rfl rfl rfl rfl rfl hb77 rfl (spec_SquareOf.c _ a1.At (⟨y12, y8⟩ : Spot) _ ht16) (by rintro v w' ⟨rfl, hs⟩; exact hs) ?_
                rintro _ w1 ⟨rfl, hs⟩
                replace hS := hS.grow hs
                refine DJ.pures oU 2 Z ?_
                obtain ⟨t17, ht17, H⟩ := pbind H
                refine DJ.st Z Z Z Z Z (SR.idxA oU oI Z Z Z Z Z (Arr.lt ht17)) ?_
                refine DJ.es rfl rfl rfl rfl (Es.put oI hS (i := 3) rfl rfl rfl rfl rfl (vs := cb.enc (decide (t16 ≤ (IntKind.i64.wrap a1.Reach)))) rfl rfl (one1 rfl) (Put.idx (Put.idx (Put.all cb t17 (decide (t16 ≤ (IntKind.i64.wrap a1.Reach)))) ht17) ht15) (by (try simp only [add_lit, Nat.add_assoc, Nat.zero_add, Nat.add_zero]) <;> rfl)) ?_
                intro w1 hS
                refine DJ.nil (EJ.blk (EJ.next ?_))
                refine CJ.region ?_
                refine OJ.pures oU 3 Z ?_
                refine OJ.nil ?_
                exact EJ.round k (F' := [(0, .pointer (some pa0)), (3, .pointer (some ⟨b1, 0, none⟩)), (4, .pointer (some ⟨b2, 0, none⟩)), (5, .pointer (some ⟨b4, 0, none⟩)), (6, .pointer (some ⟨b5, 0, none⟩)), (7, .int .i8 y8), (8, .int .i8 (IntKind.i8.wrap (y12 + 1)))]) ⟨Z, Z, Z, Z, Z, Z, Z, trivial⟩ (Nat.lt_succ_self _) ⟨(aset y11 y8.toNat (aset t15 y12.toNat (decide (t16 ≤ (IntKind.i64.wrap a1.Reach))))), (IntKind.i8.wrap (y12 + 1)), Z, hS.pick [0, 1, 2, 3] [0] Z, H⟩
              · replace H := pif_f (of_decide_eq_false hb) H
                refine DJ.pures oU 7 Z ?_
                obtain ⟨t18, ht18, H⟩ := pbind H
                refine DJ.st Z Z Z Z Z (SR.idxA oU oI Z Z Z Z Z (Arr.lt ht18)) ?_
                refine DJ.pures oU 4 Z ?_
                obtain ⟨t19, ht19, H⟩ := pbind H
                refine DJ.st Z Z Z Z Z (SR.idxA oU oI Z Z Z Z Z (Arr.lt ht19)) ?_
                refine DJ.es rfl rfl rfl rfl (Es.put oI hS (i := 3) rfl rfl rfl rfl rfl (vs := cb.enc false) rfl rfl (one1 rfl) (Put.idx (Put.idx (Put.all cb t19 false) ht19) ht18) (by (try simp only [add_lit, Nat.add_assoc, Nat.zero_add, Nat.add_zero]) <;> rfl)) ?_
                intro w1 hS
                refine DJ.nil (EJ.blk (EJ.next ?_))
                refine CJ.region ?_
                refine OJ.pures oU 3 Z ?_
                refine OJ.nil ?_
                exact EJ.round k (F' := [(0, .pointer (some pa0)), (3, .pointer (some ⟨b1, 0, none⟩)), (4, .pointer (some ⟨b2, 0, none⟩)), (5, .pointer (some ⟨b4, 0, none⟩)), (6, .pointer (some ⟨b5, 0, none⟩)), (7, .int .i8 y8), (8, .int .i8 (IntKind.i8.wrap (y12 + 1)))]) ⟨Z, Z, Z, Z, Z, Z, Z, trivial⟩ (Nat.lt_succ_self _) ⟨(aset y11 y8.toNat (aset t18 y12.toNat false)), (IntKind.i8.wrap (y12 + 1)), Z, hS.pick [0, 1, 2, 3] [0] Z, H⟩
            · replace H := pif_f (of_decide_eq_false hb) H
              refine CJ.exit (EJ.skE (EJ.skE (EJ.hit (?_))))
              exact EJ.meet (F' := [(0, .pointer (some pa0)), (3, .pointer (some ⟨b1, 0, none⟩)), (4, .pointer (some ⟨b2, 0, none⟩)), (5, .pointer (some ⟨b4, 0, none⟩)), (6, .pointer (some ⟨b5, 0, none⟩)), (7, .int .i8 y8)]) ⟨Z, Z, Z, Z, Z, Z, trivial⟩ ⟨y11, H, Z, hS.pick [0, 1, 2, 3] [0] Z⟩
        · rintro F w1 ⟨y10, he, rfl, hS⟩
          obtain rfl := Option.some.inj he
          have H := K214
          refine EJ.blk (?_)
          exact EJ.meet (F' := [(0, .pointer (some pa0)), (3, .pointer (some ⟨b1, 0, none⟩)), (4, .pointer (some ⟨b2, 0, none⟩)), (5, .pointer (some ⟨b4, 0, none⟩)), (6, .pointer (some ⟨b5, 0, none⟩)), (7, .int .i8 y8)]) ⟨Z, Z, Z, Z, Z, Z, trivial⟩ ⟨y10, H, Z, hS.pick [0, 1, 2, 3] [0] Z⟩
      · rintro F w1 ⟨y9, he, rfl, hS⟩
        obtain rfl := Option.some.inj he
        have H := K212
        refine CJ.region ?_
        refine OJ.pures oU 3 Z ?_
        refine OJ.nil ?_
        exact EJ.round k (F' := [(0, .pointer (some pa0)), (3, .pointer (some ⟨b1, 0, none⟩)), (4, .pointer (some ⟨b2, 0, none⟩)), (5, .pointer (some ⟨b4, 0, none⟩)), (6, .pointer (some ⟨b5, 0, none⟩)), (7, .int .i8 (IntKind.i8.wrap (y8 + 1)))]) ⟨Z, Z, Z, Z, Z, Z, trivial⟩ (Nat.lt_succ_self _) ⟨y9, (IntKind.i8.wrap (y8 + 1)), Z, hS.pick [0, 1, 2, 3] [0] Z, H⟩
    · replace H := pif_f (of_decide_eq_false hb) H
      refine CJ.exit (EJ.skE (EJ.skE (EJ.hit (?_))))
      exact EJ.meet (F' := [(4, .pointer (some ⟨b2, 0, none⟩)), (6, .pointer (some ⟨b5, 0, none⟩))]) ⟨Z, Z, trivial⟩ ⟨y7, H, Z, hS.pick [1, 3] [0] Z⟩
 rintro F w1 ⟨y6, he, rfl, hS⟩
 obtain rfl := Option.some.inj he
 have H := K205
 refine EJ.next ?_
 refine CJ.seq (CJ.region ?_)
 refine OJ.st Z Z Z (SR.load Z Z (fun w' hx => ldE oU oI Z Z Z (CA.ext (hS.cells (i := 1) Z) hx) Z)) ?_
 refine OJ.es rfl rfl (Es.put oI hS (i := 0) rfl rfl rfl rfl rfl (vs := (carr 10 (carr 10 cb)).enc y6) rfl ((carr 10 (carr 10 cb)).len _) ((carr 10 (carr 10 cb)).one _) (Put.all (carr 10 (carr 10 cb)) (Arr.mk' (Arr.mk' false : Arr 10 Bool) : Arr 10 (Arr 10 Bool)) y6) (by (try simp only [add_lit, Nat.add_assoc, Nat.zero_add, Nat.add_zero]) <;> rfl)) ?_
 intro w1 hS
 refine OJ.nil (EJ.next ?_)
 refine CJ.ret (?_)
 obtain rfl := Option.some.inj H
 exact EJ.fin Z (.cell Z (ldE oU oI Z Z Z (hS.cells (i := 0) Z) Z) .nil) ⟨Z, hS.ext⟩

def spec_l05Times.l3 (t8 : Arr 10 (Arr 10 Bool)) (y12 : Int) : Nat → (Arr 10 (Arr 10 Int)) → Int → Option (Arr 10 (Arr 10 Int))
  | 0, _, _ => none
  | k + 1, y15, y16 => if y16 < 10 then ((getI t8.l y12).bind fun t17 => (getI t17.l y16).bind fun t18 => if t18 = true then ((getI y15.l y12).bind fun t19 => (getI t19.l y16).bind fun t20 => (getI y15.l y12).bind fun t21 => (getI t21.l y16).bind fun t22 => spec_l05Times.l3 t8 y12 k (aset y15 y12.toNat (aset t21 y16.toNat (IntKind.i64.wrap (t20 + 1)))) (IntKind.i64.wrap (y16 + 1))) else (spec_l05Times.l3 t8 y12 k y15 (IntKind.i64.wrap (y16 + 1)))) else (some y15)
def spec_l05Times.l2 (t8 : Arr 10 (Arr 10 Bool)) : Nat → (Arr 10 (Arr 10 Int)) → Int → Option (Arr 10 (Arr 10 Int))
  | 0, _, _ => none
  | k + 1, y11, y12 => if y12 < 10 then (((spec_l05Times.l3 t8 y12 k y11 0).bind fun y14 => some y14).bind fun y13 => spec_l05Times.l2 t8 k y13 (IntKind.i64.wrap (y12 + 1))) else (some y11)
def spec_l05Times.l1 (a0 : Pasture) (a1 : List Stake) : Nat → (Arr 10 (Arr 10 Int)) → Int → Option (Arr 10 (Arr 10 Int))
  | 0, _, _ => none
  | k + 1, y4, y5 => if y5 < (a1.length : Int) then (((getI a1 y5).bind fun t7 => (spec_l05Mask.f k a0 t7).bind fun t8 => (spec_l05Times.l2 t8 k y4 0).bind fun y10 => some y10).bind fun y6 => spec_l05Times.l1 a0 a1 k y6 (IntKind.i64.wrap (y5 + 1))) else (some y4)
def spec_l05Times.f (k : Nat) (a0 : Pasture) (a1 : List Stake) : Option (Arr 10 (Arr 10 Int)) := (spec_l05Times.l1 a0 a1 k (Arr.mk' (Arr.mk' 0 : Arr 10 Int) : Arr 10 (Arr 10 Int)) 0).bind fun y3 => some y3
theorem spec_l05Times.c (k : Nat) (w : World) (pa0 : Addr) (a0 : Pasture) (hp0 : CA w pa0 (cPasture.enc a0)) (Aa1 : Option Addr) (ca1 : Nat) (a1 : List Stake) (hr1 : Rd cStake w Aa1 a1) (hc1 : a1.length ≤ ca1) (r : Arr 10 (Arr 10 Int)) (H : spec_l05Times.f k a0 a1 = some r) :
 CV Tryz.prog 75 [.pointer (some pa0), .slice Aa1 a1.length ca1].toArray w fun v w' => v = .agg ((carr 10 (carr 10 (ci .i64))).enc r).toArray ∧ Ext w w' := by
 have hS := (((St.init w no).paramP pa0 (cPasture.enc a0) hp0).param cStake Aa1 ca1 a1 hr1 hc1)
 unfold spec_l05Times.f at H
 refine CV.body Tryz.func75 Z Tryz.ntmps75 Z ?_
 refine CJ.seq (CJ.region ?_)
 refine OJ.ef rfl rfl rfl (Ef.alloc hS oI rfl rfl ((carr 10 (carr 10 (ci .i64))).enc (Arr.mk' (Arr.mk' 0 : Arr 10 Int) : Arr 10 (Arr 10 Int))) (by kernel_rfl)) ?_
 rintro _ w1 ⟨b1, rfl, hS⟩
 refine OJ.nil (EJ.next ?_)
 refine CJ.seq (CJ.region ?_)
 refine OJ.st rfl rfl rfl (SR.buildA oU oI rfl rfl rfl rfl (zs := [.int .i64 0, .int .i64 0, .int .i64 0, .int .i64 0, .int .i64 0, .int .i64 0, .int .i64 0, .int .i64 0, .int .i64 0, .int .i64 0, .int .i64 0, .int .i64 0, .int .i64 0, .int .i64 0, .int .i64 0, .int .i64 0, .int .i64 0, .int .i64 0, .int .i64 0, .int .i64 0, .int .i64 0, .int .i64 0, .int .i64 0, .int .i64 0, .int .i64 0, .int .i64 0, .int .i64 0, .int .i64 0, .int .i64 0, .int .i64 0, .int .i64 0, .int .i64 0, .int .i64 0, .int .i64 0, .int .i64 0, .int .i64 0, .int .i64 0, .int .i64 0, .int .i64 0, .int .i64 0, .int .i64 0, .int .i64 0, .int .i64 0, .int .i64 0, .int .i64 0, .int .i64 0, .int .i64 0, .int .i64 0, .int .i64 0, .int .i64 0, .int .i64 0, .int .i64 0, .int .i64 0, .int .i64 0, .int .i64 0, .int .i64 0, .int .i64 0, .int .i64 0, .int .i64 0, .int .i64 0, .int .i64 0, .int .i64 0, .int .i64 0, .int .i64 0, .int .i64 0, .int .i64 0, .int .i64 0, .int .i64 0, .int .i64 0, .int .i64 0, .int .i64 0, .int .i64 0, .int .i64 0, .int .i64 0, .int .i64 0, .int .i64 0, .int .i64 0, .int .i64 0, .int .i64 0, .int .i64 0, .int .i64 0, .int .i64 0, .int .i64 0, .int .i64 0, .int .i64 0, .int .i64 0, .int .i64 0, .int .i64 0, .int .i64 0, .int .i64 0, .int .i64 0, .int .i64 0, .int .i64 0, .int .i64 0, .int .i64 0, .int .i64 0, .int .i64 0, .int .i64 0, .int .i64 0, .int .i64 0]) rfl rfl ((carr 10 (carr 10 (ci .i64))).enc (Arr.mk' (Arr.mk' 0 : Arr 10 Int) : Arr 10 (Arr 10 Int))) (by kernel_rfl)) ?_
 refine OJ.ef rfl rfl rfl (Ef.alloc hS oI rfl rfl ((carr 10 (carr 10 (ci .i64))).enc (Arr.mk' (Arr.mk' 0 : Arr 10 Int) : Arr 10 (Arr 10 Int))) (by kernel_rfl)) ?_
 rintro _ w1 ⟨b2, rfl, hS⟩
 refine OJ.es rfl rfl (Es.put oI hS (i := 1) rfl rfl rfl rfl rfl (vs := (carr 10 (carr 10 (ci .i64))).enc (Arr.mk' (Arr.mk' 0 : Arr 10 Int) : Arr 10 (Arr 10 Int))) rfl ((carr 10 (carr 10 (ci .i64))).len _) ((carr 10 (carr 10 (ci .i64))).one _) (Put.all (carr 10 (carr 10 (ci .i64))) (Arr.mk' (Arr.mk' 0 : Arr 10 Int) : Arr 10 (Arr 10 Int)) (Arr.mk' (Arr.mk' 0 : Arr 10 Int) : Arr 10 (Arr 10 Int))) (by (try simp only [add_lit, Nat.add_assoc, Nat.zero_add, Nat.add_zero]) <;> rfl)) ?_
 intro w1 hS
 refine OJ.nil (EJ.next ?_)
 refine CJ.seq ?_
 refine CJ.seq (CJ.region ?_)
 refine OJ.pures oU 1 Z (OJ.nil (EJ.next ?_))
 obtain ⟨j192, H, K192⟩ := pbind H
 refine CJ.cut1 (fun F w1 => ∃ (y3 : Arr 10 (Arr 10 Int)) , (some y3 : Option (Arr 10 (Arr 10 Int))) = some j192 ∧ F = [(4, .pointer (some ⟨b1, 0, none⟩)), (5, .pointer (some ⟨b2, 0, none⟩))] ∧ St w no w1 [box b1 ((carr 10 (carr 10 (ci .i64))).enc (Arr.mk' (Arr.mk' 0 : Arr 10 Int) : Arr 10 (Arr 10 Int))) 106, box b2 ((carr 10 (carr 10 (ci .i64))).enc y3) 106] [roP pa0 (cPasture.enc a0), roC cStake Aa1 ca1 a1]) ?_ ?_
 ·skip
  refine CJ.block ?_
  refine CJ.loop (fun k F w1 => ∃ (y4 : Arr 10 (Arr 10 Int)) (y5 : Int), F = [(0, .pointer (some pa0)), (1, .slice Aa1 a1.length ca1), (4, .pointer (some ⟨b1, 0, none⟩)), (5, .pointer (some ⟨b2, 0, none⟩)), (6, .int .i64 y5)] ∧ St w no w1 [box b1 ((carr 10 (carr 10 (ci .i64))).enc (Arr.mk' (Arr.mk' 0 : Arr 10 Int) : Arr 10 (Arr 10 Int))) 106, box b2 ((carr 10 (carr 10 (ci .i64))).enc y4) 106] [roP pa0 (cPasture.enc a0), roC cStake Aa1 ca1 a1] ∧ spec_l05Times.l1 a0 a1 k y4 y5 = some j192) k (F' := [(0, .pointer (some pa0)), (1, .slice Aa1 a1.length ca1), (4, .pointer (some ⟨b1, 0, none⟩)), (5, .pointer (some ⟨b2, 0, none⟩)), (6, .int .i64 0)]) ⟨Z, Z, Z, Z, Z, trivial⟩ ⟨(Arr.mk' (Arr.mk' 0 : Arr 10 Int) : Arr 10 (Arr 10 Int)), 0, Z, hS.pick [0, 1] [0, 1] Z, H⟩ ?_
  rintro k F w1 ⟨y4, y5, rfl, hS, H⟩
  cases k with
  | zero => rw [spec_l05Times.l1] at H; cases H
  | succ k =>
    rw [spec_l05Times.l1] at H
    refine CJ.seq ?_
    refine CJ.seq (CJ.region ?_)
    refine OJ.pures oU 4 Z (OJ.nil (EJ.next ?_))
    refine CJ.cond Z (fun hb => ?_) (fun hb => ?_)
    · replace H := pif_t (of_decide_eq_true hb) H
      refine CJ.skip (EJ.next ?_)
      obtain ⟨j256, H, K256⟩ := pbind H
      refine CJ.cut (fun F w1 => ∃ (y6 : Arr 10 (Arr 10 Int)) , (some y6 : Option (Arr 10 (Arr 10 Int))) = some j256 ∧ F = [(0, .pointer (some pa0)), (1, .slice Aa1 a1.length ca1), (4, .pointer (some ⟨b1, 0, none⟩)), (5, .pointer (some ⟨b2, 0, none⟩)), (6, .int .i64 y5)] ∧ St w no w1 [box b1 ((carr 10 (carr 10 (ci .i64))).enc (Arr.mk' (Arr.mk' 0 : Arr 10 Int) : Arr 10 (Arr 10 Int))) 106, box b2 ((carr 10 (carr 10 (ci .i64))).enc y6) 106] [roP pa0 (cPasture.enc a0), roC cStake Aa1 ca1 a1]) ?_ ?_
      · skip
        refine CJ.block ?_
        refine CJ.seq (CJ.region ?_)
        refine OJ.pures oU 3 Z ?_
        obtain ⟨t7, ht7, H⟩ := pbind H
        obtain ⟨ad7, e7⟩ := (hS.rd' (i := 1) rfl).some' ht7
        refine OJ.st Z Z Z (SR.idxS oU oI Z Z Z Z e7 Z (getI_some ht7).1) ?_
        refine OJ.st Z Z Z (SR.load Z Z (fun w' hx => ldE oU oI Z Z Z (CA.ext ((hS.rd' (i := 1) Z).at_ e7 ht7) hx) Z)) ?_
        obtain ⟨t8, ht8, H⟩ := pbind H
        refine OJ.callF Z Z Z Z Z hb59 Z (spec_l05Mask.c k _ _ a0 (hS.ca (i := 0) Z) t7 _ ht8) ?_
        rintro _ w1 ⟨rfl, hs⟩
        replace hS := hS.grow hs
        refine OJ.ef rfl rfl rfl (Ef.alloc hS oI rfl rfl ((carr 10 (carr 10 cb)).enc (Arr.mk' (Arr.mk' false : Arr 10 Bool) : Arr 10 (Arr 10 Bool))) (by kernel_rfl)) ?_
        rintro _ w1 ⟨b9, rfl, hS⟩
        refine OJ.es rfl rfl (Es.put oI hS (i := 2) rfl rfl rfl rfl rfl (vs := (carr 10 (carr 10 cb)).enc t8) rfl ((carr 10 (carr 10 cb)).len _) ((carr 10 (carr 10 cb)).one _) (Put.all (carr 10 (carr 10 cb)) (Arr.mk' (Arr.mk' false : Arr 10 Bool) : Arr 10 (Arr 10 Bool)) t8) (by (try simp only [add_lit, Nat.add_assoc, Nat.zero_add, Nat.add_zero]) <;> rfl)) ?_
        intro w1 hS
        refine OJ.nil (EJ.next ?_)
        refine CJ.seq (CJ.region ?_)
        refine OJ.pures oU 1 Z (OJ.nil (EJ.next ?_))
        obtain ⟨j267, H, K267⟩ := pbind H
        refine CJ.cut1 (fun F w1 => ∃ (y10 : Arr 10 (Arr 10 Int)) , (some y10 : Option (Arr 10 (Arr 10 Int))) = some j267 ∧ F = [(0, .pointer (some pa0)), (1, .slice Aa1 a1.length ca1), (4, .pointer (some ⟨b1, 0, none⟩)), (5, .pointer (some ⟨b2, 0, none⟩)), (6, .int .i64 y5)] ∧ St w no w1 [box b1 ((carr 10 (carr 10 (ci .i64))).enc (Arr.mk' (Arr.mk' 0 : Arr 10 Int) : Arr 10 (Arr 10 Int))) 106, box b2 ((carr 10 (carr 10 (ci .i64))).enc y10) 106] [roP pa0 (cPasture.enc a0), roC cStake Aa1 ca1 a1]) ?_ ?_
        · skip
          refine CJ.block ?_
          refine CJ.loop (fun k F w1 => ∃ (y11 : Arr 10 (Arr 10 Int)) (y12 : Int), F = [(0, .pointer (some pa0)), (1, .slice Aa1 a1.length ca1), (4, .pointer (some ⟨b1, 0, none⟩)), (5, .pointer (some ⟨b2, 0, none⟩)), (6, .int .i64 y5), (7, .pointer (some ⟨b9, 0, none⟩)), (8, .int .i64 y12)] ∧ St w no w1 [box b1 ((carr 10 (carr 10 (ci .i64))).enc (Arr.mk' (Arr.mk' 0 : Arr 10 Int) : Arr 10 (Arr 10 Int))) 106, box b2 ((carr 10 (carr 10 (ci .i64))).enc y11) 106, box b9 ((carr 10 (carr 10 cb)).enc t8) 97] [roP pa0 (cPasture.enc a0), roC cStake Aa1 ca1 a1] ∧ spec_l05Times.l2 t8 k y11 y12 = some j267) k (F' := [(0, .pointer (some pa0)), (1, .slice Aa1 a1.length ca1), (4, .pointer (some ⟨b1, 0, none⟩)), (5, .pointer (some ⟨b2, 0, none⟩)), (6, .int .i64 y5), (7, .pointer (some ⟨b9, 0, none⟩)), (8, .int .i64 0)]) ⟨Z, Z, Z, Z, Z, Z, Z, trivial⟩ ⟨y4, 0, Z, hS.pick [0, 1, 2] [0, 1] Z, H⟩ ?_
          rintro k F w1 ⟨y11, y12, rfl, hS, H⟩
          cases k with
          | zero => rw [spec_l05Times.l2] at H; cases H
          | succ k =>
            rw [spec_l05Times.l2] at H
            refine CJ.seq ?_
            refine CJ.seq (CJ.region ?_)
            refine OJ.pures oU 2 Z (OJ.nil (EJ.next ?_))
            refine CJ.cond Z (fun hb => ?_) (fun hb => ?_)
            · replace H := pif_t (of_decide_eq_true hb) H
              refine CJ.skip (EJ.next ?_)
              obtain ⟨j274, H, K274⟩ := pbind H
              refine CJ.cut (fun F w1 => ∃ (y13 : Arr 10 (Arr 10 Int)) , (some y13 : Option (Arr 10 (Arr 10 Int))) = some j274 ∧ F = [(0, .pointer (some pa0)), (1, .slice Aa1 a1.length ca1), (4, .pointer (some ⟨b1, 0, none⟩)), (5, .pointer (some ⟨b2, 0, none⟩)), (6, .int .i64 y5), (7, .pointer (some ⟨b9, 0, none⟩)), (8, .int .i64 y12)] ∧ St w no w1 [box b1 ((carr 10 (carr 10 (ci .i64))).enc (Arr.mk' (Arr.mk' 0 : Arr 10 Int) : Arr 10 (Arr 10 Int))) 106, box b2 ((carr 10 (carr 10 (ci .i64))).enc y13) 106, box b9 ((carr 10 (carr 10 cb)).enc t8) 97] [roP pa0 (cPasture.enc a0), roC cStake Aa1 ca1 a1]) ?_ ?_
              · skip
                refine CJ.block ?_
                refine CJ.seq (CJ.region ?_)
                refine OJ.pures oU 1 Z (OJ.nil (EJ.next ?_))
                obtain ⟨j276, H, K276⟩ := pbind H
                refine CJ.cut1 (fun F w1 => ∃ (y14 : Arr 10 (Arr 10 Int)) , (some y14 : Option (Arr 10 (Arr 10 Int))) = some j276 ∧ F = [(0, .pointer (some pa0)), (1, .slice Aa1 a1.length ca1), (4, .pointer (some ⟨b1, 0, none⟩)), (5, .pointer (some ⟨b2, 0, none⟩)), (6, .int .i64 y5), (7, .pointer (some ⟨b9, 0, none⟩)), (8, .int .i64 y12)] ∧ St w no w1 [box b1 ((carr 10 (carr 10 (ci .i64))).enc (Arr.mk' (Arr.mk' 0 : Arr 10 Int) : Arr 10 (Arr 10 Int))) 106, box b2 ((carr 10 (carr 10 (ci .i64))).enc y14) 106, box b9 ((carr 10 (carr 10 cb)).enc t8) 97] [roP pa0 (cPasture.enc a0), roC cStake Aa1 ca1 a1]) ?_ ?_
                · skip
                  refine CJ.block ?_
                  refine CJ.loop (fun k F w1 => ∃ (y15 : Arr 10 (Arr 10 Int)) (y16 : Int), F = [(0, .pointer (some pa0)), (1, .slice Aa1 a1.length ca1), (4, .pointer (some ⟨b1, 0, none⟩)), (5, .pointer (some ⟨b2, 0, none⟩)), (6, .int .i64 y5), (7, .pointer (some ⟨b9, 0, none⟩)), (8, .int .i64 y12), (9, .int .i64 y16)] ∧ St w no w1 [box b1 ((carr 10 (carr 10 (ci .i64))).enc (Arr.mk' (Arr.mk' 0 : Arr 10 Int) : Arr 10 (Arr 10 Int))) 106, box b2 ((carr 10 (carr 10 (ci .i64))).enc y15) 106, box b9 ((carr 10 (carr 10 cb)).enc t8) 97] [roP pa0 (cPasture.enc a0), roC cStake Aa1 ca1 a1] ∧ spec_l05Times.l3 t8 y12 k y15 y16 = some j276) k (F' := [(0, .pointer (some pa0)), (1, .slice Aa1 a1.length ca1), (4, .pointer (some ⟨b1, 0, none⟩)), (5, .pointer (some ⟨b2, 0, none⟩)), (6, .int .i64 y5), (7, .pointer (some ⟨b9, 0, none⟩)), (8, .int .i64 y12), (9, .int .i64 0)]) ⟨Z, Z, Z, Z, Z, Z, Z, Z, trivial⟩ ⟨y11, 0, Z, hS.pick [0, 1, 2] [0, 1] Z, H⟩ ?_
                  rintro k F w1 ⟨y15, y16, rfl, hS, H⟩
                  cases k with
                  | zero => rw [spec_l05Times.l3] at H; cases H
                  | succ k =>
                    rw [spec_l05Times.l3] at H
                    refine CJ.seq ?_
                    refine CJ.seq (CJ.region ?_)
                    refine OJ.pures oU 2 Z (OJ.nil (EJ.next ?_))
                    refine CJ.cond Z (fun hb => ?_) (fun hb => ?_)
                    · replace H := pif_t (of_decide_eq_true hb) H
                      refine CJ.skip (EJ.next ?_)
                      refine CJ.seq ?_
                      refine CJ.block ?_
                      refine CJ.seq (CJ.region ?_)
                      refine OJ.pures oU 2 Z ?_
                      obtain ⟨t17, ht17, H⟩ := pbind H
                      refine OJ.st Z Z Z (SR.idxA oU oI Z Z Z Z Z (Arr.lt ht17)) ?_
                      obtain ⟨t18, ht18, H⟩ := pbind H
                      refine OJ.st Z Z Z (SR.idxA oU oI Z Z Z Z Z (Arr.lt ht18)) ?_
                      refine OJ.st Z Z Z (SR.load Z Z (fun w' hx => ld1 oU Z Z (CA.ext (CA.idx (CA.idx (hS.cells (i := 2) Z) ht17) ht18) hx) Z)) ?_
                      refine OJ.nil (EJ.next ?_)
                      refine CJ.cond Z (fun hb => ?_) (fun hb => ?_)
                      · replace H := pif_t hb H
                        refine CJ.draw [] [0, 1, 2, 3, 4, 5, 6, 7, 8] mixed (by kernel_rfl) hS fun w1 hS => ?_
                        refine DJ.pures oU 2 Z ?_
                        obtain ⟨t19, ht19, H⟩ := pbind H
                        refine DJ.st Z Z Z Z Z (SR.idxA oU oI Z Z Z Z Z (Arr.lt ht19)) ?_
                        obtain ⟨t20, ht20, H⟩ := pbind H
                        refine DJ.st Z Z Z Z Z (SR.idxA oU oI Z Z Z Z Z (Arr.lt ht20)) ?_
                        refine DJ.st Z Z Z Z Z (SR.load Z Z (fun w' hx => ld1 oU Z Z (CA.ext (CA.idx (CA.idx (hS.cells (i := 1) Z) ht19) ht20) hx) Z)) ?_
                        refine DJ.pures oU 1 Z ?_
                        obtain ⟨t21, ht21, H⟩ := pbind H
                        refine DJ.st Z Z Z Z Z (SR.idxA oU oI Z Z Z Z Z (Arr.lt ht21)) ?_
                        obtain ⟨t22, ht22, H⟩ := pbind H
                        refine DJ.st Z Z Z Z Z (SR.idxA oU oI Z Z Z Z Z (Arr.lt ht22)) ?_
                        refine DJ.es rfl rfl rfl rfl (Es.put oI hS (i := 1) rfl rfl rfl rfl rfl (vs := (ci .i64).enc (IntKind.i64.wrap (t20 + 1))) rfl rfl (one1 rfl) (Put.idx (Put.idx (Put.all (ci .i64) t22 (IntKind.i64.wrap (t20 + 1))) ht22) ht21) (by (try simp only [add_lit, Nat.add_assoc, Nat.zero_add, Nat.add_zero]) <;> rfl)) ?_
                        intro w1 hS
                        refine DJ.nil (EJ.blk (EJ.next ?_))
                        refine CJ.region ?_
                        refine OJ.pures oU 3 Z ?_
                        refine OJ.nil ?_
                        exact EJ.round k (F' := [(0, .pointer (some pa0)), (1, .slice Aa1 a1.length ca1), (4, .pointer (some ⟨b1, 0, none⟩)), (5, .pointer (some ⟨b2, 0, none⟩)), (6, .int .i64 y5), (7, .pointer (some ⟨b9, 0, none⟩)), (8, .int .i64 y12), (9, .int .i64 (IntKind.i64.wrap (y16 + 1)))]) ⟨Z, Z, Z, Z, Z, Z, Z, Z, trivial⟩ (Nat.lt_succ_self _) ⟨(aset y15 y12.toNat (aset t21 y16.toNat (IntKind.i64.wrap (t20 + 1)))), (IntKind.i64.wrap (y16 + 1)), Z, hS.pick [0, 1, 2] [0, 1] Z, H⟩
                      · replace H := pifb_f hb H
                        refine CJ.skip (EJ.blk (EJ.next ?_))
                        refine CJ.region ?_
                        refine OJ.pures oU 3 Z ?_
                        refine OJ.nil ?_
                        exact EJ.round k (F' := [(0, .pointer (some pa0)), (1, .slice Aa1 a1.length ca1), (4, .pointer (some ⟨b1, 0, none⟩)), (5, .pointer (some ⟨b2, 0, none⟩)), (6, .int .i64 y5), (7, .pointer (some ⟨b9, 0, none⟩)), (8, .int .i64 y12), (9, .int .i64 (IntKind.i64.wrap (y16 + 1)))]) ⟨Z, Z, Z, Z, Z, Z, Z, Z, trivial⟩ (Nat.lt_succ_self _) ⟨y15, (IntKind.i64.wrap (y16 + 1)), Z, hS.pick [0, 1, 2] [0, 1] Z, H⟩
                    · replace H := pif_f (of_decide_eq_false hb) H
                      refine CJ.exit (EJ.skE (EJ.skE (EJ.hit (?_))))
                      exact EJ.meet (F' := [(0, .pointer (some pa0)), (1, .slice Aa1 a1.length ca1), (4, .pointer (some ⟨b1, 0, none⟩)), (5, .pointer (some ⟨b2, 0, none⟩)), (6, .int .i64 y5), (7, .pointer (some ⟨b9, 0, none⟩)), (8, .int .i64 y12)]) ⟨Z, Z, Z, Z, Z, Z, Z, trivial⟩ ⟨y15, H, Z, hS.pick [0, 1, 2] [0, 1] Z⟩
                · rintro F w1 ⟨y14, he, rfl, hS⟩
                  obtain rfl := Option.some.inj he
                  have H := K276
                  refine EJ.blk (?_)
                  exact EJ.meet (F' := [(0, .pointer (some pa0)), (1, .slice Aa1 a1.length ca1), (4, .pointer (some ⟨b1, 0, none⟩)), (5, .pointer (some ⟨b2, 0, none⟩)), (6, .int .i64 y5), (7, .pointer (some ⟨b9, 0, none⟩)), (8, .int .i64 y12)]) ⟨Z, Z, Z, Z, Z, Z, Z, trivial⟩ ⟨y14, H, Z, hS.pick [0, 1, 2] [0, 1] Z⟩
              · rintro F w1 ⟨y13, he, rfl, hS⟩
                obtain rfl := Option.some.inj he
                have H := K274
                refine CJ.region ?_
                refine OJ.pures oU 3 Z ?_
                refine OJ.nil ?_
                exact EJ.round k (F' := [(0, .pointer (some pa0)), (1, .slice Aa1 a1.length ca1), (4, .pointer (some ⟨b1, 0, none⟩)), (5, .pointer (some ⟨b2, 0, none⟩)), (6, .int .i64 y5), (7, .pointer (some ⟨b9, 0, none⟩)), (8, .int .i64 (IntKind.i64.wrap (y12 + 1)))]) ⟨Z, Z, Z, Z, Z, Z, Z, trivial⟩ (Nat.lt_succ_self _) ⟨y13, (IntKind.i64.wrap (y12 + 1)), Z, hS.pick [0, 1, 2] [0, 1] Z, H⟩
            · replace H := pif_f (of_decide_eq_false hb) H
              refine CJ.exit (EJ.skE (EJ.skE (EJ.hit (?_))))
              exact EJ.meet (F' := [(0, .pointer (some pa0)), (1, .slice Aa1 a1.length ca1), (4, .pointer (some ⟨b1, 0, none⟩)), (5, .pointer (some ⟨b2, 0, none⟩)), (6, .int .i64 y5)]) ⟨Z, Z, Z, Z, Z, trivial⟩ ⟨y11, H, Z, hS.pick [0, 1] [0, 1] Z⟩
        · rintro F w1 ⟨y10, he, rfl, hS⟩
          obtain rfl := Option.some.inj he
          have H := K267
          refine EJ.blk (?_)
          exact EJ.meet (F' := [(0, .pointer (some pa0)), (1, .slice Aa1 a1.length ca1), (4, .pointer (some ⟨b1, 0, none⟩)), (5, .pointer (some ⟨b2, 0, none⟩)), (6, .int .i64 y5)]) ⟨Z, Z, Z, Z, Z, trivial⟩ ⟨y10, H, Z, hS.pick [0, 1] [0, 1] Z⟩
      · rintro F w1 ⟨y6, he, rfl, hS⟩
        obtain rfl := Option.some.inj he
        have H := K256
        refine CJ.region ?_
        refine OJ.pures oU 3 Z ?_
        refine OJ.nil ?_
        exact EJ.round k (F' := [(0, .pointer (some pa0)), (1, .slice Aa1 a1.length ca1), (4, .pointer (some ⟨b1, 0, none⟩)), (5, .pointer (some ⟨b2, 0, none⟩)), (6, .int .i64 (IntKind.i64.wrap (y5 + 1)))]) ⟨Z, Z, Z, Z, Z, trivial⟩ (Nat.lt_succ_self _) ⟨y6, (IntKind.i64.wrap (y5 + 1)), Z, hS.pick [0, 1] [0, 1] Z, H⟩
    · replace H := pif_f (of_decide_eq_false hb) H
      refine CJ.exit (EJ.skE (EJ.skE (EJ.hit (?_))))
      exact EJ.meet (F' := [(4, .pointer (some ⟨b1, 0, none⟩)), (5, .pointer (some ⟨b2, 0, none⟩))]) ⟨Z, Z, trivial⟩ ⟨y4, H, Z, hS.pick [0, 1] [0, 1] Z⟩
 rintro F w1 ⟨y3, he, rfl, hS⟩
 obtain rfl := Option.some.inj he
 have H := K192
 refine EJ.next ?_
 refine CJ.seq (CJ.region ?_)
 refine OJ.st Z Z Z (SR.load Z Z (fun w' hx => ldE oU oI Z Z Z (CA.ext (hS.cells (i := 1) Z) hx) Z)) ?_
 refine OJ.es rfl rfl (Es.put oI hS (i := 0) rfl rfl rfl rfl rfl (vs := (carr 10 (carr 10 (ci .i64))).enc y3) rfl ((carr 10 (carr 10 (ci .i64))).len _) ((carr 10 (carr 10 (ci .i64))).one _) (Put.all (carr 10 (carr 10 (ci .i64))) (Arr.mk' (Arr.mk' 0 : Arr 10 Int) : Arr 10 (Arr 10 Int)) y3) (by (try simp only [add_lit, Nat.add_assoc, Nat.zero_add, Nat.add_zero]) <;> rfl)) ?_
 intro w1 hS
 refine OJ.nil (EJ.next ?_)
 refine CJ.ret (?_)
 obtain rfl := Option.some.inj H
 exact EJ.fin Z (.cell Z (ldE oU oI Z Z Z (hS.cells (i := 0) Z) Z) .nil) ⟨Z, hS.ext⟩

def spec_l05Counted.l2 (a0 : Pasture) (a2 : Int) (a3 : Int) (t1 : Arr 10 (Arr 10 Int)) (y10 : Int) : Nat → (List Spot) → Int → Option (List Spot)
  | 0, _, _ => none
  | k + 1, y17, y20 => if y20 < a0.Wide then ((getI t1.l y10).bind fun t21 => (getI t21.l y20).bind fun t22 => (spec_l00In.f t22 a2 a3).bind fun t23 => if t23 = true then ((chk (y17.length + ([(⟨y20, y10⟩ : Spot)] : List Spot).length ≤ 4294967296)).bind fun u25 => spec_l05Counted.l2 a0 a2 a3 t1 y10 k (y17 ++ ([(⟨y20, y10⟩ : Spot)] : List Spot)) (IntKind.i8.wrap (y20 + 1))) else (spec_l05Counted.l2 a0 a2 a3 t1 y10 k y17 (IntKind.i8.wrap (y20 + 1)))) else (some y17)
def spec_l05Counted.l1 (a0 : Pasture) (a2 : Int) (a3 : Int) (t1 : Arr 10 (Arr 10 Int)) : Nat → (List Spot) → Int → Option (List Spot)
  | 0, _, _ => none
  | k + 1, y7, y10 => if y10 < a0.High then (((spec_l05Counted.l2 a0 a2 a3 t1 y10 k y7 0).bind fun y14 => some y14).bind fun y11 => spec_l05Counted.l1 a0 a2 a3 t1 k y11 (IntKind.i8.wrap (y10 + 1))) else (some y7)
def spec_l05Counted.f (k : Nat) (a0 : Pasture) (a1 : List Stake) (a2 : Int) (a3 : Int) : Option (List Spot) := (spec_l05Times.f k a0 a1).bind fun t1 => (spec_l05Counted.l1 a0 a2 a3 t1 k ([] : List Spot) 0).bind fun y4 => some y4
theorem spec_l05Counted.c (k : Nat) (w : World) (pa0 : Addr) (a0 : Pasture) (hp0 : CA w pa0 (cPasture.enc a0)) (Aa1 : Option Addr) (ca1 : Nat) (a1 : List Stake) (hr1 : Rd cStake w Aa1 a1) (hc1 : a1.length ≤ ca1) (a2 : Int) (a3 : Int) (r : List Spot) (H : spec_l05Counted.f k a0 a1 a2 a3 = some r) :
 CV Tryz.prog 51 [.pointer (some pa0), .slice Aa1 a1.length ca1, .int .i64 a2, .int .i64 a3].toArray w fun v w' => ∃ (A0 : Option Addr) (c0 : Nat), v = .slice A0 r.length c0 ∧ St w no w' [rowC cSpot A0 c0 49 r] [] := by
 have hS := (((St.init w no).paramP pa0 (cPasture.enc a0) hp0).param cStake Aa1 ca1 a1 hr1 hc1)
 unfold spec_l05Counted.f at H
 refine CV.body Tryz.func51 Z Tryz.ntmps51 Z ?_
 refine CJ.seq (CJ.region ?_)
 refine OJ.pures oU 1 Z (OJ.nil (EJ.next ?_))
 refine CJ.seq (CJ.region ?_)
 refine OJ.pures oU 2 Z ?_
 obtain ⟨t1, ht1, H⟩ := pbind H
 refine OJ.callF Z Z Z Z Z hb75 Z (spec_l05Times.c k _ _ a0 (hS.ca (i := 0) Z) Aa1 ca1 a1 (hS.rd' (i := 1) Z) (hS.le' (i := 1) Z) _ ht1) ?_
 rintro _ w1 ⟨rfl, hs⟩
 replace hS := hS.grow hs
 refine OJ.ef rfl rfl rfl (Ef.alloc hS oI rfl rfl ((carr 10 (carr 10 (ci .i64))).enc (Arr.mk' (Arr.mk' 0 : Arr 10 Int) : Arr 10 (Arr 10 Int))) (by kernel_rfl)) ?_
 rintro _ w1 ⟨b2, rfl, hS⟩
 refine OJ.es rfl rfl (Es.put oI hS (i := 0) rfl rfl rfl rfl rfl (vs := (carr 10 (carr 10 (ci .i64))).enc t1) rfl ((carr 10 (carr 10 (ci .i64))).len _) ((carr 10 (carr 10 (ci .i64))).one _) (Put.all (carr 10 (carr 10 (ci .i64))) (Arr.mk' (Arr.mk' 0 : Arr 10 Int) : Arr 10 (Arr 10 Int)) t1) (by (try simp only [add_lit, Nat.add_assoc, Nat.zero_add, Nat.add_zero]) <;> rfl)) ?_
 intro w1 hS
 refine OJ.nil (EJ.next ?_)
 refine CJ.seq (CJ.region ?_)
 refine OJ.ef Z Z Z (Ef.lit oU oI hS (C := cSpot) Z Z Z Z Z Z ([] : List Spot) Z Z Z Z) ?_
 rintro _ w1 ⟨A3, rfl, hS⟩
 refine OJ.pures oU 1 Z (OJ.nil (EJ.next ?_))
 refine CJ.seq ?_
 refine CJ.seq (CJ.region ?_)
 refine OJ.pures oU 1 Z (OJ.nil (EJ.next ?_))
 obtain ⟨j277, H, K277⟩ := pbind H
 refine CJ.cut1 (fun F w1 => ∃ (y4 : List Spot) (A5 : Option Addr) (c6 : Nat), (some y4 : Option (List Spot)) = some j277 ∧ F = [(10, .slice A5 y4.length c6)] ∧ St w no w1 [rowC cSpot A5 c6 49 y4] [roP pa0 (cPasture.enc a0), roC cStake Aa1 ca1 a1]) ?_ ?_
 ·skip
  refine CJ.block ?_
  refine CJ.loop (fun k F w1 => ∃ (y7 : List Spot) (y10 : Int) (A8 : Option Addr) (c9 : Nat), F = [(0, .pointer (some pa0)), (2, .int .i64 a2), (3, .int .i64 a3), (9, .pointer (some ⟨b2, 0, none⟩)), (10, .slice A8 y7.length c9), (11, .int .i8 y10)] ∧ St w no w1 [box b2 ((carr 10 (carr 10 (ci .i64))).enc t1) 106, rowC cSpot A8 c9 49 y7] [roP pa0 (cPasture.enc a0), roC cStake Aa1 ca1 a1] ∧ spec_l05Counted.l1 a0 a2 a3 t1 k y7 y10 = some j277) k (F' := [(0, .pointer (some pa0)), (2, .int .i64 a2), (3, .int .i64 a3), (9, .pointer (some ⟨b2, 0, none⟩)), (10, .slice A3 ([] : List Spot).length (([] : List Spot).length)), (11, .int .i8 0)]) ⟨Z, Z, Z, Z, Z, Z, trivial⟩ ⟨([] : List Spot), 0, A3, (([] : List Spot).length), Z, hS.pick [0, 1] [0, 1] Z, H⟩ ?_
  rintro k F w1 ⟨y7, y10, A8, c9, rfl, hS, H⟩
  cases k with
  | zero => rw [spec_l05Counted.l1] at H; cases H
  | succ k =>
    rw [spec_l05Counted.l1] at H
    refine CJ.seq ?_
    refine CJ.seq (CJ.region ?_)
    refine OJ.pures oU 3 Z ?_
    refine OJ.st Z Z Z (SR.fieldAddr oU oI Z Z Z Z Z Z) ?_
    refine OJ.st Z Z Z (SR.load Z Z (fun w' hx => ld1 oU Z Z (CA.ext (CA.fld (hS.ca (i := 0) Z) (mid_part (fe_Pasture_1 _) (fl_Pasture_1 _) ((ci .i8).len _))) hx) Z)) ?_
    refine OJ.pures oU 1 Z (OJ.nil (EJ.next ?_))
    refine CJ.cond Z (fun hb => ?_) (fun hb => ?_)
    · replace H := pif_t (of_decide_eq_true hb) H
      refine CJ.skip (EJ.next ?_)
      obtain ⟨j284, H, K284⟩ := pbind H
      refine CJ.cut (fun F w1 => ∃ (y11 : List Spot) (A12 : Option Addr) (c13 : Nat), (some y11 : Option (List Spot)) = some j284 ∧ F = [(0, .pointer (some pa0)), (2, .int .i64 a2), (3, .int .i64 a3), (9, .pointer (some ⟨b2, 0, none⟩)), (10, .slice A12 y11.length c13), (11, .int .i8 y10)] ∧ St w no w1 [box b2 ((carr 10 (carr 10 (ci .i64))).enc t1) 106, rowC cSpot A12 c13 49 y11] [roP pa0 (cPasture.enc a0), roC cStake Aa1 ca1 a1]) ?_ ?_
      · skip
        refine CJ.block ?_
        refine CJ.seq (CJ.region ?_)
        refine OJ.pures oU 1 Z (OJ.nil (EJ.next ?_))
        obtain ⟨j286, H, K286⟩ := pbind H
        refine CJ.cut1 (fun F w1 => ∃ (y14 : List Spot) (A15 : Option Addr) (c16 : Nat), (some y14 : Option (List Spot)) = some j286 ∧ F = [(0, .pointer (some pa0)), (2, .int .i64 a2), (3, .int .i64 a3), (9, .pointer (some ⟨b2, 0, none⟩)), (10, .slice A15 y14.length c16), (11, .int .i8 y10)] ∧ St w no w1 [box b2 ((carr 10 (carr 10 (ci .i64))).enc t1) 106, rowC cSpot A15 c16 49 y14] [roP pa0 (cPasture.enc a0), roC cStake Aa1 ca1 a1]) ?_ ?_
        · skip
          refine CJ.block ?_
          refine CJ.loop (fun k F w1 => ∃ (y17 : List Spot) (y20 : Int) (A18 : Option Addr) (c19 : Nat), F = [(0, .pointer (some pa0)), (2, .int .i64 a2), (3, .int .i64 a3), (9, .pointer (some ⟨b2, 0, none⟩)), (10, .slice A18 y17.length c19), (11, .int .i8 y10), (12, .int .i8 y20)] ∧ St w no w1 [box b2 ((carr 10 (carr 10 (ci .i64))).enc t1) 106, rowC cSpot A18 c19 49 y17] [roP pa0 (cPasture.enc a0), roC cStake Aa1 ca1 a1] ∧ spec_l05Counted.l2 a0 a2 a3 t1 y10 k y17 y20 = some j286) k (F' := [(0, .pointer (some pa0)), (2, .int .i64 a2), (3, .int .i64 a3), (9, .pointer (some ⟨b2, 0, none⟩)), (10, .slice A8 y7.length c9), (11, .int .i8 y10), (12, .int .i8 0)]) ⟨Z, Z, Z, Z, Z, Z, Z, trivial⟩ ⟨y7, 0, A8, c9, Z, hS.pick [0, 1] [0, 1] Z, H⟩ ?_
          rintro k F w1 ⟨y17, y20, A18, c19, rfl, hS, H⟩
          cases k with
          | zero => rw [spec_l05Counted.l2] at H; cases H
          | succ k =>
            rw [spec_l05Counted.l2] at H
            refine CJ.seq ?_
            refine CJ.seq (CJ.region ?_)
            refine OJ.pures oU 3 Z ?_
            refine OJ.st Z Z Z (SR.fieldAddr oU oI Z Z Z Z Z Z) ?_
            refine OJ.st Z Z Z (SR.load Z Z (fun w' hx => ld1 oU Z Z (CA.ext (CA.fld (hS.ca (i := 0) Z) (mid_part (fe_Pasture_0 _) (fl_Pasture_0 _) ((ci .i8).len _))) hx) Z)) ?_
            refine OJ.pures oU 1 Z (OJ.nil (EJ.next ?_))
            refine CJ.cond Z (fun hb => ?_) (fun hb => ?_)
            · replace H := pif_t (of_decide_eq_true hb) H
              refine CJ.skip (EJ.next ?_)
              refine CJ.seq ?_
              refine CJ.block ?_
              refine CJ.seq (CJ.region ?_)
              refine OJ.pures oU 2 Z ?_
              obtain ⟨t21, ht21, H⟩ := pbind H
              refine OJ.st Z Z Z (SR.idxA oU oI Z Z Z Z Z (Arr.lt ht21)) ?_
              obtain ⟨t22, ht22, H⟩ := pbind H
              refine OJ.st Z Z Z (SR.idxA oU oI Z Z Z Z Z (Arr.lt ht22)) ?_
              refine OJ.st Z Z Z (SR.load Z Z (fun w' hx => ld1 oU Z Z (CA.ext (CA.idx (CA.idx (hS.cells (i := 0) Z) ht21) ht22) hx) Z)) ?_
              refine OJ.pures oU 2 Z ?_
              obtain ⟨t23, ht23, H⟩ := pbind H
              refine OJ.callF Z Z Z Z Z hb74 Z (spec_l00In.c _ t22 a2 a3 _ ht23) ?_
              rintro _ w1 ⟨rfl, hs⟩
              replace hS := hS.grow hs
              refine OJ.nil (EJ.next ?_)
              refine CJ.cond Z (fun hb => ?_) (fun hb => ?_)
              · replace H := pif_t hb H
                refine CJ.region ?_
                refine OJ.pures oU 3 Z ?_
                refine OJ.st Z Z Z (SR.build (C := cSpot) oU oI Z Z Z (zs := [.int .i8 0, .int .i8 0]) Z Z Z (⟨y20, y10⟩ : Spot) Z) ?_
                refine OJ.ef Z Z Z (Ef.lit oU oI hS (C := cSpot) Z Z Z Z Z Z ([(⟨y20, y10⟩ : Spot)] : List Spot) Z Z Z Z) ?_
                rintro _ w1 ⟨A24, rfl, hS⟩
                obtain ⟨u25, hu25, H⟩ := pbind H
                refine OJ.ew Z Z Z (Ew.append oU oI (C := cSpot) (xs := y17) (ys := ([(⟨y20, y10⟩ : Spot)] : List Spot)) hS (i := 1) Z Z Z Z Z Z Z Z Z Z Z Z Z (hS.rd (i := 2) Z) (chk_some hu25)) ?_
                rintro _ w1 ⟨A26, c27, rfl, hS⟩
                refine OJ.pures oU 1 Z ?_
                refine OJ.nil (EJ.blk (EJ.next ?_))
                refine CJ.region ?_
                refine OJ.pures oU 3 Z ?_
                refine OJ.nil ?_
                exact EJ.round k (F' := [(0, .pointer (some pa0)), (2, .int .i64 a2), (3, .int .i64 a3), (9, .pointer (some ⟨b2, 0, none⟩)), (10, .slice A26 (y17 ++ ([(⟨y20, y10⟩ : Spot)] : List Spot)).length c27), (11, .int .i8 y10), (12, .int .i8 (IntKind.i8.wrap (y20 + 1)))]) ⟨Z, Z, Z, Z, Z, Z, Z, trivial⟩ (Nat.lt_succ_self _) ⟨(y17 ++ ([(⟨y20, y10⟩ : Spot)] : List Spot)), (IntKind.i8.wrap (y20 + 1)), A26, c27, Z, hS.pick [0, 1] [0, 1] Z, H⟩
              · replace H := pifb_f hb H
                refine CJ.skip (EJ.blk (EJ.next ?_))
                refine CJ.region ?_
                refine OJ.pures oU 3 Z ?_
                refine OJ.nil ?_
                exact EJ.round k (F' := [(0, .pointer (some pa0)), (2, .int .i64 a2), (3, .int .i64 a3), (9, .pointer (some ⟨b2, 0, none⟩)), (10, .slice A18 y17.length c19), (11, .int .i8 y10), (12, .int .i8 (IntKind.i8.wrap (y20 + 1)))]) ⟨Z, Z, Z, Z, Z, Z, Z, trivial⟩ (Nat.lt_succ_self _) ⟨y17, (IntKind.i8.wrap (y20 + 1)), A18, c19, Z, hS.pick [0, 1] [0, 1] Z, H⟩
            · replace H := pif_f (of_decide_eq_false hb) H
              refine CJ.exit (EJ.skE (EJ.skE (EJ.hit (?_))))
              exact EJ.meet (F' := [(0, .pointer (some pa0)), (2, .int .i64 a2), (3, .int .i64 a3), (9, .pointer (some ⟨b2, 0, none⟩)), (10, .slice A18 y17.length c19), (11, .int .i8 y10)]) ⟨Z, Z, Z, Z, Z, Z, trivial⟩ ⟨y17, A18, c19, H, Z, hS.pick [0, 1] [0, 1] Z⟩
        · rintro F w1 ⟨y14, A15, c16, he, rfl, hS⟩
          obtain rfl := Option.some.inj he
          have H := K286
          refine EJ.blk (?_)
          exact EJ.meet (F' := [(0, .pointer (some pa0)), (2, .int .i64 a2), (3, .int .i64 a3), (9, .pointer (some ⟨b2, 0, none⟩)), (10, .slice A15 y14.length c16), (11, .int .i8 y10)]) ⟨Z, Z, Z, Z, Z, Z, trivial⟩ ⟨y14, A15, c16, H, Z, hS.pick [0, 1] [0, 1] Z⟩
      · rintro F w1 ⟨y11, A12, c13, he, rfl, hS⟩
        obtain rfl := Option.some.inj he
        have H := K284
        refine CJ.region ?_
        refine OJ.pures oU 3 Z ?_
        refine OJ.nil ?_
        exact EJ.round k (F' := [(0, .pointer (some pa0)), (2, .int .i64 a2), (3, .int .i64 a3), (9, .pointer (some ⟨b2, 0, none⟩)), (10, .slice A12 y11.length c13), (11, .int .i8 (IntKind.i8.wrap (y10 + 1)))]) ⟨Z, Z, Z, Z, Z, Z, trivial⟩ (Nat.lt_succ_self _) ⟨y11, (IntKind.i8.wrap (y10 + 1)), A12, c13, Z, hS.pick [0, 1] [0, 1] Z, H⟩
    · replace H := pif_f (of_decide_eq_false hb) H
      refine CJ.exit (EJ.skE (EJ.skE (EJ.hit (?_))))
      exact EJ.meet (F' := [(10, .slice A8 y7.length c9)]) ⟨Z, trivial⟩ ⟨y7, A8, c9, H, Z, hS.pick [1] [0, 1] Z⟩
 rintro F w1 ⟨y4, A5, c6, he, rfl, hS⟩
 obtain rfl := Option.some.inj he
 have H := K277
 refine EJ.next ?_
 refine CJ.seq (CJ.region ?_)
 refine OJ.pures oU 2 Z (OJ.nil (EJ.next ?_))
 refine CJ.ret (?_)
 obtain rfl := Option.some.inj H
 exact EJ.fin Z (.tmp Z .nil) ⟨A5, c6, Z, hS.pick [0] [] Z⟩

def spec_UncoveredBy.f (k : Nat) (a0 : Pasture) (a1 : List Stake) : Option (List Spot × Int) := (spec_l05Asked.f k a0 a1 true).bind fun t2 => if t2 ≠ 0 then (some (([] : List Spot), t2)) else ((spec_l05Counted.f k a0 a1 0 0).bind fun t4 => some (t4, 0))
theorem spec_UncoveredBy.c (k : Nat) (w : World) (a0 : Pasture) (Aa1 : Option Addr) (ca1 : Nat) (a1 : List Stake) (hr1 : Rd cStake w Aa1 a1) (hc1 : a1.length ≤ ca1) (r : List Spot × Int) (H : spec_UncoveredBy.f k a0 a1 = some r) :
 CV Tryz.prog 11 [.agg (cPasture.enc a0).toArray, .slice Aa1 a1.length ca1].toArray w fun v w' => ∃ (A0 : Option Addr) (c0 : Nat), v = .tuple #[.slice A0 r.1.length c0, .int .i64 r.2] ∧ St w no w' [rowC cSpot A0 c0 49 r.1] [] := by
 have hS := ((St.init w no).param cStake Aa1 ca1 a1 hr1 hc1)
 unfold spec_UncoveredBy.f at H
 refine CV.body Tryz.func11 Z Tryz.ntmps11 Z ?_
 refine CJ.seq (CJ.region ?_)
 refine OJ.ef Z Z Z (Ef.box hS Z Z (cPasture.enc a0) Z) ?_
 rintro _ w1 ⟨b1, rfl, hS⟩
 refine OJ.pures oU 2 Z (OJ.nil (EJ.next ?_))
 refine CJ.seq ?_
 refine CJ.seq (CJ.region ?_)
 refine OJ.pures oU 1 Z ?_
 obtain ⟨t2, ht2, H⟩ := pbind H
 refine OJ.callF Z Z Z Z Z hb50 Z (spec_l05Asked.c k _ _ a0 (hS.cells (i := 0) Z) Aa1 ca1 a1 (hS.rd' (i := 0) Z) (hS.le' (i := 0) Z) true _ ht2) ?_
 rintro _ w1 ⟨rfl, hs⟩
 replace hS := hS.grow hs
 refine OJ.pures oU 1 Z (OJ.nil (EJ.next ?_))
 refine CJ.seq (CJ.region ?_)
 refine OJ.pures oU 2 Z (OJ.nil (EJ.next ?_))
 refine CJ.cond Z (fun hb => ?_) (fun hb => ?_)
 ·replace H := pif_t (of_decide_eq_true hb) H
  refine CJ.seq (CJ.region ?_)
  refine OJ.ef Z Z Z (Ef.lit oU oI hS (C := cSpot) Z Z Z Z Z Z ([] : List Spot) Z Z Z Z) ?_
  rintro _ w1 ⟨A3, rfl, hS⟩
  refine OJ.pures oU 3 Z (OJ.nil (EJ.next ?_))
  refine CJ.ret (EJ.skR (?_))
  obtain rfl := Option.some.inj H
  exact EJ.fin Z (.tmp Z (.tmp Z .nil)) ⟨A3, (([] : List Spot).length), Z, hS.pick [1] [] Z⟩
 replace H := pif_f (of_decide_eq_false hb) H
 refine CJ.skip (EJ.next ?_)
 refine CJ.seq (CJ.region ?_)
 refine OJ.pures oU 1 Z ?_
 obtain ⟨t4, ht4, H⟩ := pbind H
 refine OJ.callF Z Z Z Z Z hb51 Z (spec_l05Counted.c k _ _ a0 (hS.cells (i := 0) Z) Aa1 ca1 a1 (hS.rd' (i := 0) Z) (hS.le' (i := 0) Z) 0 0 _ ht4) ?_
 rintro _ w1 ⟨A5, c6, rfl, hs⟩
 replace hS := hS.addN hs
 refine OJ.pures oU 2 Z (OJ.nil (EJ.next ?_))
 refine CJ.ret (?_)
 obtain rfl := Option.some.inj H
 exact EJ.fin Z (.tmp Z (.tmp Z .nil)) ⟨A5, c6, Z, hS.pick [1] [] Z⟩

def impl_SharedCells_1.f (a0 : Int) : Option Bool := some (decide (2 ≤ a0))
theorem impl_SharedCells_1.c (w : World) (a0 : Int) (r : Bool) (H : impl_SharedCells_1.f a0 = some r) :
 CV Tryz.prog 52 [.int .i64 a0].toArray w fun v w' => v = .bool r ∧ Ext w w' := by
 have hS := (St.init w no)
 unfold impl_SharedCells_1.f at H
 refine CV.body Tryz.func52 Z Tryz.ntmps52 Z ?_
 refine CJ.seq (CJ.region ?_)
 refine OJ.pures oU 1 Z (OJ.nil (EJ.next ?_))
 refine CJ.seq (CJ.region ?_)
 refine OJ.pures oU 3 Z (OJ.nil (EJ.next ?_))
 refine CJ.ret (?_)
 obtain rfl := Option.some.inj H
 exact EJ.fin Z (.tmp Z .nil) ⟨Z, hS.ext⟩

def impl_SharedCells.f (k : Nat) (a0 : Pasture) (a1 : List Stake) : Option (List Spot × Int) := (impl_stakeCode.f k a0 a1).bind fun t2 => if t2 ≠ 0 then (some ([], t2)) else ((impl_Pasture_reachedBy.f k a0 a1 impl_SharedCells_1.f).bind fun t3 => some (t3, 0))
theorem impl_SharedCells.c (k : Nat) (w : World) (a0 : Pasture) (Aa1 : Option Addr) (ca1 : Nat) (a1 : List Stake) (hr1 : Rd cStake w Aa1 a1) (hc1 : a1.length ≤ ca1) (r : List Spot × Int) (H : impl_SharedCells.f k a0 a1 = some r) :
 CV Tryz.prog 12 [.agg (cPasture.enc a0).toArray, .slice Aa1 a1.length ca1].toArray w fun v w' => ∃ (A0 : Option Addr) (c0 : Nat), v = .tuple #[.slice A0 r.1.length c0, .int .i64 r.2] ∧ St w no w' [rowC cSpot A0 c0 49 r.1] [] := by
 have hS := ((St.init w no).param cStake Aa1 ca1 a1 hr1 hc1)
 unfold impl_SharedCells.f at H
 refine CV.body Tryz.func12 Z Tryz.ntmps12 Z ?_
 refine CJ.seq (CJ.region ?_)
 refine OJ.ef Z Z Z (Ef.box hS Z Z (cPasture.enc a0) Z) ?_
 rintro _ w1 ⟨b1, rfl, hS⟩
 refine OJ.pures oU 2 Z (OJ.nil (EJ.next ?_))
 refine CJ.seq ?_
 refine CJ.seq (CJ.region ?_)
 refine OJ.st Z Z Z (SR.load Z Z (fun w' hx => ldE oU oI Z Z Z (CA.ext (hS.cells (i := 0) Z) hx) Z)) ?_
 refine OJ.pures oU 1 Z ?_
 obtain ⟨t2, ht2, H⟩ := pbind H
 refine OJ.callF Z Z Z Z Z hb45 Z (impl_stakeCode.c k _ a0 Aa1 ca1 a1 (hS.rd' (i := 0) Z) (hS.le' (i := 0) Z) _ ht2) ?_
 rintro _ w1 ⟨rfl, hs⟩
 replace hS := hS.grow hs
 refine OJ.pures oU 1 Z (OJ.nil (EJ.next ?_))
 refine CJ.seq (CJ.region ?_)
 refine OJ.pures oU 2 Z (OJ.nil (EJ.next ?_))
 refine CJ.cond Z (fun hb => ?_) (fun hb => ?_)
 ·replace H := pif_t (of_decide_eq_true hb) H
  refine CJ.seq (CJ.region ?_)
  refine OJ.pures oU 3 Z (OJ.nil (EJ.next ?_))
  refine CJ.ret (EJ.skR (?_))
  replace hS := hS.addNil cSpot 49 none
  obtain rfl := Option.some.inj H
  exact EJ.fin Z (.tmp Z (.tmp Z .nil)) ⟨none, 0, Z, hS.pick [1] [] Z⟩
 replace H := pif_f (of_decide_eq_false hb) H
 refine CJ.skip (EJ.next ?_)
 refine CJ.seq (CJ.region ?_)
 refine OJ.st Z Z Z (SR.load Z Z (fun w' hx => ldE oU oI Z Z Z (CA.ext (hS.cells (i := 0) Z) hx) Z)) ?_
 refine OJ.pures oU 1 Z ?_
 obtain ⟨t3, ht3, H⟩ := pbind H
 refine OJ.callF rfl rfl rfl rfl rfl hb48 rfl (impl_Pasture_reachedBy.c k _ a0 Aa1 ca1 a1 (hS.rd' (i := 0) rfl) (hS.le' (i := 0) rfl) 52 #[] #[] hb52 impl_SharedCells_1.f (fun z0 r h w' hx => CV.cast (impl_SharedCells_1.c w'   z0 r h) (by simp)) _ ht3) ?_
 rintro _ w1 ⟨A4, c5, rfl, hs⟩
 replace hS := hS.addN hs
 refine OJ.pures oU 2 Z (OJ.nil (EJ.next ?_))
 refine CJ.ret (?_)
 obtain rfl := Option.some.inj H
 exact EJ.fin Z (.tmp Z (.tmp Z .nil)) ⟨A4, c5, Z, hS.pick [1] [] Z⟩

def spec_SharedCells.f (k : Nat) (a0 : Pasture) (a1 : List Stake) : Option (List Spot × Int) := (spec_l05Asked.f k a0 a1 true).bind fun t2 => if t2 ≠ 0 then (some (([] : List Spot), t2)) else ((spec_l05Counted.f k a0 a1 2 12).bind fun t4 => some (t4, 0))
theorem spec_SharedCells.c (k : Nat) (w : World) (a0 : Pasture) (Aa1 : Option Addr) (ca1 : Nat) (a1 : List Stake) (hr1 : Rd cStake w Aa1 a1) (hc1 : a1.length ≤ ca1) (r : List Spot × Int) (H : spec_SharedCells.f k a0 a1 = some r) :
 CV Tryz.prog 13 [.agg (cPasture.enc a0).toArray, .slice Aa1 a1.length ca1].toArray w fun v w' => ∃ (A0 : Option Addr) (c0 : Nat), v = .tuple #[.slice A0 r.1.length c0, .int .i64 r.2] ∧ St w no w' [rowC cSpot A0 c0 49 r.1] [] := by
 have hS := ((St.init w no).param cStake Aa1 ca1 a1 hr1 hc1)
 unfold spec_SharedCells.f at H
 refine CV.body Tryz.func13 Z Tryz.ntmps13 Z ?_
 refine CJ.seq (CJ.region ?_)
 refine OJ.ef Z Z Z (Ef.box hS Z Z (cPasture.enc a0) Z) ?_
 rintro _ w1 ⟨b1, rfl, hS⟩
 refine OJ.pures oU 2 Z (OJ.nil (EJ.next ?_))
 refine CJ.seq ?_
 refine CJ.seq (CJ.region ?_)
 refine OJ.pures oU 1 Z ?_
 obtain ⟨t2, ht2, H⟩ := pbind H
 refine OJ.callF Z Z Z Z Z hb50 Z (spec_l05Asked.c k _ _ a0 (hS.cells (i := 0) Z) Aa1 ca1 a1 (hS.rd' (i := 0) Z) (hS.le' (i := 0) Z) true _ ht2) ?_
 rintro _ w1 ⟨rfl, hs⟩
 replace hS := hS.grow hs
 refine OJ.pures oU 1 Z (OJ.nil (EJ.next ?_))
 refine CJ.seq (CJ.region ?_)
 refine OJ.pures oU 2 Z (OJ.nil (EJ.next ?_))
 refine CJ.cond Z (fun hb => ?_) (fun hb => ?_)
 ·replace H := pif_t (of_decide_eq_true hb) H
  refine CJ.seq (CJ.region ?_)
  refine OJ.ef Z Z Z (Ef.lit oU oI hS (C := cSpot) Z Z Z Z Z Z ([] : List Spot) Z Z Z Z) ?_
  rintro _ w1 ⟨A3, rfl, hS⟩
  refine OJ.pures oU 3 Z (OJ.nil (EJ.next ?_))
  refine CJ.ret (EJ.skR (?_))
  obtain rfl := Option.some.inj H
  exact EJ.fin Z (.tmp Z (.tmp Z .nil)) ⟨A3, (([] : List Spot).length), Z, hS.pick [1] [] Z⟩
 replace H := pif_f (of_decide_eq_false hb) H
 refine CJ.skip (EJ.next ?_)
 refine CJ.seq (CJ.region ?_)
 refine OJ.pures oU 1 Z ?_
 obtain ⟨t4, ht4, H⟩ := pbind H
 refine OJ.callF Z Z Z Z Z hb51 Z (spec_l05Counted.c k _ _ a0 (hS.cells (i := 0) Z) Aa1 ca1 a1 (hS.rd' (i := 0) Z) (hS.le' (i := 0) Z) 2 12 _ ht4) ?_
 rintro _ w1 ⟨A5, c6, rfl, hs⟩
 replace hS := hS.addN hs
 refine OJ.pures oU 2 Z (OJ.nil (EJ.next ?_))
 refine CJ.ret (?_)
 obtain rfl := Option.some.inj H
 exact EJ.fin Z (.tmp Z (.tmp Z .nil)) ⟨A5, c6, Z, hS.pick [1] [] Z⟩

def spec_SameStakes.l1 (a0 : List Stake) (a1 : List Stake) : Nat → Int → Option (Bool ⊕ Unit)
  | 0, _ => none
  | k + 1, y1 => if y1 < (a0.length : Int) then ((getI a0 y1).bind fun t2 => (getI a1 y1).bind fun t3 => if t2 ≠ t3 then (some (Sum.inl false)) else (spec_SameStakes.l1 a0 a1 k (IntKind.i64.wrap (y1 + 1)))) else (some (Sum.inr ()))
def spec_SameStakes.f (k : Nat) (a0 : List Stake) (a1 : List Stake) : Option Bool := if (a0.length : Int) ≠ (a1.length : Int) then (some false) else ((spec_SameStakes.l1 a0 a1 k 0).bind fun s288 => match s288 with | .inl r => some r | .inr _ => some true)
theorem spec_SameStakes.c (k : Nat) (w : World) (Aa0 : Option Addr) (ca0 : Nat) (a0 : List Stake) (hr0 : Rd cStake w Aa0 a0) (hc0 : a0.length ≤ ca0) (Aa1 : Option Addr) (ca1 : Nat) (a1 : List Stake) (hr1 : Rd cStake w Aa1 a1) (hc1 : a1.length ≤ ca1) (r : Bool) (H : spec_SameStakes.f k a0 a1 = some r) :
 CV Tryz.prog 14 [.slice Aa0 a0.length ca0, .slice Aa1 a1.length ca1].toArray w fun v w' => v = .bool r ∧ Ext w w' := by
 have hS := (((St.init w no).param cStake Aa0 ca0 a0 hr0 hc0).param cStake Aa1 ca1 a1 hr1 hc1)
 unfold spec_SameStakes.f at H
 refine CV.body Tryz.func14 Z Tryz.ntmps14 Z ?_
 refine CJ.seq (CJ.region ?_)
 refine OJ.pures oU 1 Z (OJ.nil (EJ.next ?_))
 refine CJ.seq ?_
 refine CJ.seq (CJ.region ?_)
 refine OJ.pures oU 5 Z (OJ.nil (EJ.next ?_))
 refine CJ.cond Z (fun hb => ?_) (fun hb => ?_)
 ·replace H := pif_t (of_decide_eq_true hb) H
  refine CJ.seq (CJ.region ?_)
  refine OJ.pures oU 1 Z (OJ.nil (EJ.next ?_))
  refine CJ.ret (EJ.skR (?_))
  obtain rfl := Option.some.inj H
  exact EJ.fin Z (.tmp Z .nil) ⟨Z, hS.ext⟩
 replace H := pif_f (of_decide_eq_false hb) H
 refine CJ.skip (EJ.next ?_)
 refine CJ.seq ?_
 refine CJ.seq (CJ.region ?_)
 refine OJ.pures oU 1 Z (OJ.nil (EJ.next ?_))
 obtain ⟨j288, H, K288⟩ := pbind H
 refine CJ.cut1 (fun F w1 => (some (Sum.inr ()) : Option (Bool ⊕ Unit)) = some j288 ∧ F = [] ∧ St w no w1 [] [roC cStake Aa0 ca0 a0, roC cStake Aa1 ca1 a1]) ?_ ?_
 ·skip
  refine CJ.block ?_
  refine CJ.loop (fun k F w1 => ∃ (y1 : Int), F = [(0, .slice Aa0 a0.length ca0), (1, .slice Aa1 a1.length ca1), (5, .int .i64 y1)] ∧ St w no w1 [] [roC cStake Aa0 ca0 a0, roC cStake Aa1 ca1 a1] ∧ spec_SameStakes.l1 a0 a1 k y1 = some j288) k (F' := [(0, .slice Aa0 a0.length ca0), (1, .slice Aa1 a1.length ca1), (5, .int .i64 0)]) ⟨Z, Z, Z, trivial⟩ ⟨0, Z, hS.pick [] [0, 1] Z, H⟩ ?_
  rintro k F w1 ⟨y1, rfl, hS, H⟩
  cases k with
  | zero => rw [spec_SameStakes.l1] at H; cases H
  | succ k =>
    rw [spec_SameStakes.l1] at H
    refine CJ.seq ?_
    refine CJ.seq (CJ.region ?_)
    refine OJ.pures oU 4 Z (OJ.nil (EJ.next ?_))
    refine CJ.cond Z (fun hb => ?_) (fun hb => ?_)
    · replace H := pif_t (of_decide_eq_true hb) H
      refine CJ.skip (EJ.next ?_)
      refine CJ.seq ?_
      refine CJ.block ?_
      refine CJ.seq ?_
      refine CJ.draw [] [0, 1, 2, 3, 4, 5, 6, 7, 8] mixed (by kernel_rfl) hS fun w1 hS => ?_
      refine DJ.pures oU 2 Z ?_
      obtain ⟨t2, ht2, H⟩ := pbind H
      obtain ⟨ad2, e2⟩ := (hS.rd' (i := 0) rfl).some' ht2
      refine DJ.st Z Z Z Z Z (SR.idxS oU oI Z Z Z Z e2 Z (getI_some ht2).1) ?_
      refine DJ.st Z Z Z Z Z (SR.load Z Z (fun w' hx => ldE oU oI Z Z Z (CA.ext ((hS.rd' (i := 0) Z).at_ e2 ht2) hx) Z)) ?_
      refine DJ.pures oU 2 Z ?_
      obtain ⟨t3, ht3, H⟩ := pbind H
      obtain ⟨ad3, e3⟩ := (hS.rd' (i := 1) rfl).some' ht3
      refine DJ.st Z Z Z Z Z (SR.idxS oU oI Z Z Z Z e3 Z (getI_some ht3).1) ?_
      refine DJ.st Z Z Z Z Z (SR.load Z Z (fun w' hx => ldE oU oI Z Z Z (CA.ext ((hS.rd' (i := 1) Z).at_ e3 ht3) hx) Z)) ?_
      refine DJ.st Z Z Z Z Z (SR.neS eqT51 eqG51 Z Z Z (Z : _ = (cStake.enc t2).toArray) (Z : _ = (cStake.enc t3).toArray)) ?_
      refine DJ.nil (EJ.next ?_)
      refine CJ.cond Z (fun hb => ?_) (fun hb => ?_)
      · replace H := pif_t (of_decide_eq_true hb) H
        refine CJ.seq (CJ.region ?_)
        refine OJ.pures oU 1 Z (OJ.nil (EJ.next ?_))
        refine CJ.ret (EJ.bkR (EJ.skR (EJ.skR (EJ.bkR (EJ.skR (EJ.skR (?_)))))))
        first | (obtain rfl := Option.some.inj H; have H := K288) | (obtain ⟨q288, H2, e288⟩ := pbind H; obtain rfl := Option.some.inj e288; obtain rfl := Option.some.inj K288; have H := H2)
        obtain rfl := Option.some.inj H
        exact EJ.fin Z (.tmp Z .nil) ⟨Z, hS.ext⟩
      · replace H := pif_f (of_decide_eq_false hb) H
        refine CJ.skip (EJ.blk (EJ.next ?_))
        refine CJ.region ?_
        refine OJ.pures oU 3 Z ?_
        refine OJ.nil ?_
        exact EJ.round k (F' := [(0, .slice Aa0 a0.length ca0), (1, .slice Aa1 a1.length ca1), (5, .int .i64 (IntKind.i64.wrap (y1 + 1)))]) ⟨Z, Z, Z, trivial⟩ (Nat.lt_succ_self _) ⟨(IntKind.i64.wrap (y1 + 1)), Z, hS.pick [] [0, 1] Z, H⟩
    · replace H := pif_f (of_decide_eq_false hb) H
      refine CJ.exit (EJ.skE (EJ.skE (EJ.hit (?_))))
      exact EJ.meet (F' := []) trivial ⟨H, Z, hS.pick [] [0, 1] Z⟩
 rintro F w1 ⟨he, rfl, hS⟩
 obtain rfl := Option.some.inj he
 have H := K288
 refine EJ.next ?_
 refine CJ.seq (CJ.region ?_)
 refine OJ.pures oU 1 Z (OJ.nil (EJ.next ?_))
 refine CJ.ret (?_)
 obtain rfl := Option.some.inj H
 exact EJ.fin Z (.tmp Z .nil) ⟨Z, hS.ext⟩

def slices_Equal_impl_Stake_impl_Stake.l1 (a0 : List Stake) (a1 : List Stake) : Nat → Int → Option (Bool ⊕ Unit)
  | 0, _ => none
  | k + 1, y1 => if y1 < (a0.length : Int) then ((getI a0 y1).bind fun t2 => (getI a1 y1).bind fun t3 => if t2 ≠ t3 then (some (Sum.inl false)) else (slices_Equal_impl_Stake_impl_Stake.l1 a0 a1 k (IntKind.i64.wrap (y1 + 1)))) else (some (Sum.inr ()))
def slices_Equal_impl_Stake_impl_Stake.f (k : Nat) (a0 : List Stake) (a1 : List Stake) : Option Bool := if (a0.length : Int) ≠ (a1.length : Int) then (some false) else ((slices_Equal_impl_Stake_impl_Stake.l1 a0 a1 k 0).bind fun s289 => match s289 with | .inl r => some r | .inr _ => some true)
theorem slices_Equal_impl_Stake_impl_Stake.c (k : Nat) (w : World) (Aa0 : Option Addr) (ca0 : Nat) (a0 : List Stake) (hr0 : Rd cStake w Aa0 a0) (hc0 : a0.length ≤ ca0) (Aa1 : Option Addr) (ca1 : Nat) (a1 : List Stake) (hr1 : Rd cStake w Aa1 a1) (hc1 : a1.length ≤ ca1) (r : Bool) (H : slices_Equal_impl_Stake_impl_Stake.f k a0 a1 = some r) :
 CV Tryz.prog 53 [.slice Aa0 a0.length ca0, .slice Aa1 a1.length ca1].toArray w fun v w' => v = .bool r ∧ Ext w w' := by
 have hS := (((St.init w no).param cStake Aa0 ca0 a0 hr0 hc0).param cStake Aa1 ca1 a1 hr1 hc1)
 unfold slices_Equal_impl_Stake_impl_Stake.f at H
 refine CV.body Tryz.func53 Z Tryz.ntmps53 Z ?_
 refine CJ.seq (CJ.region ?_)
 refine OJ.pures oU 1 Z (OJ.nil (EJ.next ?_))
 refine CJ.seq ?_
 refine CJ.seq (CJ.region ?_)
 refine OJ.pures oU 5 Z (OJ.nil (EJ.next ?_))
 refine CJ.cond Z (fun hb => ?_) (fun hb => ?_)
 ·replace H := pif_t (of_decide_eq_true hb) H
  refine CJ.seq (CJ.region ?_)
  refine OJ.pures oU 1 Z (OJ.nil (EJ.next ?_))
  refine CJ.ret (EJ.skR (?_))
  obtain rfl := Option.some.inj H
  exact EJ.fin Z (.tmp Z .nil) ⟨Z, hS.ext⟩
 replace H := pif_f (of_decide_eq_false hb) H
 refine CJ.skip (EJ.next ?_)
 refine CJ.seq ?_
 refine CJ.seq (CJ.region ?_)
 refine OJ.pures oU 3 Z (OJ.nil (EJ.next ?_))
 obtain ⟨j289, H, K289⟩ := pbind H
 refine CJ.cut1 (fun F w1 => (some (Sum.inr ()) : Option (Bool ⊕ Unit)) = some j289 ∧ F = [] ∧ St w no w1 [] [roC cStake Aa0 ca0 a0, roC cStake Aa1 ca1 a1]) ?_ ?_
 ·skip
  refine CJ.block ?_
  refine CJ.loop (fun k F w1 => ∃ (y1 : Int), F = [(0, .slice Aa0 a0.length ca0), (1, .slice Aa1 a1.length ca1), (12, .int .i64 (a0.length : Int)), (13, .int .i64 y1)] ∧ St w no w1 [] [roC cStake Aa0 ca0 a0, roC cStake Aa1 ca1 a1] ∧ slices_Equal_impl_Stake_impl_Stake.l1 a0 a1 k y1 = some j289) k (F' := [(0, .slice Aa0 a0.length ca0), (1, .slice Aa1 a1.length ca1), (12, .int .i64 (a0.length : Int)), (13, .int .i64 0)]) ⟨Z, Z, Z, Z, trivial⟩ ⟨0, Z, hS.pick [] [0, 1] Z, H⟩ ?_
  rintro k F w1 ⟨y1, rfl, hS, H⟩
  cases k with
  | zero => rw [slices_Equal_impl_Stake_impl_Stake.l1] at H; cases H
  | succ k =>
    rw [slices_Equal_impl_Stake_impl_Stake.l1] at H
    refine CJ.seq (CJ.region ?_)
    refine OJ.pures oU 1 Z (OJ.nil (EJ.next ?_))
    refine CJ.seq ?_
    refine CJ.cond Z (fun hb => ?_) (fun hb => ?_)
    · replace H := pif_t (of_decide_eq_true hb) H
      refine CJ.skip (EJ.next ?_)
      refine CJ.seq ?_
      refine CJ.block ?_
      refine CJ.seq (CJ.region ?_)
      refine OJ.pures oU 2 Z (OJ.nil (EJ.next ?_))
      refine CJ.seq ?_
      refine CJ.draw [] [0, 1, 2, 3, 4, 5, 6, 7, 8] mixed (by kernel_rfl) hS fun w1 hS => ?_
      refine DJ.pures oU 2 Z ?_
      obtain ⟨t2, ht2, H⟩ := pbind H
      obtain ⟨ad2, e2⟩ := (hS.rd' (i := 0) rfl).some' ht2
      refine DJ.st Z Z Z Z Z (SR.idxS oU oI Z Z Z Z e2 Z (getI_some ht2).1) ?_
      refine DJ.st Z Z Z Z Z (SR.load Z Z (fun w' hx => ldE oU oI Z Z Z (CA.ext ((hS.rd' (i := 0) Z).at_ e2 ht2) hx) Z)) ?_
      refine DJ.pures oU 2 Z ?_
      obtain ⟨t3, ht3, H⟩ := pbind H
      obtain ⟨ad3, e3⟩ := (hS.rd' (i := 1) rfl).some' ht3
      refine DJ.st Z Z Z Z Z (SR.idxS oU oI Z Z Z Z e3 Z (getI_some ht3).1) ?_
      refine DJ.st Z Z Z Z Z (SR.load Z Z (fun w' hx => ldE oU oI Z Z Z (CA.ext ((hS.rd' (i := 1) Z).at_ e3 ht3) hx) Z)) ?_
      refine DJ.st Z Z Z Z Z (SR.neS eqT51 eqG51 Z Z Z (Z : _ = (cStake.enc t2).toArray) (Z : _ = (cStake.enc t3).toArray)) ?_
      refine DJ.nil (EJ.next ?_)
      refine CJ.cond Z (fun hb => ?_) (fun hb => ?_)
      · replace H := pif_t (of_decide_eq_true hb) H
        refine CJ.seq (CJ.region ?_)
        refine OJ.pures oU 1 Z (OJ.nil (EJ.next ?_))
        refine CJ.ret (EJ.bkR (EJ.skR (EJ.skR (EJ.bkR (EJ.skR (EJ.skR (?_)))))))
        first | (obtain rfl := Option.some.inj H; have H := K289) | (obtain ⟨q289, H2, e289⟩ := pbind H; obtain rfl := Option.some.inj e289; obtain rfl := Option.some.inj K289; have H := H2)
        obtain rfl := Option.some.inj H
        exact EJ.fin Z (.tmp Z .nil) ⟨Z, hS.ext⟩
      · replace H := pif_f (of_decide_eq_false hb) H
        refine CJ.skip (EJ.blk (EJ.next ?_))
        refine CJ.region ?_
        refine OJ.pures oU 2 Z ?_
        refine OJ.nil ?_
        exact EJ.round k (F' := [(0, .slice Aa0 a0.length ca0), (1, .slice Aa1 a1.length ca1), (12, .int .i64 (a0.length : Int)), (13, .int .i64 (IntKind.i64.wrap (y1 + 1)))]) ⟨Z, Z, Z, Z, trivial⟩ (Nat.lt_succ_self _) ⟨(IntKind.i64.wrap (y1 + 1)), Z, hS.pick [] [0, 1] Z, H⟩
    · replace H := pif_f (of_decide_eq_false hb) H
      refine CJ.exit (EJ.skE (EJ.skE (EJ.hit (?_))))
      exact EJ.meet (F' := []) trivial ⟨H, Z, hS.pick [] [0, 1] Z⟩
 rintro F w1 ⟨he, rfl, hS⟩
 obtain rfl := Option.some.inj he
 have H := K289
 refine EJ.next ?_
 refine CJ.seq (CJ.region ?_)
 refine OJ.pures oU 1 Z (OJ.nil (EJ.next ?_))
 refine CJ.ret (?_)
 obtain rfl := Option.some.inj H
 exact EJ.fin Z (.tmp Z .nil) ⟨Z, hS.ext⟩

def impl_SameStakes.f (k : Nat) (a0 : List Stake) (a1 : List Stake) : Option Bool := (slices_Equal_impl_Stake_impl_Stake.f k a0 a1).bind fun t1 => some t1
theorem impl_SameStakes.c (k : Nat) (w : World) (Aa0 : Option Addr) (ca0 : Nat) (a0 : List Stake) (hr0 : Rd cStake w Aa0 a0) (hc0 : a0.length ≤ ca0) (Aa1 : Option Addr) (ca1 : Nat) (a1 : List Stake) (hr1 : Rd cStake w Aa1 a1) (hc1 : a1.length ≤ ca1) (r : Bool) (H : impl_SameStakes.f k a0 a1 = some r) :
 CV Tryz.prog 15 [.slice Aa0 a0.length ca0, .slice Aa1 a1.length ca1].toArray w fun v w' => v = .bool r ∧ Ext w w' := by
 have hS := (((St.init w no).param cStake Aa0 ca0 a0 hr0 hc0).param cStake Aa1 ca1 a1 hr1 hc1)
 unfold impl_SameStakes.f at H
 refine CV.body Tryz.func15 Z Tryz.ntmps15 Z ?_
 refine CJ.seq (CJ.region ?_)
 refine OJ.pures oU 1 Z (OJ.nil (EJ.next ?_))
 refine CJ.seq (CJ.region ?_)
 refine OJ.pures oU 2 Z ?_
 obtain ⟨t1, ht1, H⟩ := pbind H
 refine OJ.callF Z Z Z Z Z hb53 Z (slices_Equal_impl_Stake_impl_Stake.c k _ Aa0 ca0 a0 (hS.rd' (i := 0) Z) (hS.le' (i := 0) Z) Aa1 ca1 a1 (hS.rd' (i := 1) Z) (hS.le' (i := 1) Z) _ ht1) ?_
 rintro _ w1 ⟨rfl, hs⟩
 replace hS := hS.grow hs
 refine OJ.pures oU 1 Z (OJ.nil (EJ.next ?_))
 refine CJ.ret (?_)
 obtain rfl := Option.some.inj H
 exact EJ.fin Z (.tmp Z .nil) ⟨Z, hS.ext⟩
end Go.Proofs.YtklgpejnogkccaaGreatDoor
