/-
  What the functions come to.
-/
import Derived.Test.YtloljfkfnpgjfaaGreatGP0
namespace Go.Proofs.YtloljfkfnpgjfaaGreat
open G
set_option linter.unusedVariables false
set_option linter.unusedSimpArgs false
set_option maxRecDepth 100000
set_option maxHeartbeats 4000000
def impl_Pasture_sides.l2 (a0 : Pasture) (a1 : Hurdle → Option Bool) (t16 : Spot) : Nat → (List Hurdle) → Int → Option (List Hurdle)
  | 0, _, _ => none
  | k + 1, y22, y25 => if y25 < (([false, true] : List Bool).length : Int) then ((getI ([false, true] : List Bool) y25).bind fun t26 => (impl_Pasture_isHurdle.f a0 (⟨t16, t26⟩ : Hurdle)).bind fun t28 => if t28 = true then ((a1 (⟨t16, t26⟩ : Hurdle)).bind fun t29 => if t29 = true then ((chk (y22.length + ([(⟨t16, t26⟩ : Hurdle)] : List Hurdle).length ≤ 4294967296)).bind fun u31 => impl_Pasture_sides.l2 a0 a1 t16 k (y22 ++ ([(⟨t16, t26⟩ : Hurdle)] : List Hurdle)) (IntKind.i64.wrap (y25 + 1))) else (impl_Pasture_sides.l2 a0 a1 t16 k y22 (IntKind.i64.wrap (y25 + 1)))) else (impl_Pasture_sides.l2 a0 a1 t16 k y22 (IntKind.i64.wrap (y25 + 1)))) else (some y22)
def impl_Pasture_sides.l1 (a0 : Pasture) (a1 : Hurdle → Option Bool) (t3 : List Spot) : Nat → (List Hurdle) → Int → Option (List Hurdle)
  | 0, _, _ => none
  | k + 1, y9, y12 => if y12 < (t3.length : Int) then (((getI t3 y12).bind fun t16 => (impl_Pasture_sides.l2 a0 a1 t16 k y9 0).bind fun y19 => some y19).bind fun y13 => impl_Pasture_sides.l1 a0 a1 t3 k y13 (IntKind.i64.wrap (y12 + 1))) else (some y9)
def impl_Pasture_sides.f (k : Nat) (a0 : Pasture) (a1 : Hurdle → Option Bool) : Option (List Hurdle) := (impl_Pasture_all.f k a0).bind fun t3 => (impl_Pasture_sides.l1 a0 a1 t3 k ([] : List Hurdle) 0).bind fun y6 => some y6
theorem impl_Pasture_sides.c (k : Nat) (w : World) (a0 : Pasture) (na1 : Nat) (fsa1 capa1 : Array Value) (hb1 : hasBody Tryz.prog na1) (a1 : Hurdle → Option Bool) (hf1 : ∀ (z0 : Hurdle) (r : Bool), a1 z0 = some r → ∀ w', Chg no w w' → CV Tryz.prog na1 (fsa1 ++ [.agg (cHurdle.enc z0).toArray].toArray ++ capa1) w' fun v w'' => v = .bool r ∧ Ext w' w'') (r : List Hurdle) (H : impl_Pasture_sides.f k a0 a1 = some r) :
 CV Tryz.prog 43 [.agg (cPasture.enc a0).toArray, .func (.func na1) fsa1 capa1].toArray w fun v w' => ∃ (A0 : Option Addr) (c0 : Nat), v = .slice A0 r.length c0 ∧ St w no w' [rowC cHurdle A0 c0 48 r] [] := by
 have hS := (St.init w no)
 unfold impl_Pasture_sides.f at H
 refine CV.body Tryz.func43 Z Tryz.ntmps43 Z ?_
 refine CJ.seq (CJ.region ?_)
 refine OJ.ef Z Z Z (Ef.box hS Z Z (cPasture.enc a0) Z) ?_
 rintro _ w1 ⟨b1, rfl, hS⟩
 refine OJ.pures oU 1 Z (OJ.nil (EJ.next ?_))
 refine CJ.seq (CJ.region ?_)
 refine OJ.ef Z Z Z (Ef.lit oU oI hS (C := cHurdle) Z Z Z Z Z Z ([] : List Hurdle) Z Z Z Z) ?_
 rintro _ w1 ⟨A2, rfl, hS⟩
 refine OJ.pures oU 1 Z (OJ.nil (EJ.next ?_))
 refine CJ.seq ?_
 refine CJ.seq (CJ.region ?_)
 refine OJ.st Z Z Z (SR.load Z Z (fun w' hx => ldE oU oI Z Z Z (CA.ext (hS.cells (i := 0) Z) hx) Z)) ?_
 obtain ⟨t3, ht3, H⟩ := pbind H
 refine OJ.callF Z Z Z Z Z hb76 Z (impl_Pasture_all.c k _ a0 _ ht3) ?_
 rintro _ w1 ⟨A4, c5, rfl, hs⟩
 replace hS := hS.addN hs
 refine OJ.pures oU 2 Z (OJ.nil (EJ.next ?_))
 obtain ⟨j188, H, K188⟩ := pbind H
 refine CJ.cut1 (fun F w1 => ∃ (y6 : List Hurdle) (A7 : Option Addr) (c8 : Nat), (some y6 : Option (List Hurdle)) = some j188 ∧ F = [(5, .slice A7 y6.length c8)] ∧ St w no w1 [rowC cHurdle A7 c8 48 y6] []) ?_ ?_
 ·skip
  refine CJ.block ?_
  refine CJ.loop (fun k F w1 => ∃ (y9 : List Hurdle) (y12 : Int) (A10 : Option Addr) (c11 : Nat), F = [(1, .func (.func na1) fsa1 capa1), (2, .pointer (some ⟨b1, 0, none⟩)), (5, .slice A10 y9.length c11), (13, .slice A4 t3.length c5), (14, .int .i64 (t3.length : Int)), (15, .int .i64 y12)] ∧ St w no w1 [box b1 (cPasture.enc a0) 31, rowC cHurdle A10 c11 48 y9, rowC cSpot A4 c5 45 t3] [] ∧ impl_Pasture_sides.l1 a0 a1 t3 k y9 y12 = some j188) k (F' := [(1, .func (.func na1) fsa1 capa1), (2, .pointer (some ⟨b1, 0, none⟩)), (5, .slice A2 ([] : List Hurdle).length (([] : List Hurdle).length)), (13, .slice A4 t3.length c5), (14, .int .i64 (t3.length : Int)), (15, .int .i64 0)]) ⟨Z, Z, Z, Z, Z, Z, trivial⟩ ⟨([] : List Hurdle), 0, A2, (([] : List Hurdle).length), Z, hS.pick [0, 1, 2] [] Z, H⟩ ?_
  rintro k F w1 ⟨y9, y12, A10, c11, rfl, hS, H⟩
  cases k with
  | zero => rw [impl_Pasture_sides.l1] at H; cases H
  | succ k =>
    rw [impl_Pasture_sides.l1] at H
    refine CJ.seq (CJ.region ?_)
    refine OJ.pures oU 1 Z (OJ.nil (EJ.next ?_))
    refine CJ.seq ?_
    refine CJ.cond Z (fun hb => ?_) (fun hb => ?_)
    · replace H := pif_t (of_decide_eq_true hb) H
      refine CJ.skip (EJ.next ?_)
      obtain ⟨j195, H, K195⟩ := pbind H
      refine CJ.cut (fun F w1 => ∃ (y13 : List Hurdle) (A14 : Option Addr) (c15 : Nat), (some y13 : Option (List Hurdle)) = some j195 ∧ F = [(1, .func (.func na1) fsa1 capa1), (2, .pointer (some ⟨b1, 0, none⟩)), (5, .slice A14 y13.length c15), (13, .slice A4 t3.length c5), (14, .int .i64 (t3.length : Int)), (15, .int .i64 y12)] ∧ St w no w1 [box b1 (cPasture.enc a0) 31, rowC cHurdle A14 c15 48 y13, rowC cSpot A4 c5 45 t3] []) ?_ ?_
      · skip
        refine CJ.block ?_
        refine CJ.seq (CJ.region ?_)
        obtain ⟨t16, ht16, H⟩ := pbind H
        obtain ⟨ad16, e16⟩ := (hS.rd (i := 2) rfl).some' ht16
        refine OJ.st Z Z Z (SR.idxS oU oI Z Z Z Z e16 Z (getI_some ht16).1) ?_
        refine OJ.st Z Z Z (SR.load Z Z (fun w' hx => ldE oU oI Z Z Z (CA.ext ((hS.rd (i := 2) Z).at_ e16 ht16) hx) Z)) ?_
        refine OJ.ef Z Z Z (Ef.alloc hS oI Z Z (cSpot.enc (⟨0, 0⟩ : Spot)) Z) ?_
        rintro _ w1 ⟨b17, rfl, hS⟩
        refine OJ.es Z Z (Es.store oI hS (i := 3) Z Z Z Z Z Z (vs := cSpot.enc t16) Z (cSpot.len _) (cSpot.one _) (Nat.le_of_ble_eq_true Z) (cSpot.enc t16) Z) ?_
        intro w1 hS
        refine OJ.nil (EJ.next ?_)
        refine CJ.seq (CJ.region ?_)
        refine OJ.ef Z Z Z (Ef.lit oU oI hS (C := cb) Z Z Z Z Z Z ([false, true] : List Bool) Z Z Z Z) ?_
        rintro _ w1 ⟨A18, rfl, hS⟩
        refine OJ.pures oU 2 Z (OJ.nil (EJ.next ?_))
        obtain ⟨j197, H, K197⟩ := pbind H
        refine CJ.cut1 (fun F w1 => ∃ (y19 : List Hurdle) (A20 : Option Addr) (c21 : Nat), (some y19 : Option (List Hurdle)) = some j197 ∧ F = [(1, .func (.func na1) fsa1 capa1), (2, .pointer (some ⟨b1, 0, none⟩)), (5, .slice A20 y19.length c21), (13, .slice A4 t3.length c5), (14, .int .i64 (t3.length : Int)), (15, .int .i64 y12)] ∧ St w no w1 [box b1 (cPasture.enc a0) 31, rowC cHurdle A20 c21 48 y19, rowC cSpot A4 c5 45 t3] []) ?_ ?_
        · skip
          refine CJ.block ?_
          refine CJ.loop (fun k F w1 => ∃ (y22 : List Hurdle) (y25 : Int) (A23 : Option Addr) (c24 : Nat), F = [(1, .func (.func na1) fsa1 capa1), (2, .pointer (some ⟨b1, 0, none⟩)), (5, .slice A23 y22.length c24), (7, .pointer (some ⟨b17, 0, none⟩)), (13, .slice A4 t3.length c5), (14, .int .i64 (t3.length : Int)), (15, .int .i64 y12), (19, .slice A18 ([false, true] : List Bool).length (([false, true] : List Bool).length)), (20, .int .i64 (([false, true] : List Bool).length : Int)), (21, .int .i64 y25)] ∧ St w no w1 [box b1 (cPasture.enc a0) 31, rowC cHurdle A23 c24 48 y22, rowC cSpot A4 c5 45 t3, box b17 (cSpot.enc t16) 45, rowC cb A18 (([false, true] : List Bool).length) 4 ([false, true] : List Bool)] [] ∧ impl_Pasture_sides.l2 a0 a1 t16 k y22 y25 = some j197) k (F' := [(1, .func (.func na1) fsa1 capa1), (2, .pointer (some ⟨b1, 0, none⟩)), (5, .slice A10 y9.length c11), (7, .pointer (some ⟨b17, 0, none⟩)), (13, .slice A4 t3.length c5), (14, .int .i64 (t3.length : Int)), (15, .int .i64 y12), (19, .slice A18 ([false, true] : List Bool).length (([false, true] : List Bool).length)), (20, .int .i64 (([false, true] : List Bool).length : Int)), (21, .int .i64 0)]) ⟨Z, Z, Z, Z, Z, Z, Z, Z, Z, Z, trivial⟩ ⟨y9, 0, A10, c11, Z, hS.pick [0, 1, 2, 3, 4] [] Z, H⟩ ?_
          rintro k F w1 ⟨y22, y25, A23, c24, rfl, hS, H⟩
          cases k with
          | zero => rw [impl_Pasture_sides.l2] at H; cases H
          | succ k =>
            rw [impl_Pasture_sides.l2] at H
            refine CJ.seq (CJ.region ?_)
            refine OJ.pures oU 1 Z (OJ.nil (EJ.next ?_))
            refine CJ.seq ?_
            refine CJ.cond Z (fun hb => ?_) (fun hb => ?_)
            · replace H := pif_t (of_decide_eq_true hb) H
              refine CJ.skip (EJ.next ?_)
              refine CJ.seq ?_
              refine CJ.block ?_
              refine CJ.seq (CJ.region ?_)
              obtain ⟨t26, ht26, H⟩ := pbind H
              obtain ⟨ad26, e26⟩ := (hS.rd (i := 4) rfl).some' ht26
              refine OJ.st Z Z Z (SR.idxS oU oI Z Z Z Z e26 Z (getI_some ht26).1) ?_
              refine OJ.st Z Z Z (SR.load Z Z (fun w' hx => ld1 oU Z Z (CA.ext ((hS.rd (i := 4) Z).at_ e26 ht26) hx) Z)) ?_
              refine OJ.pures oU 1 Z (OJ.nil (EJ.next ?_))
              refine CJ.seq (CJ.region ?_)
              refine OJ.st Z Z Z (SR.load Z Z (fun w' hx => ldE oU oI Z Z Z (CA.ext (hS.cells (i := 3) Z) hx) Z)) ?_
              refine OJ.pures oU 1 Z ?_
              refine OJ.st Z Z Z (SR.build (C := cHurdle) oU oI Z Z Z (zs := [.int .i8 0, .int .i8 0, .bool false]) Z Z Z (⟨t16, t26⟩ : Hurdle) Z) ?_
              refine OJ.ef Z Z Z (Ef.alloc hS oI Z Z (cHurdle.enc (⟨(⟨0, 0⟩ : Spot), false⟩ : Hurdle)) Z) ?_
              rintro _ w1 ⟨b27, rfl, hS⟩
              refine OJ.es Z Z (Es.store oI hS (i := 5) Z Z Z Z Z Z (vs := cHurdle.enc (⟨t16, t26⟩ : Hurdle)) Z (cHurdle.len _) (cHurdle.one _) (Nat.le_of_ble_eq_true Z) (cHurdle.enc (⟨t16, t26⟩ : Hurdle)) Z) ?_
              intro w1 hS
              refine OJ.nil (EJ.next ?_)
              refine CJ.seq (CJ.region ?_)
              refine OJ.st Z Z Z (SR.load Z Z (fun w' hx => ldE oU oI Z Z Z (CA.ext (hS.cells (i := 0) Z) hx) Z)) ?_
              refine OJ.st Z Z Z (SR.load Z Z (fun w' hx => ldE oU oI Z Z Z (CA.ext (hS.cells (i := 5) Z) hx) Z)) ?_
              obtain ⟨t28, ht28, H⟩ := pbind H
              refine OJ.callF Z Z Z Z Z hb75 Z (impl_Pasture_isHurdle.c _ a0 (⟨t16, t26⟩ : Hurdle) _ ht28) ?_
              rintro _ w1 ⟨rfl, hs⟩
              replace hS := hS.grow hs
              refine OJ.pures oU 1 Z ?_
              refine OJ.split (t := 31) Z (fun hb => ?_) (fun hb => ?_)
              · replace H := pif_t hb H
                refine OJ.pures oU 1 Z ?_
                refine OJ.st Z Z Z (SR.load Z Z (fun w' hx => ldE oU oI Z Z Z (CA.ext (hS.cells (i := 5) Z) hx) Z)) ?_
                obtain ⟨t29, ht29, H⟩ := pbind H
                refine OJ.call Z Z (Nat.le_of_ble_eq_true Z) Z Z Z hb1 Z (hf1 (⟨t16, t26⟩ : Hurdle) _ ht29 _ hS.chg) ?_
                rintro _ w1 ⟨rfl, hs⟩
                replace hS := hS.grow hs
                refine OJ.pures oU 1 Z (OJ.nil (EJ.next ?_))
                refine CJ.cond Z (fun hb => ?_) (fun hb => ?_)
                · replace H := pif_t hb H
                  refine CJ.region ?_
                  refine OJ.pures oU 1 Z ?_
                  refine OJ.st Z Z Z (SR.load Z Z (fun w' hx => ldE oU oI Z Z Z (CA.ext (hS.cells (i := 5) Z) hx) Z)) ?_
                  refine OJ.ef Z Z Z (Ef.lit oU oI hS (C := cHurdle) Z Z Z Z Z Z ([(⟨t16, t26⟩ : Hurdle)] : List Hurdle) Z Z Z Z) ?_
                  rintro _ w1 ⟨A30, rfl, hS⟩
                  obtain ⟨u31, hu31, H⟩ := pbind H
                  refine OJ.ew Z Z Z (Ew.append oU oI (C := cHurdle) (xs := y22) (ys := ([(⟨t16, t26⟩ : Hurdle)] : List Hurdle)) hS (i := 1) Z Z Z Z Z Z Z Z Z Z Z Z Z (hS.rd (i := 6) Z) (chk_some hu31)) ?_
                  rintro _ w1 ⟨A32, c33, rfl, hS⟩
                  refine OJ.pures oU 1 Z ?_
                  refine OJ.nil (EJ.blk (EJ.next ?_))
                  refine CJ.region ?_
                  refine OJ.pures oU 2 Z ?_
                  refine OJ.nil ?_
                  exact EJ.round k (F' := [(1, .func (.func na1) fsa1 capa1), (2, .pointer (some ⟨b1, 0, none⟩)), (5, .slice A32 (y22 ++ ([(⟨t16, t26⟩ : Hurdle)] : List Hurdle)).length c33), (7, .pointer (some ⟨b17, 0, none⟩)), (13, .slice A4 t3.length c5), (14, .int .i64 (t3.length : Int)), (15, .int .i64 y12), (19, .slice A18 ([false, true] : List Bool).length (([false, true] : List Bool).length)), (20, .int .i64 (([false, true] : List Bool).length : Int)), (21, .int .i64 (IntKind.i64.wrap (y25 + 1)))]) ⟨Z, Z, Z, Z, Z, Z, Z, Z, Z, Z, trivial⟩ (Nat.lt_succ_self _) ⟨(y22 ++ ([(⟨t16, t26⟩ : Hurdle)] : List Hurdle)), (IntKind.i64.wrap (y25 + 1)), A32, c33, Z, hS.pick [0, 1, 2, 3, 4] [] Z, H⟩
                · replace H := pifb_f hb H
                  refine CJ.skip (EJ.blk (EJ.next ?_))
                  refine CJ.region ?_
                  refine OJ.pures oU 2 Z ?_
                  refine OJ.nil ?_
                  exact EJ.round k (F' := [(1, .func (.func na1) fsa1 capa1), (2, .pointer (some ⟨b1, 0, none⟩)), (5, .slice A23 y22.length c24), (7, .pointer (some ⟨b17, 0, none⟩)), (13, .slice A4 t3.length c5), (14, .int .i64 (t3.length : Int)), (15, .int .i64 y12), (19, .slice A18 ([false, true] : List Bool).length (([false, true] : List Bool).length)), (20, .int .i64 (([false, true] : List Bool).length : Int)), (21, .int .i64 (IntKind.i64.wrap (y25 + 1)))]) ⟨Z, Z, Z, Z, Z, Z, Z, Z, Z, Z, trivial⟩ (Nat.lt_succ_self _) ⟨y22, (IntKind.i64.wrap (y25 + 1)), A23, c24, Z, hS.pick [0, 1, 2, 3, 4] [] Z, H⟩
              · replace H := pifb_f hb H
                refine OJ.pures oU 4 Z (OJ.nil (EJ.next ?_))
                refine CJ.condF Z ?_
                refine CJ.skip (EJ.blk (EJ.next ?_))
                refine CJ.region ?_
                refine OJ.pures oU 2 Z ?_
                refine OJ.nil ?_
                exact EJ.round k (F' := [(1, .func (.func na1) fsa1 capa1), (2, .pointer (some ⟨b1, 0, none⟩)), (5, .slice A23 y22.length c24), (7, .pointer (some ⟨b17, 0, none⟩)), (13, .slice A4 t3.length c5), (14, .int .i64 (t3.length : Int)), (15, .int .i64 y12), (19, .slice A18 ([false, true] : List Bool).length (([false, true] : List Bool).length)), (20, .int .i64 (([false, true] : List Bool).length : Int)), (21, .int .i64 (IntKind.i64.wrap (y25 + 1)))]) ⟨Z, Z, Z, Z, Z, Z, Z, Z, Z, Z, trivial⟩ (Nat.lt_succ_self _) ⟨y22, (IntKind.i64.wrap (y25 + 1)), A23, c24, Z, hS.pick [0, 1, 2, 3, 4] [] Z, H⟩
            · replace H := pif_f (of_decide_eq_false hb) H
              refine CJ.exit (EJ.skE (EJ.skE (EJ.hit (?_))))
              exact EJ.meet (F' := [(1, .func (.func na1) fsa1 capa1), (2, .pointer (some ⟨b1, 0, none⟩)), (5, .slice A23 y22.length c24), (13, .slice A4 t3.length c5), (14, .int .i64 (t3.length : Int)), (15, .int .i64 y12)]) ⟨Z, Z, Z, Z, Z, Z, trivial⟩ ⟨y22, A23, c24, H, Z, hS.pick [0, 1, 2] [] Z⟩
        · rintro F w1 ⟨y19, A20, c21, he, rfl, hS⟩
          obtain rfl := Option.some.inj he
          have H := K197
          refine EJ.blk (?_)
          exact EJ.meet (F' := [(1, .func (.func na1) fsa1 capa1), (2, .pointer (some ⟨b1, 0, none⟩)), (5, .slice A20 y19.length c21), (13, .slice A4 t3.length c5), (14, .int .i64 (t3.length : Int)), (15, .int .i64 y12)]) ⟨Z, Z, Z, Z, Z, Z, trivial⟩ ⟨y19, A20, c21, H, Z, hS.pick [0, 1, 2] [] Z⟩
      · rintro F w1 ⟨y13, A14, c15, he, rfl, hS⟩
        obtain rfl := Option.some.inj he
        have H := K195
        refine CJ.region ?_
        refine OJ.pures oU 2 Z ?_
        refine OJ.nil ?_
        exact EJ.round k (F' := [(1, .func (.func na1) fsa1 capa1), (2, .pointer (some ⟨b1, 0, none⟩)), (5, .slice A14 y13.length c15), (13, .slice A4 t3.length c5), (14, .int .i64 (t3.length : Int)), (15, .int .i64 (IntKind.i64.wrap (y12 + 1)))]) ⟨Z, Z, Z, Z, Z, Z, trivial⟩ (Nat.lt_succ_self _) ⟨y13, (IntKind.i64.wrap (y12 + 1)), A14, c15, Z, hS.pick [0, 1, 2] [] Z, H⟩
    · replace H := pif_f (of_decide_eq_false hb) H
      refine CJ.exit (EJ.skE (EJ.skE (EJ.hit (?_))))
      exact EJ.meet (F' := [(5, .slice A10 y9.length c11)]) ⟨Z, trivial⟩ ⟨y9, A10, c11, H, Z, hS.pick [1] [] Z⟩
 rintro F w1 ⟨y6, A7, c8, he, rfl, hS⟩
 obtain rfl := Option.some.inj he
 have H := K188
 refine EJ.next ?_
 refine CJ.seq (CJ.region ?_)
 refine OJ.pures oU 2 Z (OJ.nil (EJ.next ?_))
 refine CJ.ret (?_)
 obtain rfl := Option.some.inj H
 exact EJ.fin Z (.tmp Z .nil) ⟨A7, c8, Z, hS.pick [0] [] Z⟩

def impl_Pasture_stands.f (a0 : Pasture) (a1 : Hurdle) : Option Bool := if a1.South = true then ((getI a0.South.l a1.At.Y).bind fun t3 => (chk (0 ≤ a1.At.X)).bind fun u4 => some (decide ((andI .u16 (shrI .u16 t3 a1.At.X) 1) = 1))) else ((getI a0.East.l a1.At.Y).bind fun t5 => (chk (0 ≤ a1.At.X)).bind fun u6 => some (decide ((andI .u16 (shrI .u16 t5 a1.At.X) 1) = 1)))
theorem impl_Pasture_stands.c (w : World) (a0 : Pasture) (a1 : Hurdle) (r : Bool) (H : impl_Pasture_stands.f a0 a1 = some r) :
 CV Tryz.prog 45 [.agg (cPasture.enc a0).toArray, .agg (cHurdle.enc a1).toArray].toArray w fun v w' => v = .bool r ∧ Ext w w' := by
 have hS := (St.init w no)
 unfold impl_Pasture_stands.f at H
 refine CV.body Tryz.func45 Z Tryz.ntmps45 Z ?_
 refine CJ.seq (CJ.region ?_)
 refine OJ.ef Z Z Z (Ef.box hS Z Z (cPasture.enc a0) Z) ?_
 rintro _ w1 ⟨b1, rfl, hS⟩
 refine OJ.ef Z Z Z (Ef.box hS Z Z (cHurdle.enc a1) Z) ?_
 rintro _ w1 ⟨b2, rfl, hS⟩
 refine OJ.pures oU 1 Z (OJ.nil (EJ.next ?_))
 refine CJ.seq ?_
 refine CJ.seq (CJ.region ?_)
 refine OJ.st Z Z Z (SR.fieldAddr oU oI Z Z Z Z Z Z) ?_
 refine OJ.st Z Z Z (SR.load Z Z (fun w' hx => ld1 oU Z Z (CA.ext (CA.sub (hS.cells (i := 1) Z) 2) hx) Z)) ?_
 refine OJ.nil (EJ.next ?_)
 refine CJ.cond Z (fun hb => ?_) (fun hb => ?_)
 ·replace H := pif_t hb H
  refine CJ.seq ?_
  refine CJ.draw [] [0, 1, 2, 3, 4, 5, 6, 7, 8, 9, 10, 11, 12] mixed (by kernel_rfl) hS fun w1 hS => ?_
  refine DJ.st Z Z Z Z Z (SR.fieldAddr oU oI Z Z Z Z Z Z) ?_
  refine DJ.st Z Z Z Z Z (SR.fieldAddr oU oI Z Z Z Z Z Z) ?_
  refine DJ.st Z Z Z Z Z (SR.load Z Z (fun w' hx => ld1 oU Z Z (CA.ext (CA.sub (CA.sub (hS.cells (i := 1) Z) 0) 1) hx) Z)) ?_
  refine DJ.st Z Z Z Z Z (SR.fieldAddr oU oI Z Z Z Z Z Z) ?_
  obtain ⟨t3, ht3, H⟩ := pbind H
  refine DJ.st Z Z Z Z Z (SR.idxA oU oI Z Z Z Z Z (Arr.lt ht3)) ?_
  refine DJ.st Z Z Z Z Z (SR.load Z Z (fun w' hx => ld1 oU Z Z (CA.ext (CA.idx (CA.fld (hS.cells (i := 0) Z) (mid_part (fe_Pasture_4 _) (fl_Pasture_4 _) ((carr 10 (ci .u16)).len _))) ht3) hx) Z)) ?_
  refine DJ.st Z Z Z Z Z (SR.fieldAddr oU oI Z Z Z Z Z Z) ?_
  refine DJ.st Z Z Z Z Z (SR.fieldAddr oU oI Z Z Z Z Z Z) ?_
  refine DJ.st Z Z Z Z Z (SR.load Z Z (fun w' hx => ld1 oU Z Z (CA.ext (CA.sub (CA.sub (hS.cells (i := 1) Z) 0) 0) hx) Z)) ?_
  obtain ⟨u4, hu4, H⟩ := pbind H
  refine DJ.st Z Z Z Z Z (SR.shr Z Z Z (chk_some hu4)) ?_
  refine DJ.pures oU 3 Z ?_
  refine DJ.nil (EJ.next ?_)
  refine CJ.ret (EJ.skR (?_))
  obtain rfl := Option.some.inj H
  exact EJ.fin Z (.tmp Z .nil) ⟨Z, hS.ext⟩
 replace H := pifb_f hb H
 refine CJ.skip (EJ.next ?_)
 refine CJ.seq ?_
 refine CJ.draw [] [0, 1, 2, 3, 4, 5, 6, 7, 8, 9, 10, 11, 12] mixed (by kernel_rfl) hS fun w1 hS => ?_
 refine DJ.st Z Z Z Z Z (SR.fieldAddr oU oI Z Z Z Z Z Z) ?_
 refine DJ.st Z Z Z Z Z (SR.fieldAddr oU oI Z Z Z Z Z Z) ?_
 refine DJ.st Z Z Z Z Z (SR.load Z Z (fun w' hx => ld1 oU Z Z (CA.ext (CA.sub (CA.sub (hS.cells (i := 1) Z) 0) 1) hx) Z)) ?_
 refine DJ.st Z Z Z Z Z (SR.fieldAddr oU oI Z Z Z Z Z Z) ?_
 obtain ⟨t5, ht5, H⟩ := pbind H
 refine DJ.st Z Z Z Z Z (SR.idxA oU oI Z Z Z Z Z (Arr.lt ht5)) ?_
 refine DJ.st Z Z Z Z Z (SR.load Z Z (fun w' hx => ld1 oU Z Z (CA.ext (CA.idx (CA.fld (hS.cells (i := 0) Z) (mid_part (fe_Pasture_3 _) (fl_Pasture_3 _) ((carr 10 (ci .u16)).len _))) ht5) hx) Z)) ?_
 refine DJ.st Z Z Z Z Z (SR.fieldAddr oU oI Z Z Z Z Z Z) ?_
 refine DJ.st Z Z Z Z Z (SR.fieldAddr oU oI Z Z Z Z Z Z) ?_
 refine DJ.st Z Z Z Z Z (SR.load Z Z (fun w' hx => ld1 oU Z Z (CA.ext (CA.sub (CA.sub (hS.cells (i := 1) Z) 0) 0) hx) Z)) ?_
 obtain ⟨u6, hu6, H⟩ := pbind H
 refine DJ.st Z Z Z Z Z (SR.shr Z Z Z (chk_some hu6)) ?_
 refine DJ.pures oU 3 Z ?_
 refine DJ.nil (EJ.next ?_)
 refine CJ.ret (?_)
 obtain rfl := Option.some.inj H
 exact EJ.fin Z (.tmp Z .nil) ⟨Z, hS.ext⟩

def impl_Pasture_hurdles.f (k : Nat) (a0 : Pasture) : Option (List Hurdle) := (impl_Pasture_sides.f k a0 (impl_Pasture_stands.f a0)).bind fun t2 => some t2
theorem impl_Pasture_hurdles.c (k : Nat) (w : World) (a0 : Pasture) (r : List Hurdle) (H : impl_Pasture_hurdles.f k a0 = some r) :
 CV Tryz.prog 30 [.agg (cPasture.enc a0).toArray].toArray w fun v w' => ∃ (A0 : Option Addr) (c0 : Nat), v = .slice A0 r.length c0 ∧ St w no w' [rowC cHurdle A0 c0 48 r] [] := by
 have hS := (St.init w no)
 unfold impl_Pasture_hurdles.f at H
 refine CV.body Tryz.func30 Z Tryz.ntmps30 Z ?_
 refine CJ.seq (CJ.region ?_)
 refine OJ.ef Z Z Z (Ef.box hS Z Z (cPasture.enc a0) Z) ?_
 rintro _ w1 ⟨b1, rfl, hS⟩
 refine OJ.pures oU 1 Z (OJ.nil (EJ.next ?_))
 refine CJ.seq (CJ.region ?_)
 refine OJ.st Z Z Z (SR.load Z Z (fun w' hx => ldE oU oI Z Z Z (CA.ext (hS.cells (i := 0) Z) hx) Z)) ?_
 refine OJ.st Z Z Z (SR.load Z Z (fun w' hx => ldE oU oI Z Z Z (CA.ext (hS.cells (i := 0) Z) hx) Z)) ?_
 refine OJ.pures oU 1 Z ?_
 obtain ⟨t2, ht2, H⟩ := pbind H
 refine OJ.callF rfl rfl rfl rfl rfl hb43 rfl (impl_Pasture_sides.c k _ a0 45 #[.agg (cPasture.enc a0).toArray] #[] hb45 (impl_Pasture_stands.f a0) (fun z0 r h w' hx => CV.cast (impl_Pasture_stands.c w'  a0 z0 r h) (by simp)) _ ht2) ?_
 rintro _ w1 ⟨A3, c4, rfl, hs⟩
 replace hS := hS.addN hs
 refine OJ.pures oU 1 Z (OJ.nil (EJ.next ?_))
 refine CJ.ret (?_)
 obtain rfl := Option.some.inj H
 exact EJ.fin Z (.tmp Z .nil) ⟨A3, c4, Z, hS.pick [1] [] Z⟩

def slices_Clone_impl_Spot_impl_Spot.f (a0 : List Spot) : Option (List Spot) := (chk (([] : List Spot).length + a0.length ≤ 4294967296)).bind fun _ => some a0
theorem slices_Clone_impl_Spot_impl_Spot.c (w : World) (A : Option Addr) (c : Nat) (a0 : List Spot) (hr0 : Rd cSpot w A a0) (hc0 : a0.length ≤ c) (r : List Spot) (H : slices_Clone_impl_Spot_impl_Spot.f a0 = some r) :
 CV Tryz.prog 55 [.slice A a0.length c].toArray w fun v w' => ∃ (A0 : Option Addr) (c0 : Nat), v = .slice A0 r.length c0 ∧ St w no w' [rowC cSpot A0 c0 45 r] [] := by
 have hS := ((St.init w no).param cSpot A c a0 hr0 hc0)
 obtain ⟨u, hu, H⟩ := pbind H
 obtain rfl := Option.some.inj H
 refine CV.body Tryz.func55 Z Tryz.ntmps55 Z ?_
 refine CJ.seq (CJ.region ?_)
 refine OJ.pures oU 1 Z (OJ.nil (EJ.next ?_))
 refine CJ.seq ?_
 refine CJ.seq (CJ.region ?_)
 refine OJ.pures oU 1 Z ?_
 refine OJ.st Z Z Z (SR.eqNil oU Z Z Z Z) ?_
 refine OJ.nil (EJ.next ?_)
 refine CJ.cond Z (fun hb => ?_) (fun hb => ?_)
 ·obtain rfl := hr0.isNone hb
  refine CJ.seq (CJ.region ?_)
  refine OJ.pures oU 1 Z (OJ.nil (EJ.next ?_))
  refine CJ.ret (EJ.skR ?_)
  replace hS := hS.addNil cSpot 45 none
  exact EJ.fin Z (.tmp Z .nil) ⟨none, 0, Z, hS.pick [0] [] Z⟩
 refine CJ.skip (EJ.next ?_)
 refine CJ.seq (CJ.region ?_)
 refine OJ.ef Z Z Z (Ef.lit oU oI hS (C := cSpot) Z Z Z Z Z Z ([] : List Spot) Z Z Z Z) ?_
 rintro _ w1 ⟨A1, rfl, hS⟩
 refine OJ.pures oU 1 Z ?_
 refine OJ.ew Z Z Z (Ew.append oU oI (C := cSpot) (xs := ([] : List Spot)) (ys := a0) hS (i := 0) Z Z Z Z Z Z Z Z Z Z Z Z Z (hS.rd' (i := 0) Z) (chk_some hu)) ?_
 rintro _ w1 ⟨A2, c2, rfl, hS⟩
 refine OJ.pures oU 1 Z (OJ.nil (EJ.next ?_))
 exact CJ.ret (EJ.fin Z (.tmp Z .nil) ⟨A2, c2, Z, hS.pick [0] [] Z⟩)

def impl_hurdleAt.f (a0 : Spot) (a1 : Int) : Option Hurdle := (if a1 = 0 then (some true) else (some (decide (a1 = 3)))).bind fun y3 => if y3 = true then ((impl_Spot_ahead.f a0 a1).bind fun t4 => if a1 = 0 then (some (⟨t4, true⟩ : Hurdle)) else (some (⟨t4, decide (a1 = 2)⟩ : Hurdle))) else (if a1 = 0 then (some (⟨a0, true⟩ : Hurdle)) else (some (⟨a0, decide (a1 = 2)⟩ : Hurdle)))
theorem impl_hurdleAt.c (w : World) (a0 : Spot) (a1 : Int) (r : Hurdle) (H : impl_hurdleAt.f a0 a1 = some r) :
 CV Tryz.prog 85 [.agg (cSpot.enc a0).toArray, .int .i64 a1].toArray w fun v w' => v = .agg (cHurdle.enc r).toArray ∧ Ext w w' := by
 have hS := (St.init w no)
 unfold impl_hurdleAt.f at H
 refine CV.body Tryz.func85 Z Tryz.ntmps85 Z ?_
 refine CJ.seq (CJ.region ?_)
 refine OJ.ef Z Z Z (Ef.box hS Z Z (cSpot.enc a0) Z) ?_
 rintro _ w1 ⟨b1, rfl, hS⟩
 refine OJ.ef Z Z Z (Ef.alloc hS oI Z Z (cHurdle.enc (⟨(⟨0, 0⟩ : Spot), false⟩ : Hurdle)) Z) ?_
 rintro _ w1 ⟨b2, rfl, hS⟩
 refine OJ.nil (EJ.next ?_)
 refine CJ.seq ?_
 obtain ⟨j214, H, K214⟩ := pbind H
 refine CJ.cut (fun F w1 => ∃ (y3 : Bool) , (some y3 : Option Bool) = some j214 ∧ F = [(1, .int .i64 a1), (2, .pointer (some ⟨b1, 0, none⟩)), (4, .pointer (some ⟨b2, 0, none⟩)), (10, .bool y3)] ∧ St w no w1 [box b1 (cSpot.enc a0) 45, box b2 (cHurdle.enc (⟨(⟨0, 0⟩ : Spot), false⟩ : Hurdle)) 48] []) ?_ ?_
 ·skip
  refine CJ.region ?_
  refine OJ.pures oU 3 Z ?_
  refine OJ.split (t := 7) Z (fun hb => ?_) (fun hb => ?_)
  ·replace H := pif_t (of_decide_eq_true hb) H
   refine OJ.pures oU 3 Z ?_
   refine OJ.nil ?_
   exact EJ.meet (F' := [(1, .int .i64 a1), (2, .pointer (some ⟨b1, 0, none⟩)), (4, .pointer (some ⟨b2, 0, none⟩)), (10, .bool true)]) ⟨Z, Z, Z, Z, trivial⟩ ⟨true, H, Z, hS.pick [0, 1] [] Z⟩
  replace H := pif_f (of_decide_eq_false hb) H
  refine OJ.pures oU 3 Z ?_
  refine OJ.nil ?_
  exact EJ.meet (F' := [(1, .int .i64 a1), (2, .pointer (some ⟨b1, 0, none⟩)), (4, .pointer (some ⟨b2, 0, none⟩)), (10, .bool (decide (a1 = 3)))]) ⟨Z, Z, Z, Z, trivial⟩ ⟨(decide (a1 = 3)), H, Z, hS.pick [0, 1] [] Z⟩
 rintro F w1 ⟨y3, he, rfl, hS⟩
 obtain rfl := Option.some.inj he
 have H := K214
 refine CJ.cond Z (fun hb => ?_) (fun hb => ?_)
 ·replace H := pif_t hb H
  refine CJ.region ?_
  refine OJ.st Z Z Z (SR.load Z Z (fun w' hx => ldE oU oI Z Z Z (CA.ext (hS.cells (i := 0) Z) hx) Z)) ?_
  refine OJ.pures oU 1 Z ?_
  obtain ⟨t4, ht4, H⟩ := pbind H
  refine OJ.callF Z Z Z Z Z hb69 Z (impl_Spot_ahead.c _ a0 a1 _ ht4) ?_
  rintro _ w1 ⟨rfl, hs⟩
  replace hS := hS.grow hs
  refine OJ.es Z Z (Es.store oI hS (i := 0) Z Z Z Z Z Z (vs := cSpot.enc t4) Z (cSpot.len _) (cSpot.one _) (Nat.le_of_ble_eq_true Z) (cSpot.enc t4) Z) ?_
  intro w1 hS
  refine OJ.nil (EJ.next ?_)
  refine CJ.seq (CJ.region ?_)
  refine OJ.st Z Z Z (SR.load Z Z (fun w' hx => ldE oU oI Z Z Z (CA.ext (hS.cells (i := 0) Z) hx) Z)) ?_
  refine OJ.pures oU 3 Z ?_
  refine OJ.split (t := 17) Z (fun hb => ?_) (fun hb => ?_)
  ·replace H := pif_t (of_decide_eq_true hb) H
   refine OJ.pures oU 3 Z ?_
   refine OJ.st Z Z Z (SR.build (C := cHurdle) oU oI Z Z Z (zs := [.int .i8 0, .int .i8 0, .bool false]) Z Z Z (⟨t4, true⟩ : Hurdle) Z) ?_
   refine OJ.es Z Z (Es.store oI hS (i := 1) Z Z Z Z Z Z (vs := cHurdle.enc (⟨t4, true⟩ : Hurdle)) Z (cHurdle.len _) (cHurdle.one _) (Nat.le_of_ble_eq_true Z) (cHurdle.enc (⟨t4, true⟩ : Hurdle)) Z) ?_
   intro w1 hS
   refine OJ.nil (EJ.next ?_)
   refine CJ.ret (?_)
   obtain rfl := Option.some.inj H
   exact EJ.fin Z (.cell Z (ldE oU oI Z Z Z (hS.cells (i := 1) Z) Z) .nil) ⟨Z, hS.ext⟩
  replace H := pif_f (of_decide_eq_false hb) H
  refine OJ.pures oU 3 Z ?_
  refine OJ.st Z Z Z (SR.build (C := cHurdle) oU oI Z Z Z (zs := [.int .i8 0, .int .i8 0, .bool false]) Z Z Z (⟨t4, decide (a1 = 2)⟩ : Hurdle) Z) ?_
  refine OJ.es Z Z (Es.store oI hS (i := 1) Z Z Z Z Z Z (vs := cHurdle.enc (⟨t4, decide (a1 = 2)⟩ : Hurdle)) Z (cHurdle.len _) (cHurdle.one _) (Nat.le_of_ble_eq_true Z) (cHurdle.enc (⟨t4, decide (a1 = 2)⟩ : Hurdle)) Z) ?_
  intro w1 hS
  refine OJ.nil (EJ.next ?_)
  refine CJ.ret (?_)
  obtain rfl := Option.some.inj H
  exact EJ.fin Z (.cell Z (ldE oU oI Z Z Z (hS.cells (i := 1) Z) Z) .nil) ⟨Z, hS.ext⟩
 replace H := pifb_f hb H
 refine CJ.skip (EJ.next ?_)
 refine CJ.seq (CJ.region ?_)
 refine OJ.st Z Z Z (SR.load Z Z (fun w' hx => ldE oU oI Z Z Z (CA.ext (hS.cells (i := 0) Z) hx) Z)) ?_
 refine OJ.pures oU 3 Z ?_
 refine OJ.split (t := 17) Z (fun hb => ?_) (fun hb => ?_)
 ·replace H := pif_t (of_decide_eq_true hb) H
  refine OJ.pures oU 3 Z ?_
  refine OJ.st Z Z Z (SR.build (C := cHurdle) oU oI Z Z Z (zs := [.int .i8 0, .int .i8 0, .bool false]) Z Z Z (⟨a0, true⟩ : Hurdle) Z) ?_
  refine OJ.es Z Z (Es.store oI hS (i := 1) Z Z Z Z Z Z (vs := cHurdle.enc (⟨a0, true⟩ : Hurdle)) Z (cHurdle.len _) (cHurdle.one _) (Nat.le_of_ble_eq_true Z) (cHurdle.enc (⟨a0, true⟩ : Hurdle)) Z) ?_
  intro w1 hS
  refine OJ.nil (EJ.next ?_)
  refine CJ.ret (?_)
  obtain rfl := Option.some.inj H
  exact EJ.fin Z (.cell Z (ldE oU oI Z Z Z (hS.cells (i := 1) Z) Z) .nil) ⟨Z, hS.ext⟩
 replace H := pif_f (of_decide_eq_false hb) H
 refine OJ.pures oU 3 Z ?_
 refine OJ.st Z Z Z (SR.build (C := cHurdle) oU oI Z Z Z (zs := [.int .i8 0, .int .i8 0, .bool false]) Z Z Z (⟨a0, decide (a1 = 2)⟩ : Hurdle) Z) ?_
 refine OJ.es Z Z (Es.store oI hS (i := 1) Z Z Z Z Z Z (vs := cHurdle.enc (⟨a0, decide (a1 = 2)⟩ : Hurdle)) Z (cHurdle.len _) (cHurdle.one _) (Nat.le_of_ble_eq_true Z) (cHurdle.enc (⟨a0, decide (a1 = 2)⟩ : Hurdle)) Z) ?_
 intro w1 hS
 refine OJ.nil (EJ.next ?_)
 refine CJ.ret (?_)
 obtain rfl := Option.some.inj H
 exact EJ.fin Z (.cell Z (ldE oU oI Z Z Z (hS.cells (i := 1) Z) Z) .nil) ⟨Z, hS.ext⟩

def impl_Pasture_canGo.f (a0 : Pasture) (a1 : Spot) (a2 : Int) : Option Bool := (impl_Spot_ahead.f a1 a2).bind fun t3 => (impl_Pasture_isCell.f a0 t3).bind fun t4 => if t4 = true then ((impl_hurdleAt.f a1 a2).bind fun t5 => (impl_Pasture_stands.f a0 t5).bind fun t6 => some (!t6)) else (some false)
theorem impl_Pasture_canGo.c (w : World) (a0 : Pasture) (a1 : Spot) (a2 : Int) (r : Bool) (H : impl_Pasture_canGo.f a0 a1 a2 = some r) :
 CV Tryz.prog 70 [.agg (cPasture.enc a0).toArray, .agg (cSpot.enc a1).toArray, .int .i64 a2].toArray w fun v w' => v = .bool r ∧ Ext w w' := by
 have hS := (St.init w no)
 unfold impl_Pasture_canGo.f at H
 refine CV.body Tryz.func70 Z Tryz.ntmps70 Z ?_
 refine CJ.seq (CJ.region ?_)
 refine OJ.ef Z Z Z (Ef.box hS Z Z (cPasture.enc a0) Z) ?_
 rintro _ w1 ⟨b1, rfl, hS⟩
 refine OJ.ef Z Z Z (Ef.box hS Z Z (cSpot.enc a1) Z) ?_
 rintro _ w1 ⟨b2, rfl, hS⟩
 refine OJ.pures oU 1 Z (OJ.nil (EJ.next ?_))
 refine CJ.seq ?_
 refine CJ.draw [] [0, 1, 2, 3, 4, 5, 6, 7, 8, 9, 10, 11, 12, 13] mixed (by kernel_rfl) hS fun w1 hS => ?_
 refine DJ.st Z Z Z Z Z (SR.load Z Z (fun w' hx => ldE oU oI Z Z Z (CA.ext (hS.cells (i := 0) Z) hx) Z)) ?_
 refine DJ.st Z Z Z Z Z (SR.load Z Z (fun w' hx => ldE oU oI Z Z Z (CA.ext (hS.cells (i := 1) Z) hx) Z)) ?_
 refine DJ.pures oU 1 Z ?_
 obtain ⟨t3, ht3, H⟩ := pbind H
 refine DJ.callF rfl rfl rfl rfl rfl rfl rfl hb69 rfl (impl_Spot_ahead.c _ a1 a2 _ ht3) (by rintro v w' ⟨rfl, hs⟩; exact hs) ?_
 rintro _ w1 ⟨rfl, hs⟩
 replace hS := hS.grow hs
 obtain ⟨t4, ht4, H⟩ := pbind H
 refine DJ.callF rfl rfl rfl rfl rfl rfl rfl hb67 rfl (impl_Pasture_isCell.c _ a0 t3 _ ht4) (by rintro v w' ⟨rfl, hs⟩; exact hs) ?_
 rintro _ w1 ⟨rfl, hs⟩
 replace hS := hS.grow hs
 refine DJ.pures oU 1 Z ?_
 refine DJ.split (t := 12) Z (fun hb => ?_) (fun hb => ?_)
 ·replace H := pif_t hb H
  refine DJ.st Z Z Z Z Z (SR.load Z Z (fun w' hx => ldE oU oI Z Z Z (CA.ext (hS.cells (i := 0) Z) hx) Z)) ?_
  refine DJ.st Z Z Z Z Z (SR.load Z Z (fun w' hx => ldE oU oI Z Z Z (CA.ext (hS.cells (i := 1) Z) hx) Z)) ?_
  refine DJ.pures oU 1 Z ?_
  obtain ⟨t5, ht5, H⟩ := pbind H
  refine DJ.callF rfl rfl rfl rfl rfl rfl rfl hb85 rfl (impl_hurdleAt.c _ a1 a2 _ ht5) (by rintro v w' ⟨rfl, hs⟩; exact hs) ?_
  rintro _ w1 ⟨rfl, hs⟩
  replace hS := hS.grow hs
  obtain ⟨t6, ht6, H⟩ := pbind H
  refine DJ.callF rfl rfl rfl rfl rfl rfl rfl hb45 rfl (impl_Pasture_stands.c _ a0 t5 _ ht6) (by rintro v w' ⟨rfl, hs⟩; exact hs) ?_
  rintro _ w1 ⟨rfl, hs⟩
  replace hS := hS.grow hs
  refine DJ.pures oU 3 Z ?_
  refine DJ.nil (EJ.next ?_)
  refine CJ.ret (?_)
  obtain rfl := Option.some.inj H
  exact EJ.fin Z (.tmp Z .nil) ⟨Z, hS.ext⟩
 replace H := pifb_f hb H
 refine DJ.pures oU 8 Z ?_
 refine DJ.nil (EJ.next ?_)
 refine CJ.ret (?_)
 obtain rfl := Option.some.inj H
 exact EJ.fin Z (.tmp Z .nil) ⟨Z, hS.ext⟩

def impl_Pasture_far.l2 (y6 : Int) : Nat → (Arr 10 (Arr 10 Int)) → Int → Option (Arr 10 (Arr 10 Int))
  | 0, _, _ => none
  | k + 1, y9, y10 => if y10 < 10 then ((getI y9.l y6).bind fun t11 => (getI t11.l y10).bind fun t12 => impl_Pasture_far.l2 y6 k (aset y9 y6.toNat (aset t11 y10.toNat (-1))) (IntKind.i64.wrap (y10 + 1))) else (some y9)
def impl_Pasture_far.l1 : Nat → (Arr 10 (Arr 10 Int)) → Int → Option (Arr 10 (Arr 10 Int))
  | 0, _, _ => none
  | k + 1, y5, y6 => if y6 < 10 then (((impl_Pasture_far.l2 y6 k y5 0).bind fun y8 => some y8).bind fun y7 => impl_Pasture_far.l1 k y7 (IntKind.i64.wrap (y6 + 1))) else (some y5)
def impl_Pasture_far.l3 (a1 : List Spot) : Nat → (Arr 10 (Arr 10 Int)) → Int → Option (Arr 10 (Arr 10 Int))
  | 0, _, _ => none
  | k + 1, y14, y15 => if y15 < (a1.length : Int) then ((getI a1 y15).bind fun t16 => (getI y14.l t16.Y).bind fun t18 => (getI t18.l t16.X).bind fun t19 => impl_Pasture_far.l3 a1 k (aset y14 t16.Y.toNat (aset t18 t16.X.toNat 0)) (IntKind.i64.wrap (y15 + 1))) else (some y14)
def impl_Pasture_far.l5 (a0 : Pasture) (t33 : Spot) : Nat → (Arr 10 (Arr 10 Int)) → (List Spot) → Int → Option ((Arr 10 (Arr 10 Int)) × (List Spot))
  | 0, _, _, _ => none
  | k + 1, y39, y40, y43 => if y43 < 4 then ((impl_Spot_ahead.f t33 y43).bind fun t44 => ((impl_Pasture_canGo.f a0 t33 y43).bind fun t47 => if t47 = true then ((getI y39.l t44.Y).bind fun t48 => (getI t48.l t44.X).bind fun t49 => some (decide (t49 < 0))) else (some false)).bind fun y46 => if y46 = true then ((getI y39.l t33.Y).bind fun t50 => (getI t50.l t33.X).bind fun t51 => (getI y39.l t44.Y).bind fun t52 => (getI t52.l t44.X).bind fun t53 => (chk (y40.length + ([t44] : List Spot).length ≤ 4294967296)).bind fun u55 => impl_Pasture_far.l5 a0 t33 k (aset y39 t44.Y.toNat (aset t52 t44.X.toNat (IntKind.i16.wrap (t51 + 1)))) (y40 ++ ([t44] : List Spot)) (IntKind.i64.wrap (y43 + 1))) else (impl_Pasture_far.l5 a0 t33 k y39 y40 (IntKind.i64.wrap (y43 + 1)))) else (some (y39, y40))
def impl_Pasture_far.l4 (a0 : Pasture) : Nat → (Arr 10 (Arr 10 Int)) → (List Spot) → Int → Option (Arr 10 (Arr 10 Int))
  | 0, _, _, _ => none
  | k + 1, y24, y25, y28 => if y28 < (y25.length : Int) then (((getI y25 y28).bind fun t33 => (impl_Pasture_far.l5 a0 t33 k y24 y25 0).bind fun (y35, y36) => some (y35, y36)).bind fun (y29, y30) => impl_Pasture_far.l4 a0 k y29 y30 (IntKind.i64.wrap (y28 + 1))) else (some y24)
def impl_Pasture_far.f (k : Nat) (a0 : Pasture) (a1 : List Spot) : Option (Arr 10 (Arr 10 Int)) := (impl_Pasture_far.l1 k (Arr.mk' (Arr.mk' 0 : Arr 10 Int) : Arr 10 (Arr 10 Int)) 0).bind fun y4 => (impl_Pasture_far.l3 a1 k y4 0).bind fun y13 => (slices_Clone_impl_Spot_impl_Spot.f a1).bind fun t20 => (impl_Pasture_far.l4 a0 k y13 t20 0).bind fun y23 => some y23
theorem impl_Pasture_far.c (k : Nat) (w : World) (a0 : Pasture) (Aa1 : Option Addr) (ca1 : Nat) (a1 : List Spot) (hr1 : Rd cSpot w Aa1 a1) (hc1 : a1.length ≤ ca1) (r : Arr 10 (Arr 10 Int)) (H : impl_Pasture_far.f k a0 a1 = some r) :
 CV Tryz.prog 31 [.agg (cPasture.enc a0).toArray, .slice Aa1 a1.length ca1].toArray w fun v w' => v = .agg ((carr 10 (carr 10 (ci .i16))).enc r).toArray ∧ Ext w w' := by
 have hS := ((St.init w no).param cSpot Aa1 ca1 a1 hr1 hc1)
 unfold impl_Pasture_far.f at H
 refine CV.body Tryz.func31 Z Tryz.ntmps31 Z ?_
 refine CJ.seq (CJ.region ?_)
 refine OJ.ef Z Z Z (Ef.box hS Z Z (cPasture.enc a0) Z) ?_
 rintro _ w1 ⟨b1, rfl, hS⟩
 refine OJ.ef rfl rfl rfl (Ef.alloc hS oI rfl rfl ((carr 10 (carr 10 (ci .i16))).enc (Arr.mk' (Arr.mk' 0 : Arr 10 Int) : Arr 10 (Arr 10 Int))) (by kernel_rfl)) ?_
 rintro _ w1 ⟨b2, rfl, hS⟩
 refine OJ.nil (EJ.next ?_)
 refine CJ.seq (CJ.region ?_)
 refine OJ.st rfl rfl rfl (SR.buildA oU oI rfl rfl rfl rfl (zs := [.int .i16 0, .int .i16 0, .int .i16 0, .int .i16 0, .int .i16 0, .int .i16 0, .int .i16 0, .int .i16 0, .int .i16 0, .int .i16 0, .int .i16 0, .int .i16 0, .int .i16 0, .int .i16 0, .int .i16 0, .int .i16 0, .int .i16 0, .int .i16 0, .int .i16 0, .int .i16 0, .int .i16 0, .int .i16 0, .int .i16 0, .int .i16 0, .int .i16 0, .int .i16 0, .int .i16 0, .int .i16 0, .int .i16 0, .int .i16 0, .int .i16 0, .int .i16 0, .int .i16 0, .int .i16 0, .int .i16 0, .int .i16 0, .int .i16 0, .int .i16 0, .int .i16 0, .int .i16 0, .int .i16 0, .int .i16 0, .int .i16 0, .int .i16 0, .int .i16 0, .int .i16 0, .int .i16 0, .int .i16 0, .int .i16 0, .int .i16 0, .int .i16 0, .int .i16 0, .int .i16 0, .int .i16 0, .int .i16 0, .int .i16 0, .int .i16 0, .int .i16 0, .int .i16 0, .int .i16 0, .int .i16 0, .int .i16 0, .int .i16 0, .int .i16 0, .int .i16 0, .int .i16 0, .int .i16 0, .int .i16 0, .int .i16 0, .int .i16 0, .int .i16 0, .int .i16 0, .int .i16 0, .int .i16 0, .int .i16 0, .int .i16 0, .int .i16 0, .int .i16 0, .int .i16 0, .int .i16 0, .int .i16 0, .int .i16 0, .int .i16 0, .int .i16 0, .int .i16 0, .int .i16 0, .int .i16 0, .int .i16 0, .int .i16 0, .int .i16 0, .int .i16 0, .int .i16 0, .int .i16 0, .int .i16 0, .int .i16 0, .int .i16 0, .int .i16 0, .int .i16 0, .int .i16 0, .int .i16 0]) rfl rfl ((carr 10 (carr 10 (ci .i16))).enc (Arr.mk' (Arr.mk' 0 : Arr 10 Int) : Arr 10 (Arr 10 Int))) (by kernel_rfl)) ?_
 refine OJ.ef rfl rfl rfl (Ef.alloc hS oI rfl rfl ((carr 10 (carr 10 (ci .i16))).enc (Arr.mk' (Arr.mk' 0 : Arr 10 Int) : Arr 10 (Arr 10 Int))) (by kernel_rfl)) ?_
 rintro _ w1 ⟨b3, rfl, hS⟩
 refine OJ.es rfl rfl (Es.put oI hS (i := 2) rfl rfl rfl rfl rfl (vs := (carr 10 (carr 10 (ci .i16))).enc (Arr.mk' (Arr.mk' 0 : Arr 10 Int) : Arr 10 (Arr 10 Int))) rfl ((carr 10 (carr 10 (ci .i16))).len _) ((carr 10 (carr 10 (ci .i16))).one _) (Put.all (carr 10 (carr 10 (ci .i16))) (Arr.mk' (Arr.mk' 0 : Arr 10 Int) : Arr 10 (Arr 10 Int)) (Arr.mk' (Arr.mk' 0 : Arr 10 Int) : Arr 10 (Arr 10 Int))) (by (try simp only [add_lit, Nat.add_assoc, Nat.zero_add, Nat.add_zero]) <;> rfl)) ?_
 intro w1 hS
 refine OJ.nil (EJ.next ?_)
 refine CJ.seq ?_
 refine CJ.seq (CJ.region ?_)
 refine OJ.pures oU 1 Z (OJ.nil (EJ.next ?_))
 obtain ⟨j199, H, K199⟩ := pbind H
 refine CJ.cut1 (fun F w1 => ∃ (y4 : Arr 10 (Arr 10 Int)) , (some y4 : Option (Arr 10 (Arr 10 Int))) = some j199 ∧ F = [(1, .slice Aa1 a1.length ca1), (2, .pointer (some ⟨b1, 0, none⟩)), (4, .pointer (some ⟨b2, 0, none⟩)), (5, .pointer (some ⟨b3, 0, none⟩))] ∧ St w no w1 [box b1 (cPasture.enc a0) 31, box b2 ((carr 10 (carr 10 (ci .i16))).enc (Arr.mk' (Arr.mk' 0 : Arr 10 Int) : Arr 10 (Arr 10 Int))) 64, box b3 ((carr 10 (carr 10 (ci .i16))).enc y4) 64] [roC cSpot Aa1 ca1 a1]) ?_ ?_
 ·skip
  refine CJ.block ?_
  refine CJ.loop (fun k F w1 => ∃ (y5 : Arr 10 (Arr 10 Int)) (y6 : Int), F = [(1, .slice Aa1 a1.length ca1), (2, .pointer (some ⟨b1, 0, none⟩)), (4, .pointer (some ⟨b2, 0, none⟩)), (5, .pointer (some ⟨b3, 0, none⟩)), (15, .int .i64 y6)] ∧ St w no w1 [box b1 (cPasture.enc a0) 31, box b2 ((carr 10 (carr 10 (ci .i16))).enc (Arr.mk' (Arr.mk' 0 : Arr 10 Int) : Arr 10 (Arr 10 Int))) 64, box b3 ((carr 10 (carr 10 (ci .i16))).enc y5) 64] [roC cSpot Aa1 ca1 a1] ∧ impl_Pasture_far.l1 k y5 y6 = some j199) k (F' := [(1, .slice Aa1 a1.length ca1), (2, .pointer (some ⟨b1, 0, none⟩)), (4, .pointer (some ⟨b2, 0, none⟩)), (5, .pointer (some ⟨b3, 0, none⟩)), (15, .int .i64 0)]) ⟨Z, Z, Z, Z, Z, trivial⟩ ⟨(Arr.mk' (Arr.mk' 0 : Arr 10 Int) : Arr 10 (Arr 10 Int)), 0, Z, hS.pick [0, 1, 2] [0] Z, H⟩ ?_
  rintro k F w1 ⟨y5, y6, rfl, hS, H⟩
  cases k with
  | zero => rw [impl_Pasture_far.l1] at H; cases H
  | succ k =>
    rw [impl_Pasture_far.l1] at H
    refine CJ.seq (CJ.region ?_)
    refine OJ.pures oU 1 Z (OJ.nil (EJ.next ?_))
    refine CJ.seq ?_
    refine CJ.cond Z (fun hb => ?_) (fun hb => ?_)
    · replace H := pif_t (of_decide_eq_true hb) H
      refine CJ.skip (EJ.next ?_)
      obtain ⟨j206, H, K206⟩ := pbind H
      refine CJ.cut (fun F w1 => ∃ (y7 : Arr 10 (Arr 10 Int)) , (some y7 : Option (Arr 10 (Arr 10 Int))) = some j206 ∧ F = [(1, .slice Aa1 a1.length ca1), (2, .pointer (some ⟨b1, 0, none⟩)), (4, .pointer (some ⟨b2, 0, none⟩)), (5, .pointer (some ⟨b3, 0, none⟩)), (15, .int .i64 y6)] ∧ St w no w1 [box b1 (cPasture.enc a0) 31, box b2 ((carr 10 (carr 10 (ci .i16))).enc (Arr.mk' (Arr.mk' 0 : Arr 10 Int) : Arr 10 (Arr 10 Int))) 64, box b3 ((carr 10 (carr 10 (ci .i16))).enc y7) 64] [roC cSpot Aa1 ca1 a1]) ?_ ?_
      · skip
        refine CJ.block ?_
        refine CJ.seq (CJ.region ?_)
        refine OJ.pures oU 2 Z (OJ.nil (EJ.next ?_))
        refine CJ.seq (CJ.region ?_)
        refine OJ.pures oU 1 Z (OJ.nil (EJ.next ?_))
        obtain ⟨j208, H, K208⟩ := pbind H
        refine CJ.cut1 (fun F w1 => ∃ (y8 : Arr 10 (Arr 10 Int)) , (some y8 : Option (Arr 10 (Arr 10 Int))) = some j208 ∧ F = [(1, .slice Aa1 a1.length ca1), (2, .pointer (some ⟨b1, 0, none⟩)), (4, .pointer (some ⟨b2, 0, none⟩)), (5, .pointer (some ⟨b3, 0, none⟩)), (15, .int .i64 y6)] ∧ St w no w1 [box b1 (cPasture.enc a0) 31, box b2 ((carr 10 (carr 10 (ci .i16))).enc (Arr.mk' (Arr.mk' 0 : Arr 10 Int) : Arr 10 (Arr 10 Int))) 64, box b3 ((carr 10 (carr 10 (ci .i16))).enc y8) 64] [roC cSpot Aa1 ca1 a1]) ?_ ?_
        · skip
          refine CJ.block ?_
          refine CJ.loop (fun k F w1 => ∃ (y9 : Arr 10 (Arr 10 Int)) (y10 : Int), F = [(1, .slice Aa1 a1.length ca1), (2, .pointer (some ⟨b1, 0, none⟩)), (4, .pointer (some ⟨b2, 0, none⟩)), (5, .pointer (some ⟨b3, 0, none⟩)), (6, .int .i64 y6), (15, .int .i64 y6), (18, .int .i64 y10)] ∧ St w no w1 [box b1 (cPasture.enc a0) 31, box b2 ((carr 10 (carr 10 (ci .i16))).enc (Arr.mk' (Arr.mk' 0 : Arr 10 Int) : Arr 10 (Arr 10 Int))) 64, box b3 ((carr 10 (carr 10 (ci .i16))).enc y9) 64] [roC cSpot Aa1 ca1 a1] ∧ impl_Pasture_far.l2 y6 k y9 y10 = some j208) k (F' := [(1, .slice Aa1 a1.length ca1), (2, .pointer (some ⟨b1, 0, none⟩)), (4, .pointer (some ⟨b2, 0, none⟩)), (5, .pointer (some ⟨b3, 0, none⟩)), (6, .int .i64 y6), (15, .int .i64 y6), (18, .int .i64 0)]) ⟨Z, Z, Z, Z, Z, Z, Z, trivial⟩ ⟨y5, 0, Z, hS.pick [0, 1, 2] [0] Z, H⟩ ?_
          rintro k F w1 ⟨y9, y10, rfl, hS, H⟩
          cases k with
          | zero => rw [impl_Pasture_far.l2] at H; cases H
          | succ k =>
            rw [impl_Pasture_far.l2] at H
            refine CJ.seq (CJ.region ?_)
            refine OJ.pures oU 1 Z (OJ.nil (EJ.next ?_))
            refine CJ.seq ?_
            refine CJ.cond Z (fun hb => ?_) (fun hb => ?_)
            · replace H := pif_t (of_decide_eq_true hb) H
              refine CJ.skip (EJ.next ?_)
              refine CJ.seq ?_
              refine CJ.block ?_
              refine CJ.seq (CJ.region ?_)
              refine OJ.pures oU 2 Z (OJ.nil (EJ.next ?_))
              refine CJ.region ?_
              refine OJ.pures oU 2 Z ?_
              obtain ⟨t11, ht11, H⟩ := pbind H
              refine OJ.st Z Z Z (SR.idxA oU oI Z Z Z Z Z (Arr.lt ht11)) ?_
              obtain ⟨t12, ht12, H⟩ := pbind H
              refine OJ.st Z Z Z (SR.idxA oU oI Z Z Z Z Z (Arr.lt ht12)) ?_
              refine OJ.es rfl rfl (Es.put oI hS (i := 2) rfl rfl rfl rfl rfl (vs := (ci .i16).enc (-1)) rfl rfl (one1 rfl) (Put.idx (Put.idx (Put.all (ci .i16) t12 (-1)) ht12) ht11) (by (try simp only [add_lit, Nat.add_assoc, Nat.zero_add, Nat.add_zero]) <;> rfl)) ?_
              intro w1 hS
              refine OJ.nil (EJ.blk (EJ.next ?_))
              refine CJ.region ?_
              refine OJ.pures oU 2 Z ?_
              refine OJ.nil ?_
              exact EJ.round k (F' := [(1, .slice Aa1 a1.length ca1), (2, .pointer (some ⟨b1, 0, none⟩)), (4, .pointer (some ⟨b2, 0, none⟩)), (5, .pointer (some ⟨b3, 0, none⟩)), (6, .int .i64 y6), (15, .int .i64 y6), (18, .int .i64 (IntKind.i64.wrap (y10 + 1)))]) ⟨Z, Z, Z, Z, Z, Z, Z, trivial⟩ (Nat.lt_succ_self _) ⟨(aset y9 y6.toNat (aset t11 y10.toNat (-1))), (IntKind.i64.wrap (y10 + 1)), Z, hS.pick [0, 1, 2] [0] Z, H⟩
            · replace H := pif_f (of_decide_eq_false hb) H
              refine CJ.exit (EJ.skE (EJ.skE (EJ.hit (?_))))
              exact EJ.meet (F' := [(1, .slice Aa1 a1.length ca1), (2, .pointer (some ⟨b1, 0, none⟩)), (4, .pointer (some ⟨b2, 0, none⟩)), (5, .pointer (some ⟨b3, 0, none⟩)), (15, .int .i64 y6)]) ⟨Z, Z, Z, Z, Z, trivial⟩ ⟨y9, H, Z, hS.pick [0, 1, 2] [0] Z⟩
        · rintro F w1 ⟨y8, he, rfl, hS⟩
          obtain rfl := Option.some.inj he
          have H := K208
          refine EJ.blk (?_)
          exact EJ.meet (F' := [(1, .slice Aa1 a1.length ca1), (2, .pointer (some ⟨b1, 0, none⟩)), (4, .pointer (some ⟨b2, 0, none⟩)), (5, .pointer (some ⟨b3, 0, none⟩)), (15, .int .i64 y6)]) ⟨Z, Z, Z, Z, Z, trivial⟩ ⟨y8, H, Z, hS.pick [0, 1, 2] [0] Z⟩
      · rintro F w1 ⟨y7, he, rfl, hS⟩
        obtain rfl := Option.some.inj he
        have H := K206
        refine CJ.region ?_
        refine OJ.pures oU 2 Z ?_
        refine OJ.nil ?_
        exact EJ.round k (F' := [(1, .slice Aa1 a1.length ca1), (2, .pointer (some ⟨b1, 0, none⟩)), (4, .pointer (some ⟨b2, 0, none⟩)), (5, .pointer (some ⟨b3, 0, none⟩)), (15, .int .i64 (IntKind.i64.wrap (y6 + 1)))]) ⟨Z, Z, Z, Z, Z, trivial⟩ (Nat.lt_succ_self _) ⟨y7, (IntKind.i64.wrap (y6 + 1)), Z, hS.pick [0, 1, 2] [0] Z, H⟩
    · replace H := pif_f (of_decide_eq_false hb) H
      refine CJ.exit (EJ.skE (EJ.skE (EJ.hit (?_))))
      exact EJ.meet (F' := [(1, .slice Aa1 a1.length ca1), (2, .pointer (some ⟨b1, 0, none⟩)), (4, .pointer (some ⟨b2, 0, none⟩)), (5, .pointer (some ⟨b3, 0, none⟩))]) ⟨Z, Z, Z, Z, trivial⟩ ⟨y5, H, Z, hS.pick [0, 1, 2] [0] Z⟩
 rintro F w1 ⟨y4, he, rfl, hS⟩
 obtain rfl := Option.some.inj he
 have H := K199
 refine EJ.next ?_
 refine CJ.seq ?_
 refine CJ.seq (CJ.region ?_)
 refine OJ.pures oU 3 Z (OJ.nil (EJ.next ?_))
 obtain ⟨j209, H, K209⟩ := pbind H
 refine CJ.cut1 (fun F w1 => ∃ (y13 : Arr 10 (Arr 10 Int)) , (some y13 : Option (Arr 10 (Arr 10 Int))) = some j209 ∧ F = [(1, .slice Aa1 a1.length ca1), (2, .pointer (some ⟨b1, 0, none⟩)), (4, .pointer (some ⟨b2, 0, none⟩)), (5, .pointer (some ⟨b3, 0, none⟩))] ∧ St w no w1 [box b1 (cPasture.enc a0) 31, box b2 ((carr 10 (carr 10 (ci .i16))).enc (Arr.mk' (Arr.mk' 0 : Arr 10 Int) : Arr 10 (Arr 10 Int))) 64, box b3 ((carr 10 (carr 10 (ci .i16))).enc y13) 64] [roC cSpot Aa1 ca1 a1]) ?_ ?_
 ·skip
  refine CJ.block ?_
  refine CJ.loop (fun k F w1 => ∃ (y14 : Arr 10 (Arr 10 Int)) (y15 : Int), F = [(1, .slice Aa1 a1.length ca1), (2, .pointer (some ⟨b1, 0, none⟩)), (4, .pointer (some ⟨b2, 0, none⟩)), (5, .pointer (some ⟨b3, 0, none⟩)), (27, .slice Aa1 a1.length ca1), (28, .int .i64 (a1.length : Int)), (29, .int .i64 y15)] ∧ St w no w1 [box b1 (cPasture.enc a0) 31, box b2 ((carr 10 (carr 10 (ci .i16))).enc (Arr.mk' (Arr.mk' 0 : Arr 10 Int) : Arr 10 (Arr 10 Int))) 64, box b3 ((carr 10 (carr 10 (ci .i16))).enc y14) 64] [roC cSpot Aa1 ca1 a1] ∧ impl_Pasture_far.l3 a1 k y14 y15 = some j209) k (F' := [(1, .slice Aa1 a1.length ca1), (2, .pointer (some ⟨b1, 0, none⟩)), (4, .pointer (some ⟨b2, 0, none⟩)), (5, .pointer (some ⟨b3, 0, none⟩)), (27, .slice Aa1 a1.length ca1), (28, .int .i64 (a1.length : Int)), (29, .int .i64 0)]) ⟨Z, Z, Z, Z, Z, Z, Z, trivial⟩ ⟨y4, 0, Z, hS.pick [0, 1, 2] [0] Z, H⟩ ?_
  rintro k F w1 ⟨y14, y15, rfl, hS, H⟩
  cases k with
  | zero => rw [impl_Pasture_far.l3] at H; cases H
  | succ k =>
    rw [impl_Pasture_far.l3] at H
    refine CJ.seq (CJ.region ?_)
    refine OJ.pures oU 1 Z (OJ.nil (EJ.next ?_))
    refine CJ.seq ?_
    refine CJ.cond Z (fun hb => ?_) (fun hb => ?_)
    · replace H := pif_t (of_decide_eq_true hb) H
      refine CJ.skip (EJ.next ?_)
      refine CJ.seq ?_
      refine CJ.block ?_
      refine CJ.seq (CJ.region ?_)
      obtain ⟨t16, ht16, H⟩ := pbind H
      obtain ⟨ad16, e16⟩ := (hS.rd' (i := 0) rfl).some' ht16
      refine OJ.st Z Z Z (SR.idxS oU oI Z Z Z Z e16 Z (getI_some ht16).1) ?_
      refine OJ.st Z Z Z (SR.load Z Z (fun w' hx => ldE oU oI Z Z Z (CA.ext ((hS.rd' (i := 0) Z).at_ e16 ht16) hx) Z)) ?_
      refine OJ.ef Z Z Z (Ef.alloc hS oI Z Z (cSpot.enc (⟨0, 0⟩ : Spot)) Z) ?_
      rintro _ w1 ⟨b17, rfl, hS⟩
      refine OJ.es Z Z (Es.store oI hS (i := 3) Z Z Z Z Z Z (vs := cSpot.enc t16) Z (cSpot.len _) (cSpot.one _) (Nat.le_of_ble_eq_true Z) (cSpot.enc t16) Z) ?_
      intro w1 hS
      refine OJ.nil (EJ.next ?_)
      refine CJ.draw [] [0, 1, 2, 3, 4, 5, 6] mixed (by kernel_rfl) hS fun w1 hS => ?_
      refine DJ.st Z Z Z Z Z (SR.fieldAddr oU oI Z Z Z Z Z Z) ?_
      refine DJ.st Z Z Z Z Z (SR.load Z Z (fun w' hx => ld1 oU Z Z (CA.ext (CA.sub (hS.cells (i := 3) Z) 1) hx) Z)) ?_
      refine DJ.st Z Z Z Z Z (SR.fieldAddr oU oI Z Z Z Z Z Z) ?_
      refine DJ.st Z Z Z Z Z (SR.load Z Z (fun w' hx => ld1 oU Z Z (CA.ext (CA.sub (hS.cells (i := 3) Z) 0) hx) Z)) ?_
      obtain ⟨t18, ht18, H⟩ := pbind H
      refine DJ.st Z Z Z Z Z (SR.idxA oU oI Z Z Z Z Z (Arr.lt ht18)) ?_
      obtain ⟨t19, ht19, H⟩ := pbind H
      refine DJ.st Z Z Z Z Z (SR.idxA oU oI Z Z Z Z Z (Arr.lt ht19)) ?_
      refine DJ.es rfl rfl rfl rfl (Es.put oI hS (i := 2) rfl rfl rfl rfl rfl (vs := (ci .i16).enc 0) rfl rfl (one1 rfl) (Put.idx (Put.idx (Put.all (ci .i16) t19 0) ht19) ht18) (by (try simp only [add_lit, Nat.add_assoc, Nat.zero_add, Nat.add_zero]) <;> rfl)) ?_
      intro w1 hS
      refine DJ.nil (EJ.blk (EJ.next ?_))
      refine CJ.region ?_
      refine OJ.pures oU 2 Z ?_
      refine OJ.nil ?_
      exact EJ.round k (F' := [(1, .slice Aa1 a1.length ca1), (2, .pointer (some ⟨b1, 0, none⟩)), (4, .pointer (some ⟨b2, 0, none⟩)), (5, .pointer (some ⟨b3, 0, none⟩)), (27, .slice Aa1 a1.length ca1), (28, .int .i64 (a1.length : Int)), (29, .int .i64 (IntKind.i64.wrap (y15 + 1)))]) ⟨Z, Z, Z, Z, Z, Z, Z, trivial⟩ (Nat.lt_succ_self _) ⟨(aset y14 t16.Y.toNat (aset t18 t16.X.toNat 0)), (IntKind.i64.wrap (y15 + 1)), Z, hS.pick [0, 1, 2] [0] Z, H⟩
    · replace H := pif_f (of_decide_eq_false hb) H
      refine CJ.exit (EJ.skE (EJ.skE (EJ.hit (?_))))
      exact EJ.meet (F' := [(1, .slice Aa1 a1.length ca1), (2, .pointer (some ⟨b1, 0, none⟩)), (4, .pointer (some ⟨b2, 0, none⟩)), (5, .pointer (some ⟨b3, 0, none⟩))]) ⟨Z, Z, Z, Z, trivial⟩ ⟨y14, H, Z, hS.pick [0, 1, 2] [0] Z⟩
 rintro F w1 ⟨y13, he, rfl, hS⟩
 obtain rfl := Option.some.inj he
 have H := K209
 refine EJ.next ?_
 refine CJ.seq (CJ.region ?_)
 refine OJ.pures oU 1 Z ?_
 obtain ⟨t20, ht20, H⟩ := pbind H
 refine OJ.callF Z Z Z Z Z hb55 Z (slices_Clone_impl_Spot_impl_Spot.c _ Aa1 ca1 a1 (hS.rd' (i := 0) Z) (hS.le' (i := 0) Z) _ ht20) ?_
 rintro _ w1 ⟨A21, c22, rfl, hs⟩
 replace hS := hS.addN hs
 refine OJ.pures oU 1 Z (OJ.nil (EJ.next ?_))
 refine CJ.seq ?_
 refine CJ.seq (CJ.region ?_)
 refine OJ.pures oU 1 Z (OJ.nil (EJ.next ?_))
 obtain ⟨j210, H, K210⟩ := pbind H
 refine CJ.cut1 (fun F w1 => ∃ (y23 : Arr 10 (Arr 10 Int)) , (some y23 : Option (Arr 10 (Arr 10 Int))) = some j210 ∧ F = [(4, .pointer (some ⟨b2, 0, none⟩)), (5, .pointer (some ⟨b3, 0, none⟩))] ∧ St w no w1 [box b2 ((carr 10 (carr 10 (ci .i16))).enc (Arr.mk' (Arr.mk' 0 : Arr 10 Int) : Arr 10 (Arr 10 Int))) 64, box b3 ((carr 10 (carr 10 (ci .i16))).enc y23) 64] [roC cSpot Aa1 ca1 a1]) ?_ ?_
 ·skip
  refine CJ.block ?_
  refine CJ.loop (fun k F w1 => ∃ (y24 : Arr 10 (Arr 10 Int)) (y25 : List Spot) (y28 : Int) (A26 : Option Addr) (c27 : Nat), F = [(1, .slice A26 y25.length c27), (2, .pointer (some ⟨b1, 0, none⟩)), (4, .pointer (some ⟨b2, 0, none⟩)), (5, .pointer (some ⟨b3, 0, none⟩)), (10, .int .i64 y28)] ∧ St w no w1 [box b1 (cPasture.enc a0) 31, box b2 ((carr 10 (carr 10 (ci .i16))).enc (Arr.mk' (Arr.mk' 0 : Arr 10 Int) : Arr 10 (Arr 10 Int))) 64, box b3 ((carr 10 (carr 10 (ci .i16))).enc y24) 64, rowC cSpot A26 c27 45 y25] [roC cSpot Aa1 ca1 a1] ∧ impl_Pasture_far.l4 a0 k y24 y25 y28 = some j210) k (F' := [(1, .slice A21 t20.length c22), (2, .pointer (some ⟨b1, 0, none⟩)), (4, .pointer (some ⟨b2, 0, none⟩)), (5, .pointer (some ⟨b3, 0, none⟩)), (10, .int .i64 0)]) ⟨Z, Z, Z, Z, Z, trivial⟩ ⟨y13, t20, 0, A21, c22, Z, hS.pick [0, 1, 2, 3] [0] Z, H⟩ ?_
  rintro k F w1 ⟨y24, y25, y28, A26, c27, rfl, hS, H⟩
  cases k with
  | zero => rw [impl_Pasture_far.l4] at H; cases H
  | succ k =>
    rw [impl_Pasture_far.l4] at H
    refine CJ.seq ?_
    refine CJ.seq (CJ.region ?_)
    refine OJ.pures oU 4 Z (OJ.nil (EJ.next ?_))
    refine CJ.cond Z (fun hb => ?_) (fun hb => ?_)
    · replace H := pif_t (of_decide_eq_true hb) H
      refine CJ.skip (EJ.next ?_)
      obtain ⟨j230, H, K230⟩ := pbind H
      refine CJ.cut (fun F w1 => ∃ (y29 : Arr 10 (Arr 10 Int)) (y30 : List Spot) (A31 : Option Addr) (c32 : Nat), (some (y29, y30) : Option ((Arr 10 (Arr 10 Int)) × (List Spot))) = some j230 ∧ F = [(1, .slice A31 y30.length c32), (2, .pointer (some ⟨b1, 0, none⟩)), (4, .pointer (some ⟨b2, 0, none⟩)), (5, .pointer (some ⟨b3, 0, none⟩)), (10, .int .i64 y28)] ∧ St w no w1 [box b1 (cPasture.enc a0) 31, box b2 ((carr 10 (carr 10 (ci .i16))).enc (Arr.mk' (Arr.mk' 0 : Arr 10 Int) : Arr 10 (Arr 10 Int))) 64, box b3 ((carr 10 (carr 10 (ci .i16))).enc y29) 64, rowC cSpot A31 c32 45 y30] [roC cSpot Aa1 ca1 a1]) ?_ ?_
      · skip
        refine CJ.block ?_
        refine CJ.seq (CJ.region ?_)
        refine OJ.pures oU 2 Z ?_
        obtain ⟨t33, ht33, H⟩ := pbind H
        obtain ⟨ad33, e33⟩ := (hS.rd (i := 3) rfl).some' ht33
        refine OJ.st Z Z Z (SR.idxS oU oI Z Z Z Z e33 Z (getI_some ht33).1) ?_
        refine OJ.st Z Z Z (SR.load Z Z (fun w' hx => ldE oU oI Z Z Z (CA.ext ((hS.rd (i := 3) Z).at_ e33 ht33) hx) Z)) ?_
        refine OJ.ef Z Z Z (Ef.alloc hS oI Z Z (cSpot.enc (⟨0, 0⟩ : Spot)) Z) ?_
        rintro _ w1 ⟨b34, rfl, hS⟩
        refine OJ.es Z Z (Es.store oI hS (i := 4) Z Z Z Z Z Z (vs := cSpot.enc t33) Z (cSpot.len _) (cSpot.one _) (Nat.le_of_ble_eq_true Z) (cSpot.enc t33) Z) ?_
        intro w1 hS
        refine OJ.nil (EJ.next ?_)
        refine CJ.seq (CJ.region ?_)
        refine OJ.pures oU 1 Z (OJ.nil (EJ.next ?_))
        obtain ⟨j235, H, K235⟩ := pbind H
        refine CJ.cut1 (fun F w1 => ∃ (y35 : Arr 10 (Arr 10 Int)) (y36 : List Spot) (A37 : Option Addr) (c38 : Nat), (some (y35, y36) : Option ((Arr 10 (Arr 10 Int)) × (List Spot))) = some j235 ∧ F = [(1, .slice A37 y36.length c38), (2, .pointer (some ⟨b1, 0, none⟩)), (4, .pointer (some ⟨b2, 0, none⟩)), (5, .pointer (some ⟨b3, 0, none⟩)), (10, .int .i64 y28)] ∧ St w no w1 [box b1 (cPasture.enc a0) 31, box b2 ((carr 10 (carr 10 (ci .i16))).enc (Arr.mk' (Arr.mk' 0 : Arr 10 Int) : Arr 10 (Arr 10 Int))) 64, box b3 ((carr 10 (carr 10 (ci .i16))).enc y35) 64, rowC cSpot A37 c38 45 y36] [roC cSpot Aa1 ca1 a1]) ?_ ?_
        · skip
          refine CJ.block ?_
          refine CJ.loop (fun k F w1 => ∃ (y39 : Arr 10 (Arr 10 Int)) (y40 : List Spot) (y43 : Int) (A41 : Option Addr) (c42 : Nat), F = [(1, .slice A41 y40.length c42), (2, .pointer (some ⟨b1, 0, none⟩)), (4, .pointer (some ⟨b2, 0, none⟩)), (5, .pointer (some ⟨b3, 0, none⟩)), (10, .int .i64 y28), (11, .pointer (some ⟨b34, 0, none⟩)), (52, .int .i64 y43)] ∧ St w no w1 [box b1 (cPasture.enc a0) 31, box b2 ((carr 10 (carr 10 (ci .i16))).enc (Arr.mk' (Arr.mk' 0 : Arr 10 Int) : Arr 10 (Arr 10 Int))) 64, box b3 ((carr 10 (carr 10 (ci .i16))).enc y39) 64, rowC cSpot A41 c42 45 y40, box b34 (cSpot.enc t33) 45] [roC cSpot Aa1 ca1 a1] ∧ impl_Pasture_far.l5 a0 t33 k y39 y40 y43 = some j235) k (F' := [(1, .slice A26 y25.length c27), (2, .pointer (some ⟨b1, 0, none⟩)), (4, .pointer (some ⟨b2, 0, none⟩)), (5, .pointer (some ⟨b3, 0, none⟩)), (10, .int .i64 y28), (11, .pointer (some ⟨b34, 0, none⟩)), (52, .int .i64 0)]) ⟨Z, Z, Z, Z, Z, Z, Z, trivial⟩ ⟨y24, y25, 0, A26, c27, Z, hS.pick [0, 1, 2, 3, 4] [0] Z, H⟩ ?_
          rintro k F w1 ⟨y39, y40, y43, A41, c42, rfl, hS, H⟩
          cases k with
          | zero => rw [impl_Pasture_far.l5] at H; cases H
          | succ k =>
            rw [impl_Pasture_far.l5] at H
            refine CJ.seq (CJ.region ?_)
            refine OJ.pures oU 1 Z (OJ.nil (EJ.next ?_))
            refine CJ.seq ?_
            refine CJ.cond Z (fun hb => ?_) (fun hb => ?_)
            · replace H := pif_t (of_decide_eq_true hb) H
              refine CJ.skip (EJ.next ?_)
              refine CJ.seq ?_
              refine CJ.block ?_
              refine CJ.seq (CJ.region ?_)
              refine OJ.pures oU 2 Z (OJ.nil (EJ.next ?_))
              refine CJ.seq (CJ.region ?_)
              refine OJ.st Z Z Z (SR.load Z Z (fun w' hx => ldE oU oI Z Z Z (CA.ext (hS.cells (i := 4) Z) hx) Z)) ?_
              refine OJ.pures oU 1 Z ?_
              obtain ⟨t44, ht44, H⟩ := pbind H
              refine OJ.callF Z Z Z Z Z hb69 Z (impl_Spot_ahead.c _ t33 y43 _ ht44) ?_
              rintro _ w1 ⟨rfl, hs⟩
              replace hS := hS.grow hs
              refine OJ.ef Z Z Z (Ef.alloc hS oI Z Z (cSpot.enc (⟨0, 0⟩ : Spot)) Z) ?_
              rintro _ w1 ⟨b45, rfl, hS⟩
              refine OJ.es Z Z (Es.store oI hS (i := 5) Z Z Z Z Z Z (vs := cSpot.enc t44) Z (cSpot.len _) (cSpot.one _) (Nat.le_of_ble_eq_true Z) (cSpot.enc t44) Z) ?_
              intro w1 hS
              refine OJ.nil (EJ.next ?_)
              obtain ⟨j238, H, K238⟩ := pbind H
              refine CJ.cut (fun F w1 => ∃ (y46 : Bool) , (some y46 : Option Bool) = some j238 ∧ F = [(1, .slice A41 y40.length c42), (2, .pointer (some ⟨b1, 0, none⟩)), (4, .pointer (some ⟨b2, 0, none⟩)), (5, .pointer (some ⟨b3, 0, none⟩)), (10, .int .i64 y28), (11, .pointer (some ⟨b34, 0, none⟩)), (13, .pointer (some ⟨b45, 0, none⟩)), (52, .int .i64 y43), (71, .bool y46)] ∧ St w no w1 [box b1 (cPasture.enc a0) 31, box b2 ((carr 10 (carr 10 (ci .i16))).enc (Arr.mk' (Arr.mk' 0 : Arr 10 Int) : Arr 10 (Arr 10 Int))) 64, box b3 ((carr 10 (carr 10 (ci .i16))).enc y39) 64, rowC cSpot A41 c42 45 y40, box b34 (cSpot.enc t33) 45, box b45 (cSpot.enc t44) 45] [roC cSpot Aa1 ca1 a1]) ?_ ?_
              · skip
                refine CJ.draw [] [0, 1, 2, 3, 4, 5, 6, 7, 8, 9, 10, 11, 12, 13] mixed (by kernel_rfl) hS fun w1 hS => ?_
                refine DJ.st Z Z Z Z Z (SR.load Z Z (fun w' hx => ldE oU oI Z Z Z (CA.ext (hS.cells (i := 0) Z) hx) Z)) ?_
                refine DJ.st Z Z Z Z Z (SR.load Z Z (fun w' hx => ldE oU oI Z Z Z (CA.ext (hS.cells (i := 4) Z) hx) Z)) ?_
                refine DJ.pures oU 1 Z ?_
                obtain ⟨t47, ht47, H⟩ := pbind H
                refine DJ.callF rfl rfl rfl rfl rfl rfl rfl hb70 rfl (impl_Pasture_canGo.c _ a0 t33 y43 _ ht47) (by rintro v w' ⟨rfl, hs⟩; exact hs) ?_
                rintro _ w1 ⟨rfl, hs⟩
                replace hS := hS.grow hs
                refine DJ.pures oU 1 Z ?_
                refine DJ.split (t := 62) Z (fun hb => ?_) (fun hb => ?_)
                · replace H := pif_t hb H
                  refine DJ.st Z Z Z Z Z (SR.fieldAddr oU oI Z Z Z Z Z Z) ?_
                  refine DJ.st Z Z Z Z Z (SR.load Z Z (fun w' hx => ld1 oU Z Z (CA.ext (CA.sub (hS.cells (i := 5) Z) 1) hx) Z)) ?_
                  refine DJ.st Z Z Z Z Z (SR.fieldAddr oU oI Z Z Z Z Z Z) ?_
                  refine DJ.st Z Z Z Z Z (SR.load Z Z (fun w' hx => ld1 oU Z Z (CA.ext (CA.sub (hS.cells (i := 5) Z) 0) hx) Z)) ?_
                  obtain ⟨t48, ht48, H⟩ := pbind H
                  refine DJ.st Z Z Z Z Z (SR.idxA oU oI Z Z Z Z Z (Arr.lt ht48)) ?_
                  obtain ⟨t49, ht49, H⟩ := pbind H
                  refine DJ.st Z Z Z Z Z (SR.idxA oU oI Z Z Z Z Z (Arr.lt ht49)) ?_
                  refine DJ.st Z Z Z Z Z (SR.load Z Z (fun w' hx => ld1 oU Z Z (CA.ext (CA.idx (CA.idx (hS.cells (i := 2) Z) ht48) ht49) hx) Z)) ?_
                  refine DJ.pures oU 2 Z ?_
                  refine DJ.nil ?_
                  exact EJ.meet (F' := [(1, .slice A41 y40.length c42), (2, .pointer (some ⟨b1, 0, none⟩)), (4, .pointer (some ⟨b2, 0, none⟩)), (5, .pointer (some ⟨b3, 0, none⟩)), (10, .int .i64 y28), (11, .pointer (some ⟨b34, 0, none⟩)), (13, .pointer (some ⟨b45, 0, none⟩)), (52, .int .i64 y43), (71, .bool (decide (t49 < 0)))]) ⟨Z, Z, Z, Z, Z, Z, Z, Z, Z, trivial⟩ ⟨(decide (t49 < 0)), H, Z, hS.pick [0, 1, 2, 3, 4, 5] [0] Z⟩
                · replace H := pifb_f hb H
                  refine DJ.pures oU 9 Z ?_
                  refine DJ.nil ?_
                  exact EJ.meet (F' := [(1, .slice A41 y40.length c42), (2, .pointer (some ⟨b1, 0, none⟩)), (4, .pointer (some ⟨b2, 0, none⟩)), (5, .pointer (some ⟨b3, 0, none⟩)), (10, .int .i64 y28), (11, .pointer (some ⟨b34, 0, none⟩)), (13, .pointer (some ⟨b45, 0, none⟩)), (52, .int .i64 y43), (71, .bool false)]) ⟨Z, Z, Z, Z, Z, Z, Z, Z, Z, trivial⟩ ⟨false, H, Z, hS.pick [0, 1, 2, 3, 4, 5] [0] Z⟩
              · rintro F w1 ⟨y46, he, rfl, hS⟩
                obtain rfl := Option.some.inj he
                have H := K238
                refine CJ.cond Z (fun hb => ?_) (fun hb => ?_)
                · replace H := pif_t hb H
                  refine CJ.seq ?_
                  refine CJ.draw [] [0, 1, 2, 3, 4, 5, 6, 7, 8, 9, 10, 11, 12, 13, 14] mixed (by kernel_rfl) hS fun w1 hS => ?_
                  refine DJ.st Z Z Z Z Z (SR.fieldAddr oU oI Z Z Z Z Z Z) ?_
                  refine DJ.st Z Z Z Z Z (SR.load Z Z (fun w' hx => ld1 oU Z Z (CA.ext (CA.sub (hS.cells (i := 5) Z) 1) hx) Z)) ?_
                  refine DJ.st Z Z Z Z Z (SR.fieldAddr oU oI Z Z Z Z Z Z) ?_
                  refine DJ.st Z Z Z Z Z (SR.load Z Z (fun w' hx => ld1 oU Z Z (CA.ext (CA.sub (hS.cells (i := 5) Z) 0) hx) Z)) ?_
                  refine DJ.st Z Z Z Z Z (SR.fieldAddr oU oI Z Z Z Z Z Z) ?_
                  refine DJ.st Z Z Z Z Z (SR.load Z Z (fun w' hx => ld1 oU Z Z (CA.ext (CA.sub (hS.cells (i := 4) Z) 1) hx) Z)) ?_
                  refine DJ.st Z Z Z Z Z (SR.fieldAddr oU oI Z Z Z Z Z Z) ?_
                  refine DJ.st Z Z Z Z Z (SR.load Z Z (fun w' hx => ld1 oU Z Z (CA.ext (CA.sub (hS.cells (i := 4) Z) 0) hx) Z)) ?_
                  obtain ⟨t50, ht50, H⟩ := pbind H
                  refine DJ.st Z Z Z Z Z (SR.idxA oU oI Z Z Z Z Z (Arr.lt ht50)) ?_
                  obtain ⟨t51, ht51, H⟩ := pbind H
                  refine DJ.st Z Z Z Z Z (SR.idxA oU oI Z Z Z Z Z (Arr.lt ht51)) ?_
                  refine DJ.st Z Z Z Z Z (SR.load Z Z (fun w' hx => ld1 oU Z Z (CA.ext (CA.idx (CA.idx (hS.cells (i := 2) Z) ht50) ht51) hx) Z)) ?_
                  refine DJ.pures oU 1 Z ?_
                  obtain ⟨t52, ht52, H⟩ := pbind H
                  refine DJ.st Z Z Z Z Z (SR.idxA oU oI Z Z Z Z Z (Arr.lt ht52)) ?_
                  obtain ⟨t53, ht53, H⟩ := pbind H
                  refine DJ.st Z Z Z Z Z (SR.idxA oU oI Z Z Z Z Z (Arr.lt ht53)) ?_
                  refine DJ.es rfl rfl rfl rfl (Es.put oI hS (i := 2) rfl rfl rfl rfl rfl (vs := (ci .i16).enc (IntKind.i16.wrap (t51 + 1))) rfl rfl (one1 rfl) (Put.idx (Put.idx (Put.all (ci .i16) t53 (IntKind.i16.wrap (t51 + 1))) ht53) ht52) (by (try simp only [add_lit, Nat.add_assoc, Nat.zero_add, Nat.add_zero]) <;> rfl)) ?_
                  intro w1 hS
                  refine DJ.nil (EJ.next ?_)
                  refine CJ.region ?_
                  refine OJ.pures oU 1 Z ?_
                  refine OJ.st Z Z Z (SR.load Z Z (fun w' hx => ldE oU oI Z Z Z (CA.ext (hS.cells (i := 5) Z) hx) Z)) ?_
                  refine OJ.ef Z Z Z (Ef.lit oU oI hS (C := cSpot) Z Z Z Z Z Z ([t44] : List Spot) Z Z Z Z) ?_
                  rintro _ w1 ⟨A54, rfl, hS⟩
                  obtain ⟨u55, hu55, H⟩ := pbind H
                  refine OJ.ew Z Z Z (Ew.append oU oI (C := cSpot) (xs := y40) (ys := ([t44] : List Spot)) hS (i := 3) Z Z Z Z Z Z Z Z Z Z Z Z Z (hS.rd (i := 6) Z) (chk_some hu55)) ?_
                  rintro _ w1 ⟨A56, c57, rfl, hS⟩
                  refine OJ.pures oU 1 Z ?_
                  refine OJ.nil (EJ.blk (EJ.next ?_))
                  refine CJ.region ?_
                  refine OJ.pures oU 2 Z ?_
                  refine OJ.nil ?_
                  exact EJ.round k (F' := [(1, .slice A56 (y40 ++ ([t44] : List Spot)).length c57), (2, .pointer (some ⟨b1, 0, none⟩)), (4, .pointer (some ⟨b2, 0, none⟩)), (5, .pointer (some ⟨b3, 0, none⟩)), (10, .int .i64 y28), (11, .pointer (some ⟨b34, 0, none⟩)), (52, .int .i64 (IntKind.i64.wrap (y43 + 1)))]) ⟨Z, Z, Z, Z, Z, Z, Z, trivial⟩ (Nat.lt_succ_self _) ⟨(aset y39 t44.Y.toNat (aset t52 t44.X.toNat (IntKind.i16.wrap (t51 + 1)))), (y40 ++ ([t44] : List Spot)), (IntKind.i64.wrap (y43 + 1)), A56, c57, Z, hS.pick [0, 1, 2, 3, 4] [0] Z, H⟩
                · replace H := pifb_f hb H
                  refine CJ.skip (EJ.blk (EJ.next ?_))
                  refine CJ.region ?_
                  refine OJ.pures oU 2 Z ?_
                  refine OJ.nil ?_
                  exact EJ.round k (F' := [(1, .slice A41 y40.length c42), (2, .pointer (some ⟨b1, 0, none⟩)), (4, .pointer (some ⟨b2, 0, none⟩)), (5, .pointer (some ⟨b3, 0, none⟩)), (10, .int .i64 y28), (11, .pointer (some ⟨b34, 0, none⟩)), (52, .int .i64 (IntKind.i64.wrap (y43 + 1)))]) ⟨Z, Z, Z, Z, Z, Z, Z, trivial⟩ (Nat.lt_succ_self _) ⟨y39, y40, (IntKind.i64.wrap (y43 + 1)), A41, c42, Z, hS.pick [0, 1, 2, 3, 4] [0] Z, H⟩
            · replace H := pif_f (of_decide_eq_false hb) H
              refine CJ.exit (EJ.skE (EJ.skE (EJ.hit (?_))))
              exact EJ.meet (F' := [(1, .slice A41 y40.length c42), (2, .pointer (some ⟨b1, 0, none⟩)), (4, .pointer (some ⟨b2, 0, none⟩)), (5, .pointer (some ⟨b3, 0, none⟩)), (10, .int .i64 y28)]) ⟨Z, Z, Z, Z, Z, trivial⟩ ⟨y39, y40, A41, c42, H, Z, hS.pick [0, 1, 2, 3] [0] Z⟩
        · rintro F w1 ⟨y35, y36, A37, c38, he, rfl, hS⟩
          obtain rfl := Option.some.inj he
          have H := K235
          refine EJ.blk (?_)
          exact EJ.meet (F' := [(1, .slice A37 y36.length c38), (2, .pointer (some ⟨b1, 0, none⟩)), (4, .pointer (some ⟨b2, 0, none⟩)), (5, .pointer (some ⟨b3, 0, none⟩)), (10, .int .i64 y28)]) ⟨Z, Z, Z, Z, Z, trivial⟩ ⟨y35, y36, A37, c38, H, Z, hS.pick [0, 1, 2, 3] [0] Z⟩
      · rintro F w1 ⟨y29, y30, A31, c32, he, rfl, hS⟩
        obtain rfl := Option.some.inj he
        have H := K230
        refine CJ.region ?_
        refine OJ.pures oU 3 Z ?_
        refine OJ.nil ?_
        exact EJ.round k (F' := [(1, .slice A31 y30.length c32), (2, .pointer (some ⟨b1, 0, none⟩)), (4, .pointer (some ⟨b2, 0, none⟩)), (5, .pointer (some ⟨b3, 0, none⟩)), (10, .int .i64 (IntKind.i64.wrap (y28 + 1)))]) ⟨Z, Z, Z, Z, Z, trivial⟩ (Nat.lt_succ_self _) ⟨y29, y30, (IntKind.i64.wrap (y28 + 1)), A31, c32, Z, hS.pick [0, 1, 2, 3] [0] Z, H⟩
    · replace H := pif_f (of_decide_eq_false hb) H
      refine CJ.exit (EJ.skE (EJ.skE (EJ.hit (?_))))
      exact EJ.meet (F' := [(4, .pointer (some ⟨b2, 0, none⟩)), (5, .pointer (some ⟨b3, 0, none⟩))]) ⟨Z, Z, trivial⟩ ⟨y24, H, Z, hS.pick [1, 2] [0] Z⟩
 rintro F w1 ⟨y23, he, rfl, hS⟩
 obtain rfl := Option.some.inj he
 have H := K210
 refine EJ.next ?_
 refine CJ.seq (CJ.region ?_)
 refine OJ.st Z Z Z (SR.load Z Z (fun w' hx => ldE oU oI Z Z Z (CA.ext (hS.cells (i := 1) Z) hx) Z)) ?_
 refine OJ.es rfl rfl (Es.put oI hS (i := 0) rfl rfl rfl rfl rfl (vs := (carr 10 (carr 10 (ci .i16))).enc y23) rfl ((carr 10 (carr 10 (ci .i16))).len _) ((carr 10 (carr 10 (ci .i16))).one _) (Put.all (carr 10 (carr 10 (ci .i16))) (Arr.mk' (Arr.mk' 0 : Arr 10 Int) : Arr 10 (Arr 10 Int)) y23) (by (try simp only [add_lit, Nat.add_assoc, Nat.zero_add, Nat.add_zero]) <;> rfl)) ?_
 intro w1 hS
 refine OJ.nil (EJ.next ?_)
 refine CJ.ret (?_)
 obtain rfl := Option.some.inj H
 exact EJ.fin Z (.cell Z (ldE oU oI Z Z Z (hS.cells (i := 0) Z) Z) .nil) ⟨Z, hS.ext⟩

def impl_steps_at.f (a0 : Arr 10 (Arr 10 Int)) (a1 : Spot) : Option Int := (getI a0.l a1.Y).bind fun t2 => (getI t2.l a1.X).bind fun t3 => some (IntKind.i64.wrap t3)
theorem impl_steps_at.c (w : World) (pa0 : Addr) (a0 : Arr 10 (Arr 10 Int)) (hp0 : CA w pa0 ((carr 10 (carr 10 (ci .i16))).enc a0)) (a1 : Spot) (r : Int) (H : impl_steps_at.f a0 a1 = some r) :
 CV Tryz.prog 32 [.pointer (some pa0), .agg (cSpot.enc a1).toArray].toArray w fun v w' => v = .int .i64 r ∧ Ext w w' := by
 have hS := ((St.init w no).paramP pa0 ((carr 10 (carr 10 (ci .i16))).enc a0) hp0)
 unfold impl_steps_at.f at H
 refine CV.body Tryz.func32 Z Tryz.ntmps32 Z ?_
 refine CJ.seq (CJ.region ?_)
 refine OJ.ef Z Z Z (Ef.box hS Z Z (cSpot.enc a1) Z) ?_
 rintro _ w1 ⟨b1, rfl, hS⟩
 refine OJ.pures oU 1 Z (OJ.nil (EJ.next ?_))
 refine CJ.seq ?_
 refine CJ.draw [] [0, 1, 2, 3, 4, 5, 6, 7, 8, 9, 10] mixed (by kernel_rfl) hS fun w1 hS => ?_
 refine DJ.pures oU 1 Z ?_
 refine DJ.st Z Z Z Z Z (SR.fieldAddr oU oI Z Z Z Z Z Z) ?_
 refine DJ.st Z Z Z Z Z (SR.load Z Z (fun w' hx => ld1 oU Z Z (CA.ext (CA.sub (hS.cells (i := 0) Z) 1) hx) Z)) ?_
 refine DJ.st Z Z Z Z Z (SR.fieldAddr oU oI Z Z Z Z Z Z) ?_
 refine DJ.st Z Z Z Z Z (SR.load Z Z (fun w' hx => ld1 oU Z Z (CA.ext (CA.sub (hS.cells (i := 0) Z) 0) hx) Z)) ?_
 refine DJ.pures oU 1 Z ?_
 obtain ⟨t2, ht2, H⟩ := pbind H
 refine DJ.st Z Z Z Z Z (SR.idxA oU oI Z Z Z Z Z (Arr.lt ht2)) ?_
 obtain ⟨t3, ht3, H⟩ := pbind H
 refine DJ.st Z Z Z Z Z (SR.idxA oU oI Z Z Z Z Z (Arr.lt ht3)) ?_
 refine DJ.st Z Z Z Z Z (SR.load Z Z (fun w' hx => ld1 oU Z Z (CA.ext (CA.idx (CA.idx (hS.ca (i := 0) Z) ht2) ht3) hx) Z)) ?_
 refine DJ.pures oU 2 Z ?_
 refine DJ.nil (EJ.next ?_)
 refine CJ.ret (?_)
 obtain rfl := Option.some.inj H
 exact EJ.fin Z (.tmp Z .nil) ⟨Z, hS.ext⟩

def impl_Pasture_put.f (a0 : Pasture) (a1 : Hurdle) (a2 : Bool) : Option Pasture := if a1.South = true then ((getI a0.South.l a1.At.Y).bind fun t2 => (chk (0 ≤ a1.At.X)).bind fun u3 => (getI a0.South.l a1.At.Y).bind fun t4 => if a2 = true then ((getI (aset a0.South a1.At.Y.toNat (andNotI .u16 t2 (shlI .u16 1 a1.At.X))).l a1.At.Y).bind fun t5 => (chk (0 ≤ a1.At.X)).bind fun u6 => (getI (aset a0.South a1.At.Y.toNat (andNotI .u16 t2 (shlI .u16 1 a1.At.X))).l a1.At.Y).bind fun t7 => some (⟨a0.Wide, a0.High, a0.Grass, a0.East, (aset (aset a0.South a1.At.Y.toNat (andNotI .u16 t2 (shlI .u16 1 a1.At.X))) a1.At.Y.toNat (orI .u16 t5 (shlI .u16 1 a1.At.X)))⟩ : Pasture)) else (some (⟨a0.Wide, a0.High, a0.Grass, a0.East, (aset a0.South a1.At.Y.toNat (andNotI .u16 t2 (shlI .u16 1 a1.At.X)))⟩ : Pasture))) else ((getI a0.East.l a1.At.Y).bind fun t8 => (chk (0 ≤ a1.At.X)).bind fun u9 => (getI a0.East.l a1.At.Y).bind fun t10 => if a2 = true then ((getI (aset a0.East a1.At.Y.toNat (andNotI .u16 t8 (shlI .u16 1 a1.At.X))).l a1.At.Y).bind fun t11 => (chk (0 ≤ a1.At.X)).bind fun u12 => (getI (aset a0.East a1.At.Y.toNat (andNotI .u16 t8 (shlI .u16 1 a1.At.X))).l a1.At.Y).bind fun t13 => some (⟨a0.Wide, a0.High, a0.Grass, (aset (aset a0.East a1.At.Y.toNat (andNotI .u16 t8 (shlI .u16 1 a1.At.X))) a1.At.Y.toNat (orI .u16 t11 (shlI .u16 1 a1.At.X))), a0.South⟩ : Pasture)) else (some (⟨a0.Wide, a0.High, a0.Grass, (aset a0.East a1.At.Y.toNat (andNotI .u16 t8 (shlI .u16 1 a1.At.X))), a0.South⟩ : Pasture)))
theorem impl_Pasture_put.c (w : World) (ba0 : Nat) (a0 : Pasture) (a1 : Hurdle) (a2 : Bool) (hin : St w (fpU [box ba0 (cPasture.enc a0) 31]) w [box ba0 (cPasture.enc a0) 31] []) (r : Pasture) (H : impl_Pasture_put.f a0 a1 a2 = some r) :
 CV Tryz.prog 34 [.pointer (some ⟨ba0, 0, none⟩), .agg (cHurdle.enc a1).toArray, .bool a2].toArray w fun v w' => v = .tuple #[] ∧ St w (fpU [box ba0 (cPasture.enc a0) 31]) w' [box ba0 (cPasture.enc r) 31] [] := by
 have hS := hin
 unfold impl_Pasture_put.f at H
 refine CV.body Tryz.func34 Z Tryz.ntmps34 Z ?_
 refine CJ.seq (CJ.region ?_)
 refine OJ.ef Z Z Z (Ef.box hS Z Z (cHurdle.enc a1) Z) ?_
 rintro _ w1 ⟨b1, rfl, hS⟩
 refine OJ.nil (EJ.next ?_)
 refine CJ.seq (CJ.region ?_)
 refine OJ.pures oU 2 Z ?_
 refine OJ.st Z Z Z (SR.fieldAddr oU oI Z Z Z Z Z Z) ?_
 refine OJ.pures oU 1 Z (OJ.nil (EJ.next ?_))
 refine CJ.seq ?_
 refine CJ.seq (CJ.region ?_)
 refine OJ.st Z Z Z (SR.fieldAddr oU oI Z Z Z Z Z Z) ?_
 refine OJ.st Z Z Z (SR.load Z Z (fun w' hx => ld1 oU Z Z (CA.ext (CA.sub (hS.cells (i := 1) Z) 2) hx) Z)) ?_
 refine OJ.nil (EJ.next ?_)
 refine CJ.cond Z (fun hb => ?_) (fun hb => ?_)
 ·replace H := pif_t hb H
  refine CJ.region ?_
  refine OJ.pures oU 2 Z ?_
  refine OJ.st Z Z Z (SR.fieldAddr oU oI Z Z Z Z Z Z) ?_
  refine OJ.pures oU 1 Z (OJ.nil (EJ.next ?_))
  refine CJ.seq ?_
  refine CJ.draw [] [0, 1, 2, 3, 4, 5, 6, 7, 8, 9, 10, 11, 12, 13, 14] mixed (by kernel_rfl) hS fun w1 hS => ?_
  refine DJ.pures oU 1 Z ?_
  refine DJ.st Z Z Z Z Z (SR.fieldAddr oU oI Z Z Z Z Z Z) ?_
  refine DJ.st Z Z Z Z Z (SR.fieldAddr oU oI Z Z Z Z Z Z) ?_
  refine DJ.st Z Z Z Z Z (SR.load Z Z (fun w' hx => ld1 oU Z Z (CA.ext (CA.sub (CA.sub (hS.cells (i := 1) Z) 0) 1) hx) Z)) ?_
  refine DJ.pures oU 1 Z ?_
  obtain ⟨t2, ht2, H⟩ := pbind H
  refine DJ.st Z Z Z Z Z (SR.idxA oU oI Z Z Z Z Z (Arr.lt ht2)) ?_
  refine DJ.st Z Z Z Z Z (SR.load Z Z (fun w' hx => ld1 oU Z Z (CA.ext (CA.idx (CA.fld (hS.cells (i := 0) Z) (mid_part (fe_Pasture_4 _) (fl_Pasture_4 _) ((carr 10 (ci .u16)).len _))) ht2) hx) Z)) ?_
  refine DJ.st Z Z Z Z Z (SR.fieldAddr oU oI Z Z Z Z Z Z) ?_
  refine DJ.st Z Z Z Z Z (SR.fieldAddr oU oI Z Z Z Z Z Z) ?_
  refine DJ.st Z Z Z Z Z (SR.load Z Z (fun w' hx => ld1 oU Z Z (CA.ext (CA.sub (CA.sub (hS.cells (i := 1) Z) 0) 0) hx) Z)) ?_
  obtain ⟨u3, hu3, H⟩ := pbind H
  refine DJ.st Z Z Z Z Z (SR.shl Z Z Z (chk_some hu3)) ?_
  refine DJ.pures oU 2 Z ?_
  obtain ⟨t4, ht4, H⟩ := pbind H
  refine DJ.st Z Z Z Z Z (SR.idxA oU oI Z Z Z Z Z (Arr.lt ht4)) ?_
  refine DJ.es rfl rfl rfl rfl (Es.put oI hS (i := 0) rfl rfl rfl rfl rfl (vs := (ci .u16).enc (andNotI .u16 t2 (shlI .u16 1 a1.At.X))) rfl rfl (one1 rfl) (put_Pasture_4 (Put.idx (Put.all (ci .u16) t4 (andNotI .u16 t2 (shlI .u16 1 a1.At.X))) ht4)) (by (try simp only [add_lit, Nat.add_assoc, Nat.zero_add, Nat.add_zero]) <;> rfl)) ?_
  intro w1 hS
  refine DJ.nil (EJ.next ?_)
  refine CJ.seq (CJ.region ?_)
  refine OJ.pures oU 1 Z (OJ.nil (EJ.next ?_))
  refine CJ.cond Z (fun hb => ?_) (fun hb => ?_)
  ·replace H := pif_t hb H
   refine CJ.draw [] [0, 1, 2, 3, 4, 5, 6, 7, 8, 9, 10, 11, 12, 13, 14] mixed (by kernel_rfl) hS fun w1 hS => ?_
   refine DJ.pures oU 1 Z ?_
   refine DJ.st Z Z Z Z Z (SR.fieldAddr oU oI Z Z Z Z Z Z) ?_
   refine DJ.st Z Z Z Z Z (SR.fieldAddr oU oI Z Z Z Z Z Z) ?_
   refine DJ.st Z Z Z Z Z (SR.load Z Z (fun w' hx => ld1 oU Z Z (CA.ext (CA.sub (CA.sub (hS.cells (i := 1) Z) 0) 1) hx) Z)) ?_
   refine DJ.pures oU 1 Z ?_
   obtain ⟨t5, ht5, H⟩ := pbind H
   refine DJ.st Z Z Z Z Z (SR.idxA oU oI Z Z Z Z Z (Arr.lt ht5)) ?_
   refine DJ.st Z Z Z Z Z (SR.load Z Z (fun w' hx => ld1 oU Z Z (CA.ext (CA.idx (CA.fld (hS.cells (i := 0) Z) (mid_part (fe_Pasture_4 _) (fl_Pasture_4 _) ((carr 10 (ci .u16)).len _))) ht5) hx) Z)) ?_
   refine DJ.st Z Z Z Z Z (SR.fieldAddr oU oI Z Z Z Z Z Z) ?_
   refine DJ.st Z Z Z Z Z (SR.fieldAddr oU oI Z Z Z Z Z Z) ?_
   refine DJ.st Z Z Z Z Z (SR.load Z Z (fun w' hx => ld1 oU Z Z (CA.ext (CA.sub (CA.sub (hS.cells (i := 1) Z) 0) 0) hx) Z)) ?_
   obtain ⟨u6, hu6, H⟩ := pbind H
   refine DJ.st Z Z Z Z Z (SR.shl Z Z Z (chk_some hu6)) ?_
   refine DJ.pures oU 2 Z ?_
   obtain ⟨t7, ht7, H⟩ := pbind H
   refine DJ.st Z Z Z Z Z (SR.idxA oU oI Z Z Z Z Z (Arr.lt ht7)) ?_
   refine DJ.es rfl rfl rfl rfl (Es.put oI hS (i := 0) rfl rfl rfl rfl rfl (vs := (ci .u16).enc (orI .u16 t5 (shlI .u16 1 a1.At.X))) rfl rfl (one1 rfl) (put_Pasture_4 (Put.idx (Put.all (ci .u16) t7 (orI .u16 t5 (shlI .u16 1 a1.At.X))) ht7)) (by (try simp only [add_lit, Nat.add_assoc, Nat.zero_add, Nat.add_zero]) <;> rfl)) ?_
   intro w1 hS
   refine DJ.nil ?_
   obtain rfl := Option.some.inj H
   exact EJ.fin' Z .nil ⟨Z, hS.pick [0] [] Z⟩
  replace H := pifb_f hb H
  refine CJ.skip (?_)
  obtain rfl := Option.some.inj H
  exact EJ.fin' Z .nil ⟨Z, hS.pick [0] [] Z⟩
 replace H := pifb_f hb H
 refine CJ.skip (EJ.next ?_)
 refine CJ.seq ?_
 refine CJ.draw [] [0, 1, 2, 3, 4, 5, 6, 7, 8, 9, 10, 11, 12, 13, 14] mixed (by kernel_rfl) hS fun w1 hS => ?_
 refine DJ.pures oU 1 Z ?_
 refine DJ.st Z Z Z Z Z (SR.fieldAddr oU oI Z Z Z Z Z Z) ?_
 refine DJ.st Z Z Z Z Z (SR.fieldAddr oU oI Z Z Z Z Z Z) ?_
 refine DJ.st Z Z Z Z Z (SR.load Z Z (fun w' hx => ld1 oU Z Z (CA.ext (CA.sub (CA.sub (hS.cells (i := 1) Z) 0) 1) hx) Z)) ?_
 refine DJ.pures oU 1 Z ?_
 obtain ⟨t8, ht8, H⟩ := pbind H
 refine DJ.st Z Z Z Z Z (SR.idxA oU oI Z Z Z Z Z (Arr.lt ht8)) ?_
 refine DJ.st Z Z Z Z Z (SR.load Z Z (fun w' hx => ld1 oU Z Z (CA.ext (CA.idx (CA.fld (hS.cells (i := 0) Z) (mid_part (fe_Pasture_3 _) (fl_Pasture_3 _) ((carr 10 (ci .u16)).len _))) ht8) hx) Z)) ?_
 refine DJ.st Z Z Z Z Z (SR.fieldAddr oU oI Z Z Z Z Z Z) ?_
 refine DJ.st Z Z Z Z Z (SR.fieldAddr oU oI Z Z Z Z Z Z) ?_
 refine DJ.st Z Z Z Z Z (SR.load Z Z (fun w' hx => ld1 oU Z Z (CA.ext (CA.sub (CA.sub (hS.cells (i := 1) Z) 0) 0) hx) Z)) ?_
 obtain ⟨u9, hu9, H⟩ := pbind H
 refine DJ.st Z Z Z Z Z (SR.shl Z Z Z (chk_some hu9)) ?_
 refine DJ.pures oU 2 Z ?_
 obtain ⟨t10, ht10, H⟩ := pbind H
 refine DJ.st Z Z Z Z Z (SR.idxA oU oI Z Z Z Z Z (Arr.lt ht10)) ?_
 refine DJ.es rfl rfl rfl rfl (Es.put oI hS (i := 0) rfl rfl rfl rfl rfl (vs := (ci .u16).enc (andNotI .u16 t8 (shlI .u16 1 a1.At.X))) rfl rfl (one1 rfl) (put_Pasture_3 (Put.idx (Put.all (ci .u16) t10 (andNotI .u16 t8 (shlI .u16 1 a1.At.X))) ht10)) (by (try simp only [add_lit, Nat.add_assoc, Nat.zero_add, Nat.add_zero]) <;> rfl)) ?_
 intro w1 hS
 refine DJ.nil (EJ.next ?_)
 refine CJ.seq (CJ.region ?_)
 refine OJ.pures oU 1 Z (OJ.nil (EJ.next ?_))
 refine CJ.cond Z (fun hb => ?_) (fun hb => ?_)
 ·replace H := pif_t hb H
  refine CJ.draw [] [0, 1, 2, 3, 4, 5, 6, 7, 8, 9, 10, 11, 12, 13, 14] mixed (by kernel_rfl) hS fun w1 hS => ?_
  refine DJ.pures oU 1 Z ?_
  refine DJ.st Z Z Z Z Z (SR.fieldAddr oU oI Z Z Z Z Z Z) ?_
  refine DJ.st Z Z Z Z Z (SR.fieldAddr oU oI Z Z Z Z Z Z) ?_
  refine DJ.st Z Z Z Z Z (SR.load Z Z (fun w' hx => ld1 oU Z Z (CA.ext (CA.sub (CA.sub (hS.cells (i := 1) Z) 0) 1) hx) Z)) ?_
  refine DJ.pures oU 1 Z ?_
  obtain ⟨t11, ht11, H⟩ := pbind H
  refine DJ.st Z Z Z Z Z (SR.idxA oU oI Z Z Z Z Z (Arr.lt ht11)) ?_
  refine DJ.st Z Z Z Z Z (SR.load Z Z (fun w' hx => ld1 oU Z Z (CA.ext (CA.idx (CA.fld (hS.cells (i := 0) Z) (mid_part (fe_Pasture_3 _) (fl_Pasture_3 _) ((carr 10 (ci .u16)).len _))) ht11) hx) Z)) ?_
  refine DJ.st Z Z Z Z Z (SR.fieldAddr oU oI Z Z Z Z Z Z) ?_
  refine DJ.st Z Z Z Z Z (SR.fieldAddr oU oI Z Z Z Z Z Z) ?_
  refine DJ.st Z Z Z Z Z (SR.load Z Z (fun w' hx => ld1 oU Z Z (CA.ext (CA.sub (CA.sub (hS.cells (i := 1) Z) 0) 0) hx) Z)) ?_
  obtain ⟨u12, hu12, H⟩ := pbind H
  refine DJ.st Z Z Z Z Z (SR.shl Z Z Z (chk_some hu12)) ?_
  refine DJ.pures oU 2 Z ?_
  obtain ⟨t13, ht13, H⟩ := pbind H
  refine DJ.st Z Z Z Z Z (SR.idxA oU oI Z Z Z Z Z (Arr.lt ht13)) ?_
  refine DJ.es rfl rfl rfl rfl (Es.put oI hS (i := 0) rfl rfl rfl rfl rfl (vs := (ci .u16).enc (orI .u16 t11 (shlI .u16 1 a1.At.X))) rfl rfl (one1 rfl) (put_Pasture_3 (Put.idx (Put.all (ci .u16) t13 (orI .u16 t11 (shlI .u16 1 a1.At.X))) ht13)) (by (try simp only [add_lit, Nat.add_assoc, Nat.zero_add, Nat.add_zero]) <;> rfl)) ?_
  intro w1 hS
  refine DJ.nil ?_
  obtain rfl := Option.some.inj H
  exact EJ.fin' Z .nil ⟨Z, hS.pick [0] [] Z⟩
 replace H := pifb_f hb H
 refine CJ.skip (?_)
 obtain rfl := Option.some.inj H
 exact EJ.fin' Z .nil ⟨Z, hS.pick [0] [] Z⟩

def impl_JoinYards.l1 (t4 : List Hurdle) : Nat → Pasture → (List Hurdle) → Int → Option (List Hurdle)
  | 0, _, _, _ => none
  | k + 1, y10, y11, y14 => if y14 < (t4.length : Int) then ((getI t4 y14).bind fun t15 => (impl_Pasture_far.f k y10 ([t15.At] : List Spot)).bind fun t18 => (impl_Hurdle_other.f t15).bind fun t20 => (impl_steps_at.f t18 t20).bind fun t21 => if t21 < 0 then ((chk (y11.length + ([t15] : List Hurdle).length ≤ 4294967296)).bind fun u23 => (impl_Pasture_put.f y10 t15 false).bind fun t26 => impl_JoinYards.l1 t4 k t26 (y11 ++ ([t15] : List Hurdle)) (IntKind.i64.wrap (y14 + 1))) else (impl_JoinYards.l1 t4 k y10 y11 (IntKind.i64.wrap (y14 + 1)))) else (some y11)
def impl_JoinYards.f (k : Nat) (a0 : Pasture) : Option (List Hurdle × Int) := (impl_ValidPasture.f k a0).bind fun t2 => if (!t2) = true then (some ([], 1)) else ((impl_Pasture_hurdles.f k a0).bind fun t4 => (impl_JoinYards.l1 t4 k a0 ([] : List Hurdle) 0).bind fun y7 => some (y7, 0))
theorem impl_JoinYards.c (k : Nat) (w : World) (a0 : Pasture) (r : List Hurdle × Int) (H : impl_JoinYards.f k a0 = some r) :
 CV Tryz.prog 7 [.agg (cPasture.enc a0).toArray].toArray w fun v w' => ∃ (A0 : Option Addr) (c0 : Nat), v = .tuple #[.slice A0 r.1.length c0, .int .i64 r.2] ∧ St w no w' [rowC cHurdle A0 c0 48 r.1] [] := by
 have hS := (St.init w no)
 unfold impl_JoinYards.f at H
 refine CV.body Tryz.func7 Z Tryz.ntmps7 Z ?_
 refine CJ.seq (CJ.region ?_)
 refine OJ.ef Z Z Z (Ef.box hS Z Z (cPasture.enc a0) Z) ?_
 rintro _ w1 ⟨b1, rfl, hS⟩
 refine OJ.pures oU 2 Z (OJ.nil (EJ.next ?_))
 refine CJ.seq ?_
 refine CJ.seq (CJ.region ?_)
 refine OJ.st Z Z Z (SR.load Z Z (fun w' hx => ldE oU oI Z Z Z (CA.ext (hS.cells (i := 0) Z) hx) Z)) ?_
 obtain ⟨t2, ht2, H⟩ := pbind H
 refine OJ.callF Z Z Z Z Z hb29 Z (impl_ValidPasture.c k _ a0 _ ht2) ?_
 rintro _ w1 ⟨rfl, hs⟩
 replace hS := hS.grow hs
 refine OJ.pures oU 1 Z (OJ.nil (EJ.next ?_))
 refine CJ.cond Z (fun hb => ?_) (fun hb => ?_)
 ·replace H := pif_t hb H
  refine CJ.seq (CJ.region ?_)
  refine OJ.pures oU 2 Z (OJ.nil (EJ.next ?_))
  refine CJ.ret (EJ.skR (?_))
  replace hS := hS.addNil cHurdle 48 none
  obtain rfl := Option.some.inj H
  exact EJ.fin Z (.tmp Z (.tmp Z .nil)) ⟨none, 0, Z, hS.pick [1] [] Z⟩
 replace H := pifb_f hb H
 refine CJ.skip (EJ.next ?_)
 refine CJ.seq (CJ.region ?_)
 refine OJ.ef Z Z Z (Ef.lit oU oI hS (C := cHurdle) Z Z Z Z Z Z ([] : List Hurdle) Z Z Z Z) ?_
 rintro _ w1 ⟨A3, rfl, hS⟩
 refine OJ.pures oU 1 Z (OJ.nil (EJ.next ?_))
 refine CJ.seq ?_
 refine CJ.seq (CJ.region ?_)
 refine OJ.st Z Z Z (SR.load Z Z (fun w' hx => ldE oU oI Z Z Z (CA.ext (hS.cells (i := 0) Z) hx) Z)) ?_
 obtain ⟨t4, ht4, H⟩ := pbind H
 refine OJ.callF Z Z Z Z Z hb30 Z (impl_Pasture_hurdles.c k _ a0 _ ht4) ?_
 rintro _ w1 ⟨A5, c6, rfl, hs⟩
 replace hS := hS.addN hs
 refine OJ.pures oU 2 Z (OJ.nil (EJ.next ?_))
 obtain ⟨j198, H, K198⟩ := pbind H
 refine CJ.cut1 (fun F w1 => ∃ (y7 : List Hurdle) (A8 : Option Addr) (c9 : Nat), (some y7 : Option (List Hurdle)) = some j198 ∧ F = [(4, .slice A8 y7.length c9)] ∧ St w no w1 [rowC cHurdle A8 c9 48 y7] []) ?_ ?_
 ·skip
  refine CJ.block ?_
  refine CJ.loop (fun k F w1 => ∃ (y10 : Pasture) (y11 : List Hurdle) (y14 : Int) (A12 : Option Addr) (c13 : Nat), F = [(1, .pointer (some ⟨b1, 0, none⟩)), (4, .slice A12 y11.length c13), (13, .slice A5 t4.length c6), (14, .int .i64 (t4.length : Int)), (15, .int .i64 y14)] ∧ St w no w1 [box b1 (cPasture.enc y10) 31, rowC cHurdle A12 c13 48 y11, rowC cHurdle A5 c6 48 t4] [] ∧ impl_JoinYards.l1 t4 k y10 y11 y14 = some j198) k (F' := [(1, .pointer (some ⟨b1, 0, none⟩)), (4, .slice A3 ([] : List Hurdle).length (([] : List Hurdle).length)), (13, .slice A5 t4.length c6), (14, .int .i64 (t4.length : Int)), (15, .int .i64 0)]) ⟨Z, Z, Z, Z, Z, trivial⟩ ⟨a0, ([] : List Hurdle), 0, A3, (([] : List Hurdle).length), Z, hS.pick [0, 1, 2] [] Z, H⟩ ?_
  rintro k F w1 ⟨y10, y11, y14, A12, c13, rfl, hS, H⟩
  cases k with
  | zero => rw [impl_JoinYards.l1] at H; cases H
  | succ k =>
    rw [impl_JoinYards.l1] at H
    refine CJ.seq (CJ.region ?_)
    refine OJ.pures oU 1 Z (OJ.nil (EJ.next ?_))
    refine CJ.seq ?_
    refine CJ.cond Z (fun hb => ?_) (fun hb => ?_)
    · replace H := pif_t (of_decide_eq_true hb) H
      refine CJ.skip (EJ.next ?_)
      refine CJ.seq ?_
      refine CJ.block ?_
      refine CJ.seq (CJ.region ?_)
      obtain ⟨t15, ht15, H⟩ := pbind H
      obtain ⟨ad15, e15⟩ := (hS.rd (i := 2) rfl).some' ht15
      refine OJ.st Z Z Z (SR.idxS oU oI Z Z Z Z e15 Z (getI_some ht15).1) ?_
      refine OJ.st Z Z Z (SR.load Z Z (fun w' hx => ldE oU oI Z Z Z (CA.ext ((hS.rd (i := 2) Z).at_ e15 ht15) hx) Z)) ?_
      refine OJ.ef Z Z Z (Ef.alloc hS oI Z Z (cHurdle.enc (⟨(⟨0, 0⟩ : Spot), false⟩ : Hurdle)) Z) ?_
      rintro _ w1 ⟨b16, rfl, hS⟩
      refine OJ.es Z Z (Es.store oI hS (i := 3) Z Z Z Z Z Z (vs := cHurdle.enc t15) Z (cHurdle.len _) (cHurdle.one _) (Nat.le_of_ble_eq_true Z) (cHurdle.enc t15) Z) ?_
      intro w1 hS
      refine OJ.nil (EJ.next ?_)
      refine CJ.seq (CJ.region ?_)
      refine OJ.st Z Z Z (SR.load Z Z (fun w' hx => ldE oU oI Z Z Z (CA.ext (hS.cells (i := 0) Z) hx) Z)) ?_
      refine OJ.st Z Z Z (SR.fieldAddr oU oI Z Z Z Z Z Z) ?_
      refine OJ.st Z Z Z (SR.load Z Z (fun w' hx => ldN oU oI Z Z Z (CA.ext (CA.sub (hS.cells (i := 3) Z) 0) hx) (cSpot.len _) Z)) ?_
      refine OJ.ef Z Z Z (Ef.lit oU oI hS (C := cSpot) Z Z Z Z Z Z ([t15.At] : List Spot) Z Z Z Z) ?_
      rintro _ w1 ⟨A17, rfl, hS⟩
      obtain ⟨t18, ht18, H⟩ := pbind H
      refine OJ.callF Z Z Z Z Z hb31 Z (impl_Pasture_far.c k _ y10 A17 (([t15.At] : List Spot).length) ([t15.At] : List Spot) (hS.rd (i := 4) Z) (hS.le (i := 4) Z) _ ht18) ?_
      rintro _ w1 ⟨rfl, hs⟩
      replace hS := hS.grow hs
      refine OJ.ef rfl rfl rfl (Ef.alloc hS oI rfl rfl ((carr 10 (carr 10 (ci .i16))).enc (Arr.mk' (Arr.mk' 0 : Arr 10 Int) : Arr 10 (Arr 10 Int))) (by kernel_rfl)) ?_
      rintro _ w1 ⟨b19, rfl, hS⟩
      refine OJ.es rfl rfl (Es.put oI hS (i := 5) rfl rfl rfl rfl rfl (vs := (carr 10 (carr 10 (ci .i16))).enc t18) rfl ((carr 10 (carr 10 (ci .i16))).len _) ((carr 10 (carr 10 (ci .i16))).one _) (Put.all (carr 10 (carr 10 (ci .i16))) (Arr.mk' (Arr.mk' 0 : Arr 10 Int) : Arr 10 (Arr 10 Int)) t18) (by (try simp only [add_lit, Nat.add_assoc, Nat.zero_add, Nat.add_zero]) <;> rfl)) ?_
      intro w1 hS
      refine OJ.nil (EJ.next ?_)
      refine CJ.seq (CJ.region ?_)
      refine OJ.st Z Z Z (SR.load Z Z (fun w' hx => ldE oU oI Z Z Z (CA.ext (hS.cells (i := 3) Z) hx) Z)) ?_
      obtain ⟨t20, ht20, H⟩ := pbind H
      refine OJ.callF Z Z Z Z Z hb33 Z (impl_Hurdle_other.c _ t15 _ ht20) ?_
      rintro _ w1 ⟨rfl, hs⟩
      replace hS := hS.grow hs
      obtain ⟨t21, ht21, H⟩ := pbind H
      refine OJ.callF Z Z Z Z Z hb32 Z (impl_steps_at.c _ _ t18 (hS.cells (i := 5) Z) t20 _ ht21) ?_
      rintro _ w1 ⟨rfl, hs⟩
      replace hS := hS.grow hs
      refine OJ.pures oU 1 Z (OJ.nil (EJ.next ?_))
      refine CJ.cond Z (fun hb => ?_) (fun hb => ?_)
      · replace H := pif_t (of_decide_eq_true hb) H
        refine CJ.seq (CJ.region ?_)
        refine OJ.pures oU 1 Z ?_
        refine OJ.st Z Z Z (SR.load Z Z (fun w' hx => ldE oU oI Z Z Z (CA.ext (hS.cells (i := 3) Z) hx) Z)) ?_
        refine OJ.ef Z Z Z (Ef.lit oU oI hS (C := cHurdle) Z Z Z Z Z Z ([t15] : List Hurdle) Z Z Z Z) ?_
        rintro _ w1 ⟨A22, rfl, hS⟩
        obtain ⟨u23, hu23, H⟩ := pbind H
        refine OJ.ew Z Z Z (Ew.append oU oI (C := cHurdle) (xs := y11) (ys := ([t15] : List Hurdle)) hS (i := 1) Z Z Z Z Z Z Z Z Z Z Z Z Z (hS.rd (i := 6) Z) (chk_some hu23)) ?_
        rintro _ w1 ⟨A24, c25, rfl, hS⟩
        refine OJ.pures oU 1 Z (OJ.nil (EJ.next ?_))
        refine CJ.region ?_
        refine OJ.st Z Z Z (SR.load Z Z (fun w' hx => ldE oU oI Z Z Z (CA.ext (hS.cells (i := 3) Z) hx) Z)) ?_
        obtain ⟨t26, ht26, H⟩ := pbind H
        refine OJ.callF Z Z Z Z Z hb34 Z (impl_Pasture_put.c _ b1 y10 t15 false ((hS.subs [0] [] [] Z).pick [0] [] Z) _ ht26) ?_
        rintro _ w1 ⟨rfl, hs⟩
        replace hS := hS.back [0] Z Z [box b1 (cPasture.enc t26) 31] [] hs ⟨fun _ => Iff.rfl, trivial⟩
        have hS : St w no w1 [box b1 (cPasture.enc t26) 31, rowC cHurdle A24 c25 48 (y11 ++ ([t15] : List Hurdle)), rowC cHurdle A5 c6 48 t4, box b16 (cHurdle.enc t15) 48, rowC cSpot A17 (([t15.At] : List Spot).length) 45 ([t15.At] : List Spot), box b19 ((carr 10 (carr 10 (ci .i16))).enc t18) 64, rowC cHurdle A22 (([t15] : List Hurdle).length) 48 ([t15] : List Hurdle)] [] := hS
        have hS : St w no w1 [box b1 (cPasture.enc t26) 31, rowC cHurdle A24 c25 48 (y11 ++ ([t15] : List Hurdle)), rowC cHurdle A5 c6 48 t4, box b16 (cHurdle.enc t15) 48, rowC cSpot A17 (([t15.At] : List Spot).length) 45 ([t15.At] : List Spot), box b19 ((carr 10 (carr 10 (ci .i16))).enc t18) 64, rowC cHurdle A22 (([t15] : List Hurdle).length) 48 ([t15] : List Hurdle)] [] := hS
        refine OJ.nil (EJ.blk (EJ.next ?_))
        refine CJ.region ?_
        refine OJ.pures oU 2 Z ?_
        refine OJ.nil ?_
        exact EJ.round k (F' := [(1, .pointer (some ⟨b1, 0, none⟩)), (4, .slice A24 (y11 ++ ([t15] : List Hurdle)).length c25), (13, .slice A5 t4.length c6), (14, .int .i64 (t4.length : Int)), (15, .int .i64 (IntKind.i64.wrap (y14 + 1)))]) ⟨Z, Z, Z, Z, Z, trivial⟩ (Nat.lt_succ_self _) ⟨t26, (y11 ++ ([t15] : List Hurdle)), (IntKind.i64.wrap (y14 + 1)), A24, c25, Z, hS.pick [0, 1, 2] [] Z, H⟩
      · replace H := pif_f (of_decide_eq_false hb) H
        refine CJ.skip (EJ.blk (EJ.next ?_))
        refine CJ.region ?_
        refine OJ.pures oU 2 Z ?_
        refine OJ.nil ?_
        exact EJ.round k (F' := [(1, .pointer (some ⟨b1, 0, none⟩)), (4, .slice A12 y11.length c13), (13, .slice A5 t4.length c6), (14, .int .i64 (t4.length : Int)), (15, .int .i64 (IntKind.i64.wrap (y14 + 1)))]) ⟨Z, Z, Z, Z, Z, trivial⟩ (Nat.lt_succ_self _) ⟨y10, y11, (IntKind.i64.wrap (y14 + 1)), A12, c13, Z, hS.pick [0, 1, 2] [] Z, H⟩
    · replace H := pif_f (of_decide_eq_false hb) H
      refine CJ.exit (EJ.skE (EJ.skE (EJ.hit (?_))))
      exact EJ.meet (F' := [(4, .slice A12 y11.length c13)]) ⟨Z, trivial⟩ ⟨y11, A12, c13, H, Z, hS.pick [1] [] Z⟩
 rintro F w1 ⟨y7, A8, c9, he, rfl, hS⟩
 obtain rfl := Option.some.inj he
 have H := K198
 refine EJ.next ?_
 refine CJ.seq (CJ.region ?_)
 refine OJ.pures oU 3 Z (OJ.nil (EJ.next ?_))
 refine CJ.ret (?_)
 obtain rfl := Option.some.inj H
 exact EJ.fin Z (.tmp Z (.tmp Z .nil)) ⟨A8, c9, Z, hS.pick [0] [] Z⟩

def spec_l03Side.f (a0 : Hurdle) : Option Int := if a0.South = true then (some 2) else (some 1)
theorem spec_l03Side.c (w : World) (a0 : Hurdle) (r : Int) (H : spec_l03Side.f a0 = some r) :
 CV Tryz.prog 38 [.agg (cHurdle.enc a0).toArray].toArray w fun v w' => v = .int .i64 r ∧ Ext w w' := by
 have hS := (St.init w no)
 unfold spec_l03Side.f at H
 refine CV.body Tryz.func38 Z Tryz.ntmps38 Z ?_
 refine CJ.seq (CJ.region ?_)
 refine OJ.ef Z Z Z (Ef.box hS Z Z (cHurdle.enc a0) Z) ?_
 rintro _ w1 ⟨b1, rfl, hS⟩
 refine OJ.pures oU 1 Z (OJ.nil (EJ.next ?_))
 refine CJ.seq ?_
 refine CJ.seq (CJ.region ?_)
 refine OJ.st Z Z Z (SR.fieldAddr oU oI Z Z Z Z Z Z) ?_
 refine OJ.st Z Z Z (SR.load Z Z (fun w' hx => ld1 oU Z Z (CA.ext (CA.sub (hS.cells (i := 0) Z) 2) hx) Z)) ?_
 refine OJ.nil (EJ.next ?_)
 refine CJ.cond Z (fun hb => ?_) (fun hb => ?_)
 ·replace H := pif_t hb H
  refine CJ.seq (CJ.region ?_)
  refine OJ.pures oU 1 Z (OJ.nil (EJ.next ?_))
  refine CJ.ret (EJ.skR (?_))
  obtain rfl := Option.some.inj H
  exact EJ.fin Z (.tmp Z .nil) ⟨Z, hS.ext⟩
 replace H := pifb_f hb H
 refine CJ.skip (EJ.next ?_)
 refine CJ.seq (CJ.region ?_)
 refine OJ.pures oU 1 Z (OJ.nil (EJ.next ?_))
 refine CJ.ret (?_)
 obtain rfl := Option.some.inj H
 exact EJ.fin Z (.tmp Z .nil) ⟨Z, hS.ext⟩

def spec_l03Is.f (a0 : Pasture) (a1 : Hurdle) : Option Bool := (spec_l01Is.f a0 a1.At).bind fun t2 => if t2 = true then ((spec_l03Side.f a1).bind fun t3 => (spec_l01Next.f a1.At t3).bind fun t4 => (spec_l01Is.f a0 t4).bind fun t5 => some t5) else (some false)
theorem spec_l03Is.c (w : World) (pa0 : Addr) (a0 : Pasture) (hp0 : CA w pa0 (cPasture.enc a0)) (a1 : Hurdle) (r : Bool) (H : spec_l03Is.f a0 a1 = some r) :
 CV Tryz.prog 77 [.pointer (some pa0), .agg (cHurdle.enc a1).toArray].toArray w fun v w' => v = .bool r ∧ Ext w w' := by
 have hS := ((St.init w no).paramP pa0 (cPasture.enc a0) hp0)
 unfold spec_l03Is.f at H
 refine CV.body Tryz.func77 Z Tryz.ntmps77 Z ?_
 refine CJ.seq (CJ.region ?_)
 refine OJ.ef Z Z Z (Ef.box hS Z Z (cHurdle.enc a1) Z) ?_
 rintro _ w1 ⟨b1, rfl, hS⟩
 refine OJ.pures oU 1 Z (OJ.nil (EJ.next ?_))
 refine CJ.seq ?_
 refine CJ.draw [] [0, 1, 2, 3, 4, 5, 6, 7, 8, 9, 10, 11, 12, 13] mixed (by kernel_rfl) hS fun w1 hS => ?_
 refine DJ.pures oU 1 Z ?_
 refine DJ.st Z Z Z Z Z (SR.fieldAddr oU oI Z Z Z Z Z Z) ?_
 refine DJ.st Z Z Z Z Z (SR.load Z Z (fun w' hx => ldN oU oI Z Z Z (CA.ext (CA.sub (hS.cells (i := 0) Z) 0) hx) (cSpot.len _) Z)) ?_
 obtain ⟨t2, ht2, H⟩ := pbind H
 refine DJ.callF rfl rfl rfl rfl rfl rfl rfl hb51 rfl (spec_l01Is.c _ _ a0 (hS.ca (i := 0) rfl) a1.At _ ht2) (by rintro v w' ⟨rfl, hs⟩; exact hs) ?_
 rintro _ w1 ⟨rfl, hs⟩
 replace hS := hS.grow hs
 refine DJ.pures oU 1 Z ?_
 refine DJ.split (t := 9) Z (fun hb => ?_) (fun hb => ?_)
 ·replace H := pif_t hb H
  refine DJ.pures oU 1 Z ?_
  refine DJ.st Z Z Z Z Z (SR.fieldAddr oU oI Z Z Z Z Z Z) ?_
  refine DJ.st Z Z Z Z Z (SR.load Z Z (fun w' hx => ldN oU oI Z Z Z (CA.ext (CA.sub (hS.cells (i := 0) Z) 0) hx) (cSpot.len _) Z)) ?_
  refine DJ.st Z Z Z Z Z (SR.load Z Z (fun w' hx => ldE oU oI Z Z Z (CA.ext (hS.cells (i := 0) Z) hx) Z)) ?_
  obtain ⟨t3, ht3, H⟩ := pbind H
  refine DJ.callF rfl rfl rfl rfl rfl rfl rfl hb38 rfl (spec_l03Side.c _ a1 _ ht3) (by rintro v w' ⟨rfl, hs⟩; exact hs) ?_
  rintro _ w1 ⟨rfl, hs⟩
  replace hS := hS.grow hs
  obtain ⟨t4, ht4, H⟩ := pbind H
  refine DJ.callF rfl rfl rfl rfl rfl rfl rfl hb37 rfl (spec_l01Next.c _ a1.At t3 _ ht4) (by rintro v w' ⟨rfl, hs⟩; exact hs) ?_
  rintro _ w1 ⟨rfl, hs⟩
  replace hS := hS.grow hs
  obtain ⟨t5, ht5, H⟩ := pbind H
  refine DJ.callF rfl rfl rfl rfl rfl rfl rfl hb51 rfl (spec_l01Is.c _ _ a0 (hS.ca (i := 0) rfl) t4 _ ht5) (by rintro v w' ⟨rfl, hs⟩; exact hs) ?_
  rintro _ w1 ⟨rfl, hs⟩
  replace hS := hS.grow hs
  refine DJ.pures oU 2 Z ?_
  refine DJ.nil (EJ.next ?_)
  refine CJ.ret (?_)
  obtain rfl := Option.some.inj H
  exact EJ.fin Z (.tmp Z .nil) ⟨Z, hS.ext⟩
 replace H := pifb_f hb H
 refine DJ.pures oU 9 Z ?_
 refine DJ.nil (EJ.next ?_)
 refine CJ.ret (?_)
 obtain rfl := Option.some.inj H
 exact EJ.fin Z (.tmp Z .nil) ⟨Z, hS.ext⟩

def spec_l03All.l2 (a0 : Pasture) (y8 : Int) : Nat → (List Hurdle) → Int → Option (List Hurdle)
  | 0, _, _ => none
  | k + 1, y15, y18 => if y18 < a0.Wide then ((spec_l03Is.f a0 (⟨(⟨y18, y8⟩ : Spot), false⟩ : Hurdle)).bind fun t21 => if t21 = true then ((chk (y15.length + ([(⟨(⟨y18, y8⟩ : Spot), false⟩ : Hurdle)] : List Hurdle).length ≤ 4294967296)).bind fun u23 => (spec_l03Is.f a0 (⟨(⟨y18, y8⟩ : Spot), true⟩ : Hurdle)).bind fun t26 => if t26 = true then ((chk ((y15 ++ ([(⟨(⟨y18, y8⟩ : Spot), false⟩ : Hurdle)] : List Hurdle)).length + ([(⟨(⟨y18, y8⟩ : Spot), true⟩ : Hurdle)] : List Hurdle).length ≤ 4294967296)).bind fun u28 => spec_l03All.l2 a0 y8 k ((y15 ++ ([(⟨(⟨y18, y8⟩ : Spot), false⟩ : Hurdle)] : List Hurdle)) ++ ([(⟨(⟨y18, y8⟩ : Spot), true⟩ : Hurdle)] : List Hurdle)) (IntKind.i8.wrap (y18 + 1))) else (spec_l03All.l2 a0 y8 k (y15 ++ ([(⟨(⟨y18, y8⟩ : Spot), false⟩ : Hurdle)] : List Hurdle)) (IntKind.i8.wrap (y18 + 1)))) else ((spec_l03Is.f a0 (⟨(⟨y18, y8⟩ : Spot), true⟩ : Hurdle)).bind fun t31 => if t31 = true then ((chk (y15.length + ([(⟨(⟨y18, y8⟩ : Spot), true⟩ : Hurdle)] : List Hurdle).length ≤ 4294967296)).bind fun u33 => spec_l03All.l2 a0 y8 k (y15 ++ ([(⟨(⟨y18, y8⟩ : Spot), true⟩ : Hurdle)] : List Hurdle)) (IntKind.i8.wrap (y18 + 1))) else (spec_l03All.l2 a0 y8 k y15 (IntKind.i8.wrap (y18 + 1))))) else (some y15)
def spec_l03All.l1 (a0 : Pasture) : Nat → (List Hurdle) → Int → Option (List Hurdle)
  | 0, _, _ => none
  | k + 1, y5, y8 => if y8 < a0.High then (((spec_l03All.l2 a0 y8 k y5 0).bind fun y12 => some y12).bind fun y9 => spec_l03All.l1 a0 k y9 (IntKind.i8.wrap (y8 + 1))) else (some y5)
def spec_l03All.f (k : Nat) (a0 : Pasture) : Option (List Hurdle) := (spec_l03All.l1 a0 k ([] : List Hurdle) 0).bind fun y2 => some y2
theorem spec_l03All.c (k : Nat) (w : World) (pa0 : Addr) (a0 : Pasture) (hp0 : CA w pa0 (cPasture.enc a0)) (r : List Hurdle) (H : spec_l03All.f k a0 = some r) :
 CV Tryz.prog 46 [.pointer (some pa0)].toArray w fun v w' => ∃ (A0 : Option Addr) (c0 : Nat), v = .slice A0 r.length c0 ∧ St w no w' [rowC cHurdle A0 c0 48 r] [] := by
 have hS := ((St.init w no).paramP pa0 (cPasture.enc a0) hp0)
 unfold spec_l03All.f at H
 refine CV.body Tryz.func46 Z Tryz.ntmps46 Z ?_
 refine CJ.seq (CJ.region ?_)
 refine OJ.pures oU 1 Z (OJ.nil (EJ.next ?_))
 refine CJ.seq (CJ.region ?_)
 refine OJ.ef Z Z Z (Ef.lit oU oI hS (C := cHurdle) Z Z Z Z Z Z ([] : List Hurdle) Z Z Z Z) ?_
 rintro _ w1 ⟨A1, rfl, hS⟩
 refine OJ.pures oU 1 Z (OJ.nil (EJ.next ?_))
 refine CJ.seq ?_
 refine CJ.seq (CJ.region ?_)
 refine OJ.pures oU 1 Z (OJ.nil (EJ.next ?_))
 obtain ⟨j239, H, K239⟩ := pbind H
 refine CJ.cut1 (fun F w1 => ∃ (y2 : List Hurdle) (A3 : Option Addr) (c4 : Nat), (some y2 : Option (List Hurdle)) = some j239 ∧ F = [(3, .slice A3 y2.length c4)] ∧ St w no w1 [rowC cHurdle A3 c4 48 y2] [roP pa0 (cPasture.enc a0)]) ?_ ?_
 ·skip
  refine CJ.block ?_
  refine CJ.loop (fun k F w1 => ∃ (y5 : List Hurdle) (y8 : Int) (A6 : Option Addr) (c7 : Nat), F = [(0, .pointer (some pa0)), (3, .slice A6 y5.length c7), (4, .int .i8 y8)] ∧ St w no w1 [rowC cHurdle A6 c7 48 y5] [roP pa0 (cPasture.enc a0)] ∧ spec_l03All.l1 a0 k y5 y8 = some j239) k (F' := [(0, .pointer (some pa0)), (3, .slice A1 ([] : List Hurdle).length (([] : List Hurdle).length)), (4, .int .i8 0)]) ⟨Z, Z, Z, trivial⟩ ⟨([] : List Hurdle), 0, A1, (([] : List Hurdle).length), Z, hS.pick [0] [0] Z, H⟩ ?_
  rintro k F w1 ⟨y5, y8, A6, c7, rfl, hS, H⟩
  cases k with
  | zero => rw [spec_l03All.l1] at H; cases H
  | succ k =>
    rw [spec_l03All.l1] at H
    refine CJ.seq ?_
    refine CJ.seq (CJ.region ?_)
    refine OJ.pures oU 3 Z ?_
    refine OJ.st Z Z Z (SR.fieldAddr oU oI Z Z Z Z Z Z) ?_
    refine OJ.st Z Z Z (SR.load Z Z (fun w' hx => ld1 oU Z Z (CA.ext (CA.fld (hS.ca (i := 0) Z) (mid_part (fe_Pasture_1 _) (fl_Pasture_1 _) ((ci .i8).len _))) hx) Z)) ?_
    refine OJ.pures oU 1 Z (OJ.nil (EJ.next ?_))
    refine CJ.cond Z (fun hb => ?_) (fun hb => ?_)
    · replace H := pif_t (of_decide_eq_true hb) H
      refine CJ.skip (EJ.next ?_)
      obtain ⟨j246, H, K246⟩ := pbind H
      refine CJ.cut (fun F w1 => ∃ (y9 : List Hurdle) (A10 : Option Addr) (c11 : Nat), (some y9 : Option (List Hurdle)) = some j246 ∧ F = [(0, .pointer (some pa0)), (3, .slice A10 y9.length c11), (4, .int .i8 y8)] ∧ St w no w1 [rowC cHurdle A10 c11 48 y9] [roP pa0 (cPasture.enc a0)]) ?_ ?_
      · skip
        refine CJ.block ?_
        refine CJ.seq (CJ.region ?_)
        refine OJ.pures oU 1 Z (OJ.nil (EJ.next ?_))
        obtain ⟨j248, H, K248⟩ := pbind H
        refine CJ.cut1 (fun F w1 => ∃ (y12 : List Hurdle) (A13 : Option Addr) (c14 : Nat), (some y12 : Option (List Hurdle)) = some j248 ∧ F = [(0, .pointer (some pa0)), (3, .slice A13 y12.length c14), (4, .int .i8 y8)] ∧ St w no w1 [rowC cHurdle A13 c14 48 y12] [roP pa0 (cPasture.enc a0)]) ?_ ?_
        · skip
          refine CJ.block ?_
          refine CJ.loop (fun k F w1 => ∃ (y15 : List Hurdle) (y18 : Int) (A16 : Option Addr) (c17 : Nat), F = [(0, .pointer (some pa0)), (3, .slice A16 y15.length c17), (4, .int .i8 y8), (5, .int .i8 y18)] ∧ St w no w1 [rowC cHurdle A16 c17 48 y15] [roP pa0 (cPasture.enc a0)] ∧ spec_l03All.l2 a0 y8 k y15 y18 = some j248) k (F' := [(0, .pointer (some pa0)), (3, .slice A6 y5.length c7), (4, .int .i8 y8), (5, .int .i8 0)]) ⟨Z, Z, Z, Z, trivial⟩ ⟨y5, 0, A6, c7, Z, hS.pick [0] [0] Z, H⟩ ?_
          rintro k F w1 ⟨y15, y18, A16, c17, rfl, hS, H⟩
          cases k with
          | zero => rw [spec_l03All.l2] at H; cases H
          | succ k =>
            rw [spec_l03All.l2] at H
            refine CJ.seq ?_
            refine CJ.seq (CJ.region ?_)
            refine OJ.pures oU 3 Z ?_
            refine OJ.st Z Z Z (SR.fieldAddr oU oI Z Z Z Z Z Z) ?_
            refine OJ.st Z Z Z (SR.load Z Z (fun w' hx => ld1 oU Z Z (CA.ext (CA.fld (hS.ca (i := 0) Z) (mid_part (fe_Pasture_0 _) (fl_Pasture_0 _) ((ci .i8).len _))) hx) Z)) ?_
            refine OJ.pures oU 1 Z (OJ.nil (EJ.next ?_))
            refine CJ.cond Z (fun hb => ?_) (fun hb => ?_)
            · replace H := pif_t (of_decide_eq_true hb) H
              refine CJ.skip (EJ.next ?_)
              refine CJ.seq ?_
              refine CJ.block ?_
              refine CJ.seq (CJ.region ?_)
              refine OJ.pures oU 2 Z ?_
              refine OJ.st Z Z Z (SR.build (C := cSpot) oU oI Z Z Z (zs := [.int .i8 0, .int .i8 0]) Z Z Z (⟨y18, y8⟩ : Spot) Z) ?_
              refine OJ.st Z Z Z (SR.build (C := cHurdle) oU oI Z Z Z (zs := [.int .i8 0, .int .i8 0, .bool false]) Z Z Z (⟨(⟨y18, y8⟩ : Spot), false⟩ : Hurdle) Z) ?_
              refine OJ.ef Z Z Z (Ef.alloc hS oI Z Z (cHurdle.enc (⟨(⟨0, 0⟩ : Spot), false⟩ : Hurdle)) Z) ?_
              rintro _ w1 ⟨b19, rfl, hS⟩
              refine OJ.es Z Z (Es.store oI hS (i := 1) Z Z Z Z Z Z (vs := cHurdle.enc (⟨(⟨y18, y8⟩ : Spot), false⟩ : Hurdle)) Z (cHurdle.len _) (cHurdle.one _) (Nat.le_of_ble_eq_true Z) (cHurdle.enc (⟨(⟨y18, y8⟩ : Spot), false⟩ : Hurdle)) Z) ?_
              intro w1 hS
              refine OJ.nil (EJ.next ?_)
              refine CJ.seq (CJ.region ?_)
              refine OJ.pures oU 2 Z ?_
              refine OJ.st Z Z Z (SR.build (C := cSpot) oU oI Z Z Z (zs := [.int .i8 0, .int .i8 0]) Z Z Z (⟨y18, y8⟩ : Spot) Z) ?_
              refine OJ.st Z Z Z (SR.build (C := cHurdle) oU oI Z Z Z (zs := [.int .i8 0, .int .i8 0, .bool false]) Z Z Z (⟨(⟨y18, y8⟩ : Spot), true⟩ : Hurdle) Z) ?_
              refine OJ.ef Z Z Z (Ef.alloc hS oI Z Z (cHurdle.enc (⟨(⟨0, 0⟩ : Spot), false⟩ : Hurdle)) Z) ?_
              rintro _ w1 ⟨b20, rfl, hS⟩
              refine OJ.es Z Z (Es.store oI hS (i := 2) Z Z Z Z Z Z (vs := cHurdle.enc (⟨(⟨y18, y8⟩ : Spot), true⟩ : Hurdle)) Z (cHurdle.len _) (cHurdle.one _) (Nat.le_of_ble_eq_true Z) (cHurdle.enc (⟨(⟨y18, y8⟩ : Spot), true⟩ : Hurdle)) Z) ?_
              intro w1 hS
              refine OJ.nil (EJ.next ?_)
              refine CJ.seq ?_
              refine CJ.seq (CJ.region ?_)
              refine OJ.pures oU 1 Z ?_
              refine OJ.st Z Z Z (SR.load Z Z (fun w' hx => ldE oU oI Z Z Z (CA.ext (hS.cells (i := 1) Z) hx) Z)) ?_
              obtain ⟨t21, ht21, H⟩ := pbind H
              refine OJ.callF Z Z Z Z Z hb77 Z (spec_l03Is.c _ _ a0 (hS.ca (i := 0) Z) (⟨(⟨y18, y8⟩ : Spot), false⟩ : Hurdle) _ ht21) ?_
              rintro _ w1 ⟨rfl, hs⟩
              replace hS := hS.grow hs
              refine OJ.nil (EJ.next ?_)
              refine CJ.cond Z (fun hb => ?_) (fun hb => ?_)
              · replace H := pif_t hb H
                refine CJ.region ?_
                refine OJ.pures oU 1 Z ?_
                refine OJ.st Z Z Z (SR.load Z Z (fun w' hx => ldE oU oI Z Z Z (CA.ext (hS.cells (i := 1) Z) hx) Z)) ?_
                refine OJ.ef Z Z Z (Ef.lit oU oI hS (C := cHurdle) Z Z Z Z Z Z ([(⟨(⟨y18, y8⟩ : Spot), false⟩ : Hurdle)] : List Hurdle) Z Z Z Z) ?_
                rintro _ w1 ⟨A22, rfl, hS⟩
                obtain ⟨u23, hu23, H⟩ := pbind H
                refine OJ.ew Z Z Z (Ew.append oU oI (C := cHurdle) (xs := y15) (ys := ([(⟨(⟨y18, y8⟩ : Spot), false⟩ : Hurdle)] : List Hurdle)) hS (i := 0) Z Z Z Z Z Z Z Z Z Z Z Z Z (hS.rd (i := 3) Z) (chk_some hu23)) ?_
                rintro _ w1 ⟨A24, c25, rfl, hS⟩
                refine OJ.pures oU 1 Z (OJ.nil (EJ.next ?_))
                refine CJ.seq (CJ.region ?_)
                refine OJ.pures oU 1 Z ?_
                refine OJ.st Z Z Z (SR.load Z Z (fun w' hx => ldE oU oI Z Z Z (CA.ext (hS.cells (i := 2) Z) hx) Z)) ?_
                obtain ⟨t26, ht26, H⟩ := pbind H
                refine OJ.callF Z Z Z Z Z hb77 Z (spec_l03Is.c _ _ a0 (hS.ca (i := 0) Z) (⟨(⟨y18, y8⟩ : Spot), true⟩ : Hurdle) _ ht26) ?_
                rintro _ w1 ⟨rfl, hs⟩
                replace hS := hS.grow hs
                refine OJ.nil (EJ.next ?_)
                refine CJ.cond Z (fun hb => ?_) (fun hb => ?_)
                · replace H := pif_t hb H
                  refine CJ.region ?_
                  refine OJ.pures oU 1 Z ?_
                  refine OJ.st Z Z Z (SR.load Z Z (fun w' hx => ldE oU oI Z Z Z (CA.ext (hS.cells (i := 2) Z) hx) Z)) ?_
                  refine OJ.ef Z Z Z (Ef.lit oU oI hS (C := cHurdle) Z Z Z Z Z Z ([(⟨(⟨y18, y8⟩ : Spot), true⟩ : Hurdle)] : List Hurdle) Z Z Z Z) ?_
                  rintro _ w1 ⟨A27, rfl, hS⟩
                  obtain ⟨u28, hu28, H⟩ := pbind H
                  refine OJ.ew Z Z Z (Ew.append oU oI (C := cHurdle) (xs := (y15 ++ ([(⟨(⟨y18, y8⟩ : Spot), false⟩ : Hurdle)] : List Hurdle))) (ys := ([(⟨(⟨y18, y8⟩ : Spot), true⟩ : Hurdle)] : List Hurdle)) hS (i := 0) Z Z Z Z Z Z Z Z Z Z Z Z Z (hS.rd (i := 4) Z) (chk_some hu28)) ?_
                  rintro _ w1 ⟨A29, c30, rfl, hS⟩
                  refine OJ.pures oU 1 Z ?_
                  refine OJ.nil (EJ.blk (EJ.next ?_))
                  refine CJ.region ?_
                  refine OJ.pures oU 3 Z ?_
                  refine OJ.nil ?_
                  exact EJ.round k (F' := [(0, .pointer (some pa0)), (3, .slice A29 ((y15 ++ ([(⟨(⟨y18, y8⟩ : Spot), false⟩ : Hurdle)] : List Hurdle)) ++ ([(⟨(⟨y18, y8⟩ : Spot), true⟩ : Hurdle)] : List Hurdle)).length c30), (4, .int .i8 y8), (5, .int .i8 (IntKind.i8.wrap (y18 + 1)))]) ⟨Z, Z, Z, Z, trivial⟩ (Nat.lt_succ_self _) ⟨((y15 ++ ([(⟨(⟨y18, y8⟩ : Spot), false⟩ : Hurdle)] : List Hurdle)) ++ ([(⟨(⟨y18, y8⟩ : Spot), true⟩ : Hurdle)] : List Hurdle)), (IntKind.i8.wrap (y18 + 1)), A29, c30, Z, hS.pick [0] [0] Z, H⟩
                · replace H := pifb_f hb H
                  refine CJ.skip (EJ.blk (EJ.next ?_))
                  refine CJ.region ?_
                  refine OJ.pures oU 3 Z ?_
                  refine OJ.nil ?_
                  exact EJ.round k (F' := [(0, .pointer (some pa0)), (3, .slice A24 (y15 ++ ([(⟨(⟨y18, y8⟩ : Spot), false⟩ : Hurdle)] : List Hurdle)).length c25), (4, .int .i8 y8), (5, .int .i8 (IntKind.i8.wrap (y18 + 1)))]) ⟨Z, Z, Z, Z, trivial⟩ (Nat.lt_succ_self _) ⟨(y15 ++ ([(⟨(⟨y18, y8⟩ : Spot), false⟩ : Hurdle)] : List Hurdle)), (IntKind.i8.wrap (y18 + 1)), A24, c25, Z, hS.pick [0] [0] Z, H⟩
              · replace H := pifb_f hb H
                refine CJ.skip (EJ.next ?_)
                refine CJ.seq (CJ.region ?_)
                refine OJ.pures oU 1 Z ?_
                refine OJ.st Z Z Z (SR.load Z Z (fun w' hx => ldE oU oI Z Z Z (CA.ext (hS.cells (i := 2) Z) hx) Z)) ?_
                obtain ⟨t31, ht31, H⟩ := pbind H
                refine OJ.callF Z Z Z Z Z hb77 Z (spec_l03Is.c _ _ a0 (hS.ca (i := 0) Z) (⟨(⟨y18, y8⟩ : Spot), true⟩ : Hurdle) _ ht31) ?_
                rintro _ w1 ⟨rfl, hs⟩
                replace hS := hS.grow hs
                refine OJ.nil (EJ.next ?_)
                refine CJ.cond Z (fun hb => ?_) (fun hb => ?_)
                · replace H := pif_t hb H
                  refine CJ.region ?_
                  refine OJ.pures oU 1 Z ?_
                  refine OJ.st Z Z Z (SR.load Z Z (fun w' hx => ldE oU oI Z Z Z (CA.ext (hS.cells (i := 2) Z) hx) Z)) ?_
                  refine OJ.ef Z Z Z (Ef.lit oU oI hS (C := cHurdle) Z Z Z Z Z Z ([(⟨(⟨y18, y8⟩ : Spot), true⟩ : Hurdle)] : List Hurdle) Z Z Z Z) ?_
                  rintro _ w1 ⟨A32, rfl, hS⟩
                  obtain ⟨u33, hu33, H⟩ := pbind H
                  refine OJ.ew Z Z Z (Ew.append oU oI (C := cHurdle) (xs := y15) (ys := ([(⟨(⟨y18, y8⟩ : Spot), true⟩ : Hurdle)] : List Hurdle)) hS (i := 0) Z Z Z Z Z Z Z Z Z Z Z Z Z (hS.rd (i := 3) Z) (chk_some hu33)) ?_
                  rintro _ w1 ⟨A34, c35, rfl, hS⟩
                  refine OJ.pures oU 1 Z ?_
                  refine OJ.nil (EJ.blk (EJ.next ?_))
                  refine CJ.region ?_
                  refine OJ.pures oU 3 Z ?_
                  refine OJ.nil ?_
                  exact EJ.round k (F' := [(0, .pointer (some pa0)), (3, .slice A34 (y15 ++ ([(⟨(⟨y18, y8⟩ : Spot), true⟩ : Hurdle)] : List Hurdle)).length c35), (4, .int .i8 y8), (5, .int .i8 (IntKind.i8.wrap (y18 + 1)))]) ⟨Z, Z, Z, Z, trivial⟩ (Nat.lt_succ_self _) ⟨(y15 ++ ([(⟨(⟨y18, y8⟩ : Spot), true⟩ : Hurdle)] : List Hurdle)), (IntKind.i8.wrap (y18 + 1)), A34, c35, Z, hS.pick [0] [0] Z, H⟩
                · replace H := pifb_f hb H
                  refine CJ.skip (EJ.blk (EJ.next ?_))
                  refine CJ.region ?_
                  refine OJ.pures oU 3 Z ?_
                  refine OJ.nil ?_
                  exact EJ.round k (F' := [(0, .pointer (some pa0)), (3, .slice A16 y15.length c17), (4, .int .i8 y8), (5, .int .i8 (IntKind.i8.wrap (y18 + 1)))]) ⟨Z, Z, Z, Z, trivial⟩ (Nat.lt_succ_self _) ⟨y15, (IntKind.i8.wrap (y18 + 1)), A16, c17, Z, hS.pick [0] [0] Z, H⟩
            · replace H := pif_f (of_decide_eq_false hb) H
              refine CJ.exit (EJ.skE (EJ.skE (EJ.hit (?_))))
              exact EJ.meet (F' := [(0, .pointer (some pa0)), (3, .slice A16 y15.length c17), (4, .int .i8 y8)]) ⟨Z, Z, Z, trivial⟩ ⟨y15, A16, c17, H, Z, hS.pick [0] [0] Z⟩
        · rintro F w1 ⟨y12, A13, c14, he, rfl, hS⟩
          obtain rfl := Option.some.inj he
          have H := K248
          refine EJ.blk (?_)
          exact EJ.meet (F' := [(0, .pointer (some pa0)), (3, .slice A13 y12.length c14), (4, .int .i8 y8)]) ⟨Z, Z, Z, trivial⟩ ⟨y12, A13, c14, H, Z, hS.pick [0] [0] Z⟩
      · rintro F w1 ⟨y9, A10, c11, he, rfl, hS⟩
        obtain rfl := Option.some.inj he
        have H := K246
        refine CJ.region ?_
        refine OJ.pures oU 3 Z ?_
        refine OJ.nil ?_
        exact EJ.round k (F' := [(0, .pointer (some pa0)), (3, .slice A10 y9.length c11), (4, .int .i8 (IntKind.i8.wrap (y8 + 1)))]) ⟨Z, Z, Z, trivial⟩ (Nat.lt_succ_self _) ⟨y9, (IntKind.i8.wrap (y8 + 1)), A10, c11, Z, hS.pick [0] [0] Z, H⟩
    · replace H := pif_f (of_decide_eq_false hb) H
      refine CJ.exit (EJ.skE (EJ.skE (EJ.hit (?_))))
      exact EJ.meet (F' := [(3, .slice A6 y5.length c7)]) ⟨Z, trivial⟩ ⟨y5, A6, c7, H, Z, hS.pick [0] [0] Z⟩
 rintro F w1 ⟨y2, A3, c4, he, rfl, hS⟩
 obtain rfl := Option.some.inj he
 have H := K239
 refine EJ.next ?_
 refine CJ.seq (CJ.region ?_)
 refine OJ.pures oU 2 Z (OJ.nil (EJ.next ?_))
 refine CJ.ret (?_)
 obtain rfl := Option.some.inj H
 exact EJ.fin Z (.tmp Z .nil) ⟨A3, c4, Z, hS.pick [0] [] Z⟩

def spec_l03Stands.f (a0 : Pasture) (a1 : Hurdle) : Option Bool := (spec_l03Side.f a1).bind fun t2 => (spec_l01Closed.f a0 a1.At t2).bind fun t3 => some t3
theorem spec_l03Stands.c (w : World) (pa0 : Addr) (a0 : Pasture) (hp0 : CA w pa0 (cPasture.enc a0)) (a1 : Hurdle) (r : Bool) (H : spec_l03Stands.f a0 a1 = some r) :
 CV Tryz.prog 47 [.pointer (some pa0), .agg (cHurdle.enc a1).toArray].toArray w fun v w' => v = .bool r ∧ Ext w w' := by
 have hS := ((St.init w no).paramP pa0 (cPasture.enc a0) hp0)
 unfold spec_l03Stands.f at H
 refine CV.body Tryz.func47 Z Tryz.ntmps47 Z ?_
 refine CJ.seq (CJ.region ?_)
 refine OJ.ef Z Z Z (Ef.box hS Z Z (cHurdle.enc a1) Z) ?_
 rintro _ w1 ⟨b1, rfl, hS⟩
 refine OJ.pures oU 1 Z (OJ.nil (EJ.next ?_))
 refine CJ.seq ?_
 refine CJ.draw [] [0, 1, 2, 3, 4, 5, 6] mixed (by kernel_rfl) hS fun w1 hS => ?_
 refine DJ.pures oU 1 Z ?_
 refine DJ.st Z Z Z Z Z (SR.fieldAddr oU oI Z Z Z Z Z Z) ?_
 refine DJ.st Z Z Z Z Z (SR.load Z Z (fun w' hx => ldN oU oI Z Z Z (CA.ext (CA.sub (hS.cells (i := 0) Z) 0) hx) (cSpot.len _) Z)) ?_
 refine DJ.st Z Z Z Z Z (SR.load Z Z (fun w' hx => ldE oU oI Z Z Z (CA.ext (hS.cells (i := 0) Z) hx) Z)) ?_
 obtain ⟨t2, ht2, H⟩ := pbind H
 refine DJ.callF rfl rfl rfl rfl rfl rfl rfl hb38 rfl (spec_l03Side.c _ a1 _ ht2) (by rintro v w' ⟨rfl, hs⟩; exact hs) ?_
 rintro _ w1 ⟨rfl, hs⟩
 replace hS := hS.grow hs
 obtain ⟨t3, ht3, H⟩ := pbind H
 refine DJ.callF rfl rfl rfl rfl rfl rfl rfl hb78 rfl (spec_l01Closed.c _ _ a0 (hS.ca (i := 0) rfl) a1.At t2 _ ht3) (by rintro v w' ⟨rfl, hs⟩; exact hs) ?_
 rintro _ w1 ⟨rfl, hs⟩
 replace hS := hS.grow hs
 refine DJ.pures oU 1 Z ?_
 refine DJ.nil (EJ.next ?_)
 refine CJ.ret (?_)
 obtain rfl := Option.some.inj H
 exact EJ.fin Z (.tmp Z .nil) ⟨Z, hS.ext⟩

def spec_l03Standing.l1 (a0 : Pasture) (t1 : List Hurdle) : Nat → (List Hurdle) → Int → Option (List Hurdle)
  | 0, _, _ => none
  | k + 1, y8, y11 => if y11 < (t1.length : Int) then ((getI t1 y11).bind fun t12 => (spec_l03Stands.f a0 t12).bind fun t13 => if t13 = true then ((getI t1 y11).bind fun t14 => (chk (y8.length + ([t14] : List Hurdle).length ≤ 4294967296)).bind fun u16 => spec_l03Standing.l1 a0 t1 k (y8 ++ ([t14] : List Hurdle)) (IntKind.i64.wrap (y11 + 1))) else (spec_l03Standing.l1 a0 t1 k y8 (IntKind.i64.wrap (y11 + 1)))) else (some y8)
def spec_l03Standing.f (k : Nat) (a0 : Pasture) : Option (List Hurdle) := (spec_l03All.f k a0).bind fun t1 => (spec_l03Standing.l1 a0 t1 k ([] : List Hurdle) 0).bind fun y5 => some y5
theorem spec_l03Standing.c (k : Nat) (w : World) (pa0 : Addr) (a0 : Pasture) (hp0 : CA w pa0 (cPasture.enc a0)) (r : List Hurdle) (H : spec_l03Standing.f k a0 = some r) :
 CV Tryz.prog 35 [.pointer (some pa0)].toArray w fun v w' => ∃ (A0 : Option Addr) (c0 : Nat), v = .slice A0 r.length c0 ∧ St w no w' [rowC cHurdle A0 c0 48 r] [] := by
 have hS := ((St.init w no).paramP pa0 (cPasture.enc a0) hp0)
 unfold spec_l03Standing.f at H
 refine CV.body Tryz.func35 Z Tryz.ntmps35 Z ?_
 refine CJ.seq (CJ.region ?_)
 refine OJ.pures oU 1 Z (OJ.nil (EJ.next ?_))
 refine CJ.seq (CJ.region ?_)
 refine OJ.pures oU 1 Z ?_
 obtain ⟨t1, ht1, H⟩ := pbind H
 refine OJ.callF Z Z Z Z Z hb46 Z (spec_l03All.c k _ _ a0 (hS.ca (i := 0) Z) _ ht1) ?_
 rintro _ w1 ⟨A2, c3, rfl, hs⟩
 replace hS := hS.addN hs
 refine OJ.pures oU 1 Z (OJ.nil (EJ.next ?_))
 refine CJ.seq (CJ.region ?_)
 refine OJ.ef Z Z Z (Ef.lit oU oI hS (C := cHurdle) Z Z Z Z Z Z ([] : List Hurdle) Z Z Z Z) ?_
 rintro _ w1 ⟨A4, rfl, hS⟩
 refine OJ.pures oU 1 Z (OJ.nil (EJ.next ?_))
 refine CJ.seq ?_
 refine CJ.seq (CJ.region ?_)
 refine OJ.pures oU 1 Z (OJ.nil (EJ.next ?_))
 obtain ⟨j249, H, K249⟩ := pbind H
 refine CJ.cut1 (fun F w1 => ∃ (y5 : List Hurdle) (A6 : Option Addr) (c7 : Nat), (some y5 : Option (List Hurdle)) = some j249 ∧ F = [(4, .slice A6 y5.length c7)] ∧ St w no w1 [rowC cHurdle A6 c7 48 y5] [roP pa0 (cPasture.enc a0)]) ?_ ?_
 ·skip
  refine CJ.block ?_
  refine CJ.loop (fun k F w1 => ∃ (y8 : List Hurdle) (y11 : Int) (A9 : Option Addr) (c10 : Nat), F = [(0, .pointer (some pa0)), (3, .slice A2 t1.length c3), (4, .slice A9 y8.length c10), (5, .int .i64 y11)] ∧ St w no w1 [rowC cHurdle A2 c3 48 t1, rowC cHurdle A9 c10 48 y8] [roP pa0 (cPasture.enc a0)] ∧ spec_l03Standing.l1 a0 t1 k y8 y11 = some j249) k (F' := [(0, .pointer (some pa0)), (3, .slice A2 t1.length c3), (4, .slice A4 ([] : List Hurdle).length (([] : List Hurdle).length)), (5, .int .i64 0)]) ⟨Z, Z, Z, Z, trivial⟩ ⟨([] : List Hurdle), 0, A4, (([] : List Hurdle).length), Z, hS.pick [0, 1] [0] Z, H⟩ ?_
  rintro k F w1 ⟨y8, y11, A9, c10, rfl, hS, H⟩
  cases k with
  | zero => rw [spec_l03Standing.l1] at H; cases H
  | succ k =>
    rw [spec_l03Standing.l1] at H
    refine CJ.seq ?_
    refine CJ.seq (CJ.region ?_)
    refine OJ.pures oU 4 Z (OJ.nil (EJ.next ?_))
    refine CJ.cond Z (fun hb => ?_) (fun hb => ?_)
    · replace H := pif_t (of_decide_eq_true hb) H
      refine CJ.skip (EJ.next ?_)
      refine CJ.seq ?_
      refine CJ.block ?_
      refine CJ.seq (CJ.region ?_)
      refine OJ.pures oU 3 Z ?_
      obtain ⟨t12, ht12, H⟩ := pbind H
      obtain ⟨ad12, e12⟩ := (hS.rd (i := 0) rfl).some' ht12
      refine OJ.st Z Z Z (SR.idxS oU oI Z Z Z Z e12 Z (getI_some ht12).1) ?_
      refine OJ.st Z Z Z (SR.load Z Z (fun w' hx => ldE oU oI Z Z Z (CA.ext ((hS.rd (i := 0) Z).at_ e12 ht12) hx) Z)) ?_
      obtain ⟨t13, ht13, H⟩ := pbind H
      refine OJ.callF Z Z Z Z Z hb47 Z (spec_l03Stands.c _ _ a0 (hS.ca (i := 0) Z) t12 _ ht13) ?_
      rintro _ w1 ⟨rfl, hs⟩
      replace hS := hS.grow hs
      refine OJ.nil (EJ.next ?_)
      refine CJ.cond Z (fun hb => ?_) (fun hb => ?_)
      · replace H := pif_t hb H
        refine CJ.region ?_
        refine OJ.pures oU 3 Z ?_
        obtain ⟨t14, ht14, H⟩ := pbind H
        obtain ⟨ad14, e14⟩ := (hS.rd (i := 0) rfl).some' ht14
        refine OJ.st Z Z Z (SR.idxS oU oI Z Z Z Z e14 Z (getI_some ht14).1) ?_
        refine OJ.st Z Z Z (SR.load Z Z (fun w' hx => ldE oU oI Z Z Z (CA.ext ((hS.rd (i := 0) Z).at_ e14 ht14) hx) Z)) ?_
        refine OJ.ef Z Z Z (Ef.lit oU oI hS (C := cHurdle) Z Z Z Z Z Z ([t14] : List Hurdle) Z Z Z Z) ?_
        rintro _ w1 ⟨A15, rfl, hS⟩
        obtain ⟨u16, hu16, H⟩ := pbind H
        refine OJ.ew Z Z Z (Ew.append oU oI (C := cHurdle) (xs := y8) (ys := ([t14] : List Hurdle)) hS (i := 1) Z Z Z Z Z Z Z Z Z Z Z Z Z (hS.rd (i := 2) Z) (chk_some hu16)) ?_
        rintro _ w1 ⟨A17, c18, rfl, hS⟩
        refine OJ.pures oU 1 Z ?_
        refine OJ.nil (EJ.blk (EJ.next ?_))
        refine CJ.region ?_
        refine OJ.pures oU 3 Z ?_
        refine OJ.nil ?_
        exact EJ.round k (F' := [(0, .pointer (some pa0)), (3, .slice A2 t1.length c3), (4, .slice A17 (y8 ++ ([t14] : List Hurdle)).length c18), (5, .int .i64 (IntKind.i64.wrap (y11 + 1)))]) ⟨Z, Z, Z, Z, trivial⟩ (Nat.lt_succ_self _) ⟨(y8 ++ ([t14] : List Hurdle)), (IntKind.i64.wrap (y11 + 1)), A17, c18, Z, hS.pick [0, 1] [0] Z, H⟩
      · replace H := pifb_f hb H
        refine CJ.skip (EJ.blk (EJ.next ?_))
        refine CJ.region ?_
        refine OJ.pures oU 3 Z ?_
        refine OJ.nil ?_
        exact EJ.round k (F' := [(0, .pointer (some pa0)), (3, .slice A2 t1.length c3), (4, .slice A9 y8.length c10), (5, .int .i64 (IntKind.i64.wrap (y11 + 1)))]) ⟨Z, Z, Z, Z, trivial⟩ (Nat.lt_succ_self _) ⟨y8, (IntKind.i64.wrap (y11 + 1)), A9, c10, Z, hS.pick [0, 1] [0] Z, H⟩
    · replace H := pif_f (of_decide_eq_false hb) H
      refine CJ.exit (EJ.skE (EJ.skE (EJ.hit (?_))))
      exact EJ.meet (F' := [(4, .slice A9 y8.length c10)]) ⟨Z, trivial⟩ ⟨y8, A9, c10, H, Z, hS.pick [1] [0] Z⟩
 rintro F w1 ⟨y5, A6, c7, he, rfl, hS⟩
 obtain rfl := Option.some.inj he
 have H := K249
 refine EJ.next ?_
 refine CJ.seq (CJ.region ?_)
 refine OJ.pures oU 2 Z (OJ.nil (EJ.next ?_))
 refine CJ.ret (?_)
 obtain rfl := Option.some.inj H
 exact EJ.fin Z (.tmp Z .nil) ⟨A6, c7, Z, hS.pick [0] [] Z⟩

def spec_JoinYards.l1 (t5 : List Hurdle) : Nat → Pasture → (List Hurdle) → Int → Option (List Hurdle)
  | 0, _, _, _ => none
  | k + 1, y11, y12, y15 => if y15 < (t5.length : Int) then ((getI t5 y15).bind fun t16 => (spec_l01Steps.f k y11 t16.At).bind fun t17 => (getI t5 y15).bind fun t19 => (getI t5 y15).bind fun t20 => (spec_l03Side.f t20).bind fun t21 => (spec_l01Next.f t19.At t21).bind fun t22 => (getI t17.l t22.Y).bind fun t27 => (getI t27.l t22.X).bind fun t28 => if t28 = 0 then ((getI t5 y15).bind fun t29 => (chk (y12.length + ([t29] : List Hurdle).length ≤ 4294967296)).bind fun u31 => (getI t5 y15).bind fun t34 => (getI t5 y15).bind fun t35 => (spec_l03Side.f t35).bind fun t36 => (spec_l01Set.f y11 t34.At t36 false).bind fun t37 => spec_JoinYards.l1 t5 k t37 (y12 ++ ([t29] : List Hurdle)) (IntKind.i64.wrap (y15 + 1))) else (spec_JoinYards.l1 t5 k y11 y12 (IntKind.i64.wrap (y15 + 1)))) else (some y12)
def spec_JoinYards.f (k : Nat) (a0 : Pasture) : Option (List Hurdle × Int) := (spec_l01Ok.f k a0).bind fun t2 => if (!t2) = true then (some (([] : List Hurdle), 1)) else ((spec_l03Standing.f k a0).bind fun t5 => (spec_JoinYards.l1 t5 k a0 ([] : List Hurdle) 0).bind fun y8 => some (y8, 0))
theorem spec_JoinYards.c (k : Nat) (w : World) (a0 : Pasture) (r : List Hurdle × Int) (H : spec_JoinYards.f k a0 = some r) :
 CV Tryz.prog 8 [.agg (cPasture.enc a0).toArray].toArray w fun v w' => ∃ (A0 : Option Addr) (c0 : Nat), v = .tuple #[.slice A0 r.1.length c0, .int .i64 r.2] ∧ St w no w' [rowC cHurdle A0 c0 48 r.1] [] := by
 have hS := (St.init w no)
 unfold spec_JoinYards.f at H
 refine CV.body Tryz.func8 Z Tryz.ntmps8 Z ?_
 refine CJ.seq (CJ.region ?_)
 refine OJ.ef Z Z Z (Ef.box hS Z Z (cPasture.enc a0) Z) ?_
 rintro _ w1 ⟨b1, rfl, hS⟩
 refine OJ.pures oU 2 Z (OJ.nil (EJ.next ?_))
 refine CJ.seq ?_
 refine CJ.seq (CJ.region ?_)
 obtain ⟨t2, ht2, H⟩ := pbind H
 refine OJ.callF Z Z Z Z Z hb27 Z (spec_l01Ok.c k _ _ a0 (hS.cells (i := 0) Z) _ ht2) ?_
 rintro _ w1 ⟨rfl, hs⟩
 replace hS := hS.grow hs
 refine OJ.pures oU 1 Z (OJ.nil (EJ.next ?_))
 refine CJ.cond Z (fun hb => ?_) (fun hb => ?_)
 ·replace H := pif_t hb H
  refine CJ.seq (CJ.region ?_)
  refine OJ.ef Z Z Z (Ef.lit oU oI hS (C := cHurdle) Z Z Z Z Z Z ([] : List Hurdle) Z Z Z Z) ?_
  rintro _ w1 ⟨A3, rfl, hS⟩
  refine OJ.pures oU 2 Z (OJ.nil (EJ.next ?_))
  refine CJ.ret (EJ.skR (?_))
  obtain rfl := Option.some.inj H
  exact EJ.fin Z (.tmp Z (.tmp Z .nil)) ⟨A3, (([] : List Hurdle).length), Z, hS.pick [1] [] Z⟩
 replace H := pifb_f hb H
 refine CJ.skip (EJ.next ?_)
 refine CJ.seq (CJ.region ?_)
 refine OJ.ef Z Z Z (Ef.lit oU oI hS (C := cHurdle) Z Z Z Z Z Z ([] : List Hurdle) Z Z Z Z) ?_
 rintro _ w1 ⟨A4, rfl, hS⟩
 refine OJ.pures oU 1 Z (OJ.nil (EJ.next ?_))
 refine CJ.seq (CJ.region ?_)
 obtain ⟨t5, ht5, H⟩ := pbind H
 refine OJ.callF Z Z Z Z Z hb35 Z (spec_l03Standing.c k _ _ a0 (hS.cells (i := 0) Z) _ ht5) ?_
 rintro _ w1 ⟨A6, c7, rfl, hs⟩
 replace hS := hS.addN hs
 refine OJ.pures oU 1 Z (OJ.nil (EJ.next ?_))
 refine CJ.seq ?_
 refine CJ.seq (CJ.region ?_)
 refine OJ.pures oU 1 Z (OJ.nil (EJ.next ?_))
 obtain ⟨j250, H, K250⟩ := pbind H
 refine CJ.cut1 (fun F w1 => ∃ (y8 : List Hurdle) (A9 : Option Addr) (c10 : Nat), (some y8 : Option (List Hurdle)) = some j250 ∧ F = [(4, .slice A9 y8.length c10)] ∧ St w no w1 [rowC cHurdle A9 c10 48 y8] []) ?_ ?_
 ·skip
  refine CJ.block ?_
  refine CJ.loop (fun k F w1 => ∃ (y11 : Pasture) (y12 : List Hurdle) (y15 : Int) (A13 : Option Addr) (c14 : Nat), F = [(1, .pointer (some ⟨b1, 0, none⟩)), (4, .slice A13 y12.length c14), (5, .slice A6 t5.length c7), (6, .int .i64 y15)] ∧ St w no w1 [box b1 (cPasture.enc y11) 31, rowC cHurdle A13 c14 48 y12, rowC cHurdle A6 c7 48 t5] [] ∧ spec_JoinYards.l1 t5 k y11 y12 y15 = some j250) k (F' := [(1, .pointer (some ⟨b1, 0, none⟩)), (4, .slice A4 ([] : List Hurdle).length (([] : List Hurdle).length)), (5, .slice A6 t5.length c7), (6, .int .i64 0)]) ⟨Z, Z, Z, Z, trivial⟩ ⟨a0, ([] : List Hurdle), 0, A4, (([] : List Hurdle).length), Z, hS.pick [0, 1, 2] [] Z, H⟩ ?_
  rintro k F w1 ⟨y11, y12, y15, A13, c14, rfl, hS, H⟩
  cases k with
  | zero => rw [spec_JoinYards.l1] at H; cases H
  | succ k =>
    rw [spec_JoinYards.l1] at H
    refine CJ.seq ?_
    refine CJ.seq (CJ.region ?_)
    refine OJ.pures oU 4 Z (OJ.nil (EJ.next ?_))
    refine CJ.cond Z (fun hb => ?_) (fun hb => ?_)
    · replace H := pif_t (of_decide_eq_true hb) H
      refine CJ.skip (EJ.next ?_)
      refine CJ.seq ?_
      refine CJ.block ?_
      refine CJ.seq (CJ.region ?_)
      refine OJ.pures oU 2 Z ?_
      obtain ⟨t16, ht16, H⟩ := pbind H
      obtain ⟨ad16, e16⟩ := (hS.rd (i := 2) rfl).some' ht16
      refine OJ.st Z Z Z (SR.idxS oU oI Z Z Z Z e16 Z (getI_some ht16).1) ?_
      refine OJ.st Z Z Z (SR.fieldAddr oU oI Z Z Z Z Z Z) ?_
      refine OJ.st Z Z Z (SR.load Z Z (fun w' hx => ldN oU oI Z Z Z (CA.ext (CA.sub ((hS.rd (i := 2) Z).at_ e16 ht16) 0) hx) (cSpot.len _) Z)) ?_
      obtain ⟨t17, ht17, H⟩ := pbind H
      refine OJ.callF Z Z Z Z Z hb36 Z (spec_l01Steps.c k _ _ y11 (hS.cells (i := 0) Z) t16.At _ ht17) ?_
      rintro _ w1 ⟨rfl, hs⟩
      replace hS := hS.grow hs
      refine OJ.ef rfl rfl rfl (Ef.alloc hS oI rfl rfl ((carr 10 (carr 10 (ci .i64))).enc (Arr.mk' (Arr.mk' 0 : Arr 10 Int) : Arr 10 (Arr 10 Int))) (by kernel_rfl)) ?_
      rintro _ w1 ⟨b18, rfl, hS⟩
      refine OJ.es rfl rfl (Es.put oI hS (i := 3) rfl rfl rfl rfl rfl (vs := (carr 10 (carr 10 (ci .i64))).enc t17) rfl ((carr 10 (carr 10 (ci .i64))).len _) ((carr 10 (carr 10 (ci .i64))).one _) (Put.all (carr 10 (carr 10 (ci .i64))) (Arr.mk' (Arr.mk' 0 : Arr 10 Int) : Arr 10 (Arr 10 Int)) t17) (by (try simp only [add_lit, Nat.add_assoc, Nat.zero_add, Nat.add_zero]) <;> rfl)) ?_
      intro w1 hS
      refine OJ.nil (EJ.next ?_)
      refine CJ.seq ?_
      obtain ⟨t19, ht19, H⟩ := pbind H
      obtain ⟨t20, ht20, H⟩ := pbind H
      obtain ⟨t21, ht21, H⟩ := pbind H
      obtain ⟨t22, ht22, H⟩ := pbind H
      refine CJ.cut1 (fun F w1 => ∃ (b23 : Nat), F = [(1, .pointer (some ⟨b1, 0, none⟩)), (4, .slice A13 y12.length c14), (5, .slice A6 t5.length c7), (6, .int .i64 y15), (7, .pointer (some ⟨b18, 0, none⟩)), (8, .pointer (some ⟨b23, 0, none⟩))] ∧ St w no w1 [box b1 (cPasture.enc y11) 31, rowC cHurdle A13 c14 48 y12, rowC cHurdle A6 c7 48 t5, box b18 ((carr 10 (carr 10 (ci .i64))).enc t17) 59, box b23 (cSpot.enc t22) 45] []) ?_ ?_
      · skip
        refine CJ.drawT [] [9, 10, 11, 12] (.one 0 (.one 1 (.one 2 (.one 3 (.one 4 (.one 5 (.one 6 (.one 7 (.one 8 (.br (.alt 9 (.br (.alt 10 (.one 11 (.one 12 (.fin))) (.alt 11 (.one 10 (.one 12 (.fin))) (.stop)))) (.alt 11 (.one 9 (.one 10 (.one 12 (.fin)))) (.stop))))))))))))) mixed (by kernel_rfl) hS [2] fun w1 hS hY hV => ?_
        refine TJ.pures oU 2 Z ?_
        obtain ⟨ad19, e19⟩ := (hS.rd (i := 2) rfl).some' ht19
        refine TJ.sp Z Z Z Z Z (fun w2 => SR.idxS oU oI Z Z Z Z e19 Z (getI_some ht19).1) ?_
        refine TJ.sp Z Z Z Z Z (fun w2 => SR.fieldAddr oU oI Z Z Z Z Z Z) ?_
        refine TJ.st hY Z Z Z Z Z (fun w2 hY => SR.load Z Z (fun w' hx => ldN oU oI Z Z Z (CA.ext (CA.sub (((hV w2 hY).rdR (i := 0) Z).at_ e19 ht19) 0) hx) (cSpot.len _) Z)) ?_
        refine TJ.pures oU 2 Z ?_
        obtain ⟨ad20, e20⟩ := (hS.rd (i := 2) rfl).some' ht20
        refine TJ.sp Z Z Z Z Z (fun w2 => SR.idxS oU oI Z Z Z Z e20 Z (getI_some ht20).1) ?_
        refine TJ.st hY Z Z Z Z Z (fun w2 hY => SR.load Z Z (fun w' hx => ldE oU oI Z Z Z (CA.ext (((hV w2 hY).rdR (i := 0) Z).at_ e20 ht20) hx) Z)) ?_
        refine TJ.br ?_
        refine TJ.alt ?_ ?_
        · skip
          refine TJ.callF hY rfl rfl rfl rfl rfl rfl rfl hb38 rfl (spec_l03Side.c _ t20 _ ht21) (by rintro v w' ⟨rfl, hs⟩; exact hs) ?_
          rintro _ w1 hY ⟨rfl, hs⟩
          replace hS := hS.grow hs
          refine TJ.br ?_
          refine TJ.alt ?_ ?_
          · skip
            refine TJ.callF hY rfl rfl rfl rfl rfl rfl rfl hb37 rfl (spec_l01Next.c _ t19.At t21 _ ht22) (by rintro v w' ⟨rfl, hs⟩; exact hs) ?_
            rintro _ w1 hY ⟨rfl, hs⟩
            replace hS := hS.grow hs
            refine TJ.ef hY Z Z Z Z Z (Ef.alloc hS oI Z Z (cSpot.enc (⟨0, 0⟩ : Spot)) Z) ?_
            rintro _ w1 hY ⟨b24, rfl, hS⟩
            have hO := hS
            refine TJ.es rfl rfl rfl rfl (Es.store oI (hS.inn [2]) (i := 4) rfl rfl rfl rfl rfl rfl (vs := cSpot.enc t22) rfl (cSpot.len _) (cSpot.one _) (Nat.le_of_ble_eq_true rfl) (cSpot.enc t22) rfl) (by intro w1 hS; exact hY.wr (hO.inY [2] 0 rfl rfl) hS.chg) ?_
            intro w1 hY hS
            have hS : St w no w1 [box b1 (cPasture.enc y11) 31, rowC cHurdle A13 c14 48 y12, rowC cHurdle A6 c7 48 t5, box b18 ((carr 10 (carr 10 (ci .i64))).enc t17) 59, box b24 (cSpot.enc t22) 45] [] := hO.out [2] hS
            refine TJ.nil ?_
            exact EJ.meet (F' := [(1, .pointer (some ⟨b1, 0, none⟩)), (4, .slice A13 y12.length c14), (5, .slice A6 t5.length c7), (6, .int .i64 y15), (7, .pointer (some ⟨b18, 0, none⟩)), (8, .pointer (some ⟨b24, 0, none⟩))]) ⟨Z, Z, Z, Z, Z, Z, trivial⟩ ⟨b24, Z, hS.pick [0, 1, 2, 3, 4] [] Z⟩
          refine TJ.alt ?_ ?_
          · skip
            refine TJ.ef hY Z Z Z Z Z (Ef.alloc hS oI Z Z (cSpot.enc (⟨0, 0⟩ : Spot)) Z) ?_
            rintro _ w1 hY ⟨b25, rfl, hS⟩
            refine TJ.callF hY rfl rfl rfl rfl rfl rfl rfl hb37 rfl (spec_l01Next.c _ t19.At t21 _ ht22) (by rintro v w' ⟨rfl, hs⟩; exact hs) ?_
            rintro _ w1 hY ⟨rfl, hs⟩
            replace hS := hS.grow hs
            have hO := hS
            refine TJ.es rfl rfl rfl rfl (Es.store oI (hS.inn [2]) (i := 4) rfl rfl rfl rfl rfl rfl (vs := cSpot.enc t22) rfl (cSpot.len _) (cSpot.one _) (Nat.le_of_ble_eq_true rfl) (cSpot.enc t22) rfl) (by intro w1 hS; exact hY.wr (hO.inY [2] 0 rfl rfl) hS.chg) ?_
            intro w1 hY hS
            have hS : St w no w1 [box b1 (cPasture.enc y11) 31, rowC cHurdle A13 c14 48 y12, rowC cHurdle A6 c7 48 t5, box b18 ((carr 10 (carr 10 (ci .i64))).enc t17) 59, box b25 (cSpot.enc t22) 45] [] := hO.out [2] hS
            refine TJ.nil ?_
            exact EJ.meet (F' := [(1, .pointer (some ⟨b1, 0, none⟩)), (4, .slice A13 y12.length c14), (5, .slice A6 t5.length c7), (6, .int .i64 y15), (7, .pointer (some ⟨b18, 0, none⟩)), (8, .pointer (some ⟨b25, 0, none⟩))]) ⟨Z, Z, Z, Z, Z, Z, trivial⟩ ⟨b25, Z, hS.pick [0, 1, 2, 3, 4] [] Z⟩
          exact TJ.stop
        refine TJ.alt ?_ ?_
        · skip
          refine TJ.ef hY Z Z Z Z Z (Ef.alloc hS oI Z Z (cSpot.enc (⟨0, 0⟩ : Spot)) Z) ?_
          rintro _ w1 hY ⟨b26, rfl, hS⟩
          refine TJ.callF hY rfl rfl rfl rfl rfl rfl rfl hb38 rfl (spec_l03Side.c _ t20 _ ht21) (by rintro v w' ⟨rfl, hs⟩; exact hs) ?_
          rintro _ w1 hY ⟨rfl, hs⟩
          replace hS := hS.grow hs
          refine TJ.callF hY rfl rfl rfl rfl rfl rfl rfl hb37 rfl (spec_l01Next.c _ t19.At t21 _ ht22) (by rintro v w' ⟨rfl, hs⟩; exact hs) ?_
          rintro _ w1 hY ⟨rfl, hs⟩
          replace hS := hS.grow hs
          have hO := hS
          refine TJ.es rfl rfl rfl rfl (Es.store oI (hS.inn [2]) (i := 4) rfl rfl rfl rfl rfl rfl (vs := cSpot.enc t22) rfl (cSpot.len _) (cSpot.one _) (Nat.le_of_ble_eq_true rfl) (cSpot.enc t22) rfl) (by intro w1 hS; exact hY.wr (hO.inY [2] 0 rfl rfl) hS.chg) ?_
          intro w1 hY hS
          have hS : St w no w1 [box b1 (cPasture.enc y11) 31, rowC cHurdle A13 c14 48 y12, rowC cHurdle A6 c7 48 t5, box b18 ((carr 10 (carr 10 (ci .i64))).enc t17) 59, box b26 (cSpot.enc t22) 45] [] := hO.out [2] hS
          refine TJ.nil ?_
          exact EJ.meet (F' := [(1, .pointer (some ⟨b1, 0, none⟩)), (4, .slice A13 y12.length c14), (5, .slice A6 t5.length c7), (6, .int .i64 y15), (7, .pointer (some ⟨b18, 0, none⟩)), (8, .pointer (some ⟨b26, 0, none⟩))]) ⟨Z, Z, Z, Z, Z, Z, trivial⟩ ⟨b26, Z, hS.pick [0, 1, 2, 3, 4] [] Z⟩
        exact TJ.stop
      · rintro F w1 ⟨b23, rfl, hS⟩
        refine EJ.next ?_
        refine CJ.seq ?_
        refine CJ.draw [] [0, 1, 2, 3, 4, 5, 6, 7] mixed (by kernel_rfl) hS fun w1 hS => ?_
        refine DJ.st Z Z Z Z Z (SR.fieldAddr oU oI Z Z Z Z Z Z) ?_
        refine DJ.st Z Z Z Z Z (SR.load Z Z (fun w' hx => ld1 oU Z Z (CA.ext (CA.sub (hS.cells (i := 4) Z) 1) hx) Z)) ?_
        refine DJ.st Z Z Z Z Z (SR.fieldAddr oU oI Z Z Z Z Z Z) ?_
        refine DJ.st Z Z Z Z Z (SR.load Z Z (fun w' hx => ld1 oU Z Z (CA.ext (CA.sub (hS.cells (i := 4) Z) 0) hx) Z)) ?_
        obtain ⟨t27, ht27, H⟩ := pbind H
        refine DJ.st Z Z Z Z Z (SR.idxA oU oI Z Z Z Z Z (Arr.lt ht27)) ?_
        obtain ⟨t28, ht28, H⟩ := pbind H
        refine DJ.st Z Z Z Z Z (SR.idxA oU oI Z Z Z Z Z (Arr.lt ht28)) ?_
        refine DJ.st Z Z Z Z Z (SR.load Z Z (fun w' hx => ld1 oU Z Z (CA.ext (CA.idx (CA.idx (hS.cells (i := 3) Z) ht27) ht28) hx) Z)) ?_
        refine DJ.pures oU 1 Z ?_
        refine DJ.nil (EJ.next ?_)
        refine CJ.cond Z (fun hb => ?_) (fun hb => ?_)
        · replace H := pif_t (of_decide_eq_true hb) H
          refine CJ.seq (CJ.region ?_)
          refine OJ.pures oU 3 Z ?_
          obtain ⟨t29, ht29, H⟩ := pbind H
          obtain ⟨ad29, e29⟩ := (hS.rd (i := 2) rfl).some' ht29
          refine OJ.st Z Z Z (SR.idxS oU oI Z Z Z Z e29 Z (getI_some ht29).1) ?_
          refine OJ.st Z Z Z (SR.load Z Z (fun w' hx => ldE oU oI Z Z Z (CA.ext ((hS.rd (i := 2) Z).at_ e29 ht29) hx) Z)) ?_
          refine OJ.ef Z Z Z (Ef.lit oU oI hS (C := cHurdle) Z Z Z Z Z Z ([t29] : List Hurdle) Z Z Z Z) ?_
          rintro _ w1 ⟨A30, rfl, hS⟩
          obtain ⟨u31, hu31, H⟩ := pbind H
          refine OJ.ew Z Z Z (Ew.append oU oI (C := cHurdle) (xs := y12) (ys := ([t29] : List Hurdle)) hS (i := 1) Z Z Z Z Z Z Z Z Z Z Z Z Z (hS.rd (i := 5) Z) (chk_some hu31)) ?_
          rintro _ w1 ⟨A32, c33, rfl, hS⟩
          refine OJ.pures oU 1 Z (OJ.nil (EJ.next ?_))
          refine CJ.draw [10] [0, 1, 2, 3, 4, 5, 6, 7, 8, 9, 10] mixed (by kernel_rfl) hS fun w1 hS => ?_
          refine DJ.pures oU 2 Z ?_
          obtain ⟨t34, ht34, H⟩ := pbind H
          obtain ⟨ad34, e34⟩ := (hS.rd (i := 2) rfl).some' ht34
          refine DJ.st Z Z Z Z Z (SR.idxS oU oI Z Z Z Z e34 Z (getI_some ht34).1) ?_
          refine DJ.st Z Z Z Z Z (SR.fieldAddr oU oI Z Z Z Z Z Z) ?_
          refine DJ.st Z Z Z Z Z (SR.load Z Z (fun w' hx => ldN oU oI Z Z Z (CA.ext (CA.sub ((hS.rd (i := 2) Z).at_ e34 ht34) 0) hx) (cSpot.len _) Z)) ?_
          refine DJ.pures oU 2 Z ?_
          obtain ⟨t35, ht35, H⟩ := pbind H
          obtain ⟨ad35, e35⟩ := (hS.rd (i := 2) rfl).some' ht35
          refine DJ.st Z Z Z Z Z (SR.idxS oU oI Z Z Z Z e35 Z (getI_some ht35).1) ?_
          refine DJ.st Z Z Z Z Z (SR.load Z Z (fun w' hx => ldE oU oI Z Z Z (CA.ext ((hS.rd (i := 2) Z).at_ e35 ht35) hx) Z)) ?_
          obtain ⟨t36, ht36, H⟩ := pbind H
          refine DJ.callF rfl rfl rfl rfl rfl rfl rfl hb38 rfl (spec_l03Side.c _ t35 _ ht36) (by rintro v w' ⟨rfl, hs⟩; exact hs) ?_
          rintro _ w1 ⟨rfl, hs⟩
          replace hS := hS.grow hs
          obtain ⟨t37, ht37, H⟩ := pbind H
          refine DJ.callFw Z Z Z Z Z Z Z hb39 Z (spec_l01Set.c _ b1 y11 t34.At t36 false ((hS.subs [0] [] [] Z).pick [0] [] Z) _ ht37) ?_
          rintro _ w1 ⟨rfl, hs⟩
          replace hS := hS.back [0] Z Z [box b1 (cPasture.enc t37) 31] [] hs ⟨fun _ => Iff.rfl, trivial⟩
          have hS : St w no w1 [box b1 (cPasture.enc t37) 31, rowC cHurdle A32 c33 48 (y12 ++ ([t29] : List Hurdle)), rowC cHurdle A6 c7 48 t5, box b18 ((carr 10 (carr 10 (ci .i64))).enc t17) 59, box b23 (cSpot.enc t22) 45, rowC cHurdle A30 (([t29] : List Hurdle).length) 48 ([t29] : List Hurdle)] [] := hS
          have hS : St w no w1 [box b1 (cPasture.enc t37) 31, rowC cHurdle A32 c33 48 (y12 ++ ([t29] : List Hurdle)), rowC cHurdle A6 c7 48 t5, box b18 ((carr 10 (carr 10 (ci .i64))).enc t17) 59, box b23 (cSpot.enc t22) 45, rowC cHurdle A30 (([t29] : List Hurdle).length) 48 ([t29] : List Hurdle)] [] := hS
          refine DJ.nil (EJ.blk (EJ.next ?_))
          refine CJ.region ?_
          refine OJ.pures oU 3 Z ?_
          refine OJ.nil ?_
          exact EJ.round k (F' := [(1, .pointer (some ⟨b1, 0, none⟩)), (4, .slice A32 (y12 ++ ([t29] : List Hurdle)).length c33), (5, .slice A6 t5.length c7), (6, .int .i64 (IntKind.i64.wrap (y15 + 1)))]) ⟨Z, Z, Z, Z, trivial⟩ (Nat.lt_succ_self _) ⟨t37, (y12 ++ ([t29] : List Hurdle)), (IntKind.i64.wrap (y15 + 1)), A32, c33, Z, hS.pick [0, 1, 2] [] Z, H⟩
        · replace H := pif_f (of_decide_eq_false hb) H
          refine CJ.skip (EJ.blk (EJ.next ?_))
          refine CJ.region ?_
          refine OJ.pures oU 3 Z ?_
          refine OJ.nil ?_
          exact EJ.round k (F' := [(1, .pointer (some ⟨b1, 0, none⟩)), (4, .slice A13 y12.length c14), (5, .slice A6 t5.length c7), (6, .int .i64 (IntKind.i64.wrap (y15 + 1)))]) ⟨Z, Z, Z, Z, trivial⟩ (Nat.lt_succ_self _) ⟨y11, y12, (IntKind.i64.wrap (y15 + 1)), A13, c14, Z, hS.pick [0, 1, 2] [] Z, H⟩
    · replace H := pif_f (of_decide_eq_false hb) H
      refine CJ.exit (EJ.skE (EJ.skE (EJ.hit (?_))))
      exact EJ.meet (F' := [(4, .slice A13 y12.length c14)]) ⟨Z, trivial⟩ ⟨y12, A13, c14, H, Z, hS.pick [1] [] Z⟩
 rintro F w1 ⟨y8, A9, c10, he, rfl, hS⟩
 obtain rfl := Option.some.inj he
 have H := K250
 refine EJ.next ?_
 refine CJ.seq (CJ.region ?_)
 refine OJ.pures oU 3 Z (OJ.nil (EJ.next ?_))
 refine CJ.ret (?_)
 obtain rfl := Option.some.inj H
 exact EJ.fin Z (.tmp Z (.tmp Z .nil)) ⟨A9, c10, Z, hS.pick [0] [] Z⟩

def slices_IndexFunc_impl_Hurdle_impl_Hurdle.l1 (a0 : List Hurdle) (a1 : Hurdle → Option Bool) : Nat → Int → Option (Int ⊕ Unit)
  | 0, _ => none
  | k + 1, y1 => if y1 < (a0.length : Int) then ((getI a0 y1).bind fun t2 => (a1 t2).bind fun t3 => if t3 = true then (some (Sum.inl y1)) else (slices_IndexFunc_impl_Hurdle_impl_Hurdle.l1 a0 a1 k (IntKind.i64.wrap (y1 + 1)))) else (some (Sum.inr ()))
def slices_IndexFunc_impl_Hurdle_impl_Hurdle.f (k : Nat) (a0 : List Hurdle) (a1 : Hurdle → Option Bool) : Option Int := (slices_IndexFunc_impl_Hurdle_impl_Hurdle.l1 a0 a1 k 0).bind fun s251 => match s251 with | .inl r => some r | .inr _ => some (-1)
theorem slices_IndexFunc_impl_Hurdle_impl_Hurdle.c (k : Nat) (w : World) (Aa0 : Option Addr) (ca0 : Nat) (a0 : List Hurdle) (hr0 : Rd cHurdle w Aa0 a0) (hc0 : a0.length ≤ ca0) (na1 : Nat) (fsa1 capa1 : Array Value) (hb1 : hasBody Tryz.prog na1) (a1 : Hurdle → Option Bool) (hf1 : ∀ (z0 : Hurdle) (r : Bool), a1 z0 = some r → ∀ w', Chg no w w' → CV Tryz.prog na1 (fsa1 ++ [.agg (cHurdle.enc z0).toArray].toArray ++ capa1) w' fun v w'' => v = .bool r ∧ Ext w' w'') (r : Int) (H : slices_IndexFunc_impl_Hurdle_impl_Hurdle.f k a0 a1 = some r) :
 CV Tryz.prog 86 [.slice Aa0 a0.length ca0, .func (.func na1) fsa1 capa1].toArray w fun v w' => v = .int .i64 r ∧ Ext w w' := by
 have hS := ((St.init w no).param cHurdle Aa0 ca0 a0 hr0 hc0)
 unfold slices_IndexFunc_impl_Hurdle_impl_Hurdle.f at H
 refine CV.body Tryz.func86 Z Tryz.ntmps86 Z ?_
 refine CJ.seq (CJ.region ?_)
 refine OJ.pures oU 1 Z (OJ.nil (EJ.next ?_))
 refine CJ.seq ?_
 refine CJ.seq (CJ.region ?_)
 refine OJ.pures oU 3 Z (OJ.nil (EJ.next ?_))
 obtain ⟨j251, H, K251⟩ := pbind H
 refine CJ.cut1 (fun F w1 => (some (Sum.inr ()) : Option (Int ⊕ Unit)) = some j251 ∧ F = [] ∧ St w no w1 [] [roC cHurdle Aa0 ca0 a0]) ?_ ?_
 ·skip
  refine CJ.block ?_
  refine CJ.loop (fun k F w1 => ∃ (y1 : Int), F = [(0, .slice Aa0 a0.length ca0), (1, .func (.func na1) fsa1 capa1), (7, .int .i64 (a0.length : Int)), (8, .int .i64 y1)] ∧ St w no w1 [] [roC cHurdle Aa0 ca0 a0] ∧ slices_IndexFunc_impl_Hurdle_impl_Hurdle.l1 a0 a1 k y1 = some j251) k (F' := [(0, .slice Aa0 a0.length ca0), (1, .func (.func na1) fsa1 capa1), (7, .int .i64 (a0.length : Int)), (8, .int .i64 0)]) ⟨Z, Z, Z, Z, trivial⟩ ⟨0, Z, hS.pick [] [0] Z, H⟩ ?_
  rintro k F w1 ⟨y1, rfl, hS, H⟩
  cases k with
  | zero => rw [slices_IndexFunc_impl_Hurdle_impl_Hurdle.l1] at H; cases H
  | succ k =>
    rw [slices_IndexFunc_impl_Hurdle_impl_Hurdle.l1] at H
    refine CJ.seq (CJ.region ?_)
    refine OJ.pures oU 1 Z (OJ.nil (EJ.next ?_))
    refine CJ.seq ?_
    refine CJ.cond Z (fun hb => ?_) (fun hb => ?_)
    · replace H := pif_t (of_decide_eq_true hb) H
      refine CJ.skip (EJ.next ?_)
      refine CJ.seq ?_
      refine CJ.block ?_
      refine CJ.seq (CJ.region ?_)
      refine OJ.pures oU 2 Z (OJ.nil (EJ.next ?_))
      refine CJ.seq (CJ.region ?_)
      refine OJ.pures oU 3 Z ?_
      obtain ⟨t2, ht2, H⟩ := pbind H
      obtain ⟨ad2, e2⟩ := (hS.rd' (i := 0) rfl).some' ht2
      refine OJ.st Z Z Z (SR.idxS oU oI Z Z Z Z e2 Z (getI_some ht2).1) ?_
      refine OJ.st Z Z Z (SR.load Z Z (fun w' hx => ldE oU oI Z Z Z (CA.ext ((hS.rd' (i := 0) Z).at_ e2 ht2) hx) Z)) ?_
      obtain ⟨t3, ht3, H⟩ := pbind H
      refine OJ.call Z Z (Nat.le_of_ble_eq_true Z) Z Z Z hb1 Z (hf1 t2 _ ht3 _ hS.chg) ?_
      rintro _ w1 ⟨rfl, hs⟩
      replace hS := hS.grow hs
      refine OJ.nil (EJ.next ?_)
      refine CJ.cond Z (fun hb => ?_) (fun hb => ?_)
      · replace H := pif_t hb H
        refine CJ.seq (CJ.region ?_)
        refine OJ.pures oU 2 Z (OJ.nil (EJ.next ?_))
        refine CJ.ret (EJ.bkR (EJ.skR (EJ.skR (EJ.bkR (EJ.skR (EJ.skR (?_)))))))
        first | (obtain rfl := Option.some.inj H; have H := K251) | (obtain ⟨q251, H2, e251⟩ := pbind H; obtain rfl := Option.some.inj e251; obtain rfl := Option.some.inj K251; have H := H2)
        obtain rfl := Option.some.inj H
        exact EJ.fin Z (.tmp Z .nil) ⟨Z, hS.ext⟩
      · replace H := pifb_f hb H
        refine CJ.skip (EJ.blk (EJ.next ?_))
        refine CJ.region ?_
        refine OJ.pures oU 2 Z ?_
        refine OJ.nil ?_
        exact EJ.round k (F' := [(0, .slice Aa0 a0.length ca0), (1, .func (.func na1) fsa1 capa1), (7, .int .i64 (a0.length : Int)), (8, .int .i64 (IntKind.i64.wrap (y1 + 1)))]) ⟨Z, Z, Z, Z, trivial⟩ (Nat.lt_succ_self _) ⟨(IntKind.i64.wrap (y1 + 1)), Z, hS.pick [] [0] Z, H⟩
    · replace H := pif_f (of_decide_eq_false hb) H
      refine CJ.exit (EJ.skE (EJ.skE (EJ.hit (?_))))
      exact EJ.meet (F' := []) trivial ⟨H, Z, hS.pick [] [0] Z⟩
 rintro F w1 ⟨he, rfl, hS⟩
 obtain rfl := Option.some.inj he
 have H := K251
 refine EJ.next ?_
 refine CJ.seq (CJ.region ?_)
 refine OJ.pures oU 1 Z (OJ.nil (EJ.next ?_))
 refine CJ.ret (?_)
 obtain rfl := Option.some.inj H
 exact EJ.fin Z (.tmp Z .nil) ⟨Z, hS.ext⟩

def slices_ContainsFunc_impl_Hurdle_impl_Hurdle.f (k : Nat) (a0 : List Hurdle) (a1 : Hurdle → Option Bool) : Option Bool := (slices_IndexFunc_impl_Hurdle_impl_Hurdle.f k a0 a1).bind fun t1 => some (decide (0 ≤ t1))
theorem slices_ContainsFunc_impl_Hurdle_impl_Hurdle.c (k : Nat) (w : World) (Aa0 : Option Addr) (ca0 : Nat) (a0 : List Hurdle) (hr0 : Rd cHurdle w Aa0 a0) (hc0 : a0.length ≤ ca0) (na1 : Nat) (fsa1 capa1 : Array Value) (hb1 : hasBody Tryz.prog na1) (a1 : Hurdle → Option Bool) (hf1 : ∀ (z0 : Hurdle) (r : Bool), a1 z0 = some r → ∀ w', Chg no w w' → CV Tryz.prog na1 (fsa1 ++ [.agg (cHurdle.enc z0).toArray].toArray ++ capa1) w' fun v w'' => v = .bool r ∧ Ext w' w'') (r : Bool) (H : slices_ContainsFunc_impl_Hurdle_impl_Hurdle.f k a0 a1 = some r) :
 CV Tryz.prog 73 [.slice Aa0 a0.length ca0, .func (.func na1) fsa1 capa1].toArray w fun v w' => v = .bool r ∧ Ext w w' := by
 have hS := ((St.init w no).param cHurdle Aa0 ca0 a0 hr0 hc0)
 unfold slices_ContainsFunc_impl_Hurdle_impl_Hurdle.f at H
 refine CV.body Tryz.func73 Z Tryz.ntmps73 Z ?_
 refine CJ.seq (CJ.region ?_)
 refine OJ.pures oU 1 Z (OJ.nil (EJ.next ?_))
 refine CJ.seq (CJ.region ?_)
 refine OJ.pures oU 2 Z ?_
 obtain ⟨t1, ht1, H⟩ := pbind H
 refine OJ.callF Z Z Z Z Z hb86 Z (slices_IndexFunc_impl_Hurdle_impl_Hurdle.c k _ Aa0 ca0 a0 (hS.rd' (i := 0) Z) (hS.le' (i := 0) Z) na1 fsa1 capa1 hb1 a1 (fun z0 r h w' hx => hf1 z0 r h w' (hS.chg.then hx (fun _ _ e => e.elim))) _ ht1) ?_
 rintro _ w1 ⟨rfl, hs⟩
 replace hS := hS.grow hs
 refine OJ.pures oU 2 Z (OJ.nil (EJ.next ?_))
 refine CJ.ret (?_)
 obtain rfl := Option.some.inj H
 exact EJ.fin Z (.tmp Z .nil) ⟨Z, hS.ext⟩

def impl_hurdleCode_1.f (a1 : Pasture) (a0 : Hurdle) : Option Bool := (impl_Pasture_isHurdle.f a1 a0).bind fun t2 => some (!t2)
theorem impl_hurdleCode_1.c (w : World) (pa1 : Addr) (a1 : Pasture) (hp1 : CA w pa1 (cPasture.enc a1)) (a0 : Hurdle) (r : Bool) (H : impl_hurdleCode_1.f a1 a0 = some r) :
 CV Tryz.prog 74 [.agg (cHurdle.enc a0).toArray, .pointer (some pa1)].toArray w fun v w' => v = .bool r ∧ Ext w w' := by
 have hS := ((St.init w no).paramP pa1 (cPasture.enc a1) hp1)
 unfold impl_hurdleCode_1.f at H
 refine CV.body Tryz.func74 Z Tryz.ntmps74 Z ?_
 refine CJ.seq (CJ.region ?_)
 refine OJ.ef Z Z Z (Ef.box hS Z Z (cHurdle.enc a0) Z) ?_
 rintro _ w1 ⟨b1, rfl, hS⟩
 refine OJ.pures oU 1 Z (OJ.nil (EJ.next ?_))
 refine CJ.seq (CJ.region ?_)
 refine OJ.st Z Z Z (SR.load Z Z (fun w' hx => ldE oU oI Z Z Z (CA.ext (hS.ca (i := 0) Z) hx) Z)) ?_
 refine OJ.st Z Z Z (SR.load Z Z (fun w' hx => ldE oU oI Z Z Z (CA.ext (hS.cells (i := 0) Z) hx) Z)) ?_
 obtain ⟨t2, ht2, H⟩ := pbind H
 refine OJ.callF Z Z Z Z Z hb75 Z (impl_Pasture_isHurdle.c _ a1 a0 _ ht2) ?_
 rintro _ w1 ⟨rfl, hs⟩
 replace hS := hS.grow hs
 refine OJ.pures oU 2 Z (OJ.nil (EJ.next ?_))
 refine CJ.ret (?_)
 obtain rfl := Option.some.inj H
 exact EJ.fin Z (.tmp Z .nil) ⟨Z, hS.ext⟩

def impl_unless.f (a0 : Bool) (a1 : Int) : Option Int := if a0 = true then (some 0) else (some a1)
theorem impl_unless.c (w : World) (a0 : Bool) (a1 : Int) (r : Int) (H : impl_unless.f a0 a1 = some r) :
 CV Tryz.prog 72 [.bool a0, .int .i64 a1].toArray w fun v w' => v = .int .i64 r ∧ Ext w w' := by
 have hS := (St.init w no)
 unfold impl_unless.f at H
 refine CV.body Tryz.func72 Z Tryz.ntmps72 Z ?_
 refine CJ.seq (CJ.region ?_)
 refine OJ.pures oU 1 Z (OJ.nil (EJ.next ?_))
 refine CJ.seq ?_
 refine CJ.seq (CJ.region ?_)
 refine OJ.pures oU 1 Z (OJ.nil (EJ.next ?_))
 refine CJ.cond Z (fun hb => ?_) (fun hb => ?_)
 ·replace H := pif_t hb H
  refine CJ.seq (CJ.region ?_)
  refine OJ.pures oU 1 Z (OJ.nil (EJ.next ?_))
  refine CJ.ret (EJ.skR (?_))
  obtain rfl := Option.some.inj H
  exact EJ.fin Z (.tmp Z .nil) ⟨Z, hS.ext⟩
 replace H := pifb_f hb H
 refine CJ.skip (EJ.next ?_)
 refine CJ.seq (CJ.region ?_)
 refine OJ.pures oU 2 Z (OJ.nil (EJ.next ?_))
 refine CJ.ret (?_)
 obtain rfl := Option.some.inj H
 exact EJ.fin Z (.tmp Z .nil) ⟨Z, hS.ext⟩

def impl_hurdleCode.f (k : Nat) (a0 : Pasture) (a1 : List Hurdle) : Option Int := (impl_ValidPasture.f k a0).bind fun t2 => if (!t2) = true then (some 1) else ((slices_ContainsFunc_impl_Hurdle_impl_Hurdle.f k a1 (impl_hurdleCode_1.f a0)).bind fun t3 => (impl_unless.f (!t3) 2).bind fun t4 => some t4)
theorem impl_hurdleCode.c (k : Nat) (w : World) (a0 : Pasture) (Aa1 : Option Addr) (ca1 : Nat) (a1 : List Hurdle) (hr1 : Rd cHurdle w Aa1 a1) (hc1 : a1.length ≤ ca1) (r : Int) (H : impl_hurdleCode.f k a0 a1 = some r) :
 CV Tryz.prog 40 [.agg (cPasture.enc a0).toArray, .slice Aa1 a1.length ca1].toArray w fun v w' => v = .int .i64 r ∧ Ext w w' := by
 have hS := ((St.init w no).param cHurdle Aa1 ca1 a1 hr1 hc1)
 unfold impl_hurdleCode.f at H
 refine CV.body Tryz.func40 Z Tryz.ntmps40 Z ?_
 refine CJ.seq (CJ.region ?_)
 refine OJ.ef Z Z Z (Ef.box hS Z Z (cPasture.enc a0) Z) ?_
 rintro _ w1 ⟨b1, rfl, hS⟩
 refine OJ.pures oU 1 Z (OJ.nil (EJ.next ?_))
 refine CJ.seq ?_
 refine CJ.seq (CJ.region ?_)
 refine OJ.st Z Z Z (SR.load Z Z (fun w' hx => ldE oU oI Z Z Z (CA.ext (hS.cells (i := 0) Z) hx) Z)) ?_
 obtain ⟨t2, ht2, H⟩ := pbind H
 refine OJ.callF Z Z Z Z Z hb29 Z (impl_ValidPasture.c k _ a0 _ ht2) ?_
 rintro _ w1 ⟨rfl, hs⟩
 replace hS := hS.grow hs
 refine OJ.pures oU 1 Z (OJ.nil (EJ.next ?_))
 refine CJ.cond Z (fun hb => ?_) (fun hb => ?_)
 ·replace H := pif_t hb H
  refine CJ.seq (CJ.region ?_)
  refine OJ.pures oU 1 Z (OJ.nil (EJ.next ?_))
  refine CJ.ret (EJ.skR (?_))
  obtain rfl := Option.some.inj H
  exact EJ.fin Z (.tmp Z .nil) ⟨Z, hS.ext⟩
 replace H := pifb_f hb H
 refine CJ.skip (EJ.next ?_)
 refine CJ.seq (CJ.region ?_)
 refine OJ.pures oU 2 Z ?_
 obtain ⟨t3, ht3, H⟩ := pbind H
 refine OJ.callF rfl rfl rfl rfl rfl hb73 rfl (slices_ContainsFunc_impl_Hurdle_impl_Hurdle.c k _ Aa1 ca1 a1 (hS.rd' (i := 0) rfl) (hS.le' (i := 0) rfl) 74 #[] #[.pointer (some ⟨b1, 0, none⟩)] hb74 (impl_hurdleCode_1.f a0) (fun z0 r h w' hx => CV.cast (impl_hurdleCode_1.c w' ⟨b1, 0, none⟩ a0 (CA.ext (hS.cells (i := 0) rfl) hx)  z0 r h) (by simp)) _ ht3) ?_
 rintro _ w1 ⟨rfl, hs⟩
 replace hS := hS.grow hs
 refine OJ.pures oU 1 Z ?_
 obtain ⟨t4, ht4, H⟩ := pbind H
 refine OJ.callF Z Z Z Z Z hb72 Z (impl_unless.c _ (!t3) 2 _ ht4) ?_
 rintro _ w1 ⟨rfl, hs⟩
 replace hS := hS.grow hs
 refine OJ.pures oU 1 Z (OJ.nil (EJ.next ?_))
 refine CJ.ret (?_)
 obtain rfl := Option.some.inj H
 exact EJ.fin Z (.tmp Z .nil) ⟨Z, hS.ext⟩

def impl_Pasture_with.l1 (a1 : List Hurdle) (a2 : Bool) : Nat → Pasture → Int → Option Pasture
  | 0, _, _ => none
  | k + 1, y4, y5 => if y5 < (a1.length : Int) then ((getI a1 y5).bind fun t6 => (impl_Pasture_put.f y4 t6 a2).bind fun t8 => impl_Pasture_with.l1 a1 a2 k t8 (IntKind.i64.wrap (y5 + 1))) else (some y4)
def impl_Pasture_with.f (k : Nat) (a0 : Pasture) (a1 : List Hurdle) (a2 : Bool) : Option Pasture := (impl_Pasture_with.l1 a1 a2 k a0 0).bind fun y3 => some y3
theorem impl_Pasture_with.c (k : Nat) (w : World) (a0 : Pasture) (Aa1 : Option Addr) (ca1 : Nat) (a1 : List Hurdle) (hr1 : Rd cHurdle w Aa1 a1) (hc1 : a1.length ≤ ca1) (a2 : Bool) (r : Pasture) (H : impl_Pasture_with.f k a0 a1 a2 = some r) :
 CV Tryz.prog 41 [.agg (cPasture.enc a0).toArray, .slice Aa1 a1.length ca1, .bool a2].toArray w fun v w' => v = .agg (cPasture.enc r).toArray ∧ Ext w w' := by
 have hS := ((St.init w no).param cHurdle Aa1 ca1 a1 hr1 hc1)
 unfold impl_Pasture_with.f at H
 refine CV.body Tryz.func41 Z Tryz.ntmps41 Z ?_
 refine CJ.seq (CJ.region ?_)
 refine OJ.ef Z Z Z (Ef.box hS Z Z (cPasture.enc a0) Z) ?_
 rintro _ w1 ⟨b1, rfl, hS⟩
 refine OJ.ef rfl rfl rfl (Ef.alloc hS oI rfl rfl (cPasture.enc (⟨0, 0, (Arr.mk' (Arr.mk' 0 : Arr 10 Int) : Arr 10 (Arr 10 Int)), (Arr.mk' 0 : Arr 10 Int), (Arr.mk' 0 : Arr 10 Int)⟩ : Pasture)) (by kernel_rfl)) ?_
 rintro _ w1 ⟨b2, rfl, hS⟩
 refine OJ.nil (EJ.next ?_)
 refine CJ.seq ?_
 refine CJ.seq (CJ.region ?_)
 refine OJ.pures oU 3 Z (OJ.nil (EJ.next ?_))
 obtain ⟨j252, H, K252⟩ := pbind H
 refine CJ.cut1 (fun F w1 => ∃ (y3 : Pasture) , (some y3 : Option Pasture) = some j252 ∧ F = [(3, .pointer (some ⟨b1, 0, none⟩)), (6, .pointer (some ⟨b2, 0, none⟩))] ∧ St w no w1 [box b1 (cPasture.enc y3) 31, box b2 (cPasture.enc (⟨0, 0, (Arr.mk' (Arr.mk' 0 : Arr 10 Int) : Arr 10 (Arr 10 Int)), (Arr.mk' 0 : Arr 10 Int), (Arr.mk' 0 : Arr 10 Int)⟩ : Pasture)) 31] [roC cHurdle Aa1 ca1 a1]) ?_ ?_
 ·skip
  refine CJ.block ?_
  refine CJ.loop (fun k F w1 => ∃ (y4 : Pasture) (y5 : Int), F = [(2, .bool a2), (3, .pointer (some ⟨b1, 0, none⟩)), (6, .pointer (some ⟨b2, 0, none⟩)), (9, .slice Aa1 a1.length ca1), (10, .int .i64 (a1.length : Int)), (11, .int .i64 y5)] ∧ St w no w1 [box b1 (cPasture.enc y4) 31, box b2 (cPasture.enc (⟨0, 0, (Arr.mk' (Arr.mk' 0 : Arr 10 Int) : Arr 10 (Arr 10 Int)), (Arr.mk' 0 : Arr 10 Int), (Arr.mk' 0 : Arr 10 Int)⟩ : Pasture)) 31] [roC cHurdle Aa1 ca1 a1] ∧ impl_Pasture_with.l1 a1 a2 k y4 y5 = some j252) k (F' := [(2, .bool a2), (3, .pointer (some ⟨b1, 0, none⟩)), (6, .pointer (some ⟨b2, 0, none⟩)), (9, .slice Aa1 a1.length ca1), (10, .int .i64 (a1.length : Int)), (11, .int .i64 0)]) ⟨Z, Z, Z, Z, Z, Z, trivial⟩ ⟨a0, 0, Z, hS.pick [0, 1] [0] Z, H⟩ ?_
  rintro k F w1 ⟨y4, y5, rfl, hS, H⟩
  cases k with
  | zero => rw [impl_Pasture_with.l1] at H; cases H
  | succ k =>
    rw [impl_Pasture_with.l1] at H
    refine CJ.seq (CJ.region ?_)
    refine OJ.pures oU 1 Z (OJ.nil (EJ.next ?_))
    refine CJ.seq ?_
    refine CJ.cond Z (fun hb => ?_) (fun hb => ?_)
    · replace H := pif_t (of_decide_eq_true hb) H
      refine CJ.skip (EJ.next ?_)
      refine CJ.seq ?_
      refine CJ.block ?_
      refine CJ.seq (CJ.region ?_)
      obtain ⟨t6, ht6, H⟩ := pbind H
      obtain ⟨ad6, e6⟩ := (hS.rd' (i := 0) rfl).some' ht6
      refine OJ.st Z Z Z (SR.idxS oU oI Z Z Z Z e6 Z (getI_some ht6).1) ?_
      refine OJ.st Z Z Z (SR.load Z Z (fun w' hx => ldE oU oI Z Z Z (CA.ext ((hS.rd' (i := 0) Z).at_ e6 ht6) hx) Z)) ?_
      refine OJ.ef Z Z Z (Ef.alloc hS oI Z Z (cHurdle.enc (⟨(⟨0, 0⟩ : Spot), false⟩ : Hurdle)) Z) ?_
      rintro _ w1 ⟨b7, rfl, hS⟩
      refine OJ.es Z Z (Es.store oI hS (i := 2) Z Z Z Z Z Z (vs := cHurdle.enc t6) Z (cHurdle.len _) (cHurdle.one _) (Nat.le_of_ble_eq_true Z) (cHurdle.enc t6) Z) ?_
      intro w1 hS
      refine OJ.nil (EJ.next ?_)
      refine CJ.region ?_
      refine OJ.st Z Z Z (SR.load Z Z (fun w' hx => ldE oU oI Z Z Z (CA.ext (hS.cells (i := 2) Z) hx) Z)) ?_
      refine OJ.pures oU 1 Z ?_
      obtain ⟨t8, ht8, H⟩ := pbind H
      refine OJ.callF Z Z Z Z Z hb34 Z (impl_Pasture_put.c _ b1 y4 t6 a2 ((hS.subs [0] [] [] Z).pick [0] [] Z) _ ht8) ?_
      rintro _ w1 ⟨rfl, hs⟩
      replace hS := hS.back [0] Z Z [box b1 (cPasture.enc t8) 31] [] hs ⟨fun _ => Iff.rfl, trivial⟩
      refine OJ.nil (EJ.blk (EJ.next ?_))
      refine CJ.region ?_
      refine OJ.pures oU 2 Z ?_
      refine OJ.nil ?_
      exact EJ.round k (F' := [(2, .bool a2), (3, .pointer (some ⟨b1, 0, none⟩)), (6, .pointer (some ⟨b2, 0, none⟩)), (9, .slice Aa1 a1.length ca1), (10, .int .i64 (a1.length : Int)), (11, .int .i64 (IntKind.i64.wrap (y5 + 1)))]) ⟨Z, Z, Z, Z, Z, Z, trivial⟩ (Nat.lt_succ_self _) ⟨t8, (IntKind.i64.wrap (y5 + 1)), Z, hS.pick [0, 1] [0] Z, H⟩
    · replace H := pif_f (of_decide_eq_false hb) H
      refine CJ.exit (EJ.skE (EJ.skE (EJ.hit (?_))))
      exact EJ.meet (F' := [(3, .pointer (some ⟨b1, 0, none⟩)), (6, .pointer (some ⟨b2, 0, none⟩))]) ⟨Z, Z, trivial⟩ ⟨y4, H, Z, hS.pick [0, 1] [0] Z⟩
 rintro F w1 ⟨y3, he, rfl, hS⟩
 obtain rfl := Option.some.inj he
 have H := K252
 refine EJ.next ?_
 refine CJ.seq (CJ.region ?_)
 refine OJ.st Z Z Z (SR.load Z Z (fun w' hx => ldE oU oI Z Z Z (CA.ext (hS.cells (i := 0) Z) hx) Z)) ?_
 refine OJ.es rfl rfl (Es.put oI hS (i := 1) rfl rfl rfl rfl rfl (vs := cPasture.enc y3) rfl (cPasture.len _) (cPasture.one _) (Put.all cPasture (⟨0, 0, (Arr.mk' (Arr.mk' 0 : Arr 10 Int) : Arr 10 (Arr 10 Int)), (Arr.mk' 0 : Arr 10 Int), (Arr.mk' 0 : Arr 10 Int)⟩ : Pasture) y3) (by (try simp only [add_lit, Nat.add_assoc, Nat.zero_add, Nat.add_zero]) <;> rfl)) ?_
 intro w1 hS
 refine OJ.nil (EJ.next ?_)
 refine CJ.ret (?_)
 obtain rfl := Option.some.inj H
 exact EJ.fin Z (.cell Z (ldE oU oI Z Z Z (hS.cells (i := 1) Z) Z) .nil) ⟨Z, hS.ext⟩

def impl_TakeHurdles.f (k : Nat) (a0 : Pasture) (a1 : List Hurdle) : Option (Pasture × Int) := (impl_hurdleCode.f k a0 a1).bind fun t3 => if t3 ≠ 0 then (some ((⟨0, 0, (Arr.mk' (Arr.mk' 0 : Arr 10 Int) : Arr 10 (Arr 10 Int)), (Arr.mk' 0 : Arr 10 Int), (Arr.mk' 0 : Arr 10 Int)⟩ : Pasture), t3)) else ((impl_Pasture_with.f k a0 a1 false).bind fun t4 => some (t4, 0))
theorem impl_TakeHurdles.c (k : Nat) (w : World) (a0 : Pasture) (Aa1 : Option Addr) (ca1 : Nat) (a1 : List Hurdle) (hr1 : Rd cHurdle w Aa1 a1) (hc1 : a1.length ≤ ca1) (r : Pasture × Int) (H : impl_TakeHurdles.f k a0 a1 = some r) :
 CV Tryz.prog 9 [.agg (cPasture.enc a0).toArray, .slice Aa1 a1.length ca1].toArray w fun v w' => v = .tuple #[.agg (cPasture.enc r.1).toArray, .int .i64 r.2] ∧ Ext w w' := by
 have hS := ((St.init w no).param cHurdle Aa1 ca1 a1 hr1 hc1)
 unfold impl_TakeHurdles.f at H
 refine CV.body Tryz.func9 Z Tryz.ntmps9 Z ?_
 refine CJ.seq (CJ.region ?_)
 refine OJ.ef Z Z Z (Ef.box hS Z Z (cPasture.enc a0) Z) ?_
 rintro _ w1 ⟨b1, rfl, hS⟩
 refine OJ.ef rfl rfl rfl (Ef.alloc hS oI rfl rfl (cPasture.enc (⟨0, 0, (Arr.mk' (Arr.mk' 0 : Arr 10 Int) : Arr 10 (Arr 10 Int)), (Arr.mk' 0 : Arr 10 Int), (Arr.mk' 0 : Arr 10 Int)⟩ : Pasture)) (by kernel_rfl)) ?_
 rintro _ w1 ⟨b2, rfl, hS⟩
 refine OJ.pures oU 1 Z (OJ.nil (EJ.next ?_))
 refine CJ.seq ?_
 refine CJ.seq (CJ.region ?_)
 refine OJ.st Z Z Z (SR.load Z Z (fun w' hx => ldE oU oI Z Z Z (CA.ext (hS.cells (i := 0) Z) hx) Z)) ?_
 refine OJ.pures oU 1 Z ?_
 obtain ⟨t3, ht3, H⟩ := pbind H
 refine OJ.callF Z Z Z Z Z hb40 Z (impl_hurdleCode.c k _ a0 Aa1 ca1 a1 (hS.rd' (i := 0) Z) (hS.le' (i := 0) Z) _ ht3) ?_
 rintro _ w1 ⟨rfl, hs⟩
 replace hS := hS.grow hs
 refine OJ.pures oU 1 Z (OJ.nil (EJ.next ?_))
 refine CJ.seq (CJ.region ?_)
 refine OJ.pures oU 2 Z (OJ.nil (EJ.next ?_))
 refine CJ.cond Z (fun hb => ?_) (fun hb => ?_)
 ·replace H := pif_t (of_decide_eq_true hb) H
  refine CJ.seq (CJ.region ?_)
  refine OJ.st Z Z Z (SR.build (C := cPasture) oU oI Z Z Z (zs := [.int .i8 0, .int .i8 0, .int .i16 0, .int .i16 0, .int .i16 0, .int .i16 0, .int .i16 0, .int .i16 0, .int .i16 0, .int .i16 0, .int .i16 0, .int .i16 0, .int .i16 0, .int .i16 0, .int .i16 0, .int .i16 0, .int .i16 0, .int .i16 0, .int .i16 0, .int .i16 0, .int .i16 0, .int .i16 0, .int .i16 0, .int .i16 0, .int .i16 0, .int .i16 0, .int .i16 0, .int .i16 0, .int .i16 0, .int .i16 0, .int .i16 0, .int .i16 0, .int .i16 0, .int .i16 0, .int .i16 0, .int .i16 0, .int .i16 0, .int .i16 0, .int .i16 0, .int .i16 0, .int .i16 0, .int .i16 0, .int .i16 0, .int .i16 0, .int .i16 0, .int .i16 0, .int .i16 0, .int .i16 0, .int .i16 0, .int .i16 0, .int .i16 0, .int .i16 0, .int .i16 0, .int .i16 0, .int .i16 0, .int .i16 0, .int .i16 0, .int .i16 0, .int .i16 0, .int .i16 0, .int .i16 0, .int .i16 0, .int .i16 0, .int .i16 0, .int .i16 0, .int .i16 0, .int .i16 0, .int .i16 0, .int .i16 0, .int .i16 0, .int .i16 0, .int .i16 0, .int .i16 0, .int .i16 0, .int .i16 0, .int .i16 0, .int .i16 0, .int .i16 0, .int .i16 0, .int .i16 0, .int .i16 0, .int .i16 0, .int .i16 0, .int .i16 0, .int .i16 0, .int .i16 0, .int .i16 0, .int .i16 0, .int .i16 0, .int .i16 0, .int .i16 0, .int .i16 0, .int .i16 0, .int .i16 0, .int .i16 0, .int .i16 0, .int .i16 0, .int .i16 0, .int .i16 0, .int .i16 0, .int .i16 0, .int .i16 0, .int .u16 0, .int .u16 0, .int .u16 0, .int .u16 0, .int .u16 0, .int .u16 0, .int .u16 0, .int .u16 0, .int .u16 0, .int .u16 0, .int .u16 0, .int .u16 0, .int .u16 0, .int .u16 0, .int .u16 0, .int .u16 0, .int .u16 0, .int .u16 0, .int .u16 0, .int .u16 0]) Z Z Z (⟨0, 0, (Arr.mk' (Arr.mk' 0 : Arr 10 Int) : Arr 10 (Arr 10 Int)), (Arr.mk' 0 : Arr 10 Int), (Arr.mk' 0 : Arr 10 Int)⟩ : Pasture) Z) ?_
  refine OJ.pures oU 1 Z ?_
  refine OJ.es rfl rfl (Es.put oI hS (i := 1) rfl rfl rfl rfl rfl (vs := cPasture.enc (⟨0, 0, (Arr.mk' (Arr.mk' 0 : Arr 10 Int) : Arr 10 (Arr 10 Int)), (Arr.mk' 0 : Arr 10 Int), (Arr.mk' 0 : Arr 10 Int)⟩ : Pasture)) rfl (cPasture.len _) (cPasture.one _) (Put.all cPasture (⟨0, 0, (Arr.mk' (Arr.mk' 0 : Arr 10 Int) : Arr 10 (Arr 10 Int)), (Arr.mk' 0 : Arr 10 Int), (Arr.mk' 0 : Arr 10 Int)⟩ : Pasture) (⟨0, 0, (Arr.mk' (Arr.mk' 0 : Arr 10 Int) : Arr 10 (Arr 10 Int)), (Arr.mk' 0 : Arr 10 Int), (Arr.mk' 0 : Arr 10 Int)⟩ : Pasture)) (by (try simp only [add_lit, Nat.add_assoc, Nat.zero_add, Nat.add_zero]) <;> rfl)) ?_
  intro w1 hS
  refine OJ.pures oU 1 Z (OJ.nil (EJ.next ?_))
  refine CJ.ret (EJ.skR (?_))
  obtain rfl := Option.some.inj H
  exact EJ.fin Z (.cell Z (ldE oU oI Z Z Z (hS.cells (i := 1) Z) Z) (.tmp Z .nil)) ⟨Z, hS.ext⟩
 replace H := pif_f (of_decide_eq_false hb) H
 refine CJ.skip (EJ.next ?_)
 refine CJ.seq (CJ.region ?_)
 refine OJ.st Z Z Z (SR.load Z Z (fun w' hx => ldE oU oI Z Z Z (CA.ext (hS.cells (i := 0) Z) hx) Z)) ?_
 refine OJ.pures oU 1 Z ?_
 obtain ⟨t4, ht4, H⟩ := pbind H
 refine OJ.callF Z Z Z Z Z hb41 Z (impl_Pasture_with.c k _ a0 Aa1 ca1 a1 (hS.rd' (i := 0) Z) (hS.le' (i := 0) Z) false _ ht4) ?_
 rintro _ w1 ⟨rfl, hs⟩
 replace hS := hS.grow hs
 refine OJ.es rfl rfl (Es.put oI hS (i := 1) rfl rfl rfl rfl rfl (vs := cPasture.enc t4) rfl (cPasture.len _) (cPasture.one _) (Put.all cPasture (⟨0, 0, (Arr.mk' (Arr.mk' 0 : Arr 10 Int) : Arr 10 (Arr 10 Int)), (Arr.mk' 0 : Arr 10 Int), (Arr.mk' 0 : Arr 10 Int)⟩ : Pasture) t4) (by (try simp only [add_lit, Nat.add_assoc, Nat.zero_add, Nat.add_zero]) <;> rfl)) ?_
 intro w1 hS
 refine OJ.pures oU 1 Z (OJ.nil (EJ.next ?_))
 refine CJ.ret (?_)
 obtain rfl := Option.some.inj H
 exact EJ.fin Z (.cell Z (ldE oU oI Z Z Z (hS.cells (i := 1) Z) Z) (.tmp Z .nil)) ⟨Z, hS.ext⟩

def impl_HurdlesOf.f (k : Nat) (a0 : Pasture) : Option (List Hurdle × Int) := (impl_ValidPasture.f k a0).bind fun t2 => if (!t2) = true then (some ([], 1)) else ((impl_Pasture_hurdles.f k a0).bind fun t3 => some (t3, 0))
theorem impl_HurdlesOf.c (k : Nat) (w : World) (a0 : Pasture) (r : List Hurdle × Int) (H : impl_HurdlesOf.f k a0 = some r) :
 CV Tryz.prog 10 [.agg (cPasture.enc a0).toArray].toArray w fun v w' => ∃ (A0 : Option Addr) (c0 : Nat), v = .tuple #[.slice A0 r.1.length c0, .int .i64 r.2] ∧ St w no w' [rowC cHurdle A0 c0 48 r.1] [] := by
 have hS := (St.init w no)
 unfold impl_HurdlesOf.f at H
 refine CV.body Tryz.func10 Z Tryz.ntmps10 Z ?_
 refine CJ.seq (CJ.region ?_)
 refine OJ.ef Z Z Z (Ef.box hS Z Z (cPasture.enc a0) Z) ?_
 rintro _ w1 ⟨b1, rfl, hS⟩
 refine OJ.pures oU 2 Z (OJ.nil (EJ.next ?_))
 refine CJ.seq ?_
 refine CJ.seq (CJ.region ?_)
 refine OJ.st Z Z Z (SR.load Z Z (fun w' hx => ldE oU oI Z Z Z (CA.ext (hS.cells (i := 0) Z) hx) Z)) ?_
 obtain ⟨t2, ht2, H⟩ := pbind H
 refine OJ.callF Z Z Z Z Z hb29 Z (impl_ValidPasture.c k _ a0 _ ht2) ?_
 rintro _ w1 ⟨rfl, hs⟩
 replace hS := hS.grow hs
 refine OJ.pures oU 1 Z (OJ.nil (EJ.next ?_))
 refine CJ.cond Z (fun hb => ?_) (fun hb => ?_)
 ·replace H := pif_t hb H
  refine CJ.seq (CJ.region ?_)
  refine OJ.pures oU 2 Z (OJ.nil (EJ.next ?_))
  refine CJ.ret (EJ.skR (?_))
  replace hS := hS.addNil cHurdle 48 none
  obtain rfl := Option.some.inj H
  exact EJ.fin Z (.tmp Z (.tmp Z .nil)) ⟨none, 0, Z, hS.pick [1] [] Z⟩
 replace H := pifb_f hb H
 refine CJ.skip (EJ.next ?_)
 refine CJ.seq (CJ.region ?_)
 refine OJ.st Z Z Z (SR.load Z Z (fun w' hx => ldE oU oI Z Z Z (CA.ext (hS.cells (i := 0) Z) hx) Z)) ?_
 obtain ⟨t3, ht3, H⟩ := pbind H
 refine OJ.callF Z Z Z Z Z hb30 Z (impl_Pasture_hurdles.c k _ a0 _ ht3) ?_
 rintro _ w1 ⟨A4, c5, rfl, hs⟩
 replace hS := hS.addN hs
 refine OJ.pures oU 2 Z (OJ.nil (EJ.next ?_))
 refine CJ.ret (?_)
 obtain rfl := Option.some.inj H
 exact EJ.fin Z (.tmp Z (.tmp Z .nil)) ⟨A4, c5, Z, hS.pick [1] [] Z⟩

def spec_HurdlesOf.f (k : Nat) (a0 : Pasture) : Option (List Hurdle × Int) := (spec_l01Ok.f k a0).bind fun t2 => if (!t2) = true then (some (([] : List Hurdle), 1)) else ((spec_l03Standing.f k a0).bind fun t4 => some (t4, 0))
theorem spec_HurdlesOf.c (k : Nat) (w : World) (a0 : Pasture) (r : List Hurdle × Int) (H : spec_HurdlesOf.f k a0 = some r) :
 CV Tryz.prog 11 [.agg (cPasture.enc a0).toArray].toArray w fun v w' => ∃ (A0 : Option Addr) (c0 : Nat), v = .tuple #[.slice A0 r.1.length c0, .int .i64 r.2] ∧ St w no w' [rowC cHurdle A0 c0 48 r.1] [] := by
 have hS := (St.init w no)
 unfold spec_HurdlesOf.f at H
 refine CV.body Tryz.func11 Z Tryz.ntmps11 Z ?_
 refine CJ.seq (CJ.region ?_)
 refine OJ.ef Z Z Z (Ef.box hS Z Z (cPasture.enc a0) Z) ?_
 rintro _ w1 ⟨b1, rfl, hS⟩
 refine OJ.pures oU 2 Z (OJ.nil (EJ.next ?_))
 refine CJ.seq ?_
 refine CJ.seq (CJ.region ?_)
 obtain ⟨t2, ht2, H⟩ := pbind H
 refine OJ.callF Z Z Z Z Z hb27 Z (spec_l01Ok.c k _ _ a0 (hS.cells (i := 0) Z) _ ht2) ?_
 rintro _ w1 ⟨rfl, hs⟩
 replace hS := hS.grow hs
 refine OJ.pures oU 1 Z (OJ.nil (EJ.next ?_))
 refine CJ.cond Z (fun hb => ?_) (fun hb => ?_)
 ·replace H := pif_t hb H
  refine CJ.seq (CJ.region ?_)
  refine OJ.ef Z Z Z (Ef.lit oU oI hS (C := cHurdle) Z Z Z Z Z Z ([] : List Hurdle) Z Z Z Z) ?_
  rintro _ w1 ⟨A3, rfl, hS⟩
  refine OJ.pures oU 2 Z (OJ.nil (EJ.next ?_))
  refine CJ.ret (EJ.skR (?_))
  obtain rfl := Option.some.inj H
  exact EJ.fin Z (.tmp Z (.tmp Z .nil)) ⟨A3, (([] : List Hurdle).length), Z, hS.pick [1] [] Z⟩
 replace H := pifb_f hb H
 refine CJ.skip (EJ.next ?_)
 refine CJ.seq (CJ.region ?_)
 obtain ⟨t4, ht4, H⟩ := pbind H
 refine OJ.callF Z Z Z Z Z hb35 Z (spec_l03Standing.c k _ _ a0 (hS.cells (i := 0) Z) _ ht4) ?_
 rintro _ w1 ⟨A5, c6, rfl, hs⟩
 replace hS := hS.addN hs
 refine OJ.pures oU 2 Z (OJ.nil (EJ.next ?_))
 refine CJ.ret (?_)
 obtain rfl := Option.some.inj H
 exact EJ.fin Z (.tmp Z (.tmp Z .nil)) ⟨A5, c6, Z, hS.pick [1] [] Z⟩

def impl_size_impl_Hurdle.f (a0 : List Hurdle) : Option Int := some (a0.length : Int)
theorem impl_size_impl_Hurdle.c (w : World) (Aa0 : Option Addr) (ca0 : Nat) (a0 : List Hurdle) (hr0 : Rd cHurdle w Aa0 a0) (hc0 : a0.length ≤ ca0) (r : Int) (H : impl_size_impl_Hurdle.f a0 = some r) :
 CV Tryz.prog 42 [.slice Aa0 a0.length ca0].toArray w fun v w' => v = .int .i64 r ∧ Ext w w' := by
 have hS := ((St.init w no).param cHurdle Aa0 ca0 a0 hr0 hc0)
 unfold impl_size_impl_Hurdle.f at H
 refine CV.body Tryz.func42 Z Tryz.ntmps42 Z ?_
 refine CJ.seq (CJ.region ?_)
 refine OJ.pures oU 1 Z (OJ.nil (EJ.next ?_))
 refine CJ.seq (CJ.region ?_)
 refine OJ.pures oU 3 Z (OJ.nil (EJ.next ?_))
 refine CJ.ret (?_)
 obtain rfl := Option.some.inj H
 exact EJ.fin Z (.tmp Z .nil) ⟨Z, hS.ext⟩

def impl_CountHurdles.f (k : Nat) (a0 : Pasture) : Option (Int × Int) := (impl_HurdlesOf.f k a0).bind fun t2 => (impl_size_impl_Hurdle.f t2.1).bind fun t5 => some (t5, t2.2)
theorem impl_CountHurdles.c (k : Nat) (w : World) (a0 : Pasture) (r : Int × Int) (H : impl_CountHurdles.f k a0 = some r) :
 CV Tryz.prog 12 [.agg (cPasture.enc a0).toArray].toArray w fun v w' => v = .tuple #[.int .i64 r.1, .int .i64 r.2] ∧ Ext w w' := by
 have hS := (St.init w no)
 unfold impl_CountHurdles.f at H
 refine CV.body Tryz.func12 Z Tryz.ntmps12 Z ?_
 refine CJ.seq (CJ.region ?_)
 refine OJ.ef Z Z Z (Ef.box hS Z Z (cPasture.enc a0) Z) ?_
 rintro _ w1 ⟨b1, rfl, hS⟩
 refine OJ.pures oU 2 Z (OJ.nil (EJ.next ?_))
 refine CJ.seq (CJ.region ?_)
 refine OJ.st Z Z Z (SR.load Z Z (fun w' hx => ldE oU oI Z Z Z (CA.ext (hS.cells (i := 0) Z) hx) Z)) ?_
 obtain ⟨t2, ht2, H⟩ := pbind H
 refine OJ.callF Z Z Z Z Z hb10 Z (impl_HurdlesOf.c k _ a0 _ ht2) ?_
 rintro _ w1 ⟨A3, c4, rfl, hs⟩
 replace hS := hS.addN hs
 refine OJ.pures oU 5 Z (OJ.nil (EJ.next ?_))
 refine CJ.seq (CJ.region ?_)
 refine OJ.pures oU 1 Z ?_
 obtain ⟨t5, ht5, H⟩ := pbind H
 refine OJ.callF Z Z Z Z Z hb42 Z (impl_size_impl_Hurdle.c _ A3 c4 t2.1 (hS.rd (i := 1) Z) (hS.le (i := 1) Z) _ ht5) ?_
 rintro _ w1 ⟨rfl, hs⟩
 replace hS := hS.grow hs
 refine OJ.pures oU 3 Z (OJ.nil (EJ.next ?_))
 refine CJ.ret (?_)
 obtain rfl := Option.some.inj H
 exact EJ.fin Z (.tmp Z (.tmp Z .nil)) ⟨Z, hS.ext⟩

def spec_SameFence.l1 (a0 : List Hurdle) (a1 : List Hurdle) : Nat → Int → Option (Bool ⊕ Unit)
  | 0, _ => none
  | k + 1, y1 => if y1 < (a0.length : Int) then ((getI a0 y1).bind fun t2 => (getI a1 y1).bind fun t3 => if t2 ≠ t3 then (some (Sum.inl false)) else (spec_SameFence.l1 a0 a1 k (IntKind.i64.wrap (y1 + 1)))) else (some (Sum.inr ()))
def spec_SameFence.f (k : Nat) (a0 : List Hurdle) (a1 : List Hurdle) : Option Bool := if (a0.length : Int) ≠ (a1.length : Int) then (some false) else ((spec_SameFence.l1 a0 a1 k 0).bind fun s254 => match s254 with | .inl r => some r | .inr _ => some true)
theorem spec_SameFence.c (k : Nat) (w : World) (Aa0 : Option Addr) (ca0 : Nat) (a0 : List Hurdle) (hr0 : Rd cHurdle w Aa0 a0) (hc0 : a0.length ≤ ca0) (Aa1 : Option Addr) (ca1 : Nat) (a1 : List Hurdle) (hr1 : Rd cHurdle w Aa1 a1) (hc1 : a1.length ≤ ca1) (r : Bool) (H : spec_SameFence.f k a0 a1 = some r) :
 CV Tryz.prog 13 [.slice Aa0 a0.length ca0, .slice Aa1 a1.length ca1].toArray w fun v w' => v = .bool r ∧ Ext w w' := by
 have hS := (((St.init w no).param cHurdle Aa0 ca0 a0 hr0 hc0).param cHurdle Aa1 ca1 a1 hr1 hc1)
 unfold spec_SameFence.f at H
 refine CV.body Tryz.func13 Z Tryz.ntmps13 Z ?_
 refine CJ.seq (CJ.region ?_)
 refine OJ.pures oU 1 Z (OJ.nil (EJ.next ?_))
 refine CJ.seq ?_
 refine CJ.seq (CJ.region ?_)
 refine OJ.pures oU 5 Z (OJ.nil (EJ.next ?_))
 refine CJ.cond Z (fun hb => ?_) (fun hb => ?_)
 ·replace H := pif_t (of_decide_eq_true hb) H
  refine CJ.seq (CJ.region ?_)
  refine OJ.pures oU 1 Z (OJ.nil (EJ.next ?_))
  refine CJ.ret (EJ.skR (?_))
  obtain rfl := Option.some.inj H
  exact EJ.fin Z (.tmp Z .nil) ⟨Z, hS.ext⟩
 replace H := pif_f (of_decide_eq_false hb) H
 refine CJ.skip (EJ.next ?_)
 refine CJ.seq ?_
 refine CJ.seq (CJ.region ?_)
 refine OJ.pures oU 1 Z (OJ.nil (EJ.next ?_))
 obtain ⟨j254, H, K254⟩ := pbind H
 refine CJ.cut1 (fun F w1 => (some (Sum.inr ()) : Option (Bool ⊕ Unit)) = some j254 ∧ F = [] ∧ St w no w1 [] [roC cHurdle Aa0 ca0 a0, roC cHurdle Aa1 ca1 a1]) ?_ ?_
 ·skip
  refine CJ.block ?_
  refine CJ.loop (fun k F w1 => ∃ (y1 : Int), F = [(0, .slice Aa0 a0.length ca0), (1, .slice Aa1 a1.length ca1), (5, .int .i64 y1)] ∧ St w no w1 [] [roC cHurdle Aa0 ca0 a0, roC cHurdle Aa1 ca1 a1] ∧ spec_SameFence.l1 a0 a1 k y1 = some j254) k (F' := [(0, .slice Aa0 a0.length ca0), (1, .slice Aa1 a1.length ca1), (5, .int .i64 0)]) ⟨Z, Z, Z, trivial⟩ ⟨0, Z, hS.pick [] [0, 1] Z, H⟩ ?_
  rintro k F w1 ⟨y1, rfl, hS, H⟩
  cases k with
  | zero => rw [spec_SameFence.l1] at H; cases H
  | succ k =>
    rw [spec_SameFence.l1] at H
    refine CJ.seq ?_
    refine CJ.seq (CJ.region ?_)
    refine OJ.pures oU 4 Z (OJ.nil (EJ.next ?_))
    refine CJ.cond Z (fun hb => ?_) (fun hb => ?_)
    · replace H := pif_t (of_decide_eq_true hb) H
      refine CJ.skip (EJ.next ?_)
      refine CJ.seq ?_
      refine CJ.block ?_
      refine CJ.seq ?_
      refine CJ.draw [] [0, 1, 2, 3, 4, 5, 6, 7, 8] mixed (by kernel_rfl) hS fun w1 hS => ?_
      refine DJ.pures oU 2 Z ?_
      obtain ⟨t2, ht2, H⟩ := pbind H
      obtain ⟨ad2, e2⟩ := (hS.rd' (i := 0) rfl).some' ht2
      refine DJ.st Z Z Z Z Z (SR.idxS oU oI Z Z Z Z e2 Z (getI_some ht2).1) ?_
      refine DJ.st Z Z Z Z Z (SR.load Z Z (fun w' hx => ldE oU oI Z Z Z (CA.ext ((hS.rd' (i := 0) Z).at_ e2 ht2) hx) Z)) ?_
      refine DJ.pures oU 2 Z ?_
      obtain ⟨t3, ht3, H⟩ := pbind H
      obtain ⟨ad3, e3⟩ := (hS.rd' (i := 1) rfl).some' ht3
      refine DJ.st Z Z Z Z Z (SR.idxS oU oI Z Z Z Z e3 Z (getI_some ht3).1) ?_
      refine DJ.st Z Z Z Z Z (SR.load Z Z (fun w' hx => ldE oU oI Z Z Z (CA.ext ((hS.rd' (i := 1) Z).at_ e3 ht3) hx) Z)) ?_
      refine DJ.st Z Z Z Z Z (SR.neS eqT48 eqG48 Z Z Z (Z : _ = (cHurdle.enc t2).toArray) (Z : _ = (cHurdle.enc t3).toArray)) ?_
      refine DJ.nil (EJ.next ?_)
      refine CJ.cond Z (fun hb => ?_) (fun hb => ?_)
      · replace H := pif_t (of_decide_eq_true hb) H
        refine CJ.seq (CJ.region ?_)
        refine OJ.pures oU 1 Z (OJ.nil (EJ.next ?_))
        refine CJ.ret (EJ.bkR (EJ.skR (EJ.skR (EJ.bkR (EJ.skR (EJ.skR (?_)))))))
        first | (obtain rfl := Option.some.inj H; have H := K254) | (obtain ⟨q254, H2, e254⟩ := pbind H; obtain rfl := Option.some.inj e254; obtain rfl := Option.some.inj K254; have H := H2)
        obtain rfl := Option.some.inj H
        exact EJ.fin Z (.tmp Z .nil) ⟨Z, hS.ext⟩
      · replace H := pif_f (of_decide_eq_false hb) H
        refine CJ.skip (EJ.blk (EJ.next ?_))
        refine CJ.region ?_
        refine OJ.pures oU 3 Z ?_
        refine OJ.nil ?_
        exact EJ.round k (F' := [(0, .slice Aa0 a0.length ca0), (1, .slice Aa1 a1.length ca1), (5, .int .i64 (IntKind.i64.wrap (y1 + 1)))]) ⟨Z, Z, Z, trivial⟩ (Nat.lt_succ_self _) ⟨(IntKind.i64.wrap (y1 + 1)), Z, hS.pick [] [0, 1] Z, H⟩
    · replace H := pif_f (of_decide_eq_false hb) H
      refine CJ.exit (EJ.skE (EJ.skE (EJ.hit (?_))))
      exact EJ.meet (F' := []) trivial ⟨H, Z, hS.pick [] [0, 1] Z⟩
 rintro F w1 ⟨he, rfl, hS⟩
 obtain rfl := Option.some.inj he
 have H := K254
 refine EJ.next ?_
 refine CJ.seq (CJ.region ?_)
 refine OJ.pures oU 1 Z (OJ.nil (EJ.next ?_))
 refine CJ.ret (?_)
 obtain rfl := Option.some.inj H
 exact EJ.fin Z (.tmp Z .nil) ⟨Z, hS.ext⟩

def impl_WeakSides_1.f (k : Nat) (a1 : Pasture) (a0 : Hurdle) : Option Bool := (impl_Pasture_with.f k a1 ([a0] : List Hurdle) true).bind fun t3 => (impl_Pasture_far.f k t3 ([a0.At] : List Spot)).bind fun t5 => (impl_Pasture_stands.f a1 a0).bind fun t33 => if (!t33) = true then ((impl_Hurdle_other.f a0).bind fun t34 => (impl_steps_at.f t5 t34).bind fun t35 => some (decide (t35 < 0))) else (some false)
theorem impl_WeakSides_1.c (k : Nat) (w : World) (pa1 : Addr) (a1 : Pasture) (hp1 : CA w pa1 (cPasture.enc a1)) (a0 : Hurdle) (r : Bool) (H : impl_WeakSides_1.f k a1 a0 = some r) :
 CV Tryz.prog 44 [.agg (cHurdle.enc a0).toArray, .pointer (some pa1)].toArray w fun v w' => v = .bool r ∧ Ext w w' := by
 have hS := ((St.init w no).paramP pa1 (cPasture.enc a1) hp1)
 unfold impl_WeakSides_1.f at H
 refine CV.body Tryz.func44 Z Tryz.ntmps44 Z ?_
 refine CJ.seq (CJ.region ?_)
 refine OJ.ef Z Z Z (Ef.box hS Z Z (cHurdle.enc a0) Z) ?_
 rintro _ w1 ⟨b1, rfl, hS⟩
 refine OJ.pures oU 1 Z (OJ.nil (EJ.next ?_))
 refine CJ.seq ?_
 obtain ⟨t3, ht3, H⟩ := pbind H
 obtain ⟨t5, ht5, H⟩ := pbind H
 refine CJ.cut1 (fun F w1 => ∃ (A2 : Option Addr) (A4 : Option Addr) (b6 : Nat), F = [(1, .pointer (some pa1)), (2, .pointer (some ⟨b1, 0, none⟩)), (3, .bool false), (4, .pointer (some ⟨b6, 0, none⟩))] ∧ St w no w1 [box b1 (cHurdle.enc a0) 48, rowC cHurdle A2 (([a0] : List Hurdle).length) 48 ([a0] : List Hurdle), rowC cSpot A4 (([a0.At] : List Spot).length) 45 ([a0.At] : List Spot), box b6 ((carr 10 (carr 10 (ci .i16))).enc t5) 64] [roP pa1 (cPasture.enc a1)]) ?_ ?_
 ·skip
  refine CJ.drawT [] [2, 3, 6, 7, 8, 9] (.one 0 (.one 1 (.one 4 (.one 5 (.br (.alt 2 (.br (.alt 3 (.br (.alt 6 (.br (.alt 7 (.one 8 (.one 9 (.fin))) (.alt 8 (.one 7 (.one 9 (.fin))) (.stop)))) (.alt 8 (.one 6 (.one 7 (.one 9 (.fin)))) (.stop)))) (.alt 6 (.br (.alt 3 (.br (.alt 7 (.one 8 (.one 9 (.fin))) (.alt 8 (.one 7 (.one 9 (.fin))) (.stop)))) (.alt 8 (.one 3 (.one 7 (.one 9 (.fin)))) (.stop)))) (.alt 8 (.br (.alt 3 (.one 6 (.one 7 (.one 9 (.fin)))) (.alt 6 (.one 3 (.one 7 (.one 9 (.fin)))) (.stop)))) (.stop))))) (.alt 6 (.br (.alt 2 (.br (.alt 3 (.br (.alt 7 (.one 8 (.one 9 (.fin))) (.alt 8 (.one 7 (.one 9 (.fin))) (.stop)))) (.alt 8 (.one 3 (.one 7 (.one 9 (.fin)))) (.stop)))) (.alt 8 (.one 2 (.one 3 (.one 7 (.one 9 (.fin))))) (.stop)))) (.alt 8 (.br (.alt 2 (.br (.alt 3 (.one 6 (.one 7 (.one 9 (.fin)))) (.alt 6 (.one 3 (.one 7 (.one 9 (.fin)))) (.stop)))) (.alt 6 (.one 2 (.one 3 (.one 7 (.one 9 (.fin))))) (.stop)))) (.stop))))))))) mixed (by kernel_rfl) hS [0] fun w1 hS hY hV => ?_
  refine TJ.st hY Z Z Z Z Z (fun w2 hY => SR.load Z Z (fun w' hx => ldE oU oI Z Z Z (CA.ext ((hV w2 hY).ca (i := 0) Z) hx) Z)) ?_
  refine TJ.st hY Z Z Z Z Z (fun w2 hY => SR.load Z Z (fun w' hx => ldE oU oI Z Z Z (CA.ext ((hV w2 hY).cellsR (i := 1) Z) hx) Z)) ?_
  refine TJ.sp Z Z Z Z Z (fun w2 => SR.fieldAddr oU oI Z Z Z Z Z Z) ?_
  refine TJ.st hY Z Z Z Z Z (fun w2 hY => SR.load Z Z (fun w' hx => ldN oU oI Z Z Z (CA.ext (CA.sub ((hV w2 hY).cellsR (i := 1) Z) 0) hx) (cSpot.len _) Z)) ?_
  refine TJ.br ?_
  refine TJ.alt ?_ ?_
  ·skip
   refine TJ.ef hY Z Z Z Z Z (Ef.lit oU oI hS (C := cHurdle) Z Z Z Z Z Z ([a0] : List Hurdle) Z Z Z Z) ?_
   rintro _ w1 hY ⟨A7, rfl, hS⟩
   refine TJ.br ?_
   refine TJ.alt ?_ ?_
   ·skip
    refine TJ.callF hY rfl rfl rfl rfl rfl rfl rfl hb41 rfl (impl_Pasture_with.c k _ a1 A7 (([a0] : List Hurdle).length) ([a0] : List Hurdle) (hS.rd (i := 1) rfl) (hS.le (i := 1) rfl) true _ ht3) (by rintro v w' ⟨rfl, hs⟩; exact hs) ?_
    rintro _ w1 hY ⟨rfl, hs⟩
    replace hS := hS.grow hs
    refine TJ.br ?_
    refine TJ.alt ?_ ?_
    ·skip
     refine TJ.ef hY Z Z Z Z Z (Ef.lit oU oI hS (C := cSpot) Z Z Z Z Z Z ([a0.At] : List Spot) Z Z Z Z) ?_
     rintro _ w1 hY ⟨A8, rfl, hS⟩
     refine TJ.br ?_
     refine TJ.alt ?_ ?_
     ·skip
      refine TJ.callF hY rfl rfl rfl rfl rfl rfl rfl hb31 rfl (impl_Pasture_far.c k _ t3 A8 (([a0.At] : List Spot).length) ([a0.At] : List Spot) (hS.rd (i := 2) rfl) (hS.le (i := 2) rfl) _ ht5) (by rintro v w' ⟨rfl, hs⟩; exact hs) ?_
      rintro _ w1 hY ⟨rfl, hs⟩
      replace hS := hS.grow hs
      refine TJ.ef hY rfl rfl rfl rfl rfl (Ef.alloc hS oI rfl rfl ((carr 10 (carr 10 (ci .i16))).enc (Arr.mk' (Arr.mk' 0 : Arr 10 Int) : Arr 10 (Arr 10 Int))) (by kernel_rfl)) ?_
      rintro _ w1 hY ⟨b9, rfl, hS⟩
      have hO := hS
      refine TJ.es rfl rfl rfl rfl (Es.put oI (hS.inn [0]) (i := 3) rfl rfl rfl rfl rfl (vs := (carr 10 (carr 10 (ci .i16))).enc t5) rfl ((carr 10 (carr 10 (ci .i16))).len _) ((carr 10 (carr 10 (ci .i16))).one _) (Put.all (carr 10 (carr 10 (ci .i16))) (Arr.mk' (Arr.mk' 0 : Arr 10 Int) : Arr 10 (Arr 10 Int)) t5) (by (try simp only [add_lit, Nat.add_assoc, Nat.zero_add, Nat.add_zero]) <;> rfl)) (by intro w1 hS; exact hY.wr (hO.inY [0] 1 rfl rfl) hS.chg) ?_
      intro w1 hY hS
      have hS : St w no w1 [box b1 (cHurdle.enc a0) 48, rowC cHurdle A7 (([a0] : List Hurdle).length) 48 ([a0] : List Hurdle), rowC cSpot A8 (([a0.At] : List Spot).length) 45 ([a0.At] : List Spot), box b9 ((carr 10 (carr 10 (ci .i16))).enc t5) 64] [roP pa1 (cPasture.enc a1)] := hO.out [0] hS
      refine TJ.nil ?_
      exact EJ.meet (F' := [(1, .pointer (some pa1)), (2, .pointer (some ⟨b1, 0, none⟩)), (3, .bool false), (4, .pointer (some ⟨b9, 0, none⟩))]) ⟨Z, Z, Z, Z, trivial⟩ ⟨A7, A8, b9, Z, hS.pick [0, 1, 2, 3] [0] Z⟩
     refine TJ.alt ?_ ?_
     ·skip
      refine TJ.ef hY rfl rfl rfl rfl rfl (Ef.alloc hS oI rfl rfl ((carr 10 (carr 10 (ci .i16))).enc (Arr.mk' (Arr.mk' 0 : Arr 10 Int) : Arr 10 (Arr 10 Int))) (by kernel_rfl)) ?_
      rintro _ w1 hY ⟨b10, rfl, hS⟩
      refine TJ.callF hY rfl rfl rfl rfl rfl rfl rfl hb31 rfl (impl_Pasture_far.c k _ t3 A8 (([a0.At] : List Spot).length) ([a0.At] : List Spot) (hS.rd (i := 2) rfl) (hS.le (i := 2) rfl) _ ht5) (by rintro v w' ⟨rfl, hs⟩; exact hs) ?_
      rintro _ w1 hY ⟨rfl, hs⟩
      replace hS := hS.grow hs
      have hO := hS
      refine TJ.es rfl rfl rfl rfl (Es.put oI (hS.inn [0]) (i := 3) rfl rfl rfl rfl rfl (vs := (carr 10 (carr 10 (ci .i16))).enc t5) rfl ((carr 10 (carr 10 (ci .i16))).len _) ((carr 10 (carr 10 (ci .i16))).one _) (Put.all (carr 10 (carr 10 (ci .i16))) (Arr.mk' (Arr.mk' 0 : Arr 10 Int) : Arr 10 (Arr 10 Int)) t5) (by (try simp only [add_lit, Nat.add_assoc, Nat.zero_add, Nat.add_zero]) <;> rfl)) (by intro w1 hS; exact hY.wr (hO.inY [0] 1 rfl rfl) hS.chg) ?_
      intro w1 hY hS
      have hS : St w no w1 [box b1 (cHurdle.enc a0) 48, rowC cHurdle A7 (([a0] : List Hurdle).length) 48 ([a0] : List Hurdle), rowC cSpot A8 (([a0.At] : List Spot).length) 45 ([a0.At] : List Spot), box b10 ((carr 10 (carr 10 (ci .i16))).enc t5) 64] [roP pa1 (cPasture.enc a1)] := hO.out [0] hS
      refine TJ.nil ?_
      exact EJ.meet (F' := [(1, .pointer (some pa1)), (2, .pointer (some ⟨b1, 0, none⟩)), (3, .bool false), (4, .pointer (some ⟨b10, 0, none⟩))]) ⟨Z, Z, Z, Z, trivial⟩ ⟨A7, A8, b10, Z, hS.pick [0, 1, 2, 3] [0] Z⟩
     exact TJ.stop
    refine TJ.alt ?_ ?_
    ·skip
     refine TJ.ef hY rfl rfl rfl rfl rfl (Ef.alloc hS oI rfl rfl ((carr 10 (carr 10 (ci .i16))).enc (Arr.mk' (Arr.mk' 0 : Arr 10 Int) : Arr 10 (Arr 10 Int))) (by kernel_rfl)) ?_
     rintro _ w1 hY ⟨b11, rfl, hS⟩
     refine TJ.ef hY Z Z Z Z Z (Ef.lit oU oI hS (C := cSpot) Z Z Z Z Z Z ([a0.At] : List Spot) Z Z Z Z) ?_
     rintro _ w1 hY ⟨A12, rfl, hS⟩
     refine TJ.callF hY rfl rfl rfl rfl rfl rfl rfl hb31 rfl (impl_Pasture_far.c k _ t3 A12 (([a0.At] : List Spot).length) ([a0.At] : List Spot) (hS.rd (i := 3) rfl) (hS.le (i := 3) rfl) _ ht5) (by rintro v w' ⟨rfl, hs⟩; exact hs) ?_
     rintro _ w1 hY ⟨rfl, hs⟩
     replace hS := hS.grow hs
     have hO := hS
     refine TJ.es rfl rfl rfl rfl (Es.put oI (hS.inn [0]) (i := 2) rfl rfl rfl rfl rfl (vs := (carr 10 (carr 10 (ci .i16))).enc t5) rfl ((carr 10 (carr 10 (ci .i16))).len _) ((carr 10 (carr 10 (ci .i16))).one _) (Put.all (carr 10 (carr 10 (ci .i16))) (Arr.mk' (Arr.mk' 0 : Arr 10 Int) : Arr 10 (Arr 10 Int)) t5) (by (try simp only [add_lit, Nat.add_assoc, Nat.zero_add, Nat.add_zero]) <;> rfl)) (by intro w1 hS; exact hY.wr (hO.inY [0] 1 rfl rfl) hS.chg) ?_
     intro w1 hY hS
     have hS : St w no w1 [box b1 (cHurdle.enc a0) 48, rowC cHurdle A7 (([a0] : List Hurdle).length) 48 ([a0] : List Hurdle), box b11 ((carr 10 (carr 10 (ci .i16))).enc t5) 64, rowC cSpot A12 (([a0.At] : List Spot).length) 45 ([a0.At] : List Spot)] [roP pa1 (cPasture.enc a1)] := hO.out [0] hS
     refine TJ.nil ?_
     exact EJ.meet (F' := [(1, .pointer (some pa1)), (2, .pointer (some ⟨b1, 0, none⟩)), (3, .bool false), (4, .pointer (some ⟨b11, 0, none⟩))]) ⟨Z, Z, Z, Z, trivial⟩ ⟨A7, A12, b11, Z, hS.pick [0, 1, 3, 2] [0] Z⟩
    exact TJ.stop
   refine TJ.alt ?_ ?_
   ·skip
    refine TJ.ef hY Z Z Z Z Z (Ef.lit oU oI hS (C := cSpot) Z Z Z Z Z Z ([a0.At] : List Spot) Z Z Z Z) ?_
    rintro _ w1 hY ⟨A13, rfl, hS⟩
    refine TJ.br ?_
    refine TJ.alt ?_ ?_
    ·skip
     refine TJ.callF hY rfl rfl rfl rfl rfl rfl rfl hb41 rfl (impl_Pasture_with.c k _ a1 A7 (([a0] : List Hurdle).length) ([a0] : List Hurdle) (hS.rd (i := 1) rfl) (hS.le (i := 1) rfl) true _ ht3) (by rintro v w' ⟨rfl, hs⟩; exact hs) ?_
     rintro _ w1 hY ⟨rfl, hs⟩
     replace hS := hS.grow hs
     refine TJ.br ?_
     refine TJ.alt ?_ ?_
     ·skip
      refine TJ.callF hY rfl rfl rfl rfl rfl rfl rfl hb31 rfl (impl_Pasture_far.c k _ t3 A13 (([a0.At] : List Spot).length) ([a0.At] : List Spot) (hS.rd (i := 2) rfl) (hS.le (i := 2) rfl) _ ht5) (by rintro v w' ⟨rfl, hs⟩; exact hs) ?_
      rintro _ w1 hY ⟨rfl, hs⟩
      replace hS := hS.grow hs
      refine TJ.ef hY rfl rfl rfl rfl rfl (Ef.alloc hS oI rfl rfl ((carr 10 (carr 10 (ci .i16))).enc (Arr.mk' (Arr.mk' 0 : Arr 10 Int) : Arr 10 (Arr 10 Int))) (by kernel_rfl)) ?_
      rintro _ w1 hY ⟨b14, rfl, hS⟩
      have hO := hS
      refine TJ.es rfl rfl rfl rfl (Es.put oI (hS.inn [0]) (i := 3) rfl rfl rfl rfl rfl (vs := (carr 10 (carr 10 (ci .i16))).enc t5) rfl ((carr 10 (carr 10 (ci .i16))).len _) ((carr 10 (carr 10 (ci .i16))).one _) (Put.all (carr 10 (carr 10 (ci .i16))) (Arr.mk' (Arr.mk' 0 : Arr 10 Int) : Arr 10 (Arr 10 Int)) t5) (by (try simp only [add_lit, Nat.add_assoc, Nat.zero_add, Nat.add_zero]) <;> rfl)) (by intro w1 hS; exact hY.wr (hO.inY [0] 1 rfl rfl) hS.chg) ?_
      intro w1 hY hS
      have hS : St w no w1 [box b1 (cHurdle.enc a0) 48, rowC cHurdle A7 (([a0] : List Hurdle).length) 48 ([a0] : List Hurdle), rowC cSpot A13 (([a0.At] : List Spot).length) 45 ([a0.At] : List Spot), box b14 ((carr 10 (carr 10 (ci .i16))).enc t5) 64] [roP pa1 (cPasture.enc a1)] := hO.out [0] hS
      refine TJ.nil ?_
      exact EJ.meet (F' := [(1, .pointer (some pa1)), (2, .pointer (some ⟨b1, 0, none⟩)), (3, .bool false), (4, .pointer (some ⟨b14, 0, none⟩))]) ⟨Z, Z, Z, Z, trivial⟩ ⟨A7, A13, b14, Z, hS.pick [0, 1, 2, 3] [0] Z⟩
     refine TJ.alt ?_ ?_
     ·skip
      refine TJ.ef hY rfl rfl rfl rfl rfl (Ef.alloc hS oI rfl rfl ((carr 10 (carr 10 (ci .i16))).enc (Arr.mk' (Arr.mk' 0 : Arr 10 Int) : Arr 10 (Arr 10 Int))) (by kernel_rfl)) ?_
      rintro _ w1 hY ⟨b15, rfl, hS⟩
      refine TJ.callF hY rfl rfl rfl rfl rfl rfl rfl hb31 rfl (impl_Pasture_far.c k _ t3 A13 (([a0.At] : List Spot).length) ([a0.At] : List Spot) (hS.rd (i := 2) rfl) (hS.le (i := 2) rfl) _ ht5) (by rintro v w' ⟨rfl, hs⟩; exact hs) ?_
      rintro _ w1 hY ⟨rfl, hs⟩
      replace hS := hS.grow hs
      have hO := hS
      refine TJ.es rfl rfl rfl rfl (Es.put oI (hS.inn [0]) (i := 3) rfl rfl rfl rfl rfl (vs := (carr 10 (carr 10 (ci .i16))).enc t5) rfl ((carr 10 (carr 10 (ci .i16))).len _) ((carr 10 (carr 10 (ci .i16))).one _) (Put.all (carr 10 (carr 10 (ci .i16))) (Arr.mk' (Arr.mk' 0 : Arr 10 Int) : Arr 10 (Arr 10 Int)) t5) (by (try simp only [add_lit, Nat.add_assoc, Nat.zero_add, Nat.add_zero]) <;> rfl)) (by intro w1 hS; exact hY.wr (hO.inY [0] 1 rfl rfl) hS.chg) ?_
      intro w1 hY hS
      have hS : St w no w1 [box b1 (cHurdle.enc a0) 48, rowC cHurdle A7 (([a0] : List Hurdle).length) 48 ([a0] : List Hurdle), rowC cSpot A13 (([a0.At] : List Spot).length) 45 ([a0.At] : List Spot), box b15 ((carr 10 (carr 10 (ci .i16))).enc t5) 64] [roP pa1 (cPasture.enc a1)] := hO.out [0] hS
      refine TJ.nil ?_
      exact EJ.meet (F' := [(1, .pointer (some pa1)), (2, .pointer (some ⟨b1, 0, none⟩)), (3, .bool false), (4, .pointer (some ⟨b15, 0, none⟩))]) ⟨Z, Z, Z, Z, trivial⟩ ⟨A7, A13, b15, Z, hS.pick [0, 1, 2, 3] [0] Z⟩
     exact TJ.stop
    refine TJ.alt ?_ ?_
    ·skip
     refine TJ.ef hY rfl rfl rfl rfl rfl (Ef.alloc hS oI rfl rfl ((carr 10 (carr 10 (ci .i16))).enc (Arr.mk' (Arr.mk' 0 : Arr 10 Int) : Arr 10 (Arr 10 Int))) (by kernel_rfl)) ?_
     rintro _ w1 hY ⟨b16, rfl, hS⟩
     refine TJ.callF hY rfl rfl rfl rfl rfl rfl rfl hb41 rfl (impl_Pasture_with.c k _ a1 A7 (([a0] : List Hurdle).length) ([a0] : List Hurdle) (hS.rd (i := 1) rfl) (hS.le (i := 1) rfl) true _ ht3) (by rintro v w' ⟨rfl, hs⟩; exact hs) ?_
     rintro _ w1 hY ⟨rfl, hs⟩
     replace hS := hS.grow hs
     refine TJ.callF hY rfl rfl rfl rfl rfl rfl rfl hb31 rfl (impl_Pasture_far.c k _ t3 A13 (([a0.At] : List Spot).length) ([a0.At] : List Spot) (hS.rd (i := 2) rfl) (hS.le (i := 2) rfl) _ ht5) (by rintro v w' ⟨rfl, hs⟩; exact hs) ?_
     rintro _ w1 hY ⟨rfl, hs⟩
     replace hS := hS.grow hs
     have hO := hS
     refine TJ.es rfl rfl rfl rfl (Es.put oI (hS.inn [0]) (i := 3) rfl rfl rfl rfl rfl (vs := (carr 10 (carr 10 (ci .i16))).enc t5) rfl ((carr 10 (carr 10 (ci .i16))).len _) ((carr 10 (carr 10 (ci .i16))).one _) (Put.all (carr 10 (carr 10 (ci .i16))) (Arr.mk' (Arr.mk' 0 : Arr 10 Int) : Arr 10 (Arr 10 Int)) t5) (by (try simp only [add_lit, Nat.add_assoc, Nat.zero_add, Nat.add_zero]) <;> rfl)) (by intro w1 hS; exact hY.wr (hO.inY [0] 1 rfl rfl) hS.chg) ?_
     intro w1 hY hS
     have hS : St w no w1 [box b1 (cHurdle.enc a0) 48, rowC cHurdle A7 (([a0] : List Hurdle).length) 48 ([a0] : List Hurdle), rowC cSpot A13 (([a0.At] : List Spot).length) 45 ([a0.At] : List Spot), box b16 ((carr 10 (carr 10 (ci .i16))).enc t5) 64] [roP pa1 (cPasture.enc a1)] := hO.out [0] hS
     refine TJ.nil ?_
     exact EJ.meet (F' := [(1, .pointer (some pa1)), (2, .pointer (some ⟨b1, 0, none⟩)), (3, .bool false), (4, .pointer (some ⟨b16, 0, none⟩))]) ⟨Z, Z, Z, Z, trivial⟩ ⟨A7, A13, b16, Z, hS.pick [0, 1, 2, 3] [0] Z⟩
    exact TJ.stop
   refine TJ.alt ?_ ?_
   ·skip
    refine TJ.ef hY rfl rfl rfl rfl rfl (Ef.alloc hS oI rfl rfl ((carr 10 (carr 10 (ci .i16))).enc (Arr.mk' (Arr.mk' 0 : Arr 10 Int) : Arr 10 (Arr 10 Int))) (by kernel_rfl)) ?_
    rintro _ w1 hY ⟨b17, rfl, hS⟩
    refine TJ.br ?_
    refine TJ.alt ?_ ?_
    ·skip
     refine TJ.callF hY rfl rfl rfl rfl rfl rfl rfl hb41 rfl (impl_Pasture_with.c k _ a1 A7 (([a0] : List Hurdle).length) ([a0] : List Hurdle) (hS.rd (i := 1) rfl) (hS.le (i := 1) rfl) true _ ht3) (by rintro v w' ⟨rfl, hs⟩; exact hs) ?_
     rintro _ w1 hY ⟨rfl, hs⟩
     replace hS := hS.grow hs
     refine TJ.ef hY Z Z Z Z Z (Ef.lit oU oI hS (C := cSpot) Z Z Z Z Z Z ([a0.At] : List Spot) Z Z Z Z) ?_
     rintro _ w1 hY ⟨A18, rfl, hS⟩
     refine TJ.callF hY rfl rfl rfl rfl rfl rfl rfl hb31 rfl (impl_Pasture_far.c k _ t3 A18 (([a0.At] : List Spot).length) ([a0.At] : List Spot) (hS.rd (i := 3) rfl) (hS.le (i := 3) rfl) _ ht5) (by rintro v w' ⟨rfl, hs⟩; exact hs) ?_
     rintro _ w1 hY ⟨rfl, hs⟩
     replace hS := hS.grow hs
     have hO := hS
     refine TJ.es rfl rfl rfl rfl (Es.put oI (hS.inn [0]) (i := 2) rfl rfl rfl rfl rfl (vs := (carr 10 (carr 10 (ci .i16))).enc t5) rfl ((carr 10 (carr 10 (ci .i16))).len _) ((carr 10 (carr 10 (ci .i16))).one _) (Put.all (carr 10 (carr 10 (ci .i16))) (Arr.mk' (Arr.mk' 0 : Arr 10 Int) : Arr 10 (Arr 10 Int)) t5) (by (try simp only [add_lit, Nat.add_assoc, Nat.zero_add, Nat.add_zero]) <;> rfl)) (by intro w1 hS; exact hY.wr (hO.inY [0] 1 rfl rfl) hS.chg) ?_
     intro w1 hY hS
     have hS : St w no w1 [box b1 (cHurdle.enc a0) 48, rowC cHurdle A7 (([a0] : List Hurdle).length) 48 ([a0] : List Hurdle), box b17 ((carr 10 (carr 10 (ci .i16))).enc t5) 64, rowC cSpot A18 (([a0.At] : List Spot).length) 45 ([a0.At] : List Spot)] [roP pa1 (cPasture.enc a1)] := hO.out [0] hS
     refine TJ.nil ?_
     exact EJ.meet (F' := [(1, .pointer (some pa1)), (2, .pointer (some ⟨b1, 0, none⟩)), (3, .bool false), (4, .pointer (some ⟨b17, 0, none⟩))]) ⟨Z, Z, Z, Z, trivial⟩ ⟨A7, A18, b17, Z, hS.pick [0, 1, 3, 2] [0] Z⟩
    refine TJ.alt ?_ ?_
    ·skip
     refine TJ.ef hY Z Z Z Z Z (Ef.lit oU oI hS (C := cSpot) Z Z Z Z Z Z ([a0.At] : List Spot) Z Z Z Z) ?_
     rintro _ w1 hY ⟨A19, rfl, hS⟩
     refine TJ.callF hY rfl rfl rfl rfl rfl rfl rfl hb41 rfl (impl_Pasture_with.c k _ a1 A7 (([a0] : List Hurdle).length) ([a0] : List Hurdle) (hS.rd (i := 1) rfl) (hS.le (i := 1) rfl) true _ ht3) (by rintro v w' ⟨rfl, hs⟩; exact hs) ?_
     rintro _ w1 hY ⟨rfl, hs⟩
     replace hS := hS.grow hs
     refine TJ.callF hY rfl rfl rfl rfl rfl rfl rfl hb31 rfl (impl_Pasture_far.c k _ t3 A19 (([a0.At] : List Spot).length) ([a0.At] : List Spot) (hS.rd (i := 3) rfl) (hS.le (i := 3) rfl) _ ht5) (by rintro v w' ⟨rfl, hs⟩; exact hs) ?_
     rintro _ w1 hY ⟨rfl, hs⟩
     replace hS := hS.grow hs
     have hO := hS
     refine TJ.es rfl rfl rfl rfl (Es.put oI (hS.inn [0]) (i := 2) rfl rfl rfl rfl rfl (vs := (carr 10 (carr 10 (ci .i16))).enc t5) rfl ((carr 10 (carr 10 (ci .i16))).len _) ((carr 10 (carr 10 (ci .i16))).one _) (Put.all (carr 10 (carr 10 (ci .i16))) (Arr.mk' (Arr.mk' 0 : Arr 10 Int) : Arr 10 (Arr 10 Int)) t5) (by (try simp only [add_lit, Nat.add_assoc, Nat.zero_add, Nat.add_zero]) <;> rfl)) (by intro w1 hS; exact hY.wr (hO.inY [0] 1 rfl rfl) hS.chg) ?_
     intro w1 hY hS
     have hS : St w no w1 [box b1 (cHurdle.enc a0) 48, rowC cHurdle A7 (([a0] : List Hurdle).length) 48 ([a0] : List Hurdle), box b17 ((carr 10 (carr 10 (ci .i16))).enc t5) 64, rowC cSpot A19 (([a0.At] : List Spot).length) 45 ([a0.At] : List Spot)] [roP pa1 (cPasture.enc a1)] := hO.out [0] hS
     refine TJ.nil ?_
     exact EJ.meet (F' := [(1, .pointer (some pa1)), (2, .pointer (some ⟨b1, 0, none⟩)), (3, .bool false), (4, .pointer (some ⟨b17, 0, none⟩))]) ⟨Z, Z, Z, Z, trivial⟩ ⟨A7, A19, b17, Z, hS.pick [0, 1, 3, 2] [0] Z⟩
    exact TJ.stop
   exact TJ.stop
  refine TJ.alt ?_ ?_
  ·skip
   refine TJ.ef hY Z Z Z Z Z (Ef.lit oU oI hS (C := cSpot) Z Z Z Z Z Z ([a0.At] : List Spot) Z Z Z Z) ?_
   rintro _ w1 hY ⟨A20, rfl, hS⟩
   refine TJ.br ?_
   refine TJ.alt ?_ ?_
   ·skip
    refine TJ.ef hY Z Z Z Z Z (Ef.lit oU oI hS (C := cHurdle) Z Z Z Z Z Z ([a0] : List Hurdle) Z Z Z Z) ?_
    rintro _ w1 hY ⟨A21, rfl, hS⟩
    refine TJ.br ?_
    refine TJ.alt ?_ ?_
    ·skip
     refine TJ.callF hY rfl rfl rfl rfl rfl rfl rfl hb41 rfl (impl_Pasture_with.c k _ a1 A21 (([a0] : List Hurdle).length) ([a0] : List Hurdle) (hS.rd (i := 2) rfl) (hS.le (i := 2) rfl) true _ ht3) (by rintro v w' ⟨rfl, hs⟩; exact hs) ?_
     rintro _ w1 hY ⟨rfl, hs⟩
     replace hS := hS.grow hs
     refine TJ.br ?_
     refine TJ.alt ?_ ?_
     ·skip
      refine TJ.callF hY rfl rfl rfl rfl rfl rfl rfl hb31 rfl (impl_Pasture_far.c k _ t3 A20 (([a0.At] : List Spot).length) ([a0.At] : List Spot) (hS.rd (i := 1) rfl) (hS.le (i := 1) rfl) _ ht5) (by rintro v w' ⟨rfl, hs⟩; exact hs) ?_
      rintro _ w1 hY ⟨rfl, hs⟩
      replace hS := hS.grow hs
      refine TJ.ef hY rfl rfl rfl rfl rfl (Ef.alloc hS oI rfl rfl ((carr 10 (carr 10 (ci .i16))).enc (Arr.mk' (Arr.mk' 0 : Arr 10 Int) : Arr 10 (Arr 10 Int))) (by kernel_rfl)) ?_
      rintro _ w1 hY ⟨b22, rfl, hS⟩
      have hO := hS
      refine TJ.es rfl rfl rfl rfl (Es.put oI (hS.inn [0]) (i := 3) rfl rfl rfl rfl rfl (vs := (carr 10 (carr 10 (ci .i16))).enc t5) rfl ((carr 10 (carr 10 (ci .i16))).len _) ((carr 10 (carr 10 (ci .i16))).one _) (Put.all (carr 10 (carr 10 (ci .i16))) (Arr.mk' (Arr.mk' 0 : Arr 10 Int) : Arr 10 (Arr 10 Int)) t5) (by (try simp only [add_lit, Nat.add_assoc, Nat.zero_add, Nat.add_zero]) <;> rfl)) (by intro w1 hS; exact hY.wr (hO.inY [0] 1 rfl rfl) hS.chg) ?_
      intro w1 hY hS
      have hS : St w no w1 [box b1 (cHurdle.enc a0) 48, rowC cSpot A20 (([a0.At] : List Spot).length) 45 ([a0.At] : List Spot), rowC cHurdle A21 (([a0] : List Hurdle).length) 48 ([a0] : List Hurdle), box b22 ((carr 10 (carr 10 (ci .i16))).enc t5) 64] [roP pa1 (cPasture.enc a1)] := hO.out [0] hS
      refine TJ.nil ?_
      exact EJ.meet (F' := [(1, .pointer (some pa1)), (2, .pointer (some ⟨b1, 0, none⟩)), (3, .bool false), (4, .pointer (some ⟨b22, 0, none⟩))]) ⟨Z, Z, Z, Z, trivial⟩ ⟨A21, A20, b22, Z, hS.pick [0, 2, 1, 3] [0] Z⟩
     refine TJ.alt ?_ ?_
     ·skip
      refine TJ.ef hY rfl rfl rfl rfl rfl (Ef.alloc hS oI rfl rfl ((carr 10 (carr 10 (ci .i16))).enc (Arr.mk' (Arr.mk' 0 : Arr 10 Int) : Arr 10 (Arr 10 Int))) (by kernel_rfl)) ?_
      rintro _ w1 hY ⟨b23, rfl, hS⟩
      refine TJ.callF hY rfl rfl rfl rfl rfl rfl rfl hb31 rfl (impl_Pasture_far.c k _ t3 A20 (([a0.At] : List Spot).length) ([a0.At] : List Spot) (hS.rd (i := 1) rfl) (hS.le (i := 1) rfl) _ ht5) (by rintro v w' ⟨rfl, hs⟩; exact hs) ?_
      rintro _ w1 hY ⟨rfl, hs⟩
      replace hS := hS.grow hs
      have hO := hS
      refine TJ.es rfl rfl rfl rfl (Es.put oI (hS.inn [0]) (i := 3) rfl rfl rfl rfl rfl (vs := (carr 10 (carr 10 (ci .i16))).enc t5) rfl ((carr 10 (carr 10 (ci .i16))).len _) ((carr 10 (carr 10 (ci .i16))).one _) (Put.all (carr 10 (carr 10 (ci .i16))) (Arr.mk' (Arr.mk' 0 : Arr 10 Int) : Arr 10 (Arr 10 Int)) t5) (by (try simp only [add_lit, Nat.add_assoc, Nat.zero_add, Nat.add_zero]) <;> rfl)) (by intro w1 hS; exact hY.wr (hO.inY [0] 1 rfl rfl) hS.chg) ?_
      intro w1 hY hS
      have hS : St w no w1 [box b1 (cHurdle.enc a0) 48, rowC cSpot A20 (([a0.At] : List Spot).length) 45 ([a0.At] : List Spot), rowC cHurdle A21 (([a0] : List Hurdle).length) 48 ([a0] : List Hurdle), box b23 ((carr 10 (carr 10 (ci .i16))).enc t5) 64] [roP pa1 (cPasture.enc a1)] := hO.out [0] hS
      refine TJ.nil ?_
      exact EJ.meet (F' := [(1, .pointer (some pa1)), (2, .pointer (some ⟨b1, 0, none⟩)), (3, .bool false), (4, .pointer (some ⟨b23, 0, none⟩))]) ⟨Z, Z, Z, Z, trivial⟩ ⟨A21, A20, b23, Z, hS.pick [0, 2, 1, 3] [0] Z⟩
     exact TJ.stop
    refine TJ.alt ?_ ?_
    ·skip
     refine TJ.ef hY rfl rfl rfl rfl rfl (Ef.alloc hS oI rfl rfl ((carr 10 (carr 10 (ci .i16))).enc (Arr.mk' (Arr.mk' 0 : Arr 10 Int) : Arr 10 (Arr 10 Int))) (by kernel_rfl)) ?_
     rintro _ w1 hY ⟨b24, rfl, hS⟩
     refine TJ.callF hY rfl rfl rfl rfl rfl rfl rfl hb41 rfl (impl_Pasture_with.c k _ a1 A21 (([a0] : List Hurdle).length) ([a0] : List Hurdle) (hS.rd (i := 2) rfl) (hS.le (i := 2) rfl) true _ ht3) (by rintro v w' ⟨rfl, hs⟩; exact hs) ?_
     rintro _ w1 hY ⟨rfl, hs⟩
     replace hS := hS.grow hs
     refine TJ.callF hY rfl rfl rfl rfl rfl rfl rfl hb31 rfl (impl_Pasture_far.c k _ t3 A20 (([a0.At] : List Spot).length) ([a0.At] : List Spot) (hS.rd (i := 1) rfl) (hS.le (i := 1) rfl) _ ht5) (by rintro v w' ⟨rfl, hs⟩; exact hs) ?_
     rintro _ w1 hY ⟨rfl, hs⟩
     replace hS := hS.grow hs
     have hO := hS
     refine TJ.es rfl rfl rfl rfl (Es.put oI (hS.inn [0]) (i := 3) rfl rfl rfl rfl rfl (vs := (carr 10 (carr 10 (ci .i16))).enc t5) rfl ((carr 10 (carr 10 (ci .i16))).len _) ((carr 10 (carr 10 (ci .i16))).one _) (Put.all (carr 10 (carr 10 (ci .i16))) (Arr.mk' (Arr.mk' 0 : Arr 10 Int) : Arr 10 (Arr 10 Int)) t5) (by (try simp only [add_lit, Nat.add_assoc, Nat.zero_add, Nat.add_zero]) <;> rfl)) (by intro w1 hS; exact hY.wr (hO.inY [0] 1 rfl rfl) hS.chg) ?_
     intro w1 hY hS
     have hS : St w no w1 [box b1 (cHurdle.enc a0) 48, rowC cSpot A20 (([a0.At] : List Spot).length) 45 ([a0.At] : List Spot), rowC cHurdle A21 (([a0] : List Hurdle).length) 48 ([a0] : List Hurdle), box b24 ((carr 10 (carr 10 (ci .i16))).enc t5) 64] [roP pa1 (cPasture.enc a1)] := hO.out [0] hS
     refine TJ.nil ?_
     exact EJ.meet (F' := [(1, .pointer (some pa1)), (2, .pointer (some ⟨b1, 0, none⟩)), (3, .bool false), (4, .pointer (some ⟨b24, 0, none⟩))]) ⟨Z, Z, Z, Z, trivial⟩ ⟨A21, A20, b24, Z, hS.pick [0, 2, 1, 3] [0] Z⟩
    exact TJ.stop
   refine TJ.alt ?_ ?_
   ·skip
    refine TJ.ef hY rfl rfl rfl rfl rfl (Ef.alloc hS oI rfl rfl ((carr 10 (carr 10 (ci .i16))).enc (Arr.mk' (Arr.mk' 0 : Arr 10 Int) : Arr 10 (Arr 10 Int))) (by kernel_rfl)) ?_
    rintro _ w1 hY ⟨b25, rfl, hS⟩
    refine TJ.ef hY Z Z Z Z Z (Ef.lit oU oI hS (C := cHurdle) Z Z Z Z Z Z ([a0] : List Hurdle) Z Z Z Z) ?_
    rintro _ w1 hY ⟨A26, rfl, hS⟩
    refine TJ.callF hY rfl rfl rfl rfl rfl rfl rfl hb41 rfl (impl_Pasture_with.c k _ a1 A26 (([a0] : List Hurdle).length) ([a0] : List Hurdle) (hS.rd (i := 3) rfl) (hS.le (i := 3) rfl) true _ ht3) (by rintro v w' ⟨rfl, hs⟩; exact hs) ?_
    rintro _ w1 hY ⟨rfl, hs⟩
    replace hS := hS.grow hs
    refine TJ.callF hY rfl rfl rfl rfl rfl rfl rfl hb31 rfl (impl_Pasture_far.c k _ t3 A20 (([a0.At] : List Spot).length) ([a0.At] : List Spot) (hS.rd (i := 1) rfl) (hS.le (i := 1) rfl) _ ht5) (by rintro v w' ⟨rfl, hs⟩; exact hs) ?_
    rintro _ w1 hY ⟨rfl, hs⟩
    replace hS := hS.grow hs
    have hO := hS
    refine TJ.es rfl rfl rfl rfl (Es.put oI (hS.inn [0]) (i := 2) rfl rfl rfl rfl rfl (vs := (carr 10 (carr 10 (ci .i16))).enc t5) rfl ((carr 10 (carr 10 (ci .i16))).len _) ((carr 10 (carr 10 (ci .i16))).one _) (Put.all (carr 10 (carr 10 (ci .i16))) (Arr.mk' (Arr.mk' 0 : Arr 10 Int) : Arr 10 (Arr 10 Int)) t5) (by (try simp only [add_lit, Nat.add_assoc, Nat.zero_add, Nat.add_zero]) <;> rfl)) (by intro w1 hS; exact hY.wr (hO.inY [0] 1 rfl rfl) hS.chg) ?_
    intro w1 hY hS
    have hS : St w no w1 [box b1 (cHurdle.enc a0) 48, rowC cSpot A20 (([a0.At] : List Spot).length) 45 ([a0.At] : List Spot), box b25 ((carr 10 (carr 10 (ci .i16))).enc t5) 64, rowC cHurdle A26 (([a0] : List Hurdle).length) 48 ([a0] : List Hurdle)] [roP pa1 (cPasture.enc a1)] := hO.out [0] hS
    refine TJ.nil ?_
    exact EJ.meet (F' := [(1, .pointer (some pa1)), (2, .pointer (some ⟨b1, 0, none⟩)), (3, .bool false), (4, .pointer (some ⟨b25, 0, none⟩))]) ⟨Z, Z, Z, Z, trivial⟩ ⟨A26, A20, b25, Z, hS.pick [0, 3, 1, 2] [0] Z⟩
   exact TJ.stop
  refine TJ.alt ?_ ?_
  ·skip
   refine TJ.ef hY rfl rfl rfl rfl rfl (Ef.alloc hS oI rfl rfl ((carr 10 (carr 10 (ci .i16))).enc (Arr.mk' (Arr.mk' 0 : Arr 10 Int) : Arr 10 (Arr 10 Int))) (by kernel_rfl)) ?_
   rintro _ w1 hY ⟨b27, rfl, hS⟩
   refine TJ.br ?_
   refine TJ.alt ?_ ?_
   ·skip
    refine TJ.ef hY Z Z Z Z Z (Ef.lit oU oI hS (C := cHurdle) Z Z Z Z Z Z ([a0] : List Hurdle) Z Z Z Z) ?_
    rintro _ w1 hY ⟨A28, rfl, hS⟩
    refine TJ.br ?_
    refine TJ.alt ?_ ?_
    ·skip
     refine TJ.callF hY rfl rfl rfl rfl rfl rfl rfl hb41 rfl (impl_Pasture_with.c k _ a1 A28 (([a0] : List Hurdle).length) ([a0] : List Hurdle) (hS.rd (i := 2) rfl) (hS.le (i := 2) rfl) true _ ht3) (by rintro v w' ⟨rfl, hs⟩; exact hs) ?_
     rintro _ w1 hY ⟨rfl, hs⟩
     replace hS := hS.grow hs
     refine TJ.ef hY Z Z Z Z Z (Ef.lit oU oI hS (C := cSpot) Z Z Z Z Z Z ([a0.At] : List Spot) Z Z Z Z) ?_
     rintro _ w1 hY ⟨A29, rfl, hS⟩
     refine TJ.callF hY rfl rfl rfl rfl rfl rfl rfl hb31 rfl (impl_Pasture_far.c k _ t3 A29 (([a0.At] : List Spot).length) ([a0.At] : List Spot) (hS.rd (i := 3) rfl) (hS.le (i := 3) rfl) _ ht5) (by rintro v w' ⟨rfl, hs⟩; exact hs) ?_
     rintro _ w1 hY ⟨rfl, hs⟩
     replace hS := hS.grow hs
     have hO := hS
     refine TJ.es rfl rfl rfl rfl (Es.put oI (hS.inn [0]) (i := 1) rfl rfl rfl rfl rfl (vs := (carr 10 (carr 10 (ci .i16))).enc t5) rfl ((carr 10 (carr 10 (ci .i16))).len _) ((carr 10 (carr 10 (ci .i16))).one _) (Put.all (carr 10 (carr 10 (ci .i16))) (Arr.mk' (Arr.mk' 0 : Arr 10 Int) : Arr 10 (Arr 10 Int)) t5) (by (try simp only [add_lit, Nat.add_assoc, Nat.zero_add, Nat.add_zero]) <;> rfl)) (by intro w1 hS; exact hY.wr (hO.inY [0] 1 rfl rfl) hS.chg) ?_
     intro w1 hY hS
     have hS : St w no w1 [box b1 (cHurdle.enc a0) 48, box b27 ((carr 10 (carr 10 (ci .i16))).enc t5) 64, rowC cHurdle A28 (([a0] : List Hurdle).length) 48 ([a0] : List Hurdle), rowC cSpot A29 (([a0.At] : List Spot).length) 45 ([a0.At] : List Spot)] [roP pa1 (cPasture.enc a1)] := hO.out [0] hS
     refine TJ.nil ?_
     exact EJ.meet (F' := [(1, .pointer (some pa1)), (2, .pointer (some ⟨b1, 0, none⟩)), (3, .bool false), (4, .pointer (some ⟨b27, 0, none⟩))]) ⟨Z, Z, Z, Z, trivial⟩ ⟨A28, A29, b27, Z, hS.pick [0, 2, 3, 1] [0] Z⟩
    refine TJ.alt ?_ ?_
    ·skip
     refine TJ.ef hY Z Z Z Z Z (Ef.lit oU oI hS (C := cSpot) Z Z Z Z Z Z ([a0.At] : List Spot) Z Z Z Z) ?_
     rintro _ w1 hY ⟨A30, rfl, hS⟩
     refine TJ.callF hY rfl rfl rfl rfl rfl rfl rfl hb41 rfl (impl_Pasture_with.c k _ a1 A28 (([a0] : List Hurdle).length) ([a0] : List Hurdle) (hS.rd (i := 2) rfl) (hS.le (i := 2) rfl) true _ ht3) (by rintro v w' ⟨rfl, hs⟩; exact hs) ?_
     rintro _ w1 hY ⟨rfl, hs⟩
     replace hS := hS.grow hs
     refine TJ.callF hY rfl rfl rfl rfl rfl rfl rfl hb31 rfl (impl_Pasture_far.c k _ t3 A30 (([a0.At] : List Spot).length) ([a0.At] : List Spot) (hS.rd (i := 3) rfl) (hS.le (i := 3) rfl) _ ht5) (by rintro v w' ⟨rfl, hs⟩; exact hs) ?_
     rintro _ w1 hY ⟨rfl, hs⟩
     replace hS := hS.grow hs
     have hO := hS
     refine TJ.es rfl rfl rfl rfl (Es.put oI (hS.inn [0]) (i := 1) rfl rfl rfl rfl rfl (vs := (carr 10 (carr 10 (ci .i16))).enc t5) rfl ((carr 10 (carr 10 (ci .i16))).len _) ((carr 10 (carr 10 (ci .i16))).one _) (Put.all (carr 10 (carr 10 (ci .i16))) (Arr.mk' (Arr.mk' 0 : Arr 10 Int) : Arr 10 (Arr 10 Int)) t5) (by (try simp only [add_lit, Nat.add_assoc, Nat.zero_add, Nat.add_zero]) <;> rfl)) (by intro w1 hS; exact hY.wr (hO.inY [0] 1 rfl rfl) hS.chg) ?_
     intro w1 hY hS
     have hS : St w no w1 [box b1 (cHurdle.enc a0) 48, box b27 ((carr 10 (carr 10 (ci .i16))).enc t5) 64, rowC cHurdle A28 (([a0] : List Hurdle).length) 48 ([a0] : List Hurdle), rowC cSpot A30 (([a0.At] : List Spot).length) 45 ([a0.At] : List Spot)] [roP pa1 (cPasture.enc a1)] := hO.out [0] hS
     refine TJ.nil ?_
     exact EJ.meet (F' := [(1, .pointer (some pa1)), (2, .pointer (some ⟨b1, 0, none⟩)), (3, .bool false), (4, .pointer (some ⟨b27, 0, none⟩))]) ⟨Z, Z, Z, Z, trivial⟩ ⟨A28, A30, b27, Z, hS.pick [0, 2, 3, 1] [0] Z⟩
    exact TJ.stop
   refine TJ.alt ?_ ?_
   ·skip
    refine TJ.ef hY Z Z Z Z Z (Ef.lit oU oI hS (C := cSpot) Z Z Z Z Z Z ([a0.At] : List Spot) Z Z Z Z) ?_
    rintro _ w1 hY ⟨A31, rfl, hS⟩
    refine TJ.ef hY Z Z Z Z Z (Ef.lit oU oI hS (C := cHurdle) Z Z Z Z Z Z ([a0] : List Hurdle) Z Z Z Z) ?_
    rintro _ w1 hY ⟨A32, rfl, hS⟩
    refine TJ.callF hY rfl rfl rfl rfl rfl rfl rfl hb41 rfl (impl_Pasture_with.c k _ a1 A32 (([a0] : List Hurdle).length) ([a0] : List Hurdle) (hS.rd (i := 3) rfl) (hS.le (i := 3) rfl) true _ ht3) (by rintro v w' ⟨rfl, hs⟩; exact hs) ?_
    rintro _ w1 hY ⟨rfl, hs⟩
    replace hS := hS.grow hs
    refine TJ.callF hY rfl rfl rfl rfl rfl rfl rfl hb31 rfl (impl_Pasture_far.c k _ t3 A31 (([a0.At] : List Spot).length) ([a0.At] : List Spot) (hS.rd (i := 2) rfl) (hS.le (i := 2) rfl) _ ht5) (by rintro v w' ⟨rfl, hs⟩; exact hs) ?_
    rintro _ w1 hY ⟨rfl, hs⟩
    replace hS := hS.grow hs
    have hO := hS
    refine TJ.es rfl rfl rfl rfl (Es.put oI (hS.inn [0]) (i := 1) rfl rfl rfl rfl rfl (vs := (carr 10 (carr 10 (ci .i16))).enc t5) rfl ((carr 10 (carr 10 (ci .i16))).len _) ((carr 10 (carr 10 (ci .i16))).one _) (Put.all (carr 10 (carr 10 (ci .i16))) (Arr.mk' (Arr.mk' 0 : Arr 10 Int) : Arr 10 (Arr 10 Int)) t5) (by (try simp only [add_lit, Nat.add_assoc, Nat.zero_add, Nat.add_zero]) <;> rfl)) (by intro w1 hS; exact hY.wr (hO.inY [0] 1 rfl rfl) hS.chg) ?_
    intro w1 hY hS
    have hS : St w no w1 [box b1 (cHurdle.enc a0) 48, box b27 ((carr 10 (carr 10 (ci .i16))).enc t5) 64, rowC cSpot A31 (([a0.At] : List Spot).length) 45 ([a0.At] : List Spot), rowC cHurdle A32 (([a0] : List Hurdle).length) 48 ([a0] : List Hurdle)] [roP pa1 (cPasture.enc a1)] := hO.out [0] hS
    refine TJ.nil ?_
    exact EJ.meet (F' := [(1, .pointer (some pa1)), (2, .pointer (some ⟨b1, 0, none⟩)), (3, .bool false), (4, .pointer (some ⟨b27, 0, none⟩))]) ⟨Z, Z, Z, Z, trivial⟩ ⟨A32, A31, b27, Z, hS.pick [0, 3, 2, 1] [0] Z⟩
   exact TJ.stop
  exact TJ.stop
 rintro F w1 ⟨A2, A4, b6, rfl, hS⟩
 refine EJ.next ?_
 refine CJ.seq (CJ.region ?_)
 refine OJ.st Z Z Z (SR.load Z Z (fun w' hx => ldE oU oI Z Z Z (CA.ext (hS.ca (i := 0) Z) hx) Z)) ?_
 refine OJ.st Z Z Z (SR.load Z Z (fun w' hx => ldE oU oI Z Z Z (CA.ext (hS.cells (i := 0) Z) hx) Z)) ?_
 obtain ⟨t33, ht33, H⟩ := pbind H
 refine OJ.callF Z Z Z Z Z hb45 Z (impl_Pasture_stands.c _ a1 a0 _ ht33) ?_
 rintro _ w1 ⟨rfl, hs⟩
 replace hS := hS.grow hs
 refine OJ.pures oU 2 Z ?_
 refine OJ.split (t := 17) Z (fun hb => ?_) (fun hb => ?_)
 ·replace H := pif_t hb H
  refine OJ.st Z Z Z (SR.load Z Z (fun w' hx => ldE oU oI Z Z Z (CA.ext (hS.cells (i := 0) Z) hx) Z)) ?_
  obtain ⟨t34, ht34, H⟩ := pbind H
  refine OJ.callF Z Z Z Z Z hb33 Z (impl_Hurdle_other.c _ a0 _ ht34) ?_
  rintro _ w1 ⟨rfl, hs⟩
  replace hS := hS.grow hs
  obtain ⟨t35, ht35, H⟩ := pbind H
  refine OJ.callF Z Z Z Z Z hb32 Z (impl_steps_at.c _ _ t5 (hS.cells (i := 3) Z) t34 _ ht35) ?_
  rintro _ w1 ⟨rfl, hs⟩
  replace hS := hS.grow hs
  refine OJ.pures oU 3 Z (OJ.nil (EJ.next ?_))
  refine CJ.ret (?_)
  obtain rfl := Option.some.inj H
  exact EJ.fin Z (.tmp Z .nil) ⟨Z, hS.ext⟩
 replace H := pifb_f hb H
 refine OJ.pures oU 6 Z (OJ.nil (EJ.next ?_))
 refine CJ.ret (?_)
 obtain rfl := Option.some.inj H
 exact EJ.fin Z (.tmp Z .nil) ⟨Z, hS.ext⟩

def impl_WeakSides.f (k : Nat) (a0 : Pasture) : Option (List Hurdle × Int) := (impl_ValidPasture.f k a0).bind fun t2 => if (!t2) = true then (some ([], 1)) else ((impl_Pasture_sides.f k a0 (impl_WeakSides_1.f k a0)).bind fun t3 => some (t3, 0))
theorem impl_WeakSides.c (k : Nat) (w : World) (a0 : Pasture) (r : List Hurdle × Int) (H : impl_WeakSides.f k a0 = some r) :
 CV Tryz.prog 14 [.agg (cPasture.enc a0).toArray].toArray w fun v w' => ∃ (A0 : Option Addr) (c0 : Nat), v = .tuple #[.slice A0 r.1.length c0, .int .i64 r.2] ∧ St w no w' [rowC cHurdle A0 c0 48 r.1] [] := by
 have hS := (St.init w no)
 unfold impl_WeakSides.f at H
 refine CV.body Tryz.func14 Z Tryz.ntmps14 Z ?_
 refine CJ.seq (CJ.region ?_)
 refine OJ.ef Z Z Z (Ef.box hS Z Z (cPasture.enc a0) Z) ?_
 rintro _ w1 ⟨b1, rfl, hS⟩
 refine OJ.pures oU 2 Z (OJ.nil (EJ.next ?_))
 refine CJ.seq ?_
 refine CJ.seq (CJ.region ?_)
 refine OJ.st Z Z Z (SR.load Z Z (fun w' hx => ldE oU oI Z Z Z (CA.ext (hS.cells (i := 0) Z) hx) Z)) ?_
 obtain ⟨t2, ht2, H⟩ := pbind H
 refine OJ.callF Z Z Z Z Z hb29 Z (impl_ValidPasture.c k _ a0 _ ht2) ?_
 rintro _ w1 ⟨rfl, hs⟩
 replace hS := hS.grow hs
 refine OJ.pures oU 1 Z (OJ.nil (EJ.next ?_))
 refine CJ.cond Z (fun hb => ?_) (fun hb => ?_)
 ·replace H := pif_t hb H
  refine CJ.seq (CJ.region ?_)
  refine OJ.pures oU 2 Z (OJ.nil (EJ.next ?_))
  refine CJ.ret (EJ.skR (?_))
  replace hS := hS.addNil cHurdle 48 none
  obtain rfl := Option.some.inj H
  exact EJ.fin Z (.tmp Z (.tmp Z .nil)) ⟨none, 0, Z, hS.pick [1] [] Z⟩
 replace H := pifb_f hb H
 refine CJ.skip (EJ.next ?_)
 refine CJ.seq (CJ.region ?_)
 refine OJ.st Z Z Z (SR.load Z Z (fun w' hx => ldE oU oI Z Z Z (CA.ext (hS.cells (i := 0) Z) hx) Z)) ?_
 refine OJ.pures oU 1 Z ?_
 obtain ⟨t3, ht3, H⟩ := pbind H
 refine OJ.callF rfl rfl rfl rfl rfl hb43 rfl (impl_Pasture_sides.c k _ a0 44 #[] #[.pointer (some ⟨b1, 0, none⟩)] hb44 (impl_WeakSides_1.f k a0) (fun z0 r h w' hx => CV.cast (impl_WeakSides_1.c k w' ⟨b1, 0, none⟩ a0 (CA.ext (hS.cells (i := 0) rfl) hx)  z0 r h) (by simp)) _ ht3) ?_
 rintro _ w1 ⟨A4, c5, rfl, hs⟩
 replace hS := hS.addN hs
 refine OJ.pures oU 2 Z (OJ.nil (EJ.next ?_))
 refine CJ.ret (?_)
 obtain rfl := Option.some.inj H
 exact EJ.fin Z (.tmp Z (.tmp Z .nil)) ⟨A4, c5, Z, hS.pick [1] [] Z⟩

def spec_l03Put.l1 (a1 : List Hurdle) (a2 : Bool) : Nat → Pasture → Int → Option Pasture
  | 0, _, _ => none
  | k + 1, y4, y5 => if y5 < (a1.length : Int) then ((getI a1 y5).bind fun t6 => (getI a1 y5).bind fun t7 => (spec_l03Side.f t7).bind fun t8 => (spec_l01Set.f y4 t6.At t8 a2).bind fun t9 => spec_l03Put.l1 a1 a2 k t9 (IntKind.i64.wrap (y5 + 1))) else (some y4)
def spec_l03Put.f (k : Nat) (a0 : Pasture) (a1 : List Hurdle) (a2 : Bool) : Option Pasture := (spec_l03Put.l1 a1 a2 k a0 0).bind fun y3 => some y3
theorem spec_l03Put.c (k : Nat) (w : World) (a0 : Pasture) (Aa1 : Option Addr) (ca1 : Nat) (a1 : List Hurdle) (hr1 : Rd cHurdle w Aa1 a1) (hc1 : a1.length ≤ ca1) (a2 : Bool) (r : Pasture) (H : spec_l03Put.f k a0 a1 a2 = some r) :
 CV Tryz.prog 48 [.agg (cPasture.enc a0).toArray, .slice Aa1 a1.length ca1, .bool a2].toArray w fun v w' => v = .agg (cPasture.enc r).toArray ∧ Ext w w' := by
 have hS := ((St.init w no).param cHurdle Aa1 ca1 a1 hr1 hc1)
 unfold spec_l03Put.f at H
 refine CV.body Tryz.func48 Z Tryz.ntmps48 Z ?_
 refine CJ.seq (CJ.region ?_)
 refine OJ.ef Z Z Z (Ef.box hS Z Z (cPasture.enc a0) Z) ?_
 rintro _ w1 ⟨b1, rfl, hS⟩
 refine OJ.ef rfl rfl rfl (Ef.alloc hS oI rfl rfl (cPasture.enc (⟨0, 0, (Arr.mk' (Arr.mk' 0 : Arr 10 Int) : Arr 10 (Arr 10 Int)), (Arr.mk' 0 : Arr 10 Int), (Arr.mk' 0 : Arr 10 Int)⟩ : Pasture)) (by kernel_rfl)) ?_
 rintro _ w1 ⟨b2, rfl, hS⟩
 refine OJ.nil (EJ.next ?_)
 refine CJ.seq ?_
 refine CJ.seq (CJ.region ?_)
 refine OJ.pures oU 1 Z (OJ.nil (EJ.next ?_))
 obtain ⟨j256, H, K256⟩ := pbind H
 refine CJ.cut1 (fun F w1 => ∃ (y3 : Pasture) , (some y3 : Option Pasture) = some j256 ∧ F = [(3, .pointer (some ⟨b1, 0, none⟩)), (6, .pointer (some ⟨b2, 0, none⟩))] ∧ St w no w1 [box b1 (cPasture.enc y3) 31, box b2 (cPasture.enc (⟨0, 0, (Arr.mk' (Arr.mk' 0 : Arr 10 Int) : Arr 10 (Arr 10 Int)), (Arr.mk' 0 : Arr 10 Int), (Arr.mk' 0 : Arr 10 Int)⟩ : Pasture)) 31] [roC cHurdle Aa1 ca1 a1]) ?_ ?_
 ·skip
  refine CJ.block ?_
  refine CJ.loop (fun k F w1 => ∃ (y4 : Pasture) (y5 : Int), F = [(1, .slice Aa1 a1.length ca1), (2, .bool a2), (3, .pointer (some ⟨b1, 0, none⟩)), (6, .pointer (some ⟨b2, 0, none⟩)), (7, .int .i64 y5)] ∧ St w no w1 [box b1 (cPasture.enc y4) 31, box b2 (cPasture.enc (⟨0, 0, (Arr.mk' (Arr.mk' 0 : Arr 10 Int) : Arr 10 (Arr 10 Int)), (Arr.mk' 0 : Arr 10 Int), (Arr.mk' 0 : Arr 10 Int)⟩ : Pasture)) 31] [roC cHurdle Aa1 ca1 a1] ∧ spec_l03Put.l1 a1 a2 k y4 y5 = some j256) k (F' := [(1, .slice Aa1 a1.length ca1), (2, .bool a2), (3, .pointer (some ⟨b1, 0, none⟩)), (6, .pointer (some ⟨b2, 0, none⟩)), (7, .int .i64 0)]) ⟨Z, Z, Z, Z, Z, trivial⟩ ⟨a0, 0, Z, hS.pick [0, 1] [0] Z, H⟩ ?_
  rintro k F w1 ⟨y4, y5, rfl, hS, H⟩
  cases k with
  | zero => rw [spec_l03Put.l1] at H; cases H
  | succ k =>
    rw [spec_l03Put.l1] at H
    refine CJ.seq ?_
    refine CJ.seq (CJ.region ?_)
    refine OJ.pures oU 4 Z (OJ.nil (EJ.next ?_))
    refine CJ.cond Z (fun hb => ?_) (fun hb => ?_)
    · replace H := pif_t (of_decide_eq_true hb) H
      refine CJ.skip (EJ.next ?_)
      refine CJ.seq ?_
      refine CJ.block ?_
      refine CJ.draw [11] [0, 1, 2, 3, 4, 5, 6, 7, 8, 10, 9, 11] mixed (by kernel_rfl) hS fun w1 hS => ?_
      refine DJ.pures oU 2 Z ?_
      obtain ⟨t6, ht6, H⟩ := pbind H
      obtain ⟨ad6, e6⟩ := (hS.rd' (i := 0) rfl).some' ht6
      refine DJ.st Z Z Z Z Z (SR.idxS oU oI Z Z Z Z e6 Z (getI_some ht6).1) ?_
      refine DJ.st Z Z Z Z Z (SR.fieldAddr oU oI Z Z Z Z Z Z) ?_
      refine DJ.st Z Z Z Z Z (SR.load Z Z (fun w' hx => ldN oU oI Z Z Z (CA.ext (CA.sub ((hS.rd' (i := 0) Z).at_ e6 ht6) 0) hx) (cSpot.len _) Z)) ?_
      refine DJ.pures oU 2 Z ?_
      obtain ⟨t7, ht7, H⟩ := pbind H
      obtain ⟨ad7, e7⟩ := (hS.rd' (i := 0) rfl).some' ht7
      refine DJ.st Z Z Z Z Z (SR.idxS oU oI Z Z Z Z e7 Z (getI_some ht7).1) ?_
      refine DJ.st Z Z Z Z Z (SR.load Z Z (fun w' hx => ldE oU oI Z Z Z (CA.ext ((hS.rd' (i := 0) Z).at_ e7 ht7) hx) Z)) ?_
      refine DJ.pures oU 1 Z ?_
      obtain ⟨t8, ht8, H⟩ := pbind H
      refine DJ.callF rfl rfl rfl rfl rfl rfl rfl hb38 rfl (spec_l03Side.c _ t7 _ ht8) (by rintro v w' ⟨rfl, hs⟩; exact hs) ?_
      rintro _ w1 ⟨rfl, hs⟩
      replace hS := hS.grow hs
      obtain ⟨t9, ht9, H⟩ := pbind H
      refine DJ.callFw Z Z Z Z Z Z Z hb39 Z (spec_l01Set.c _ b1 y4 t6.At t8 a2 ((hS.subs [0] [] [] Z).pick [0] [] Z) _ ht9) ?_
      rintro _ w1 ⟨rfl, hs⟩
      replace hS := hS.back [0] Z Z [box b1 (cPasture.enc t9) 31] [] hs ⟨fun _ => Iff.rfl, trivial⟩
      refine DJ.nil (EJ.blk (EJ.next ?_))
      refine CJ.region ?_
      refine OJ.pures oU 3 Z ?_
      refine OJ.nil ?_
      exact EJ.round k (F' := [(1, .slice Aa1 a1.length ca1), (2, .bool a2), (3, .pointer (some ⟨b1, 0, none⟩)), (6, .pointer (some ⟨b2, 0, none⟩)), (7, .int .i64 (IntKind.i64.wrap (y5 + 1)))]) ⟨Z, Z, Z, Z, Z, trivial⟩ (Nat.lt_succ_self _) ⟨t9, (IntKind.i64.wrap (y5 + 1)), Z, hS.pick [0, 1] [0] Z, H⟩
    · replace H := pif_f (of_decide_eq_false hb) H
      refine CJ.exit (EJ.skE (EJ.skE (EJ.hit (?_))))
      exact EJ.meet (F' := [(3, .pointer (some ⟨b1, 0, none⟩)), (6, .pointer (some ⟨b2, 0, none⟩))]) ⟨Z, Z, trivial⟩ ⟨y4, H, Z, hS.pick [0, 1] [0] Z⟩
 rintro F w1 ⟨y3, he, rfl, hS⟩
 obtain rfl := Option.some.inj he
 have H := K256
 refine EJ.next ?_
 refine CJ.seq (CJ.region ?_)
 refine OJ.st Z Z Z (SR.load Z Z (fun w' hx => ldE oU oI Z Z Z (CA.ext (hS.cells (i := 0) Z) hx) Z)) ?_
 refine OJ.es rfl rfl (Es.put oI hS (i := 1) rfl rfl rfl rfl rfl (vs := cPasture.enc y3) rfl (cPasture.len _) (cPasture.one _) (Put.all cPasture (⟨0, 0, (Arr.mk' (Arr.mk' 0 : Arr 10 Int) : Arr 10 (Arr 10 Int)), (Arr.mk' 0 : Arr 10 Int), (Arr.mk' 0 : Arr 10 Int)⟩ : Pasture) y3) (by (try simp only [add_lit, Nat.add_assoc, Nat.zero_add, Nat.add_zero]) <;> rfl)) ?_
 intro w1 hS
 refine OJ.nil (EJ.next ?_)
 refine CJ.ret (?_)
 obtain rfl := Option.some.inj H
 exact EJ.fin Z (.cell Z (ldE oU oI Z Z Z (hS.cells (i := 1) Z) Z) .nil) ⟨Z, hS.ext⟩

def spec_WeakSides.l1 (a0 : Pasture) (t4 : List Hurdle) : Nat → (List Hurdle) → Int → Option (List Hurdle)
  | 0, _, _ => none
  | k + 1, y11, y14 => if y14 < (t4.length : Int) then ((getI t4 y14).bind fun t15 => (spec_l03Stands.f a0 t15).bind fun t16 => if t16 = true then (spec_WeakSides.l1 a0 t4 k y11 (IntKind.i64.wrap (y14 + 1))) else ((chk ((0 : Int) ≤ y14 ∧ y14 ≤ (IntKind.i64.wrap (y14 + 1)) ∧ (IntKind.i64.wrap (y14 + 1)) ≤ (t4.length : Int))).bind fun u17 => (spec_l03Put.f k a0 ((t4.drop y14.toNat).take (((IntKind.i64.wrap (y14 + 1)).toNat) - y14.toNat)) true).bind fun t18 => (getI t4 y14).bind fun t22 => (spec_l01Steps.f k t18 t22.At).bind fun t23 => (getI t4 y14).bind fun t25 => (getI t4 y14).bind fun t26 => (spec_l03Side.f t26).bind fun t27 => (spec_l01Next.f t25.At t27).bind fun t28 => (getI t23.l t28.Y).bind fun t33 => (getI t33.l t28.X).bind fun t34 => if t34 = 0 then ((getI t4 y14).bind fun t35 => (chk (y11.length + ([t35] : List Hurdle).length ≤ 4294967296)).bind fun u37 => spec_WeakSides.l1 a0 t4 k (y11 ++ ([t35] : List Hurdle)) (IntKind.i64.wrap (y14 + 1))) else (spec_WeakSides.l1 a0 t4 k y11 (IntKind.i64.wrap (y14 + 1))))) else (some y11)
def spec_WeakSides.f (k : Nat) (a0 : Pasture) : Option (List Hurdle × Int) := (spec_l01Ok.f k a0).bind fun t2 => if (!t2) = true then (some (([] : List Hurdle), 1)) else ((spec_l03All.f k a0).bind fun t4 => (spec_WeakSides.l1 a0 t4 k ([] : List Hurdle) 0).bind fun y8 => some (y8, 0))
theorem spec_WeakSides.c (k : Nat) (w : World) (a0 : Pasture) (r : List Hurdle × Int) (H : spec_WeakSides.f k a0 = some r) :
 CV Tryz.prog 15 [.agg (cPasture.enc a0).toArray].toArray w fun v w' => ∃ (A0 : Option Addr) (c0 : Nat), v = .tuple #[.slice A0 r.1.length c0, .int .i64 r.2] ∧ St w no w' [rowC cHurdle A0 c0 48 r.1] [] := by
 have hS := (St.init w no)
 unfold spec_WeakSides.f at H
 refine CV.body Tryz.func15 Z Tryz.ntmps15 Z ?_
 refine CJ.seq (CJ.region ?_)
 refine OJ.ef Z Z Z (Ef.box hS Z Z (cPasture.enc a0) Z) ?_
 rintro _ w1 ⟨b1, rfl, hS⟩
 refine OJ.pures oU 2 Z (OJ.nil (EJ.next ?_))
 refine CJ.seq ?_
 refine CJ.seq (CJ.region ?_)
 obtain ⟨t2, ht2, H⟩ := pbind H
 refine OJ.callF Z Z Z Z Z hb27 Z (spec_l01Ok.c k _ _ a0 (hS.cells (i := 0) Z) _ ht2) ?_
 rintro _ w1 ⟨rfl, hs⟩
 replace hS := hS.grow hs
 refine OJ.pures oU 1 Z (OJ.nil (EJ.next ?_))
 refine CJ.cond Z (fun hb => ?_) (fun hb => ?_)
 ·replace H := pif_t hb H
  refine CJ.seq (CJ.region ?_)
  refine OJ.ef Z Z Z (Ef.lit oU oI hS (C := cHurdle) Z Z Z Z Z Z ([] : List Hurdle) Z Z Z Z) ?_
  rintro _ w1 ⟨A3, rfl, hS⟩
  refine OJ.pures oU 2 Z (OJ.nil (EJ.next ?_))
  refine CJ.ret (EJ.skR (?_))
  obtain rfl := Option.some.inj H
  exact EJ.fin Z (.tmp Z (.tmp Z .nil)) ⟨A3, (([] : List Hurdle).length), Z, hS.pick [1] [] Z⟩
 replace H := pifb_f hb H
 refine CJ.skip (EJ.next ?_)
 refine CJ.seq (CJ.region ?_)
 obtain ⟨t4, ht4, H⟩ := pbind H
 refine OJ.callF Z Z Z Z Z hb46 Z (spec_l03All.c k _ _ a0 (hS.cells (i := 0) Z) _ ht4) ?_
 rintro _ w1 ⟨A5, c6, rfl, hs⟩
 replace hS := hS.addN hs
 refine OJ.pures oU 1 Z (OJ.nil (EJ.next ?_))
 refine CJ.seq (CJ.region ?_)
 refine OJ.ef Z Z Z (Ef.lit oU oI hS (C := cHurdle) Z Z Z Z Z Z ([] : List Hurdle) Z Z Z Z) ?_
 rintro _ w1 ⟨A7, rfl, hS⟩
 refine OJ.pures oU 1 Z (OJ.nil (EJ.next ?_))
 refine CJ.seq ?_
 refine CJ.seq (CJ.region ?_)
 refine OJ.pures oU 1 Z (OJ.nil (EJ.next ?_))
 replace hS := hS.freezeG (i := 1) Z
 obtain ⟨j255, H, K255⟩ := pbind H
 refine CJ.cut1 (fun F w1 => ∃ (y8 : List Hurdle) (A9 : Option Addr) (c10 : Nat), (some y8 : Option (List Hurdle)) = some j255 ∧ F = [(5, .slice A9 y8.length c10)] ∧ St w no w1 [rowC cHurdle A9 c10 48 y8] [roC cHurdle A5 c6 t4]) ?_ ?_
 ·skip
  refine CJ.block ?_
  refine CJ.loop (fun k F w1 => ∃ (y11 : List Hurdle) (y14 : Int) (A12 : Option Addr) (c13 : Nat), F = [(1, .pointer (some ⟨b1, 0, none⟩)), (4, .slice A5 t4.length c6), (5, .slice A12 y11.length c13), (6, .int .i64 y14)] ∧ St w no w1 [box b1 (cPasture.enc a0) 31, rowC cHurdle A12 c13 48 y11] [roC cHurdle A5 c6 t4] ∧ spec_WeakSides.l1 a0 t4 k y11 y14 = some j255) k (F' := [(1, .pointer (some ⟨b1, 0, none⟩)), (4, .slice A5 t4.length c6), (5, .slice A7 ([] : List Hurdle).length (([] : List Hurdle).length)), (6, .int .i64 0)]) ⟨Z, Z, Z, Z, trivial⟩ ⟨([] : List Hurdle), 0, A7, (([] : List Hurdle).length), Z, hS.pick [0, 2] [0] Z, H⟩ ?_
  rintro k F w1 ⟨y11, y14, A12, c13, rfl, hS, H⟩
  cases k with
  | zero => rw [spec_WeakSides.l1] at H; cases H
  | succ k =>
    rw [spec_WeakSides.l1] at H
    refine CJ.seq ?_
    refine CJ.seq (CJ.region ?_)
    refine OJ.pures oU 4 Z (OJ.nil (EJ.next ?_))
    refine CJ.cond Z (fun hb => ?_) (fun hb => ?_)
    · replace H := pif_t (of_decide_eq_true hb) H
      refine CJ.skip (EJ.next ?_)
      refine CJ.seq ?_
      refine CJ.block ?_
      refine CJ.seq ?_
      refine CJ.seq (CJ.region ?_)
      refine OJ.pures oU 2 Z ?_
      obtain ⟨t15, ht15, H⟩ := pbind H
      obtain ⟨ad15, e15⟩ := (hS.rd' (i := 0) rfl).some' ht15
      refine OJ.st Z Z Z (SR.idxS oU oI Z Z Z Z e15 Z (getI_some ht15).1) ?_
      refine OJ.st Z Z Z (SR.load Z Z (fun w' hx => ldE oU oI Z Z Z (CA.ext ((hS.rd' (i := 0) Z).at_ e15 ht15) hx) Z)) ?_
      obtain ⟨t16, ht16, H⟩ := pbind H
      refine OJ.callF Z Z Z Z Z hb47 Z (spec_l03Stands.c _ _ a0 (hS.cells (i := 0) Z) t15 _ ht16) ?_
      rintro _ w1 ⟨rfl, hs⟩
      replace hS := hS.grow hs
      refine OJ.nil (EJ.next ?_)
      refine CJ.cond Z (fun hb => ?_) (fun hb => ?_)
      · replace H := pif_t hb H
        refine CJ.exit (EJ.skE (EJ.hit (EJ.next ?_)))
        refine CJ.region ?_
        refine OJ.pures oU 3 Z ?_
        refine OJ.nil ?_
        exact EJ.round k (F' := [(1, .pointer (some ⟨b1, 0, none⟩)), (4, .slice A5 t4.length c6), (5, .slice A12 y11.length c13), (6, .int .i64 (IntKind.i64.wrap (y14 + 1)))]) ⟨Z, Z, Z, Z, trivial⟩ (Nat.lt_succ_self _) ⟨y11, (IntKind.i64.wrap (y14 + 1)), A12, c13, Z, hS.pick [0, 1] [0] Z, H⟩
      · replace H := pifb_f hb H
        refine CJ.skip (EJ.next ?_)
        refine CJ.seq ?_
        obtain ⟨u17, hu17, H⟩ := pbind H
        obtain ⟨t18, ht18, H⟩ := pbind H
        refine CJ.cut1 (fun F w1 => ∃ (b19 : Nat), F = [(1, .pointer (some ⟨b1, 0, none⟩)), (4, .slice A5 t4.length c6), (5, .slice A12 y11.length c13), (6, .int .i64 y14), (7, .pointer (some ⟨b19, 0, none⟩))] ∧ St w no w1 [box b1 (cPasture.enc a0) 31, rowC cHurdle A12 c13 48 y11, box b19 (cPasture.enc t18) 31] [roC cHurdle A5 c6 t4, roC cHurdle (cutA A5 c6 y14.toNat cHurdle.sz) (c6 - y14.toNat) ((t4.drop y14.toNat).take (((IntKind.i64.wrap (y14 + 1)).toNat) - y14.toNat))]) ?_ ?_
        · skip
          refine CJ.drawT [] [6, 7, 8] (.one 0 (.one 1 (.one 2 (.one 3 (.one 4 (.one 5 (.br (.alt 6 (.one 7 (.one 8 (.fin))) (.alt 7 (.one 6 (.one 8 (.fin))) (.stop)))))))))) mixed (by kernel_rfl) hS [0] fun w1 hS hY hV => ?_
          refine TJ.st hY Z Z Z Z Z (fun w2 hY => SR.load Z Z (fun w' hx => ldE oU oI Z Z Z (CA.ext ((hV w2 hY).cellsR (i := 1) Z) hx) Z)) ?_
          refine TJ.pures oU 4 Z ?_
          refine TJ.st hY rfl rfl rfl rfl rfl (fun w2 hY => SR.cutS oU oI (y14.toNat) ((IntKind.i64.wrap (y14 + 1)).toNat) rfl rfl rfl rfl rfl rfl (.inr ⟨_, _, rfl, (chk_some hu17).1, rfl⟩) (.inr ⟨_, _, rfl, (by have := (chk_some hu17); omega), rfl⟩) (by have := (chk_some hu17); omega) (by have := (chk_some hu17); have := ((hV w2 hY).le' (i := 0) rfl : t4.length ≤ c6); omega)) ?_
          replace hS := hS.cutR (i := 0) (lo := y14.toNat) (hi := (IntKind.i64.wrap (y14 + 1)).toNat) rfl (by have := (chk_some hu17); omega) (by have := (chk_some hu17); omega)
          refine TJ.as (t := 31) rfl (show _ = (.slice (cutA A5 c6 y14.toNat cHurdle.sz) ((t4.drop y14.toNat).take (((IntKind.i64.wrap (y14 + 1)).toNat) - y14.toNat)).length (c6 - y14.toNat) : Value) by rw [cutLen (by have := (chk_some hu17); omega) (by have := (chk_some hu17); omega)]; rfl) ?_
          refine TJ.br ?_
          refine TJ.alt ?_ ?_
          · skip
            refine TJ.callF hY rfl rfl rfl rfl rfl rfl rfl hb48 rfl (spec_l03Put.c k _ a0 (cutA A5 c6 y14.toNat cHurdle.sz) (c6 - y14.toNat) ((t4.drop y14.toNat).take (((IntKind.i64.wrap (y14 + 1)).toNat) - y14.toNat)) (hS.rd' (i := 1) rfl) (hS.le' (i := 1) rfl) true _ ht18) (by rintro v w' ⟨rfl, hs⟩; exact hs) ?_
            rintro _ w1 hY ⟨rfl, hs⟩
            replace hS := hS.grow hs
            refine TJ.ef hY rfl rfl rfl rfl rfl (Ef.alloc hS oI rfl rfl (cPasture.enc (⟨0, 0, (Arr.mk' (Arr.mk' 0 : Arr 10 Int) : Arr 10 (Arr 10 Int)), (Arr.mk' 0 : Arr 10 Int), (Arr.mk' 0 : Arr 10 Int)⟩ : Pasture)) (by kernel_rfl)) ?_
            rintro _ w1 hY ⟨b20, rfl, hS⟩
            have hO := hS
            refine TJ.es rfl rfl rfl rfl (Es.put oI (hS.inn [0]) (i := 2) rfl rfl rfl rfl rfl (vs := cPasture.enc t18) rfl (cPasture.len _) (cPasture.one _) (Put.all cPasture (⟨0, 0, (Arr.mk' (Arr.mk' 0 : Arr 10 Int) : Arr 10 (Arr 10 Int)), (Arr.mk' 0 : Arr 10 Int), (Arr.mk' 0 : Arr 10 Int)⟩ : Pasture) t18) (by (try simp only [add_lit, Nat.add_assoc, Nat.zero_add, Nat.add_zero]) <;> rfl)) (by intro w1 hS; exact hY.wr (hO.inY [0] 1 rfl rfl) hS.chg) ?_
            intro w1 hY hS
            have hS : St w no w1 [box b1 (cPasture.enc a0) 31, rowC cHurdle A12 c13 48 y11, box b20 (cPasture.enc t18) 31] [roC cHurdle A5 c6 t4, roC cHurdle (cutA A5 c6 y14.toNat cHurdle.sz) (c6 - y14.toNat) ((t4.drop y14.toNat).take (((IntKind.i64.wrap (y14 + 1)).toNat) - y14.toNat))] := hO.out [0] hS
            refine TJ.nil ?_
            exact EJ.meet (F' := [(1, .pointer (some ⟨b1, 0, none⟩)), (4, .slice A5 t4.length c6), (5, .slice A12 y11.length c13), (6, .int .i64 y14), (7, .pointer (some ⟨b20, 0, none⟩))]) ⟨Z, Z, Z, Z, Z, trivial⟩ ⟨b20, Z, hS.pick [0, 1, 2] [0, 1] Z⟩
          refine TJ.alt ?_ ?_
          · skip
            refine TJ.ef hY rfl rfl rfl rfl rfl (Ef.alloc hS oI rfl rfl (cPasture.enc (⟨0, 0, (Arr.mk' (Arr.mk' 0 : Arr 10 Int) : Arr 10 (Arr 10 Int)), (Arr.mk' 0 : Arr 10 Int), (Arr.mk' 0 : Arr 10 Int)⟩ : Pasture)) (by kernel_rfl)) ?_
            rintro _ w1 hY ⟨b21, rfl, hS⟩
            refine TJ.callF hY rfl rfl rfl rfl rfl rfl rfl hb48 rfl (spec_l03Put.c k _ a0 (cutA A5 c6 y14.toNat cHurdle.sz) (c6 - y14.toNat) ((t4.drop y14.toNat).take (((IntKind.i64.wrap (y14 + 1)).toNat) - y14.toNat)) (hS.rd' (i := 1) rfl) (hS.le' (i := 1) rfl) true _ ht18) (by rintro v w' ⟨rfl, hs⟩; exact hs) ?_
            rintro _ w1 hY ⟨rfl, hs⟩
            replace hS := hS.grow hs
            have hO := hS
            refine TJ.es rfl rfl rfl rfl (Es.put oI (hS.inn [0]) (i := 2) rfl rfl rfl rfl rfl (vs := cPasture.enc t18) rfl (cPasture.len _) (cPasture.one _) (Put.all cPasture (⟨0, 0, (Arr.mk' (Arr.mk' 0 : Arr 10 Int) : Arr 10 (Arr 10 Int)), (Arr.mk' 0 : Arr 10 Int), (Arr.mk' 0 : Arr 10 Int)⟩ : Pasture) t18) (by (try simp only [add_lit, Nat.add_assoc, Nat.zero_add, Nat.add_zero]) <;> rfl)) (by intro w1 hS; exact hY.wr (hO.inY [0] 1 rfl rfl) hS.chg) ?_
            intro w1 hY hS
            have hS : St w no w1 [box b1 (cPasture.enc a0) 31, rowC cHurdle A12 c13 48 y11, box b21 (cPasture.enc t18) 31] [roC cHurdle A5 c6 t4, roC cHurdle (cutA A5 c6 y14.toNat cHurdle.sz) (c6 - y14.toNat) ((t4.drop y14.toNat).take (((IntKind.i64.wrap (y14 + 1)).toNat) - y14.toNat))] := hO.out [0] hS
            refine TJ.nil ?_
            exact EJ.meet (F' := [(1, .pointer (some ⟨b1, 0, none⟩)), (4, .slice A5 t4.length c6), (5, .slice A12 y11.length c13), (6, .int .i64 y14), (7, .pointer (some ⟨b21, 0, none⟩))]) ⟨Z, Z, Z, Z, Z, trivial⟩ ⟨b21, Z, hS.pick [0, 1, 2] [0, 1] Z⟩
          exact TJ.stop
        · rintro F w1 ⟨b19, rfl, hS⟩
          refine EJ.next ?_
          refine CJ.seq (CJ.region ?_)
          refine OJ.pures oU 2 Z ?_
          obtain ⟨t22, ht22, H⟩ := pbind H
          obtain ⟨ad22, e22⟩ := (hS.rd' (i := 0) rfl).some' ht22
          refine OJ.st Z Z Z (SR.idxS oU oI Z Z Z Z e22 Z (getI_some ht22).1) ?_
          refine OJ.st Z Z Z (SR.fieldAddr oU oI Z Z Z Z Z Z) ?_
          refine OJ.st Z Z Z (SR.load Z Z (fun w' hx => ldN oU oI Z Z Z (CA.ext (CA.sub ((hS.rd' (i := 0) Z).at_ e22 ht22) 0) hx) (cSpot.len _) Z)) ?_
          obtain ⟨t23, ht23, H⟩ := pbind H
          refine OJ.callF Z Z Z Z Z hb36 Z (spec_l01Steps.c k _ _ t18 (hS.cells (i := 2) Z) t22.At _ ht23) ?_
          rintro _ w1 ⟨rfl, hs⟩
          replace hS := hS.grow hs
          refine OJ.ef rfl rfl rfl (Ef.alloc hS oI rfl rfl ((carr 10 (carr 10 (ci .i64))).enc (Arr.mk' (Arr.mk' 0 : Arr 10 Int) : Arr 10 (Arr 10 Int))) (by kernel_rfl)) ?_
          rintro _ w1 ⟨b24, rfl, hS⟩
          refine OJ.es rfl rfl (Es.put oI hS (i := 3) rfl rfl rfl rfl rfl (vs := (carr 10 (carr 10 (ci .i64))).enc t23) rfl ((carr 10 (carr 10 (ci .i64))).len _) ((carr 10 (carr 10 (ci .i64))).one _) (Put.all (carr 10 (carr 10 (ci .i64))) (Arr.mk' (Arr.mk' 0 : Arr 10 Int) : Arr 10 (Arr 10 Int)) t23) (by (try simp only [add_lit, Nat.add_assoc, Nat.zero_add, Nat.add_zero]) <;> rfl)) ?_
          intro w1 hS
          refine OJ.nil (EJ.next ?_)
          refine CJ.seq ?_
          obtain ⟨t25, ht25, H⟩ := pbind H
          obtain ⟨t26, ht26, H⟩ := pbind H
          obtain ⟨t27, ht27, H⟩ := pbind H
          obtain ⟨t28, ht28, H⟩ := pbind H
          refine CJ.cut1 (fun F w1 => ∃ (b29 : Nat), F = [(1, .pointer (some ⟨b1, 0, none⟩)), (4, .slice A5 t4.length c6), (5, .slice A12 y11.length c13), (6, .int .i64 y14), (8, .pointer (some ⟨b24, 0, none⟩)), (9, .pointer (some ⟨b29, 0, none⟩))] ∧ St w no w1 [box b1 (cPasture.enc a0) 31, rowC cHurdle A12 c13 48 y11, box b19 (cPasture.enc t18) 31, box b24 ((carr 10 (carr 10 (ci .i64))).enc t23) 59, box b29 (cSpot.enc t28) 45] [roC cHurdle A5 c6 t4, roC cHurdle (cutA A5 c6 y14.toNat cHurdle.sz) (c6 - y14.toNat) ((t4.drop y14.toNat).take (((IntKind.i64.wrap (y14 + 1)).toNat) - y14.toNat))]) ?_ ?_
          · skip
            refine CJ.drawT [] [9, 10, 11, 12] (.one 0 (.one 1 (.one 2 (.one 3 (.one 4 (.one 5 (.one 6 (.one 7 (.one 8 (.br (.alt 9 (.br (.alt 10 (.one 11 (.one 12 (.fin))) (.alt 11 (.one 10 (.one 12 (.fin))) (.stop)))) (.alt 11 (.one 9 (.one 10 (.one 12 (.fin)))) (.stop))))))))))))) mixed (by kernel_rfl) hS [] fun w1 hS hY hV => ?_
            refine TJ.pures oU 2 Z ?_
            obtain ⟨ad25, e25⟩ := (hS.rd' (i := 0) rfl).some' ht25
            refine TJ.sp Z Z Z Z Z (fun w2 => SR.idxS oU oI Z Z Z Z e25 Z (getI_some ht25).1) ?_
            refine TJ.sp Z Z Z Z Z (fun w2 => SR.fieldAddr oU oI Z Z Z Z Z Z) ?_
            refine TJ.st hY Z Z Z Z Z (fun w2 hY => SR.load Z Z (fun w' hx => ldN oU oI Z Z Z (CA.ext (CA.sub (((hV w2 hY).rd' (i := 0) Z).at_ e25 ht25) 0) hx) (cSpot.len _) Z)) ?_
            refine TJ.pures oU 2 Z ?_
            obtain ⟨ad26, e26⟩ := (hS.rd' (i := 0) rfl).some' ht26
            refine TJ.sp Z Z Z Z Z (fun w2 => SR.idxS oU oI Z Z Z Z e26 Z (getI_some ht26).1) ?_
            refine TJ.st hY Z Z Z Z Z (fun w2 hY => SR.load Z Z (fun w' hx => ldE oU oI Z Z Z (CA.ext (((hV w2 hY).rd' (i := 0) Z).at_ e26 ht26) hx) Z)) ?_
            refine TJ.br ?_
            refine TJ.alt ?_ ?_
            · skip
              refine TJ.callF hY rfl rfl rfl rfl rfl rfl rfl hb38 rfl (spec_l03Side.c _ t26 _ ht27) (by rintro v w' ⟨rfl, hs⟩; exact hs) ?_
              rintro _ w1 hY ⟨rfl, hs⟩
              replace hS := hS.grow hs
              refine TJ.br ?_
              refine TJ.alt ?_ ?_
              · skip
                refine TJ.callF hY rfl rfl rfl rfl rfl rfl rfl hb37 rfl (spec_l01Next.c _ t25.At t27 _ ht28) (by rintro v w' ⟨rfl, hs⟩; exact hs) ?_
                rintro _ w1 hY ⟨rfl, hs⟩
                replace hS := hS.grow hs
                refine TJ.ef hY Z Z Z Z Z (Ef.alloc hS oI Z Z (cSpot.enc (⟨0, 0⟩ : Spot)) Z) ?_
                rintro _ w1 hY ⟨b30, rfl, hS⟩
                have hO := hS
                refine TJ.es rfl rfl rfl rfl (Es.store oI (hS.inn []) (i := 4) rfl rfl rfl rfl rfl rfl (vs := cSpot.enc t28) rfl (cSpot.len _) (cSpot.one _) (Nat.le_of_ble_eq_true rfl) (cSpot.enc t28) rfl) (by intro w1 hS; exact hY.wr (hO.inY [] 2 rfl rfl) hS.chg) ?_
                intro w1 hY hS
                have hS : St w no w1 [box b1 (cPasture.enc a0) 31, rowC cHurdle A12 c13 48 y11, box b19 (cPasture.enc t18) 31, box b24 ((carr 10 (carr 10 (ci .i64))).enc t23) 59, box b30 (cSpot.enc t28) 45] [roC cHurdle A5 c6 t4, roC cHurdle (cutA A5 c6 y14.toNat cHurdle.sz) (c6 - y14.toNat) ((t4.drop y14.toNat).take (((IntKind.i64.wrap (y14 + 1)).toNat) - y14.toNat))] := hO.out [] hS
                refine TJ.nil ?_
                exact EJ.meet (F' := [(1, .pointer (some ⟨b1, 0, none⟩)), (4, .slice A5 t4.length c6), (5, .slice A12 y11.length c13), (6, .int .i64 y14), (8, .pointer (some ⟨b24, 0, none⟩)), (9, .pointer (some ⟨b30, 0, none⟩))]) ⟨Z, Z, Z, Z, Z, Z, trivial⟩ ⟨b30, Z, hS.pick [0, 1, 2, 3, 4] [0, 1] Z⟩
              refine TJ.alt ?_ ?_
              · skip
                refine TJ.ef hY Z Z Z Z Z (Ef.alloc hS oI Z Z (cSpot.enc (⟨0, 0⟩ : Spot)) Z) ?_
                rintro _ w1 hY ⟨b31, rfl, hS⟩
                refine TJ.callF hY rfl rfl rfl rfl rfl rfl rfl hb37 rfl (spec_l01Next.c _ t25.At t27 _ ht28) (by rintro v w' ⟨rfl, hs⟩; exact hs) ?_
                rintro _ w1 hY ⟨rfl, hs⟩
                replace hS := hS.grow hs
                have hO := hS
                refine TJ.es rfl rfl rfl rfl (Es.store oI (hS.inn []) (i := 4) rfl rfl rfl rfl rfl rfl (vs := cSpot.enc t28) rfl (cSpot.len _) (cSpot.one _) (Nat.le_of_ble_eq_true rfl) (cSpot.enc t28) rfl) (by intro w1 hS; exact hY.wr (hO.inY [] 2 rfl rfl) hS.chg) ?_
                intro w1 hY hS
                have hS : St w no w1 [box b1 (cPasture.enc a0) 31, rowC cHurdle A12 c13 48 y11, box b19 (cPasture.enc t18) 31, box b24 ((carr 10 (carr 10 (ci .i64))).enc t23) 59, box b31 (cSpot.enc t28) 45] [roC cHurdle A5 c6 t4, roC cHurdle (cutA A5 c6 y14.toNat cHurdle.sz) (c6 - y14.toNat) ((t4.drop y14.toNat).take (((IntKind.i64.wrap (y14 + 1)).toNat) - y14.toNat))] := hO.out [] hS
                refine TJ.nil ?_
                exact EJ.meet (F' := [(1, .pointer (some ⟨b1, 0, none⟩)), (4, .slice A5 t4.length c6), (5, .slice A12 y11.length c13), (6, .int .i64 y14), (8, .pointer (some ⟨b24, 0, none⟩)), (9, .pointer (some ⟨b31, 0, none⟩))]) ⟨Z, Z, Z, Z, Z, Z, trivial⟩ ⟨b31, Z, hS.pick [0, 1, 2, 3, 4] [0, 1] Z⟩
              exact TJ.stop
            refine TJ.alt ?_ ?_
            · skip
              refine TJ.ef hY Z Z Z Z Z (Ef.alloc hS oI Z Z (cSpot.enc (⟨0, 0⟩ : Spot)) Z) ?_
              rintro _ w1 hY ⟨b32, rfl, hS⟩
              refine TJ.callF hY rfl rfl rfl rfl rfl rfl rfl hb38 rfl (spec_l03Side.c _ t26 _ ht27) (by rintro v w' ⟨rfl, hs⟩; exact hs) ?_
              rintro _ w1 hY ⟨rfl, hs⟩
              replace hS := hS.grow hs
              refine TJ.callF hY rfl rfl rfl rfl rfl rfl rfl hb37 rfl (spec_l01Next.c _ t25.At t27 _ ht28) (by rintro v w' ⟨rfl, hs⟩; exact hs) ?_
              rintro _ w1 hY ⟨rfl, hs⟩
              replace hS := hS.grow hs
              have hO := hS
              refine TJ.es rfl rfl rfl rfl (Es.store oI (hS.inn []) (i := 4) rfl rfl rfl rfl rfl rfl (vs := cSpot.enc t28) rfl (cSpot.len _) (cSpot.one _) (Nat.le_of_ble_eq_true rfl) (cSpot.enc t28) rfl) (by intro w1 hS; exact hY.wr (hO.inY [] 2 rfl rfl) hS.chg) ?_
              intro w1 hY hS
              have hS : St w no w1 [box b1 (cPasture.enc a0) 31, rowC cHurdle A12 c13 48 y11, box b19 (cPasture.enc t18) 31, box b24 ((carr 10 (carr 10 (ci .i64))).enc t23) 59, box b32 (cSpot.enc t28) 45] [roC cHurdle A5 c6 t4, roC cHurdle (cutA A5 c6 y14.toNat cHurdle.sz) (c6 - y14.toNat) ((t4.drop y14.toNat).take (((IntKind.i64.wrap (y14 + 1)).toNat) - y14.toNat))] := hO.out [] hS
              refine TJ.nil ?_
              exact EJ.meet (F' := [(1, .pointer (some ⟨b1, 0, none⟩)), (4, .slice A5 t4.length c6), (5, .slice A12 y11.length c13), (6, .int .i64 y14), (8, .pointer (some ⟨b24, 0, none⟩)), (9, .pointer (some ⟨b32, 0, none⟩))]) ⟨Z, Z, Z, Z, Z, Z, trivial⟩ ⟨b32, Z, hS.pick [0, 1, 2, 3, 4] [0, 1] Z⟩
            exact TJ.stop
          · rintro F w1 ⟨b29, rfl, hS⟩
            refine EJ.next ?_
            refine CJ.seq ?_
            refine CJ.draw [] [0, 1, 2, 3, 4, 5, 6, 7] mixed (by kernel_rfl) hS fun w1 hS => ?_
            refine DJ.st Z Z Z Z Z (SR.fieldAddr oU oI Z Z Z Z Z Z) ?_
            refine DJ.st Z Z Z Z Z (SR.load Z Z (fun w' hx => ld1 oU Z Z (CA.ext (CA.sub (hS.cells (i := 4) Z) 1) hx) Z)) ?_
            refine DJ.st Z Z Z Z Z (SR.fieldAddr oU oI Z Z Z Z Z Z) ?_
            refine DJ.st Z Z Z Z Z (SR.load Z Z (fun w' hx => ld1 oU Z Z (CA.ext (CA.sub (hS.cells (i := 4) Z) 0) hx) Z)) ?_
            obtain ⟨t33, ht33, H⟩ := pbind H
            refine DJ.st Z Z Z Z Z (SR.idxA oU oI Z Z Z Z Z (Arr.lt ht33)) ?_
            obtain ⟨t34, ht34, H⟩ := pbind H
            refine DJ.st Z Z Z Z Z (SR.idxA oU oI Z Z Z Z Z (Arr.lt ht34)) ?_
            refine DJ.st Z Z Z Z Z (SR.load Z Z (fun w' hx => ld1 oU Z Z (CA.ext (CA.idx (CA.idx (hS.cells (i := 3) Z) ht33) ht34) hx) Z)) ?_
            refine DJ.pures oU 1 Z ?_
            refine DJ.nil (EJ.next ?_)
            refine CJ.cond Z (fun hb => ?_) (fun hb => ?_)
            · replace H := pif_t (of_decide_eq_true hb) H
              refine CJ.region ?_
              refine OJ.pures oU 3 Z ?_
              obtain ⟨t35, ht35, H⟩ := pbind H
              obtain ⟨ad35, e35⟩ := (hS.rd' (i := 0) rfl).some' ht35
              refine OJ.st Z Z Z (SR.idxS oU oI Z Z Z Z e35 Z (getI_some ht35).1) ?_
              refine OJ.st Z Z Z (SR.load Z Z (fun w' hx => ldE oU oI Z Z Z (CA.ext ((hS.rd' (i := 0) Z).at_ e35 ht35) hx) Z)) ?_
              refine OJ.ef Z Z Z (Ef.lit oU oI hS (C := cHurdle) Z Z Z Z Z Z ([t35] : List Hurdle) Z Z Z Z) ?_
              rintro _ w1 ⟨A36, rfl, hS⟩
              obtain ⟨u37, hu37, H⟩ := pbind H
              refine OJ.ew Z Z Z (Ew.append oU oI (C := cHurdle) (xs := y11) (ys := ([t35] : List Hurdle)) hS (i := 1) Z Z Z Z Z Z Z Z Z Z Z Z Z (hS.rd (i := 5) Z) (chk_some hu37)) ?_
              rintro _ w1 ⟨A38, c39, rfl, hS⟩
              refine OJ.pures oU 1 Z ?_
              refine OJ.nil (EJ.blk (EJ.next ?_))
              refine CJ.region ?_
              refine OJ.pures oU 3 Z ?_
              refine OJ.nil ?_
              exact EJ.round k (F' := [(1, .pointer (some ⟨b1, 0, none⟩)), (4, .slice A5 t4.length c6), (5, .slice A38 (y11 ++ ([t35] : List Hurdle)).length c39), (6, .int .i64 (IntKind.i64.wrap (y14 + 1)))]) ⟨Z, Z, Z, Z, trivial⟩ (Nat.lt_succ_self _) ⟨(y11 ++ ([t35] : List Hurdle)), (IntKind.i64.wrap (y14 + 1)), A38, c39, Z, hS.pick [0, 1] [0] Z, H⟩
            · replace H := pif_f (of_decide_eq_false hb) H
              refine CJ.skip (EJ.blk (EJ.next ?_))
              refine CJ.region ?_
              refine OJ.pures oU 3 Z ?_
              refine OJ.nil ?_
              exact EJ.round k (F' := [(1, .pointer (some ⟨b1, 0, none⟩)), (4, .slice A5 t4.length c6), (5, .slice A12 y11.length c13), (6, .int .i64 (IntKind.i64.wrap (y14 + 1)))]) ⟨Z, Z, Z, Z, trivial⟩ (Nat.lt_succ_self _) ⟨y11, (IntKind.i64.wrap (y14 + 1)), A12, c13, Z, hS.pick [0, 1] [0] Z, H⟩
    · replace H := pif_f (of_decide_eq_false hb) H
      refine CJ.exit (EJ.skE (EJ.skE (EJ.hit (?_))))
      exact EJ.meet (F' := [(5, .slice A12 y11.length c13)]) ⟨Z, trivial⟩ ⟨y11, A12, c13, H, Z, hS.pick [1] [0] Z⟩
 rintro F w1 ⟨y8, A9, c10, he, rfl, hS⟩
 obtain rfl := Option.some.inj he
 have H := K255
 refine EJ.next ?_
 refine CJ.seq (CJ.region ?_)
 refine OJ.pures oU 3 Z (OJ.nil (EJ.next ?_))
 refine CJ.ret (?_)
 obtain rfl := Option.some.inj H
 exact EJ.fin Z (.tmp Z (.tmp Z .nil)) ⟨A9, c10, Z, hS.pick [0] [] Z⟩

def impl_AddHurdles.f (k : Nat) (a0 : Pasture) (a1 : List Hurdle) : Option (Pasture × Int) := (impl_hurdleCode.f k a0 a1).bind fun t3 => if t3 ≠ 0 then (some ((⟨0, 0, (Arr.mk' (Arr.mk' 0 : Arr 10 Int) : Arr 10 (Arr 10 Int)), (Arr.mk' 0 : Arr 10 Int), (Arr.mk' 0 : Arr 10 Int)⟩ : Pasture), t3)) else ((impl_Pasture_with.f k a0 a1 true).bind fun t4 => some (t4, 0))
theorem impl_AddHurdles.c (k : Nat) (w : World) (a0 : Pasture) (Aa1 : Option Addr) (ca1 : Nat) (a1 : List Hurdle) (hr1 : Rd cHurdle w Aa1 a1) (hc1 : a1.length ≤ ca1) (r : Pasture × Int) (H : impl_AddHurdles.f k a0 a1 = some r) :
 CV Tryz.prog 16 [.agg (cPasture.enc a0).toArray, .slice Aa1 a1.length ca1].toArray w fun v w' => v = .tuple #[.agg (cPasture.enc r.1).toArray, .int .i64 r.2] ∧ Ext w w' := by
 have hS := ((St.init w no).param cHurdle Aa1 ca1 a1 hr1 hc1)
 unfold impl_AddHurdles.f at H
 refine CV.body Tryz.func16 Z Tryz.ntmps16 Z ?_
 refine CJ.seq (CJ.region ?_)
 refine OJ.ef Z Z Z (Ef.box hS Z Z (cPasture.enc a0) Z) ?_
 rintro _ w1 ⟨b1, rfl, hS⟩
 refine OJ.ef rfl rfl rfl (Ef.alloc hS oI rfl rfl (cPasture.enc (⟨0, 0, (Arr.mk' (Arr.mk' 0 : Arr 10 Int) : Arr 10 (Arr 10 Int)), (Arr.mk' 0 : Arr 10 Int), (Arr.mk' 0 : Arr 10 Int)⟩ : Pasture)) (by kernel_rfl)) ?_
 rintro _ w1 ⟨b2, rfl, hS⟩
 refine OJ.pures oU 1 Z (OJ.nil (EJ.next ?_))
 refine CJ.seq ?_
 refine CJ.seq (CJ.region ?_)
 refine OJ.st Z Z Z (SR.load Z Z (fun w' hx => ldE oU oI Z Z Z (CA.ext (hS.cells (i := 0) Z) hx) Z)) ?_
 refine OJ.pures oU 1 Z ?_
 obtain ⟨t3, ht3, H⟩ := pbind H
 refine OJ.callF Z Z Z Z Z hb40 Z (impl_hurdleCode.c k _ a0 Aa1 ca1 a1 (hS.rd' (i := 0) Z) (hS.le' (i := 0) Z) _ ht3) ?_
 rintro _ w1 ⟨rfl, hs⟩
 replace hS := hS.grow hs
 refine OJ.pures oU 1 Z (OJ.nil (EJ.next ?_))
 refine CJ.seq (CJ.region ?_)
 refine OJ.pures oU 2 Z (OJ.nil (EJ.next ?_))
 refine CJ.cond Z (fun hb => ?_) (fun hb => ?_)
 ·replace H := pif_t (of_decide_eq_true hb) H
  refine CJ.seq (CJ.region ?_)
  refine OJ.st Z Z Z (SR.build (C := cPasture) oU oI Z Z Z (zs := [.int .i8 0, .int .i8 0, .int .i16 0, .int .i16 0, .int .i16 0, .int .i16 0, .int .i16 0, .int .i16 0, .int .i16 0, .int .i16 0, .int .i16 0, .int .i16 0, .int .i16 0, .int .i16 0, .int .i16 0, .int .i16 0, .int .i16 0, .int .i16 0, .int .i16 0, .int .i16 0, .int .i16 0, .int .i16 0, .int .i16 0, .int .i16 0, .int .i16 0, .int .i16 0, .int .i16 0, .int .i16 0, .int .i16 0, .int .i16 0, .int .i16 0, .int .i16 0, .int .i16 0, .int .i16 0, .int .i16 0, .int .i16 0, .int .i16 0, .int .i16 0, .int .i16 0, .int .i16 0, .int .i16 0, .int .i16 0, .int .i16 0, .int .i16 0, .int .i16 0, .int .i16 0, .int .i16 0, .int .i16 0, .int .i16 0, .int .i16 0, .int .i16 0, .int .i16 0, .int .i16 0, .int .i16 0, .int .i16 0, .int .i16 0, .int .i16 0, .int .i16 0, .int .i16 0, .int .i16 0, .int .i16 0, .int .i16 0, .int .i16 0, .int .i16 0, .int .i16 0, .int .i16 0, .int .i16 0, .int .i16 0, .int .i16 0, .int .i16 0, .int .i16 0, .int .i16 0, .int .i16 0, .int .i16 0, .int .i16 0, .int .i16 0, .int .i16 0, .int .i16 0, .int .i16 0, .int .i16 0, .int .i16 0, .int .i16 0, .int .i16 0, .int .i16 0, .int .i16 0, .int .i16 0, .int .i16 0, .int .i16 0, .int .i16 0, .int .i16 0, .int .i16 0, .int .i16 0, .int .i16 0, .int .i16 0, .int .i16 0, .int .i16 0, .int .i16 0, .int .i16 0, .int .i16 0, .int .i16 0, .int .i16 0, .int .i16 0, .int .u16 0, .int .u16 0, .int .u16 0, .int .u16 0, .int .u16 0, .int .u16 0, .int .u16 0, .int .u16 0, .int .u16 0, .int .u16 0, .int .u16 0, .int .u16 0, .int .u16 0, .int .u16 0, .int .u16 0, .int .u16 0, .int .u16 0, .int .u16 0, .int .u16 0, .int .u16 0]) Z Z Z (⟨0, 0, (Arr.mk' (Arr.mk' 0 : Arr 10 Int) : Arr 10 (Arr 10 Int)), (Arr.mk' 0 : Arr 10 Int), (Arr.mk' 0 : Arr 10 Int)⟩ : Pasture) Z) ?_
  refine OJ.pures oU 1 Z ?_
  refine OJ.es rfl rfl (Es.put oI hS (i := 1) rfl rfl rfl rfl rfl (vs := cPasture.enc (⟨0, 0, (Arr.mk' (Arr.mk' 0 : Arr 10 Int) : Arr 10 (Arr 10 Int)), (Arr.mk' 0 : Arr 10 Int), (Arr.mk' 0 : Arr 10 Int)⟩ : Pasture)) rfl (cPasture.len _) (cPasture.one _) (Put.all cPasture (⟨0, 0, (Arr.mk' (Arr.mk' 0 : Arr 10 Int) : Arr 10 (Arr 10 Int)), (Arr.mk' 0 : Arr 10 Int), (Arr.mk' 0 : Arr 10 Int)⟩ : Pasture) (⟨0, 0, (Arr.mk' (Arr.mk' 0 : Arr 10 Int) : Arr 10 (Arr 10 Int)), (Arr.mk' 0 : Arr 10 Int), (Arr.mk' 0 : Arr 10 Int)⟩ : Pasture)) (by (try simp only [add_lit, Nat.add_assoc, Nat.zero_add, Nat.add_zero]) <;> rfl)) ?_
  intro w1 hS
  refine OJ.pures oU 1 Z (OJ.nil (EJ.next ?_))
  refine CJ.ret (EJ.skR (?_))
  obtain rfl := Option.some.inj H
  exact EJ.fin Z (.cell Z (ldE oU oI Z Z Z (hS.cells (i := 1) Z) Z) (.tmp Z .nil)) ⟨Z, hS.ext⟩
 replace H := pif_f (of_decide_eq_false hb) H
 refine CJ.skip (EJ.next ?_)
 refine CJ.seq (CJ.region ?_)
 refine OJ.st Z Z Z (SR.load Z Z (fun w' hx => ldE oU oI Z Z Z (CA.ext (hS.cells (i := 0) Z) hx) Z)) ?_
 refine OJ.pures oU 1 Z ?_
 obtain ⟨t4, ht4, H⟩ := pbind H
 refine OJ.callF Z Z Z Z Z hb41 Z (impl_Pasture_with.c k _ a0 Aa1 ca1 a1 (hS.rd' (i := 0) Z) (hS.le' (i := 0) Z) true _ ht4) ?_
 rintro _ w1 ⟨rfl, hs⟩
 replace hS := hS.grow hs
 refine OJ.es rfl rfl (Es.put oI hS (i := 1) rfl rfl rfl rfl rfl (vs := cPasture.enc t4) rfl (cPasture.len _) (cPasture.one _) (Put.all cPasture (⟨0, 0, (Arr.mk' (Arr.mk' 0 : Arr 10 Int) : Arr 10 (Arr 10 Int)), (Arr.mk' 0 : Arr 10 Int), (Arr.mk' 0 : Arr 10 Int)⟩ : Pasture) t4) (by (try simp only [add_lit, Nat.add_assoc, Nat.zero_add, Nat.add_zero]) <;> rfl)) ?_
 intro w1 hS
 refine OJ.pures oU 1 Z (OJ.nil (EJ.next ?_))
 refine CJ.ret (?_)
 obtain rfl := Option.some.inj H
 exact EJ.fin Z (.cell Z (ldE oU oI Z Z Z (hS.cells (i := 1) Z) Z) (.tmp Z .nil)) ⟨Z, hS.ext⟩

def spec_P6Spot.f (a0 : List Int) (a1 : Pasture) : Option Spot := (spec_l00From.f a0).bind fun t3 => (spec_l00Src_pick.f (⟨a0, t3.at_, t3.seed⟩ : l00Src) (IntKind.i64.wrap a1.Wide)).bind fun t5 => (spec_l00Src_pick.f (⟨a0, t5.2.at_, t5.2.seed⟩ : l00Src) (IntKind.i64.wrap a1.High)).bind fun t6 => some (⟨IntKind.i8.wrap t5.1, IntKind.i8.wrap t6.1⟩ : Spot)
theorem spec_P6Spot.c (w : World) (Aa0 : Option Addr) (ca0 : Nat) (a0 : List Int) (hr0 : Rd (ci .u8) w Aa0 a0) (hc0 : a0.length ≤ ca0) (a1 : Pasture) (r : Spot) (H : spec_P6Spot.f a0 a1 = some r) :
 CV Tryz.prog 17 [.slice Aa0 a0.length ca0, .agg (cPasture.enc a1).toArray].toArray w fun v w' => v = .agg (cSpot.enc r).toArray ∧ Ext w w' := by
 have hS := ((St.init w no).param (ci .u8) Aa0 ca0 a0 hr0 hc0)
 unfold spec_P6Spot.f at H
 refine CV.body Tryz.func17 Z Tryz.ntmps17 Z ?_
 refine CJ.seq (CJ.region ?_)
 refine OJ.ef Z Z Z (Ef.box hS Z Z (cPasture.enc a1) Z) ?_
 rintro _ w1 ⟨b1, rfl, hS⟩
 refine OJ.ef Z Z Z (Ef.alloc hS oI Z Z (cSpot.enc (⟨0, 0⟩ : Spot)) Z) ?_
 rintro _ w1 ⟨b2, rfl, hS⟩
 refine OJ.nil (EJ.next ?_)
 refine CJ.seq (CJ.region ?_)
 refine OJ.pures oU 1 Z ?_
 obtain ⟨t3, ht3, H⟩ := pbind H
 refine OJ.callF Z Z Z Z Z hb26 Z (spec_l00From.c _ Aa0 ca0 a0 (hS.rd' (i := 0) Z) (hS.le' (i := 0) Z) _ ht3) ?_
 rintro _ w1 ⟨b4, rfl, hs⟩
 replace hS := hS.addN hs
 refine OJ.pures oU 1 Z (OJ.nil (EJ.next ?_))
 refine CJ.seq (CJ.region ?_)
 refine OJ.pures oU 1 Z ?_
 refine OJ.st Z Z Z (SR.fieldAddr oU oI Z Z Z Z Z Z) ?_
 refine OJ.st Z Z Z (SR.load Z Z (fun w' hx => ld1 oU Z Z (CA.ext (CA.fld (hS.cells (i := 0) Z) (mid_part (fe_Pasture_0 _) (fl_Pasture_0 _) ((ci .i8).len _))) hx) Z)) ?_
 refine OJ.pures oU 1 Z ?_
 obtain ⟨t5, ht5, H⟩ := pbind H
 refine OJ.callF Z Z Z Z Z hb49 Z (spec_l00Src_pick.c _ Aa0 ca0 (⟨a0, t3.at_, t3.seed⟩ : l00Src) b4 (IntKind.i64.wrap a1.Wide) ((hS.subs [2] [0] [] Z).pick [0] [0] Z) _ ht5) ?_
 rintro _ w1 ⟨rfl, hs⟩
 replace hS := hS.back [2] Z Z [box b4 ([.slice Aa0 a0.length ca0, .int .i64 t5.2.at_, .int .u64 t5.2.seed]) 102] [] hs ⟨fun _ => Iff.rfl, trivial⟩
 refine OJ.pures oU 1 Z (OJ.nil (EJ.next ?_))
 refine CJ.seq (CJ.region ?_)
 refine OJ.pures oU 3 Z ?_
 refine OJ.st Z Z Z (SR.fieldAddr oU oI Z Z Z Z Z Z) ?_
 refine OJ.st Z Z Z (SR.load Z Z (fun w' hx => ld1 oU Z Z (CA.ext (CA.fld (hS.cells (i := 0) Z) (mid_part (fe_Pasture_1 _) (fl_Pasture_1 _) ((ci .i8).len _))) hx) Z)) ?_
 refine OJ.pures oU 1 Z ?_
 obtain ⟨t6, ht6, H⟩ := pbind H
 refine OJ.callF Z Z Z Z Z hb49 Z (spec_l00Src_pick.c _ Aa0 ca0 (⟨a0, t5.2.at_, t5.2.seed⟩ : l00Src) b4 (IntKind.i64.wrap a1.High) ((hS.subs [2] [0] [] Z).pick [0] [0] Z) _ ht6) ?_
 rintro _ w1 ⟨rfl, hs⟩
 replace hS := hS.back [2] Z Z [box b4 ([.slice Aa0 a0.length ca0, .int .i64 t6.2.at_, .int .u64 t6.2.seed]) 102] [] hs ⟨fun _ => Iff.rfl, trivial⟩
 refine OJ.pures oU 1 Z ?_
 refine OJ.st Z Z Z (SR.build (C := cSpot) oU oI Z Z Z (zs := [.int .i8 0, .int .i8 0]) Z Z Z (⟨IntKind.i8.wrap t5.1, IntKind.i8.wrap t6.1⟩ : Spot) Z) ?_
 refine OJ.es Z Z (Es.store oI hS (i := 1) Z Z Z Z Z Z (vs := cSpot.enc (⟨IntKind.i8.wrap t5.1, IntKind.i8.wrap t6.1⟩ : Spot)) Z (cSpot.len _) (cSpot.one _) (Nat.le_of_ble_eq_true Z) (cSpot.enc (⟨IntKind.i8.wrap t5.1, IntKind.i8.wrap t6.1⟩ : Spot)) Z) ?_
 intro w1 hS
 refine OJ.nil (EJ.next ?_)
 refine CJ.ret (?_)
 obtain rfl := Option.some.inj H
 exact EJ.fin Z (.cell Z (ldE oU oI Z Z Z (hS.cells (i := 1) Z) Z) .nil) ⟨Z, hS.ext⟩

def slices_IndexFunc_impl_Spot_impl_Spot.l1 (a0 : List Spot) (a1 : Spot → Option Bool) : Nat → Int → Option (Int ⊕ Unit)
  | 0, _ => none
  | k + 1, y1 => if y1 < (a0.length : Int) then ((getI a0 y1).bind fun t2 => (a1 t2).bind fun t3 => if t3 = true then (some (Sum.inl y1)) else (slices_IndexFunc_impl_Spot_impl_Spot.l1 a0 a1 k (IntKind.i64.wrap (y1 + 1)))) else (some (Sum.inr ()))
def slices_IndexFunc_impl_Spot_impl_Spot.f (k : Nat) (a0 : List Spot) (a1 : Spot → Option Bool) : Option Int := (slices_IndexFunc_impl_Spot_impl_Spot.l1 a0 a1 k 0).bind fun s259 => match s259 with | .inl r => some r | .inr _ => some (-1)
theorem slices_IndexFunc_impl_Spot_impl_Spot.c (k : Nat) (w : World) (Aa0 : Option Addr) (ca0 : Nat) (a0 : List Spot) (hr0 : Rd cSpot w Aa0 a0) (hc0 : a0.length ≤ ca0) (na1 : Nat) (fsa1 capa1 : Array Value) (hb1 : hasBody Tryz.prog na1) (a1 : Spot → Option Bool) (hf1 : ∀ (z0 : Spot) (r : Bool), a1 z0 = some r → ∀ w', Chg no w w' → CV Tryz.prog na1 (fsa1 ++ [.agg (cSpot.enc z0).toArray].toArray ++ capa1) w' fun v w'' => v = .bool r ∧ Ext w' w'') (r : Int) (H : slices_IndexFunc_impl_Spot_impl_Spot.f k a0 a1 = some r) :
 CV Tryz.prog 88 [.slice Aa0 a0.length ca0, .func (.func na1) fsa1 capa1].toArray w fun v w' => v = .int .i64 r ∧ Ext w w' := by
 have hS := ((St.init w no).param cSpot Aa0 ca0 a0 hr0 hc0)
 unfold slices_IndexFunc_impl_Spot_impl_Spot.f at H
 refine CV.body Tryz.func88 Z Tryz.ntmps88 Z ?_
 refine CJ.seq (CJ.region ?_)
 refine OJ.pures oU 1 Z (OJ.nil (EJ.next ?_))
 refine CJ.seq ?_
 refine CJ.seq (CJ.region ?_)
 refine OJ.pures oU 3 Z (OJ.nil (EJ.next ?_))
 obtain ⟨j259, H, K259⟩ := pbind H
 refine CJ.cut1 (fun F w1 => (some (Sum.inr ()) : Option (Int ⊕ Unit)) = some j259 ∧ F = [] ∧ St w no w1 [] [roC cSpot Aa0 ca0 a0]) ?_ ?_
 ·skip
  refine CJ.block ?_
  refine CJ.loop (fun k F w1 => ∃ (y1 : Int), F = [(0, .slice Aa0 a0.length ca0), (1, .func (.func na1) fsa1 capa1), (7, .int .i64 (a0.length : Int)), (8, .int .i64 y1)] ∧ St w no w1 [] [roC cSpot Aa0 ca0 a0] ∧ slices_IndexFunc_impl_Spot_impl_Spot.l1 a0 a1 k y1 = some j259) k (F' := [(0, .slice Aa0 a0.length ca0), (1, .func (.func na1) fsa1 capa1), (7, .int .i64 (a0.length : Int)), (8, .int .i64 0)]) ⟨Z, Z, Z, Z, trivial⟩ ⟨0, Z, hS.pick [] [0] Z, H⟩ ?_
  rintro k F w1 ⟨y1, rfl, hS, H⟩
  cases k with
  | zero => rw [slices_IndexFunc_impl_Spot_impl_Spot.l1] at H; cases H
  | succ k =>
    rw [slices_IndexFunc_impl_Spot_impl_Spot.l1] at H
    refine CJ.seq (CJ.region ?_)
    refine OJ.pures oU 1 Z (OJ.nil (EJ.next ?_))
    refine CJ.seq ?_
    refine CJ.cond Z (fun hb => ?_) (fun hb => ?_)
    · replace H := pif_t (of_decide_eq_true hb) H
      refine CJ.skip (EJ.next ?_)
      refine CJ.seq ?_
      refine CJ.block ?_
      refine CJ.seq (CJ.region ?_)
      refine OJ.pures oU 2 Z (OJ.nil (EJ.next ?_))
      refine CJ.seq (CJ.region ?_)
      refine OJ.pures oU 3 Z ?_
      obtain ⟨t2, ht2, H⟩ := pbind H
      obtain ⟨ad2, e2⟩ := (hS.rd' (i := 0) rfl).some' ht2
      refine OJ.st Z Z Z (SR.idxS oU oI Z Z Z Z e2 Z (getI_some ht2).1) ?_
      refine OJ.st Z Z Z (SR.load Z Z (fun w' hx => ldE oU oI Z Z Z (CA.ext ((hS.rd' (i := 0) Z).at_ e2 ht2) hx) Z)) ?_
      obtain ⟨t3, ht3, H⟩ := pbind H
      refine OJ.call Z Z (Nat.le_of_ble_eq_true Z) Z Z Z hb1 Z (hf1 t2 _ ht3 _ hS.chg) ?_
      rintro _ w1 ⟨rfl, hs⟩
      replace hS := hS.grow hs
      refine OJ.nil (EJ.next ?_)
      refine CJ.cond Z (fun hb => ?_) (fun hb => ?_)
      · replace H := pif_t hb H
        refine CJ.seq (CJ.region ?_)
        refine OJ.pures oU 2 Z (OJ.nil (EJ.next ?_))
        refine CJ.ret (EJ.bkR (EJ.skR (EJ.skR (EJ.bkR (EJ.skR (EJ.skR (?_)))))))
        first | (obtain rfl := Option.some.inj H; have H := K259) | (obtain ⟨q259, H2, e259⟩ := pbind H; obtain rfl := Option.some.inj e259; obtain rfl := Option.some.inj K259; have H := H2)
        obtain rfl := Option.some.inj H
        exact EJ.fin Z (.tmp Z .nil) ⟨Z, hS.ext⟩
      · replace H := pifb_f hb H
        refine CJ.skip (EJ.blk (EJ.next ?_))
        refine CJ.region ?_
        refine OJ.pures oU 2 Z ?_
        refine OJ.nil ?_
        exact EJ.round k (F' := [(0, .slice Aa0 a0.length ca0), (1, .func (.func na1) fsa1 capa1), (7, .int .i64 (a0.length : Int)), (8, .int .i64 (IntKind.i64.wrap (y1 + 1)))]) ⟨Z, Z, Z, Z, trivial⟩ (Nat.lt_succ_self _) ⟨(IntKind.i64.wrap (y1 + 1)), Z, hS.pick [] [0] Z, H⟩
    · replace H := pif_f (of_decide_eq_false hb) H
      refine CJ.exit (EJ.skE (EJ.skE (EJ.hit (?_))))
      exact EJ.meet (F' := []) trivial ⟨H, Z, hS.pick [] [0] Z⟩
 rintro F w1 ⟨he, rfl, hS⟩
 obtain rfl := Option.some.inj he
 have H := K259
 refine EJ.next ?_
 refine CJ.seq (CJ.region ?_)
 refine OJ.pures oU 1 Z (OJ.nil (EJ.next ?_))
 refine CJ.ret (?_)
 obtain rfl := Option.some.inj H
 exact EJ.fin Z (.tmp Z .nil) ⟨Z, hS.ext⟩
end Go.Proofs.YtloljfkfnpgjfaaGreat
