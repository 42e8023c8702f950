/-
  What the functions come to.
-/
import Derived.Test.YtokanemjghfadaaGreatDoorGP1
namespace Go.Proofs.YtokanemjghfadaaGreatDoor
open G
set_option linter.unusedVariables false
set_option linter.unusedSimpArgs false
set_option maxRecDepth 100000
set_option maxHeartbeats 4000000
def spec_l02Cells.l1 (a1 : Goat) (t1 : List Spot) : Nat → (List Spot) → Int → Option (List Spot)
  | 0, _, _ => none
  | k + 1, y8, y11 => if y11 < (t1.length : Int) then ((if a1.Rope < 0 then (some true) else ((getI t1 y11).bind fun t13 => (spec_l02Square.f t13 a1.Stake).bind fun t14 => some (decide (t14 ≤ (IntKind.i64.wrap a1.Rope))))).bind fun y12 => if y12 = true then ((getI t1 y11).bind fun t15 => (chk (y8.length + ([t15] : List Spot).length ≤ 4294967296)).bind fun u17 => spec_l02Cells.l1 a1 t1 k (y8 ++ ([t15] : List Spot)) (IntKind.i64.wrap (y11 + 1))) else (spec_l02Cells.l1 a1 t1 k y8 (IntKind.i64.wrap (y11 + 1)))) else (some y8)
def spec_l02Cells.f (k : Nat) (a0 : Pasture) (a1 : Goat) : Option (List Spot) := (spec_l01Yard.f k a0 a1.At).bind fun t1 => (spec_l02Cells.l1 a1 t1 k ([] : List Spot) 0).bind fun y5 => some y5
theorem spec_l02Cells.c (k : Nat) (w : World) (pa0 : Addr) (a0 : Pasture) (hp0 : CA w pa0 (cPasture.enc a0)) (pa1 : Addr) (a1 : Goat) (hp1 : CA w pa1 (cGoat.enc a1)) (r : List Spot) (H : spec_l02Cells.f k a0 a1 = some r) :
 CV Tryz.prog 49 [.pointer (some pa0), .pointer (some pa1)].toArray w fun v w' => ∃ (A0 : Option Addr) (c0 : Nat), v = .slice A0 r.length c0 ∧ St w no w' [rowC cSpot A0 c0 48 r] [] := by
 have hS := (((St.init w no).paramP pa0 (cPasture.enc a0) hp0).paramP pa1 (cGoat.enc a1) hp1)
 unfold spec_l02Cells.f at H
 refine CV.body Tryz.func49 Z Tryz.ntmps49 Z ?_
 refine CJ.seq (CJ.region ?_)
 refine OJ.pures oU 1 Z (OJ.nil (EJ.next ?_))
 refine CJ.seq (CJ.region ?_)
 refine OJ.pures oU 3 Z ?_
 refine OJ.st Z Z Z (SR.fieldAddr oU oI Z Z Z Z Z Z) ?_
 refine OJ.st Z Z Z (SR.load Z Z (fun w' hx => ldN oU oI Z Z Z (CA.ext (CA.sub (hS.ca (i := 1) Z) 0) hx) (cSpot.len _) Z)) ?_
 obtain ⟨t1, ht1, H⟩ := pbind H
 refine OJ.callF Z Z Z Z Z hb98 Z (spec_l01Yard.c k _ _ a0 (hS.ca (i := 0) Z) a1.At _ ht1) ?_
 rintro _ w1 ⟨A2, c3, rfl, hs⟩
 replace hS := hS.addN hs
 refine OJ.pures oU 1 Z (OJ.nil (EJ.next ?_))
 refine CJ.seq (CJ.region ?_)
 refine OJ.ef Z Z Z (Ef.lit oU oI hS (C := cSpot) Z Z Z Z Z Z ([] : List Spot) Z Z Z Z) ?_
 rintro _ w1 ⟨A4, rfl, hS⟩
 refine OJ.pures oU 1 Z (OJ.nil (EJ.next ?_))
 refine CJ.seq ?_
 refine CJ.seq (CJ.region ?_)
 refine OJ.pures oU 1 Z (OJ.nil (EJ.next ?_))
 obtain ⟨j190, H, K190⟩ := pbind H
 refine CJ.cut1 (fun F w1 => ∃ (y5 : List Spot) (A6 : Option Addr) (c7 : Nat), (some y5 : Option (List Spot)) = some j190 ∧ F = [(6, .slice A6 y5.length c7)] ∧ St w no w1 [rowC cSpot A6 c7 48 y5] [roP pa0 (cPasture.enc a0), roP pa1 (cGoat.enc a1)]) ?_ ?_
 ·skip
  refine CJ.block ?_
  refine CJ.loop (fun k F w1 => ∃ (y8 : List Spot) (y11 : Int) (A9 : Option Addr) (c10 : Nat), F = [(1, .pointer (some pa1)), (5, .slice A2 t1.length c3), (6, .slice A9 y8.length c10), (7, .int .i64 y11)] ∧ St w no w1 [rowC cSpot A2 c3 48 t1, rowC cSpot A9 c10 48 y8] [roP pa0 (cPasture.enc a0), roP pa1 (cGoat.enc a1)] ∧ spec_l02Cells.l1 a1 t1 k y8 y11 = some j190) k (F' := [(1, .pointer (some pa1)), (5, .slice A2 t1.length c3), (6, .slice A4 ([] : List Spot).length (([] : List Spot).length)), (7, .int .i64 0)]) ⟨Z, Z, Z, Z, trivial⟩ ⟨([] : List Spot), 0, A4, (([] : List Spot).length), Z, hS.pick [0, 1] [0, 1] Z, H⟩ ?_
  rintro k F w1 ⟨y8, y11, A9, c10, rfl, hS, H⟩
  cases k with
  | zero => rw [spec_l02Cells.l1] at H; cases H
  | succ k =>
    rw [spec_l02Cells.l1] at H
    refine CJ.seq ?_
    refine CJ.seq (CJ.region ?_)
    refine OJ.pures oU 4 Z (OJ.nil (EJ.next ?_))
    refine CJ.cond Z (fun hb => ?_) (fun hb => ?_)
    · replace H := pif_t (of_decide_eq_true hb) H
      refine CJ.skip (EJ.next ?_)
      refine CJ.seq ?_
      refine CJ.block ?_
      obtain ⟨j193, H, K193⟩ := pbind H
      refine CJ.cut (fun F w1 => ∃ (y12 : Bool) , (some y12 : Option Bool) = some j193 ∧ F = [(1, .pointer (some pa1)), (5, .slice A2 t1.length c3), (6, .slice A9 y8.length c10), (7, .int .i64 y11), (42, .bool y12)] ∧ St w no w1 [rowC cSpot A2 c3 48 t1, rowC cSpot A9 c10 48 y8] [roP pa0 (cPasture.enc a0), roP pa1 (cGoat.enc a1)]) ?_ ?_
      · skip
        refine CJ.draw [] [0, 1, 2, 3, 4, 5, 6, 7, 8, 9, 10, 11, 12, 13, 15, 16, 17, 18, 19, 14, 20, 21] mixed (by kernel_rfl) hS fun w1 hS => ?_
        refine DJ.pures oU 2 Z ?_
        refine DJ.st Z Z Z Z Z (SR.fieldAddr oU oI Z Z Z Z Z Z) ?_
        refine DJ.st Z Z Z Z Z (SR.load Z Z (fun w' hx => ld1 oU Z Z (CA.ext (CA.sub (hS.ca (i := 1) Z) 4) hx) Z)) ?_
        refine DJ.pures oU 2 Z ?_
        refine DJ.split (t := 26) Z (fun hb => ?_) (fun hb => ?_)
        · replace H := pif_t (of_decide_eq_true hb) H
          refine DJ.pures oU 16 Z ?_
          refine DJ.nil ?_
          exact EJ.meet (F' := [(1, .pointer (some pa1)), (5, .slice A2 t1.length c3), (6, .slice A9 y8.length c10), (7, .int .i64 y11), (42, .bool true)]) ⟨Z, Z, Z, Z, Z, trivial⟩ ⟨true, H, Z, hS.pick [0, 1] [0, 1] Z⟩
        · replace H := pif_f (of_decide_eq_false hb) H
          refine DJ.pures oU 2 Z ?_
          obtain ⟨t13, ht13, H⟩ := pbind H
          obtain ⟨ad13, e13⟩ := (hS.rd (i := 0) rfl).some' ht13
          refine DJ.st Z Z Z Z Z (SR.idxS oU oI Z Z Z Z e13 Z (getI_some ht13).1) ?_
          refine DJ.st Z Z Z Z Z (SR.load Z Z (fun w' hx => ldE oU oI Z Z Z (CA.ext ((hS.rd (i := 0) Z).at_ e13 ht13) hx) Z)) ?_
          refine DJ.pures oU 2 Z ?_
          refine DJ.st Z Z Z Z Z (SR.fieldAddr oU oI Z Z Z Z Z Z) ?_
          refine DJ.st Z Z Z Z Z (SR.load Z Z (fun w' hx => ldN oU oI Z Z Z (CA.ext (CA.sub (hS.ca (i := 1) Z) 2) hx) (cSpot.len _) Z)) ?_
          refine DJ.pures oU 2 Z ?_
          refine DJ.st Z Z Z Z Z (SR.fieldAddr oU oI Z Z Z Z Z Z) ?_
          refine DJ.st Z Z Z Z Z (SR.load Z Z (fun w' hx => ld1 oU Z Z (CA.ext (CA.sub (hS.ca (i := 1) Z) 4) hx) Z)) ?_
          refine DJ.pures oU 1 Z ?_
          obtain ⟨t14, ht14, H⟩ := pbind H
          refine DJ.callF rfl rfl rfl rfl rfl rfl rfl hb80 rfl (spec_l02Square.c _ t13 a1.Stake _ ht14) (by rintro v w' ⟨rfl, hs⟩; exact hs) ?_
          rintro _ w1 ⟨rfl, hs⟩
          replace hS := hS.grow hs
          refine DJ.pures oU 2 Z ?_
          refine DJ.nil ?_
          exact EJ.meet (F' := [(1, .pointer (some pa1)), (5, .slice A2 t1.length c3), (6, .slice A9 y8.length c10), (7, .int .i64 y11), (42, .bool (decide (t14 ≤ (IntKind.i64.wrap a1.Rope))))]) ⟨Z, Z, Z, Z, Z, trivial⟩ ⟨(decide (t14 ≤ (IntKind.i64.wrap a1.Rope))), H, Z, hS.pick [0, 1] [0, 1] Z⟩
      · rintro F w1 ⟨y12, he, rfl, hS⟩
        obtain rfl := Option.some.inj he
        have H := K193
        refine CJ.cond Z (fun hb => ?_) (fun hb => ?_)
        · replace H := pif_t hb H
          refine CJ.region ?_
          refine OJ.pures oU 3 Z ?_
          obtain ⟨t15, ht15, H⟩ := pbind H
          obtain ⟨ad15, e15⟩ := (hS.rd (i := 0) rfl).some' ht15
          refine OJ.st Z Z Z (SR.idxS oU oI Z Z Z Z e15 Z (getI_some ht15).1) ?_
          refine OJ.st Z Z Z (SR.load Z Z (fun w' hx => ldE oU oI Z Z Z (CA.ext ((hS.rd (i := 0) Z).at_ e15 ht15) hx) Z)) ?_
          refine OJ.ef Z Z Z (Ef.lit oU oI hS (C := cSpot) Z Z Z Z Z Z ([t15] : List Spot) Z Z Z Z) ?_
          rintro _ w1 ⟨A16, rfl, hS⟩
          obtain ⟨u17, hu17, H⟩ := pbind H
          refine OJ.ew Z Z Z (Ew.append oU oI (C := cSpot) (xs := y8) (ys := ([t15] : List Spot)) hS (i := 1) Z Z Z Z Z Z Z Z Z Z Z Z Z (hS.rd (i := 2) Z) (chk_some hu17)) ?_
          rintro _ w1 ⟨A18, c19, rfl, hS⟩
          refine OJ.pures oU 1 Z ?_
          refine OJ.nil (EJ.blk (EJ.next ?_))
          refine CJ.region ?_
          refine OJ.pures oU 3 Z ?_
          refine OJ.nil ?_
          exact EJ.round k (F' := [(1, .pointer (some pa1)), (5, .slice A2 t1.length c3), (6, .slice A18 (y8 ++ ([t15] : List Spot)).length c19), (7, .int .i64 (IntKind.i64.wrap (y11 + 1)))]) ⟨Z, Z, Z, Z, trivial⟩ (Nat.lt_succ_self _) ⟨(y8 ++ ([t15] : List Spot)), (IntKind.i64.wrap (y11 + 1)), A18, c19, Z, hS.pick [0, 1] [0, 1] Z, H⟩
        · replace H := pifb_f hb H
          refine CJ.skip (EJ.blk (EJ.next ?_))
          refine CJ.region ?_
          refine OJ.pures oU 3 Z ?_
          refine OJ.nil ?_
          exact EJ.round k (F' := [(1, .pointer (some pa1)), (5, .slice A2 t1.length c3), (6, .slice A9 y8.length c10), (7, .int .i64 (IntKind.i64.wrap (y11 + 1)))]) ⟨Z, Z, Z, Z, trivial⟩ (Nat.lt_succ_self _) ⟨y8, (IntKind.i64.wrap (y11 + 1)), A9, c10, Z, hS.pick [0, 1] [0, 1] Z, H⟩
    · replace H := pif_f (of_decide_eq_false hb) H
      refine CJ.exit (EJ.skE (EJ.skE (EJ.hit (?_))))
      exact EJ.meet (F' := [(6, .slice A9 y8.length c10)]) ⟨Z, trivial⟩ ⟨y8, A9, c10, H, Z, hS.pick [1] [0, 1] Z⟩
 rintro F w1 ⟨y5, A6, c7, he, rfl, hS⟩
 obtain rfl := Option.some.inj he
 have H := K190
 refine EJ.next ?_
 refine CJ.seq (CJ.region ?_)
 refine OJ.pures oU 2 Z (OJ.nil (EJ.next ?_))
 refine CJ.ret (?_)
 obtain rfl := Option.some.inj H
 exact EJ.fin Z (.tmp Z .nil) ⟨A6, c7, Z, hS.pick [0] [] Z⟩

def spec_l01Mask.l1 (a0 : List Spot) : Nat → (Arr 10 (Arr 10 Bool)) → Int → Option (Arr 10 (Arr 10 Bool))
  | 0, _, _ => none
  | k + 1, y4, y5 => if y5 < (a0.length : Int) then ((getI a0 y5).bind fun t6 => (getI a0 y5).bind fun t7 => (getI y4.l t6.Y).bind fun t8 => (getI t8.l t7.X).bind fun t9 => spec_l01Mask.l1 a0 k (aset y4 t6.Y.toNat (aset t8 t7.X.toNat true)) (IntKind.i64.wrap (y5 + 1))) else (some y4)
def spec_l01Mask.f (k : Nat) (a0 : List Spot) : Option (Arr 10 (Arr 10 Bool)) := (spec_l01Mask.l1 a0 k (Arr.mk' (Arr.mk' false : Arr 10 Bool) : Arr 10 (Arr 10 Bool)) 0).bind fun y3 => some y3
theorem spec_l01Mask.c (k : Nat) (w : World) (Aa0 : Option Addr) (ca0 : Nat) (a0 : List Spot) (hr0 : Rd cSpot w Aa0 a0) (hc0 : a0.length ≤ ca0) (r : Arr 10 (Arr 10 Bool)) (H : spec_l01Mask.f k a0 = some r) :
 CV Tryz.prog 48 [.slice Aa0 a0.length ca0].toArray w fun v w' => v = .agg ((carr 10 (carr 10 cb)).enc r).toArray ∧ Ext w w' := by
 have hS := ((St.init w no).param cSpot Aa0 ca0 a0 hr0 hc0)
 unfold spec_l01Mask.f at H
 refine CV.body Tryz.func48 Z Tryz.ntmps48 Z ?_
 refine CJ.seq (CJ.region ?_)
 refine OJ.ef rfl rfl rfl (Ef.alloc hS oI rfl rfl ((carr 10 (carr 10 cb)).enc (Arr.mk' (Arr.mk' false : Arr 10 Bool) : Arr 10 (Arr 10 Bool))) (by kernel_rfl)) ?_
 rintro _ w1 ⟨b1, rfl, hS⟩
 refine OJ.nil (EJ.next ?_)
 refine CJ.seq (CJ.region ?_)
 refine OJ.st rfl rfl rfl (SR.buildA oU oI rfl rfl rfl rfl (zs := [.bool false, .bool false, .bool false, .bool false, .bool false, .bool false, .bool false, .bool false, .bool false, .bool false, .bool false, .bool false, .bool false, .bool false, .bool false, .bool false, .bool false, .bool false, .bool false, .bool false, .bool false, .bool false, .bool false, .bool false, .bool false, .bool false, .bool false, .bool false, .bool false, .bool false, .bool false, .bool false, .bool false, .bool false, .bool false, .bool false, .bool false, .bool false, .bool false, .bool false, .bool false, .bool false, .bool false, .bool false, .bool false, .bool false, .bool false, .bool false, .bool false, .bool false, .bool false, .bool false, .bool false, .bool false, .bool false, .bool false, .bool false, .bool false, .bool false, .bool false, .bool false, .bool false, .bool false, .bool false, .bool false, .bool false, .bool false, .bool false, .bool false, .bool false, .bool false, .bool false, .bool false, .bool false, .bool false, .bool false, .bool false, .bool false, .bool false, .bool false, .bool false, .bool false, .bool false, .bool false, .bool false, .bool false, .bool false, .bool false, .bool false, .bool false, .bool false, .bool false, .bool false, .bool false, .bool false, .bool false, .bool false, .bool false, .bool false, .bool false]) rfl rfl ((carr 10 (carr 10 cb)).enc (Arr.mk' (Arr.mk' false : Arr 10 Bool) : Arr 10 (Arr 10 Bool))) (by kernel_rfl)) ?_
 refine OJ.ef rfl rfl rfl (Ef.alloc hS oI rfl rfl ((carr 10 (carr 10 cb)).enc (Arr.mk' (Arr.mk' false : Arr 10 Bool) : Arr 10 (Arr 10 Bool))) (by kernel_rfl)) ?_
 rintro _ w1 ⟨b2, rfl, hS⟩
 refine OJ.es rfl rfl (Es.put oI hS (i := 1) rfl rfl rfl rfl rfl (vs := (carr 10 (carr 10 cb)).enc (Arr.mk' (Arr.mk' false : Arr 10 Bool) : Arr 10 (Arr 10 Bool))) rfl ((carr 10 (carr 10 cb)).len _) ((carr 10 (carr 10 cb)).one _) (Put.all (carr 10 (carr 10 cb)) (Arr.mk' (Arr.mk' false : Arr 10 Bool) : Arr 10 (Arr 10 Bool)) (Arr.mk' (Arr.mk' false : Arr 10 Bool) : Arr 10 (Arr 10 Bool))) (by (try simp only [add_lit, Nat.add_assoc, Nat.zero_add, Nat.add_zero]) <;> rfl)) ?_
 intro w1 hS
 refine OJ.nil (EJ.next ?_)
 refine CJ.seq ?_
 refine CJ.seq (CJ.region ?_)
 refine OJ.pures oU 1 Z (OJ.nil (EJ.next ?_))
 obtain ⟨j194, H, K194⟩ := pbind H
 refine CJ.cut1 (fun F w1 => ∃ (y3 : Arr 10 (Arr 10 Bool)) , (some y3 : Option (Arr 10 (Arr 10 Bool))) = some j194 ∧ F = [(2, .pointer (some ⟨b1, 0, none⟩)), (3, .pointer (some ⟨b2, 0, none⟩))] ∧ St w no w1 [box b1 ((carr 10 (carr 10 cb)).enc (Arr.mk' (Arr.mk' false : Arr 10 Bool) : Arr 10 (Arr 10 Bool))) 97, box b2 ((carr 10 (carr 10 cb)).enc y3) 97] [roC cSpot Aa0 ca0 a0]) ?_ ?_
 ·skip
  refine CJ.block ?_
  refine CJ.loop (fun k F w1 => ∃ (y4 : Arr 10 (Arr 10 Bool)) (y5 : Int), F = [(0, .slice Aa0 a0.length ca0), (2, .pointer (some ⟨b1, 0, none⟩)), (3, .pointer (some ⟨b2, 0, none⟩)), (4, .int .i64 y5)] ∧ St w no w1 [box b1 ((carr 10 (carr 10 cb)).enc (Arr.mk' (Arr.mk' false : Arr 10 Bool) : Arr 10 (Arr 10 Bool))) 97, box b2 ((carr 10 (carr 10 cb)).enc y4) 97] [roC cSpot Aa0 ca0 a0] ∧ spec_l01Mask.l1 a0 k y4 y5 = some j194) k (F' := [(0, .slice Aa0 a0.length ca0), (2, .pointer (some ⟨b1, 0, none⟩)), (3, .pointer (some ⟨b2, 0, none⟩)), (4, .int .i64 0)]) ⟨Z, Z, Z, Z, trivial⟩ ⟨(Arr.mk' (Arr.mk' false : Arr 10 Bool) : Arr 10 (Arr 10 Bool)), 0, Z, hS.pick [0, 1] [0] Z, H⟩ ?_
  rintro k F w1 ⟨y4, y5, rfl, hS, H⟩
  cases k with
  | zero => rw [spec_l01Mask.l1] at H; cases H
  | succ k =>
    rw [spec_l01Mask.l1] at H
    refine CJ.seq ?_
    refine CJ.seq (CJ.region ?_)
    refine OJ.pures oU 4 Z (OJ.nil (EJ.next ?_))
    refine CJ.cond Z (fun hb => ?_) (fun hb => ?_)
    · replace H := pif_t (of_decide_eq_true hb) H
      refine CJ.skip (EJ.next ?_)
      refine CJ.seq ?_
      refine CJ.block ?_
      refine CJ.draw [] [0, 1, 2, 3, 4, 5, 6, 7, 8, 9, 10, 11, 12] mixed (by kernel_rfl) hS fun w1 hS => ?_
      refine DJ.pures oU 2 Z ?_
      obtain ⟨t6, ht6, H⟩ := pbind H
      obtain ⟨ad6, e6⟩ := (hS.rd' (i := 0) rfl).some' ht6
      refine DJ.st Z Z Z Z Z (SR.idxS oU oI Z Z Z Z e6 Z (getI_some ht6).1) ?_
      refine DJ.st Z Z Z Z Z (SR.fieldAddr oU oI Z Z Z Z Z Z) ?_
      refine DJ.st Z Z Z Z Z (SR.load Z Z (fun w' hx => ld1 oU Z Z (CA.ext (CA.sub ((hS.rd' (i := 0) Z).at_ e6 ht6) 1) hx) Z)) ?_
      refine DJ.pures oU 2 Z ?_
      obtain ⟨t7, ht7, H⟩ := pbind H
      obtain ⟨ad7, e7⟩ := (hS.rd' (i := 0) rfl).some' ht7
      refine DJ.st Z Z Z Z Z (SR.idxS oU oI Z Z Z Z e7 Z (getI_some ht7).1) ?_
      refine DJ.st Z Z Z Z Z (SR.fieldAddr oU oI Z Z Z Z Z Z) ?_
      refine DJ.st Z Z Z Z Z (SR.load Z Z (fun w' hx => ld1 oU Z Z (CA.ext (CA.sub ((hS.rd' (i := 0) Z).at_ e7 ht7) 0) hx) Z)) ?_
      obtain ⟨t8, ht8, H⟩ := pbind H
      refine DJ.st Z Z Z Z Z (SR.idxA oU oI Z Z Z Z Z (Arr.lt ht8)) ?_
      obtain ⟨t9, ht9, H⟩ := pbind H
      refine DJ.st Z Z Z Z Z (SR.idxA oU oI Z Z Z Z Z (Arr.lt ht9)) ?_
      refine DJ.es rfl rfl rfl rfl (Es.put oI hS (i := 1) rfl rfl rfl rfl rfl (vs := cb.enc true) rfl rfl (one1 rfl) (Put.idx (Put.idx (Put.all cb t9 true) ht9) ht8) (by (try simp only [add_lit, Nat.add_assoc, Nat.zero_add, Nat.add_zero]) <;> rfl)) ?_
      intro w1 hS
      refine DJ.nil (EJ.blk (EJ.next ?_))
      refine CJ.region ?_
      refine OJ.pures oU 3 Z ?_
      refine OJ.nil ?_
      exact EJ.round k (F' := [(0, .slice Aa0 a0.length ca0), (2, .pointer (some ⟨b1, 0, none⟩)), (3, .pointer (some ⟨b2, 0, none⟩)), (4, .int .i64 (IntKind.i64.wrap (y5 + 1)))]) ⟨Z, Z, Z, Z, trivial⟩ (Nat.lt_succ_self _) ⟨(aset y4 t6.Y.toNat (aset t8 t7.X.toNat true)), (IntKind.i64.wrap (y5 + 1)), Z, hS.pick [0, 1] [0] Z, H⟩
    · replace H := pif_f (of_decide_eq_false hb) H
      refine CJ.exit (EJ.skE (EJ.skE (EJ.hit (?_))))
      exact EJ.meet (F' := [(2, .pointer (some ⟨b1, 0, none⟩)), (3, .pointer (some ⟨b2, 0, none⟩))]) ⟨Z, Z, trivial⟩ ⟨y4, H, Z, hS.pick [0, 1] [0] Z⟩
 rintro F w1 ⟨y3, he, rfl, hS⟩
 obtain rfl := Option.some.inj he
 have H := K194
 refine EJ.next ?_
 refine CJ.seq (CJ.region ?_)
 refine OJ.st Z Z Z (SR.load Z Z (fun w' hx => ldE oU oI Z Z Z (CA.ext (hS.cells (i := 1) Z) hx) Z)) ?_
 refine OJ.es rfl rfl (Es.put oI hS (i := 0) rfl rfl rfl rfl rfl (vs := (carr 10 (carr 10 cb)).enc y3) rfl ((carr 10 (carr 10 cb)).len _) ((carr 10 (carr 10 cb)).one _) (Put.all (carr 10 (carr 10 cb)) (Arr.mk' (Arr.mk' false : Arr 10 Bool) : Arr 10 (Arr 10 Bool)) y3) (by (try simp only [add_lit, Nat.add_assoc, Nat.zero_add, Nat.add_zero]) <;> rfl)) ?_
 intro w1 hS
 refine OJ.nil (EJ.next ?_)
 refine CJ.ret (?_)
 obtain rfl := Option.some.inj H
 exact EJ.fin Z (.cell Z (ldE oU oI Z Z Z (hS.cells (i := 0) Z) Z) .nil) ⟨Z, hS.ext⟩

def spec_CanMeet.l3 (t19 : Arr 10 (Arr 10 Bool)) (t32 : List Spot) : Nat → Bool → Int → Option Bool
  | 0, _, _ => none
  | k + 1, y36, y37 => if y37 < (t32.length : Int) then (if y36 = true then (spec_CanMeet.l3 t19 t32 k true (IntKind.i64.wrap (y37 + 1))) else ((getI t32 y37).bind fun t38 => (getI t32 y37).bind fun t39 => (getI t19.l t38.Y).bind fun t40 => (getI t40.l t39.X).bind fun t41 => spec_CanMeet.l3 t19 t32 k t41 (IntKind.i64.wrap (y37 + 1)))) else (some y36)
def spec_CanMeet.l2 (a0 : Pasture) (a1 : List Goat) (y11 : Int) (t19 : Arr 10 (Arr 10 Bool)) : Nat → (List (Arr 2 Int)) → Int → Option (List (Arr 2 Int))
  | 0, _, _ => none
  | k + 1, y24, y27 => if y27 < (a1.length : Int) then (((getI a1 y27).bind fun t31 => (spec_l02Cells.f k a0 t31).bind fun t32 => (spec_CanMeet.l3 t19 t32 k false 0).bind fun y35 => if y35 = true then ((chk (y24.length + ([(⟨[y11, y27], rfl⟩ : Arr 2 Int)] : List (Arr 2 Int)).length ≤ 4294967296)).bind fun u43 => some (y24 ++ ([(⟨[y11, y27], rfl⟩ : Arr 2 Int)] : List (Arr 2 Int)))) else (some y24)).bind fun y28 => spec_CanMeet.l2 a0 a1 y11 t19 k y28 (IntKind.i64.wrap (y27 + 1))) else (some y24)
def spec_CanMeet.l1 (a0 : Pasture) (a1 : List Goat) : Nat → (List (Arr 2 Int)) → Int → Option (List (Arr 2 Int))
  | 0, _, _ => none
  | k + 1, y8, y11 => if y11 < (a1.length : Int) then (((getI a1 y11).bind fun t15 => (spec_l02Cells.f k a0 t15).bind fun t16 => (spec_l01Mask.f k t16).bind fun t19 => (spec_CanMeet.l2 a0 a1 y11 t19 k y8 (IntKind.i64.wrap (y11 + 1))).bind fun y21 => some y21).bind fun y12 => spec_CanMeet.l1 a0 a1 k y12 (IntKind.i64.wrap (y11 + 1))) else (some y8)
def spec_CanMeet.f (k : Nat) (a0 : Pasture) (a1 : List Goat) : Option (List (Arr 2 Int) × Int) := (spec_l02Ok.f k a0 a1).bind fun t2 => if (!t2) = true then (some (([] : List (Arr 2 Int)), 1)) else ((spec_CanMeet.l1 a0 a1 k ([] : List (Arr 2 Int)) 0).bind fun y5 => some (y5, 0))
theorem spec_CanMeet.c (k : Nat) (w : World) (a0 : Pasture) (Aa1 : Option Addr) (ca1 : Nat) (a1 : List Goat) (hr1 : Rd cGoat w Aa1 a1) (hc1 : a1.length ≤ ca1) (r : List (Arr 2 Int) × Int) (H : spec_CanMeet.f k a0 a1 = some r) :
 CV Tryz.prog 10 [.agg (cPasture.enc a0).toArray, .slice Aa1 a1.length ca1].toArray w fun v w' => ∃ (A0 : Option Addr) (c0 : Nat), v = .tuple #[.slice A0 r.1.length c0, .int .i64 r.2] ∧ St w no w' [rowC (carr 2 (ci .i64)) A0 c0 101 r.1] [] := by
 have hS := ((St.init w no).param cGoat Aa1 ca1 a1 hr1 hc1)
 unfold spec_CanMeet.f at H
 refine CV.body Tryz.func10 Z Tryz.ntmps10 Z ?_
 refine CJ.seq (CJ.region ?_)
 refine OJ.ef Z Z Z (Ef.box hS Z Z (cPasture.enc a0) Z) ?_
 rintro _ w1 ⟨b1, rfl, hS⟩
 refine OJ.pures oU 2 Z (OJ.nil (EJ.next ?_))
 refine CJ.seq ?_
 refine CJ.seq (CJ.region ?_)
 refine OJ.pures oU 1 Z ?_
 obtain ⟨t2, ht2, H⟩ := pbind H
 refine OJ.callF Z Z Z Z Z hb47 Z (spec_l02Ok.c k _ _ a0 (hS.cells (i := 0) Z) Aa1 ca1 a1 (hS.rd' (i := 0) Z) (hS.le' (i := 0) Z) _ ht2) ?_
 rintro _ w1 ⟨rfl, hs⟩
 replace hS := hS.grow hs
 refine OJ.pures oU 1 Z (OJ.nil (EJ.next ?_))
 refine CJ.cond Z (fun hb => ?_) (fun hb => ?_)
 ·replace H := pif_t hb H
  refine CJ.seq (CJ.region ?_)
  refine OJ.ef Z Z Z (Ef.lit oU oI hS (C := (carr 2 (ci .i64))) Z Z Z Z Z Z ([] : List (Arr 2 Int)) Z Z Z Z) ?_
  rintro _ w1 ⟨A3, rfl, hS⟩
  refine OJ.pures oU 2 Z (OJ.nil (EJ.next ?_))
  refine CJ.ret (EJ.skR (?_))
  obtain rfl := Option.some.inj H
  exact EJ.fin Z (.tmp Z (.tmp Z .nil)) ⟨A3, (([] : List (Arr 2 Int)).length), Z, hS.pick [1] [] Z⟩
 replace H := pifb_f hb H
 refine CJ.skip (EJ.next ?_)
 refine CJ.seq (CJ.region ?_)
 refine OJ.ef Z Z Z (Ef.lit oU oI hS (C := (carr 2 (ci .i64))) Z Z Z Z Z Z ([] : List (Arr 2 Int)) Z Z Z Z) ?_
 rintro _ w1 ⟨A4, rfl, hS⟩
 refine OJ.pures oU 1 Z (OJ.nil (EJ.next ?_))
 refine CJ.seq ?_
 refine CJ.seq (CJ.region ?_)
 refine OJ.pures oU 1 Z (OJ.nil (EJ.next ?_))
 obtain ⟨j167, H, K167⟩ := pbind H
 refine CJ.cut1 (fun F w1 => ∃ (y5 : List (Arr 2 Int)) (A6 : Option Addr) (c7 : Nat), (some y5 : Option (List (Arr 2 Int))) = some j167 ∧ F = [(6, .slice A6 y5.length c7)] ∧ St w no w1 [rowC (carr 2 (ci .i64)) A6 c7 101 y5] [roC cGoat Aa1 ca1 a1]) ?_ ?_
 ·skip
  refine CJ.block ?_
  refine CJ.loop (fun k F w1 => ∃ (y8 : List (Arr 2 Int)) (y11 : Int) (A9 : Option Addr) (c10 : Nat), F = [(1, .slice Aa1 a1.length ca1), (2, .pointer (some ⟨b1, 0, none⟩)), (6, .slice A9 y8.length c10), (7, .int .i64 y11)] ∧ St w no w1 [box b1 (cPasture.enc a0) 31, rowC (carr 2 (ci .i64)) A9 c10 101 y8] [roC cGoat Aa1 ca1 a1] ∧ spec_CanMeet.l1 a0 a1 k y8 y11 = some j167) k (F' := [(1, .slice Aa1 a1.length ca1), (2, .pointer (some ⟨b1, 0, none⟩)), (6, .slice A4 ([] : List (Arr 2 Int)).length (([] : List (Arr 2 Int)).length)), (7, .int .i64 0)]) ⟨Z, Z, Z, Z, trivial⟩ ⟨([] : List (Arr 2 Int)), 0, A4, (([] : List (Arr 2 Int)).length), Z, hS.pick [0, 1] [0] Z, H⟩ ?_
  rintro k F w1 ⟨y8, y11, A9, c10, rfl, hS, H⟩
  cases k with
  | zero => rw [spec_CanMeet.l1] at H; cases H
  | succ k =>
    rw [spec_CanMeet.l1] at H
    refine CJ.seq ?_
    refine CJ.seq (CJ.region ?_)
    refine OJ.pures oU 4 Z (OJ.nil (EJ.next ?_))
    refine CJ.cond Z (fun hb => ?_) (fun hb => ?_)
    · replace H := pif_t (of_decide_eq_true hb) H
      refine CJ.skip (EJ.next ?_)
      obtain ⟨j236, H, K236⟩ := pbind H
      refine CJ.cut (fun F w1 => ∃ (y12 : List (Arr 2 Int)) (A13 : Option Addr) (c14 : Nat), (some y12 : Option (List (Arr 2 Int))) = some j236 ∧ F = [(1, .slice Aa1 a1.length ca1), (2, .pointer (some ⟨b1, 0, none⟩)), (6, .slice A13 y12.length c14), (7, .int .i64 y11)] ∧ St w no w1 [box b1 (cPasture.enc a0) 31, rowC (carr 2 (ci .i64)) A13 c14 101 y12] [roC cGoat Aa1 ca1 a1]) ?_ ?_
      · skip
        refine CJ.block ?_
        refine CJ.seq (CJ.region ?_)
        refine OJ.pures oU 2 Z ?_
        obtain ⟨t15, ht15, H⟩ := pbind H
        obtain ⟨ad15, e15⟩ := (hS.rd' (i := 0) rfl).some' ht15
        refine OJ.st Z Z Z (SR.idxS oU oI Z Z Z Z e15 Z (getI_some ht15).1) ?_
        obtain ⟨t16, ht16, H⟩ := pbind H
        refine OJ.callF Z Z Z Z Z hb49 Z (spec_l02Cells.c k _ _ a0 (hS.cells (i := 0) Z) _ t15 ((hS.rd' (i := 0) Z).at_ e15 ht15) _ ht16) ?_
        rintro _ w1 ⟨A17, c18, rfl, hs⟩
        replace hS := hS.addN hs
        obtain ⟨t19, ht19, H⟩ := pbind H
        refine OJ.callF Z Z Z Z Z hb48 Z (spec_l01Mask.c k _ A17 c18 t16 (hS.rd (i := 2) Z) (hS.le (i := 2) Z) _ ht19) ?_
        rintro _ w1 ⟨rfl, hs⟩
        replace hS := hS.grow hs
        refine OJ.ef rfl rfl rfl (Ef.alloc hS oI rfl rfl ((carr 10 (carr 10 cb)).enc (Arr.mk' (Arr.mk' false : Arr 10 Bool) : Arr 10 (Arr 10 Bool))) (by kernel_rfl)) ?_
        rintro _ w1 ⟨b20, rfl, hS⟩
        refine OJ.es rfl rfl (Es.put oI hS (i := 3) rfl rfl rfl rfl rfl (vs := (carr 10 (carr 10 cb)).enc t19) rfl ((carr 10 (carr 10 cb)).len _) ((carr 10 (carr 10 cb)).one _) (Put.all (carr 10 (carr 10 cb)) (Arr.mk' (Arr.mk' false : Arr 10 Bool) : Arr 10 (Arr 10 Bool)) t19) (by (try simp only [add_lit, Nat.add_assoc, Nat.zero_add, Nat.add_zero]) <;> rfl)) ?_
        intro w1 hS
        refine OJ.nil (EJ.next ?_)
        refine CJ.seq (CJ.region ?_)
        refine OJ.pures oU 3 Z (OJ.nil (EJ.next ?_))
        obtain ⟨j247, H, K247⟩ := pbind H
        refine CJ.cut1 (fun F w1 => ∃ (y21 : List (Arr 2 Int)) (A22 : Option Addr) (c23 : Nat), (some y21 : Option (List (Arr 2 Int))) = some j247 ∧ F = [(1, .slice Aa1 a1.length ca1), (2, .pointer (some ⟨b1, 0, none⟩)), (6, .slice A22 y21.length c23), (7, .int .i64 y11)] ∧ St w no w1 [box b1 (cPasture.enc a0) 31, rowC (carr 2 (ci .i64)) A22 c23 101 y21] [roC cGoat Aa1 ca1 a1]) ?_ ?_
        · skip
          refine CJ.block ?_
          refine CJ.loop (fun k F w1 => ∃ (y24 : List (Arr 2 Int)) (y27 : Int) (A25 : Option Addr) (c26 : Nat), F = [(1, .slice Aa1 a1.length ca1), (2, .pointer (some ⟨b1, 0, none⟩)), (6, .slice A25 y24.length c26), (7, .int .i64 y11), (8, .pointer (some ⟨b20, 0, none⟩)), (9, .int .i64 y27)] ∧ St w no w1 [box b1 (cPasture.enc a0) 31, rowC (carr 2 (ci .i64)) A25 c26 101 y24, box b20 ((carr 10 (carr 10 cb)).enc t19) 97] [roC cGoat Aa1 ca1 a1] ∧ spec_CanMeet.l2 a0 a1 y11 t19 k y24 y27 = some j247) k (F' := [(1, .slice Aa1 a1.length ca1), (2, .pointer (some ⟨b1, 0, none⟩)), (6, .slice A9 y8.length c10), (7, .int .i64 y11), (8, .pointer (some ⟨b20, 0, none⟩)), (9, .int .i64 (IntKind.i64.wrap (y11 + 1)))]) ⟨Z, Z, Z, Z, Z, Z, trivial⟩ ⟨y8, (IntKind.i64.wrap (y11 + 1)), A9, c10, Z, hS.pick [0, 1, 3] [0] Z, H⟩ ?_
          rintro k F w1 ⟨y24, y27, A25, c26, rfl, hS, H⟩
          cases k with
          | zero => rw [spec_CanMeet.l2] at H; cases H
          | succ k =>
            rw [spec_CanMeet.l2] at H
            refine CJ.seq ?_
            refine CJ.seq (CJ.region ?_)
            refine OJ.pures oU 4 Z (OJ.nil (EJ.next ?_))
            refine CJ.cond Z (fun hb => ?_) (fun hb => ?_)
            · replace H := pif_t (of_decide_eq_true hb) H
              refine CJ.skip (EJ.next ?_)
              obtain ⟨j254, H, K254⟩ := pbind H
              refine CJ.cut (fun F w1 => ∃ (y28 : List (Arr 2 Int)) (A29 : Option Addr) (c30 : Nat), (some y28 : Option (List (Arr 2 Int))) = some j254 ∧ F = [(1, .slice Aa1 a1.length ca1), (2, .pointer (some ⟨b1, 0, none⟩)), (6, .slice A29 y28.length c30), (7, .int .i64 y11), (8, .pointer (some ⟨b20, 0, none⟩)), (9, .int .i64 y27)] ∧ St w no w1 [box b1 (cPasture.enc a0) 31, rowC (carr 2 (ci .i64)) A29 c30 101 y28, box b20 ((carr 10 (carr 10 cb)).enc t19) 97] [roC cGoat Aa1 ca1 a1]) ?_ ?_
              · skip
                refine CJ.block ?_
                refine CJ.seq (CJ.region ?_)
                refine OJ.pures oU 2 Z ?_
                obtain ⟨t31, ht31, H⟩ := pbind H
                obtain ⟨ad31, e31⟩ := (hS.rd' (i := 0) rfl).some' ht31
                refine OJ.st Z Z Z (SR.idxS oU oI Z Z Z Z e31 Z (getI_some ht31).1) ?_
                obtain ⟨t32, ht32, H⟩ := pbind H
                refine OJ.callF Z Z Z Z Z hb49 Z (spec_l02Cells.c k _ _ a0 (hS.cells (i := 0) Z) _ t31 ((hS.rd' (i := 0) Z).at_ e31 ht31) _ ht32) ?_
                rintro _ w1 ⟨A33, c34, rfl, hs⟩
                replace hS := hS.addN hs
                refine OJ.pures oU 1 Z (OJ.nil (EJ.next ?_))
                refine CJ.seq (CJ.region ?_)
                refine OJ.pures oU 1 Z (OJ.nil (EJ.next ?_))
                refine CJ.seq ?_
                refine CJ.seq (CJ.region ?_)
                refine OJ.pures oU 1 Z (OJ.nil (EJ.next ?_))
                obtain ⟨j256, H, K256⟩ := pbind H
                refine CJ.cut1 (fun F w1 => ∃ (y35 : Bool) , (some y35 : Option Bool) = some j256 ∧ F = [(1, .slice Aa1 a1.length ca1), (2, .pointer (some ⟨b1, 0, none⟩)), (6, .slice A25 y24.length c26), (7, .int .i64 y11), (8, .pointer (some ⟨b20, 0, none⟩)), (9, .int .i64 y27), (11, .bool y35)] ∧ St w no w1 [box b1 (cPasture.enc a0) 31, rowC (carr 2 (ci .i64)) A25 c26 101 y24, box b20 ((carr 10 (carr 10 cb)).enc t19) 97] [roC cGoat Aa1 ca1 a1]) ?_ ?_
                · skip
                  refine CJ.block ?_
                  refine CJ.loop (fun k F w1 => ∃ (y36 : Bool) (y37 : Int), F = [(1, .slice Aa1 a1.length ca1), (2, .pointer (some ⟨b1, 0, none⟩)), (6, .slice A25 y24.length c26), (7, .int .i64 y11), (8, .pointer (some ⟨b20, 0, none⟩)), (9, .int .i64 y27), (10, .slice A33 t32.length c34), (11, .bool y36), (12, .int .i64 y37)] ∧ St w no w1 [box b1 (cPasture.enc a0) 31, rowC (carr 2 (ci .i64)) A25 c26 101 y24, box b20 ((carr 10 (carr 10 cb)).enc t19) 97, rowC cSpot A33 c34 48 t32] [roC cGoat Aa1 ca1 a1] ∧ spec_CanMeet.l3 t19 t32 k y36 y37 = some j256) k (F' := [(1, .slice Aa1 a1.length ca1), (2, .pointer (some ⟨b1, 0, none⟩)), (6, .slice A25 y24.length c26), (7, .int .i64 y11), (8, .pointer (some ⟨b20, 0, none⟩)), (9, .int .i64 y27), (10, .slice A33 t32.length c34), (11, .bool false), (12, .int .i64 0)]) ⟨Z, Z, Z, Z, Z, Z, Z, Z, Z, trivial⟩ ⟨false, 0, Z, hS.pick [0, 1, 2, 3] [0] Z, H⟩ ?_
                  rintro k F w1 ⟨y36, y37, rfl, hS, H⟩
                  cases k with
                  | zero => rw [spec_CanMeet.l3] at H; cases H
                  | succ k =>
                    rw [spec_CanMeet.l3] at H
                    refine CJ.seq ?_
                    refine CJ.seq (CJ.region ?_)
                    refine OJ.pures oU 4 Z (OJ.nil (EJ.next ?_))
                    refine CJ.cond Z (fun hb => ?_) (fun hb => ?_)
                    · replace H := pif_t (of_decide_eq_true hb) H
                      refine CJ.skip (EJ.next ?_)
                      refine CJ.seq ?_
                      refine CJ.block ?_
                      refine CJ.draw [] [0, 1, 2, 3, 4, 5, 6, 7, 8, 9, 10, 11, 12, 13, 14, 15, 16] mixed (by kernel_rfl) hS fun w1 hS => ?_
                      refine DJ.pures oU 2 Z ?_
                      refine DJ.split (t := 48) Z (fun hb => ?_) (fun hb => ?_)
                      · replace H := pif_t hb H
                        refine DJ.pures oU 15 Z ?_
                        refine DJ.nil (EJ.blk (EJ.next ?_))
                        refine CJ.region ?_
                        refine OJ.pures oU 3 Z ?_
                        refine OJ.nil ?_
                        exact EJ.round k (F' := [(1, .slice Aa1 a1.length ca1), (2, .pointer (some ⟨b1, 0, none⟩)), (6, .slice A25 y24.length c26), (7, .int .i64 y11), (8, .pointer (some ⟨b20, 0, none⟩)), (9, .int .i64 y27), (10, .slice A33 t32.length c34), (11, .bool true), (12, .int .i64 (IntKind.i64.wrap (y37 + 1)))]) ⟨Z, Z, Z, Z, Z, Z, Z, Z, Z, trivial⟩ (Nat.lt_succ_self _) ⟨true, (IntKind.i64.wrap (y37 + 1)), Z, hS.pick [0, 1, 2, 3] [0] Z, H⟩
                      · replace H := pifb_f hb H
                        refine DJ.pures oU 2 Z ?_
                        obtain ⟨t38, ht38, H⟩ := pbind H
                        obtain ⟨ad38, e38⟩ := (hS.rd (i := 3) rfl).some' ht38
                        refine DJ.st Z Z Z Z Z (SR.idxS oU oI Z Z Z Z e38 Z (getI_some ht38).1) ?_
                        refine DJ.st Z Z Z Z Z (SR.fieldAddr oU oI Z Z Z Z Z Z) ?_
                        refine DJ.st Z Z Z Z Z (SR.load Z Z (fun w' hx => ld1 oU Z Z (CA.ext (CA.sub ((hS.rd (i := 3) Z).at_ e38 ht38) 1) hx) Z)) ?_
                        refine DJ.pures oU 2 Z ?_
                        obtain ⟨t39, ht39, H⟩ := pbind H
                        obtain ⟨ad39, e39⟩ := (hS.rd (i := 3) rfl).some' ht39
                        refine DJ.st Z Z Z Z Z (SR.idxS oU oI Z Z Z Z e39 Z (getI_some ht39).1) ?_
                        refine DJ.st Z Z Z Z Z (SR.fieldAddr oU oI Z Z Z Z Z Z) ?_
                        refine DJ.st Z Z Z Z Z (SR.load Z Z (fun w' hx => ld1 oU Z Z (CA.ext (CA.sub ((hS.rd (i := 3) Z).at_ e39 ht39) 0) hx) Z)) ?_
                        obtain ⟨t40, ht40, H⟩ := pbind H
                        refine DJ.st Z Z Z Z Z (SR.idxA oU oI Z Z Z Z Z (Arr.lt ht40)) ?_
                        obtain ⟨t41, ht41, H⟩ := pbind H
                        refine DJ.st Z Z Z Z Z (SR.idxA oU oI Z Z Z Z Z (Arr.lt ht41)) ?_
                        refine DJ.st Z Z Z Z Z (SR.load Z Z (fun w' hx => ld1 oU Z Z (CA.ext (CA.idx (CA.idx (hS.cells (i := 2) Z) ht40) ht41) hx) Z)) ?_
                        refine DJ.pures oU 2 Z ?_
                        refine DJ.nil (EJ.blk (EJ.next ?_))
                        refine CJ.region ?_
                        refine OJ.pures oU 3 Z ?_
                        refine OJ.nil ?_
                        exact EJ.round k (F' := [(1, .slice Aa1 a1.length ca1), (2, .pointer (some ⟨b1, 0, none⟩)), (6, .slice A25 y24.length c26), (7, .int .i64 y11), (8, .pointer (some ⟨b20, 0, none⟩)), (9, .int .i64 y27), (10, .slice A33 t32.length c34), (11, .bool t41), (12, .int .i64 (IntKind.i64.wrap (y37 + 1)))]) ⟨Z, Z, Z, Z, Z, Z, Z, Z, Z, trivial⟩ (Nat.lt_succ_self _) ⟨t41, (IntKind.i64.wrap (y37 + 1)), Z, hS.pick [0, 1, 2, 3] [0] Z, H⟩
                    · replace H := pif_f (of_decide_eq_false hb) H
                      refine CJ.exit (EJ.skE (EJ.skE (EJ.hit (?_))))
                      exact EJ.meet (F' := [(1, .slice Aa1 a1.length ca1), (2, .pointer (some ⟨b1, 0, none⟩)), (6, .slice A25 y24.length c26), (7, .int .i64 y11), (8, .pointer (some ⟨b20, 0, none⟩)), (9, .int .i64 y27), (11, .bool y36)]) ⟨Z, Z, Z, Z, Z, Z, Z, trivial⟩ ⟨y36, H, Z, hS.pick [0, 1, 2] [0] Z⟩
                · rintro F w1 ⟨y35, he, rfl, hS⟩
                  obtain rfl := Option.some.inj he
                  have H := K256
                  refine EJ.next ?_
                  refine CJ.seq (CJ.region ?_)
                  refine OJ.pures oU 1 Z (OJ.nil (EJ.next ?_))
                  refine CJ.cond Z (fun hb => ?_) (fun hb => ?_)
                  · replace H := pif_t hb H
                    refine CJ.region ?_
                    refine OJ.pures oU 3 Z ?_
                    refine OJ.st rfl rfl rfl (SR.buildA oU oI rfl rfl rfl rfl (zs := [.int .i64 0, .int .i64 0]) rfl rfl ((carr 2 (ci .i64)).enc (⟨[y11, y27], rfl⟩ : Arr 2 Int)) (by kernel_rfl)) ?_
                    refine OJ.ef Z Z Z (Ef.lit oU oI hS (C := (carr 2 (ci .i64))) Z Z Z Z Z Z ([(⟨[y11, y27], Z⟩ : Arr 2 Int)] : List (Arr 2 Int)) Z Z Z Z) ?_
                    rintro _ w1 ⟨A42, rfl, hS⟩
                    obtain ⟨u43, hu43, H⟩ := pbind H
                    refine OJ.ew Z Z Z (Ew.append oU oI (C := (carr 2 (ci .i64))) (xs := y24) (ys := ([(⟨[y11, y27], Z⟩ : Arr 2 Int)] : List (Arr 2 Int))) hS (i := 1) Z Z Z Z Z Z Z Z Z Z Z Z Z (hS.rd (i := 3) Z) (chk_some hu43)) ?_
                    rintro _ w1 ⟨A44, c45, rfl, hS⟩
                    refine OJ.pures oU 1 Z ?_
                    refine OJ.nil (EJ.blk (?_))
                    exact EJ.meet (F' := [(1, .slice Aa1 a1.length ca1), (2, .pointer (some ⟨b1, 0, none⟩)), (6, .slice A44 (y24 ++ ([(⟨[y11, y27], Z⟩ : Arr 2 Int)] : List (Arr 2 Int))).length c45), (7, .int .i64 y11), (8, .pointer (some ⟨b20, 0, none⟩)), (9, .int .i64 y27)]) ⟨Z, Z, Z, Z, Z, Z, trivial⟩ ⟨(y24 ++ ([(⟨[y11, y27], Z⟩ : Arr 2 Int)] : List (Arr 2 Int))), A44, c45, H, Z, hS.pick [0, 1, 2] [0] Z⟩
                  · replace H := pifb_f hb H
                    refine CJ.skip (EJ.blk (?_))
                    exact EJ.meet (F' := [(1, .slice Aa1 a1.length ca1), (2, .pointer (some ⟨b1, 0, none⟩)), (6, .slice A25 y24.length c26), (7, .int .i64 y11), (8, .pointer (some ⟨b20, 0, none⟩)), (9, .int .i64 y27)]) ⟨Z, Z, Z, Z, Z, Z, trivial⟩ ⟨y24, A25, c26, H, Z, hS.pick [0, 1, 2] [0] Z⟩
              · rintro F w1 ⟨y28, A29, c30, he, rfl, hS⟩
                obtain rfl := Option.some.inj he
                have H := K254
                refine CJ.region ?_
                refine OJ.pures oU 3 Z ?_
                refine OJ.nil ?_
                exact EJ.round k (F' := [(1, .slice Aa1 a1.length ca1), (2, .pointer (some ⟨b1, 0, none⟩)), (6, .slice A29 y28.length c30), (7, .int .i64 y11), (8, .pointer (some ⟨b20, 0, none⟩)), (9, .int .i64 (IntKind.i64.wrap (y27 + 1)))]) ⟨Z, Z, Z, Z, Z, Z, trivial⟩ (Nat.lt_succ_self _) ⟨y28, (IntKind.i64.wrap (y27 + 1)), A29, c30, Z, hS.pick [0, 1, 2] [0] Z, H⟩
            · replace H := pif_f (of_decide_eq_false hb) H
              refine CJ.exit (EJ.skE (EJ.skE (EJ.hit (?_))))
              exact EJ.meet (F' := [(1, .slice Aa1 a1.length ca1), (2, .pointer (some ⟨b1, 0, none⟩)), (6, .slice A25 y24.length c26), (7, .int .i64 y11)]) ⟨Z, Z, Z, Z, trivial⟩ ⟨y24, A25, c26, H, Z, hS.pick [0, 1] [0] Z⟩
        · rintro F w1 ⟨y21, A22, c23, he, rfl, hS⟩
          obtain rfl := Option.some.inj he
          have H := K247
          refine EJ.blk (?_)
          exact EJ.meet (F' := [(1, .slice Aa1 a1.length ca1), (2, .pointer (some ⟨b1, 0, none⟩)), (6, .slice A22 y21.length c23), (7, .int .i64 y11)]) ⟨Z, Z, Z, Z, trivial⟩ ⟨y21, A22, c23, H, Z, hS.pick [0, 1] [0] Z⟩
      · rintro F w1 ⟨y12, A13, c14, he, rfl, hS⟩
        obtain rfl := Option.some.inj he
        have H := K236
        refine CJ.region ?_
        refine OJ.pures oU 3 Z ?_
        refine OJ.nil ?_
        exact EJ.round k (F' := [(1, .slice Aa1 a1.length ca1), (2, .pointer (some ⟨b1, 0, none⟩)), (6, .slice A13 y12.length c14), (7, .int .i64 (IntKind.i64.wrap (y11 + 1)))]) ⟨Z, Z, Z, Z, trivial⟩ (Nat.lt_succ_self _) ⟨y12, (IntKind.i64.wrap (y11 + 1)), A13, c14, Z, hS.pick [0, 1] [0] Z, H⟩
    · replace H := pif_f (of_decide_eq_false hb) H
      refine CJ.exit (EJ.skE (EJ.skE (EJ.hit (?_))))
      exact EJ.meet (F' := [(6, .slice A9 y8.length c10)]) ⟨Z, trivial⟩ ⟨y8, A9, c10, H, Z, hS.pick [1] [0] Z⟩
 rintro F w1 ⟨y5, A6, c7, he, rfl, hS⟩
 obtain rfl := Option.some.inj he
 have H := K167
 refine EJ.next ?_
 refine CJ.seq (CJ.region ?_)
 refine OJ.pures oU 3 Z (OJ.nil (EJ.next ?_))
 refine CJ.ret (?_)
 obtain rfl := Option.some.inj H
 exact EJ.fin Z (.tmp Z (.tmp Z .nil)) ⟨A6, c7, Z, hS.pick [0] [] Z⟩

def impl_Pasture_grass.f (a0 : Pasture) (a1 : Spot) : Option Int := (getI a0.Grass.l a1.Y).bind fun t3 => (getI t3.l a1.X).bind fun t4 => some (IntKind.i64.wrap t4)
theorem impl_Pasture_grass.c (w : World) (a0 : Pasture) (a1 : Spot) (r : Int) (H : impl_Pasture_grass.f a0 a1 = some r) :
 CV Tryz.prog 53 [.agg (cPasture.enc a0).toArray, .agg (cSpot.enc a1).toArray].toArray w fun v w' => v = .int .i64 r ∧ Ext w w' := by
 have hS := (St.init w no)
 unfold impl_Pasture_grass.f at H
 refine CV.body Tryz.func53 Z Tryz.ntmps53 Z ?_
 refine CJ.seq (CJ.region ?_)
 refine OJ.ef Z Z Z (Ef.box hS Z Z (cPasture.enc a0) Z) ?_
 rintro _ w1 ⟨b1, rfl, hS⟩
 refine OJ.ef Z Z Z (Ef.box hS Z Z (cSpot.enc a1) Z) ?_
 rintro _ w1 ⟨b2, rfl, hS⟩
 refine OJ.pures oU 1 Z (OJ.nil (EJ.next ?_))
 refine CJ.seq ?_
 refine CJ.draw [] [0, 1, 2, 3, 4, 5, 6, 7, 8, 9] mixed (by kernel_rfl) hS fun w1 hS => ?_
 refine DJ.st Z Z Z Z Z (SR.fieldAddr oU oI Z Z Z Z Z Z) ?_
 refine DJ.st Z Z Z Z Z (SR.load Z Z (fun w' hx => ld1 oU Z Z (CA.ext (CA.sub (hS.cells (i := 1) Z) 1) hx) Z)) ?_
 refine DJ.st Z Z Z Z Z (SR.fieldAddr oU oI Z Z Z Z Z Z) ?_
 refine DJ.st Z Z Z Z Z (SR.load Z Z (fun w' hx => ld1 oU Z Z (CA.ext (CA.sub (hS.cells (i := 1) Z) 0) hx) Z)) ?_
 refine DJ.st Z Z Z Z Z (SR.fieldAddr oU oI Z Z Z Z Z Z) ?_
 obtain ⟨t3, ht3, H⟩ := pbind H
 refine DJ.st Z Z Z Z Z (SR.idxA oU oI Z Z Z Z Z (Arr.lt ht3)) ?_
 obtain ⟨t4, ht4, H⟩ := pbind H
 refine DJ.st Z Z Z Z Z (SR.idxA oU oI Z Z Z Z Z (Arr.lt ht4)) ?_
 refine DJ.st Z Z Z Z Z (SR.load Z Z (fun w' hx => ld1 oU Z Z (CA.ext (CA.idx (CA.idx (CA.fld (hS.cells (i := 0) Z) (mid_part (fe_Pasture_2 _) (fl_Pasture_2 _) ((carr 10 (carr 10 (ci .i16))).len _))) ht3) ht4) hx) Z)) ?_
 refine DJ.pures oU 2 Z ?_
 refine DJ.nil (EJ.next ?_)
 refine CJ.ret (?_)
 obtain rfl := Option.some.inj H
 exact EJ.fin Z (.tmp Z .nil) ⟨Z, hS.ext⟩

def impl_BareCells_1.f (a1 : Pasture) (a0 : Spot) : Option Bool := (impl_Pasture_grass.f a1 a0).bind fun t2 => some (decide (t2 = 0))
theorem impl_BareCells_1.c (w : World) (pa1 : Addr) (a1 : Pasture) (hp1 : CA w pa1 (cPasture.enc a1)) (a0 : Spot) (r : Bool) (H : impl_BareCells_1.f a1 a0 = some r) :
 CV Tryz.prog 52 [.agg (cSpot.enc a0).toArray, .pointer (some pa1)].toArray w fun v w' => v = .bool r ∧ Ext w w' := by
 have hS := ((St.init w no).paramP pa1 (cPasture.enc a1) hp1)
 unfold impl_BareCells_1.f at H
 refine CV.body Tryz.func52 Z Tryz.ntmps52 Z ?_
 refine CJ.seq (CJ.region ?_)
 refine OJ.ef Z Z Z (Ef.box hS Z Z (cSpot.enc a0) Z) ?_
 rintro _ w1 ⟨b1, rfl, hS⟩
 refine OJ.pures oU 1 Z (OJ.nil (EJ.next ?_))
 refine CJ.seq (CJ.region ?_)
 refine OJ.st Z Z Z (SR.load Z Z (fun w' hx => ldE oU oI Z Z Z (CA.ext (hS.ca (i := 0) Z) hx) Z)) ?_
 refine OJ.st Z Z Z (SR.load Z Z (fun w' hx => ldE oU oI Z Z Z (CA.ext (hS.cells (i := 0) Z) hx) Z)) ?_
 obtain ⟨t2, ht2, H⟩ := pbind H
 refine OJ.callF Z Z Z Z Z hb53 Z (impl_Pasture_grass.c _ a1 a0 _ ht2) ?_
 rintro _ w1 ⟨rfl, hs⟩
 replace hS := hS.grow hs
 refine OJ.pures oU 2 Z (OJ.nil (EJ.next ?_))
 refine CJ.ret (?_)
 obtain rfl := Option.some.inj H
 exact EJ.fin Z (.tmp Z .nil) ⟨Z, hS.ext⟩

def impl_BareCells.f (k : Nat) (a0 : Pasture) : Option (List Spot × Int) := (impl_ValidPasture.f k a0).bind fun t2 => if (!t2) = true then (some ([], 1)) else ((impl_Pasture_cells.f k a0 (impl_BareCells_1.f a0)).bind fun t3 => some (t3, 0))
theorem impl_BareCells.c (k : Nat) (w : World) (a0 : Pasture) (r : List Spot × Int) (H : impl_BareCells.f k a0 = some r) :
 CV Tryz.prog 11 [.agg (cPasture.enc a0).toArray].toArray w fun v w' => ∃ (A0 : Option Addr) (c0 : Nat), v = .tuple #[.slice A0 r.1.length c0, .int .i64 r.2] ∧ St w no w' [rowC cSpot A0 c0 48 r.1] [] := by
 have hS := (St.init w no)
 unfold impl_BareCells.f at H
 refine CV.body Tryz.func11 Z Tryz.ntmps11 Z ?_
 refine CJ.seq (CJ.region ?_)
 refine OJ.ef Z Z Z (Ef.box hS Z Z (cPasture.enc a0) Z) ?_
 rintro _ w1 ⟨b1, rfl, hS⟩
 refine OJ.pures oU 2 Z (OJ.nil (EJ.next ?_))
 refine CJ.seq ?_
 refine CJ.seq (CJ.region ?_)
 refine OJ.st Z Z Z (SR.load Z Z (fun w' hx => ldE oU oI Z Z Z (CA.ext (hS.cells (i := 0) Z) hx) Z)) ?_
 obtain ⟨t2, ht2, H⟩ := pbind H
 refine OJ.callF Z Z Z Z Z hb50 Z (impl_ValidPasture.c k _ a0 _ ht2) ?_
 rintro _ w1 ⟨rfl, hs⟩
 replace hS := hS.grow hs
 refine OJ.pures oU 1 Z (OJ.nil (EJ.next ?_))
 refine CJ.cond Z (fun hb => ?_) (fun hb => ?_)
 ·replace H := pif_t hb H
  refine CJ.seq (CJ.region ?_)
  refine OJ.pures oU 2 Z (OJ.nil (EJ.next ?_))
  refine CJ.ret (EJ.skR (?_))
  replace hS := hS.addNil cSpot 48 none
  obtain rfl := Option.some.inj H
  exact EJ.fin Z (.tmp Z (.tmp Z .nil)) ⟨none, 0, Z, hS.pick [1] [] Z⟩
 replace H := pifb_f hb H
 refine CJ.skip (EJ.next ?_)
 refine CJ.seq (CJ.region ?_)
 refine OJ.st Z Z Z (SR.load Z Z (fun w' hx => ldE oU oI Z Z Z (CA.ext (hS.cells (i := 0) Z) hx) Z)) ?_
 refine OJ.pures oU 1 Z ?_
 obtain ⟨t3, ht3, H⟩ := pbind H
 refine OJ.callF rfl rfl rfl rfl rfl hb51 rfl (impl_Pasture_cells.c k _ a0 52 #[] #[.pointer (some ⟨b1, 0, none⟩)] hb52 (impl_BareCells_1.f a0) (fun z0 r h w' hx => CV.cast (impl_BareCells_1.c w' ⟨b1, 0, none⟩ a0 (CA.ext (hS.cells (i := 0) rfl) hx)  z0 r h) (by simp)) _ ht3) ?_
 rintro _ w1 ⟨A4, c5, rfl, hs⟩
 replace hS := hS.addN hs
 refine OJ.pures oU 2 Z (OJ.nil (EJ.next ?_))
 refine CJ.ret (?_)
 obtain rfl := Option.some.inj H
 exact EJ.fin Z (.tmp Z (.tmp Z .nil)) ⟨A4, c5, Z, hS.pick [1] [] Z⟩

def spec_SameGoats.l1 (a0 : List Goat) (a1 : List Goat) : Nat → Int → Option (Bool ⊕ Unit)
  | 0, _ => none
  | k + 1, y1 => if y1 < (a0.length : Int) then ((getI a0 y1).bind fun t2 => (getI a1 y1).bind fun t3 => if t2 ≠ t3 then (some (Sum.inl false)) else (spec_SameGoats.l1 a0 a1 k (IntKind.i64.wrap (y1 + 1)))) else (some (Sum.inr ()))
def spec_SameGoats.f (k : Nat) (a0 : List Goat) (a1 : List Goat) : Option Bool := if (a0.length : Int) ≠ (a1.length : Int) then (some false) else ((spec_SameGoats.l1 a0 a1 k 0).bind fun s258 => match s258 with | .inl r => some r | .inr _ => some true)
theorem spec_SameGoats.c (k : Nat) (w : World) (Aa0 : Option Addr) (ca0 : Nat) (a0 : List Goat) (hr0 : Rd cGoat w Aa0 a0) (hc0 : a0.length ≤ ca0) (Aa1 : Option Addr) (ca1 : Nat) (a1 : List Goat) (hr1 : Rd cGoat w Aa1 a1) (hc1 : a1.length ≤ ca1) (r : Bool) (H : spec_SameGoats.f k a0 a1 = some r) :
 CV Tryz.prog 12 [.slice Aa0 a0.length ca0, .slice Aa1 a1.length ca1].toArray w fun v w' => v = .bool r ∧ Ext w w' := by
 have hS := (((St.init w no).param cGoat Aa0 ca0 a0 hr0 hc0).param cGoat Aa1 ca1 a1 hr1 hc1)
 unfold spec_SameGoats.f at H
 refine CV.body Tryz.func12 Z Tryz.ntmps12 Z ?_
 refine CJ.seq (CJ.region ?_)
 refine OJ.pures oU 1 Z (OJ.nil (EJ.next ?_))
 refine CJ.seq ?_
 refine CJ.seq (CJ.region ?_)
 refine OJ.pures oU 5 Z (OJ.nil (EJ.next ?_))
 refine CJ.cond Z (fun hb => ?_) (fun hb => ?_)
 ·replace H := pif_t (of_decide_eq_true hb) H
  refine CJ.seq (CJ.region ?_)
  refine OJ.pures oU 1 Z (OJ.nil (EJ.next ?_))
  refine CJ.ret (EJ.skR (?_))
  obtain rfl := Option.some.inj H
  exact EJ.fin Z (.tmp Z .nil) ⟨Z, hS.ext⟩
 replace H := pif_f (of_decide_eq_false hb) H
 refine CJ.skip (EJ.next ?_)
 refine CJ.seq ?_
 refine CJ.seq (CJ.region ?_)
 refine OJ.pures oU 1 Z (OJ.nil (EJ.next ?_))
 obtain ⟨j258, H, K258⟩ := pbind H
 refine CJ.cut1 (fun F w1 => (some (Sum.inr ()) : Option (Bool ⊕ Unit)) = some j258 ∧ F = [] ∧ St w no w1 [] [roC cGoat Aa0 ca0 a0, roC cGoat Aa1 ca1 a1]) ?_ ?_
 ·skip
  refine CJ.block ?_
  refine CJ.loop (fun k F w1 => ∃ (y1 : Int), F = [(0, .slice Aa0 a0.length ca0), (1, .slice Aa1 a1.length ca1), (5, .int .i64 y1)] ∧ St w no w1 [] [roC cGoat Aa0 ca0 a0, roC cGoat Aa1 ca1 a1] ∧ spec_SameGoats.l1 a0 a1 k y1 = some j258) k (F' := [(0, .slice Aa0 a0.length ca0), (1, .slice Aa1 a1.length ca1), (5, .int .i64 0)]) ⟨Z, Z, Z, trivial⟩ ⟨0, Z, hS.pick [] [0, 1] Z, H⟩ ?_
  rintro k F w1 ⟨y1, rfl, hS, H⟩
  cases k with
  | zero => rw [spec_SameGoats.l1] at H; cases H
  | succ k =>
    rw [spec_SameGoats.l1] at H
    refine CJ.seq ?_
    refine CJ.seq (CJ.region ?_)
    refine OJ.pures oU 4 Z (OJ.nil (EJ.next ?_))
    refine CJ.cond Z (fun hb => ?_) (fun hb => ?_)
    · replace H := pif_t (of_decide_eq_true hb) H
      refine CJ.skip (EJ.next ?_)
      refine CJ.seq ?_
      refine CJ.block ?_
      refine CJ.seq ?_
      refine CJ.draw [] [0, 1, 2, 3, 4, 5, 6, 7, 8] mixed (by kernel_rfl) hS fun w1 hS => ?_
      refine DJ.pures oU 2 Z ?_
      obtain ⟨t2, ht2, H⟩ := pbind H
      obtain ⟨ad2, e2⟩ := (hS.rd' (i := 0) rfl).some' ht2
      refine DJ.st Z Z Z Z Z (SR.idxS oU oI Z Z Z Z e2 Z (getI_some ht2).1) ?_
      refine DJ.st Z Z Z Z Z (SR.load Z Z (fun w' hx => ldE oU oI Z Z Z (CA.ext ((hS.rd' (i := 0) Z).at_ e2 ht2) hx) Z)) ?_
      refine DJ.pures oU 2 Z ?_
      obtain ⟨t3, ht3, H⟩ := pbind H
      obtain ⟨ad3, e3⟩ := (hS.rd' (i := 1) rfl).some' ht3
      refine DJ.st Z Z Z Z Z (SR.idxS oU oI Z Z Z Z e3 Z (getI_some ht3).1) ?_
      refine DJ.st Z Z Z Z Z (SR.load Z Z (fun w' hx => ldE oU oI Z Z Z (CA.ext ((hS.rd' (i := 1) Z).at_ e3 ht3) hx) Z)) ?_
      refine DJ.st Z Z Z Z Z (SR.neS eqT50 eqG50 Z Z Z (Z : _ = (cGoat.enc t2).toArray) (Z : _ = (cGoat.enc t3).toArray)) ?_
      refine DJ.nil (EJ.next ?_)
      refine CJ.cond Z (fun hb => ?_) (fun hb => ?_)
      · replace H := pif_t (of_decide_eq_true hb) H
        refine CJ.seq (CJ.region ?_)
        refine OJ.pures oU 1 Z (OJ.nil (EJ.next ?_))
        refine CJ.ret (EJ.bkR (EJ.skR (EJ.skR (EJ.bkR (EJ.skR (EJ.skR (?_)))))))
        first | (obtain rfl := Option.some.inj H; have H := K258) | (obtain ⟨q258, H2, e258⟩ := pbind H; obtain rfl := Option.some.inj e258; obtain rfl := Option.some.inj K258; have H := H2)
        obtain rfl := Option.some.inj H
        exact EJ.fin Z (.tmp Z .nil) ⟨Z, hS.ext⟩
      · replace H := pif_f (of_decide_eq_false hb) H
        refine CJ.skip (EJ.blk (EJ.next ?_))
        refine CJ.region ?_
        refine OJ.pures oU 3 Z ?_
        refine OJ.nil ?_
        exact EJ.round k (F' := [(0, .slice Aa0 a0.length ca0), (1, .slice Aa1 a1.length ca1), (5, .int .i64 (IntKind.i64.wrap (y1 + 1)))]) ⟨Z, Z, Z, trivial⟩ (Nat.lt_succ_self _) ⟨(IntKind.i64.wrap (y1 + 1)), Z, hS.pick [] [0, 1] Z, H⟩
    · replace H := pif_f (of_decide_eq_false hb) H
      refine CJ.exit (EJ.skE (EJ.skE (EJ.hit (?_))))
      exact EJ.meet (F' := []) trivial ⟨H, Z, hS.pick [] [0, 1] Z⟩
 rintro F w1 ⟨he, rfl, hS⟩
 obtain rfl := Option.some.inj he
 have H := K258
 refine EJ.next ?_
 refine CJ.seq (CJ.region ?_)
 refine OJ.pures oU 1 Z (OJ.nil (EJ.next ?_))
 refine CJ.ret (?_)
 obtain rfl := Option.some.inj H
 exact EJ.fin Z (.tmp Z .nil) ⟨Z, hS.ext⟩

def slices_Equal_impl_Goat_impl_Goat.l1 (a0 : List Goat) (a1 : List Goat) : Nat → Int → Option (Bool ⊕ Unit)
  | 0, _ => none
  | k + 1, y1 => if y1 < (a0.length : Int) then ((getI a0 y1).bind fun t2 => (getI a1 y1).bind fun t3 => if t2 ≠ t3 then (some (Sum.inl false)) else (slices_Equal_impl_Goat_impl_Goat.l1 a0 a1 k (IntKind.i64.wrap (y1 + 1)))) else (some (Sum.inr ()))
def slices_Equal_impl_Goat_impl_Goat.f (k : Nat) (a0 : List Goat) (a1 : List Goat) : Option Bool := if (a0.length : Int) ≠ (a1.length : Int) then (some false) else ((slices_Equal_impl_Goat_impl_Goat.l1 a0 a1 k 0).bind fun s259 => match s259 with | .inl r => some r | .inr _ => some true)
theorem slices_Equal_impl_Goat_impl_Goat.c (k : Nat) (w : World) (Aa0 : Option Addr) (ca0 : Nat) (a0 : List Goat) (hr0 : Rd cGoat w Aa0 a0) (hc0 : a0.length ≤ ca0) (Aa1 : Option Addr) (ca1 : Nat) (a1 : List Goat) (hr1 : Rd cGoat w Aa1 a1) (hc1 : a1.length ≤ ca1) (r : Bool) (H : slices_Equal_impl_Goat_impl_Goat.f k a0 a1 = some r) :
 CV Tryz.prog 54 [.slice Aa0 a0.length ca0, .slice Aa1 a1.length ca1].toArray w fun v w' => v = .bool r ∧ Ext w w' := by
 have hS := (((St.init w no).param cGoat Aa0 ca0 a0 hr0 hc0).param cGoat Aa1 ca1 a1 hr1 hc1)
 unfold slices_Equal_impl_Goat_impl_Goat.f at H
 refine CV.body Tryz.func54 Z Tryz.ntmps54 Z ?_
 refine CJ.seq (CJ.region ?_)
 refine OJ.pures oU 1 Z (OJ.nil (EJ.next ?_))
 refine CJ.seq ?_
 refine CJ.seq (CJ.region ?_)
 refine OJ.pures oU 5 Z (OJ.nil (EJ.next ?_))
 refine CJ.cond Z (fun hb => ?_) (fun hb => ?_)
 ·replace H := pif_t (of_decide_eq_true hb) H
  refine CJ.seq (CJ.region ?_)
  refine OJ.pures oU 1 Z (OJ.nil (EJ.next ?_))
  refine CJ.ret (EJ.skR (?_))
  obtain rfl := Option.some.inj H
  exact EJ.fin Z (.tmp Z .nil) ⟨Z, hS.ext⟩
 replace H := pif_f (of_decide_eq_false hb) H
 refine CJ.skip (EJ.next ?_)
 refine CJ.seq ?_
 refine CJ.seq (CJ.region ?_)
 refine OJ.pures oU 3 Z (OJ.nil (EJ.next ?_))
 obtain ⟨j259, H, K259⟩ := pbind H
 refine CJ.cut1 (fun F w1 => (some (Sum.inr ()) : Option (Bool ⊕ Unit)) = some j259 ∧ F = [] ∧ St w no w1 [] [roC cGoat Aa0 ca0 a0, roC cGoat Aa1 ca1 a1]) ?_ ?_
 ·skip
  refine CJ.block ?_
  refine CJ.loop (fun k F w1 => ∃ (y1 : Int), F = [(0, .slice Aa0 a0.length ca0), (1, .slice Aa1 a1.length ca1), (12, .int .i64 (a0.length : Int)), (13, .int .i64 y1)] ∧ St w no w1 [] [roC cGoat Aa0 ca0 a0, roC cGoat Aa1 ca1 a1] ∧ slices_Equal_impl_Goat_impl_Goat.l1 a0 a1 k y1 = some j259) k (F' := [(0, .slice Aa0 a0.length ca0), (1, .slice Aa1 a1.length ca1), (12, .int .i64 (a0.length : Int)), (13, .int .i64 0)]) ⟨Z, Z, Z, Z, trivial⟩ ⟨0, Z, hS.pick [] [0, 1] Z, H⟩ ?_
  rintro k F w1 ⟨y1, rfl, hS, H⟩
  cases k with
  | zero => rw [slices_Equal_impl_Goat_impl_Goat.l1] at H; cases H
  | succ k =>
    rw [slices_Equal_impl_Goat_impl_Goat.l1] at H
    refine CJ.seq (CJ.region ?_)
    refine OJ.pures oU 1 Z (OJ.nil (EJ.next ?_))
    refine CJ.seq ?_
    refine CJ.cond Z (fun hb => ?_) (fun hb => ?_)
    · replace H := pif_t (of_decide_eq_true hb) H
      refine CJ.skip (EJ.next ?_)
      refine CJ.seq ?_
      refine CJ.block ?_
      refine CJ.seq (CJ.region ?_)
      refine OJ.pures oU 2 Z (OJ.nil (EJ.next ?_))
      refine CJ.seq ?_
      refine CJ.draw [] [0, 1, 2, 3, 4, 5, 6, 7, 8] mixed (by kernel_rfl) hS fun w1 hS => ?_
      refine DJ.pures oU 2 Z ?_
      obtain ⟨t2, ht2, H⟩ := pbind H
      obtain ⟨ad2, e2⟩ := (hS.rd' (i := 0) rfl).some' ht2
      refine DJ.st Z Z Z Z Z (SR.idxS oU oI Z Z Z Z e2 Z (getI_some ht2).1) ?_
      refine DJ.st Z Z Z Z Z (SR.load Z Z (fun w' hx => ldE oU oI Z Z Z (CA.ext ((hS.rd' (i := 0) Z).at_ e2 ht2) hx) Z)) ?_
      refine DJ.pures oU 2 Z ?_
      obtain ⟨t3, ht3, H⟩ := pbind H
      obtain ⟨ad3, e3⟩ := (hS.rd' (i := 1) rfl).some' ht3
      refine DJ.st Z Z Z Z Z (SR.idxS oU oI Z Z Z Z e3 Z (getI_some ht3).1) ?_
      refine DJ.st Z Z Z Z Z (SR.load Z Z (fun w' hx => ldE oU oI Z Z Z (CA.ext ((hS.rd' (i := 1) Z).at_ e3 ht3) hx) Z)) ?_
      refine DJ.st Z Z Z Z Z (SR.neS eqT50 eqG50 Z Z Z (Z : _ = (cGoat.enc t2).toArray) (Z : _ = (cGoat.enc t3).toArray)) ?_
      refine DJ.nil (EJ.next ?_)
      refine CJ.cond Z (fun hb => ?_) (fun hb => ?_)
      · replace H := pif_t (of_decide_eq_true hb) H
        refine CJ.seq (CJ.region ?_)
        refine OJ.pures oU 1 Z (OJ.nil (EJ.next ?_))
        refine CJ.ret (EJ.bkR (EJ.skR (EJ.skR (EJ.bkR (EJ.skR (EJ.skR (?_)))))))
        first | (obtain rfl := Option.some.inj H; have H := K259) | (obtain ⟨q259, H2, e259⟩ := pbind H; obtain rfl := Option.some.inj e259; obtain rfl := Option.some.inj K259; have H := H2)
        obtain rfl := Option.some.inj H
        exact EJ.fin Z (.tmp Z .nil) ⟨Z, hS.ext⟩
      · replace H := pif_f (of_decide_eq_false hb) H
        refine CJ.skip (EJ.blk (EJ.next ?_))
        refine CJ.region ?_
        refine OJ.pures oU 2 Z ?_
        refine OJ.nil ?_
        exact EJ.round k (F' := [(0, .slice Aa0 a0.length ca0), (1, .slice Aa1 a1.length ca1), (12, .int .i64 (a0.length : Int)), (13, .int .i64 (IntKind.i64.wrap (y1 + 1)))]) ⟨Z, Z, Z, Z, trivial⟩ (Nat.lt_succ_self _) ⟨(IntKind.i64.wrap (y1 + 1)), Z, hS.pick [] [0, 1] Z, H⟩
    · replace H := pif_f (of_decide_eq_false hb) H
      refine CJ.exit (EJ.skE (EJ.skE (EJ.hit (?_))))
      exact EJ.meet (F' := []) trivial ⟨H, Z, hS.pick [] [0, 1] Z⟩
 rintro F w1 ⟨he, rfl, hS⟩
 obtain rfl := Option.some.inj he
 have H := K259
 refine EJ.next ?_
 refine CJ.seq (CJ.region ?_)
 refine OJ.pures oU 1 Z (OJ.nil (EJ.next ?_))
 refine CJ.ret (?_)
 obtain rfl := Option.some.inj H
 exact EJ.fin Z (.tmp Z .nil) ⟨Z, hS.ext⟩

def impl_SameGoats.f (k : Nat) (a0 : List Goat) (a1 : List Goat) : Option Bool := (slices_Equal_impl_Goat_impl_Goat.f k a0 a1).bind fun t1 => some t1
theorem impl_SameGoats.c (k : Nat) (w : World) (Aa0 : Option Addr) (ca0 : Nat) (a0 : List Goat) (hr0 : Rd cGoat w Aa0 a0) (hc0 : a0.length ≤ ca0) (Aa1 : Option Addr) (ca1 : Nat) (a1 : List Goat) (hr1 : Rd cGoat w Aa1 a1) (hc1 : a1.length ≤ ca1) (r : Bool) (H : impl_SameGoats.f k a0 a1 = some r) :
 CV Tryz.prog 13 [.slice Aa0 a0.length ca0, .slice Aa1 a1.length ca1].toArray w fun v w' => v = .bool r ∧ Ext w w' := by
 have hS := (((St.init w no).param cGoat Aa0 ca0 a0 hr0 hc0).param cGoat Aa1 ca1 a1 hr1 hc1)
 unfold impl_SameGoats.f at H
 refine CV.body Tryz.func13 Z Tryz.ntmps13 Z ?_
 refine CJ.seq (CJ.region ?_)
 refine OJ.pures oU 1 Z (OJ.nil (EJ.next ?_))
 refine CJ.seq (CJ.region ?_)
 refine OJ.pures oU 2 Z ?_
 obtain ⟨t1, ht1, H⟩ := pbind H
 refine OJ.callF Z Z Z Z Z hb54 Z (slices_Equal_impl_Goat_impl_Goat.c k _ Aa0 ca0 a0 (hS.rd' (i := 0) Z) (hS.le' (i := 0) Z) Aa1 ca1 a1 (hS.rd' (i := 1) Z) (hS.le' (i := 1) Z) _ ht1) ?_
 rintro _ w1 ⟨rfl, hs⟩
 replace hS := hS.grow hs
 refine OJ.pures oU 1 Z (OJ.nil (EJ.next ?_))
 refine CJ.ret (?_)
 obtain rfl := Option.some.inj H
 exact EJ.fin Z (.tmp Z .nil) ⟨Z, hS.ext⟩

def spec_A2SamePairs.l1 (a0 : List (Arr 2 Int)) (a1 : List (Arr 2 Int)) : Nat → Int → Option (Bool ⊕ Unit)
  | 0, _ => none
  | k + 1, y1 => if y1 < (a0.length : Int) then ((getI a0 y1).bind fun t2 => (getI a1 y1).bind fun t3 => if t2 ≠ t3 then (some (Sum.inl false)) else (spec_A2SamePairs.l1 a0 a1 k (IntKind.i64.wrap (y1 + 1)))) else (some (Sum.inr ()))
def spec_A2SamePairs.f (k : Nat) (a0 : List (Arr 2 Int)) (a1 : List (Arr 2 Int)) : Option Bool := if (a0.length : Int) ≠ (a1.length : Int) then (some false) else ((spec_A2SamePairs.l1 a0 a1 k 0).bind fun s260 => match s260 with | .inl r => some r | .inr _ => some true)
theorem spec_A2SamePairs.c (k : Nat) (w : World) (Aa0 : Option Addr) (ca0 : Nat) (a0 : List (Arr 2 Int)) (hr0 : Rd (carr 2 (ci .i64)) w Aa0 a0) (hc0 : a0.length ≤ ca0) (Aa1 : Option Addr) (ca1 : Nat) (a1 : List (Arr 2 Int)) (hr1 : Rd (carr 2 (ci .i64)) w Aa1 a1) (hc1 : a1.length ≤ ca1) (r : Bool) (H : spec_A2SamePairs.f k a0 a1 = some r) :
 CV Tryz.prog 15 [.slice Aa0 a0.length ca0, .slice Aa1 a1.length ca1].toArray w fun v w' => v = .bool r ∧ Ext w w' := by
 have hS := (((St.init w no).param (carr 2 (ci .i64)) Aa0 ca0 a0 hr0 hc0).param (carr 2 (ci .i64)) Aa1 ca1 a1 hr1 hc1)
 unfold spec_A2SamePairs.f at H
 refine CV.body Tryz.func15 Z Tryz.ntmps15 Z ?_
 refine CJ.seq (CJ.region ?_)
 refine OJ.pures oU 1 Z (OJ.nil (EJ.next ?_))
 refine CJ.seq ?_
 refine CJ.seq (CJ.region ?_)
 refine OJ.pures oU 5 Z (OJ.nil (EJ.next ?_))
 refine CJ.cond Z (fun hb => ?_) (fun hb => ?_)
 ·replace H := pif_t (of_decide_eq_true hb) H
  refine CJ.seq (CJ.region ?_)
  refine OJ.pures oU 1 Z (OJ.nil (EJ.next ?_))
  refine CJ.ret (EJ.skR (?_))
  obtain rfl := Option.some.inj H
  exact EJ.fin Z (.tmp Z .nil) ⟨Z, hS.ext⟩
 replace H := pif_f (of_decide_eq_false hb) H
 refine CJ.skip (EJ.next ?_)
 refine CJ.seq ?_
 refine CJ.seq (CJ.region ?_)
 refine OJ.pures oU 1 Z (OJ.nil (EJ.next ?_))
 obtain ⟨j260, H, K260⟩ := pbind H
 refine CJ.cut1 (fun F w1 => (some (Sum.inr ()) : Option (Bool ⊕ Unit)) = some j260 ∧ F = [] ∧ St w no w1 [] [roC (carr 2 (ci .i64)) Aa0 ca0 a0, roC (carr 2 (ci .i64)) Aa1 ca1 a1]) ?_ ?_
 ·skip
  refine CJ.block ?_
  refine CJ.loop (fun k F w1 => ∃ (y1 : Int), F = [(0, .slice Aa0 a0.length ca0), (1, .slice Aa1 a1.length ca1), (5, .int .i64 y1)] ∧ St w no w1 [] [roC (carr 2 (ci .i64)) Aa0 ca0 a0, roC (carr 2 (ci .i64)) Aa1 ca1 a1] ∧ spec_A2SamePairs.l1 a0 a1 k y1 = some j260) k (F' := [(0, .slice Aa0 a0.length ca0), (1, .slice Aa1 a1.length ca1), (5, .int .i64 0)]) ⟨Z, Z, Z, trivial⟩ ⟨0, Z, hS.pick [] [0, 1] Z, H⟩ ?_
  rintro k F w1 ⟨y1, rfl, hS, H⟩
  cases k with
  | zero => rw [spec_A2SamePairs.l1] at H; cases H
  | succ k =>
    rw [spec_A2SamePairs.l1] at H
    refine CJ.seq ?_
    refine CJ.seq (CJ.region ?_)
    refine OJ.pures oU 4 Z (OJ.nil (EJ.next ?_))
    refine CJ.cond Z (fun hb => ?_) (fun hb => ?_)
    · replace H := pif_t (of_decide_eq_true hb) H
      refine CJ.skip (EJ.next ?_)
      refine CJ.seq ?_
      refine CJ.block ?_
      refine CJ.seq ?_
      refine CJ.draw [] [0, 1, 2, 3, 4, 5, 6, 7, 8] mixed (by kernel_rfl) hS fun w1 hS => ?_
      refine DJ.pures oU 2 Z ?_
      obtain ⟨t2, ht2, H⟩ := pbind H
      obtain ⟨ad2, e2⟩ := (hS.rd' (i := 0) rfl).some' ht2
      refine DJ.st Z Z Z Z Z (SR.idxS oU oI Z Z Z Z e2 Z (getI_some ht2).1) ?_
      refine DJ.st Z Z Z Z Z (SR.load Z Z (fun w' hx => ldE oU oI Z Z Z (CA.ext ((hS.rd' (i := 0) Z).at_ e2 ht2) hx) Z)) ?_
      refine DJ.pures oU 2 Z ?_
      obtain ⟨t3, ht3, H⟩ := pbind H
      obtain ⟨ad3, e3⟩ := (hS.rd' (i := 1) rfl).some' ht3
      refine DJ.st Z Z Z Z Z (SR.idxS oU oI Z Z Z Z e3 Z (getI_some ht3).1) ?_
      refine DJ.st Z Z Z Z Z (SR.load Z Z (fun w' hx => ldE oU oI Z Z Z (CA.ext ((hS.rd' (i := 1) Z).at_ e3 ht3) hx) Z)) ?_
      refine DJ.st Z Z Z Z Z (SR.neS eqT101 eqG101 Z Z Z (Z : _ = ((carr 2 (ci .i64)).enc t2).toArray) (Z : _ = ((carr 2 (ci .i64)).enc t3).toArray)) ?_
      refine DJ.nil (EJ.next ?_)
      refine CJ.cond Z (fun hb => ?_) (fun hb => ?_)
      · replace H := pif_t (of_decide_eq_true hb) H
        refine CJ.seq (CJ.region ?_)
        refine OJ.pures oU 1 Z (OJ.nil (EJ.next ?_))
        refine CJ.ret (EJ.bkR (EJ.skR (EJ.skR (EJ.bkR (EJ.skR (EJ.skR (?_)))))))
        first | (obtain rfl := Option.some.inj H; have H := K260) | (obtain ⟨q260, H2, e260⟩ := pbind H; obtain rfl := Option.some.inj e260; obtain rfl := Option.some.inj K260; have H := H2)
        obtain rfl := Option.some.inj H
        exact EJ.fin Z (.tmp Z .nil) ⟨Z, hS.ext⟩
      · replace H := pif_f (of_decide_eq_false hb) H
        refine CJ.skip (EJ.blk (EJ.next ?_))
        refine CJ.region ?_
        refine OJ.pures oU 3 Z ?_
        refine OJ.nil ?_
        exact EJ.round k (F' := [(0, .slice Aa0 a0.length ca0), (1, .slice Aa1 a1.length ca1), (5, .int .i64 (IntKind.i64.wrap (y1 + 1)))]) ⟨Z, Z, Z, trivial⟩ (Nat.lt_succ_self _) ⟨(IntKind.i64.wrap (y1 + 1)), Z, hS.pick [] [0, 1] Z, H⟩
    · replace H := pif_f (of_decide_eq_false hb) H
      refine CJ.exit (EJ.skE (EJ.skE (EJ.hit (?_))))
      exact EJ.meet (F' := []) trivial ⟨H, Z, hS.pick [] [0, 1] Z⟩
 rintro F w1 ⟨he, rfl, hS⟩
 obtain rfl := Option.some.inj he
 have H := K260
 refine EJ.next ?_
 refine CJ.seq (CJ.region ?_)
 refine OJ.pures oU 1 Z (OJ.nil (EJ.next ?_))
 refine CJ.ret (?_)
 obtain rfl := Option.some.inj H
 exact EJ.fin Z (.tmp Z .nil) ⟨Z, hS.ext⟩

def impl_CellsFor.f (k : Nat) (a0 : Pasture) (a1 : Goat) : Option (List Spot × Int) := (impl_goatCode.f k a0 ([a1] : List Goat)).bind fun t4 => if t4 ≠ 0 then (some ([], t4)) else ((impl_Pasture_cellsFor.f k a0 a1).bind fun t5 => some (t5, 0))
theorem impl_CellsFor.c (k : Nat) (w : World) (a0 : Pasture) (a1 : Goat) (r : List Spot × Int) (H : impl_CellsFor.f k a0 a1 = some r) :
 CV Tryz.prog 16 [.agg (cPasture.enc a0).toArray, .agg (cGoat.enc a1).toArray].toArray w fun v w' => ∃ (A0 : Option Addr) (c0 : Nat), v = .tuple #[.slice A0 r.1.length c0, .int .i64 r.2] ∧ St w no w' [rowC cSpot A0 c0 48 r.1] [] := by
 have hS := (St.init w no)
 unfold impl_CellsFor.f at H
 refine CV.body Tryz.func16 Z Tryz.ntmps16 Z ?_
 refine CJ.seq (CJ.region ?_)
 refine OJ.ef Z Z Z (Ef.box hS Z Z (cPasture.enc a0) Z) ?_
 rintro _ w1 ⟨b1, rfl, hS⟩
 refine OJ.ef Z Z Z (Ef.box hS Z Z (cGoat.enc a1) Z) ?_
 rintro _ w1 ⟨b2, rfl, hS⟩
 refine OJ.pures oU 2 Z (OJ.nil (EJ.next ?_))
 refine CJ.seq ?_
 refine CJ.seq (CJ.region ?_)
 refine OJ.st Z Z Z (SR.load Z Z (fun w' hx => ldE oU oI Z Z Z (CA.ext (hS.cells (i := 0) Z) hx) Z)) ?_
 refine OJ.st Z Z Z (SR.load Z Z (fun w' hx => ldE oU oI Z Z Z (CA.ext (hS.cells (i := 1) Z) hx) Z)) ?_
 refine OJ.ef Z Z Z (Ef.lit oU oI hS (C := cGoat) Z Z Z Z Z Z ([a1] : List Goat) Z Z Z Z) ?_
 rintro _ w1 ⟨A3, rfl, hS⟩
 obtain ⟨t4, ht4, H⟩ := pbind H
 refine OJ.callF Z Z Z Z Z hb44 Z (impl_goatCode.c k _ a0 A3 (([a1] : List Goat).length) ([a1] : List Goat) (hS.rd (i := 2) Z) (hS.le (i := 2) Z) _ ht4) ?_
 rintro _ w1 ⟨rfl, hs⟩
 replace hS := hS.grow hs
 refine OJ.pures oU 1 Z (OJ.nil (EJ.next ?_))
 refine CJ.seq (CJ.region ?_)
 refine OJ.pures oU 2 Z (OJ.nil (EJ.next ?_))
 refine CJ.cond Z (fun hb => ?_) (fun hb => ?_)
 ·replace H := pif_t (of_decide_eq_true hb) H
  refine CJ.seq (CJ.region ?_)
  refine OJ.pures oU 3 Z (OJ.nil (EJ.next ?_))
  refine CJ.ret (EJ.skR (?_))
  replace hS := hS.addNil cSpot 48 none
  obtain rfl := Option.some.inj H
  exact EJ.fin Z (.tmp Z (.tmp Z .nil)) ⟨none, 0, Z, hS.pick [3] [] Z⟩
 replace H := pif_f (of_decide_eq_false hb) H
 refine CJ.skip (EJ.next ?_)
 refine CJ.seq (CJ.region ?_)
 refine OJ.st Z Z Z (SR.load Z Z (fun w' hx => ldE oU oI Z Z Z (CA.ext (hS.cells (i := 0) Z) hx) Z)) ?_
 refine OJ.st Z Z Z (SR.load Z Z (fun w' hx => ldE oU oI Z Z Z (CA.ext (hS.cells (i := 1) Z) hx) Z)) ?_
 obtain ⟨t5, ht5, H⟩ := pbind H
 refine OJ.callF Z Z Z Z Z hb45 Z (impl_Pasture_cellsFor.c k _ a0 a1 _ ht5) ?_
 rintro _ w1 ⟨A6, c7, rfl, hs⟩
 replace hS := hS.addN hs
 refine OJ.pures oU 2 Z (OJ.nil (EJ.next ?_))
 refine CJ.ret (?_)
 obtain rfl := Option.some.inj H
 exact EJ.fin Z (.tmp Z (.tmp Z .nil)) ⟨A6, c7, Z, hS.pick [3] [] Z⟩

def spec_l02One.f (k : Nat) (a0 : Pasture) (a1 : Goat) : Option Int := (spec_l01Ok.f k a0).bind fun t1 => if (!t1) = true then (some 1) else ((spec_l02Goat.f a0 a1).bind fun t2 => if (!t2) = true then (some 1) else (some 0))
theorem spec_l02One.c (k : Nat) (w : World) (pa0 : Addr) (a0 : Pasture) (hp0 : CA w pa0 (cPasture.enc a0)) (pa1 : Addr) (a1 : Goat) (hp1 : CA w pa1 (cGoat.enc a1)) (r : Int) (H : spec_l02One.f k a0 a1 = some r) :
 CV Tryz.prog 58 [.pointer (some pa0), .pointer (some pa1)].toArray w fun v w' => v = .int .i64 r ∧ Ext w w' := by
 have hS := (((St.init w no).paramP pa0 (cPasture.enc a0) hp0).paramP pa1 (cGoat.enc a1) hp1)
 unfold spec_l02One.f at H
 refine CV.body Tryz.func58 Z Tryz.ntmps58 Z ?_
 refine CJ.seq (CJ.region ?_)
 refine OJ.pures oU 1 Z (OJ.nil (EJ.next ?_))
 refine CJ.seq ?_
 refine CJ.seq (CJ.region ?_)
 refine OJ.pures oU 1 Z ?_
 obtain ⟨t1, ht1, H⟩ := pbind H
 refine OJ.callF Z Z Z Z Z hb96 Z (spec_l01Ok.c k _ _ a0 (hS.ca (i := 0) Z) _ ht1) ?_
 rintro _ w1 ⟨rfl, hs⟩
 replace hS := hS.grow hs
 refine OJ.pures oU 2 Z ?_
 refine OJ.split (t := 8) Z (fun hb => ?_) (fun hb => ?_)
 ·replace H := pif_t hb H
  refine OJ.pures oU 5 Z (OJ.nil (EJ.next ?_))
  refine CJ.condT Z ?_
  refine CJ.seq (CJ.region ?_)
  refine OJ.pures oU 1 Z (OJ.nil (EJ.next ?_))
  refine CJ.ret (EJ.skR (?_))
  obtain rfl := Option.some.inj H
  exact EJ.fin Z (.tmp Z .nil) ⟨Z, hS.ext⟩
 replace H := pifb_f hb H
 refine OJ.pures oU 2 Z ?_
 obtain ⟨t2, ht2, H⟩ := pbind H
 refine OJ.callF Z Z Z Z Z hb97 Z (spec_l02Goat.c _ _ a0 (hS.ca (i := 0) Z) _ a1 (hS.ca (i := 1) Z) _ ht2) ?_
 rintro _ w1 ⟨rfl, hs⟩
 replace hS := hS.grow hs
 refine OJ.pures oU 2 Z (OJ.nil (EJ.next ?_))
 refine CJ.cond Z (fun hb => ?_) (fun hb => ?_)
 ·replace H := pif_t hb H
  refine CJ.seq (CJ.region ?_)
  refine OJ.pures oU 1 Z (OJ.nil (EJ.next ?_))
  refine CJ.ret (EJ.skR (?_))
  obtain rfl := Option.some.inj H
  exact EJ.fin Z (.tmp Z .nil) ⟨Z, hS.ext⟩
 replace H := pifb_f hb H
 refine CJ.skip (EJ.next ?_)
 refine CJ.seq (CJ.region ?_)
 refine OJ.pures oU 1 Z (OJ.nil (EJ.next ?_))
 refine CJ.ret (?_)
 obtain rfl := Option.some.inj H
 exact EJ.fin Z (.tmp Z .nil) ⟨Z, hS.ext⟩

def spec_CellsFor.f (k : Nat) (a0 : Pasture) (a1 : Goat) : Option (List Spot × Int) := (spec_l02One.f k a0 a1).bind fun t3 => if t3 ≠ 0 then (some (([] : List Spot), t3)) else ((spec_l02Cells.f k a0 a1).bind fun t5 => some (t5, 0))
theorem spec_CellsFor.c (k : Nat) (w : World) (a0 : Pasture) (a1 : Goat) (r : List Spot × Int) (H : spec_CellsFor.f k a0 a1 = some r) :
 CV Tryz.prog 17 [.agg (cPasture.enc a0).toArray, .agg (cGoat.enc a1).toArray].toArray w fun v w' => ∃ (A0 : Option Addr) (c0 : Nat), v = .tuple #[.slice A0 r.1.length c0, .int .i64 r.2] ∧ St w no w' [rowC cSpot A0 c0 48 r.1] [] := by
 have hS := (St.init w no)
 unfold spec_CellsFor.f at H
 refine CV.body Tryz.func17 Z Tryz.ntmps17 Z ?_
 refine CJ.seq (CJ.region ?_)
 refine OJ.ef Z Z Z (Ef.box hS Z Z (cPasture.enc a0) Z) ?_
 rintro _ w1 ⟨b1, rfl, hS⟩
 refine OJ.ef Z Z Z (Ef.box hS Z Z (cGoat.enc a1) Z) ?_
 rintro _ w1 ⟨b2, rfl, hS⟩
 refine OJ.pures oU 2 Z (OJ.nil (EJ.next ?_))
 refine CJ.seq ?_
 refine CJ.seq (CJ.region ?_)
 obtain ⟨t3, ht3, H⟩ := pbind H
 refine OJ.callF Z Z Z Z Z hb58 Z (spec_l02One.c k _ _ a0 (hS.cells (i := 0) Z) _ a1 (hS.cells (i := 1) Z) _ ht3) ?_
 rintro _ w1 ⟨rfl, hs⟩
 replace hS := hS.grow hs
 refine OJ.pures oU 1 Z (OJ.nil (EJ.next ?_))
 refine CJ.seq (CJ.region ?_)
 refine OJ.pures oU 2 Z (OJ.nil (EJ.next ?_))
 refine CJ.cond Z (fun hb => ?_) (fun hb => ?_)
 ·replace H := pif_t (of_decide_eq_true hb) H
  refine CJ.seq (CJ.region ?_)
  refine OJ.ef Z Z Z (Ef.lit oU oI hS (C := cSpot) Z Z Z Z Z Z ([] : List Spot) Z Z Z Z) ?_
  rintro _ w1 ⟨A4, rfl, hS⟩
  refine OJ.pures oU 3 Z (OJ.nil (EJ.next ?_))
  refine CJ.ret (EJ.skR (?_))
  obtain rfl := Option.some.inj H
  exact EJ.fin Z (.tmp Z (.tmp Z .nil)) ⟨A4, (([] : List Spot).length), Z, hS.pick [2] [] Z⟩
 replace H := pif_f (of_decide_eq_false hb) H
 refine CJ.skip (EJ.next ?_)
 refine CJ.seq (CJ.region ?_)
 obtain ⟨t5, ht5, H⟩ := pbind H
 refine OJ.callF Z Z Z Z Z hb49 Z (spec_l02Cells.c k _ _ a0 (hS.cells (i := 0) Z) _ a1 (hS.cells (i := 1) Z) _ ht5) ?_
 rintro _ w1 ⟨A6, c7, rfl, hs⟩
 replace hS := hS.addN hs
 refine OJ.pures oU 2 Z (OJ.nil (EJ.next ?_))
 refine CJ.ret (?_)
 obtain rfl := Option.some.inj H
 exact EJ.fin Z (.tmp Z (.tmp Z .nil)) ⟨A6, c7, Z, hS.pick [2] [] Z⟩

def slices_ContainsFunc_impl_Spot_impl_Spot.f (k : Nat) (a0 : List Spot) (a1 : Spot → Option Bool) : Option Bool := (slices_IndexFunc_impl_Spot_impl_Spot.f k a0 a1).bind fun t1 => some (decide (0 ≤ t1))
theorem slices_ContainsFunc_impl_Spot_impl_Spot.c (k : Nat) (w : World) (Aa0 : Option Addr) (ca0 : Nat) (a0 : List Spot) (hr0 : Rd cSpot w Aa0 a0) (hc0 : a0.length ≤ ca0) (na1 : Nat) (fsa1 capa1 : Array Value) (hb1 : hasBody Tryz.prog na1) (a1 : Spot → Option Bool) (hf1 : ∀ (z0 : Spot) (r : Bool), a1 z0 = some r → ∀ w', Chg no w w' → CV Tryz.prog na1 (fsa1 ++ [.agg (cSpot.enc z0).toArray].toArray ++ capa1) w' fun v w'' => v = .bool r ∧ Ext w' w'') (r : Bool) (H : slices_ContainsFunc_impl_Spot_impl_Spot.f k a0 a1 = some r) :
 CV Tryz.prog 101 [.slice Aa0 a0.length ca0, .func (.func na1) fsa1 capa1].toArray w fun v w' => v = .bool r ∧ Ext w w' := by
 have hS := ((St.init w no).param cSpot Aa0 ca0 a0 hr0 hc0)
 unfold slices_ContainsFunc_impl_Spot_impl_Spot.f at H
 refine CV.body Tryz.func101 Z Tryz.ntmps101 Z ?_
 refine CJ.seq (CJ.region ?_)
 refine OJ.pures oU 1 Z (OJ.nil (EJ.next ?_))
 refine CJ.seq (CJ.region ?_)
 refine OJ.pures oU 2 Z ?_
 obtain ⟨t1, ht1, H⟩ := pbind H
 refine OJ.callF Z Z Z Z Z hb119 Z (slices_IndexFunc_impl_Spot_impl_Spot.c k _ Aa0 ca0 a0 (hS.rd' (i := 0) Z) (hS.le' (i := 0) Z) na1 fsa1 capa1 hb1 a1 (fun z0 r h w' hx => hf1 z0 r h w' (hS.chg.then hx (fun _ _ e => e.elim))) _ ht1) ?_
 rintro _ w1 ⟨rfl, hs⟩
 replace hS := hS.grow hs
 refine OJ.pures oU 2 Z (OJ.nil (EJ.next ?_))
 refine CJ.ret (?_)
 obtain rfl := Option.some.inj H
 exact EJ.fin Z (.tmp Z .nil) ⟨Z, hS.ext⟩

def impl_cellCode_1.f (a1 : Pasture) (a0 : Spot) : Option Bool := (impl_Pasture_isCell.f a1 a0).bind fun t2 => some (!t2)
theorem impl_cellCode_1.c (w : World) (pa1 : Addr) (a1 : Pasture) (hp1 : CA w pa1 (cPasture.enc a1)) (a0 : Spot) (r : Bool) (H : impl_cellCode_1.f a1 a0 = some r) :
 CV Tryz.prog 102 [.agg (cSpot.enc a0).toArray, .pointer (some pa1)].toArray w fun v w' => v = .bool r ∧ Ext w w' := by
 have hS := ((St.init w no).paramP pa1 (cPasture.enc a1) hp1)
 unfold impl_cellCode_1.f at H
 refine CV.body Tryz.func102 Z Tryz.ntmps102 Z ?_
 refine CJ.seq (CJ.region ?_)
 refine OJ.ef Z Z Z (Ef.box hS Z Z (cSpot.enc a0) Z) ?_
 rintro _ w1 ⟨b1, rfl, hS⟩
 refine OJ.pures oU 1 Z (OJ.nil (EJ.next ?_))
 refine CJ.seq (CJ.region ?_)
 refine OJ.st Z Z Z (SR.load Z Z (fun w' hx => ldE oU oI Z Z Z (CA.ext (hS.ca (i := 0) Z) hx) Z)) ?_
 refine OJ.st Z Z Z (SR.load Z Z (fun w' hx => ldE oU oI Z Z Z (CA.ext (hS.cells (i := 0) Z) hx) Z)) ?_
 obtain ⟨t2, ht2, H⟩ := pbind H
 refine OJ.callF Z Z Z Z Z hb56 Z (impl_Pasture_isCell.c _ a1 a0 _ ht2) ?_
 rintro _ w1 ⟨rfl, hs⟩
 replace hS := hS.grow hs
 refine OJ.pures oU 2 Z (OJ.nil (EJ.next ?_))
 refine CJ.ret (?_)
 obtain rfl := Option.some.inj H
 exact EJ.fin Z (.tmp Z .nil) ⟨Z, hS.ext⟩

def impl_cellCode.f (k : Nat) (a0 : Pasture) (a1 : List Spot) : Option Int := (impl_ValidPasture.f k a0).bind fun t2 => if (!t2) = true then (some 1) else ((slices_ContainsFunc_impl_Spot_impl_Spot.f k a1 (impl_cellCode_1.f a0)).bind fun t3 => (impl_unless.f (!t3) 2).bind fun t4 => some t4)
theorem impl_cellCode.c (k : Nat) (w : World) (a0 : Pasture) (Aa1 : Option Addr) (ca1 : Nat) (a1 : List Spot) (hr1 : Rd cSpot w Aa1 a1) (hc1 : a1.length ≤ ca1) (r : Int) (H : impl_cellCode.f k a0 a1 = some r) :
 CV Tryz.prog 59 [.agg (cPasture.enc a0).toArray, .slice Aa1 a1.length ca1].toArray w fun v w' => v = .int .i64 r ∧ Ext w w' := by
 have hS := ((St.init w no).param cSpot Aa1 ca1 a1 hr1 hc1)
 unfold impl_cellCode.f at H
 refine CV.body Tryz.func59 Z Tryz.ntmps59 Z ?_
 refine CJ.seq (CJ.region ?_)
 refine OJ.ef Z Z Z (Ef.box hS Z Z (cPasture.enc a0) Z) ?_
 rintro _ w1 ⟨b1, rfl, hS⟩
 refine OJ.pures oU 1 Z (OJ.nil (EJ.next ?_))
 refine CJ.seq ?_
 refine CJ.seq (CJ.region ?_)
 refine OJ.st Z Z Z (SR.load Z Z (fun w' hx => ldE oU oI Z Z Z (CA.ext (hS.cells (i := 0) Z) hx) Z)) ?_
 obtain ⟨t2, ht2, H⟩ := pbind H
 refine OJ.callF Z Z Z Z Z hb50 Z (impl_ValidPasture.c k _ a0 _ ht2) ?_
 rintro _ w1 ⟨rfl, hs⟩
 replace hS := hS.grow hs
 refine OJ.pures oU 1 Z (OJ.nil (EJ.next ?_))
 refine CJ.cond Z (fun hb => ?_) (fun hb => ?_)
 ·replace H := pif_t hb H
  refine CJ.seq (CJ.region ?_)
  refine OJ.pures oU 1 Z (OJ.nil (EJ.next ?_))
  refine CJ.ret (EJ.skR (?_))
  obtain rfl := Option.some.inj H
  exact EJ.fin Z (.tmp Z .nil) ⟨Z, hS.ext⟩
 replace H := pifb_f hb H
 refine CJ.skip (EJ.next ?_)
 refine CJ.seq (CJ.region ?_)
 refine OJ.pures oU 2 Z ?_
 obtain ⟨t3, ht3, H⟩ := pbind H
 refine OJ.callF rfl rfl rfl rfl rfl hb101 rfl (slices_ContainsFunc_impl_Spot_impl_Spot.c k _ Aa1 ca1 a1 (hS.rd' (i := 0) rfl) (hS.le' (i := 0) rfl) 102 #[] #[.pointer (some ⟨b1, 0, none⟩)] hb102 (impl_cellCode_1.f a0) (fun z0 r h w' hx => CV.cast (impl_cellCode_1.c w' ⟨b1, 0, none⟩ a0 (CA.ext (hS.cells (i := 0) rfl) hx)  z0 r h) (by simp)) _ ht3) ?_
 rintro _ w1 ⟨rfl, hs⟩
 replace hS := hS.grow hs
 refine OJ.pures oU 1 Z ?_
 obtain ⟨t4, ht4, H⟩ := pbind H
 refine OJ.callF Z Z Z Z Z hb73 Z (impl_unless.c _ (!t3) 2 _ ht4) ?_
 rintro _ w1 ⟨rfl, hs⟩
 replace hS := hS.grow hs
 refine OJ.pures oU 1 Z (OJ.nil (EJ.next ?_))
 refine CJ.ret (?_)
 obtain rfl := Option.some.inj H
 exact EJ.fin Z (.tmp Z .nil) ⟨Z, hS.ext⟩

def impl_YardOf.f (k : Nat) (a0 : Pasture) (a1 : Spot) : Option (List Spot × Int) := (impl_cellCode.f k a0 ([a1] : List Spot)).bind fun t4 => if t4 ≠ 0 then (some ([], t4)) else ((impl_Pasture_yard.f k a0 a1).bind fun t5 => some (t5, 0))
theorem impl_YardOf.c (k : Nat) (w : World) (a0 : Pasture) (a1 : Spot) (r : List Spot × Int) (H : impl_YardOf.f k a0 a1 = some r) :
 CV Tryz.prog 18 [.agg (cPasture.enc a0).toArray, .agg (cSpot.enc a1).toArray].toArray w fun v w' => ∃ (A0 : Option Addr) (c0 : Nat), v = .tuple #[.slice A0 r.1.length c0, .int .i64 r.2] ∧ St w no w' [rowC cSpot A0 c0 48 r.1] [] := by
 have hS := (St.init w no)
 unfold impl_YardOf.f at H
 refine CV.body Tryz.func18 Z Tryz.ntmps18 Z ?_
 refine CJ.seq (CJ.region ?_)
 refine OJ.ef Z Z Z (Ef.box hS Z Z (cPasture.enc a0) Z) ?_
 rintro _ w1 ⟨b1, rfl, hS⟩
 refine OJ.ef Z Z Z (Ef.box hS Z Z (cSpot.enc a1) Z) ?_
 rintro _ w1 ⟨b2, rfl, hS⟩
 refine OJ.pures oU 2 Z (OJ.nil (EJ.next ?_))
 refine CJ.seq ?_
 refine CJ.seq (CJ.region ?_)
 refine OJ.st Z Z Z (SR.load Z Z (fun w' hx => ldE oU oI Z Z Z (CA.ext (hS.cells (i := 0) Z) hx) Z)) ?_
 refine OJ.st Z Z Z (SR.load Z Z (fun w' hx => ldE oU oI Z Z Z (CA.ext (hS.cells (i := 1) Z) hx) Z)) ?_
 refine OJ.ef Z Z Z (Ef.lit oU oI hS (C := cSpot) Z Z Z Z Z Z ([a1] : List Spot) Z Z Z Z) ?_
 rintro _ w1 ⟨A3, rfl, hS⟩
 obtain ⟨t4, ht4, H⟩ := pbind H
 refine OJ.callF Z Z Z Z Z hb59 Z (impl_cellCode.c k _ a0 A3 (([a1] : List Spot).length) ([a1] : List Spot) (hS.rd (i := 2) Z) (hS.le (i := 2) Z) _ ht4) ?_
 rintro _ w1 ⟨rfl, hs⟩
 replace hS := hS.grow hs
 refine OJ.pures oU 1 Z (OJ.nil (EJ.next ?_))
 refine CJ.seq (CJ.region ?_)
 refine OJ.pures oU 2 Z (OJ.nil (EJ.next ?_))
 refine CJ.cond Z (fun hb => ?_) (fun hb => ?_)
 ·replace H := pif_t (of_decide_eq_true hb) H
  refine CJ.seq (CJ.region ?_)
  refine OJ.pures oU 3 Z (OJ.nil (EJ.next ?_))
  refine CJ.ret (EJ.skR (?_))
  replace hS := hS.addNil cSpot 48 none
  obtain rfl := Option.some.inj H
  exact EJ.fin Z (.tmp Z (.tmp Z .nil)) ⟨none, 0, Z, hS.pick [3] [] Z⟩
 replace H := pif_f (of_decide_eq_false hb) H
 refine CJ.skip (EJ.next ?_)
 refine CJ.seq (CJ.region ?_)
 refine OJ.st Z Z Z (SR.load Z Z (fun w' hx => ldE oU oI Z Z Z (CA.ext (hS.cells (i := 0) Z) hx) Z)) ?_
 refine OJ.st Z Z Z (SR.load Z Z (fun w' hx => ldE oU oI Z Z Z (CA.ext (hS.cells (i := 1) Z) hx) Z)) ?_
 obtain ⟨t5, ht5, H⟩ := pbind H
 refine OJ.callF Z Z Z Z Z hb60 Z (impl_Pasture_yard.c k _ a0 a1 _ ht5) ?_
 rintro _ w1 ⟨A6, c7, rfl, hs⟩
 replace hS := hS.addN hs
 refine OJ.pures oU 2 Z (OJ.nil (EJ.next ?_))
 refine CJ.ret (?_)
 obtain rfl := Option.some.inj H
 exact EJ.fin Z (.tmp Z (.tmp Z .nil)) ⟨A6, c7, Z, hS.pick [3] [] Z⟩

def spec_A2HasSpot.l1 (a0 : List Spot) (a1 : Spot) : Nat → Int → Option (Bool ⊕ Unit)
  | 0, _ => none
  | k + 1, y2 => if y2 < (a0.length : Int) then ((getI a0 y2).bind fun t3 => if t3 = a1 then (some (Sum.inl true)) else (spec_A2HasSpot.l1 a0 a1 k (IntKind.i64.wrap (y2 + 1)))) else (some (Sum.inr ()))
def spec_A2HasSpot.f (k : Nat) (a0 : List Spot) (a1 : Spot) : Option Bool := (spec_A2HasSpot.l1 a0 a1 k 0).bind fun s264 => match s264 with | .inl r => some r | .inr _ => some false
theorem spec_A2HasSpot.c (k : Nat) (w : World) (Aa0 : Option Addr) (ca0 : Nat) (a0 : List Spot) (hr0 : Rd cSpot w Aa0 a0) (hc0 : a0.length ≤ ca0) (a1 : Spot) (r : Bool) (H : spec_A2HasSpot.f k a0 a1 = some r) :
 CV Tryz.prog 19 [.slice Aa0 a0.length ca0, .agg (cSpot.enc a1).toArray].toArray w fun v w' => v = .bool r ∧ Ext w w' := by
 have hS := ((St.init w no).param cSpot Aa0 ca0 a0 hr0 hc0)
 unfold spec_A2HasSpot.f at H
 refine CV.body Tryz.func19 Z Tryz.ntmps19 Z ?_
 refine CJ.seq (CJ.region ?_)
 refine OJ.ef Z Z Z (Ef.box hS Z Z (cSpot.enc a1) Z) ?_
 rintro _ w1 ⟨b1, rfl, hS⟩
 refine OJ.pures oU 1 Z (OJ.nil (EJ.next ?_))
 refine CJ.seq ?_
 refine CJ.seq (CJ.region ?_)
 refine OJ.pures oU 1 Z (OJ.nil (EJ.next ?_))
 obtain ⟨j264, H, K264⟩ := pbind H
 refine CJ.cut1 (fun F w1 => (some (Sum.inr ()) : Option (Bool ⊕ Unit)) = some j264 ∧ F = [] ∧ St w no w1 [] [roC cSpot Aa0 ca0 a0]) ?_ ?_
 ·skip
  refine CJ.block ?_
  refine CJ.loop (fun k F w1 => ∃ (y2 : Int), F = [(0, .slice Aa0 a0.length ca0), (3, .pointer (some ⟨b1, 0, none⟩)), (5, .int .i64 y2)] ∧ St w no w1 [box b1 (cSpot.enc a1) 48] [roC cSpot Aa0 ca0 a0] ∧ spec_A2HasSpot.l1 a0 a1 k y2 = some j264) k (F' := [(0, .slice Aa0 a0.length ca0), (3, .pointer (some ⟨b1, 0, none⟩)), (5, .int .i64 0)]) ⟨Z, Z, Z, trivial⟩ ⟨0, Z, hS.pick [0] [0] Z, H⟩ ?_
  rintro k F w1 ⟨y2, rfl, hS, H⟩
  cases k with
  | zero => rw [spec_A2HasSpot.l1] at H; cases H
  | succ k =>
    rw [spec_A2HasSpot.l1] at H
    refine CJ.seq ?_
    refine CJ.seq (CJ.region ?_)
    refine OJ.pures oU 4 Z (OJ.nil (EJ.next ?_))
    refine CJ.cond Z (fun hb => ?_) (fun hb => ?_)
    · replace H := pif_t (of_decide_eq_true hb) H
      refine CJ.skip (EJ.next ?_)
      refine CJ.seq ?_
      refine CJ.block ?_
      refine CJ.seq ?_
      refine CJ.draw [] [0, 1, 2, 3, 4, 5] mixed (by kernel_rfl) hS fun w1 hS => ?_
      refine DJ.pures oU 2 Z ?_
      obtain ⟨t3, ht3, H⟩ := pbind H
      obtain ⟨ad3, e3⟩ := (hS.rd' (i := 0) rfl).some' ht3
      refine DJ.st Z Z Z Z Z (SR.idxS oU oI Z Z Z Z e3 Z (getI_some ht3).1) ?_
      refine DJ.st Z Z Z Z Z (SR.load Z Z (fun w' hx => ldE oU oI Z Z Z (CA.ext ((hS.rd' (i := 0) Z).at_ e3 ht3) hx) Z)) ?_
      refine DJ.st Z Z Z Z Z (SR.load Z Z (fun w' hx => ldE oU oI Z Z Z (CA.ext (hS.cells (i := 0) Z) hx) Z)) ?_
      refine DJ.st Z Z Z Z Z (SR.eqS eqT48 eqG48 Z Z Z (Z : _ = (cSpot.enc t3).toArray) (Z : _ = (cSpot.enc a1).toArray)) ?_
      refine DJ.nil (EJ.next ?_)
      refine CJ.cond Z (fun hb => ?_) (fun hb => ?_)
      · replace H := pif_t (of_decide_eq_true hb) H
        refine CJ.seq (CJ.region ?_)
        refine OJ.pures oU 1 Z (OJ.nil (EJ.next ?_))
        refine CJ.ret (EJ.bkR (EJ.skR (EJ.skR (EJ.bkR (EJ.skR (EJ.skR (?_)))))))
        first | (obtain rfl := Option.some.inj H; have H := K264) | (obtain ⟨q264, H2, e264⟩ := pbind H; obtain rfl := Option.some.inj e264; obtain rfl := Option.some.inj K264; have H := H2)
        obtain rfl := Option.some.inj H
        exact EJ.fin Z (.tmp Z .nil) ⟨Z, hS.ext⟩
      · replace H := pif_f (of_decide_eq_false hb) H
        refine CJ.skip (EJ.blk (EJ.next ?_))
        refine CJ.region ?_
        refine OJ.pures oU 3 Z ?_
        refine OJ.nil ?_
        exact EJ.round k (F' := [(0, .slice Aa0 a0.length ca0), (3, .pointer (some ⟨b1, 0, none⟩)), (5, .int .i64 (IntKind.i64.wrap (y2 + 1)))]) ⟨Z, Z, Z, trivial⟩ (Nat.lt_succ_self _) ⟨(IntKind.i64.wrap (y2 + 1)), Z, hS.pick [0] [0] Z, H⟩
    · replace H := pif_f (of_decide_eq_false hb) H
      refine CJ.exit (EJ.skE (EJ.skE (EJ.hit (?_))))
      exact EJ.meet (F' := []) trivial ⟨H, Z, hS.pick [] [0] Z⟩
 rintro F w1 ⟨he, rfl, hS⟩
 obtain rfl := Option.some.inj he
 have H := K264
 refine EJ.next ?_
 refine CJ.seq (CJ.region ?_)
 refine OJ.pures oU 1 Z (OJ.nil (EJ.next ?_))
 refine CJ.ret (?_)
 obtain rfl := Option.some.inj H
 exact EJ.fin Z (.tmp Z .nil) ⟨Z, hS.ext⟩

def impl_firstOf.l1 (a0 : List Int) : Nat → Int → Option (Int ⊕ Unit)
  | 0, _ => none
  | k + 1, y1 => if y1 < (a0.length : Int) then ((getI a0 y1).bind fun t2 => if t2 ≠ 0 then (some (Sum.inl t2)) else (impl_firstOf.l1 a0 k (IntKind.i64.wrap (y1 + 1)))) else (some (Sum.inr ()))
def impl_firstOf.f (k : Nat) (a0 : List Int) : Option Int := (impl_firstOf.l1 a0 k 0).bind fun s268 => match s268 with | .inl r => some r | .inr _ => some 0
theorem impl_firstOf.c (k : Nat) (w : World) (Aa0 : Option Addr) (ca0 : Nat) (a0 : List Int) (hr0 : Rd (ci .i64) w Aa0 a0) (hc0 : a0.length ≤ ca0) (r : Int) (H : impl_firstOf.f k a0 = some r) :
 CV Tryz.prog 61 [.slice Aa0 a0.length ca0].toArray w fun v w' => v = .int .i64 r ∧ Ext w w' := by
 have hS := ((St.init w no).param (ci .i64) Aa0 ca0 a0 hr0 hc0)
 unfold impl_firstOf.f at H
 refine CV.body Tryz.func61 Z Tryz.ntmps61 Z ?_
 refine CJ.seq (CJ.region ?_)
 refine OJ.pures oU 1 Z (OJ.nil (EJ.next ?_))
 refine CJ.seq ?_
 refine CJ.seq (CJ.region ?_)
 refine OJ.pures oU 3 Z (OJ.nil (EJ.next ?_))
 obtain ⟨j268, H, K268⟩ := pbind H
 refine CJ.cut1 (fun F w1 => (some (Sum.inr ()) : Option (Int ⊕ Unit)) = some j268 ∧ F = [] ∧ St w no w1 [] [roC (ci .i64) Aa0 ca0 a0]) ?_ ?_
 ·skip
  refine CJ.block ?_
  refine CJ.loop (fun k F w1 => ∃ (y1 : Int), F = [(5, .slice Aa0 a0.length ca0), (6, .int .i64 (a0.length : Int)), (7, .int .i64 y1)] ∧ St w no w1 [] [roC (ci .i64) Aa0 ca0 a0] ∧ impl_firstOf.l1 a0 k y1 = some j268) k (F' := [(5, .slice Aa0 a0.length ca0), (6, .int .i64 (a0.length : Int)), (7, .int .i64 0)]) ⟨Z, Z, Z, trivial⟩ ⟨0, Z, hS.pick [] [0] Z, H⟩ ?_
  rintro k F w1 ⟨y1, rfl, hS, H⟩
  cases k with
  | zero => rw [impl_firstOf.l1] at H; cases H
  | succ k =>
    rw [impl_firstOf.l1] at H
    refine CJ.seq (CJ.region ?_)
    refine OJ.pures oU 1 Z (OJ.nil (EJ.next ?_))
    refine CJ.seq ?_
    refine CJ.cond Z (fun hb => ?_) (fun hb => ?_)
    · replace H := pif_t (of_decide_eq_true hb) H
      refine CJ.skip (EJ.next ?_)
      refine CJ.seq ?_
      refine CJ.block ?_
      refine CJ.seq (CJ.region ?_)
      obtain ⟨t2, ht2, H⟩ := pbind H
      obtain ⟨ad2, e2⟩ := (hS.rd' (i := 0) rfl).some' ht2
      refine OJ.st Z Z Z (SR.idxS oU oI Z Z Z Z e2 Z (getI_some ht2).1) ?_
      refine OJ.st Z Z Z (SR.load Z Z (fun w' hx => ld1 oU Z Z (CA.ext ((hS.rd' (i := 0) Z).at_ e2 ht2) hx) Z)) ?_
      refine OJ.pures oU 1 Z (OJ.nil (EJ.next ?_))
      refine CJ.seq (CJ.region ?_)
      refine OJ.pures oU 2 Z (OJ.nil (EJ.next ?_))
      refine CJ.cond Z (fun hb => ?_) (fun hb => ?_)
      · replace H := pif_t (of_decide_eq_true hb) H
        refine CJ.seq (CJ.region ?_)
        refine OJ.pures oU 2 Z (OJ.nil (EJ.next ?_))
        refine CJ.ret (EJ.bkR (EJ.skR (EJ.skR (EJ.bkR (EJ.skR (EJ.skR (?_)))))))
        first | (obtain rfl := Option.some.inj H; have H := K268) | (obtain ⟨q268, H2, e268⟩ := pbind H; obtain rfl := Option.some.inj e268; obtain rfl := Option.some.inj K268; have H := H2)
        obtain rfl := Option.some.inj H
        exact EJ.fin Z (.tmp Z .nil) ⟨Z, hS.ext⟩
      · replace H := pif_f (of_decide_eq_false hb) H
        refine CJ.skip (EJ.blk (EJ.next ?_))
        refine CJ.region ?_
        refine OJ.pures oU 2 Z ?_
        refine OJ.nil ?_
        exact EJ.round k (F' := [(5, .slice Aa0 a0.length ca0), (6, .int .i64 (a0.length : Int)), (7, .int .i64 (IntKind.i64.wrap (y1 + 1)))]) ⟨Z, Z, Z, trivial⟩ (Nat.lt_succ_self _) ⟨(IntKind.i64.wrap (y1 + 1)), Z, hS.pick [] [0] Z, H⟩
    · replace H := pif_f (of_decide_eq_false hb) H
      refine CJ.exit (EJ.skE (EJ.skE (EJ.hit (?_))))
      exact EJ.meet (F' := []) trivial ⟨H, Z, hS.pick [] [0] Z⟩
 rintro F w1 ⟨he, rfl, hS⟩
 obtain rfl := Option.some.inj he
 have H := K268
 refine EJ.next ?_
 refine CJ.seq (CJ.region ?_)
 refine OJ.pures oU 1 Z (OJ.nil (EJ.next ?_))
 refine CJ.ret (?_)
 obtain rfl := Option.some.inj H
 exact EJ.fin Z (.tmp Z .nil) ⟨Z, hS.ext⟩

def impl_WhoEatsAt.l1 (a0 : Pasture) (a1 : List Goat) (a2 : Spot) : Nat → (List Int) → Int → Option (List Int)
  | 0, _, _ => none
  | k + 1, y16, y19 => if y19 < (a1.length : Int) then ((getI a1 y19).bind fun t20 => (impl_Pasture_cellsFor.f k a0 t20).bind fun t22 => (slices_Contains_impl_Spot_impl_Spot.f k t22 a2).bind fun t25 => if t25 = true then ((chk (y16.length + ([y19] : List Int).length ≤ 4294967296)).bind fun u27 => impl_WhoEatsAt.l1 a0 a1 a2 k (y16 ++ ([y19] : List Int)) (IntKind.i64.wrap (y19 + 1))) else (impl_WhoEatsAt.l1 a0 a1 a2 k y16 (IntKind.i64.wrap (y19 + 1)))) else (some y16)
def impl_WhoEatsAt.f (k : Nat) (a0 : Pasture) (a1 : List Goat) (a2 : Spot) : Option (List Int × Int) := (impl_goatCode.f k a0 a1).bind fun t3 => (impl_cellCode.f k a0 ([a2] : List Spot)).bind fun t5 => (impl_firstOf.f k ([t3, t5] : List Int)).bind fun t7 => if t7 ≠ 0 then (some ([], t7)) else ((impl_WhoEatsAt.l1 a0 a1 a2 k ([] : List Int) 0).bind fun y13 => some (y13, 0))
theorem impl_WhoEatsAt.c (k : Nat) (w : World) (a0 : Pasture) (Aa1 : Option Addr) (ca1 : Nat) (a1 : List Goat) (hr1 : Rd cGoat w Aa1 a1) (hc1 : a1.length ≤ ca1) (a2 : Spot) (r : List Int × Int) (H : impl_WhoEatsAt.f k a0 a1 a2 = some r) :
 CV Tryz.prog 20 [.agg (cPasture.enc a0).toArray, .slice Aa1 a1.length ca1, .agg (cSpot.enc a2).toArray].toArray w fun v w' => ∃ (A0 : Option Addr) (c0 : Nat), v = .tuple #[.slice A0 r.1.length c0, .int .i64 r.2] ∧ St w no w' [rowC (ci .i64) A0 c0 2 r.1] [] := by
 have hS := ((St.init w no).param cGoat Aa1 ca1 a1 hr1 hc1)
 unfold impl_WhoEatsAt.f at H
 refine CV.body Tryz.func20 Z Tryz.ntmps20 Z ?_
 refine CJ.seq (CJ.region ?_)
 refine OJ.ef Z Z Z (Ef.box hS Z Z (cPasture.enc a0) Z) ?_
 rintro _ w1 ⟨b1, rfl, hS⟩
 refine OJ.ef Z Z Z (Ef.box hS Z Z (cSpot.enc a2) Z) ?_
 rintro _ w1 ⟨b2, rfl, hS⟩
 refine OJ.pures oU 2 Z (OJ.nil (EJ.next ?_))
 refine CJ.seq ?_
 refine CJ.seq ?_
 obtain ⟨t3, ht3, H⟩ := pbind H
 obtain ⟨t5, ht5, H⟩ := pbind H
 obtain ⟨t7, ht7, H⟩ := pbind H
 refine CJ.cut1 (fun F w1 => ∃ (A4 : Option Addr) (A6 : Option Addr), F = [(1, .slice Aa1 a1.length ca1), (3, .pointer (some ⟨b1, 0, none⟩)), (5, .pointer (some ⟨b2, 0, none⟩)), (6, .slice none 0 0), (7, .int .i64 0), (8, .int .i64 t7)] ∧ St w no w1 [box b1 (cPasture.enc a0) 31, box b2 (cSpot.enc a2) 48, rowC cSpot A4 (([a2] : List Spot).length) 48 ([a2] : List Spot), rowC (ci .i64) A6 (([t3, t5] : List Int).length) 2 ([t3, t5] : List Int)] [roC cGoat Aa1 ca1 a1]) ?_ ?_
 ·skip
  refine CJ.drawT [] [2, 5, 6, 7, 8] (.one 0 (.one 1 (.one 3 (.one 4 (.br (.alt 2 (.one 5 (.one 6 (.one 7 (.one 8 (.one 9 (.fin)))))) (.alt 5 (.one 2 (.one 6 (.one 7 (.one 8 (.one 9 (.fin)))))) (.stop)))))))) mixed (by kernel_rfl) hS [0, 1] fun w1 hS hY hV => ?_
  refine TJ.st hY Z Z Z Z Z (fun w2 hY => SR.load Z Z (fun w' hx => ldE oU oI Z Z Z (CA.ext ((hV w2 hY).cellsR (i := 1) Z) hx) Z)) ?_
  refine TJ.pures oU 1 Z ?_
  refine TJ.st hY Z Z Z Z Z (fun w2 hY => SR.load Z Z (fun w' hx => ldE oU oI Z Z Z (CA.ext ((hV w2 hY).cellsR (i := 1) Z) hx) Z)) ?_
  refine TJ.st hY Z Z Z Z Z (fun w2 hY => SR.load Z Z (fun w' hx => ldE oU oI Z Z Z (CA.ext ((hV w2 hY).cellsR (i := 2) Z) hx) Z)) ?_
  refine TJ.br ?_
  refine TJ.alt ?_ ?_
  ·skip
   refine TJ.callF hY rfl rfl rfl rfl rfl rfl rfl hb44 rfl (impl_goatCode.c k _ a0 Aa1 ca1 a1 (hS.rd' (i := 0) rfl) (hS.le' (i := 0) rfl) _ ht3) (by rintro v w' ⟨rfl, hs⟩; exact hs) ?_
   rintro _ w1 hY ⟨rfl, hs⟩
   replace hS := hS.grow hs
   refine TJ.ef hY Z Z Z Z Z (Ef.lit oU oI hS (C := cSpot) Z Z Z Z Z Z ([a2] : List Spot) Z Z Z Z) ?_
   rintro _ w1 hY ⟨A8, rfl, hS⟩
   refine TJ.callF hY rfl rfl rfl rfl rfl rfl rfl hb59 rfl (impl_cellCode.c k _ a0 A8 (([a2] : List Spot).length) ([a2] : List Spot) (hS.rd (i := 2) rfl) (hS.le (i := 2) rfl) _ ht5) (by rintro v w' ⟨rfl, hs⟩; exact hs) ?_
   rintro _ w1 hY ⟨rfl, hs⟩
   replace hS := hS.grow hs
   refine TJ.ef hY Z Z Z Z Z (Ef.lit oU oI hS (C := (ci .i64)) Z Z Z Z Z Z ([t3, t5] : List Int) Z Z Z Z) ?_
   rintro _ w1 hY ⟨A9, rfl, hS⟩
   refine TJ.callF hY rfl rfl rfl rfl rfl rfl rfl hb61 rfl (impl_firstOf.c k _ A9 (([t3, t5] : List Int).length) ([t3, t5] : List Int) (hS.rd (i := 3) rfl) (hS.le (i := 3) rfl) _ ht7) (by rintro v w' ⟨rfl, hs⟩; exact hs) ?_
   rintro _ w1 hY ⟨rfl, hs⟩
   replace hS := hS.grow hs
   refine TJ.pures oU 1 Z ?_
   refine TJ.nil ?_
   exact EJ.meet (F' := [(1, .slice Aa1 a1.length ca1), (3, .pointer (some ⟨b1, 0, none⟩)), (5, .pointer (some ⟨b2, 0, none⟩)), (6, .slice none 0 0), (7, .int .i64 0), (8, .int .i64 t7)]) ⟨Z, Z, Z, Z, Z, Z, trivial⟩ ⟨A8, A9, Z, hS.pick [0, 1, 2, 3] [0] Z⟩
  refine TJ.alt ?_ ?_
  ·skip
   refine TJ.ef hY Z Z Z Z Z (Ef.lit oU oI hS (C := cSpot) Z Z Z Z Z Z ([a2] : List Spot) Z Z Z Z) ?_
   rintro _ w1 hY ⟨A10, rfl, hS⟩
   refine TJ.callF hY rfl rfl rfl rfl rfl rfl rfl hb44 rfl (impl_goatCode.c k _ a0 Aa1 ca1 a1 (hS.rd' (i := 0) rfl) (hS.le' (i := 0) rfl) _ ht3) (by rintro v w' ⟨rfl, hs⟩; exact hs) ?_
   rintro _ w1 hY ⟨rfl, hs⟩
   replace hS := hS.grow hs
   refine TJ.callF hY rfl rfl rfl rfl rfl rfl rfl hb59 rfl (impl_cellCode.c k _ a0 A10 (([a2] : List Spot).length) ([a2] : List Spot) (hS.rd (i := 2) rfl) (hS.le (i := 2) rfl) _ ht5) (by rintro v w' ⟨rfl, hs⟩; exact hs) ?_
   rintro _ w1 hY ⟨rfl, hs⟩
   replace hS := hS.grow hs
   refine TJ.ef hY Z Z Z Z Z (Ef.lit oU oI hS (C := (ci .i64)) Z Z Z Z Z Z ([t3, t5] : List Int) Z Z Z Z) ?_
   rintro _ w1 hY ⟨A11, rfl, hS⟩
   refine TJ.callF hY rfl rfl rfl rfl rfl rfl rfl hb61 rfl (impl_firstOf.c k _ A11 (([t3, t5] : List Int).length) ([t3, t5] : List Int) (hS.rd (i := 3) rfl) (hS.le (i := 3) rfl) _ ht7) (by rintro v w' ⟨rfl, hs⟩; exact hs) ?_
   rintro _ w1 hY ⟨rfl, hs⟩
   replace hS := hS.grow hs
   refine TJ.pures oU 1 Z ?_
   refine TJ.nil ?_
   exact EJ.meet (F' := [(1, .slice Aa1 a1.length ca1), (3, .pointer (some ⟨b1, 0, none⟩)), (5, .pointer (some ⟨b2, 0, none⟩)), (6, .slice none 0 0), (7, .int .i64 0), (8, .int .i64 t7)]) ⟨Z, Z, Z, Z, Z, Z, trivial⟩ ⟨A10, A11, Z, hS.pick [0, 1, 2, 3] [0] Z⟩
  exact TJ.stop
 rintro F w1 ⟨A4, A6, rfl, hS⟩
 refine EJ.next ?_
 refine CJ.seq (CJ.region ?_)
 refine OJ.pures oU 2 Z (OJ.nil (EJ.next ?_))
 refine CJ.cond Z (fun hb => ?_) (fun hb => ?_)
 ·replace H := pif_t (of_decide_eq_true hb) H
  refine CJ.seq (CJ.region ?_)
  refine OJ.pures oU 3 Z (OJ.nil (EJ.next ?_))
  refine CJ.ret (EJ.skR (?_))
  replace hS := hS.addNil (ci .i64) 2 none
  obtain rfl := Option.some.inj H
  exact EJ.fin Z (.tmp Z (.tmp Z .nil)) ⟨none, 0, Z, hS.pick [4] [] Z⟩
 replace H := pif_f (of_decide_eq_false hb) H
 refine CJ.skip (EJ.next ?_)
 refine CJ.seq (CJ.region ?_)
 refine OJ.ef Z Z Z (Ef.lit oU oI hS (C := (ci .i64)) Z Z Z Z Z Z ([] : List Int) Z Z Z Z) ?_
 rintro _ w1 ⟨A12, rfl, hS⟩
 refine OJ.pures oU 1 Z (OJ.nil (EJ.next ?_))
 refine CJ.seq ?_
 refine CJ.seq (CJ.region ?_)
 refine OJ.pures oU 3 Z (OJ.nil (EJ.next ?_))
 obtain ⟨j269, H, K269⟩ := pbind H
 refine CJ.cut1 (fun F w1 => ∃ (y13 : List Int) (A14 : Option Addr) (c15 : Nat), (some y13 : Option (List Int)) = some j269 ∧ F = [(9, .slice A14 y13.length c15)] ∧ St w no w1 [rowC (ci .i64) A14 c15 2 y13] [roC cGoat Aa1 ca1 a1]) ?_ ?_
 ·skip
  refine CJ.block ?_
  refine CJ.loop (fun k F w1 => ∃ (y16 : List Int) (y19 : Int) (A17 : Option Addr) (c18 : Nat), F = [(3, .pointer (some ⟨b1, 0, none⟩)), (5, .pointer (some ⟨b2, 0, none⟩)), (9, .slice A17 y16.length c18), (25, .slice Aa1 a1.length ca1), (26, .int .i64 (a1.length : Int)), (27, .int .i64 y19)] ∧ St w no w1 [box b1 (cPasture.enc a0) 31, box b2 (cSpot.enc a2) 48, rowC (ci .i64) A17 c18 2 y16] [roC cGoat Aa1 ca1 a1] ∧ impl_WhoEatsAt.l1 a0 a1 a2 k y16 y19 = some j269) k (F' := [(3, .pointer (some ⟨b1, 0, none⟩)), (5, .pointer (some ⟨b2, 0, none⟩)), (9, .slice A12 ([] : List Int).length (([] : List Int).length)), (25, .slice Aa1 a1.length ca1), (26, .int .i64 (a1.length : Int)), (27, .int .i64 0)]) ⟨Z, Z, Z, Z, Z, Z, trivial⟩ ⟨([] : List Int), 0, A12, (([] : List Int).length), Z, hS.pick [0, 1, 4] [0] Z, H⟩ ?_
  rintro k F w1 ⟨y16, y19, A17, c18, rfl, hS, H⟩
  cases k with
  | zero => rw [impl_WhoEatsAt.l1] at H; cases H
  | succ k =>
    rw [impl_WhoEatsAt.l1] at H
    refine CJ.seq (CJ.region ?_)
    refine OJ.pures oU 1 Z (OJ.nil (EJ.next ?_))
    refine CJ.seq ?_
    refine CJ.cond Z (fun hb => ?_) (fun hb => ?_)
    · replace H := pif_t (of_decide_eq_true hb) H
      refine CJ.skip (EJ.next ?_)
      refine CJ.seq ?_
      refine CJ.block ?_
      refine CJ.seq (CJ.region ?_)
      refine OJ.pures oU 1 Z ?_
      obtain ⟨t20, ht20, H⟩ := pbind H
      obtain ⟨ad20, e20⟩ := (hS.rd' (i := 0) rfl).some' ht20
      refine OJ.st Z Z Z (SR.idxS oU oI Z Z Z Z e20 Z (getI_some ht20).1) ?_
      refine OJ.st Z Z Z (SR.load Z Z (fun w' hx => ldE oU oI Z Z Z (CA.ext ((hS.rd' (i := 0) Z).at_ e20 ht20) hx) Z)) ?_
      refine OJ.ef Z Z Z (Ef.alloc hS oI Z Z (cGoat.enc (⟨(⟨0, 0⟩ : Spot), (⟨0, 0⟩ : Spot), 0, 0, 0⟩ : Goat)) Z) ?_
      rintro _ w1 ⟨b21, rfl, hS⟩
      refine OJ.pures oU 1 Z ?_
      refine OJ.es Z Z (Es.store oI hS (i := 3) Z Z Z Z Z Z (vs := cGoat.enc t20) Z (cGoat.len _) (cGoat.one _) (Nat.le_of_ble_eq_true Z) (cGoat.enc t20) Z) ?_
      intro w1 hS
      refine OJ.nil (EJ.next ?_)
      refine CJ.seq ?_
      refine CJ.draw [] [0, 1, 3, 2, 4] mixed (by kernel_rfl) hS fun w1 hS => ?_
      refine DJ.st Z Z Z Z Z (SR.load Z Z (fun w' hx => ldE oU oI Z Z Z (CA.ext (hS.cells (i := 0) Z) hx) Z)) ?_
      refine DJ.st Z Z Z Z Z (SR.load Z Z (fun w' hx => ldE oU oI Z Z Z (CA.ext (hS.cells (i := 3) Z) hx) Z)) ?_
      refine DJ.st Z Z Z Z Z (SR.load Z Z (fun w' hx => ldE oU oI Z Z Z (CA.ext (hS.cells (i := 1) Z) hx) Z)) ?_
      obtain ⟨t22, ht22, H⟩ := pbind H
      refine DJ.callF rfl rfl rfl rfl rfl rfl rfl hb45 rfl (impl_Pasture_cellsFor.c k _ a0 t20 _ ht22) (by rintro v w' ⟨A23, c24, rfl, hs⟩; exact hs.ext) ?_
      rintro _ w1 ⟨A23, c24, rfl, hs⟩
      replace hS := hS.addN hs
      obtain ⟨t25, ht25, H⟩ := pbind H
      refine DJ.callF rfl rfl rfl rfl rfl rfl rfl hb62 rfl (slices_Contains_impl_Spot_impl_Spot.c k _ A23 c24 t22 (hS.rd (i := 4) rfl) (hS.le (i := 4) rfl) a2 _ ht25) (by rintro v w' ⟨rfl, hs⟩; exact hs) ?_
      rintro _ w1 ⟨rfl, hs⟩
      replace hS := hS.grow hs
      refine DJ.nil (EJ.next ?_)
      refine CJ.cond Z (fun hb => ?_) (fun hb => ?_)
      · replace H := pif_t hb H
        refine CJ.region ?_
        refine OJ.pures oU 2 Z ?_
        refine OJ.ef Z Z Z (Ef.lit oU oI hS (C := (ci .i64)) Z Z Z Z Z Z ([y19] : List Int) Z Z Z Z) ?_
        rintro _ w1 ⟨A26, rfl, hS⟩
        obtain ⟨u27, hu27, H⟩ := pbind H
        refine OJ.ew Z Z Z (Ew.append oU oI (C := (ci .i64)) (xs := y16) (ys := ([y19] : List Int)) hS (i := 2) Z Z Z Z Z Z Z Z Z Z Z Z Z (hS.rd (i := 5) Z) (chk_some hu27)) ?_
        rintro _ w1 ⟨A28, c29, rfl, hS⟩
        refine OJ.pures oU 1 Z ?_
        refine OJ.nil (EJ.blk (EJ.next ?_))
        refine CJ.region ?_
        refine OJ.pures oU 2 Z ?_
        refine OJ.nil ?_
        exact EJ.round k (F' := [(3, .pointer (some ⟨b1, 0, none⟩)), (5, .pointer (some ⟨b2, 0, none⟩)), (9, .slice A28 (y16 ++ ([y19] : List Int)).length c29), (25, .slice Aa1 a1.length ca1), (26, .int .i64 (a1.length : Int)), (27, .int .i64 (IntKind.i64.wrap (y19 + 1)))]) ⟨Z, Z, Z, Z, Z, Z, trivial⟩ (Nat.lt_succ_self _) ⟨(y16 ++ ([y19] : List Int)), (IntKind.i64.wrap (y19 + 1)), A28, c29, Z, hS.pick [0, 1, 2] [0] Z, H⟩
      · replace H := pifb_f hb H
        refine CJ.skip (EJ.blk (EJ.next ?_))
        refine CJ.region ?_
        refine OJ.pures oU 2 Z ?_
        refine OJ.nil ?_
        exact EJ.round k (F' := [(3, .pointer (some ⟨b1, 0, none⟩)), (5, .pointer (some ⟨b2, 0, none⟩)), (9, .slice A17 y16.length c18), (25, .slice Aa1 a1.length ca1), (26, .int .i64 (a1.length : Int)), (27, .int .i64 (IntKind.i64.wrap (y19 + 1)))]) ⟨Z, Z, Z, Z, Z, Z, trivial⟩ (Nat.lt_succ_self _) ⟨y16, (IntKind.i64.wrap (y19 + 1)), A17, c18, Z, hS.pick [0, 1, 2] [0] Z, H⟩
    · replace H := pif_f (of_decide_eq_false hb) H
      refine CJ.exit (EJ.skE (EJ.skE (EJ.hit (?_))))
      exact EJ.meet (F' := [(9, .slice A17 y16.length c18)]) ⟨Z, trivial⟩ ⟨y16, A17, c18, H, Z, hS.pick [2] [0] Z⟩
 rintro F w1 ⟨y13, A14, c15, he, rfl, hS⟩
 obtain rfl := Option.some.inj he
 have H := K269
 refine EJ.next ?_
 refine CJ.seq (CJ.region ?_)
 refine OJ.pures oU 3 Z (OJ.nil (EJ.next ?_))
 refine CJ.ret (?_)
 obtain rfl := Option.some.inj H
 exact EJ.fin Z (.tmp Z (.tmp Z .nil)) ⟨A14, c15, Z, hS.pick [0] [] Z⟩

def spec_l00Has.l1 (a0 : List Int) (a1 : Int) : Nat → Int → Option (Bool ⊕ Unit)
  | 0, _ => none
  | k + 1, y1 => if y1 < (a0.length : Int) then ((getI a0 y1).bind fun t2 => if t2 = a1 then (some (Sum.inl true)) else (spec_l00Has.l1 a0 a1 k (IntKind.i64.wrap (y1 + 1)))) else (some (Sum.inr ()))
def spec_l00Has.f (k : Nat) (a0 : List Int) (a1 : Int) : Option Bool := (spec_l00Has.l1 a0 a1 k 0).bind fun s270 => match s270 with | .inl r => some r | .inr _ => some false
theorem spec_l00Has.c (k : Nat) (w : World) (Aa0 : Option Addr) (ca0 : Nat) (a0 : List Int) (hr0 : Rd (ci .i64) w Aa0 a0) (hc0 : a0.length ≤ ca0) (a1 : Int) (r : Bool) (H : spec_l00Has.f k a0 a1 = some r) :
 CV Tryz.prog 63 [.slice Aa0 a0.length ca0, .int .i64 a1].toArray w fun v w' => v = .bool r ∧ Ext w w' := by
 have hS := ((St.init w no).param (ci .i64) Aa0 ca0 a0 hr0 hc0)
 unfold spec_l00Has.f at H
 refine CV.body Tryz.func63 Z Tryz.ntmps63 Z ?_
 refine CJ.seq (CJ.region ?_)
 refine OJ.pures oU 1 Z (OJ.nil (EJ.next ?_))
 refine CJ.seq ?_
 refine CJ.seq (CJ.region ?_)
 refine OJ.pures oU 1 Z (OJ.nil (EJ.next ?_))
 obtain ⟨j270, H, K270⟩ := pbind H
 refine CJ.cut1 (fun F w1 => (some (Sum.inr ()) : Option (Bool ⊕ Unit)) = some j270 ∧ F = [] ∧ St w no w1 [] [roC (ci .i64) Aa0 ca0 a0]) ?_ ?_
 ·skip
  refine CJ.block ?_
  refine CJ.loop (fun k F w1 => ∃ (y1 : Int), F = [(0, .slice Aa0 a0.length ca0), (1, .int .i64 a1), (5, .int .i64 y1)] ∧ St w no w1 [] [roC (ci .i64) Aa0 ca0 a0] ∧ spec_l00Has.l1 a0 a1 k y1 = some j270) k (F' := [(0, .slice Aa0 a0.length ca0), (1, .int .i64 a1), (5, .int .i64 0)]) ⟨Z, Z, Z, trivial⟩ ⟨0, Z, hS.pick [] [0] Z, H⟩ ?_
  rintro k F w1 ⟨y1, rfl, hS, H⟩
  cases k with
  | zero => rw [spec_l00Has.l1] at H; cases H
  | succ k =>
    rw [spec_l00Has.l1] at H
    refine CJ.seq ?_
    refine CJ.seq (CJ.region ?_)
    refine OJ.pures oU 4 Z (OJ.nil (EJ.next ?_))
    refine CJ.cond Z (fun hb => ?_) (fun hb => ?_)
    · replace H := pif_t (of_decide_eq_true hb) H
      refine CJ.skip (EJ.next ?_)
      refine CJ.seq ?_
      refine CJ.block ?_
      refine CJ.seq (CJ.region ?_)
      refine OJ.pures oU 2 Z ?_
      obtain ⟨t2, ht2, H⟩ := pbind H
      obtain ⟨ad2, e2⟩ := (hS.rd' (i := 0) rfl).some' ht2
      refine OJ.st Z Z Z (SR.idxS oU oI Z Z Z Z e2 Z (getI_some ht2).1) ?_
      refine OJ.st Z Z Z (SR.load Z Z (fun w' hx => ld1 oU Z Z (CA.ext ((hS.rd' (i := 0) Z).at_ e2 ht2) hx) Z)) ?_
      refine OJ.pures oU 2 Z (OJ.nil (EJ.next ?_))
      refine CJ.cond Z (fun hb => ?_) (fun hb => ?_)
      · replace H := pif_t (of_decide_eq_true hb) H
        refine CJ.seq (CJ.region ?_)
        refine OJ.pures oU 1 Z (OJ.nil (EJ.next ?_))
        refine CJ.ret (EJ.bkR (EJ.skR (EJ.skR (EJ.bkR (EJ.skR (EJ.skR (?_)))))))
        first | (obtain rfl := Option.some.inj H; have H := K270) | (obtain ⟨q270, H2, e270⟩ := pbind H; obtain rfl := Option.some.inj e270; obtain rfl := Option.some.inj K270; have H := H2)
        obtain rfl := Option.some.inj H
        exact EJ.fin Z (.tmp Z .nil) ⟨Z, hS.ext⟩
      · replace H := pif_f (of_decide_eq_false hb) H
        refine CJ.skip (EJ.blk (EJ.next ?_))
        refine CJ.region ?_
        refine OJ.pures oU 3 Z ?_
        refine OJ.nil ?_
        exact EJ.round k (F' := [(0, .slice Aa0 a0.length ca0), (1, .int .i64 a1), (5, .int .i64 (IntKind.i64.wrap (y1 + 1)))]) ⟨Z, Z, Z, trivial⟩ (Nat.lt_succ_self _) ⟨(IntKind.i64.wrap (y1 + 1)), Z, hS.pick [] [0] Z, H⟩
    · replace H := pif_f (of_decide_eq_false hb) H
      refine CJ.exit (EJ.skE (EJ.skE (EJ.hit (?_))))
      exact EJ.meet (F' := []) trivial ⟨H, Z, hS.pick [] [0] Z⟩
 rintro F w1 ⟨he, rfl, hS⟩
 obtain rfl := Option.some.inj he
 have H := K270
 refine EJ.next ?_
 refine CJ.seq (CJ.region ?_)
 refine OJ.pures oU 1 Z (OJ.nil (EJ.next ?_))
 refine CJ.ret (?_)
 obtain rfl := Option.some.inj H
 exact EJ.fin Z (.tmp Z .nil) ⟨Z, hS.ext⟩

def spec_A2Has.f (k : Nat) (a0 : List Int) (a1 : Int) : Option Bool := (spec_l00Has.f k a0 a1).bind fun t1 => some t1
theorem spec_A2Has.c (k : Nat) (w : World) (Aa0 : Option Addr) (ca0 : Nat) (a0 : List Int) (hr0 : Rd (ci .i64) w Aa0 a0) (hc0 : a0.length ≤ ca0) (a1 : Int) (r : Bool) (H : spec_A2Has.f k a0 a1 = some r) :
 CV Tryz.prog 21 [.slice Aa0 a0.length ca0, .int .i64 a1].toArray w fun v w' => v = .bool r ∧ Ext w w' := by
 have hS := ((St.init w no).param (ci .i64) Aa0 ca0 a0 hr0 hc0)
 unfold spec_A2Has.f at H
 refine CV.body Tryz.func21 Z Tryz.ntmps21 Z ?_
 refine CJ.seq (CJ.region ?_)
 refine OJ.pures oU 1 Z (OJ.nil (EJ.next ?_))
 refine CJ.seq (CJ.region ?_)
 refine OJ.pures oU 2 Z ?_
 obtain ⟨t1, ht1, H⟩ := pbind H
 refine OJ.callF Z Z Z Z Z hb63 Z (spec_l00Has.c k _ Aa0 ca0 a0 (hS.rd' (i := 0) Z) (hS.le' (i := 0) Z) a1 _ ht1) ?_
 rintro _ w1 ⟨rfl, hs⟩
 replace hS := hS.grow hs
 refine OJ.pures oU 1 Z (OJ.nil (EJ.next ?_))
 refine CJ.ret (?_)
 obtain rfl := Option.some.inj H
 exact EJ.fin Z (.tmp Z .nil) ⟨Z, hS.ext⟩

def impl_hungryCode.f (k : Nat) (a0 : Pasture) (a1 : Goat) (a2 : Int) : Option Int := (impl_goatCode.f k a0 ([a1] : List Goat)).bind fun t4 => (impl_within.f a2 0 100).bind fun t5 => (impl_unless.f t5 2).bind fun t6 => (impl_unless.f (decide (a2 ≠ 0)) 4).bind fun t7 => (impl_firstOf.f k ([t4, t6, t7] : List Int)).bind fun t9 => some t9
theorem impl_hungryCode.c (k : Nat) (w : World) (a0 : Pasture) (a1 : Goat) (a2 : Int) (r : Int) (H : impl_hungryCode.f k a0 a1 a2 = some r) :
 CV Tryz.prog 64 [.agg (cPasture.enc a0).toArray, .agg (cGoat.enc a1).toArray, .int .i64 a2].toArray w fun v w' => v = .int .i64 r ∧ Ext w w' := by
 have hS := (St.init w no)
 unfold impl_hungryCode.f at H
 refine CV.body Tryz.func64 Z Tryz.ntmps64 Z ?_
 refine CJ.seq (CJ.region ?_)
 refine OJ.ef Z Z Z (Ef.box hS Z Z (cPasture.enc a0) Z) ?_
 rintro _ w1 ⟨b1, rfl, hS⟩
 refine OJ.ef Z Z Z (Ef.box hS Z Z (cGoat.enc a1) Z) ?_
 rintro _ w1 ⟨b2, rfl, hS⟩
 refine OJ.pures oU 1 Z (OJ.nil (EJ.next ?_))
 refine CJ.seq (CJ.region ?_)
 refine OJ.st Z Z Z (SR.load Z Z (fun w' hx => ldE oU oI Z Z Z (CA.ext (hS.cells (i := 0) Z) hx) Z)) ?_
 refine OJ.st Z Z Z (SR.load Z Z (fun w' hx => ldE oU oI Z Z Z (CA.ext (hS.cells (i := 1) Z) hx) Z)) ?_
 refine OJ.ef Z Z Z (Ef.lit oU oI hS (C := cGoat) Z Z Z Z Z Z ([a1] : List Goat) Z Z Z Z) ?_
 rintro _ w1 ⟨A3, rfl, hS⟩
 obtain ⟨t4, ht4, H⟩ := pbind H
 refine OJ.callF Z Z Z Z Z hb44 Z (impl_goatCode.c k _ a0 A3 (([a1] : List Goat).length) ([a1] : List Goat) (hS.rd (i := 2) Z) (hS.le (i := 2) Z) _ ht4) ?_
 rintro _ w1 ⟨rfl, hs⟩
 replace hS := hS.grow hs
 refine OJ.pures oU 1 Z ?_
 obtain ⟨t5, ht5, H⟩ := pbind H
 refine OJ.callF Z Z Z Z Z hb74 Z (impl_within.c _ a2 0 100 _ ht5) ?_
 rintro _ w1 ⟨rfl, hs⟩
 replace hS := hS.grow hs
 obtain ⟨t6, ht6, H⟩ := pbind H
 refine OJ.callF Z Z Z Z Z hb73 Z (impl_unless.c _ t5 2 _ ht6) ?_
 rintro _ w1 ⟨rfl, hs⟩
 replace hS := hS.grow hs
 refine OJ.pures oU 2 Z ?_
 obtain ⟨t7, ht7, H⟩ := pbind H
 refine OJ.callF Z Z Z Z Z hb73 Z (impl_unless.c _ (decide (a2 ≠ 0)) 4 _ ht7) ?_
 rintro _ w1 ⟨rfl, hs⟩
 replace hS := hS.grow hs
 refine OJ.ef Z Z Z (Ef.lit oU oI hS (C := (ci .i64)) Z Z Z Z Z Z ([t4, t6, t7] : List Int) Z Z Z Z) ?_
 rintro _ w1 ⟨A8, rfl, hS⟩
 obtain ⟨t9, ht9, H⟩ := pbind H
 refine OJ.callF Z Z Z Z Z hb61 Z (impl_firstOf.c k _ A8 (([t4, t6, t7] : List Int).length) ([t4, t6, t7] : List Int) (hS.rd (i := 3) Z) (hS.le (i := 3) Z) _ ht9) ?_
 rintro _ w1 ⟨rfl, hs⟩
 replace hS := hS.grow hs
 refine OJ.pures oU 1 Z (OJ.nil (EJ.next ?_))
 refine CJ.ret (?_)
 obtain rfl := Option.some.inj H
 exact EJ.fin Z (.tmp Z .nil) ⟨Z, hS.ext⟩

def impl_Pasture_choice.l1 (a0 : Pasture) (a1 : Goat) (t5 : Arr 10 (Arr 10 Int)) (t8 : List Spot) : Nat → Spot → Bool → Int → Option (Spot × Bool)
  | 0, _, _, _ => none
  | k + 1, y13, y14, y15 => if y15 < (t8.length : Int) then ((getI t8 y15).bind fun t16 => (impl_Pasture_grass.f a0 t16).bind fun t18 => if t18 = 0 then (impl_Pasture_choice.l1 a0 a1 t5 t8 k y13 y14 (IntKind.i64.wrap (y15 + 1))) else ((impl_Pasture_grass.f a0 t16).bind fun t19 => (impl_Pasture_grass.f a0 y13).bind fun t20 => (impl_steps_at.f t5 y13).bind fun t21 => (impl_steps_at.f t5 t16).bind fun t22 => if a1.Likes = 1 then (if (!y14) = true then (impl_Pasture_choice.l1 a0 a1 t5 t8 k t16 true (IntKind.i64.wrap (y15 + 1))) else (if 0 < (IntKind.i64.wrap (t21 - t22)) then (impl_Pasture_choice.l1 a0 a1 t5 t8 k t16 true (IntKind.i64.wrap (y15 + 1))) else (if (IntKind.i64.wrap (t21 - t22)) = 0 then (if 0 < (IntKind.i64.wrap (t19 - t20)) then (impl_Pasture_choice.l1 a0 a1 t5 t8 k t16 true (IntKind.i64.wrap (y15 + 1))) else (impl_Pasture_choice.l1 a0 a1 t5 t8 k y13 y14 (IntKind.i64.wrap (y15 + 1)))) else (impl_Pasture_choice.l1 a0 a1 t5 t8 k y13 y14 (IntKind.i64.wrap (y15 + 1)))))) else (if (!y14) = true then (impl_Pasture_choice.l1 a0 a1 t5 t8 k t16 true (IntKind.i64.wrap (y15 + 1))) else (if 0 < (IntKind.i64.wrap (t19 - t20)) then (impl_Pasture_choice.l1 a0 a1 t5 t8 k t16 true (IntKind.i64.wrap (y15 + 1))) else (if (IntKind.i64.wrap (t19 - t20)) = 0 then (if 0 < (IntKind.i64.wrap (t21 - t22)) then (impl_Pasture_choice.l1 a0 a1 t5 t8 k t16 true (IntKind.i64.wrap (y15 + 1))) else (impl_Pasture_choice.l1 a0 a1 t5 t8 k y13 y14 (IntKind.i64.wrap (y15 + 1)))) else (impl_Pasture_choice.l1 a0 a1 t5 t8 k y13 y14 (IntKind.i64.wrap (y15 + 1)))))))) else (some (y13, y14))
def impl_Pasture_choice.f (k : Nat) (a0 : Pasture) (a1 : Goat) : Option (Spot × Bool) := (impl_Pasture_far.f k a0 ([a1.At] : List Spot)).bind fun t5 => (impl_Pasture_cellsFor.f k a0 a1).bind fun t8 => (impl_Pasture_choice.l1 a0 a1 t5 t8 k (⟨0, 0⟩ : Spot) false 0).bind fun (y11, y12) => some (y11, y12)
theorem impl_Pasture_choice.c (k : Nat) (w : World) (a0 : Pasture) (a1 : Goat) (r : Spot × Bool) (H : impl_Pasture_choice.f k a0 a1 = some r) :
 CV Tryz.prog 65 [.agg (cPasture.enc a0).toArray, .agg (cGoat.enc a1).toArray].toArray w fun v w' => v = .tuple #[.agg (cSpot.enc r.1).toArray, .bool r.2] ∧ Ext w w' := by
 have hS := (St.init w no)
 unfold impl_Pasture_choice.f at H
 refine CV.body Tryz.func65 Z Tryz.ntmps65 Z ?_
 refine CJ.seq (CJ.region ?_)
 refine OJ.ef Z Z Z (Ef.box hS Z Z (cPasture.enc a0) Z) ?_
 rintro _ w1 ⟨b1, rfl, hS⟩
 refine OJ.ef Z Z Z (Ef.box hS Z Z (cGoat.enc a1) Z) ?_
 rintro _ w1 ⟨b2, rfl, hS⟩
 refine OJ.ef Z Z Z (Ef.alloc hS oI Z Z (cSpot.enc (⟨0, 0⟩ : Spot)) Z) ?_
 rintro _ w1 ⟨b3, rfl, hS⟩
 refine OJ.pures oU 1 Z (OJ.nil (EJ.next ?_))
 refine CJ.seq (CJ.region ?_)
 refine OJ.st Z Z Z (SR.load Z Z (fun w' hx => ldE oU oI Z Z Z (CA.ext (hS.cells (i := 0) Z) hx) Z)) ?_
 refine OJ.st Z Z Z (SR.fieldAddr oU oI Z Z Z Z Z Z) ?_
 refine OJ.st Z Z Z (SR.load Z Z (fun w' hx => ldN oU oI Z Z Z (CA.ext (CA.sub (hS.cells (i := 1) Z) 0) hx) (cSpot.len _) Z)) ?_
 refine OJ.ef Z Z Z (Ef.lit oU oI hS (C := cSpot) Z Z Z Z Z Z ([a1.At] : List Spot) Z Z Z Z) ?_
 rintro _ w1 ⟨A4, rfl, hS⟩
 obtain ⟨t5, ht5, H⟩ := pbind H
 refine OJ.callF Z Z Z Z Z hb68 Z (impl_Pasture_far.c k _ a0 A4 (([a1.At] : List Spot).length) ([a1.At] : List Spot) (hS.rd (i := 3) Z) (hS.le (i := 3) Z) _ ht5) ?_
 rintro _ w1 ⟨rfl, hs⟩
 replace hS := hS.grow hs
 refine OJ.ef rfl rfl rfl (Ef.alloc hS oI rfl rfl ((carr 10 (carr 10 (ci .i16))).enc (Arr.mk' (Arr.mk' 0 : Arr 10 Int) : Arr 10 (Arr 10 Int))) (by kernel_rfl)) ?_
 rintro _ w1 ⟨b6, rfl, hS⟩
 refine OJ.es rfl rfl (Es.put oI hS (i := 4) rfl rfl rfl rfl rfl (vs := (carr 10 (carr 10 (ci .i16))).enc t5) rfl ((carr 10 (carr 10 (ci .i16))).len _) ((carr 10 (carr 10 (ci .i16))).one _) (Put.all (carr 10 (carr 10 (ci .i16))) (Arr.mk' (Arr.mk' 0 : Arr 10 Int) : Arr 10 (Arr 10 Int)) t5) (by (try simp only [add_lit, Nat.add_assoc, Nat.zero_add, Nat.add_zero]) <;> rfl)) ?_
 intro w1 hS
 refine OJ.nil (EJ.next ?_)
 refine CJ.seq (CJ.region ?_)
 refine OJ.st Z Z Z (SR.build (C := cSpot) oU oI Z Z Z (zs := [.int .i8 0, .int .i8 0]) Z Z Z (⟨0, 0⟩ : Spot) Z) ?_
 refine OJ.ef Z Z Z (Ef.alloc hS oI Z Z (cSpot.enc (⟨0, 0⟩ : Spot)) Z) ?_
 rintro _ w1 ⟨b7, rfl, hS⟩
 refine OJ.es Z Z (Es.store oI hS (i := 5) Z Z Z Z Z Z (vs := cSpot.enc (⟨0, 0⟩ : Spot)) Z (cSpot.len _) (cSpot.one _) (Nat.le_of_ble_eq_true Z) (cSpot.enc (⟨0, 0⟩ : Spot)) Z) ?_
 intro w1 hS
 refine OJ.pures oU 1 Z (OJ.nil (EJ.next ?_))
 refine CJ.seq ?_
 refine CJ.seq (CJ.region ?_)
 refine OJ.st Z Z Z (SR.load Z Z (fun w' hx => ldE oU oI Z Z Z (CA.ext (hS.cells (i := 0) Z) hx) Z)) ?_
 refine OJ.st Z Z Z (SR.load Z Z (fun w' hx => ldE oU oI Z Z Z (CA.ext (hS.cells (i := 1) Z) hx) Z)) ?_
 obtain ⟨t8, ht8, H⟩ := pbind H
 refine OJ.callF Z Z Z Z Z hb45 Z (impl_Pasture_cellsFor.c k _ a0 a1 _ ht8) ?_
 rintro _ w1 ⟨A9, c10, rfl, hs⟩
 replace hS := hS.addN hs
 have hS : St w no w1 [box b1 (cPasture.enc a0) 31, box b2 (cGoat.enc a1) 50, box b3 (cSpot.enc (⟨0, 0⟩ : Spot)) 48, rowC cSpot A4 (([a1.At] : List Spot).length) 48 ([a1.At] : List Spot), box b6 ((carr 10 (carr 10 (ci .i16))).enc t5) 114, box b7 (cSpot.enc (⟨0, 0⟩ : Spot)) 48, rowC cSpot A9 c10 48 t8] [] := hS
 refine OJ.pures oU 2 Z (OJ.nil (EJ.next ?_))
 obtain ⟨j275, H, K275⟩ := pbind H
 refine CJ.cut1 (fun F w1 => ∃ (y11 : Spot) (y12 : Bool) , (some (y11, y12) : Option (Spot × Bool)) = some j275 ∧ F = [(4, .pointer (some ⟨b3, 0, none⟩)), (7, .pointer (some ⟨b7, 0, none⟩)), (8, .bool y12)] ∧ St w no w1 [box b3 (cSpot.enc (⟨0, 0⟩ : Spot)) 48, box b7 (cSpot.enc y11) 48] []) ?_ ?_
 ·skip
  refine CJ.block ?_
  refine CJ.loop (fun k F w1 => ∃ (y13 : Spot) (y14 : Bool) (y15 : Int), F = [(2, .pointer (some ⟨b1, 0, none⟩)), (3, .pointer (some ⟨b2, 0, none⟩)), (4, .pointer (some ⟨b3, 0, none⟩)), (6, .pointer (some ⟨b6, 0, none⟩)), (7, .pointer (some ⟨b7, 0, none⟩)), (8, .bool y14), (21, .slice A9 t8.length c10), (22, .int .i64 (t8.length : Int)), (23, .int .i64 y15)] ∧ St w no w1 [box b1 (cPasture.enc a0) 31, box b2 (cGoat.enc a1) 50, box b3 (cSpot.enc (⟨0, 0⟩ : Spot)) 48, box b6 ((carr 10 (carr 10 (ci .i16))).enc t5) 114, box b7 (cSpot.enc y13) 48, rowC cSpot A9 c10 48 t8] [] ∧ impl_Pasture_choice.l1 a0 a1 t5 t8 k y13 y14 y15 = some j275) k (F' := [(2, .pointer (some ⟨b1, 0, none⟩)), (3, .pointer (some ⟨b2, 0, none⟩)), (4, .pointer (some ⟨b3, 0, none⟩)), (6, .pointer (some ⟨b6, 0, none⟩)), (7, .pointer (some ⟨b7, 0, none⟩)), (8, .bool false), (21, .slice A9 t8.length c10), (22, .int .i64 (t8.length : Int)), (23, .int .i64 0)]) ⟨Z, Z, Z, Z, Z, Z, Z, Z, Z, trivial⟩ ⟨(⟨0, 0⟩ : Spot), false, 0, Z, hS.pick [0, 1, 2, 4, 5, 6] [] Z, H⟩ ?_
  rintro k F w1 ⟨y13, y14, y15, rfl, hS, H⟩
  cases k with
  | zero => rw [impl_Pasture_choice.l1] at H; cases H
  | succ k =>
    rw [impl_Pasture_choice.l1] at H
    refine CJ.seq (CJ.region ?_)
    refine OJ.pures oU 1 Z (OJ.nil (EJ.next ?_))
    refine CJ.seq ?_
    refine CJ.cond Z (fun hb => ?_) (fun hb => ?_)
    · replace H := pif_t (of_decide_eq_true hb) H
      refine CJ.skip (EJ.next ?_)
      refine CJ.seq ?_
      refine CJ.block ?_
      refine CJ.seq (CJ.region ?_)
      obtain ⟨t16, ht16, H⟩ := pbind H
      obtain ⟨ad16, e16⟩ := (hS.rd (i := 5) rfl).some' ht16
      refine OJ.st Z Z Z (SR.idxS oU oI Z Z Z Z e16 Z (getI_some ht16).1) ?_
      refine OJ.st Z Z Z (SR.load Z Z (fun w' hx => ldE oU oI Z Z Z (CA.ext ((hS.rd (i := 5) Z).at_ e16 ht16) hx) Z)) ?_
      refine OJ.ef Z Z Z (Ef.alloc hS oI Z Z (cSpot.enc (⟨0, 0⟩ : Spot)) Z) ?_
      rintro _ w1 ⟨b17, rfl, hS⟩
      refine OJ.es Z Z (Es.store oI hS (i := 6) Z Z Z Z Z Z (vs := cSpot.enc t16) Z (cSpot.len _) (cSpot.one _) (Nat.le_of_ble_eq_true Z) (cSpot.enc t16) Z) ?_
      intro w1 hS
      refine OJ.nil (EJ.next ?_)
      refine CJ.seq ?_
      refine CJ.seq (CJ.region ?_)
      refine OJ.st Z Z Z (SR.load Z Z (fun w' hx => ldE oU oI Z Z Z (CA.ext (hS.cells (i := 0) Z) hx) Z)) ?_
      refine OJ.st Z Z Z (SR.load Z Z (fun w' hx => ldE oU oI Z Z Z (CA.ext (hS.cells (i := 6) Z) hx) Z)) ?_
      obtain ⟨t18, ht18, H⟩ := pbind H
      refine OJ.callF Z Z Z Z Z hb53 Z (impl_Pasture_grass.c _ a0 t16 _ ht18) ?_
      rintro _ w1 ⟨rfl, hs⟩
      replace hS := hS.grow hs
      refine OJ.pures oU 1 Z (OJ.nil (EJ.next ?_))
      refine CJ.cond Z (fun hb => ?_) (fun hb => ?_)
      · replace H := pif_t (of_decide_eq_true hb) H
        refine CJ.exit (EJ.skE (EJ.hit (EJ.next ?_)))
        refine CJ.region ?_
        refine OJ.pures oU 2 Z ?_
        refine OJ.nil ?_
        exact EJ.round k (F' := [(2, .pointer (some ⟨b1, 0, none⟩)), (3, .pointer (some ⟨b2, 0, none⟩)), (4, .pointer (some ⟨b3, 0, none⟩)), (6, .pointer (some ⟨b6, 0, none⟩)), (7, .pointer (some ⟨b7, 0, none⟩)), (8, .bool y14), (21, .slice A9 t8.length c10), (22, .int .i64 (t8.length : Int)), (23, .int .i64 (IntKind.i64.wrap (y15 + 1)))]) ⟨Z, Z, Z, Z, Z, Z, Z, Z, Z, trivial⟩ (Nat.lt_succ_self _) ⟨y13, y14, (IntKind.i64.wrap (y15 + 1)), Z, hS.pick [0, 1, 2, 3, 4, 5] [] Z, H⟩
      · replace H := pif_f (of_decide_eq_false hb) H
        refine CJ.skip (EJ.next ?_)
        refine CJ.seq ?_
        refine CJ.draw [] [0, 1, 3, 4, 7, 9, 2, 5, 6, 8, 10, 11, 12, 13] mixed (by kernel_rfl) hS fun w1 hS => ?_
        refine DJ.st Z Z Z Z Z (SR.load Z Z (fun w' hx => ldE oU oI Z Z Z (CA.ext (hS.cells (i := 0) Z) hx) Z)) ?_
        refine DJ.st Z Z Z Z Z (SR.load Z Z (fun w' hx => ldE oU oI Z Z Z (CA.ext (hS.cells (i := 6) Z) hx) Z)) ?_
        refine DJ.st Z Z Z Z Z (SR.load Z Z (fun w' hx => ldE oU oI Z Z Z (CA.ext (hS.cells (i := 0) Z) hx) Z)) ?_
        refine DJ.st Z Z Z Z Z (SR.load Z Z (fun w' hx => ldE oU oI Z Z Z (CA.ext (hS.cells (i := 4) Z) hx) Z)) ?_
        refine DJ.st Z Z Z Z Z (SR.load Z Z (fun w' hx => ldE oU oI Z Z Z (CA.ext (hS.cells (i := 4) Z) hx) Z)) ?_
        refine DJ.st Z Z Z Z Z (SR.load Z Z (fun w' hx => ldE oU oI Z Z Z (CA.ext (hS.cells (i := 6) Z) hx) Z)) ?_
        obtain ⟨t19, ht19, H⟩ := pbind H
        refine DJ.callF rfl rfl rfl rfl rfl rfl rfl hb53 rfl (impl_Pasture_grass.c _ a0 t16 _ ht19) (by rintro v w' ⟨rfl, hs⟩; exact hs) ?_
        rintro _ w1 ⟨rfl, hs⟩
        replace hS := hS.grow hs
        obtain ⟨t20, ht20, H⟩ := pbind H
        refine DJ.callF rfl rfl rfl rfl rfl rfl rfl hb53 rfl (impl_Pasture_grass.c _ a0 y13 _ ht20) (by rintro v w' ⟨rfl, hs⟩; exact hs) ?_
        rintro _ w1 ⟨rfl, hs⟩
        replace hS := hS.grow hs
        refine DJ.pures oU 1 Z ?_
        obtain ⟨t21, ht21, H⟩ := pbind H
        refine DJ.callF rfl rfl rfl rfl rfl rfl rfl hb69 rfl (impl_steps_at.c _ _ t5 (hS.cells (i := 3) rfl) y13 _ ht21) (by rintro v w' ⟨rfl, hs⟩; exact hs) ?_
        rintro _ w1 ⟨rfl, hs⟩
        replace hS := hS.grow hs
        obtain ⟨t22, ht22, H⟩ := pbind H
        refine DJ.callF rfl rfl rfl rfl rfl rfl rfl hb69 rfl (impl_steps_at.c _ _ t5 (hS.cells (i := 3) rfl) t16 _ ht22) (by rintro v w' ⟨rfl, hs⟩; exact hs) ?_
        rintro _ w1 ⟨rfl, hs⟩
        replace hS := hS.grow hs
        refine DJ.pures oU 3 Z ?_
        refine DJ.nil (EJ.next ?_)
        refine CJ.seq ?_
        refine CJ.seq (CJ.region ?_)
        refine OJ.st Z Z Z (SR.fieldAddr oU oI Z Z Z Z Z Z) ?_
        refine OJ.st Z Z Z (SR.load Z Z (fun w' hx => ld1 oU Z Z (CA.ext (CA.sub (hS.cells (i := 1) Z) 6) hx) Z)) ?_
        refine OJ.pures oU 1 Z (OJ.nil (EJ.next ?_))
        refine CJ.cond Z (fun hb => ?_) (fun hb => ?_)
        · replace H := pif_t (of_decide_eq_true hb) H
          refine CJ.region ?_
          refine OJ.pures oU 4 Z (OJ.nil (EJ.next ?_))
          refine CJ.seq (CJ.region ?_)
          refine OJ.pures oU 3 Z ?_
          refine OJ.split (t := 50) Z (fun hb => ?_) (fun hb => ?_)
          · replace H := pif_t hb H
            refine OJ.pures oU 11 Z (OJ.nil (EJ.next ?_))
            refine CJ.condT Z ?_
            refine CJ.region ?_
            refine OJ.st Z Z Z (SR.load Z Z (fun w' hx => ldE oU oI Z Z Z (CA.ext (hS.cells (i := 6) Z) hx) Z)) ?_
            refine OJ.es Z Z (Es.store oI hS (i := 4) Z Z Z Z Z Z (vs := cSpot.enc t16) Z (cSpot.len _) (cSpot.one _) (Nat.le_of_ble_eq_true Z) (cSpot.enc t16) Z) ?_
            intro w1 hS
            refine OJ.pures oU 1 Z ?_
            refine OJ.nil (EJ.blk (EJ.next ?_))
            refine CJ.region ?_
            refine OJ.pures oU 2 Z ?_
            refine OJ.nil ?_
            exact EJ.round k (F' := [(2, .pointer (some ⟨b1, 0, none⟩)), (3, .pointer (some ⟨b2, 0, none⟩)), (4, .pointer (some ⟨b3, 0, none⟩)), (6, .pointer (some ⟨b6, 0, none⟩)), (7, .pointer (some ⟨b7, 0, none⟩)), (8, .bool true), (21, .slice A9 t8.length c10), (22, .int .i64 (t8.length : Int)), (23, .int .i64 (IntKind.i64.wrap (y15 + 1)))]) ⟨Z, Z, Z, Z, Z, Z, Z, Z, Z, trivial⟩ (Nat.lt_succ_self _) ⟨t16, true, (IntKind.i64.wrap (y15 + 1)), Z, hS.pick [0, 1, 2, 3, 4, 5] [] Z, H⟩
          · replace H := pifb_f hb H
            refine OJ.pures oU 4 Z ?_
            refine OJ.split (t := 54) Z (fun hb => ?_) (fun hb => ?_)
            · replace H := pif_t (of_decide_eq_true hb) H
              refine OJ.pures oU 7 Z (OJ.nil (EJ.next ?_))
              refine CJ.condT Z ?_
              refine CJ.region ?_
              refine OJ.st Z Z Z (SR.load Z Z (fun w' hx => ldE oU oI Z Z Z (CA.ext (hS.cells (i := 6) Z) hx) Z)) ?_
              refine OJ.es Z Z (Es.store oI hS (i := 4) Z Z Z Z Z Z (vs := cSpot.enc t16) Z (cSpot.len _) (cSpot.one _) (Nat.le_of_ble_eq_true Z) (cSpot.enc t16) Z) ?_
              intro w1 hS
              refine OJ.pures oU 1 Z ?_
              refine OJ.nil (EJ.blk (EJ.next ?_))
              refine CJ.region ?_
              refine OJ.pures oU 2 Z ?_
              refine OJ.nil ?_
              exact EJ.round k (F' := [(2, .pointer (some ⟨b1, 0, none⟩)), (3, .pointer (some ⟨b2, 0, none⟩)), (4, .pointer (some ⟨b3, 0, none⟩)), (6, .pointer (some ⟨b6, 0, none⟩)), (7, .pointer (some ⟨b7, 0, none⟩)), (8, .bool true), (21, .slice A9 t8.length c10), (22, .int .i64 (t8.length : Int)), (23, .int .i64 (IntKind.i64.wrap (y15 + 1)))]) ⟨Z, Z, Z, Z, Z, Z, Z, Z, Z, trivial⟩ (Nat.lt_succ_self _) ⟨t16, true, (IntKind.i64.wrap (y15 + 1)), Z, hS.pick [0, 1, 2, 3, 4, 5] [] Z, H⟩
            · replace H := pif_f (of_decide_eq_false hb) H
              refine OJ.pures oU 3 Z ?_
              refine OJ.split (t := 57) Z (fun hb => ?_) (fun hb => ?_)
              · replace H := pif_t (of_decide_eq_true hb) H
                refine OJ.pures oU 4 Z (OJ.nil (EJ.next ?_))
                refine CJ.cond Z (fun hb => ?_) (fun hb => ?_)
                · replace H := pif_t (of_decide_eq_true hb) H
                  refine CJ.region ?_
                  refine OJ.st Z Z Z (SR.load Z Z (fun w' hx => ldE oU oI Z Z Z (CA.ext (hS.cells (i := 6) Z) hx) Z)) ?_
                  refine OJ.es Z Z (Es.store oI hS (i := 4) Z Z Z Z Z Z (vs := cSpot.enc t16) Z (cSpot.len _) (cSpot.one _) (Nat.le_of_ble_eq_true Z) (cSpot.enc t16) Z) ?_
                  intro w1 hS
                  refine OJ.pures oU 1 Z ?_
                  refine OJ.nil (EJ.blk (EJ.next ?_))
                  refine CJ.region ?_
                  refine OJ.pures oU 2 Z ?_
                  refine OJ.nil ?_
                  exact EJ.round k (F' := [(2, .pointer (some ⟨b1, 0, none⟩)), (3, .pointer (some ⟨b2, 0, none⟩)), (4, .pointer (some ⟨b3, 0, none⟩)), (6, .pointer (some ⟨b6, 0, none⟩)), (7, .pointer (some ⟨b7, 0, none⟩)), (8, .bool true), (21, .slice A9 t8.length c10), (22, .int .i64 (t8.length : Int)), (23, .int .i64 (IntKind.i64.wrap (y15 + 1)))]) ⟨Z, Z, Z, Z, Z, Z, Z, Z, Z, trivial⟩ (Nat.lt_succ_self _) ⟨t16, true, (IntKind.i64.wrap (y15 + 1)), Z, hS.pick [0, 1, 2, 3, 4, 5] [] Z, H⟩
                · replace H := pif_f (of_decide_eq_false hb) H
                  refine CJ.skip (EJ.blk (EJ.next ?_))
                  refine CJ.region ?_
                  refine OJ.pures oU 2 Z ?_
                  refine OJ.nil ?_
                  exact EJ.round k (F' := [(2, .pointer (some ⟨b1, 0, none⟩)), (3, .pointer (some ⟨b2, 0, none⟩)), (4, .pointer (some ⟨b3, 0, none⟩)), (6, .pointer (some ⟨b6, 0, none⟩)), (7, .pointer (some ⟨b7, 0, none⟩)), (8, .bool y14), (21, .slice A9 t8.length c10), (22, .int .i64 (t8.length : Int)), (23, .int .i64 (IntKind.i64.wrap (y15 + 1)))]) ⟨Z, Z, Z, Z, Z, Z, Z, Z, Z, trivial⟩ (Nat.lt_succ_self _) ⟨y13, y14, (IntKind.i64.wrap (y15 + 1)), Z, hS.pick [0, 1, 2, 3, 4, 5] [] Z, H⟩
              · replace H := pif_f (of_decide_eq_false hb) H
                refine OJ.pures oU 4 Z (OJ.nil (EJ.next ?_))
                refine CJ.condF Z ?_
                refine CJ.skip (EJ.blk (EJ.next ?_))
                refine CJ.region ?_
                refine OJ.pures oU 2 Z ?_
                refine OJ.nil ?_
                exact EJ.round k (F' := [(2, .pointer (some ⟨b1, 0, none⟩)), (3, .pointer (some ⟨b2, 0, none⟩)), (4, .pointer (some ⟨b3, 0, none⟩)), (6, .pointer (some ⟨b6, 0, none⟩)), (7, .pointer (some ⟨b7, 0, none⟩)), (8, .bool y14), (21, .slice A9 t8.length c10), (22, .int .i64 (t8.length : Int)), (23, .int .i64 (IntKind.i64.wrap (y15 + 1)))]) ⟨Z, Z, Z, Z, Z, Z, Z, Z, Z, trivial⟩ (Nat.lt_succ_self _) ⟨y13, y14, (IntKind.i64.wrap (y15 + 1)), Z, hS.pick [0, 1, 2, 3, 4, 5] [] Z, H⟩
        · replace H := pif_f (of_decide_eq_false hb) H
          refine CJ.skip (EJ.next ?_)
          refine CJ.seq (CJ.region ?_)
          refine OJ.pures oU 3 Z ?_
          refine OJ.split (t := 50) Z (fun hb => ?_) (fun hb => ?_)
          · replace H := pif_t hb H
            refine OJ.pures oU 11 Z (OJ.nil (EJ.next ?_))
            refine CJ.condT Z ?_
            refine CJ.region ?_
            refine OJ.st Z Z Z (SR.load Z Z (fun w' hx => ldE oU oI Z Z Z (CA.ext (hS.cells (i := 6) Z) hx) Z)) ?_
            refine OJ.es Z Z (Es.store oI hS (i := 4) Z Z Z Z Z Z (vs := cSpot.enc t16) Z (cSpot.len _) (cSpot.one _) (Nat.le_of_ble_eq_true Z) (cSpot.enc t16) Z) ?_
            intro w1 hS
            refine OJ.pures oU 1 Z ?_
            refine OJ.nil (EJ.blk (EJ.next ?_))
            refine CJ.region ?_
            refine OJ.pures oU 2 Z ?_
            refine OJ.nil ?_
            exact EJ.round k (F' := [(2, .pointer (some ⟨b1, 0, none⟩)), (3, .pointer (some ⟨b2, 0, none⟩)), (4, .pointer (some ⟨b3, 0, none⟩)), (6, .pointer (some ⟨b6, 0, none⟩)), (7, .pointer (some ⟨b7, 0, none⟩)), (8, .bool true), (21, .slice A9 t8.length c10), (22, .int .i64 (t8.length : Int)), (23, .int .i64 (IntKind.i64.wrap (y15 + 1)))]) ⟨Z, Z, Z, Z, Z, Z, Z, Z, Z, trivial⟩ (Nat.lt_succ_self _) ⟨t16, true, (IntKind.i64.wrap (y15 + 1)), Z, hS.pick [0, 1, 2, 3, 4, 5] [] Z, H⟩
          · replace H := pifb_f hb H
            refine OJ.pures oU 4 Z ?_
            refine OJ.split (t := 54) Z (fun hb => ?_) (fun hb => ?_)
            · replace H := pif_t (of_decide_eq_true hb) H
              refine OJ.pures oU 7 Z (OJ.nil (EJ.next ?_))
              refine CJ.condT Z ?_
              refine CJ.region ?_
              refine OJ.st Z Z Z (SR.load Z Z (fun w' hx => ldE oU oI Z Z Z (CA.ext (hS.cells (i := 6) Z) hx) Z)) ?_
              refine OJ.es Z Z (Es.store oI hS (i := 4) Z Z Z Z Z Z (vs := cSpot.enc t16) Z (cSpot.len _) (cSpot.one _) (Nat.le_of_ble_eq_true Z) (cSpot.enc t16) Z) ?_
              intro w1 hS
              refine OJ.pures oU 1 Z ?_
              refine OJ.nil (EJ.blk (EJ.next ?_))
              refine CJ.region ?_
              refine OJ.pures oU 2 Z ?_
              refine OJ.nil ?_
              exact EJ.round k (F' := [(2, .pointer (some ⟨b1, 0, none⟩)), (3, .pointer (some ⟨b2, 0, none⟩)), (4, .pointer (some ⟨b3, 0, none⟩)), (6, .pointer (some ⟨b6, 0, none⟩)), (7, .pointer (some ⟨b7, 0, none⟩)), (8, .bool true), (21, .slice A9 t8.length c10), (22, .int .i64 (t8.length : Int)), (23, .int .i64 (IntKind.i64.wrap (y15 + 1)))]) ⟨Z, Z, Z, Z, Z, Z, Z, Z, Z, trivial⟩ (Nat.lt_succ_self _) ⟨t16, true, (IntKind.i64.wrap (y15 + 1)), Z, hS.pick [0, 1, 2, 3, 4, 5] [] Z, H⟩
            · replace H := pif_f (of_decide_eq_false hb) H
              refine OJ.pures oU 3 Z ?_
              refine OJ.split (t := 57) Z (fun hb => ?_) (fun hb => ?_)
              · replace H := pif_t (of_decide_eq_true hb) H
                refine OJ.pures oU 4 Z (OJ.nil (EJ.next ?_))
                refine CJ.cond Z (fun hb => ?_) (fun hb => ?_)
                · replace H := pif_t (of_decide_eq_true hb) H
                  refine CJ.region ?_
                  refine OJ.st Z Z Z (SR.load Z Z (fun w' hx => ldE oU oI Z Z Z (CA.ext (hS.cells (i := 6) Z) hx) Z)) ?_
                  refine OJ.es Z Z (Es.store oI hS (i := 4) Z Z Z Z Z Z (vs := cSpot.enc t16) Z (cSpot.len _) (cSpot.one _) (Nat.le_of_ble_eq_true Z) (cSpot.enc t16) Z) ?_
                  intro w1 hS
                  refine OJ.pures oU 1 Z ?_
                  refine OJ.nil (EJ.blk (EJ.next ?_))
                  refine CJ.region ?_
                  refine OJ.pures oU 2 Z ?_
                  refine OJ.nil ?_
                  exact EJ.round k (F' := [(2, .pointer (some ⟨b1, 0, none⟩)), (3, .pointer (some ⟨b2, 0, none⟩)), (4, .pointer (some ⟨b3, 0, none⟩)), (6, .pointer (some ⟨b6, 0, none⟩)), (7, .pointer (some ⟨b7, 0, none⟩)), (8, .bool true), (21, .slice A9 t8.length c10), (22, .int .i64 (t8.length : Int)), (23, .int .i64 (IntKind.i64.wrap (y15 + 1)))]) ⟨Z, Z, Z, Z, Z, Z, Z, Z, Z, trivial⟩ (Nat.lt_succ_self _) ⟨t16, true, (IntKind.i64.wrap (y15 + 1)), Z, hS.pick [0, 1, 2, 3, 4, 5] [] Z, H⟩
                · replace H := pif_f (of_decide_eq_false hb) H
                  refine CJ.skip (EJ.blk (EJ.next ?_))
                  refine CJ.region ?_
                  refine OJ.pures oU 2 Z ?_
                  refine OJ.nil ?_
                  exact EJ.round k (F' := [(2, .pointer (some ⟨b1, 0, none⟩)), (3, .pointer (some ⟨b2, 0, none⟩)), (4, .pointer (some ⟨b3, 0, none⟩)), (6, .pointer (some ⟨b6, 0, none⟩)), (7, .pointer (some ⟨b7, 0, none⟩)), (8, .bool y14), (21, .slice A9 t8.length c10), (22, .int .i64 (t8.length : Int)), (23, .int .i64 (IntKind.i64.wrap (y15 + 1)))]) ⟨Z, Z, Z, Z, Z, Z, Z, Z, Z, trivial⟩ (Nat.lt_succ_self _) ⟨y13, y14, (IntKind.i64.wrap (y15 + 1)), Z, hS.pick [0, 1, 2, 3, 4, 5] [] Z, H⟩
              · replace H := pif_f (of_decide_eq_false hb) H
                refine OJ.pures oU 4 Z (OJ.nil (EJ.next ?_))
                refine CJ.condF Z ?_
                refine CJ.skip (EJ.blk (EJ.next ?_))
                refine CJ.region ?_
                refine OJ.pures oU 2 Z ?_
                refine OJ.nil ?_
                exact EJ.round k (F' := [(2, .pointer (some ⟨b1, 0, none⟩)), (3, .pointer (some ⟨b2, 0, none⟩)), (4, .pointer (some ⟨b3, 0, none⟩)), (6, .pointer (some ⟨b6, 0, none⟩)), (7, .pointer (some ⟨b7, 0, none⟩)), (8, .bool y14), (21, .slice A9 t8.length c10), (22, .int .i64 (t8.length : Int)), (23, .int .i64 (IntKind.i64.wrap (y15 + 1)))]) ⟨Z, Z, Z, Z, Z, Z, Z, Z, Z, trivial⟩ (Nat.lt_succ_self _) ⟨y13, y14, (IntKind.i64.wrap (y15 + 1)), Z, hS.pick [0, 1, 2, 3, 4, 5] [] Z, H⟩
    · replace H := pif_f (of_decide_eq_false hb) H
      refine CJ.exit (EJ.skE (EJ.skE (EJ.hit (?_))))
      exact EJ.meet (F' := [(4, .pointer (some ⟨b3, 0, none⟩)), (7, .pointer (some ⟨b7, 0, none⟩)), (8, .bool y14)]) ⟨Z, Z, Z, trivial⟩ ⟨y13, y14, H, Z, hS.pick [2, 4] [] Z⟩
 rintro F w1 ⟨y11, y12, he, rfl, hS⟩
 obtain rfl := Option.some.inj he
 have H := K275
 refine EJ.next ?_
 refine CJ.seq (CJ.region ?_)
 refine OJ.st Z Z Z (SR.load Z Z (fun w' hx => ldE oU oI Z Z Z (CA.ext (hS.cells (i := 1) Z) hx) Z)) ?_
 refine OJ.pures oU 1 Z ?_
 refine OJ.es Z Z (Es.store oI hS (i := 0) Z Z Z Z Z Z (vs := cSpot.enc y11) Z (cSpot.len _) (cSpot.one _) (Nat.le_of_ble_eq_true Z) (cSpot.enc y11) Z) ?_
 intro w1 hS
 refine OJ.pures oU 1 Z (OJ.nil (EJ.next ?_))
 refine CJ.ret (?_)
 obtain rfl := Option.some.inj H
 exact EJ.fin Z (.cell Z (ldE oU oI Z Z Z (hS.cells (i := 0) Z) Z) (.tmp Z .nil)) ⟨Z, hS.ext⟩

def impl_ChoiceOf.f (k : Nat) (a0 : Pasture) (a1 : Goat) (a2 : Int) : Option (Spot × Int) := (impl_hungryCode.f k a0 a1 a2).bind fun t4 => if t4 ≠ 0 then (some ((⟨0, 0⟩ : Spot), t4)) else ((impl_Pasture_choice.f k a0 a1).bind fun t5 => if (!t5.2) = true then (some ((⟨0, 0⟩ : Spot), 6)) else (some (t5.1, 0)))
theorem impl_ChoiceOf.c (k : Nat) (w : World) (a0 : Pasture) (a1 : Goat) (a2 : Int) (r : Spot × Int) (H : impl_ChoiceOf.f k a0 a1 a2 = some r) :
 CV Tryz.prog 22 [.agg (cPasture.enc a0).toArray, .agg (cGoat.enc a1).toArray, .int .i64 a2].toArray w fun v w' => v = .tuple #[.agg (cSpot.enc r.1).toArray, .int .i64 r.2] ∧ Ext w w' := by
 have hS := (St.init w no)
 unfold impl_ChoiceOf.f at H
 refine CV.body Tryz.func22 Z Tryz.ntmps22 Z ?_
 refine CJ.seq (CJ.region ?_)
 refine OJ.ef Z Z Z (Ef.box hS Z Z (cPasture.enc a0) Z) ?_
 rintro _ w1 ⟨b1, rfl, hS⟩
 refine OJ.ef Z Z Z (Ef.box hS Z Z (cGoat.enc a1) Z) ?_
 rintro _ w1 ⟨b2, rfl, hS⟩
 refine OJ.ef Z Z Z (Ef.alloc hS oI Z Z (cSpot.enc (⟨0, 0⟩ : Spot)) Z) ?_
 rintro _ w1 ⟨b3, rfl, hS⟩
 refine OJ.pures oU 1 Z (OJ.nil (EJ.next ?_))
 refine CJ.seq ?_
 refine CJ.seq (CJ.region ?_)
 refine OJ.st Z Z Z (SR.load Z Z (fun w' hx => ldE oU oI Z Z Z (CA.ext (hS.cells (i := 0) Z) hx) Z)) ?_
 refine OJ.st Z Z Z (SR.load Z Z (fun w' hx => ldE oU oI Z Z Z (CA.ext (hS.cells (i := 1) Z) hx) Z)) ?_
 refine OJ.pures oU 1 Z ?_
 obtain ⟨t4, ht4, H⟩ := pbind H
 refine OJ.callF Z Z Z Z Z hb64 Z (impl_hungryCode.c k _ a0 a1 a2 _ ht4) ?_
 rintro _ w1 ⟨rfl, hs⟩
 replace hS := hS.grow hs
 refine OJ.pures oU 1 Z (OJ.nil (EJ.next ?_))
 refine CJ.seq (CJ.region ?_)
 refine OJ.pures oU 2 Z (OJ.nil (EJ.next ?_))
 refine CJ.cond Z (fun hb => ?_) (fun hb => ?_)
 ·replace H := pif_t (of_decide_eq_true hb) H
  refine CJ.seq (CJ.region ?_)
  refine OJ.st Z Z Z (SR.build (C := cSpot) oU oI Z Z Z (zs := [.int .i8 0, .int .i8 0]) Z Z Z (⟨0, 0⟩ : Spot) Z) ?_
  refine OJ.pures oU 1 Z ?_
  refine OJ.es Z Z (Es.store oI hS (i := 2) Z Z Z Z Z Z (vs := cSpot.enc (⟨0, 0⟩ : Spot)) Z (cSpot.len _) (cSpot.one _) (Nat.le_of_ble_eq_true Z) (cSpot.enc (⟨0, 0⟩ : Spot)) Z) ?_
  intro w1 hS
  refine OJ.pures oU 1 Z (OJ.nil (EJ.next ?_))
  refine CJ.ret (EJ.skR (?_))
  obtain rfl := Option.some.inj H
  exact EJ.fin Z (.cell Z (ldE oU oI Z Z Z (hS.cells (i := 2) Z) Z) (.tmp Z .nil)) ⟨Z, hS.ext⟩
 replace H := pif_f (of_decide_eq_false hb) H
 refine CJ.skip (EJ.next ?_)
 refine CJ.seq (CJ.region ?_)
 refine OJ.st Z Z Z (SR.load Z Z (fun w' hx => ldE oU oI Z Z Z (CA.ext (hS.cells (i := 0) Z) hx) Z)) ?_
 refine OJ.st Z Z Z (SR.load Z Z (fun w' hx => ldE oU oI Z Z Z (CA.ext (hS.cells (i := 1) Z) hx) Z)) ?_
 obtain ⟨t5, ht5, H⟩ := pbind H
 refine OJ.callF Z Z Z Z Z hb65 Z (impl_Pasture_choice.c k _ a0 a1 _ ht5) ?_
 rintro _ w1 ⟨rfl, hs⟩
 replace hS := hS.grow hs
 refine OJ.pures oU 3 Z ?_
 refine OJ.ef Z Z Z (Ef.alloc hS oI Z Z (cSpot.enc (⟨0, 0⟩ : Spot)) Z) ?_
 rintro _ w1 ⟨b6, rfl, hS⟩
 refine OJ.es Z Z (Es.store oI hS (i := 3) Z Z Z Z Z Z (vs := cSpot.enc t5.1) Z (cSpot.len _) (cSpot.one _) (Nat.le_of_ble_eq_true Z) (cSpot.enc t5.1) Z) ?_
 intro w1 hS
 refine OJ.pures oU 1 Z (OJ.nil (EJ.next ?_))
 refine CJ.seq ?_
 refine CJ.seq (CJ.region ?_)
 refine OJ.pures oU 2 Z (OJ.nil (EJ.next ?_))
 refine CJ.cond Z (fun hb => ?_) (fun hb => ?_)
 ·replace H := pif_t hb H
  refine CJ.seq (CJ.region ?_)
  refine OJ.st Z Z Z (SR.build (C := cSpot) oU oI Z Z Z (zs := [.int .i8 0, .int .i8 0]) Z Z Z (⟨0, 0⟩ : Spot) Z) ?_
  refine OJ.es Z Z (Es.store oI hS (i := 2) Z Z Z Z Z Z (vs := cSpot.enc (⟨0, 0⟩ : Spot)) Z (cSpot.len _) (cSpot.one _) (Nat.le_of_ble_eq_true Z) (cSpot.enc (⟨0, 0⟩ : Spot)) Z) ?_
  intro w1 hS
  refine OJ.pures oU 1 Z (OJ.nil (EJ.next ?_))
  refine CJ.ret (EJ.skR (?_))
  obtain rfl := Option.some.inj H
  exact EJ.fin Z (.cell Z (ldE oU oI Z Z Z (hS.cells (i := 2) Z) Z) (.tmp Z .nil)) ⟨Z, hS.ext⟩
 replace H := pifb_f hb H
 refine CJ.skip (EJ.next ?_)
 refine CJ.seq (CJ.region ?_)
 refine OJ.st Z Z Z (SR.load Z Z (fun w' hx => ldE oU oI Z Z Z (CA.ext (hS.cells (i := 3) Z) hx) Z)) ?_
 refine OJ.es Z Z (Es.store oI hS (i := 2) Z Z Z Z Z Z (vs := cSpot.enc t5.1) Z (cSpot.len _) (cSpot.one _) (Nat.le_of_ble_eq_true Z) (cSpot.enc t5.1) Z) ?_
 intro w1 hS
 refine OJ.pures oU 1 Z (OJ.nil (EJ.next ?_))
 refine CJ.ret (?_)
 obtain rfl := Option.some.inj H
 exact EJ.fin Z (.cell Z (ldE oU oI Z Z Z (hS.cells (i := 2) Z) Z) (.tmp Z .nil)) ⟨Z, hS.ext⟩

def spec_l02Choice.l1 (a0 : Pasture) (a1 : Goat) (t2 : List Spot) (t5 : Arr 10 (Arr 10 Int)) : Nat → Spot → Bool → Int → Option (Spot × Bool)
  | 0, _, _, _ => none
  | k + 1, y10, y11, y12 => if y12 < (t2.length : Int) then ((getI t2 y12).bind fun t13 => (getI a0.Grass.l t13.Y).bind fun t15 => (getI t15.l t13.X).bind fun t16 => (getI t5.l t13.Y).bind fun t17 => (getI t17.l t13.X).bind fun t18 => if (IntKind.i64.wrap t16) = 0 then (spec_l02Choice.l1 a0 a1 t2 t5 k y10 y11 (IntKind.i64.wrap (y12 + 1))) else ((getI a0.Grass.l y10.Y).bind fun t19 => (getI t19.l y10.X).bind fun t20 => (getI t5.l y10.Y).bind fun t21 => (getI t21.l y10.X).bind fun t22 => (if (IntKind.i64.wrap t20) < (IntKind.i64.wrap t16) then (some true) else (if (IntKind.i64.wrap t16) = (IntKind.i64.wrap t20) then (some (decide (t18 < t22))) else (some false))).bind fun y23 => if a1.Likes = 1 then (if t18 < t22 then (if (!y11) = true then (spec_l02Choice.l1 a0 a1 t2 t5 k t13 true (IntKind.i64.wrap (y12 + 1))) else (spec_l02Choice.l1 a0 a1 t2 t5 k t13 true (IntKind.i64.wrap (y12 + 1)))) else (if t18 = t22 then (if (!y11) = true then (spec_l02Choice.l1 a0 a1 t2 t5 k t13 true (IntKind.i64.wrap (y12 + 1))) else (if (IntKind.i64.wrap t20) < (IntKind.i64.wrap t16) then (spec_l02Choice.l1 a0 a1 t2 t5 k t13 true (IntKind.i64.wrap (y12 + 1))) else (spec_l02Choice.l1 a0 a1 t2 t5 k y10 y11 (IntKind.i64.wrap (y12 + 1))))) else (if (!y11) = true then (spec_l02Choice.l1 a0 a1 t2 t5 k t13 true (IntKind.i64.wrap (y12 + 1))) else (spec_l02Choice.l1 a0 a1 t2 t5 k y10 y11 (IntKind.i64.wrap (y12 + 1)))))) else (if (!y11) = true then (spec_l02Choice.l1 a0 a1 t2 t5 k t13 true (IntKind.i64.wrap (y12 + 1))) else (if y23 = true then (spec_l02Choice.l1 a0 a1 t2 t5 k t13 true (IntKind.i64.wrap (y12 + 1))) else (spec_l02Choice.l1 a0 a1 t2 t5 k y10 y11 (IntKind.i64.wrap (y12 + 1))))))) else (some (y10, y11))
def spec_l02Choice.f (k : Nat) (a0 : Pasture) (a1 : Goat) : Option (Spot × Bool) := (spec_l02Cells.f k a0 a1).bind fun t2 => (spec_l01Steps.f k a0 a1.At).bind fun t5 => (spec_l02Choice.l1 a0 a1 t2 t5 k (⟨0, 0⟩ : Spot) false 0).bind fun (y8, y9) => some (y8, y9)
theorem spec_l02Choice.c (k : Nat) (w : World) (pa0 : Addr) (a0 : Pasture) (hp0 : CA w pa0 (cPasture.enc a0)) (pa1 : Addr) (a1 : Goat) (hp1 : CA w pa1 (cGoat.enc a1)) (r : Spot × Bool) (H : spec_l02Choice.f k a0 a1 = some r) :
 CV Tryz.prog 67 [.pointer (some pa0), .pointer (some pa1)].toArray w fun v w' => v = .tuple #[.agg (cSpot.enc r.1).toArray, .bool r.2] ∧ Ext w w' := by
 have hS := (((St.init w no).paramP pa0 (cPasture.enc a0) hp0).paramP pa1 (cGoat.enc a1) hp1)
 unfold spec_l02Choice.f at H
 refine CV.body Tryz.func67 Z Tryz.ntmps67 Z ?_
 refine CJ.seq (CJ.region ?_)
 refine OJ.ef Z Z Z (Ef.alloc hS oI Z Z (cSpot.enc (⟨0, 0⟩ : Spot)) Z) ?_
 rintro _ w1 ⟨b1, rfl, hS⟩
 refine OJ.pures oU 1 Z (OJ.nil (EJ.next ?_))
 refine CJ.seq (CJ.region ?_)
 refine OJ.pures oU 2 Z ?_
 obtain ⟨t2, ht2, H⟩ := pbind H
 refine OJ.callF Z Z Z Z Z hb49 Z (spec_l02Cells.c k _ _ a0 (hS.ca (i := 0) Z) _ a1 (hS.ca (i := 1) Z) _ ht2) ?_
 rintro _ w1 ⟨A3, c4, rfl, hs⟩
 replace hS := hS.addN hs
 refine OJ.pures oU 1 Z (OJ.nil (EJ.next ?_))
 refine CJ.seq (CJ.region ?_)
 refine OJ.pures oU 3 Z ?_
 refine OJ.st Z Z Z (SR.fieldAddr oU oI Z Z Z Z Z Z) ?_
 refine OJ.st Z Z Z (SR.load Z Z (fun w' hx => ldN oU oI Z Z Z (CA.ext (CA.sub (hS.ca (i := 1) Z) 0) hx) (cSpot.len _) Z)) ?_
 obtain ⟨t5, ht5, H⟩ := pbind H
 refine OJ.callF Z Z Z Z Z hb72 Z (spec_l01Steps.c k _ _ a0 (hS.ca (i := 0) Z) a1.At _ ht5) ?_
 rintro _ w1 ⟨rfl, hs⟩
 replace hS := hS.grow hs
 refine OJ.ef rfl rfl rfl (Ef.alloc hS oI rfl rfl ((carr 10 (carr 10 (ci .i64))).enc (Arr.mk' (Arr.mk' 0 : Arr 10 Int) : Arr 10 (Arr 10 Int))) (by kernel_rfl)) ?_
 rintro _ w1 ⟨b6, rfl, hS⟩
 refine OJ.es rfl rfl (Es.put oI hS (i := 2) rfl rfl rfl rfl rfl (vs := (carr 10 (carr 10 (ci .i64))).enc t5) rfl ((carr 10 (carr 10 (ci .i64))).len _) ((carr 10 (carr 10 (ci .i64))).one _) (Put.all (carr 10 (carr 10 (ci .i64))) (Arr.mk' (Arr.mk' 0 : Arr 10 Int) : Arr 10 (Arr 10 Int)) t5) (by (try simp only [add_lit, Nat.add_assoc, Nat.zero_add, Nat.add_zero]) <;> rfl)) ?_
 intro w1 hS
 refine OJ.nil (EJ.next ?_)
 refine CJ.seq (CJ.region ?_)
 refine OJ.st Z Z Z (SR.build (C := cSpot) oU oI Z Z Z (zs := [.int .i8 0, .int .i8 0]) Z Z Z (⟨0, 0⟩ : Spot) Z) ?_
 refine OJ.ef Z Z Z (Ef.alloc hS oI Z Z (cSpot.enc (⟨0, 0⟩ : Spot)) Z) ?_
 rintro _ w1 ⟨b7, rfl, hS⟩
 refine OJ.es Z Z (Es.store oI hS (i := 3) Z Z Z Z Z Z (vs := cSpot.enc (⟨0, 0⟩ : Spot)) Z (cSpot.len _) (cSpot.one _) (Nat.le_of_ble_eq_true Z) (cSpot.enc (⟨0, 0⟩ : Spot)) Z) ?_
 intro w1 hS
 refine OJ.nil (EJ.next ?_)
 refine CJ.seq (CJ.region ?_)
 refine OJ.pures oU 1 Z (OJ.nil (EJ.next ?_))
 refine CJ.seq ?_
 refine CJ.seq (CJ.region ?_)
 refine OJ.pures oU 1 Z (OJ.nil (EJ.next ?_))
 obtain ⟨j279, H, K279⟩ := pbind H
 refine CJ.cut1 (fun F w1 => ∃ (y8 : Spot) (y9 : Bool) , (some (y8, y9) : Option (Spot × Bool)) = some j279 ∧ F = [(4, .pointer (some ⟨b1, 0, none⟩)), (8, .pointer (some ⟨b7, 0, none⟩)), (9, .bool y9)] ∧ St w no w1 [box b1 (cSpot.enc (⟨0, 0⟩ : Spot)) 48, box b7 (cSpot.enc y8) 48] [roP pa0 (cPasture.enc a0), roP pa1 (cGoat.enc a1)]) ?_ ?_
 ·skip
  refine CJ.block ?_
  refine CJ.loop (fun k F w1 => ∃ (y10 : Spot) (y11 : Bool) (y12 : Int), F = [(0, .pointer (some pa0)), (1, .pointer (some pa1)), (4, .pointer (some ⟨b1, 0, none⟩)), (6, .slice A3 t2.length c4), (7, .pointer (some ⟨b6, 0, none⟩)), (8, .pointer (some ⟨b7, 0, none⟩)), (9, .bool y11), (10, .int .i64 y12)] ∧ St w no w1 [box b1 (cSpot.enc (⟨0, 0⟩ : Spot)) 48, rowC cSpot A3 c4 48 t2, box b6 ((carr 10 (carr 10 (ci .i64))).enc t5) 119, box b7 (cSpot.enc y10) 48] [roP pa0 (cPasture.enc a0), roP pa1 (cGoat.enc a1)] ∧ spec_l02Choice.l1 a0 a1 t2 t5 k y10 y11 y12 = some j279) k (F' := [(0, .pointer (some pa0)), (1, .pointer (some pa1)), (4, .pointer (some ⟨b1, 0, none⟩)), (6, .slice A3 t2.length c4), (7, .pointer (some ⟨b6, 0, none⟩)), (8, .pointer (some ⟨b7, 0, none⟩)), (9, .bool false), (10, .int .i64 0)]) ⟨Z, Z, Z, Z, Z, Z, Z, Z, trivial⟩ ⟨(⟨0, 0⟩ : Spot), false, 0, Z, hS.pick [0, 1, 2, 3] [0, 1] Z, H⟩ ?_
  rintro k F w1 ⟨y10, y11, y12, rfl, hS, H⟩
  cases k with
  | zero => rw [spec_l02Choice.l1] at H; cases H
  | succ k =>
    rw [spec_l02Choice.l1] at H
    refine CJ.seq ?_
    refine CJ.seq (CJ.region ?_)
    refine OJ.pures oU 4 Z (OJ.nil (EJ.next ?_))
    refine CJ.cond Z (fun hb => ?_) (fun hb => ?_)
    · replace H := pif_t (of_decide_eq_true hb) H
      refine CJ.skip (EJ.next ?_)
      refine CJ.seq ?_
      refine CJ.block ?_
      refine CJ.seq (CJ.region ?_)
      refine OJ.pures oU 2 Z ?_
      obtain ⟨t13, ht13, H⟩ := pbind H
      obtain ⟨ad13, e13⟩ := (hS.rd (i := 1) rfl).some' ht13
      refine OJ.st Z Z Z (SR.idxS oU oI Z Z Z Z e13 Z (getI_some ht13).1) ?_
      refine OJ.st Z Z Z (SR.load Z Z (fun w' hx => ldE oU oI Z Z Z (CA.ext ((hS.rd (i := 1) Z).at_ e13 ht13) hx) Z)) ?_
      refine OJ.ef Z Z Z (Ef.alloc hS oI Z Z (cSpot.enc (⟨0, 0⟩ : Spot)) Z) ?_
      rintro _ w1 ⟨b14, rfl, hS⟩
      refine OJ.es Z Z (Es.store oI hS (i := 4) Z Z Z Z Z Z (vs := cSpot.enc t13) Z (cSpot.len _) (cSpot.one _) (Nat.le_of_ble_eq_true Z) (cSpot.enc t13) Z) ?_
      intro w1 hS
      refine OJ.nil (EJ.next ?_)
      refine CJ.seq ?_
      refine CJ.draw [] [0, 1, 2, 3, 4, 5, 6, 7, 8, 9, 10, 11] mixed (by kernel_rfl) hS fun w1 hS => ?_
      refine DJ.pures oU 1 Z ?_
      refine DJ.st Z Z Z Z Z (SR.fieldAddr oU oI Z Z Z Z Z Z) ?_
      refine DJ.st Z Z Z Z Z (SR.load Z Z (fun w' hx => ld1 oU Z Z (CA.ext (CA.sub (hS.cells (i := 4) Z) 1) hx) Z)) ?_
      refine DJ.st Z Z Z Z Z (SR.fieldAddr oU oI Z Z Z Z Z Z) ?_
      refine DJ.st Z Z Z Z Z (SR.load Z Z (fun w' hx => ld1 oU Z Z (CA.ext (CA.sub (hS.cells (i := 4) Z) 0) hx) Z)) ?_
      refine DJ.pures oU 1 Z ?_
      refine DJ.st Z Z Z Z Z (SR.fieldAddr oU oI Z Z Z Z Z Z) ?_
      obtain ⟨t15, ht15, H⟩ := pbind H
      refine DJ.st Z Z Z Z Z (SR.idxA oU oI Z Z Z Z Z (Arr.lt ht15)) ?_
      obtain ⟨t16, ht16, H⟩ := pbind H
      refine DJ.st Z Z Z Z Z (SR.idxA oU oI Z Z Z Z Z (Arr.lt ht16)) ?_
      refine DJ.st Z Z Z Z Z (SR.load Z Z (fun w' hx => ld1 oU Z Z (CA.ext (CA.idx (CA.idx (CA.fld (hS.ca (i := 0) Z) (mid_part (fe_Pasture_2 _) (fl_Pasture_2 _) ((carr 10 (carr 10 (ci .i16))).len _))) ht15) ht16) hx) Z)) ?_
      refine DJ.pures oU 2 Z ?_
      refine DJ.nil (EJ.next ?_)
      refine CJ.seq ?_
      refine CJ.draw [] [0, 1, 2, 3, 4, 5, 6, 7] mixed (by kernel_rfl) hS fun w1 hS => ?_
      refine DJ.st Z Z Z Z Z (SR.fieldAddr oU oI Z Z Z Z Z Z) ?_
      refine DJ.st Z Z Z Z Z (SR.load Z Z (fun w' hx => ld1 oU Z Z (CA.ext (CA.sub (hS.cells (i := 4) Z) 1) hx) Z)) ?_
      refine DJ.st Z Z Z Z Z (SR.fieldAddr oU oI Z Z Z Z Z Z) ?_
      refine DJ.st Z Z Z Z Z (SR.load Z Z (fun w' hx => ld1 oU Z Z (CA.ext (CA.sub (hS.cells (i := 4) Z) 0) hx) Z)) ?_
      obtain ⟨t17, ht17, H⟩ := pbind H
      refine DJ.st Z Z Z Z Z (SR.idxA oU oI Z Z Z Z Z (Arr.lt ht17)) ?_
      obtain ⟨t18, ht18, H⟩ := pbind H
      refine DJ.st Z Z Z Z Z (SR.idxA oU oI Z Z Z Z Z (Arr.lt ht18)) ?_
      refine DJ.st Z Z Z Z Z (SR.load Z Z (fun w' hx => ld1 oU Z Z (CA.ext (CA.idx (CA.idx (hS.cells (i := 2) Z) ht17) ht18) hx) Z)) ?_
      refine DJ.pures oU 1 Z ?_
      refine DJ.nil (EJ.next ?_)
      refine CJ.seq ?_
      refine CJ.seq (CJ.region ?_)
      refine OJ.pures oU 2 Z (OJ.nil (EJ.next ?_))
      refine CJ.cond Z (fun hb => ?_) (fun hb => ?_)
      · replace H := pif_t (of_decide_eq_true hb) H
        refine CJ.exit (EJ.skE (EJ.hit (EJ.next ?_)))
        refine CJ.region ?_
        refine OJ.pures oU 3 Z ?_
        refine OJ.nil ?_
        exact EJ.round k (F' := [(0, .pointer (some pa0)), (1, .pointer (some pa1)), (4, .pointer (some ⟨b1, 0, none⟩)), (6, .slice A3 t2.length c4), (7, .pointer (some ⟨b6, 0, none⟩)), (8, .pointer (some ⟨b7, 0, none⟩)), (9, .bool y11), (10, .int .i64 (IntKind.i64.wrap (y12 + 1)))]) ⟨Z, Z, Z, Z, Z, Z, Z, Z, trivial⟩ (Nat.lt_succ_self _) ⟨y10, y11, (IntKind.i64.wrap (y12 + 1)), Z, hS.pick [0, 1, 2, 3] [0, 1] Z, H⟩
      · replace H := pif_f (of_decide_eq_false hb) H
        refine CJ.skip (EJ.next ?_)
        refine CJ.seq ?_
        refine CJ.draw [] [0, 1, 2, 3, 4, 5, 6, 7, 8, 9, 10, 11] mixed (by kernel_rfl) hS fun w1 hS => ?_
        refine DJ.pures oU 1 Z ?_
        refine DJ.st Z Z Z Z Z (SR.fieldAddr oU oI Z Z Z Z Z Z) ?_
        refine DJ.st Z Z Z Z Z (SR.load Z Z (fun w' hx => ld1 oU Z Z (CA.ext (CA.sub (hS.cells (i := 3) Z) 1) hx) Z)) ?_
        refine DJ.st Z Z Z Z Z (SR.fieldAddr oU oI Z Z Z Z Z Z) ?_
        refine DJ.st Z Z Z Z Z (SR.load Z Z (fun w' hx => ld1 oU Z Z (CA.ext (CA.sub (hS.cells (i := 3) Z) 0) hx) Z)) ?_
        refine DJ.pures oU 1 Z ?_
        refine DJ.st Z Z Z Z Z (SR.fieldAddr oU oI Z Z Z Z Z Z) ?_
        obtain ⟨t19, ht19, H⟩ := pbind H
        refine DJ.st Z Z Z Z Z (SR.idxA oU oI Z Z Z Z Z (Arr.lt ht19)) ?_
        obtain ⟨t20, ht20, H⟩ := pbind H
        refine DJ.st Z Z Z Z Z (SR.idxA oU oI Z Z Z Z Z (Arr.lt ht20)) ?_
        refine DJ.st Z Z Z Z Z (SR.load Z Z (fun w' hx => ld1 oU Z Z (CA.ext (CA.idx (CA.idx (CA.fld (hS.ca (i := 0) Z) (mid_part (fe_Pasture_2 _) (fl_Pasture_2 _) ((carr 10 (carr 10 (ci .i16))).len _))) ht19) ht20) hx) Z)) ?_
        refine DJ.pures oU 2 Z ?_
        refine DJ.nil (EJ.next ?_)
        refine CJ.seq ?_
        refine CJ.draw [] [0, 1, 2, 3, 4, 5, 6, 7] mixed (by kernel_rfl) hS fun w1 hS => ?_
        refine DJ.st Z Z Z Z Z (SR.fieldAddr oU oI Z Z Z Z Z Z) ?_
        refine DJ.st Z Z Z Z Z (SR.load Z Z (fun w' hx => ld1 oU Z Z (CA.ext (CA.sub (hS.cells (i := 3) Z) 1) hx) Z)) ?_
        refine DJ.st Z Z Z Z Z (SR.fieldAddr oU oI Z Z Z Z Z Z) ?_
        refine DJ.st Z Z Z Z Z (SR.load Z Z (fun w' hx => ld1 oU Z Z (CA.ext (CA.sub (hS.cells (i := 3) Z) 0) hx) Z)) ?_
        obtain ⟨t21, ht21, H⟩ := pbind H
        refine DJ.st Z Z Z Z Z (SR.idxA oU oI Z Z Z Z Z (Arr.lt ht21)) ?_
        obtain ⟨t22, ht22, H⟩ := pbind H
        refine DJ.st Z Z Z Z Z (SR.idxA oU oI Z Z Z Z Z (Arr.lt ht22)) ?_
        refine DJ.st Z Z Z Z Z (SR.load Z Z (fun w' hx => ld1 oU Z Z (CA.ext (CA.idx (CA.idx (hS.cells (i := 2) Z) ht21) ht22) hx) Z)) ?_
        refine DJ.pures oU 1 Z ?_
        refine DJ.nil (EJ.next ?_)
        obtain ⟨j282, H, K282⟩ := pbind H
        refine CJ.cut (fun F w1 => ∃ (y23 : Bool) , (some y23 : Option Bool) = some j282 ∧ F = [(0, .pointer (some pa0)), (1, .pointer (some pa1)), (4, .pointer (some ⟨b1, 0, none⟩)), (6, .slice A3 t2.length c4), (7, .pointer (some ⟨b6, 0, none⟩)), (8, .pointer (some ⟨b7, 0, none⟩)), (9, .bool y11), (10, .int .i64 y12), (11, .pointer (some ⟨b14, 0, none⟩)), (12, .int .i64 (IntKind.i64.wrap t16)), (13, .int .i64 t18), (14, .int .i64 (IntKind.i64.wrap t20)), (15, .int .i64 t22), (16, .bool y23)] ∧ St w no w1 [box b1 (cSpot.enc (⟨0, 0⟩ : Spot)) 48, rowC cSpot A3 c4 48 t2, box b6 ((carr 10 (carr 10 (ci .i64))).enc t5) 119, box b7 (cSpot.enc y10) 48, box b14 (cSpot.enc t13) 48] [roP pa0 (cPasture.enc a0), roP pa1 (cGoat.enc a1)]) ?_ ?_
        · skip
          refine CJ.region ?_
          refine OJ.pures oU 4 Z ?_
          refine OJ.split (t := 78) Z (fun hb => ?_) (fun hb => ?_)
          · replace H := pif_t (of_decide_eq_true hb) H
            refine OJ.pures oU 10 Z ?_
            refine OJ.nil ?_
            exact EJ.meet (F' := [(0, .pointer (some pa0)), (1, .pointer (some pa1)), (4, .pointer (some ⟨b1, 0, none⟩)), (6, .slice A3 t2.length c4), (7, .pointer (some ⟨b6, 0, none⟩)), (8, .pointer (some ⟨b7, 0, none⟩)), (9, .bool y11), (10, .int .i64 y12), (11, .pointer (some ⟨b14, 0, none⟩)), (12, .int .i64 (IntKind.i64.wrap t16)), (13, .int .i64 t18), (14, .int .i64 (IntKind.i64.wrap t20)), (15, .int .i64 t22), (16, .bool true)]) ⟨Z, Z, Z, Z, Z, Z, Z, Z, Z, Z, Z, Z, Z, Z, trivial⟩ ⟨true, H, Z, hS.pick [0, 1, 2, 3, 4] [0, 1] Z⟩
          · replace H := pif_f (of_decide_eq_false hb) H
            refine OJ.pures oU 4 Z ?_
            refine OJ.split (t := 82) Z (fun hb => ?_) (fun hb => ?_)
            · replace H := pif_t (of_decide_eq_true hb) H
              refine OJ.pures oU 6 Z ?_
              refine OJ.nil ?_
              exact EJ.meet (F' := [(0, .pointer (some pa0)), (1, .pointer (some pa1)), (4, .pointer (some ⟨b1, 0, none⟩)), (6, .slice A3 t2.length c4), (7, .pointer (some ⟨b6, 0, none⟩)), (8, .pointer (some ⟨b7, 0, none⟩)), (9, .bool y11), (10, .int .i64 y12), (11, .pointer (some ⟨b14, 0, none⟩)), (12, .int .i64 (IntKind.i64.wrap t16)), (13, .int .i64 t18), (14, .int .i64 (IntKind.i64.wrap t20)), (15, .int .i64 t22), (16, .bool (decide (t18 < t22)))]) ⟨Z, Z, Z, Z, Z, Z, Z, Z, Z, Z, Z, Z, Z, Z, trivial⟩ ⟨(decide (t18 < t22)), H, Z, hS.pick [0, 1, 2, 3, 4] [0, 1] Z⟩
            · replace H := pif_f (of_decide_eq_false hb) H
              refine OJ.pures oU 6 Z ?_
              refine OJ.nil ?_
              exact EJ.meet (F' := [(0, .pointer (some pa0)), (1, .pointer (some pa1)), (4, .pointer (some ⟨b1, 0, none⟩)), (6, .slice A3 t2.length c4), (7, .pointer (some ⟨b6, 0, none⟩)), (8, .pointer (some ⟨b7, 0, none⟩)), (9, .bool y11), (10, .int .i64 y12), (11, .pointer (some ⟨b14, 0, none⟩)), (12, .int .i64 (IntKind.i64.wrap t16)), (13, .int .i64 t18), (14, .int .i64 (IntKind.i64.wrap t20)), (15, .int .i64 t22), (16, .bool false)]) ⟨Z, Z, Z, Z, Z, Z, Z, Z, Z, Z, Z, Z, Z, Z, trivial⟩ ⟨false, H, Z, hS.pick [0, 1, 2, 3, 4] [0, 1] Z⟩
        · rintro F w1 ⟨y23, he, rfl, hS⟩
          obtain rfl := Option.some.inj he
          have H := K282
          refine CJ.seq ?_
          refine CJ.seq (CJ.region ?_)
          refine OJ.pures oU 2 Z ?_
          refine OJ.st Z Z Z (SR.fieldAddr oU oI Z Z Z Z Z Z) ?_
          refine OJ.st Z Z Z (SR.load Z Z (fun w' hx => ld1 oU Z Z (CA.ext (CA.sub (hS.ca (i := 1) Z) 6) hx) Z)) ?_
          refine OJ.pures oU 1 Z (OJ.nil (EJ.next ?_))
          refine CJ.cond Z (fun hb => ?_) (fun hb => ?_)
          · replace H := pif_t (of_decide_eq_true hb) H
            refine CJ.region ?_
            refine OJ.pures oU 4 Z ?_
            refine OJ.split (t := 96) Z (fun hb => ?_) (fun hb => ?_)
            · replace H := pif_t (of_decide_eq_true hb) H
              refine OJ.pures oU 10 Z (OJ.nil (EJ.next ?_))
              refine CJ.seq (CJ.region ?_)
              refine OJ.pures oU 3 Z ?_
              refine OJ.split (t := 108) Z (fun hb => ?_) (fun hb => ?_)
              · replace H := pif_t hb H
                refine OJ.pures oU 2 Z (OJ.nil (EJ.next ?_))
                refine CJ.condT Z ?_
                refine CJ.seq (CJ.region ?_)
                refine OJ.st Z Z Z (SR.load Z Z (fun w' hx => ldE oU oI Z Z Z (CA.ext (hS.cells (i := 4) Z) hx) Z)) ?_
                refine OJ.es Z Z (Es.store oI hS (i := 3) Z Z Z Z Z Z (vs := cSpot.enc t13) Z (cSpot.len _) (cSpot.one _) (Nat.le_of_ble_eq_true Z) (cSpot.enc t13) Z) ?_
                intro w1 hS
                refine OJ.nil (EJ.next ?_)
                refine CJ.region ?_
                refine OJ.pures oU 1 Z ?_
                refine OJ.nil (EJ.blk (EJ.next ?_))
                refine CJ.region ?_
                refine OJ.pures oU 3 Z ?_
                refine OJ.nil ?_
                exact EJ.round k (F' := [(0, .pointer (some pa0)), (1, .pointer (some pa1)), (4, .pointer (some ⟨b1, 0, none⟩)), (6, .slice A3 t2.length c4), (7, .pointer (some ⟨b6, 0, none⟩)), (8, .pointer (some ⟨b7, 0, none⟩)), (9, .bool true), (10, .int .i64 (IntKind.i64.wrap (y12 + 1)))]) ⟨Z, Z, Z, Z, Z, Z, Z, Z, trivial⟩ (Nat.lt_succ_self _) ⟨t13, true, (IntKind.i64.wrap (y12 + 1)), Z, hS.pick [0, 1, 2, 3] [0, 1] Z, H⟩
              · replace H := pifb_f hb H
                refine OJ.pures oU 2 Z (OJ.nil (EJ.next ?_))
                refine CJ.condT Z ?_
                refine CJ.seq (CJ.region ?_)
                refine OJ.st Z Z Z (SR.load Z Z (fun w' hx => ldE oU oI Z Z Z (CA.ext (hS.cells (i := 4) Z) hx) Z)) ?_
                refine OJ.es Z Z (Es.store oI hS (i := 3) Z Z Z Z Z Z (vs := cSpot.enc t13) Z (cSpot.len _) (cSpot.one _) (Nat.le_of_ble_eq_true Z) (cSpot.enc t13) Z) ?_
                intro w1 hS
                refine OJ.nil (EJ.next ?_)
                refine CJ.region ?_
                refine OJ.pures oU 1 Z ?_
                refine OJ.nil (EJ.blk (EJ.next ?_))
                refine CJ.region ?_
                refine OJ.pures oU 3 Z ?_
                refine OJ.nil ?_
                exact EJ.round k (F' := [(0, .pointer (some pa0)), (1, .pointer (some pa1)), (4, .pointer (some ⟨b1, 0, none⟩)), (6, .slice A3 t2.length c4), (7, .pointer (some ⟨b6, 0, none⟩)), (8, .pointer (some ⟨b7, 0, none⟩)), (9, .bool true), (10, .int .i64 (IntKind.i64.wrap (y12 + 1)))]) ⟨Z, Z, Z, Z, Z, Z, Z, Z, trivial⟩ (Nat.lt_succ_self _) ⟨t13, true, (IntKind.i64.wrap (y12 + 1)), Z, hS.pick [0, 1, 2, 3] [0, 1] Z, H⟩
            · replace H := pif_f (of_decide_eq_false hb) H
              refine OJ.pures oU 4 Z ?_
              refine OJ.split (t := 100) Z (fun hb => ?_) (fun hb => ?_)
              · replace H := pif_t (of_decide_eq_true hb) H
                refine OJ.pures oU 6 Z (OJ.nil (EJ.next ?_))
                refine CJ.seq (CJ.region ?_)
                refine OJ.pures oU 3 Z ?_
                refine OJ.split (t := 108) Z (fun hb => ?_) (fun hb => ?_)
                · replace H := pif_t hb H
                  refine OJ.pures oU 2 Z (OJ.nil (EJ.next ?_))
                  refine CJ.condT Z ?_
                  refine CJ.seq (CJ.region ?_)
                  refine OJ.st Z Z Z (SR.load Z Z (fun w' hx => ldE oU oI Z Z Z (CA.ext (hS.cells (i := 4) Z) hx) Z)) ?_
                  refine OJ.es Z Z (Es.store oI hS (i := 3) Z Z Z Z Z Z (vs := cSpot.enc t13) Z (cSpot.len _) (cSpot.one _) (Nat.le_of_ble_eq_true Z) (cSpot.enc t13) Z) ?_
                  intro w1 hS
                  refine OJ.nil (EJ.next ?_)
                  refine CJ.region ?_
                  refine OJ.pures oU 1 Z ?_
                  refine OJ.nil (EJ.blk (EJ.next ?_))
                  refine CJ.region ?_
                  refine OJ.pures oU 3 Z ?_
                  refine OJ.nil ?_
                  exact EJ.round k (F' := [(0, .pointer (some pa0)), (1, .pointer (some pa1)), (4, .pointer (some ⟨b1, 0, none⟩)), (6, .slice A3 t2.length c4), (7, .pointer (some ⟨b6, 0, none⟩)), (8, .pointer (some ⟨b7, 0, none⟩)), (9, .bool true), (10, .int .i64 (IntKind.i64.wrap (y12 + 1)))]) ⟨Z, Z, Z, Z, Z, Z, Z, Z, trivial⟩ (Nat.lt_succ_self _) ⟨t13, true, (IntKind.i64.wrap (y12 + 1)), Z, hS.pick [0, 1, 2, 3] [0, 1] Z, H⟩
                · replace H := pifb_f hb H
                  refine OJ.pures oU 2 Z (OJ.nil (EJ.next ?_))
                  refine CJ.cond Z (fun hb => ?_) (fun hb => ?_)
                  · replace H := pif_t (of_decide_eq_true hb) H
                    refine CJ.seq (CJ.region ?_)
                    refine OJ.st Z Z Z (SR.load Z Z (fun w' hx => ldE oU oI Z Z Z (CA.ext (hS.cells (i := 4) Z) hx) Z)) ?_
                    refine OJ.es Z Z (Es.store oI hS (i := 3) Z Z Z Z Z Z (vs := cSpot.enc t13) Z (cSpot.len _) (cSpot.one _) (Nat.le_of_ble_eq_true Z) (cSpot.enc t13) Z) ?_
                    intro w1 hS
                    refine OJ.nil (EJ.next ?_)
                    refine CJ.region ?_
                    refine OJ.pures oU 1 Z ?_
                    refine OJ.nil (EJ.blk (EJ.next ?_))
                    refine CJ.region ?_
                    refine OJ.pures oU 3 Z ?_
                    refine OJ.nil ?_
                    exact EJ.round k (F' := [(0, .pointer (some pa0)), (1, .pointer (some pa1)), (4, .pointer (some ⟨b1, 0, none⟩)), (6, .slice A3 t2.length c4), (7, .pointer (some ⟨b6, 0, none⟩)), (8, .pointer (some ⟨b7, 0, none⟩)), (9, .bool true), (10, .int .i64 (IntKind.i64.wrap (y12 + 1)))]) ⟨Z, Z, Z, Z, Z, Z, Z, Z, trivial⟩ (Nat.lt_succ_self _) ⟨t13, true, (IntKind.i64.wrap (y12 + 1)), Z, hS.pick [0, 1, 2, 3] [0, 1] Z, H⟩
                  · replace H := pif_f (of_decide_eq_false hb) H
                    refine CJ.skip (EJ.blk (EJ.next ?_))
                    refine CJ.region ?_
                    refine OJ.pures oU 3 Z ?_
                    refine OJ.nil ?_
                    exact EJ.round k (F' := [(0, .pointer (some pa0)), (1, .pointer (some pa1)), (4, .pointer (some ⟨b1, 0, none⟩)), (6, .slice A3 t2.length c4), (7, .pointer (some ⟨b6, 0, none⟩)), (8, .pointer (some ⟨b7, 0, none⟩)), (9, .bool y11), (10, .int .i64 (IntKind.i64.wrap (y12 + 1)))]) ⟨Z, Z, Z, Z, Z, Z, Z, Z, trivial⟩ (Nat.lt_succ_self _) ⟨y10, y11, (IntKind.i64.wrap (y12 + 1)), Z, hS.pick [0, 1, 2, 3] [0, 1] Z, H⟩
              · replace H := pif_f (of_decide_eq_false hb) H
                refine OJ.pures oU 6 Z (OJ.nil (EJ.next ?_))
                refine CJ.seq (CJ.region ?_)
                refine OJ.pures oU 3 Z ?_
                refine OJ.split (t := 108) Z (fun hb => ?_) (fun hb => ?_)
                · replace H := pif_t hb H
                  refine OJ.pures oU 2 Z (OJ.nil (EJ.next ?_))
                  refine CJ.condT Z ?_
                  refine CJ.seq (CJ.region ?_)
                  refine OJ.st Z Z Z (SR.load Z Z (fun w' hx => ldE oU oI Z Z Z (CA.ext (hS.cells (i := 4) Z) hx) Z)) ?_
                  refine OJ.es Z Z (Es.store oI hS (i := 3) Z Z Z Z Z Z (vs := cSpot.enc t13) Z (cSpot.len _) (cSpot.one _) (Nat.le_of_ble_eq_true Z) (cSpot.enc t13) Z) ?_
                  intro w1 hS
                  refine OJ.nil (EJ.next ?_)
                  refine CJ.region ?_
                  refine OJ.pures oU 1 Z ?_
                  refine OJ.nil (EJ.blk (EJ.next ?_))
                  refine CJ.region ?_
                  refine OJ.pures oU 3 Z ?_
                  refine OJ.nil ?_
                  exact EJ.round k (F' := [(0, .pointer (some pa0)), (1, .pointer (some pa1)), (4, .pointer (some ⟨b1, 0, none⟩)), (6, .slice A3 t2.length c4), (7, .pointer (some ⟨b6, 0, none⟩)), (8, .pointer (some ⟨b7, 0, none⟩)), (9, .bool true), (10, .int .i64 (IntKind.i64.wrap (y12 + 1)))]) ⟨Z, Z, Z, Z, Z, Z, Z, Z, trivial⟩ (Nat.lt_succ_self _) ⟨t13, true, (IntKind.i64.wrap (y12 + 1)), Z, hS.pick [0, 1, 2, 3] [0, 1] Z, H⟩
                · replace H := pifb_f hb H
                  refine OJ.pures oU 2 Z (OJ.nil (EJ.next ?_))
                  refine CJ.condF Z ?_
                  refine CJ.skip (EJ.blk (EJ.next ?_))
                  refine CJ.region ?_
                  refine OJ.pures oU 3 Z ?_
                  refine OJ.nil ?_
                  exact EJ.round k (F' := [(0, .pointer (some pa0)), (1, .pointer (some pa1)), (4, .pointer (some ⟨b1, 0, none⟩)), (6, .slice A3 t2.length c4), (7, .pointer (some ⟨b6, 0, none⟩)), (8, .pointer (some ⟨b7, 0, none⟩)), (9, .bool y11), (10, .int .i64 (IntKind.i64.wrap (y12 + 1)))]) ⟨Z, Z, Z, Z, Z, Z, Z, Z, trivial⟩ (Nat.lt_succ_self _) ⟨y10, y11, (IntKind.i64.wrap (y12 + 1)), Z, hS.pick [0, 1, 2, 3] [0, 1] Z, H⟩
          · replace H := pif_f (of_decide_eq_false hb) H
            refine CJ.skip (EJ.next ?_)
            refine CJ.seq (CJ.region ?_)
            refine OJ.pures oU 3 Z ?_
            refine OJ.split (t := 108) Z (fun hb => ?_) (fun hb => ?_)
            · replace H := pif_t hb H
              refine OJ.pures oU 2 Z (OJ.nil (EJ.next ?_))
              refine CJ.condT Z ?_
              refine CJ.seq (CJ.region ?_)
              refine OJ.st Z Z Z (SR.load Z Z (fun w' hx => ldE oU oI Z Z Z (CA.ext (hS.cells (i := 4) Z) hx) Z)) ?_
              refine OJ.es Z Z (Es.store oI hS (i := 3) Z Z Z Z Z Z (vs := cSpot.enc t13) Z (cSpot.len _) (cSpot.one _) (Nat.le_of_ble_eq_true Z) (cSpot.enc t13) Z) ?_
              intro w1 hS
              refine OJ.nil (EJ.next ?_)
              refine CJ.region ?_
              refine OJ.pures oU 1 Z ?_
              refine OJ.nil (EJ.blk (EJ.next ?_))
              refine CJ.region ?_
              refine OJ.pures oU 3 Z ?_
              refine OJ.nil ?_
              exact EJ.round k (F' := [(0, .pointer (some pa0)), (1, .pointer (some pa1)), (4, .pointer (some ⟨b1, 0, none⟩)), (6, .slice A3 t2.length c4), (7, .pointer (some ⟨b6, 0, none⟩)), (8, .pointer (some ⟨b7, 0, none⟩)), (9, .bool true), (10, .int .i64 (IntKind.i64.wrap (y12 + 1)))]) ⟨Z, Z, Z, Z, Z, Z, Z, Z, trivial⟩ (Nat.lt_succ_self _) ⟨t13, true, (IntKind.i64.wrap (y12 + 1)), Z, hS.pick [0, 1, 2, 3] [0, 1] Z, H⟩
            · replace H := pifb_f hb H
              refine OJ.pures oU 2 Z (OJ.nil (EJ.next ?_))
              refine CJ.cond Z (fun hb => ?_) (fun hb => ?_)
              · replace H := pif_t hb H
                refine CJ.seq (CJ.region ?_)
                refine OJ.st Z Z Z (SR.load Z Z (fun w' hx => ldE oU oI Z Z Z (CA.ext (hS.cells (i := 4) Z) hx) Z)) ?_
                refine OJ.es Z Z (Es.store oI hS (i := 3) Z Z Z Z Z Z (vs := cSpot.enc t13) Z (cSpot.len _) (cSpot.one _) (Nat.le_of_ble_eq_true Z) (cSpot.enc t13) Z) ?_
                intro w1 hS
                refine OJ.nil (EJ.next ?_)
                refine CJ.region ?_
                refine OJ.pures oU 1 Z ?_
                refine OJ.nil (EJ.blk (EJ.next ?_))
                refine CJ.region ?_
                refine OJ.pures oU 3 Z ?_
                refine OJ.nil ?_
                exact EJ.round k (F' := [(0, .pointer (some pa0)), (1, .pointer (some pa1)), (4, .pointer (some ⟨b1, 0, none⟩)), (6, .slice A3 t2.length c4), (7, .pointer (some ⟨b6, 0, none⟩)), (8, .pointer (some ⟨b7, 0, none⟩)), (9, .bool true), (10, .int .i64 (IntKind.i64.wrap (y12 + 1)))]) ⟨Z, Z, Z, Z, Z, Z, Z, Z, trivial⟩ (Nat.lt_succ_self _) ⟨t13, true, (IntKind.i64.wrap (y12 + 1)), Z, hS.pick [0, 1, 2, 3] [0, 1] Z, H⟩
              · replace H := pifb_f hb H
                refine CJ.skip (EJ.blk (EJ.next ?_))
                refine CJ.region ?_
                refine OJ.pures oU 3 Z ?_
                refine OJ.nil ?_
                exact EJ.round k (F' := [(0, .pointer (some pa0)), (1, .pointer (some pa1)), (4, .pointer (some ⟨b1, 0, none⟩)), (6, .slice A3 t2.length c4), (7, .pointer (some ⟨b6, 0, none⟩)), (8, .pointer (some ⟨b7, 0, none⟩)), (9, .bool y11), (10, .int .i64 (IntKind.i64.wrap (y12 + 1)))]) ⟨Z, Z, Z, Z, Z, Z, Z, Z, trivial⟩ (Nat.lt_succ_self _) ⟨y10, y11, (IntKind.i64.wrap (y12 + 1)), Z, hS.pick [0, 1, 2, 3] [0, 1] Z, H⟩
    · replace H := pif_f (of_decide_eq_false hb) H
      refine CJ.exit (EJ.skE (EJ.skE (EJ.hit (?_))))
      exact EJ.meet (F' := [(4, .pointer (some ⟨b1, 0, none⟩)), (8, .pointer (some ⟨b7, 0, none⟩)), (9, .bool y11)]) ⟨Z, Z, Z, trivial⟩ ⟨y10, y11, H, Z, hS.pick [0, 3] [0, 1] Z⟩
 rintro F w1 ⟨y8, y9, he, rfl, hS⟩
 obtain rfl := Option.some.inj he
 have H := K279
 refine EJ.next ?_
 refine CJ.seq (CJ.region ?_)
 refine OJ.st Z Z Z (SR.load Z Z (fun w' hx => ldE oU oI Z Z Z (CA.ext (hS.cells (i := 1) Z) hx) Z)) ?_
 refine OJ.pures oU 1 Z ?_
 refine OJ.es Z Z (Es.store oI hS (i := 0) Z Z Z Z Z Z (vs := cSpot.enc y8) Z (cSpot.len _) (cSpot.one _) (Nat.le_of_ble_eq_true Z) (cSpot.enc y8) Z) ?_
 intro w1 hS
 refine OJ.pures oU 1 Z (OJ.nil (EJ.next ?_))
 refine CJ.ret (?_)
 obtain rfl := Option.some.inj H
 exact EJ.fin Z (.cell Z (ldE oU oI Z Z Z (hS.cells (i := 0) Z) Z) (.tmp Z .nil)) ⟨Z, hS.ext⟩

def spec_l02Asked.f (k : Nat) (a0 : Pasture) (a1 : Goat) (a2 : Int) : Option Int := (spec_l02One.f k a0 a1).bind fun t1 => (if t1 = 0 then ((spec_l00In.f a2 0 100).bind fun t3 => some (!t3)) else (some false)).bind fun y2 => if y2 = true then ((some ()).bind fun _ => some 2) else ((if t1 = 0 then (some (decide (a2 = 0))) else (some false)).bind fun y4 => if y4 = true then (some 4) else (if t1 = 0 then ((spec_l02Choice.f k a0 a1).bind fun t5 => if (!t5.2) = true then (some 6) else (some t1)) else (some t1)))
theorem spec_l02Asked.c (k : Nat) (w : World) (pa0 : Addr) (a0 : Pasture) (hp0 : CA w pa0 (cPasture.enc a0)) (pa1 : Addr) (a1 : Goat) (hp1 : CA w pa1 (cGoat.enc a1)) (a2 : Int) (r : Int) (H : spec_l02Asked.f k a0 a1 a2 = some r) :
 CV Tryz.prog 66 [.pointer (some pa0), .pointer (some pa1), .int .i64 a2].toArray w fun v w' => v = .int .i64 r ∧ Ext w w' := by
 have hS := (((St.init w no).paramP pa0 (cPasture.enc a0) hp0).paramP pa1 (cGoat.enc a1) hp1)
 unfold spec_l02Asked.f at H
 refine CV.body Tryz.func66 Z Tryz.ntmps66 Z ?_
 refine CJ.seq (CJ.region ?_)
 refine OJ.pures oU 1 Z (OJ.nil (EJ.next ?_))
 refine CJ.seq (CJ.region ?_)
 refine OJ.pures oU 2 Z ?_
 obtain ⟨t1, ht1, H⟩ := pbind H
 refine OJ.callF Z Z Z Z Z hb58 Z (spec_l02One.c k _ _ a0 (hS.ca (i := 0) Z) _ a1 (hS.ca (i := 1) Z) _ ht1) ?_
 rintro _ w1 ⟨rfl, hs⟩
 replace hS := hS.grow hs
 refine OJ.pures oU 1 Z (OJ.nil (EJ.next ?_))
 refine CJ.seq ?_
 obtain ⟨j276, H, K276⟩ := pbind H
 refine CJ.cut (fun F w1 => ∃ (y2 : Bool) , (some y2 : Option Bool) = some j276 ∧ F = [(0, .pointer (some pa0)), (1, .pointer (some pa1)), (2, .int .i64 a2), (7, .int .i64 t1), (19, .bool y2)] ∧ St w no w1 [] [roP pa0 (cPasture.enc a0), roP pa1 (cGoat.enc a1)]) ?_ ?_
 ·skip
  refine CJ.region ?_
  refine OJ.pures oU 3 Z ?_
  refine OJ.split (t := 15) Z (fun hb => ?_) (fun hb => ?_)
  ·replace H := pif_t (of_decide_eq_true hb) H
   refine OJ.pures oU 1 Z ?_
   obtain ⟨t3, ht3, H⟩ := pbind H
   refine OJ.callF Z Z Z Z Z hb105 Z (spec_l00In.c _ a2 0 100 _ ht3) ?_
   rintro _ w1 ⟨rfl, hs⟩
   replace hS := hS.grow hs
   refine OJ.pures oU 2 Z ?_
   refine OJ.nil ?_
   exact EJ.meet (F' := [(0, .pointer (some pa0)), (1, .pointer (some pa1)), (2, .int .i64 a2), (7, .int .i64 t1), (19, .bool (!t3))]) ⟨Z, Z, Z, Z, Z, trivial⟩ ⟨(!t3), H, Z, hS.pick [] [0, 1] Z⟩
  replace H := pif_f (of_decide_eq_false hb) H
  refine OJ.pures oU 4 Z ?_
  refine OJ.nil ?_
  exact EJ.meet (F' := [(0, .pointer (some pa0)), (1, .pointer (some pa1)), (2, .int .i64 a2), (7, .int .i64 t1), (19, .bool false)]) ⟨Z, Z, Z, Z, Z, trivial⟩ ⟨false, H, Z, hS.pick [] [0, 1] Z⟩
 rintro F w1 ⟨y2, he, rfl, hS⟩
 obtain rfl := Option.some.inj he
 have H := K276
 refine CJ.cond Z (fun hb => ?_) (fun hb => ?_)
 ·replace H := pif_t hb H
  refine CJ.region ?_
  refine OJ.pures oU 1 Z (OJ.nil (EJ.next ?_))
  refine CJ.seq ?_
  obtain ⟨j277, H, K277⟩ := pbind H
  refine CJ.cut (fun F w1 => (some () : Option Unit) = some j277 ∧ F = [(0, .pointer (some pa0)), (1, .pointer (some pa1)), (7, .int .i64 2), (25, .bool false)] ∧ St w no w1 [] [roP pa0 (cPasture.enc a0), roP pa1 (cGoat.enc a1)]) ?_ ?_
  ·skip
   refine CJ.region ?_
   refine OJ.pures oU 6 Z ?_
   refine OJ.nil ?_
   exact EJ.meet (F' := [(0, .pointer (some pa0)), (1, .pointer (some pa1)), (7, .int .i64 2), (25, .bool false)]) ⟨Z, Z, Z, Z, trivial⟩ ⟨H, Z, hS.pick [] [0, 1] Z⟩
  rintro F w1 ⟨he, rfl, hS⟩
  obtain rfl := Option.some.inj he
  have H := K277
  refine CJ.condF Z ?_
  refine CJ.skip (EJ.next ?_)
  refine CJ.seq ?_
  refine CJ.seq (CJ.region ?_)
  refine OJ.pures oU 2 Z (OJ.nil (EJ.next ?_))
  refine CJ.condF Z ?_
  refine CJ.skip (EJ.next ?_)
  refine CJ.seq (CJ.region ?_)
  refine OJ.pures oU 2 Z (OJ.nil (EJ.next ?_))
  refine CJ.ret (?_)
  obtain rfl := Option.some.inj H
  exact EJ.fin Z (.tmp Z .nil) ⟨Z, hS.ext⟩
 replace H := pifb_f hb H
 refine CJ.skip (EJ.next ?_)
 refine CJ.seq ?_
 obtain ⟨j278, H, K278⟩ := pbind H
 refine CJ.cut (fun F w1 => ∃ (y4 : Bool) , (some y4 : Option Bool) = some j278 ∧ F = [(0, .pointer (some pa0)), (1, .pointer (some pa1)), (7, .int .i64 t1), (25, .bool y4)] ∧ St w no w1 [] [roP pa0 (cPasture.enc a0), roP pa1 (cGoat.enc a1)]) ?_ ?_
 ·skip
  refine CJ.region ?_
  refine OJ.pures oU 3 Z ?_
  refine OJ.split (t := 22) Z (fun hb => ?_) (fun hb => ?_)
  ·replace H := pif_t (of_decide_eq_true hb) H
   refine OJ.pures oU 3 Z ?_
   refine OJ.nil ?_
   exact EJ.meet (F' := [(0, .pointer (some pa0)), (1, .pointer (some pa1)), (7, .int .i64 t1), (25, .bool (decide (a2 = 0)))]) ⟨Z, Z, Z, Z, trivial⟩ ⟨(decide (a2 = 0)), H, Z, hS.pick [] [0, 1] Z⟩
  replace H := pif_f (of_decide_eq_false hb) H
  refine OJ.pures oU 3 Z ?_
  refine OJ.nil ?_
  exact EJ.meet (F' := [(0, .pointer (some pa0)), (1, .pointer (some pa1)), (7, .int .i64 t1), (25, .bool false)]) ⟨Z, Z, Z, Z, trivial⟩ ⟨false, H, Z, hS.pick [] [0, 1] Z⟩
 rintro F w1 ⟨y4, he, rfl, hS⟩
 obtain rfl := Option.some.inj he
 have H := K278
 refine CJ.cond Z (fun hb => ?_) (fun hb => ?_)
 ·replace H := pif_t hb H
  refine CJ.region ?_
  refine OJ.pures oU 1 Z (OJ.nil (EJ.next ?_))
  refine CJ.seq ?_
  refine CJ.seq (CJ.region ?_)
  refine OJ.pures oU 2 Z (OJ.nil (EJ.next ?_))
  refine CJ.condF Z ?_
  refine CJ.skip (EJ.next ?_)
  refine CJ.seq (CJ.region ?_)
  refine OJ.pures oU 2 Z (OJ.nil (EJ.next ?_))
  refine CJ.ret (?_)
  obtain rfl := Option.some.inj H
  exact EJ.fin Z (.tmp Z .nil) ⟨Z, hS.ext⟩
 replace H := pifb_f hb H
 refine CJ.skip (EJ.next ?_)
 refine CJ.seq ?_
 refine CJ.seq (CJ.region ?_)
 refine OJ.pures oU 2 Z (OJ.nil (EJ.next ?_))
 refine CJ.cond Z (fun hb => ?_) (fun hb => ?_)
 ·replace H := pif_t (of_decide_eq_true hb) H
  refine CJ.seq (CJ.region ?_)
  refine OJ.pures oU 2 Z ?_
  obtain ⟨t5, ht5, H⟩ := pbind H
  refine OJ.callF Z Z Z Z Z hb67 Z (spec_l02Choice.c k _ _ a0 (hS.ca (i := 0) Z) _ a1 (hS.ca (i := 1) Z) _ ht5) ?_
  rintro _ w1 ⟨rfl, hs⟩
  replace hS := hS.grow hs
  refine OJ.pures oU 3 Z ?_
  refine OJ.ef Z Z Z (Ef.alloc hS oI Z Z (cSpot.enc (⟨0, 0⟩ : Spot)) Z) ?_
  rintro _ w1 ⟨b6, rfl, hS⟩
  refine OJ.es Z Z (Es.store oI hS (i := 0) Z Z Z Z Z Z (vs := cSpot.enc t5.1) Z (cSpot.len _) (cSpot.one _) (Nat.le_of_ble_eq_true Z) (cSpot.enc t5.1) Z) ?_
  intro w1 hS
  refine OJ.pures oU 1 Z (OJ.nil (EJ.next ?_))
  refine CJ.seq (CJ.region ?_)
  refine OJ.pures oU 2 Z (OJ.nil (EJ.next ?_))
  refine CJ.cond Z (fun hb => ?_) (fun hb => ?_)
  ·replace H := pif_t hb H
   refine CJ.region ?_
   refine OJ.pures oU 1 Z (OJ.nil (EJ.next ?_))
   refine CJ.seq (CJ.region ?_)
   refine OJ.pures oU 2 Z (OJ.nil (EJ.next ?_))
   refine CJ.ret (?_)
   obtain rfl := Option.some.inj H
   exact EJ.fin Z (.tmp Z .nil) ⟨Z, hS.ext⟩
  replace H := pifb_f hb H
  refine CJ.skip (EJ.next ?_)
  refine CJ.seq (CJ.region ?_)
  refine OJ.pures oU 2 Z (OJ.nil (EJ.next ?_))
  refine CJ.ret (?_)
  obtain rfl := Option.some.inj H
  exact EJ.fin Z (.tmp Z .nil) ⟨Z, hS.ext⟩
 replace H := pif_f (of_decide_eq_false hb) H
 refine CJ.skip (EJ.next ?_)
 refine CJ.seq (CJ.region ?_)
 refine OJ.pures oU 2 Z (OJ.nil (EJ.next ?_))
 refine CJ.ret (?_)
 obtain rfl := Option.some.inj H
 exact EJ.fin Z (.tmp Z .nil) ⟨Z, hS.ext⟩

def spec_ChoiceOf.f (k : Nat) (a0 : Pasture) (a1 : Goat) (a2 : Int) : Option (Spot × Int) := (spec_l02Asked.f k a0 a1 a2).bind fun t4 => if t4 ≠ 0 then (some ((⟨0, 0⟩ : Spot), t4)) else ((spec_l02Choice.f k a0 a1).bind fun t5 => some (t5.1, 0))
theorem spec_ChoiceOf.c (k : Nat) (w : World) (a0 : Pasture) (a1 : Goat) (a2 : Int) (r : Spot × Int) (H : spec_ChoiceOf.f k a0 a1 a2 = some r) :
 CV Tryz.prog 23 [.agg (cPasture.enc a0).toArray, .agg (cGoat.enc a1).toArray, .int .i64 a2].toArray w fun v w' => v = .tuple #[.agg (cSpot.enc r.1).toArray, .int .i64 r.2] ∧ Ext w w' := by
 have hS := (St.init w no)
 unfold spec_ChoiceOf.f at H
 refine CV.body Tryz.func23 Z Tryz.ntmps23 Z ?_
 refine CJ.seq (CJ.region ?_)
 refine OJ.ef Z Z Z (Ef.box hS Z Z (cPasture.enc a0) Z) ?_
 rintro _ w1 ⟨b1, rfl, hS⟩
 refine OJ.ef Z Z Z (Ef.box hS Z Z (cGoat.enc a1) Z) ?_
 rintro _ w1 ⟨b2, rfl, hS⟩
 refine OJ.ef Z Z Z (Ef.alloc hS oI Z Z (cSpot.enc (⟨0, 0⟩ : Spot)) Z) ?_
 rintro _ w1 ⟨b3, rfl, hS⟩
 refine OJ.pures oU 1 Z (OJ.nil (EJ.next ?_))
 refine CJ.seq ?_
 refine CJ.seq (CJ.region ?_)
 refine OJ.pures oU 1 Z ?_
 obtain ⟨t4, ht4, H⟩ := pbind H
 refine OJ.callF Z Z Z Z Z hb66 Z (spec_l02Asked.c k _ _ a0 (hS.cells (i := 0) Z) _ a1 (hS.cells (i := 1) Z) a2 _ ht4) ?_
 rintro _ w1 ⟨rfl, hs⟩
 replace hS := hS.grow hs
 refine OJ.pures oU 1 Z (OJ.nil (EJ.next ?_))
 refine CJ.seq (CJ.region ?_)
 refine OJ.pures oU 2 Z (OJ.nil (EJ.next ?_))
 refine CJ.cond Z (fun hb => ?_) (fun hb => ?_)
 ·replace H := pif_t (of_decide_eq_true hb) H
  refine CJ.seq (CJ.region ?_)
  refine OJ.st Z Z Z (SR.build (C := cSpot) oU oI Z Z Z (zs := [.int .i8 0, .int .i8 0]) Z Z Z (⟨0, 0⟩ : Spot) Z) ?_
  refine OJ.pures oU 1 Z ?_
  refine OJ.es Z Z (Es.store oI hS (i := 2) Z Z Z Z Z Z (vs := cSpot.enc (⟨0, 0⟩ : Spot)) Z (cSpot.len _) (cSpot.one _) (Nat.le_of_ble_eq_true Z) (cSpot.enc (⟨0, 0⟩ : Spot)) Z) ?_
  intro w1 hS
  refine OJ.pures oU 1 Z (OJ.nil (EJ.next ?_))
  refine CJ.ret (EJ.skR (?_))
  obtain rfl := Option.some.inj H
  exact EJ.fin Z (.cell Z (ldE oU oI Z Z Z (hS.cells (i := 2) Z) Z) (.tmp Z .nil)) ⟨Z, hS.ext⟩
 replace H := pif_f (of_decide_eq_false hb) H
 refine CJ.skip (EJ.next ?_)
 refine CJ.seq (CJ.region ?_)
 obtain ⟨t5, ht5, H⟩ := pbind H
 refine OJ.callF Z Z Z Z Z hb67 Z (spec_l02Choice.c k _ _ a0 (hS.cells (i := 0) Z) _ a1 (hS.cells (i := 1) Z) _ ht5) ?_
 rintro _ w1 ⟨rfl, hs⟩
 replace hS := hS.grow hs
 refine OJ.pures oU 3 Z ?_
 refine OJ.ef Z Z Z (Ef.alloc hS oI Z Z (cSpot.enc (⟨0, 0⟩ : Spot)) Z) ?_
 rintro _ w1 ⟨b6, rfl, hS⟩
 refine OJ.es Z Z (Es.store oI hS (i := 3) Z Z Z Z Z Z (vs := cSpot.enc t5.1) Z (cSpot.len _) (cSpot.one _) (Nat.le_of_ble_eq_true Z) (cSpot.enc t5.1) Z) ?_
 intro w1 hS
 refine OJ.pures oU 1 Z (OJ.nil (EJ.next ?_))
 refine CJ.seq (CJ.region ?_)
 refine OJ.st Z Z Z (SR.load Z Z (fun w' hx => ldE oU oI Z Z Z (CA.ext (hS.cells (i := 3) Z) hx) Z)) ?_
 refine OJ.es Z Z (Es.store oI hS (i := 2) Z Z Z Z Z Z (vs := cSpot.enc t5.1) Z (cSpot.len _) (cSpot.one _) (Nat.le_of_ble_eq_true Z) (cSpot.enc t5.1) Z) ?_
 intro w1 hS
 refine OJ.pures oU 1 Z (OJ.nil (EJ.next ?_))
 refine CJ.ret (?_)
 obtain rfl := Option.some.inj H
 exact EJ.fin Z (.cell Z (ldE oU oI Z Z Z (hS.cells (i := 2) Z) Z) (.tmp Z .nil)) ⟨Z, hS.ext⟩

def impl_StepsBetween.f (k : Nat) (a0 : Pasture) (a1 : Spot) (a2 : Spot) : Option (Int × Int) := (impl_cellCode.f k a0 ([a1, a2] : List Spot)).bind fun t5 => if t5 ≠ 0 then (some (0, t5)) else ((impl_Pasture_far.f k a0 ([a1] : List Spot)).bind fun t7 => (impl_steps_at.f t7 a2).bind fun t9 => if t9 < 0 then (some (0, 6)) else ((impl_steps_at.f t7 a2).bind fun t10 => some (t10, 0)))
theorem impl_StepsBetween.c (k : Nat) (w : World) (a0 : Pasture) (a1 : Spot) (a2 : Spot) (r : Int × Int) (H : impl_StepsBetween.f k a0 a1 a2 = some r) :
 CV Tryz.prog 24 [.agg (cPasture.enc a0).toArray, .agg (cSpot.enc a1).toArray, .agg (cSpot.enc a2).toArray].toArray w fun v w' => v = .tuple #[.int .i64 r.1, .int .i64 r.2] ∧ Ext w w' := by
 have hS := (St.init w no)
 unfold impl_StepsBetween.f at H
 refine CV.body Tryz.func24 Z Tryz.ntmps24 Z ?_
 refine CJ.seq (CJ.region ?_)
 refine OJ.ef Z Z Z (Ef.box hS Z Z (cPasture.enc a0) Z) ?_
 rintro _ w1 ⟨b1, rfl, hS⟩
 refine OJ.ef Z Z Z (Ef.box hS Z Z (cSpot.enc a1) Z) ?_
 rintro _ w1 ⟨b2, rfl, hS⟩
 refine OJ.ef Z Z Z (Ef.box hS Z Z (cSpot.enc a2) Z) ?_
 rintro _ w1 ⟨b3, rfl, hS⟩
 refine OJ.pures oU 2 Z (OJ.nil (EJ.next ?_))
 refine CJ.seq ?_
 refine CJ.seq (CJ.region ?_)
 refine OJ.st Z Z Z (SR.load Z Z (fun w' hx => ldE oU oI Z Z Z (CA.ext (hS.cells (i := 0) Z) hx) Z)) ?_
 refine OJ.st Z Z Z (SR.load Z Z (fun w' hx => ldE oU oI Z Z Z (CA.ext (hS.cells (i := 1) Z) hx) Z)) ?_
 refine OJ.st Z Z Z (SR.load Z Z (fun w' hx => ldE oU oI Z Z Z (CA.ext (hS.cells (i := 2) Z) hx) Z)) ?_
 refine OJ.ef Z Z Z (Ef.lit oU oI hS (C := cSpot) Z Z Z Z Z Z ([a1, a2] : List Spot) Z Z Z Z) ?_
 rintro _ w1 ⟨A4, rfl, hS⟩
 obtain ⟨t5, ht5, H⟩ := pbind H
 refine OJ.callF Z Z Z Z Z hb59 Z (impl_cellCode.c k _ a0 A4 (([a1, a2] : List Spot).length) ([a1, a2] : List Spot) (hS.rd (i := 3) Z) (hS.le (i := 3) Z) _ ht5) ?_
 rintro _ w1 ⟨rfl, hs⟩
 replace hS := hS.grow hs
 refine OJ.pures oU 1 Z (OJ.nil (EJ.next ?_))
 refine CJ.seq (CJ.region ?_)
 refine OJ.pures oU 2 Z (OJ.nil (EJ.next ?_))
 refine CJ.cond Z (fun hb => ?_) (fun hb => ?_)
 ·replace H := pif_t (of_decide_eq_true hb) H
  refine CJ.seq (CJ.region ?_)
  refine OJ.pures oU 3 Z (OJ.nil (EJ.next ?_))
  refine CJ.ret (EJ.skR (?_))
  obtain rfl := Option.some.inj H
  exact EJ.fin Z (.tmp Z (.tmp Z .nil)) ⟨Z, hS.ext⟩
 replace H := pif_f (of_decide_eq_false hb) H
 refine CJ.skip (EJ.next ?_)
 refine CJ.seq (CJ.region ?_)
 refine OJ.st Z Z Z (SR.load Z Z (fun w' hx => ldE oU oI Z Z Z (CA.ext (hS.cells (i := 0) Z) hx) Z)) ?_
 refine OJ.st Z Z Z (SR.load Z Z (fun w' hx => ldE oU oI Z Z Z (CA.ext (hS.cells (i := 1) Z) hx) Z)) ?_
 refine OJ.ef Z Z Z (Ef.lit oU oI hS (C := cSpot) Z Z Z Z Z Z ([a1] : List Spot) Z Z Z Z) ?_
 rintro _ w1 ⟨A6, rfl, hS⟩
 obtain ⟨t7, ht7, H⟩ := pbind H
 refine OJ.callF Z Z Z Z Z hb68 Z (impl_Pasture_far.c k _ a0 A6 (([a1] : List Spot).length) ([a1] : List Spot) (hS.rd (i := 4) Z) (hS.le (i := 4) Z) _ ht7) ?_
 rintro _ w1 ⟨rfl, hs⟩
 replace hS := hS.grow hs
 refine OJ.ef rfl rfl rfl (Ef.alloc hS oI rfl rfl ((carr 10 (carr 10 (ci .i16))).enc (Arr.mk' (Arr.mk' 0 : Arr 10 Int) : Arr 10 (Arr 10 Int))) (by kernel_rfl)) ?_
 rintro _ w1 ⟨b8, rfl, hS⟩
 refine OJ.es rfl rfl (Es.put oI hS (i := 5) rfl rfl rfl rfl rfl (vs := (carr 10 (carr 10 (ci .i16))).enc t7) rfl ((carr 10 (carr 10 (ci .i16))).len _) ((carr 10 (carr 10 (ci .i16))).one _) (Put.all (carr 10 (carr 10 (ci .i16))) (Arr.mk' (Arr.mk' 0 : Arr 10 Int) : Arr 10 (Arr 10 Int)) t7) (by (try simp only [add_lit, Nat.add_assoc, Nat.zero_add, Nat.add_zero]) <;> rfl)) ?_
 intro w1 hS
 refine OJ.nil (EJ.next ?_)
 refine CJ.seq ?_
 refine CJ.seq (CJ.region ?_)
 refine OJ.st Z Z Z (SR.load Z Z (fun w' hx => ldE oU oI Z Z Z (CA.ext (hS.cells (i := 2) Z) hx) Z)) ?_
 obtain ⟨t9, ht9, H⟩ := pbind H
 refine OJ.callF Z Z Z Z Z hb69 Z (impl_steps_at.c _ _ t7 (hS.cells (i := 5) Z) a2 _ ht9) ?_
 rintro _ w1 ⟨rfl, hs⟩
 replace hS := hS.grow hs
 refine OJ.pures oU 1 Z (OJ.nil (EJ.next ?_))
 refine CJ.cond Z (fun hb => ?_) (fun hb => ?_)
 ·replace H := pif_t (of_decide_eq_true hb) H
  refine CJ.seq (CJ.region ?_)
  refine OJ.pures oU 2 Z (OJ.nil (EJ.next ?_))
  refine CJ.ret (EJ.skR (?_))
  obtain rfl := Option.some.inj H
  exact EJ.fin Z (.tmp Z (.tmp Z .nil)) ⟨Z, hS.ext⟩
 replace H := pif_f (of_decide_eq_false hb) H
 refine CJ.skip (EJ.next ?_)
 refine CJ.seq (CJ.region ?_)
 refine OJ.st Z Z Z (SR.load Z Z (fun w' hx => ldE oU oI Z Z Z (CA.ext (hS.cells (i := 2) Z) hx) Z)) ?_
 obtain ⟨t10, ht10, H⟩ := pbind H
 refine OJ.callF Z Z Z Z Z hb69 Z (impl_steps_at.c _ _ t7 (hS.cells (i := 5) Z) a2 _ ht10) ?_
 rintro _ w1 ⟨rfl, hs⟩
 replace hS := hS.grow hs
 refine OJ.pures oU 2 Z (OJ.nil (EJ.next ?_))
 refine CJ.ret (?_)
 obtain rfl := Option.some.inj H
 exact EJ.fin Z (.tmp Z (.tmp Z .nil)) ⟨Z, hS.ext⟩

def spec_l01Asked.f (k : Nat) (a0 : Pasture) (a1 : Spot) (a2 : Bool) : Option Int := (spec_l01Ok.f k a0).bind fun t2 => if (!t2) = true then (some 1) else ((spec_l01Is.f a0 a1).bind fun t3 => if (!t3) = true then (some 2) else (if (!a2) = true then (some 2) else (some 0)))
theorem spec_l01Asked.c (k : Nat) (w : World) (pa0 : Addr) (a0 : Pasture) (hp0 : CA w pa0 (cPasture.enc a0)) (a1 : Spot) (a2 : Bool) (r : Int) (H : spec_l01Asked.f k a0 a1 a2 = some r) :
 CV Tryz.prog 70 [.pointer (some pa0), .agg (cSpot.enc a1).toArray, .bool a2].toArray w fun v w' => v = .int .i64 r ∧ Ext w w' := by
 have hS := ((St.init w no).paramP pa0 (cPasture.enc a0) hp0)
 unfold spec_l01Asked.f at H
 refine CV.body Tryz.func70 Z Tryz.ntmps70 Z ?_
 refine CJ.seq (CJ.region ?_)
 refine OJ.ef Z Z Z (Ef.box hS Z Z (cSpot.enc a1) Z) ?_
 rintro _ w1 ⟨b1, rfl, hS⟩
 refine OJ.pures oU 1 Z (OJ.nil (EJ.next ?_))
 refine CJ.seq ?_
 refine CJ.seq (CJ.region ?_)
 refine OJ.pures oU 1 Z ?_
 obtain ⟨t2, ht2, H⟩ := pbind H
 refine OJ.callF Z Z Z Z Z hb96 Z (spec_l01Ok.c k _ _ a0 (hS.ca (i := 0) Z) _ ht2) ?_
 rintro _ w1 ⟨rfl, hs⟩
 replace hS := hS.grow hs
 refine OJ.pures oU 1 Z (OJ.nil (EJ.next ?_))
 refine CJ.cond Z (fun hb => ?_) (fun hb => ?_)
 ·replace H := pif_t hb H
  refine CJ.seq (CJ.region ?_)
  refine OJ.pures oU 1 Z (OJ.nil (EJ.next ?_))
  refine CJ.ret (EJ.skR (?_))
  obtain rfl := Option.some.inj H
  exact EJ.fin Z (.tmp Z .nil) ⟨Z, hS.ext⟩
 replace H := pifb_f hb H
 refine CJ.skip (EJ.next ?_)
 refine CJ.seq ?_
 refine CJ.seq (CJ.region ?_)
 refine OJ.pures oU 1 Z ?_
 refine OJ.st Z Z Z (SR.load Z Z (fun w' hx => ldE oU oI Z Z Z (CA.ext (hS.cells (i := 0) Z) hx) Z)) ?_
 obtain ⟨t3, ht3, H⟩ := pbind H
 refine OJ.callF Z Z Z Z Z hb71 Z (spec_l01Is.c _ _ a0 (hS.ca (i := 0) Z) a1 _ ht3) ?_
 rintro _ w1 ⟨rfl, hs⟩
 replace hS := hS.grow hs
 refine OJ.pures oU 2 Z ?_
 refine OJ.split (t := 14) Z (fun hb => ?_) (fun hb => ?_)
 ·replace H := pif_t hb H
  refine OJ.pures oU 3 Z (OJ.nil (EJ.next ?_))
  refine CJ.condT Z ?_
  refine CJ.seq (CJ.region ?_)
  refine OJ.pures oU 1 Z (OJ.nil (EJ.next ?_))
  refine CJ.ret (EJ.skR (?_))
  obtain rfl := Option.some.inj H
  exact EJ.fin Z (.tmp Z .nil) ⟨Z, hS.ext⟩
 replace H := pifb_f hb H
 refine OJ.pures oU 3 Z (OJ.nil (EJ.next ?_))
 refine CJ.cond Z (fun hb => ?_) (fun hb => ?_)
 ·replace H := pif_t hb H
  refine CJ.seq (CJ.region ?_)
  refine OJ.pures oU 1 Z (OJ.nil (EJ.next ?_))
  refine CJ.ret (EJ.skR (?_))
  obtain rfl := Option.some.inj H
  exact EJ.fin Z (.tmp Z .nil) ⟨Z, hS.ext⟩
 replace H := pifb_f hb H
 refine CJ.skip (EJ.next ?_)
 refine CJ.seq (CJ.region ?_)
 refine OJ.pures oU 1 Z (OJ.nil (EJ.next ?_))
 refine CJ.ret (?_)
 obtain rfl := Option.some.inj H
 exact EJ.fin Z (.tmp Z .nil) ⟨Z, hS.ext⟩

def spec_StepsBetween.f (k : Nat) (a0 : Pasture) (a1 : Spot) (a2 : Spot) : Option (Int × Int) := (spec_l01Is.f a0 a2).bind fun t4 => (spec_l01Asked.f k a0 a1 t4).bind fun t5 => if t5 ≠ 0 then (some (0, t5)) else ((spec_l01Steps.f k a0 a1).bind fun t6 => (getI t6.l a2.Y).bind fun t8 => (getI t8.l a2.X).bind fun t9 => if t9 = 0 then (some (0, 6)) else ((getI t6.l a2.Y).bind fun t10 => (getI t10.l a2.X).bind fun t11 => some (IntKind.i64.wrap (t11 - 1), 0)))
theorem spec_StepsBetween.c (k : Nat) (w : World) (a0 : Pasture) (a1 : Spot) (a2 : Spot) (r : Int × Int) (H : spec_StepsBetween.f k a0 a1 a2 = some r) :
 CV Tryz.prog 25 [.agg (cPasture.enc a0).toArray, .agg (cSpot.enc a1).toArray, .agg (cSpot.enc a2).toArray].toArray w fun v w' => v = .tuple #[.int .i64 r.1, .int .i64 r.2] ∧ Ext w w' := by
 have hS := (St.init w no)
 unfold spec_StepsBetween.f at H
 refine CV.body Tryz.func25 Z Tryz.ntmps25 Z ?_
 refine CJ.seq (CJ.region ?_)
 refine OJ.ef Z Z Z (Ef.box hS Z Z (cPasture.enc a0) Z) ?_
 rintro _ w1 ⟨b1, rfl, hS⟩
 refine OJ.ef Z Z Z (Ef.box hS Z Z (cSpot.enc a1) Z) ?_
 rintro _ w1 ⟨b2, rfl, hS⟩
 refine OJ.ef Z Z Z (Ef.box hS Z Z (cSpot.enc a2) Z) ?_
 rintro _ w1 ⟨b3, rfl, hS⟩
 refine OJ.pures oU 2 Z (OJ.nil (EJ.next ?_))
 refine CJ.seq ?_
 refine CJ.seq ?_
 refine CJ.draw [] [0, 1, 2, 3, 4] mixed (by kernel_rfl) hS fun w1 hS => ?_
 refine DJ.st Z Z Z Z Z (SR.load Z Z (fun w' hx => ldE oU oI Z Z Z (CA.ext (hS.cells (i := 1) Z) hx) Z)) ?_
 refine DJ.st Z Z Z Z Z (SR.load Z Z (fun w' hx => ldE oU oI Z Z Z (CA.ext (hS.cells (i := 2) Z) hx) Z)) ?_
 obtain ⟨t4, ht4, H⟩ := pbind H
 refine DJ.callF rfl rfl rfl rfl rfl rfl rfl hb71 rfl (spec_l01Is.c _ _ a0 (hS.cells (i := 0) rfl) a2 _ ht4) (by rintro v w' ⟨rfl, hs⟩; exact hs) ?_
 rintro _ w1 ⟨rfl, hs⟩
 replace hS := hS.grow hs
 obtain ⟨t5, ht5, H⟩ := pbind H
 refine DJ.callF rfl rfl rfl rfl rfl rfl rfl hb70 rfl (spec_l01Asked.c k _ _ a0 (hS.cells (i := 0) rfl) a1 t4 _ ht5) (by rintro v w' ⟨rfl, hs⟩; exact hs) ?_
 rintro _ w1 ⟨rfl, hs⟩
 replace hS := hS.grow hs
 refine DJ.pures oU 1 Z ?_
 refine DJ.nil (EJ.next ?_)
 refine CJ.seq (CJ.region ?_)
 refine OJ.pures oU 2 Z (OJ.nil (EJ.next ?_))
 refine CJ.cond Z (fun hb => ?_) (fun hb => ?_)
 ·replace H := pif_t (of_decide_eq_true hb) H
  refine CJ.seq (CJ.region ?_)
  refine OJ.pures oU 3 Z (OJ.nil (EJ.next ?_))
  refine CJ.ret (EJ.skR (?_))
  obtain rfl := Option.some.inj H
  exact EJ.fin Z (.tmp Z (.tmp Z .nil)) ⟨Z, hS.ext⟩
 replace H := pif_f (of_decide_eq_false hb) H
 refine CJ.skip (EJ.next ?_)
 refine CJ.seq (CJ.region ?_)
 refine OJ.st Z Z Z (SR.load Z Z (fun w' hx => ldE oU oI Z Z Z (CA.ext (hS.cells (i := 1) Z) hx) Z)) ?_
 obtain ⟨t6, ht6, H⟩ := pbind H
 refine OJ.callF Z Z Z Z Z hb72 Z (spec_l01Steps.c k _ _ a0 (hS.cells (i := 0) Z) a1 _ ht6) ?_
 rintro _ w1 ⟨rfl, hs⟩
 replace hS := hS.grow hs
 refine OJ.ef rfl rfl rfl (Ef.alloc hS oI rfl rfl ((carr 10 (carr 10 (ci .i64))).enc (Arr.mk' (Arr.mk' 0 : Arr 10 Int) : Arr 10 (Arr 10 Int))) (by kernel_rfl)) ?_
 rintro _ w1 ⟨b7, rfl, hS⟩
 refine OJ.es rfl rfl (Es.put oI hS (i := 3) rfl rfl rfl rfl rfl (vs := (carr 10 (carr 10 (ci .i64))).enc t6) rfl ((carr 10 (carr 10 (ci .i64))).len _) ((carr 10 (carr 10 (ci .i64))).one _) (Put.all (carr 10 (carr 10 (ci .i64))) (Arr.mk' (Arr.mk' 0 : Arr 10 Int) : Arr 10 (Arr 10 Int)) t6) (by (try simp only [add_lit, Nat.add_assoc, Nat.zero_add, Nat.add_zero]) <;> rfl)) ?_
 intro w1 hS
 refine OJ.nil (EJ.next ?_)
 refine CJ.seq ?_
 refine CJ.seq ?_
 refine CJ.draw [] [0, 1, 2, 3, 4, 5, 6, 7] mixed (by kernel_rfl) hS fun w1 hS => ?_
 refine DJ.st Z Z Z Z Z (SR.fieldAddr oU oI Z Z Z Z Z Z) ?_
 refine DJ.st Z Z Z Z Z (SR.load Z Z (fun w' hx => ld1 oU Z Z (CA.ext (CA.sub (hS.cells (i := 2) Z) 1) hx) Z)) ?_
 refine DJ.st Z Z Z Z Z (SR.fieldAddr oU oI Z Z Z Z Z Z) ?_
 refine DJ.st Z Z Z Z Z (SR.load Z Z (fun w' hx => ld1 oU Z Z (CA.ext (CA.sub (hS.cells (i := 2) Z) 0) hx) Z)) ?_
 obtain ⟨t8, ht8, H⟩ := pbind H
 refine DJ.st Z Z Z Z Z (SR.idxA oU oI Z Z Z Z Z (Arr.lt ht8)) ?_
 obtain ⟨t9, ht9, H⟩ := pbind H
 refine DJ.st Z Z Z Z Z (SR.idxA oU oI Z Z Z Z Z (Arr.lt ht9)) ?_
 refine DJ.st Z Z Z Z Z (SR.load Z Z (fun w' hx => ld1 oU Z Z (CA.ext (CA.idx (CA.idx (hS.cells (i := 3) Z) ht8) ht9) hx) Z)) ?_
 refine DJ.pures oU 1 Z ?_
 refine DJ.nil (EJ.next ?_)
 refine CJ.cond Z (fun hb => ?_) (fun hb => ?_)
 ·replace H := pif_t (of_decide_eq_true hb) H
  refine CJ.seq (CJ.region ?_)
  refine OJ.pures oU 2 Z (OJ.nil (EJ.next ?_))
  refine CJ.ret (EJ.skR (?_))
  obtain rfl := Option.some.inj H
  exact EJ.fin Z (.tmp Z (.tmp Z .nil)) ⟨Z, hS.ext⟩
 replace H := pif_f (of_decide_eq_false hb) H
 refine CJ.skip (EJ.next ?_)
 refine CJ.seq ?_
 refine CJ.draw [] [0, 1, 2, 3, 4, 5, 6, 7, 8, 9] mixed (by kernel_rfl) hS fun w1 hS => ?_
 refine DJ.st Z Z Z Z Z (SR.fieldAddr oU oI Z Z Z Z Z Z) ?_
 refine DJ.st Z Z Z Z Z (SR.load Z Z (fun w' hx => ld1 oU Z Z (CA.ext (CA.sub (hS.cells (i := 2) Z) 1) hx) Z)) ?_
 refine DJ.st Z Z Z Z Z (SR.fieldAddr oU oI Z Z Z Z Z Z) ?_
 refine DJ.st Z Z Z Z Z (SR.load Z Z (fun w' hx => ld1 oU Z Z (CA.ext (CA.sub (hS.cells (i := 2) Z) 0) hx) Z)) ?_
 obtain ⟨t10, ht10, H⟩ := pbind H
 refine DJ.st Z Z Z Z Z (SR.idxA oU oI Z Z Z Z Z (Arr.lt ht10)) ?_
 obtain ⟨t11, ht11, H⟩ := pbind H
 refine DJ.st Z Z Z Z Z (SR.idxA oU oI Z Z Z Z Z (Arr.lt ht11)) ?_
 refine DJ.st Z Z Z Z Z (SR.load Z Z (fun w' hx => ld1 oU Z Z (CA.ext (CA.idx (CA.idx (hS.cells (i := 3) Z) ht10) ht11) hx) Z)) ?_
 refine DJ.pures oU 3 Z ?_
 refine DJ.nil (EJ.next ?_)
 refine CJ.ret (?_)
 obtain rfl := Option.some.inj H
 exact EJ.fin Z (.tmp Z (.tmp Z .nil)) ⟨Z, hS.ext⟩

def impl_TieGoat.f (k : Nat) (a0 : Pasture) (a1 : Goat) (a2 : Int) : Option (Goat × Int) := (impl_goatCode.f k a0 ([a1] : List Goat)).bind fun t5 => (impl_within.f a2 0 200).bind fun t6 => (impl_unless.f t6 2).bind fun t7 => (impl_firstOf.f k ([t5, t7] : List Int)).bind fun t9 => if t9 ≠ 0 then (some ((⟨(⟨0, 0⟩ : Spot), (⟨0, 0⟩ : Spot), 0, 0, 0⟩ : Goat), t9)) else (some ((⟨a1.At, a1.At, IntKind.i16.wrap a2, a1.Eats, a1.Likes⟩ : Goat), 0))
theorem impl_TieGoat.c (k : Nat) (w : World) (a0 : Pasture) (a1 : Goat) (a2 : Int) (r : Goat × Int) (H : impl_TieGoat.f k a0 a1 a2 = some r) :
 CV Tryz.prog 26 [.agg (cPasture.enc a0).toArray, .agg (cGoat.enc a1).toArray, .int .i64 a2].toArray w fun v w' => v = .tuple #[.agg (cGoat.enc r.1).toArray, .int .i64 r.2] ∧ Ext w w' := by
 have hS := (St.init w no)
 unfold impl_TieGoat.f at H
 refine CV.body Tryz.func26 Z Tryz.ntmps26 Z ?_
 refine CJ.seq (CJ.region ?_)
 refine OJ.ef Z Z Z (Ef.box hS Z Z (cPasture.enc a0) Z) ?_
 rintro _ w1 ⟨b1, rfl, hS⟩
 refine OJ.ef Z Z Z (Ef.box hS Z Z (cGoat.enc a1) Z) ?_
 rintro _ w1 ⟨b2, rfl, hS⟩
 refine OJ.ef Z Z Z (Ef.alloc hS oI Z Z (cGoat.enc (⟨(⟨0, 0⟩ : Spot), (⟨0, 0⟩ : Spot), 0, 0, 0⟩ : Goat)) Z) ?_
 rintro _ w1 ⟨b3, rfl, hS⟩
 refine OJ.pures oU 1 Z (OJ.nil (EJ.next ?_))
 refine CJ.seq ?_
 refine CJ.seq (CJ.region ?_)
 refine OJ.st Z Z Z (SR.load Z Z (fun w' hx => ldE oU oI Z Z Z (CA.ext (hS.cells (i := 0) Z) hx) Z)) ?_
 refine OJ.st Z Z Z (SR.load Z Z (fun w' hx => ldE oU oI Z Z Z (CA.ext (hS.cells (i := 1) Z) hx) Z)) ?_
 refine OJ.ef Z Z Z (Ef.lit oU oI hS (C := cGoat) Z Z Z Z Z Z ([a1] : List Goat) Z Z Z Z) ?_
 rintro _ w1 ⟨A4, rfl, hS⟩
 obtain ⟨t5, ht5, H⟩ := pbind H
 refine OJ.callF Z Z Z Z Z hb44 Z (impl_goatCode.c k _ a0 A4 (([a1] : List Goat).length) ([a1] : List Goat) (hS.rd (i := 3) Z) (hS.le (i := 3) Z) _ ht5) ?_
 rintro _ w1 ⟨rfl, hs⟩
 replace hS := hS.grow hs
 refine OJ.pures oU 1 Z ?_
 obtain ⟨t6, ht6, H⟩ := pbind H
 refine OJ.callF Z Z Z Z Z hb74 Z (impl_within.c _ a2 0 200 _ ht6) ?_
 rintro _ w1 ⟨rfl, hs⟩
 replace hS := hS.grow hs
 obtain ⟨t7, ht7, H⟩ := pbind H
 refine OJ.callF Z Z Z Z Z hb73 Z (impl_unless.c _ t6 2 _ ht7) ?_
 rintro _ w1 ⟨rfl, hs⟩
 replace hS := hS.grow hs
 refine OJ.ef Z Z Z (Ef.lit oU oI hS (C := (ci .i64)) Z Z Z Z Z Z ([t5, t7] : List Int) Z Z Z Z) ?_
 rintro _ w1 ⟨A8, rfl, hS⟩
 obtain ⟨t9, ht9, H⟩ := pbind H
 refine OJ.callF Z Z Z Z Z hb61 Z (impl_firstOf.c k _ A8 (([t5, t7] : List Int).length) ([t5, t7] : List Int) (hS.rd (i := 4) Z) (hS.le (i := 4) Z) _ ht9) ?_
 rintro _ w1 ⟨rfl, hs⟩
 replace hS := hS.grow hs
 refine OJ.pures oU 1 Z (OJ.nil (EJ.next ?_))
 refine CJ.seq (CJ.region ?_)
 refine OJ.pures oU 2 Z (OJ.nil (EJ.next ?_))
 refine CJ.cond Z (fun hb => ?_) (fun hb => ?_)
 ·replace H := pif_t (of_decide_eq_true hb) H
  refine CJ.seq (CJ.region ?_)
  refine OJ.st Z Z Z (SR.build (C := cGoat) oU oI Z Z Z (zs := [.int .i8 0, .int .i8 0, .int .i8 0, .int .i8 0, .int .i16 0, .int .i16 0, .int .i8 0]) Z Z Z (⟨(⟨0, 0⟩ : Spot), (⟨0, 0⟩ : Spot), 0, 0, 0⟩ : Goat) Z) ?_
  refine OJ.pures oU 1 Z ?_
  refine OJ.es Z Z (Es.store oI hS (i := 2) Z Z Z Z Z Z (vs := cGoat.enc (⟨(⟨0, 0⟩ : Spot), (⟨0, 0⟩ : Spot), 0, 0, 0⟩ : Goat)) Z (cGoat.len _) (cGoat.one _) (Nat.le_of_ble_eq_true Z) (cGoat.enc (⟨(⟨0, 0⟩ : Spot), (⟨0, 0⟩ : Spot), 0, 0, 0⟩ : Goat)) Z) ?_
  intro w1 hS
  refine OJ.pures oU 1 Z (OJ.nil (EJ.next ?_))
  refine CJ.ret (EJ.skR (?_))
  obtain rfl := Option.some.inj H
  exact EJ.fin Z (.cell Z (ldE oU oI Z Z Z (hS.cells (i := 2) Z) Z) (.tmp Z .nil)) ⟨Z, hS.ext⟩
 replace H := pif_f (of_decide_eq_false hb) H
 refine CJ.skip (EJ.next ?_)
 refine CJ.seq (CJ.region ?_)
 refine OJ.st Z Z Z (SR.fieldAddr oU oI Z Z Z Z Z Z) ?_
 refine OJ.st Z Z Z (SR.load Z Z (fun w' hx => ldN oU oI Z Z Z (CA.ext (CA.sub (hS.cells (i := 1) Z) 0) hx) (cSpot.len _) Z)) ?_
 refine OJ.pures oU 2 Z ?_
 refine OJ.st Z Z Z (SR.fieldAddr oU oI Z Z Z Z Z Z) ?_
 refine OJ.es Z Z (Es.store oI hS (i := 1) Z Z Z (G.ad1 _ _) Z Z (vs := cSpot.enc a1.At) Z (cSpot.len _) (cSpot.one _) (Nat.le_of_ble_eq_true Z) (cGoat.enc (⟨a1.At, a1.At, a1.Rope, a1.Eats, a1.Likes⟩ : Goat)) Z) ?_
 intro w1 hS
 refine OJ.st Z Z Z (SR.fieldAddr oU oI Z Z Z Z Z Z) ?_
 refine OJ.es Z Z (Es.store oI hS (i := 1) Z Z Z (G.ad1 _ _) Z Z (vs := (ci .i16).enc (IntKind.i16.wrap a2)) Z Z (one1 Z) (Nat.le_of_ble_eq_true Z) (cGoat.enc (⟨a1.At, a1.At, IntKind.i16.wrap a2, a1.Eats, a1.Likes⟩ : Goat)) Z) ?_
 intro w1 hS
 refine OJ.nil (EJ.next ?_)
 refine CJ.seq (CJ.region ?_)
 refine OJ.st Z Z Z (SR.load Z Z (fun w' hx => ldE oU oI Z Z Z (CA.ext (hS.cells (i := 1) Z) hx) Z)) ?_
 refine OJ.es Z Z (Es.store oI hS (i := 2) Z Z Z Z Z Z (vs := cGoat.enc (⟨a1.At, a1.At, IntKind.i16.wrap a2, a1.Eats, a1.Likes⟩ : Goat)) Z (cGoat.len _) (cGoat.one _) (Nat.le_of_ble_eq_true Z) (cGoat.enc (⟨a1.At, a1.At, IntKind.i16.wrap a2, a1.Eats, a1.Likes⟩ : Goat)) Z) ?_
 intro w1 hS
 refine OJ.pures oU 1 Z (OJ.nil (EJ.next ?_))
 refine CJ.ret (?_)
 obtain rfl := Option.some.inj H
 exact EJ.fin Z (.cell Z (ldE oU oI Z Z Z (hS.cells (i := 2) Z) Z) (.tmp Z .nil)) ⟨Z, hS.ext⟩
end Go.Proofs.YtokanemjghfadaaGreatDoor
