/-
  What the functions come to.
-/
import Derived.Test.YtimpcenflahchaaDoorGP0
namespace Go.Proofs.YtimpcenflahchaaDoor
open G
set_option linter.unusedVariables false
set_option linter.unusedSimpArgs false
set_option maxRecDepth 100000
set_option maxHeartbeats 4000000
def laws_eqUint16S.l1 (a0 : List Int) (a1 : List Int) : Nat → Int → Option (Bool ⊕ Unit)
  | 0, _ => none
  | k + 1, y1 => if y1 < (a0.length : Int) then ((getI a0 y1).bind fun t2 => (getI a1 y1).bind fun t3 => if t2 ≠ t3 then (some (Sum.inl false)) else (laws_eqUint16S.l1 a0 a1 k (IntKind.i64.wrap (y1 + 1)))) else (some (Sum.inr ()))
def laws_eqUint16S.f (k : Nat) (a0 : List Int) (a1 : List Int) : Option Bool := if (a0.length : Int) ≠ (a1.length : Int) then (some false) else ((laws_eqUint16S.l1 a0 a1 k 0).bind fun s83 => match s83 with | .inl r => some r | .inr _ => some true)
theorem laws_eqUint16S.c (k : Nat) (w : World) (Aa0 : Option Addr) (ca0 : Nat) (a0 : List Int) (hr0 : Rd (ci .u16) w Aa0 a0) (hc0 : a0.length ≤ ca0) (Aa1 : Option Addr) (ca1 : Nat) (a1 : List Int) (hr1 : Rd (ci .u16) w Aa1 a1) (hc1 : a1.length ≤ ca1) (r : Bool) (H : laws_eqUint16S.f k a0 a1 = some r) :
    CV Tryd.prog 61 [.slice Aa0 a0.length ca0, .slice Aa1 a1.length ca1].toArray w fun v w' => v = .bool r ∧ Ext w w' := by
  have hS := (((St.init w no).param (ci .u16) Aa0 ca0 a0 hr0 hc0).param (ci .u16) Aa1 ca1 a1 hr1 hc1)
  unfold laws_eqUint16S.f at H
  refine CV.body Tryd.func61 rfl Tryd.ntmps61 rfl ?_
  refine CJ.seq ?_
  refine CJ.region ?_
  refine OJ.pures tU_ok 1 rfl ?_
  refine OJ.nil (EJ.next ?_)
  refine CJ.seq ?_
  refine CJ.seq ?_
  refine CJ.region ?_
  refine OJ.pures tU_ok 5 rfl ?_
  refine OJ.nil (EJ.next ?_)
  refine CJ.cond rfl (fun hb => ?_) (fun hb => ?_)
  · replace H := pif_t (of_decide_eq_true hb) H
    refine CJ.seq ?_
    refine CJ.region ?_
    refine OJ.pures tU_ok 1 rfl ?_
    refine OJ.nil (EJ.next ?_)
    refine CJ.ret (EJ.skR (?_))
    obtain rfl := Option.some.inj H
    exact EJ.fin rfl (.tmp rfl .nil) ⟨rfl, hS.ext⟩
  · replace H := pif_f (of_decide_eq_false hb) H
    refine CJ.skip (EJ.next ?_)
    refine CJ.seq ?_
    refine CJ.seq ?_
    refine CJ.region ?_
    refine OJ.pures tU_ok 1 rfl ?_
    refine OJ.nil (EJ.next ?_)
    obtain ⟨j83, H, K83⟩ := pbind H
    refine CJ.cut1 (fun F w1 => (some (Sum.inr ()) : Option (Bool ⊕ Unit)) = some j83 ∧ F = [] ∧ St w no w1 [] [roC (ci .u16) Aa0 ca0 a0, roC (ci .u16) Aa1 ca1 a1]) ?_ ?_
    · skip
      refine CJ.block ?_
      refine CJ.loop (fun k F w1 => ∃ (y1 : Int), F = [(0, .slice Aa0 a0.length ca0), (1, .slice Aa1 a1.length ca1), (5, .int .i64 y1)] ∧ St w no w1 [] [roC (ci .u16) Aa0 ca0 a0, roC (ci .u16) Aa1 ca1 a1] ∧ laws_eqUint16S.l1 a0 a1 k y1 = some j83) k (F' := [(0, .slice Aa0 a0.length ca0), (1, .slice Aa1 a1.length ca1), (5, .int .i64 0)]) ⟨rfl, rfl, rfl, trivial⟩ ⟨0, rfl, hS.pick [] [0, 1] rfl, H⟩ ?_
      rintro k F w1 ⟨y1, rfl, hS, H⟩
      cases k with
      | zero => rw [laws_eqUint16S.l1] at H; cases H
      | succ k =>
        rw [laws_eqUint16S.l1] at H
        refine CJ.seq ?_
        refine CJ.seq ?_
        refine CJ.region ?_
        refine OJ.pures tU_ok 4 rfl ?_
        refine OJ.nil (EJ.next ?_)
        refine CJ.cond rfl (fun hb => ?_) (fun hb => ?_)
        · replace H := pif_t (of_decide_eq_true hb) H
          refine CJ.skip (EJ.next ?_)
          refine CJ.seq ?_
          refine CJ.block ?_
          refine CJ.seq ?_
          refine CJ.draw [] [0, 1, 2, 3, 4, 5, 6, 7, 8] mixed (by kernel_rfl) hS fun w1 hS => ?_
          refine DJ.pures tU_ok 2 rfl ?_
          obtain ⟨t2, ht2, H⟩ := pbind H
          obtain ⟨ad2, e2⟩ := (hS.rd' (i := 0) rfl).some' ht2
          refine DJ.st rfl rfl rfl rfl rfl (SR.idxS tU_ok tI_ok rfl rfl rfl rfl e2 rfl (getI_some ht2).1) ?_
          refine DJ.st rfl rfl rfl rfl rfl (SR.load rfl rfl (fun w' hx => ld1 tU_ok rfl rfl (CA.ext ((hS.rd' (i := 0) rfl).at_ e2 ht2) hx) rfl)) ?_
          refine DJ.pures tU_ok 2 rfl ?_
          obtain ⟨t3, ht3, H⟩ := pbind H
          obtain ⟨ad3, e3⟩ := (hS.rd' (i := 1) rfl).some' ht3
          refine DJ.st rfl rfl rfl rfl rfl (SR.idxS tU_ok tI_ok rfl rfl rfl rfl e3 rfl (getI_some ht3).1) ?_
          refine DJ.st rfl rfl rfl rfl rfl (SR.load rfl rfl (fun w' hx => ld1 tU_ok rfl rfl (CA.ext ((hS.rd' (i := 1) rfl).at_ e3 ht3) hx) rfl)) ?_
          refine DJ.pures tU_ok 1 rfl ?_
          refine DJ.nil (EJ.next ?_)
          refine CJ.cond rfl (fun hb => ?_) (fun hb => ?_)
          · replace H := pif_t (of_decide_eq_true hb) H
            refine CJ.seq ?_
            refine CJ.region ?_
            refine OJ.pures tU_ok 1 rfl ?_
            refine OJ.nil (EJ.next ?_)
            refine CJ.ret (EJ.bkR (EJ.skR (EJ.skR (EJ.bkR (EJ.skR (EJ.skR (?_)))))))
            first | (obtain rfl := Option.some.inj H; have H := K83) | (obtain ⟨q83, H2, e83⟩ := pbind H; obtain rfl := Option.some.inj e83; obtain rfl := Option.some.inj K83; have H := H2)
            obtain rfl := Option.some.inj H
            exact EJ.fin rfl (.tmp rfl .nil) ⟨rfl, hS.ext⟩
          · replace H := pif_f (of_decide_eq_false hb) H
            refine CJ.skip (EJ.blk (EJ.next ?_))
            refine CJ.region ?_
            refine OJ.pures tU_ok 3 rfl ?_
            refine OJ.nil ?_
            exact EJ.round k (F' := [(0, .slice Aa0 a0.length ca0), (1, .slice Aa1 a1.length ca1), (5, .int .i64 (IntKind.i64.wrap (y1 + 1)))]) ⟨rfl, rfl, rfl, trivial⟩ (Nat.lt_succ_self _) ⟨(IntKind.i64.wrap (y1 + 1)), rfl, hS.pick [] [0, 1] rfl, H⟩
        · replace H := pif_f (of_decide_eq_false hb) H
          refine CJ.exit (EJ.skE (EJ.skE (EJ.hit (?_))))
          exact EJ.meet (F' := []) trivial ⟨H, rfl, hS.pick [] [0, 1] rfl⟩
    · rintro F w1 ⟨he, rfl, hS⟩
      obtain rfl := Option.some.inj he
      have H := K83
      refine EJ.next ?_
      refine CJ.seq ?_
      refine CJ.region ?_
      refine OJ.pures tU_ok 1 rfl ?_
      refine OJ.nil (EJ.next ?_)
      refine CJ.ret (?_)
      obtain rfl := Option.some.inj H
      exact EJ.fin rfl (.tmp rfl .nil) ⟨rfl, hS.ext⟩

def laws_eqHerd.f (k : Nat) (a0 : Herd) (a1 : Herd) : Option Bool := (laws_eqStringS.f k a0.Names a1.Names).bind fun t3 => if (!t3) = true then (some false) else ((laws_eqInt16S.f k a0.Eats a1.Eats).bind fun t4 => if (!t4) = true then (some false) else ((laws_eqUint16S.f k a0.Foes a1.Foes).bind fun t5 => if (!t5) = true then (some false) else (some true)))
theorem laws_eqHerd.c (k : Nat) (w : World) (Aa0_0 : Option Addr) (ca0_0 : Nat) (Aa0_1 : Option Addr) (ca0_1 : Nat) (Aa0_2 : Option Addr) (ca0_2 : Nat) (a0 : Herd) (hr0_0 : Rd G.cs w Aa0_0 a0.Names) (hc0_0 : a0.Names.length ≤ ca0_0) (hr0_1 : Rd (ci .i16) w Aa0_1 a0.Eats) (hc0_1 : a0.Eats.length ≤ ca0_1) (hr0_2 : Rd (ci .u16) w Aa0_2 a0.Foes) (hc0_2 : a0.Foes.length ≤ ca0_2) (Aa1_0 : Option Addr) (ca1_0 : Nat) (Aa1_1 : Option Addr) (ca1_1 : Nat) (Aa1_2 : Option Addr) (ca1_2 : Nat) (a1 : Herd) (hr1_0 : Rd G.cs w Aa1_0 a1.Names) (hc1_0 : a1.Names.length ≤ ca1_0) (hr1_1 : Rd (ci .i16) w Aa1_1 a1.Eats) (hc1_1 : a1.Eats.length ≤ ca1_1) (hr1_2 : Rd (ci .u16) w Aa1_2 a1.Foes) (hc1_2 : a1.Foes.length ≤ ca1_2) (r : Bool) (H : laws_eqHerd.f k a0 a1 = some r) :
    CV Tryd.prog 18 [.agg [.slice Aa0_0 a0.Names.length ca0_0, .slice Aa0_1 a0.Eats.length ca0_1, .slice Aa0_2 a0.Foes.length ca0_2].toArray, .agg [.slice Aa1_0 a1.Names.length ca1_0, .slice Aa1_1 a1.Eats.length ca1_1, .slice Aa1_2 a1.Foes.length ca1_2].toArray].toArray w fun v w' => v = .bool r ∧ Ext w w' := by
  have hS := (((((((St.init w no).param G.cs Aa0_0 ca0_0 a0.Names hr0_0 hc0_0).param (ci .i16) Aa0_1 ca0_1 a0.Eats hr0_1 hc0_1).param (ci .u16) Aa0_2 ca0_2 a0.Foes hr0_2 hc0_2).param G.cs Aa1_0 ca1_0 a1.Names hr1_0 hc1_0).param (ci .i16) Aa1_1 ca1_1 a1.Eats hr1_1 hc1_1).param (ci .u16) Aa1_2 ca1_2 a1.Foes hr1_2 hc1_2)
  unfold laws_eqHerd.f at H
  refine CV.body Tryd.func18 rfl Tryd.ntmps18 rfl ?_
  refine CJ.seq ?_
  refine CJ.region ?_
  refine OJ.ef rfl rfl rfl (Ef.box hS rfl rfl ([.slice Aa0_0 a0.Names.length ca0_0, .slice Aa0_1 a0.Eats.length ca0_1, .slice Aa0_2 a0.Foes.length ca0_2]) rfl) ?_
  rintro _ w1 ⟨b1, rfl, hS⟩
  refine OJ.ef rfl rfl rfl (Ef.box hS rfl rfl ([.slice Aa1_0 a1.Names.length ca1_0, .slice Aa1_1 a1.Eats.length ca1_1, .slice Aa1_2 a1.Foes.length ca1_2]) rfl) ?_
  rintro _ w1 ⟨b2, rfl, hS⟩
  refine OJ.pures tU_ok 1 rfl ?_
  refine OJ.nil (EJ.next ?_)
  refine CJ.seq ?_
  refine CJ.seq ?_
  refine CJ.region ?_
  refine OJ.st rfl rfl rfl (SR.fieldAddr tU_ok tI_ok rfl rfl rfl rfl rfl rfl) ?_
  refine OJ.st rfl rfl rfl (SR.load rfl rfl (fun w' hx => ld1 tU_ok rfl rfl (CA.ext (CA.sub (hS.cells (i := 0) rfl) 0) hx) rfl)) ?_
  refine OJ.st rfl rfl rfl (SR.fieldAddr tU_ok tI_ok rfl rfl rfl rfl rfl rfl) ?_
  refine OJ.st rfl rfl rfl (SR.load rfl rfl (fun w' hx => ld1 tU_ok rfl rfl (CA.ext (CA.sub (hS.cells (i := 1) rfl) 0) hx) rfl)) ?_
  obtain ⟨t3, ht3, H⟩ := pbind H
  refine OJ.callF rfl rfl rfl rfl rfl hb59 rfl (laws_eqStringS.c k _ Aa0_0 ca0_0 a0.Names (hS.rd' (i := 0) rfl) (hS.le' (i := 0) rfl) Aa1_0 ca1_0 a1.Names (hS.rd' (i := 3) rfl) (hS.le' (i := 3) rfl) _ ht3) ?_
  rintro _ w1 ⟨rfl, hs⟩
  replace hS := hS.grow hs
  refine OJ.pures tU_ok 1 rfl ?_
  refine OJ.nil (EJ.next ?_)
  refine CJ.cond rfl (fun hb => ?_) (fun hb => ?_)
  · replace H := pif_t hb H
    refine CJ.seq ?_
    refine CJ.region ?_
    refine OJ.pures tU_ok 1 rfl ?_
    refine OJ.nil (EJ.next ?_)
    refine CJ.ret (EJ.skR (?_))
    obtain rfl := Option.some.inj H
    exact EJ.fin rfl (.tmp rfl .nil) ⟨rfl, hS.ext⟩
  · replace H := pifb_f hb H
    refine CJ.skip (EJ.next ?_)
    refine CJ.seq ?_
    refine CJ.seq ?_
    refine CJ.region ?_
    refine OJ.st rfl rfl rfl (SR.fieldAddr tU_ok tI_ok rfl rfl rfl rfl rfl rfl) ?_
    refine OJ.st rfl rfl rfl (SR.load rfl rfl (fun w' hx => ld1 tU_ok rfl rfl (CA.ext (CA.sub (hS.cells (i := 0) rfl) 1) hx) rfl)) ?_
    refine OJ.st rfl rfl rfl (SR.fieldAddr tU_ok tI_ok rfl rfl rfl rfl rfl rfl) ?_
    refine OJ.st rfl rfl rfl (SR.load rfl rfl (fun w' hx => ld1 tU_ok rfl rfl (CA.ext (CA.sub (hS.cells (i := 1) rfl) 1) hx) rfl)) ?_
    obtain ⟨t4, ht4, H⟩ := pbind H
    refine OJ.callF rfl rfl rfl rfl rfl hb60 rfl (laws_eqInt16S.c k _ Aa0_1 ca0_1 a0.Eats (hS.rd' (i := 1) rfl) (hS.le' (i := 1) rfl) Aa1_1 ca1_1 a1.Eats (hS.rd' (i := 4) rfl) (hS.le' (i := 4) rfl) _ ht4) ?_
    rintro _ w1 ⟨rfl, hs⟩
    replace hS := hS.grow hs
    refine OJ.pures tU_ok 1 rfl ?_
    refine OJ.nil (EJ.next ?_)
    refine CJ.cond rfl (fun hb => ?_) (fun hb => ?_)
    · replace H := pif_t hb H
      refine CJ.seq ?_
      refine CJ.region ?_
      refine OJ.pures tU_ok 1 rfl ?_
      refine OJ.nil (EJ.next ?_)
      refine CJ.ret (EJ.skR (?_))
      obtain rfl := Option.some.inj H
      exact EJ.fin rfl (.tmp rfl .nil) ⟨rfl, hS.ext⟩
    · replace H := pifb_f hb H
      refine CJ.skip (EJ.next ?_)
      refine CJ.seq ?_
      refine CJ.seq ?_
      refine CJ.region ?_
      refine OJ.st rfl rfl rfl (SR.fieldAddr tU_ok tI_ok rfl rfl rfl rfl rfl rfl) ?_
      refine OJ.st rfl rfl rfl (SR.load rfl rfl (fun w' hx => ld1 tU_ok rfl rfl (CA.ext (CA.sub (hS.cells (i := 0) rfl) 2) hx) rfl)) ?_
      refine OJ.st rfl rfl rfl (SR.fieldAddr tU_ok tI_ok rfl rfl rfl rfl rfl rfl) ?_
      refine OJ.st rfl rfl rfl (SR.load rfl rfl (fun w' hx => ld1 tU_ok rfl rfl (CA.ext (CA.sub (hS.cells (i := 1) rfl) 2) hx) rfl)) ?_
      obtain ⟨t5, ht5, H⟩ := pbind H
      refine OJ.callF rfl rfl rfl rfl rfl hb61 rfl (laws_eqUint16S.c k _ Aa0_2 ca0_2 a0.Foes (hS.rd' (i := 2) rfl) (hS.le' (i := 2) rfl) Aa1_2 ca1_2 a1.Foes (hS.rd' (i := 5) rfl) (hS.le' (i := 5) rfl) _ ht5) ?_
      rintro _ w1 ⟨rfl, hs⟩
      replace hS := hS.grow hs
      refine OJ.pures tU_ok 1 rfl ?_
      refine OJ.nil (EJ.next ?_)
      refine CJ.cond rfl (fun hb => ?_) (fun hb => ?_)
      · replace H := pif_t hb H
        refine CJ.seq ?_
        refine CJ.region ?_
        refine OJ.pures tU_ok 1 rfl ?_
        refine OJ.nil (EJ.next ?_)
        refine CJ.ret (EJ.skR (?_))
        obtain rfl := Option.some.inj H
        exact EJ.fin rfl (.tmp rfl .nil) ⟨rfl, hS.ext⟩
      · replace H := pifb_f hb H
        refine CJ.skip (EJ.next ?_)
        refine CJ.seq ?_
        refine CJ.region ?_
        refine OJ.pures tU_ok 1 rfl ?_
        refine OJ.nil (EJ.next ?_)
        refine CJ.ret (?_)
        obtain rfl := Option.some.inj H
        exact EJ.fin rfl (.tmp rfl .nil) ⟨rfl, hS.ext⟩

def laws_markText.l1 : Nat → Int → ByteArray → Option ByteArray
  | 0, _, _ => none
  | k + 1, y2, y3 => if 0 < y2 then ((chk ((bstr ([IntKind.u8.wrap (IntKind.i64.wrap (48 + (Int.tmod y2 10)))] : List Int)).size + y3.size ≤ 4294967296)).bind fun u5 => laws_markText.l1 k (IntKind.i64.wrap (Int.tdiv y2 10)) ((bstr ([IntKind.u8.wrap (IntKind.i64.wrap (48 + (Int.tmod y2 10)))] : List Int)) ++ y3)) else (some y3)
def laws_markText.f (k : Nat) (a0 : Int) : Option ByteArray := if a0 ≤ 0 then (some (⟨#[109, 48]⟩ : ByteArray)) else ((laws_markText.l1 k a0 ByteArray.empty).bind fun y1 => (chk ((⟨#[109]⟩ : ByteArray).size + y1.size ≤ 4294967296)).bind fun u6 => some ((⟨#[109]⟩ : ByteArray) ++ y1))
theorem laws_markText.c (k : Nat) (w : World) (a0 : Int) (r : ByteArray) (H : laws_markText.f k a0 = some r) :
    CV Tryd.prog 99 [.int .i64 a0].toArray w fun v w' => v = .string r ∧ Ext w w' := by
  have hS := (St.init w no)
  unfold laws_markText.f at H
  refine CV.body Tryd.func99 rfl Tryd.ntmps99 rfl ?_
  refine CJ.seq ?_
  refine CJ.region ?_
  refine OJ.pures tU_ok 1 rfl ?_
  refine OJ.nil (EJ.next ?_)
  refine CJ.seq ?_
  refine CJ.seq ?_
  refine CJ.region ?_
  refine OJ.pures tU_ok 2 rfl ?_
  refine OJ.nil (EJ.next ?_)
  refine CJ.cond rfl (fun hb => ?_) (fun hb => ?_)
  · replace H := pif_t (of_decide_eq_true hb) H
    refine CJ.seq ?_
    refine CJ.region ?_
    refine OJ.pures tU_ok 1 rfl ?_
    refine OJ.nil (EJ.next ?_)
    refine CJ.ret (EJ.skR (?_))
    obtain rfl := Option.some.inj H
    exact EJ.fin rfl (.tmp rfl .nil) ⟨rfl, hS.ext⟩
  · replace H := pif_f (of_decide_eq_false hb) H
    refine CJ.skip (EJ.next ?_)
    refine CJ.seq ?_
    refine CJ.region ?_
    refine OJ.pures tU_ok 1 rfl ?_
    refine OJ.nil (EJ.next ?_)
    obtain ⟨j85, H, K85⟩ := pbind H
    refine CJ.cut (fun F w1 => ∃ (y1 : ByteArray) , (some y1 : Option ByteArray) = some j85 ∧ F = [(3, .string y1)] ∧ St w no w1 [] []) ?_ ?_
    · skip
      refine CJ.block ?_
      refine CJ.loop (fun k F w1 => ∃ (y2 : Int) (y3 : ByteArray), F = [(0, .int .i64 y2), (3, .string y3)] ∧ St w no w1 [] [] ∧ laws_markText.l1 k y2 y3 = some j85) k (F' := [(0, .int .i64 a0), (3, .string ByteArray.empty)]) ⟨rfl, rfl, trivial⟩ ⟨a0, ByteArray.empty, rfl, hS.pick [] [] rfl, H⟩ ?_
      rintro k F w1 ⟨y2, y3, rfl, hS, H⟩
      cases k with
      | zero => rw [laws_markText.l1] at H; cases H
      | succ k =>
        rw [laws_markText.l1] at H
        refine CJ.seq ?_
        refine CJ.seq ?_
        refine CJ.region ?_
        refine OJ.pures tU_ok 2 rfl ?_
        refine OJ.nil (EJ.next ?_)
        refine CJ.cond rfl (fun hb => ?_) (fun hb => ?_)
        · replace H := pif_t (of_decide_eq_true hb) H
          refine CJ.skip (EJ.next ?_)
          refine CJ.block ?_
          refine CJ.seq ?_
          refine CJ.region ?_
          refine OJ.pures tU_ok 1 rfl ?_
          refine OJ.st rfl rfl rfl (SR.rem rfl rfl rfl (by decide)) ?_
          refine OJ.pures tU_ok 2 rfl ?_
          refine OJ.ef rfl rfl rfl (Ef.lit tU_ok tI_ok hS (C := (ci .u8)) rfl rfl rfl rfl rfl rfl ([IntKind.u8.wrap (IntKind.i64.wrap (48 + (Int.tmod y2 10)))] : List Int) rfl rfl rfl rfl) ?_
          rintro _ w1 ⟨A4, rfl, hS⟩
          refine OJ.st rfl rfl rfl (SR.b2s tU_ok rfl rfl rfl rfl rfl (hS.rd (i := 0) rfl)) ?_
          refine OJ.pures tU_ok 1 rfl ?_
          obtain ⟨u5, hu5, H⟩ := pbind H
          refine OJ.st rfl rfl rfl (SR.concat rfl rfl rfl (chk_some hu5)) ?_
          refine OJ.pures tU_ok 1 rfl ?_
          refine OJ.nil (EJ.next ?_)
          refine CJ.region ?_
          refine OJ.pures tU_ok 1 rfl ?_
          refine OJ.st rfl rfl rfl (SR.quo rfl rfl rfl (by decide)) ?_
          refine OJ.pures tU_ok 1 rfl ?_
          refine OJ.nil (EJ.blk (?_))
          exact EJ.round k (F' := [(0, .int .i64 (IntKind.i64.wrap (Int.tdiv y2 10))), (3, .string ((bstr ([IntKind.u8.wrap (IntKind.i64.wrap (48 + (Int.tmod y2 10)))] : List Int)) ++ y3))]) ⟨rfl, rfl, trivial⟩ (Nat.lt_succ_self _) ⟨(IntKind.i64.wrap (Int.tdiv y2 10)), ((bstr ([IntKind.u8.wrap (IntKind.i64.wrap (48 + (Int.tmod y2 10)))] : List Int)) ++ y3), rfl, hS.pick [] [] rfl, H⟩
        · replace H := pif_f (of_decide_eq_false hb) H
          refine CJ.exit (EJ.skE (EJ.skE (EJ.hit (?_))))
          exact EJ.meet (F' := [(3, .string y3)]) ⟨rfl, trivial⟩ ⟨y3, H, rfl, hS.pick [] [] rfl⟩
    · rintro F w1 ⟨y1, he, rfl, hS⟩
      obtain rfl := Option.some.inj he
      have H := K85
      refine CJ.seq ?_
      refine CJ.region ?_
      refine OJ.pures tU_ok 1 rfl ?_
      obtain ⟨u6, hu6, H⟩ := pbind H
      refine OJ.st rfl rfl rfl (SR.concat rfl rfl rfl (chk_some hu6)) ?_
      refine OJ.pures tU_ok 1 rfl ?_
      refine OJ.nil (EJ.next ?_)
      refine CJ.ret (?_)
      obtain rfl := Option.some.inj H
      exact EJ.fin rfl (.tmp rfl .nil) ⟨rfl, hS.ext⟩

def laws_markStringS.l1 (a0 : List ByteArray) : Nat → (List ByteArray) → Int → Int → Option ((List ByteArray) × Int)
  | 0, _, _, _ => none
  | k + 1, y3, y4, y5 => if y5 < (a0.length : Int) then ((laws_markText.f k y4).bind fun t6 => (getI y3 y5).bind fun t7 => laws_markStringS.l1 a0 k (y3.set y5.toNat t6) (IntKind.i64.wrap (y4 + 1)) (IntKind.i64.wrap (y5 + 1))) else (some (y3, y4))
def laws_markStringS.f (k : Nat) (a0 : List ByteArray) (a1 : Int) : Option (Int × List ByteArray) := (laws_markStringS.l1 a0 k a0 a1 0).bind fun (y1, y2) => some (y2, y1)
theorem laws_markStringS.c (k : Nat) (w : World) (Aa0 : Option Addr) (ca0 : Nat) (a0 : List ByteArray) (a1 : Int) (hin : St w (fpU [rowC G.cs Aa0 ca0 9 a0]) w [rowC G.cs Aa0 ca0 9 a0] []) (r : Int × List ByteArray) (H : laws_markStringS.f k a0 a1 = some r) :
    CV Tryd.prog 71 [.slice Aa0 a0.length ca0, .int .i64 a1].toArray w fun v w' => v = .int .i64 r.1 ∧ St w (fpU [rowC G.cs Aa0 ca0 9 a0]) w' [rowC G.cs Aa0 ca0 9 r.2] [] ∧ r.2.length = a0.length := by
  have hS := hin
  unfold laws_markStringS.f at H
  refine CV.body Tryd.func71 rfl Tryd.ntmps71 rfl ?_
  have hl0 : a0.length = a0.length := rfl
  refine CJ.seq ?_
  refine CJ.region ?_
  refine OJ.pures tU_ok 1 rfl ?_
  refine OJ.nil (EJ.next ?_)
  refine CJ.seq ?_
  refine CJ.seq ?_
  refine CJ.region ?_
  refine OJ.pures tU_ok 1 rfl ?_
  refine OJ.nil (EJ.next ?_)
  obtain ⟨j86, H, K86⟩ := pbind H
  refine CJ.cut1 (fun F w1 => ∃ (y1 : List ByteArray) (y2 : Int) , (some (y1, y2) : Option ((List ByteArray) × Int)) = some j86 ∧ F = [(1, .int .i64 y2)] ∧ St w (fpU [rowC G.cs Aa0 ca0 9 a0]) w1 [rowC G.cs Aa0 ca0 9 y1] [] ∧ y1.length = a0.length) ?_ ?_
  · skip
    refine CJ.block ?_
    refine CJ.loop (fun k F w1 => ∃ (y3 : List ByteArray) (y4 : Int) (y5 : Int), F = [(0, .slice Aa0 a0.length ca0), (1, .int .i64 y4), (5, .int .i64 y5)] ∧ St w (fpU [rowC G.cs Aa0 ca0 9 a0]) w1 [rowC G.cs Aa0 ca0 9 y3] [] ∧ y3.length = a0.length ∧ laws_markStringS.l1 a0 k y3 y4 y5 = some j86) k (F' := [(0, .slice Aa0 a0.length ca0), (1, .int .i64 a1), (5, .int .i64 0)]) ⟨rfl, rfl, rfl, trivial⟩ ⟨a0, a1, 0, rfl, hS.pick [0] [] rfl, (by first | exact hl0 | (simp only [List.length_set]; exact hl0) | (simp only [List.length_set]; done)), H⟩ ?_
    rintro k F w1 ⟨y3, y4, y5, rfl, hS, hl0, H⟩
    cases k with
    | zero => rw [laws_markStringS.l1] at H; cases H
    | succ k =>
      rw [laws_markStringS.l1] at H
      refine CJ.seq ?_
      refine CJ.seq ?_
      refine CJ.region ?_
      refine OJ.pures tU_ok 4 rfl ?_
      refine OJ.nil (EJ.next ?_)
      refine CJ.cond rfl (fun hb => ?_) (fun hb => ?_)
      · replace H := pif_t (of_decide_eq_true hb) H
        refine CJ.skip (EJ.next ?_)
        refine CJ.seq ?_
        refine CJ.block ?_
        refine CJ.seq ?_
        refine CJ.region ?_
        refine OJ.pures tU_ok 3 rfl ?_
        obtain ⟨t6, ht6, H⟩ := pbind H
        refine OJ.callF rfl rfl rfl rfl rfl hb99 rfl (laws_markText.c k _ y4 _ ht6) ?_
        rintro _ w1 ⟨rfl, hs⟩
        replace hS := hS.grow hs
        obtain ⟨t7, ht7, H⟩ := pbind H
        obtain ⟨ad7, e7⟩ := (hS.rd (i := 0) rfl).some' ht7
        refine OJ.st rfl rfl rfl (SR.idxS tU_ok tI_ok rfl rfl rfl rfl e7 rfl (by have hg := (getI_some ht7).1; (first | rw [hl0] at hg | (simp only [List.length_set] at hg; rw [hl0] at hg)); exact hg)) ?_
        refine OJ.es rfl rfl (Es.storeR tI_ok hS (i := 0) (off := 0) rfl rfl ht7 e7 rfl rfl rfl rfl (vs := G.cs.enc t6) rfl rfl (one1 rfl) (Nat.le_of_ble_eq_true rfl) t6 rfl) ?_
        intro w1 hS
        refine OJ.nil (EJ.next ?_)
        refine CJ.region ?_
        refine OJ.pures tU_ok 3 rfl ?_
        refine OJ.nil (EJ.blk (EJ.next ?_))
        refine CJ.region ?_
        refine OJ.pures tU_ok 3 rfl ?_
        refine OJ.nil ?_
        exact EJ.round k (F' := [(0, .slice Aa0 a0.length ca0), (1, .int .i64 (IntKind.i64.wrap (y4 + 1))), (5, .int .i64 (IntKind.i64.wrap (y5 + 1)))]) ⟨rfl, rfl, rfl, trivial⟩ (Nat.lt_succ_self _) ⟨(y3.set y5.toNat t6), (IntKind.i64.wrap (y4 + 1)), (IntKind.i64.wrap (y5 + 1)), rfl, hS.pick [0] [] rfl, (by first | exact hl0 | (simp only [List.length_set]; exact hl0) | (simp only [List.length_set]; done)), H⟩
      · replace H := pif_f (of_decide_eq_false hb) H
        refine CJ.exit (EJ.skE (EJ.skE (EJ.hit (?_))))
        exact EJ.meet (F' := [(1, .int .i64 y4)]) ⟨rfl, trivial⟩ ⟨y3, y4, H, rfl, hS.pick [0] [] rfl, (by first | exact hl0 | (simp only [List.length_set]; exact hl0) | (simp only [List.length_set]; done))⟩
  · rintro F w1 ⟨y1, y2, he, rfl, hS, hl0⟩
    obtain rfl := Option.some.inj he
    have H := K86
    refine EJ.next ?_
    refine CJ.seq ?_
    refine CJ.region ?_
    refine OJ.pures tU_ok 2 rfl ?_
    refine OJ.nil (EJ.next ?_)
    refine CJ.ret (?_)
    obtain rfl := Option.some.inj H
    exact EJ.fin rfl (.tmp rfl .nil) ⟨rfl, hS.pick [0] [] rfl, (by first | exact hl0 | (simp only [List.length_set]; exact hl0) | (simp only [List.length_set]; done))⟩

def laws_markInt16S.l1 (a0 : List Int) : Nat → (List Int) → Int → Int → Option ((List Int) × Int)
  | 0, _, _, _ => none
  | k + 1, y3, y4, y5 => if y5 < (a0.length : Int) then ((getI y3 y5).bind fun t6 => laws_markInt16S.l1 a0 k (y3.set y5.toNat (IntKind.i16.wrap y4)) (IntKind.i64.wrap (y4 + 1)) (IntKind.i64.wrap (y5 + 1))) else (some (y3, y4))
def laws_markInt16S.f (k : Nat) (a0 : List Int) (a1 : Int) : Option (Int × List Int) := (laws_markInt16S.l1 a0 k a0 a1 0).bind fun (y1, y2) => some (y2, y1)
theorem laws_markInt16S.c (k : Nat) (w : World) (Aa0 : Option Addr) (ca0 : Nat) (a0 : List Int) (a1 : Int) (hin : St w (fpU [rowC (ci .i16) Aa0 ca0 73 a0]) w [rowC (ci .i16) Aa0 ca0 73 a0] []) (r : Int × List Int) (H : laws_markInt16S.f k a0 a1 = some r) :
    CV Tryd.prog 72 [.slice Aa0 a0.length ca0, .int .i64 a1].toArray w fun v w' => v = .int .i64 r.1 ∧ St w (fpU [rowC (ci .i16) Aa0 ca0 73 a0]) w' [rowC (ci .i16) Aa0 ca0 73 r.2] [] ∧ r.2.length = a0.length := by
  have hS := hin
  unfold laws_markInt16S.f at H
  refine CV.body Tryd.func72 rfl Tryd.ntmps72 rfl ?_
  have hl0 : a0.length = a0.length := rfl
  refine CJ.seq ?_
  refine CJ.region ?_
  refine OJ.pures tU_ok 1 rfl ?_
  refine OJ.nil (EJ.next ?_)
  refine CJ.seq ?_
  refine CJ.seq ?_
  refine CJ.region ?_
  refine OJ.pures tU_ok 1 rfl ?_
  refine OJ.nil (EJ.next ?_)
  obtain ⟨j88, H, K88⟩ := pbind H
  refine CJ.cut1 (fun F w1 => ∃ (y1 : List Int) (y2 : Int) , (some (y1, y2) : Option ((List Int) × Int)) = some j88 ∧ F = [(1, .int .i64 y2)] ∧ St w (fpU [rowC (ci .i16) Aa0 ca0 73 a0]) w1 [rowC (ci .i16) Aa0 ca0 73 y1] [] ∧ y1.length = a0.length) ?_ ?_
  · skip
    refine CJ.block ?_
    refine CJ.loop (fun k F w1 => ∃ (y3 : List Int) (y4 : Int) (y5 : Int), F = [(0, .slice Aa0 a0.length ca0), (1, .int .i64 y4), (5, .int .i64 y5)] ∧ St w (fpU [rowC (ci .i16) Aa0 ca0 73 a0]) w1 [rowC (ci .i16) Aa0 ca0 73 y3] [] ∧ y3.length = a0.length ∧ laws_markInt16S.l1 a0 k y3 y4 y5 = some j88) k (F' := [(0, .slice Aa0 a0.length ca0), (1, .int .i64 a1), (5, .int .i64 0)]) ⟨rfl, rfl, rfl, trivial⟩ ⟨a0, a1, 0, rfl, hS.pick [0] [] rfl, (by first | exact hl0 | (simp only [List.length_set]; exact hl0) | (simp only [List.length_set]; done)), H⟩ ?_
    rintro k F w1 ⟨y3, y4, y5, rfl, hS, hl0, H⟩
    cases k with
    | zero => rw [laws_markInt16S.l1] at H; cases H
    | succ k =>
      rw [laws_markInt16S.l1] at H
      refine CJ.seq ?_
      refine CJ.seq ?_
      refine CJ.region ?_
      refine OJ.pures tU_ok 4 rfl ?_
      refine OJ.nil (EJ.next ?_)
      refine CJ.cond rfl (fun hb => ?_) (fun hb => ?_)
      · replace H := pif_t (of_decide_eq_true hb) H
        refine CJ.skip (EJ.next ?_)
        refine CJ.seq ?_
        refine CJ.block ?_
        refine CJ.seq ?_
        refine CJ.region ?_
        refine OJ.pures tU_ok 4 rfl ?_
        obtain ⟨t6, ht6, H⟩ := pbind H
        obtain ⟨ad6, e6⟩ := (hS.rd (i := 0) rfl).some' ht6
        refine OJ.st rfl rfl rfl (SR.idxS tU_ok tI_ok rfl rfl rfl rfl e6 rfl (by have hg := (getI_some ht6).1; (first | rw [hl0] at hg | (simp only [List.length_set] at hg; rw [hl0] at hg)); exact hg)) ?_
        refine OJ.es rfl rfl (Es.storeR tI_ok hS (i := 0) (off := 0) rfl rfl ht6 e6 rfl rfl rfl rfl (vs := (ci .i16).enc (IntKind.i16.wrap y4)) rfl rfl (one1 rfl) (Nat.le_of_ble_eq_true rfl) (IntKind.i16.wrap y4) rfl) ?_
        intro w1 hS
        refine OJ.nil (EJ.next ?_)
        refine CJ.region ?_
        refine OJ.pures tU_ok 3 rfl ?_
        refine OJ.nil (EJ.blk (EJ.next ?_))
        refine CJ.region ?_
        refine OJ.pures tU_ok 3 rfl ?_
        refine OJ.nil ?_
        exact EJ.round k (F' := [(0, .slice Aa0 a0.length ca0), (1, .int .i64 (IntKind.i64.wrap (y4 + 1))), (5, .int .i64 (IntKind.i64.wrap (y5 + 1)))]) ⟨rfl, rfl, rfl, trivial⟩ (Nat.lt_succ_self _) ⟨(y3.set y5.toNat (IntKind.i16.wrap y4)), (IntKind.i64.wrap (y4 + 1)), (IntKind.i64.wrap (y5 + 1)), rfl, hS.pick [0] [] rfl, (by first | exact hl0 | (simp only [List.length_set]; exact hl0) | (simp only [List.length_set]; done)), H⟩
      · replace H := pif_f (of_decide_eq_false hb) H
        refine CJ.exit (EJ.skE (EJ.skE (EJ.hit (?_))))
        exact EJ.meet (F' := [(1, .int .i64 y4)]) ⟨rfl, trivial⟩ ⟨y3, y4, H, rfl, hS.pick [0] [] rfl, (by first | exact hl0 | (simp only [List.length_set]; exact hl0) | (simp only [List.length_set]; done))⟩
  · rintro F w1 ⟨y1, y2, he, rfl, hS, hl0⟩
    obtain rfl := Option.some.inj he
    have H := K88
    refine EJ.next ?_
    refine CJ.seq ?_
    refine CJ.region ?_
    refine OJ.pures tU_ok 2 rfl ?_
    refine OJ.nil (EJ.next ?_)
    refine CJ.ret (?_)
    obtain rfl := Option.some.inj H
    exact EJ.fin rfl (.tmp rfl .nil) ⟨rfl, hS.pick [0] [] rfl, (by first | exact hl0 | (simp only [List.length_set]; exact hl0) | (simp only [List.length_set]; done))⟩

def laws_markUint16S.l1 (a0 : List Int) : Nat → (List Int) → Int → Int → Option ((List Int) × Int)
  | 0, _, _, _ => none
  | k + 1, y3, y4, y5 => if y5 < (a0.length : Int) then ((getI y3 y5).bind fun t6 => laws_markUint16S.l1 a0 k (y3.set y5.toNat (IntKind.u16.wrap y4)) (IntKind.i64.wrap (y4 + 1)) (IntKind.i64.wrap (y5 + 1))) else (some (y3, y4))
def laws_markUint16S.f (k : Nat) (a0 : List Int) (a1 : Int) : Option (Int × List Int) := (laws_markUint16S.l1 a0 k a0 a1 0).bind fun (y1, y2) => some (y2, y1)
theorem laws_markUint16S.c (k : Nat) (w : World) (Aa0 : Option Addr) (ca0 : Nat) (a0 : List Int) (a1 : Int) (hin : St w (fpU [rowC (ci .u16) Aa0 ca0 74 a0]) w [rowC (ci .u16) Aa0 ca0 74 a0] []) (r : Int × List Int) (H : laws_markUint16S.f k a0 a1 = some r) :
    CV Tryd.prog 73 [.slice Aa0 a0.length ca0, .int .i64 a1].toArray w fun v w' => v = .int .i64 r.1 ∧ St w (fpU [rowC (ci .u16) Aa0 ca0 74 a0]) w' [rowC (ci .u16) Aa0 ca0 74 r.2] [] ∧ r.2.length = a0.length := by
  have hS := hin
  unfold laws_markUint16S.f at H
  refine CV.body Tryd.func73 rfl Tryd.ntmps73 rfl ?_
  have hl0 : a0.length = a0.length := rfl
  refine CJ.seq ?_
  refine CJ.region ?_
  refine OJ.pures tU_ok 1 rfl ?_
  refine OJ.nil (EJ.next ?_)
  refine CJ.seq ?_
  refine CJ.seq ?_
  refine CJ.region ?_
  refine OJ.pures tU_ok 1 rfl ?_
  refine OJ.nil (EJ.next ?_)
  obtain ⟨j90, H, K90⟩ := pbind H
  refine CJ.cut1 (fun F w1 => ∃ (y1 : List Int) (y2 : Int) , (some (y1, y2) : Option ((List Int) × Int)) = some j90 ∧ F = [(1, .int .i64 y2)] ∧ St w (fpU [rowC (ci .u16) Aa0 ca0 74 a0]) w1 [rowC (ci .u16) Aa0 ca0 74 y1] [] ∧ y1.length = a0.length) ?_ ?_
  · skip
    refine CJ.block ?_
    refine CJ.loop (fun k F w1 => ∃ (y3 : List Int) (y4 : Int) (y5 : Int), F = [(0, .slice Aa0 a0.length ca0), (1, .int .i64 y4), (5, .int .i64 y5)] ∧ St w (fpU [rowC (ci .u16) Aa0 ca0 74 a0]) w1 [rowC (ci .u16) Aa0 ca0 74 y3] [] ∧ y3.length = a0.length ∧ laws_markUint16S.l1 a0 k y3 y4 y5 = some j90) k (F' := [(0, .slice Aa0 a0.length ca0), (1, .int .i64 a1), (5, .int .i64 0)]) ⟨rfl, rfl, rfl, trivial⟩ ⟨a0, a1, 0, rfl, hS.pick [0] [] rfl, (by first | exact hl0 | (simp only [List.length_set]; exact hl0) | (simp only [List.length_set]; done)), H⟩ ?_
    rintro k F w1 ⟨y3, y4, y5, rfl, hS, hl0, H⟩
    cases k with
    | zero => rw [laws_markUint16S.l1] at H; cases H
    | succ k =>
      rw [laws_markUint16S.l1] at H
      refine CJ.seq ?_
      refine CJ.seq ?_
      refine CJ.region ?_
      refine OJ.pures tU_ok 4 rfl ?_
      refine OJ.nil (EJ.next ?_)
      refine CJ.cond rfl (fun hb => ?_) (fun hb => ?_)
      · replace H := pif_t (of_decide_eq_true hb) H
        refine CJ.skip (EJ.next ?_)
        refine CJ.seq ?_
        refine CJ.block ?_
        refine CJ.seq ?_
        refine CJ.region ?_
        refine OJ.pures tU_ok 4 rfl ?_
        obtain ⟨t6, ht6, H⟩ := pbind H
        obtain ⟨ad6, e6⟩ := (hS.rd (i := 0) rfl).some' ht6
        refine OJ.st rfl rfl rfl (SR.idxS tU_ok tI_ok rfl rfl rfl rfl e6 rfl (by have hg := (getI_some ht6).1; (first | rw [hl0] at hg | (simp only [List.length_set] at hg; rw [hl0] at hg)); exact hg)) ?_
        refine OJ.es rfl rfl (Es.storeR tI_ok hS (i := 0) (off := 0) rfl rfl ht6 e6 rfl rfl rfl rfl (vs := (ci .u16).enc (IntKind.u16.wrap y4)) rfl rfl (one1 rfl) (Nat.le_of_ble_eq_true rfl) (IntKind.u16.wrap y4) rfl) ?_
        intro w1 hS
        refine OJ.nil (EJ.next ?_)
        refine CJ.region ?_
        refine OJ.pures tU_ok 3 rfl ?_
        refine OJ.nil (EJ.blk (EJ.next ?_))
        refine CJ.region ?_
        refine OJ.pures tU_ok 3 rfl ?_
        refine OJ.nil ?_
        exact EJ.round k (F' := [(0, .slice Aa0 a0.length ca0), (1, .int .i64 (IntKind.i64.wrap (y4 + 1))), (5, .int .i64 (IntKind.i64.wrap (y5 + 1)))]) ⟨rfl, rfl, rfl, trivial⟩ (Nat.lt_succ_self _) ⟨(y3.set y5.toNat (IntKind.u16.wrap y4)), (IntKind.i64.wrap (y4 + 1)), (IntKind.i64.wrap (y5 + 1)), rfl, hS.pick [0] [] rfl, (by first | exact hl0 | (simp only [List.length_set]; exact hl0) | (simp only [List.length_set]; done)), H⟩
      · replace H := pif_f (of_decide_eq_false hb) H
        refine CJ.exit (EJ.skE (EJ.skE (EJ.hit (?_))))
        exact EJ.meet (F' := [(1, .int .i64 y4)]) ⟨rfl, trivial⟩ ⟨y3, y4, H, rfl, hS.pick [0] [] rfl, (by first | exact hl0 | (simp only [List.length_set]; exact hl0) | (simp only [List.length_set]; done))⟩
  · rintro F w1 ⟨y1, y2, he, rfl, hS, hl0⟩
    obtain rfl := Option.some.inj he
    have H := K90
    refine EJ.next ?_
    refine CJ.seq ?_
    refine CJ.region ?_
    refine OJ.pures tU_ok 2 rfl ?_
    refine OJ.nil (EJ.next ?_)
    refine CJ.ret (?_)
    obtain rfl := Option.some.inj H
    exact EJ.fin rfl (.tmp rfl .nil) ⟨rfl, hS.pick [0] [] rfl, (by first | exact hl0 | (simp only [List.length_set]; exact hl0) | (simp only [List.length_set]; done))⟩

def laws_markHerd.f (k : Nat) (a0 : Herd) (a1 : Int) : Option (Int × List ByteArray × List Int × List Int) := (laws_markStringS.f k a0.Names a1).bind fun t2 => (laws_markInt16S.f k a0.Eats t2.1).bind fun t3 => (laws_markUint16S.f k a0.Foes t3.1).bind fun t4 => some (t4.1, t2.2, t3.2, t4.2)
theorem laws_markHerd.c (k : Nat) (w : World) (Aa0_0 : Option Addr) (ca0_0 : Nat) (Aa0_1 : Option Addr) (ca0_1 : Nat) (Aa0_2 : Option Addr) (ca0_2 : Nat) (a0 : Herd) (a1 : Int) (hin : St w (fpU [rowC G.cs Aa0_0 ca0_0 9 a0.Names, rowC (ci .i16) Aa0_1 ca0_1 73 a0.Eats, rowC (ci .u16) Aa0_2 ca0_2 74 a0.Foes]) w [rowC G.cs Aa0_0 ca0_0 9 a0.Names, rowC (ci .i16) Aa0_1 ca0_1 73 a0.Eats, rowC (ci .u16) Aa0_2 ca0_2 74 a0.Foes] []) (r : Int × List ByteArray × List Int × List Int) (H : laws_markHerd.f k a0 a1 = some r) :
    CV Tryd.prog 29 [.agg [.slice Aa0_0 a0.Names.length ca0_0, .slice Aa0_1 a0.Eats.length ca0_1, .slice Aa0_2 a0.Foes.length ca0_2].toArray, .int .i64 a1].toArray w fun v w' => v = .int .i64 r.1 ∧ St w (fpU [rowC G.cs Aa0_0 ca0_0 9 a0.Names, rowC (ci .i16) Aa0_1 ca0_1 73 a0.Eats, rowC (ci .u16) Aa0_2 ca0_2 74 a0.Foes]) w' [rowC G.cs Aa0_0 ca0_0 9 r.2.1, rowC (ci .i16) Aa0_1 ca0_1 73 r.2.2.1, rowC (ci .u16) Aa0_2 ca0_2 74 r.2.2.2] [] ∧ r.2.1.length = a0.Names.length ∧ r.2.2.1.length = a0.Eats.length ∧ r.2.2.2.length = a0.Foes.length := by
  have hS := hin
  unfold laws_markHerd.f at H
  refine CV.body Tryd.func29 rfl Tryd.ntmps29 rfl ?_
  have hl0 : a0.Names.length = a0.Names.length := rfl
  have hl1 : a0.Eats.length = a0.Eats.length := rfl
  have hl2 : a0.Foes.length = a0.Foes.length := rfl
  refine CJ.seq ?_
  refine CJ.region ?_
  refine OJ.ef rfl rfl rfl (Ef.box hS rfl rfl ([.slice Aa0_0 a0.Names.length ca0_0, .slice Aa0_1 a0.Eats.length ca0_1, .slice Aa0_2 a0.Foes.length ca0_2]) rfl) ?_
  rintro _ w1 ⟨b1, rfl, hS⟩
  refine OJ.pures tU_ok 1 rfl ?_
  refine OJ.nil (EJ.next ?_)
  refine CJ.seq ?_
  refine CJ.region ?_
  refine OJ.st rfl rfl rfl (SR.fieldAddr tU_ok tI_ok rfl rfl rfl rfl rfl rfl) ?_
  refine OJ.st rfl rfl rfl (SR.load rfl rfl (fun w' hx => ld1 tU_ok rfl rfl (CA.ext (CA.sub (hS.cells (i := 3) rfl) 0) hx) rfl)) ?_
  refine OJ.pures tU_ok 1 rfl ?_
  obtain ⟨t2, ht2, H⟩ := pbind H
  refine OJ.callF rfl rfl rfl rfl rfl hb71 rfl (laws_markStringS.c k _ Aa0_0 ca0_0 a0.Names a1 ((hS.subs [0] [] [] rfl).pick [0] [] rfl) _ ht2) ?_
  rintro _ w1 ⟨rfl, hs, hlc0⟩
  replace hS := hS.back [0] rfl rfl [rowC G.cs Aa0_0 ca0_0 9 t2.2] [] hs ⟨fun _ => Iff.rfl, trivial⟩
  have hl0 := hlc0.trans (by first | exact hl0 | (simp only [List.length_set]; exact hl0) | (simp only [List.length_set]; done))
  refine OJ.pures tU_ok 1 rfl ?_
  refine OJ.nil (EJ.next ?_)
  refine CJ.seq ?_
  refine CJ.region ?_
  refine OJ.st rfl rfl rfl (SR.fieldAddr tU_ok tI_ok rfl rfl rfl rfl rfl rfl) ?_
  refine OJ.st rfl rfl rfl (SR.load rfl rfl (fun w' hx => ld1 tU_ok rfl rfl (CA.ext (CA.sub (hS.cells (i := 3) rfl) 1) hx) rfl)) ?_
  refine OJ.pures tU_ok 1 rfl ?_
  obtain ⟨t3, ht3, H⟩ := pbind H
  refine OJ.callF rfl rfl rfl rfl rfl hb72 rfl (laws_markInt16S.c k _ Aa0_1 ca0_1 a0.Eats t2.1 ((hS.subs [1] [] [] rfl).pick [0] [] rfl) _ ht3) ?_
  rintro _ w1 ⟨rfl, hs, hlc0⟩
  replace hS := hS.back [1] rfl rfl [rowC (ci .i16) Aa0_1 ca0_1 73 t3.2] [] hs ⟨fun _ => Iff.rfl, trivial⟩
  have hl1 := hlc0.trans (by first | exact hl1 | (simp only [List.length_set]; exact hl1) | (simp only [List.length_set]; done))
  refine OJ.pures tU_ok 1 rfl ?_
  refine OJ.nil (EJ.next ?_)
  refine CJ.seq ?_
  refine CJ.region ?_
  refine OJ.st rfl rfl rfl (SR.fieldAddr tU_ok tI_ok rfl rfl rfl rfl rfl rfl) ?_
  refine OJ.st rfl rfl rfl (SR.load rfl rfl (fun w' hx => ld1 tU_ok rfl rfl (CA.ext (CA.sub (hS.cells (i := 3) rfl) 2) hx) rfl)) ?_
  refine OJ.pures tU_ok 1 rfl ?_
  obtain ⟨t4, ht4, H⟩ := pbind H
  refine OJ.callF rfl rfl rfl rfl rfl hb73 rfl (laws_markUint16S.c k _ Aa0_2 ca0_2 a0.Foes t3.1 ((hS.subs [2] [] [] rfl).pick [0] [] rfl) _ ht4) ?_
  rintro _ w1 ⟨rfl, hs, hlc0⟩
  replace hS := hS.back [2] rfl rfl [rowC (ci .u16) Aa0_2 ca0_2 74 t4.2] [] hs ⟨fun _ => Iff.rfl, trivial⟩
  have hl2 := hlc0.trans (by first | exact hl2 | (simp only [List.length_set]; exact hl2) | (simp only [List.length_set]; done))
  refine OJ.pures tU_ok 1 rfl ?_
  refine OJ.nil (EJ.next ?_)
  refine CJ.seq ?_
  refine CJ.region ?_
  refine OJ.pures tU_ok 2 rfl ?_
  refine OJ.nil (EJ.next ?_)
  refine CJ.ret (?_)
  obtain rfl := Option.some.inj H
  exact EJ.fin rfl (.tmp rfl .nil) ⟨rfl, hS.pick [0, 1, 2] [] rfl, (by first | exact hl0 | (simp only [List.length_set]; exact hl0) | (simp only [List.length_set]; done)), (by first | exact hl1 | (simp only [List.length_set]; exact hl1) | (simp only [List.length_set]; done)), (by first | exact hl2 | (simp only [List.length_set]; exact hl2) | (simp only [List.length_set]; done))⟩

def laws_markInt64S.l1 (a0 : List Int) : Nat → (List Int) → Int → Int → Option ((List Int) × Int)
  | 0, _, _, _ => none
  | k + 1, y3, y4, y5 => if y5 < (a0.length : Int) then ((getI y3 y5).bind fun t6 => laws_markInt64S.l1 a0 k (y3.set y5.toNat y4) (IntKind.i64.wrap (y4 + 1)) (IntKind.i64.wrap (y5 + 1))) else (some (y3, y4))
def laws_markInt64S.f (k : Nat) (a0 : List Int) (a1 : Int) : Option (Int × List Int) := (laws_markInt64S.l1 a0 k a0 a1 0).bind fun (y1, y2) => some (y2, y1)
theorem laws_markInt64S.c (k : Nat) (w : World) (Aa0 : Option Addr) (ca0 : Nat) (a0 : List Int) (a1 : Int) (hin : St w (fpU [rowC (ci .i64) Aa0 ca0 2 a0]) w [rowC (ci .i64) Aa0 ca0 2 a0] []) (r : Int × List Int) (H : laws_markInt64S.f k a0 a1 = some r) :
    CV Tryd.prog 30 [.slice Aa0 a0.length ca0, .int .i64 a1].toArray w fun v w' => v = .int .i64 r.1 ∧ St w (fpU [rowC (ci .i64) Aa0 ca0 2 a0]) w' [rowC (ci .i64) Aa0 ca0 2 r.2] [] ∧ r.2.length = a0.length := by
  have hS := hin
  unfold laws_markInt64S.f at H
  refine CV.body Tryd.func30 rfl Tryd.ntmps30 rfl ?_
  have hl0 : a0.length = a0.length := rfl
  refine CJ.seq ?_
  refine CJ.region ?_
  refine OJ.pures tU_ok 1 rfl ?_
  refine OJ.nil (EJ.next ?_)
  refine CJ.seq ?_
  refine CJ.seq ?_
  refine CJ.region ?_
  refine OJ.pures tU_ok 1 rfl ?_
  refine OJ.nil (EJ.next ?_)
  obtain ⟨j93, H, K93⟩ := pbind H
  refine CJ.cut1 (fun F w1 => ∃ (y1 : List Int) (y2 : Int) , (some (y1, y2) : Option ((List Int) × Int)) = some j93 ∧ F = [(1, .int .i64 y2)] ∧ St w (fpU [rowC (ci .i64) Aa0 ca0 2 a0]) w1 [rowC (ci .i64) Aa0 ca0 2 y1] [] ∧ y1.length = a0.length) ?_ ?_
  · skip
    refine CJ.block ?_
    refine CJ.loop (fun k F w1 => ∃ (y3 : List Int) (y4 : Int) (y5 : Int), F = [(0, .slice Aa0 a0.length ca0), (1, .int .i64 y4), (5, .int .i64 y5)] ∧ St w (fpU [rowC (ci .i64) Aa0 ca0 2 a0]) w1 [rowC (ci .i64) Aa0 ca0 2 y3] [] ∧ y3.length = a0.length ∧ laws_markInt64S.l1 a0 k y3 y4 y5 = some j93) k (F' := [(0, .slice Aa0 a0.length ca0), (1, .int .i64 a1), (5, .int .i64 0)]) ⟨rfl, rfl, rfl, trivial⟩ ⟨a0, a1, 0, rfl, hS.pick [0] [] rfl, (by first | exact hl0 | (simp only [List.length_set]; exact hl0) | (simp only [List.length_set]; done)), H⟩ ?_
    rintro k F w1 ⟨y3, y4, y5, rfl, hS, hl0, H⟩
    cases k with
    | zero => rw [laws_markInt64S.l1] at H; cases H
    | succ k =>
      rw [laws_markInt64S.l1] at H
      refine CJ.seq ?_
      refine CJ.seq ?_
      refine CJ.region ?_
      refine OJ.pures tU_ok 4 rfl ?_
      refine OJ.nil (EJ.next ?_)
      refine CJ.cond rfl (fun hb => ?_) (fun hb => ?_)
      · replace H := pif_t (of_decide_eq_true hb) H
        refine CJ.skip (EJ.next ?_)
        refine CJ.seq ?_
        refine CJ.block ?_
        refine CJ.seq ?_
        refine CJ.region ?_
        refine OJ.pures tU_ok 3 rfl ?_
        obtain ⟨t6, ht6, H⟩ := pbind H
        obtain ⟨ad6, e6⟩ := (hS.rd (i := 0) rfl).some' ht6
        refine OJ.st rfl rfl rfl (SR.idxS tU_ok tI_ok rfl rfl rfl rfl e6 rfl (by have hg := (getI_some ht6).1; (first | rw [hl0] at hg | (simp only [List.length_set] at hg; rw [hl0] at hg)); exact hg)) ?_
        refine OJ.es rfl rfl (Es.storeR tI_ok hS (i := 0) (off := 0) rfl rfl ht6 e6 rfl rfl rfl rfl (vs := (ci .i64).enc y4) rfl rfl (one1 rfl) (Nat.le_of_ble_eq_true rfl) y4 rfl) ?_
        intro w1 hS
        refine OJ.nil (EJ.next ?_)
        refine CJ.region ?_
        refine OJ.pures tU_ok 3 rfl ?_
        refine OJ.nil (EJ.blk (EJ.next ?_))
        refine CJ.region ?_
        refine OJ.pures tU_ok 3 rfl ?_
        refine OJ.nil ?_
        exact EJ.round k (F' := [(0, .slice Aa0 a0.length ca0), (1, .int .i64 (IntKind.i64.wrap (y4 + 1))), (5, .int .i64 (IntKind.i64.wrap (y5 + 1)))]) ⟨rfl, rfl, rfl, trivial⟩ (Nat.lt_succ_self _) ⟨(y3.set y5.toNat y4), (IntKind.i64.wrap (y4 + 1)), (IntKind.i64.wrap (y5 + 1)), rfl, hS.pick [0] [] rfl, (by first | exact hl0 | (simp only [List.length_set]; exact hl0) | (simp only [List.length_set]; done)), H⟩
      · replace H := pif_f (of_decide_eq_false hb) H
        refine CJ.exit (EJ.skE (EJ.skE (EJ.hit (?_))))
        exact EJ.meet (F' := [(1, .int .i64 y4)]) ⟨rfl, trivial⟩ ⟨y3, y4, H, rfl, hS.pick [0] [] rfl, (by first | exact hl0 | (simp only [List.length_set]; exact hl0) | (simp only [List.length_set]; done))⟩
  · rintro F w1 ⟨y1, y2, he, rfl, hS, hl0⟩
    obtain rfl := Option.some.inj he
    have H := K93
    refine EJ.next ?_
    refine CJ.seq ?_
    refine CJ.region ?_
    refine OJ.pures tU_ok 2 rfl ?_
    refine OJ.nil (EJ.next ?_)
    refine CJ.ret (?_)
    obtain rfl := Option.some.inj H
    exact EJ.fin rfl (.tmp rfl .nil) ⟨rfl, hS.pick [0] [] rfl, (by first | exact hl0 | (simp only [List.length_set]; exact hl0) | (simp only [List.length_set]; done))⟩

def laws_heldInt64S.l1 (a0 : List Int) : Nat → Int → Int → Option (Int ⊕ Int)
  | 0, _, _ => none
  | k + 1, y2, y3 => if y3 < (a0.length : Int) then ((getI a0 y3).bind fun t4 => if t4 ≠ y2 then (some (Sum.inl (-1))) else (laws_heldInt64S.l1 a0 k (IntKind.i64.wrap (y2 + 1)) (IntKind.i64.wrap (y3 + 1)))) else (some (Sum.inr y2))
def laws_heldInt64S.f (k : Nat) (a0 : List Int) (a1 : Int) : Option Int := (laws_heldInt64S.l1 a0 k a1 0).bind fun s94 => match s94 with | .inl r => some r | .inr y1 => some y1
theorem laws_heldInt64S.c (k : Nat) (w : World) (Aa0 : Option Addr) (ca0 : Nat) (a0 : List Int) (hr0 : Rd (ci .i64) w Aa0 a0) (hc0 : a0.length ≤ ca0) (a1 : Int) (r : Int) (H : laws_heldInt64S.f k a0 a1 = some r) :
    CV Tryd.prog 31 [.slice Aa0 a0.length ca0, .int .i64 a1].toArray w fun v w' => v = .int .i64 r ∧ Ext w w' := by
  have hS := ((St.init w no).param (ci .i64) Aa0 ca0 a0 hr0 hc0)
  unfold laws_heldInt64S.f at H
  refine CV.body Tryd.func31 rfl Tryd.ntmps31 rfl ?_
  refine CJ.seq ?_
  refine CJ.region ?_
  refine OJ.pures tU_ok 1 rfl ?_
  refine OJ.nil (EJ.next ?_)
  refine CJ.seq ?_
  refine CJ.seq ?_
  refine CJ.region ?_
  refine OJ.pures tU_ok 1 rfl ?_
  refine OJ.nil (EJ.next ?_)
  obtain ⟨j94, H, K94⟩ := pbind H
  refine CJ.cut1 (fun F w1 => ∃ (y1 : Int) , (some (Sum.inr y1) : Option (Int ⊕ Int)) = some j94 ∧ F = [(1, .int .i64 y1)] ∧ St w no w1 [] [roC (ci .i64) Aa0 ca0 a0]) ?_ ?_
  · skip
    refine CJ.block ?_
    refine CJ.loop (fun k F w1 => ∃ (y2 : Int) (y3 : Int), F = [(0, .slice Aa0 a0.length ca0), (1, .int .i64 y2), (5, .int .i64 y3)] ∧ St w no w1 [] [roC (ci .i64) Aa0 ca0 a0] ∧ laws_heldInt64S.l1 a0 k y2 y3 = some j94) k (F' := [(0, .slice Aa0 a0.length ca0), (1, .int .i64 a1), (5, .int .i64 0)]) ⟨rfl, rfl, rfl, trivial⟩ ⟨a1, 0, rfl, hS.pick [] [0] rfl, H⟩ ?_
    rintro k F w1 ⟨y2, y3, rfl, hS, H⟩
    cases k with
    | zero => rw [laws_heldInt64S.l1] at H; cases H
    | succ k =>
      rw [laws_heldInt64S.l1] at H
      refine CJ.seq ?_
      refine CJ.seq ?_
      refine CJ.region ?_
      refine OJ.pures tU_ok 4 rfl ?_
      refine OJ.nil (EJ.next ?_)
      refine CJ.cond rfl (fun hb => ?_) (fun hb => ?_)
      · replace H := pif_t (of_decide_eq_true hb) H
        refine CJ.skip (EJ.next ?_)
        refine CJ.seq ?_
        refine CJ.block ?_
        refine CJ.seq ?_
        refine CJ.seq ?_
        refine CJ.region ?_
        refine OJ.pures tU_ok 2 rfl ?_
        obtain ⟨t4, ht4, H⟩ := pbind H
        obtain ⟨ad4, e4⟩ := (hS.rd' (i := 0) rfl).some' ht4
        refine OJ.st rfl rfl rfl (SR.idxS tU_ok tI_ok rfl rfl rfl rfl e4 rfl (getI_some ht4).1) ?_
        refine OJ.st rfl rfl rfl (SR.load rfl rfl (fun w' hx => ld1 tU_ok rfl rfl (CA.ext ((hS.rd' (i := 0) rfl).at_ e4 ht4) hx) rfl)) ?_
        refine OJ.pures tU_ok 2 rfl ?_
        refine OJ.nil (EJ.next ?_)
        refine CJ.cond rfl (fun hb => ?_) (fun hb => ?_)
        · replace H := pif_t (of_decide_eq_true hb) H
          refine CJ.seq ?_
          refine CJ.region ?_
          refine OJ.pures tU_ok 1 rfl ?_
          refine OJ.nil (EJ.next ?_)
          refine CJ.ret (EJ.skR (EJ.bkR (EJ.skR (EJ.skR (EJ.bkR (EJ.skR (EJ.skR (?_))))))))
          first | (obtain rfl := Option.some.inj H; have H := K94) | (obtain ⟨q94, H2, e94⟩ := pbind H; obtain rfl := Option.some.inj e94; obtain rfl := Option.some.inj K94; have H := H2)
          obtain rfl := Option.some.inj H
          exact EJ.fin rfl (.tmp rfl .nil) ⟨rfl, hS.ext⟩
        · replace H := pif_f (of_decide_eq_false hb) H
          refine CJ.skip (EJ.next ?_)
          refine CJ.region ?_
          refine OJ.pures tU_ok 3 rfl ?_
          refine OJ.nil (EJ.blk (EJ.next ?_))
          refine CJ.region ?_
          refine OJ.pures tU_ok 3 rfl ?_
          refine OJ.nil ?_
          exact EJ.round k (F' := [(0, .slice Aa0 a0.length ca0), (1, .int .i64 (IntKind.i64.wrap (y2 + 1))), (5, .int .i64 (IntKind.i64.wrap (y3 + 1)))]) ⟨rfl, rfl, rfl, trivial⟩ (Nat.lt_succ_self _) ⟨(IntKind.i64.wrap (y2 + 1)), (IntKind.i64.wrap (y3 + 1)), rfl, hS.pick [] [0] rfl, H⟩
      · replace H := pif_f (of_decide_eq_false hb) H
        refine CJ.exit (EJ.skE (EJ.skE (EJ.hit (?_))))
        exact EJ.meet (F' := [(1, .int .i64 y2)]) ⟨rfl, trivial⟩ ⟨y2, H, rfl, hS.pick [] [0] rfl⟩
  · rintro F w1 ⟨y1, he, rfl, hS⟩
    obtain rfl := Option.some.inj he
    have H := K94
    refine EJ.next ?_
    refine CJ.seq ?_
    refine CJ.region ?_
    refine OJ.pures tU_ok 2 rfl ?_
    refine OJ.nil (EJ.next ?_)
    refine CJ.ret (?_)
    obtain rfl := Option.some.inj H
    exact EJ.fin rfl (.tmp rfl .nil) ⟨rfl, hS.ext⟩

def laws_FnExactFewestGroups.f (k : Nat) (a0 : Herd) : Option Bool := (laws_szHerd.f k a0 1048576).bind fun t2 => if t2 < 0 then (some true) else ((laws_toHerd.f k a0).bind fun t3 => (spec_FewestGroups.f k t3).bind fun t10 => (laws_toHerd.f k a0).bind fun t13 => (impl_FewestGroups.f k t13).bind fun t21 => ((laws_eqInt64S.f k t21.1 t10.1).bind fun t25 => if (!t25) = true then (some true) else (if t21.2.1 ≠ t10.2.1 then (some true) else (some (decide (t21.2.2 ≠ t10.2.2))))).bind fun y24 => if y24 = true then (some false) else ((laws_toHerd.f k a0).bind fun t26 => (laws_eqHerd.f k t13 t26).bind fun t33 => if (!t33) = true then (some false) else ((laws_markHerd.f k t13 1).bind fun t34 => (if t34.1 < 0 then (some true) else ((laws_eqInt64S.f k t21.1 t10.1).bind fun t36 => if (!t36) = true then (some true) else (if t21.2.1 ≠ t10.2.1 then (some true) else (some (decide (t21.2.2 ≠ t10.2.2)))))).bind fun y35 => if y35 = true then (some false) else ((laws_markInt64S.f k t21.1 1).bind fun t37 => (laws_heldInt64S.f k t37.2 1).bind fun t38 => if t38 < 0 then (some false) else (if t38 ≠ t37.1 then (some false) else ((laws_toHerd.f k a0).bind fun t39 => (impl_FewestGroups.f k t39).bind fun t46 => ((laws_eqInt64S.f k t46.1 t10.1).bind fun t50 => if (!t50) = true then (some true) else (if t46.2.1 ≠ t10.2.1 then (some true) else (some (decide (t46.2.2 ≠ t10.2.2))))).bind fun y49 => if y49 = true then (some false) else ((laws_heldInt64S.f k t37.2 1).bind fun t51 => if t51 < 0 then (some false) else (if t51 ≠ t37.1 then (some false) else (some true)))))))))
theorem laws_FnExactFewestGroups.c (k : Nat) (w : World) (Aa0_0 : Option Addr) (ca0_0 : Nat) (Aa0_1 : Option Addr) (ca0_1 : Nat) (Aa0_2 : Option Addr) (ca0_2 : Nat) (a0 : Herd) (hr0_0 : Rd G.cs w Aa0_0 a0.Names) (hc0_0 : a0.Names.length ≤ ca0_0) (hr0_1 : Rd (ci .i16) w Aa0_1 a0.Eats) (hc0_1 : a0.Eats.length ≤ ca0_1) (hr0_2 : Rd (ci .u16) w Aa0_2 a0.Foes) (hc0_2 : a0.Foes.length ≤ ca0_2) (r : Bool) (H : laws_FnExactFewestGroups.f k a0 = some r) :
    CV Tryd.prog 11 [.agg [.slice Aa0_0 a0.Names.length ca0_0, .slice Aa0_1 a0.Eats.length ca0_1, .slice Aa0_2 a0.Foes.length ca0_2].toArray].toArray w fun v w' => v = .bool r ∧ Ext w w' := by
  have hS := ((((St.init w no).param G.cs Aa0_0 ca0_0 a0.Names hr0_0 hc0_0).param (ci .i16) Aa0_1 ca0_1 a0.Eats hr0_1 hc0_1).param (ci .u16) Aa0_2 ca0_2 a0.Foes hr0_2 hc0_2)
  unfold laws_FnExactFewestGroups.f at H
  refine CV.body Tryd.func11 rfl Tryd.ntmps11 rfl ?_
  refine CJ.seq ?_
  refine CJ.region ?_
  refine OJ.ef rfl rfl rfl (Ef.box hS rfl rfl ([.slice Aa0_0 a0.Names.length ca0_0, .slice Aa0_1 a0.Eats.length ca0_1, .slice Aa0_2 a0.Foes.length ca0_2]) rfl) ?_
  rintro _ w1 ⟨b1, rfl, hS⟩
  refine OJ.pures tU_ok 1 rfl ?_
  refine OJ.nil (EJ.next ?_)
  refine CJ.seq ?_
  refine CJ.region ?_
  refine OJ.pures tU_ok 1 rfl ?_
  refine OJ.nil (EJ.next ?_)
  refine CJ.seq ?_
  refine CJ.region ?_
  refine OJ.st rfl rfl rfl (SR.load rfl rfl (fun w' hx => ldN tU_ok tI_ok rfl rfl rfl (CA.ext (hS.cells (i := 0) rfl) hx) (ds := [.slice Aa0_0 a0.Names.length ca0_0, .slice Aa0_1 a0.Eats.length ca0_1, .slice Aa0_2 a0.Foes.length ca0_2]) rfl rfl)) ?_
  refine OJ.pures tU_ok 1 rfl ?_
  obtain ⟨t2, ht2, H⟩ := pbind H
  refine OJ.callF rfl rfl rfl rfl rfl hb14 rfl (laws_szHerd.c k _ Aa0_0 ca0_0 Aa0_1 ca0_1 Aa0_2 ca0_2 a0 (hS.rd' (i := 0) rfl) (hS.le' (i := 0) rfl) (hS.rd' (i := 1) rfl) (hS.le' (i := 1) rfl) (hS.rd' (i := 2) rfl) (hS.le' (i := 2) rfl) 1048576 _ ht2) ?_
  rintro _ w1 ⟨rfl, hs⟩
  replace hS := hS.grow hs
  refine OJ.pures tU_ok 1 rfl ?_
  refine OJ.nil (EJ.next ?_)
  refine CJ.seq ?_
  refine CJ.seq ?_
  refine CJ.region ?_
  refine OJ.pures tU_ok 2 rfl ?_
  refine OJ.nil (EJ.next ?_)
  refine CJ.cond rfl (fun hb => ?_) (fun hb => ?_)
  · replace H := pif_t (of_decide_eq_true hb) H
    refine CJ.seq ?_
    refine CJ.region ?_
    refine OJ.pures tU_ok 1 rfl ?_
    refine OJ.nil (EJ.next ?_)
    refine CJ.ret (EJ.skR (?_))
    obtain rfl := Option.some.inj H
    exact EJ.fin rfl (.tmp rfl .nil) ⟨rfl, hS.ext⟩
  · replace H := pif_f (of_decide_eq_false hb) H
    refine CJ.skip (EJ.next ?_)
    refine CJ.seq ?_
    refine CJ.region ?_
    refine OJ.st rfl rfl rfl (SR.load rfl rfl (fun w' hx => ldN tU_ok tI_ok rfl rfl rfl (CA.ext (hS.cells (i := 0) rfl) hx) (ds := [.slice Aa0_0 a0.Names.length ca0_0, .slice Aa0_1 a0.Eats.length ca0_1, .slice Aa0_2 a0.Foes.length ca0_2]) rfl rfl)) ?_
    obtain ⟨t3, ht3, H⟩ := pbind H
    refine OJ.callF rfl rfl rfl rfl rfl hb16 rfl (laws_toHerd.c k _ Aa0_0 ca0_0 Aa0_1 ca0_1 Aa0_2 ca0_2 a0 (hS.rd' (i := 0) rfl) (hS.le' (i := 0) rfl) (hS.rd' (i := 1) rfl) (hS.le' (i := 1) rfl) (hS.rd' (i := 2) rfl) (hS.le' (i := 2) rfl) _ ht3) ?_
    rintro _ w1 ⟨A4, c5, A6, c7, A8, c9, rfl, hs⟩
    replace hS := hS.addN hs
    obtain ⟨t10, ht10, H⟩ := pbind H
    refine OJ.callF rfl rfl rfl rfl rfl hb42 rfl (spec_FewestGroups.c k _ A4 c5 A6 c7 A8 c9 t3 (hS.rd (i := 1) rfl) (hS.le (i := 1) rfl) (hS.rd (i := 2) rfl) (hS.le (i := 2) rfl) (hS.rd (i := 3) rfl) (hS.le (i := 3) rfl) _ ht10) ?_
    rintro _ w1 ⟨A11, c12, rfl, hs⟩
    replace hS := hS.addN hs
    refine OJ.pures tU_ok 7 rfl ?_
    refine OJ.nil (EJ.next ?_)
    refine CJ.seq ?_
    refine CJ.region ?_
    refine OJ.st rfl rfl rfl (SR.load rfl rfl (fun w' hx => ldN tU_ok tI_ok rfl rfl rfl (CA.ext (hS.cells (i := 0) rfl) hx) (ds := [.slice Aa0_0 a0.Names.length ca0_0, .slice Aa0_1 a0.Eats.length ca0_1, .slice Aa0_2 a0.Foes.length ca0_2]) rfl rfl)) ?_
    obtain ⟨t13, ht13, H⟩ := pbind H
    refine OJ.callF rfl rfl rfl rfl rfl hb16 rfl (laws_toHerd.c k _ Aa0_0 ca0_0 Aa0_1 ca0_1 Aa0_2 ca0_2 a0 (hS.rd' (i := 0) rfl) (hS.le' (i := 0) rfl) (hS.rd' (i := 1) rfl) (hS.le' (i := 1) rfl) (hS.rd' (i := 2) rfl) (hS.le' (i := 2) rfl) _ ht13) ?_
    rintro _ w1 ⟨A14, c15, A16, c17, A18, c19, rfl, hs⟩
    replace hS := hS.addN hs
    have hS : St w no w1 [box b1 ([.slice Aa0_0 a0.Names.length ca0_0, .slice Aa0_1 a0.Eats.length ca0_1, .slice Aa0_2 a0.Foes.length ca0_2]) 26, rowC G.cs A4 c5 9 t3.Names, rowC (ci .i16) A6 c7 73 t3.Eats, rowC (ci .u16) A8 c9 74 t3.Foes, rowC (ci .i64) A11 c12 2 t10.1, rowC G.cs A14 c15 9 t13.Names, rowC (ci .i16) A16 c17 73 t13.Eats, rowC (ci .u16) A18 c19 74 t13.Foes] [roC G.cs Aa0_0 ca0_0 a0.Names, roC (ci .i16) Aa0_1 ca0_1 a0.Eats, roC (ci .u16) Aa0_2 ca0_2 a0.Foes] := hS
    refine OJ.ef rfl rfl rfl (Ef.alloc hS tI_ok rfl rfl ([.slice none 0 0, .slice none 0 0, .slice none 0 0]) rfl) ?_
    rintro _ w1 ⟨b20, rfl, hS⟩
    refine OJ.es rfl rfl (Es.store tI_ok hS (i := 8) (vs := [.slice A14 t13.Names.length c15, .slice A16 t13.Eats.length c17, .slice A18 t13.Foes.length c19]) rfl rfl rfl rfl rfl rfl rfl rfl (by intro u hu; simp only [List.mem_cons, List.not_mem_nil, or_false] at hu; rcases hu with rfl | rfl | rfl <;> rfl) (Nat.le_of_ble_eq_true rfl) ([.slice A14 t13.Names.length c15, .slice A16 t13.Eats.length c17, .slice A18 t13.Foes.length c19]) rfl) ?_
    intro w1 hS
    refine OJ.nil (EJ.next ?_)
    refine CJ.seq ?_
    refine CJ.region ?_
    refine OJ.st rfl rfl rfl (SR.load rfl rfl (fun w' hx => ldN tU_ok tI_ok rfl rfl rfl (CA.ext (hS.cells (i := 8) rfl) hx) (ds := [.slice A14 t13.Names.length c15, .slice A16 t13.Eats.length c17, .slice A18 t13.Foes.length c19]) rfl rfl)) ?_
    obtain ⟨t21, ht21, H⟩ := pbind H
    refine OJ.callF rfl rfl rfl rfl rfl hb43 rfl (impl_FewestGroups.c k _ A14 c15 A16 c17 A18 c19 t13 (hS.rd (i := 5) rfl) (hS.le (i := 5) rfl) (hS.rd (i := 6) rfl) (hS.le (i := 6) rfl) (hS.rd (i := 7) rfl) (hS.le (i := 7) rfl) _ ht21) ?_
    rintro _ w1 ⟨A22, c23, rfl, hs⟩
    replace hS := hS.addN hs
    have hS : St w no w1 [box b1 ([.slice Aa0_0 a0.Names.length ca0_0, .slice Aa0_1 a0.Eats.length ca0_1, .slice Aa0_2 a0.Foes.length ca0_2]) 26, rowC G.cs A4 c5 9 t3.Names, rowC (ci .i16) A6 c7 73 t3.Eats, rowC (ci .u16) A8 c9 74 t3.Foes, rowC (ci .i64) A11 c12 2 t10.1, rowC G.cs A14 c15 9 t13.Names, rowC (ci .i16) A16 c17 73 t13.Eats, rowC (ci .u16) A18 c19 74 t13.Foes, box b20 ([.slice A14 t13.Names.length c15, .slice A16 t13.Eats.length c17, .slice A18 t13.Foes.length c19]) 29, rowC (ci .i64) A22 c23 2 t21.1] [roC G.cs Aa0_0 ca0_0 a0.Names, roC (ci .i16) Aa0_1 ca0_1 a0.Eats, roC (ci .u16) Aa0_2 ca0_2 a0.Foes] := hS
    refine OJ.pures tU_ok 7 rfl ?_
    refine OJ.nil (EJ.next ?_)
    refine CJ.seq ?_
    obtain ⟨j79, H, K79⟩ := pbind H
    refine CJ.cut (fun F w1 => ∃ (y24 : Bool) , (some y24 : Option Bool) = some j79 ∧ F = [(1, .pointer (some ⟨b1, 0, none⟩)), (4, .slice A11 t10.1.length c12), (5, .int .i64 t10.2.1), (6, .int .i64 t10.2.2), (7, .pointer (some ⟨b20, 0, none⟩)), (8, .slice A22 t21.1.length c23), (9, .int .i64 t21.2.1), (10, .int .i64 t21.2.2), (50, .bool y24)] ∧ St w no w1 [box b1 ([.slice Aa0_0 a0.Names.length ca0_0, .slice Aa0_1 a0.Eats.length ca0_1, .slice Aa0_2 a0.Foes.length ca0_2]) 26, rowC (ci .i64) A11 c12 2 t10.1, rowC G.cs A14 c15 9 t13.Names, rowC (ci .i16) A16 c17 73 t13.Eats, rowC (ci .u16) A18 c19 74 t13.Foes, box b20 ([.slice A14 t13.Names.length c15, .slice A16 t13.Eats.length c17, .slice A18 t13.Foes.length c19]) 29, rowC (ci .i64) A22 c23 2 t21.1] [roC G.cs Aa0_0 ca0_0 a0.Names, roC (ci .i16) Aa0_1 ca0_1 a0.Eats, roC (ci .u16) Aa0_2 ca0_2 a0.Foes]) ?_ ?_
    · skip
      refine CJ.region ?_
      refine OJ.pures tU_ok 2 rfl ?_
      obtain ⟨t25, ht25, H⟩ := pbind H
      refine OJ.callF rfl rfl rfl rfl rfl hb24 rfl (laws_eqInt64S.c k _ A22 c23 t21.1 (hS.rd (i := 9) rfl) (hS.le (i := 9) rfl) A11 c12 t10.1 (hS.rd (i := 4) rfl) (hS.le (i := 4) rfl) _ ht25) ?_
      rintro _ w1 ⟨rfl, hs⟩
      replace hS := hS.grow hs
      refine OJ.pures tU_ok 2 rfl ?_
      refine OJ.split (t := 41) rfl (fun hb => ?_) (fun hb => ?_)
      · replace H := pif_t hb H
        refine OJ.pures tU_ok 9 rfl ?_
        refine OJ.nil ?_
        exact EJ.meet (F' := [(1, .pointer (some ⟨b1, 0, none⟩)), (4, .slice A11 t10.1.length c12), (5, .int .i64 t10.2.1), (6, .int .i64 t10.2.2), (7, .pointer (some ⟨b20, 0, none⟩)), (8, .slice A22 t21.1.length c23), (9, .int .i64 t21.2.1), (10, .int .i64 t21.2.2), (50, .bool true)]) ⟨rfl, rfl, rfl, rfl, rfl, rfl, rfl, rfl, rfl, trivial⟩ ⟨true, H, rfl, hS.pick [0, 4, 5, 6, 7, 8, 9] [0, 1, 2] rfl⟩
      · replace H := pifb_f hb H
        refine OJ.pures tU_ok 5 rfl ?_
        refine OJ.split (t := 46) rfl (fun hb => ?_) (fun hb => ?_)
        · replace H := pif_t (of_decide_eq_true hb) H
          refine OJ.pures tU_ok 4 rfl ?_
          refine OJ.nil ?_
          exact EJ.meet (F' := [(1, .pointer (some ⟨b1, 0, none⟩)), (4, .slice A11 t10.1.length c12), (5, .int .i64 t10.2.1), (6, .int .i64 t10.2.2), (7, .pointer (some ⟨b20, 0, none⟩)), (8, .slice A22 t21.1.length c23), (9, .int .i64 t21.2.1), (10, .int .i64 t21.2.2), (50, .bool true)]) ⟨rfl, rfl, rfl, rfl, rfl, rfl, rfl, rfl, rfl, trivial⟩ ⟨true, H, rfl, hS.pick [0, 4, 5, 6, 7, 8, 9] [0, 1, 2] rfl⟩
        · replace H := pif_f (of_decide_eq_false hb) H
          refine OJ.pures tU_ok 4 rfl ?_
          refine OJ.nil ?_
          exact EJ.meet (F' := [(1, .pointer (some ⟨b1, 0, none⟩)), (4, .slice A11 t10.1.length c12), (5, .int .i64 t10.2.1), (6, .int .i64 t10.2.2), (7, .pointer (some ⟨b20, 0, none⟩)), (8, .slice A22 t21.1.length c23), (9, .int .i64 t21.2.1), (10, .int .i64 t21.2.2), (50, .bool (decide (t21.2.2 ≠ t10.2.2)))]) ⟨rfl, rfl, rfl, rfl, rfl, rfl, rfl, rfl, rfl, trivial⟩ ⟨(decide (t21.2.2 ≠ t10.2.2)), H, rfl, hS.pick [0, 4, 5, 6, 7, 8, 9] [0, 1, 2] rfl⟩
    · rintro F w1 ⟨y24, he, rfl, hS⟩
      obtain rfl := Option.some.inj he
      have H := K79
      refine CJ.cond rfl (fun hb => ?_) (fun hb => ?_)
      · replace H := pif_t hb H
        refine CJ.seq ?_
        refine CJ.region ?_
        refine OJ.pures tU_ok 1 rfl ?_
        refine OJ.nil (EJ.next ?_)
        refine CJ.ret (EJ.skR (?_))
        obtain rfl := Option.some.inj H
        exact EJ.fin rfl (.tmp rfl .nil) ⟨rfl, hS.ext⟩
      · replace H := pifb_f hb H
        refine CJ.skip (EJ.next ?_)
        refine CJ.seq ?_
        refine CJ.seq ?_
        refine CJ.draw [] [0, 1, 2, 3, 4] mixed (by kernel_rfl) hS fun w1 hS => ?_
        refine DJ.st rfl rfl rfl rfl rfl (SR.load rfl rfl (fun w' hx => ldN tU_ok tI_ok rfl rfl rfl (CA.ext (hS.cells (i := 5) rfl) hx) (ds := [.slice A14 t13.Names.length c15, .slice A16 t13.Eats.length c17, .slice A18 t13.Foes.length c19]) rfl rfl)) ?_
        refine DJ.st rfl rfl rfl rfl rfl (SR.load rfl rfl (fun w' hx => ldN tU_ok tI_ok rfl rfl rfl (CA.ext (hS.cells (i := 0) rfl) hx) (ds := [.slice Aa0_0 a0.Names.length ca0_0, .slice Aa0_1 a0.Eats.length ca0_1, .slice Aa0_2 a0.Foes.length ca0_2]) rfl rfl)) ?_
        obtain ⟨t26, ht26, H⟩ := pbind H
        refine DJ.callF rfl rfl rfl rfl rfl rfl rfl hb16 rfl (laws_toHerd.c k _ Aa0_0 ca0_0 Aa0_1 ca0_1 Aa0_2 ca0_2 a0 (hS.rd' (i := 0) rfl) (hS.le' (i := 0) rfl) (hS.rd' (i := 1) rfl) (hS.le' (i := 1) rfl) (hS.rd' (i := 2) rfl) (hS.le' (i := 2) rfl) _ ht26) (by rintro v w' ⟨A27, c28, A29, c30, A31, c32, rfl, hs⟩; exact hs.ext) ?_
        rintro _ w1 ⟨A27, c28, A29, c30, A31, c32, rfl, hs⟩
        replace hS := hS.addN hs
        have hS : St w no w1 [box b1 ([.slice Aa0_0 a0.Names.length ca0_0, .slice Aa0_1 a0.Eats.length ca0_1, .slice Aa0_2 a0.Foes.length ca0_2]) 26, rowC (ci .i64) A11 c12 2 t10.1, rowC G.cs A14 c15 9 t13.Names, rowC (ci .i16) A16 c17 73 t13.Eats, rowC (ci .u16) A18 c19 74 t13.Foes, box b20 ([.slice A14 t13.Names.length c15, .slice A16 t13.Eats.length c17, .slice A18 t13.Foes.length c19]) 29, rowC (ci .i64) A22 c23 2 t21.1, rowC G.cs A27 c28 9 t26.Names, rowC (ci .i16) A29 c30 73 t26.Eats, rowC (ci .u16) A31 c32 74 t26.Foes] [roC G.cs Aa0_0 ca0_0 a0.Names, roC (ci .i16) Aa0_1 ca0_1 a0.Eats, roC (ci .u16) Aa0_2 ca0_2 a0.Foes] := hS
        obtain ⟨t33, ht33, H⟩ := pbind H
        refine DJ.callF rfl rfl rfl rfl rfl rfl rfl hb18 rfl (laws_eqHerd.c k _ A14 c15 A16 c17 A18 c19 t13 (hS.rd (i := 2) rfl) (hS.le (i := 2) rfl) (hS.rd (i := 3) rfl) (hS.le (i := 3) rfl) (hS.rd (i := 4) rfl) (hS.le (i := 4) rfl) A27 c28 A29 c30 A31 c32 t26 (hS.rd (i := 7) rfl) (hS.le (i := 7) rfl) (hS.rd (i := 8) rfl) (hS.le (i := 8) rfl) (hS.rd (i := 9) rfl) (hS.le (i := 9) rfl) _ ht33) (by rintro v w' ⟨rfl, hs⟩; exact hs) ?_
        rintro _ w1 ⟨rfl, hs⟩
        replace hS := hS.grow hs
        refine DJ.pures tU_ok 1 rfl ?_
        refine DJ.nil (EJ.next ?_)
        refine CJ.cond rfl (fun hb => ?_) (fun hb => ?_)
        · replace H := pif_t hb H
          refine CJ.seq ?_
          refine CJ.region ?_
          refine OJ.pures tU_ok 1 rfl ?_
          refine OJ.nil (EJ.next ?_)
          refine CJ.ret (EJ.skR (?_))
          obtain rfl := Option.some.inj H
          exact EJ.fin rfl (.tmp rfl .nil) ⟨rfl, hS.ext⟩
        · replace H := pifb_f hb H
          refine CJ.skip (EJ.next ?_)
          refine CJ.seq ?_
          refine CJ.region ?_
          refine OJ.pures tU_ok 1 rfl ?_
          refine OJ.nil (EJ.next ?_)
          refine CJ.seq ?_
          refine CJ.region ?_
          refine OJ.st rfl rfl rfl (SR.load rfl rfl (fun w' hx => ldN tU_ok tI_ok rfl rfl rfl (CA.ext (hS.cells (i := 5) rfl) hx) (ds := [.slice A14 t13.Names.length c15, .slice A16 t13.Eats.length c17, .slice A18 t13.Foes.length c19]) rfl rfl)) ?_
          refine OJ.pures tU_ok 1 rfl ?_
          obtain ⟨t34, ht34, H⟩ := pbind H
          refine OJ.callF rfl rfl rfl rfl rfl hb29 rfl (laws_markHerd.c k _ A14 c15 A16 c17 A18 c19 t13 1 ((hS.subs [2, 3, 4] [] [] rfl).pick [0, 1, 2] [] rfl) _ ht34) ?_
          rintro _ w1 ⟨rfl, hs, hlc0, hlc1, hlc2⟩
          replace hS := hS.back [2, 3, 4] rfl rfl [rowC G.cs A14 c15 9 t34.2.1, rowC (ci .i16) A16 c17 73 t34.2.2.1, rowC (ci .u16) A18 c19 74 t34.2.2.2] [] hs ⟨fun _ => Iff.rfl, fun _ => Iff.rfl, fun _ => Iff.rfl, trivial⟩
          have hS : St w no w1 [box b1 ([.slice Aa0_0 a0.Names.length ca0_0, .slice Aa0_1 a0.Eats.length ca0_1, .slice Aa0_2 a0.Foes.length ca0_2]) 26, rowC (ci .i64) A11 c12 2 t10.1, rowC G.cs A14 c15 9 t34.2.1, rowC (ci .i16) A16 c17 73 t34.2.2.1, rowC (ci .u16) A18 c19 74 t34.2.2.2, box b20 ([.slice A14 t13.Names.length c15, .slice A16 t13.Eats.length c17, .slice A18 t13.Foes.length c19]) 29, rowC (ci .i64) A22 c23 2 t21.1, rowC G.cs A27 c28 9 t26.Names, rowC (ci .i16) A29 c30 73 t26.Eats, rowC (ci .u16) A31 c32 74 t26.Foes] [roC G.cs Aa0_0 ca0_0 a0.Names, roC (ci .i16) Aa0_1 ca0_1 a0.Eats, roC (ci .u16) Aa0_2 ca0_2 a0.Foes] := hS
          refine OJ.as (t := 51) rfl (show _ = (.agg [.slice A14 t34.2.1.length c15, .slice A16 t13.Eats.length c17, .slice A18 t13.Foes.length c19].toArray : Value) by simp only [hlc0]) ?_
          refine OJ.as (t := 56) rfl (show _ = (.agg [.slice A14 t34.2.1.length c15, .slice A16 t13.Eats.length c17, .slice A18 t13.Foes.length c19].toArray : Value) by simp only [hlc0]) ?_
          replace hS := hS.boxAs (i := 5) rfl (show _ = ([.slice A14 t34.2.1.length c15, .slice A16 t13.Eats.length c17, .slice A18 t13.Foes.length c19] : List Value) by simp only [hlc0])
          refine OJ.as (t := 51) rfl (show _ = (.agg [.slice A14 t34.2.1.length c15, .slice A16 t34.2.2.1.length c17, .slice A18 t13.Foes.length c19].toArray : Value) by simp only [hlc1]) ?_
          refine OJ.as (t := 56) rfl (show _ = (.agg [.slice A14 t34.2.1.length c15, .slice A16 t34.2.2.1.length c17, .slice A18 t13.Foes.length c19].toArray : Value) by simp only [hlc1]) ?_
          replace hS := hS.boxAs (i := 5) rfl (show _ = ([.slice A14 t34.2.1.length c15, .slice A16 t34.2.2.1.length c17, .slice A18 t13.Foes.length c19] : List Value) by simp only [hlc1])
          refine OJ.as (t := 51) rfl (show _ = (.agg [.slice A14 t34.2.1.length c15, .slice A16 t34.2.2.1.length c17, .slice A18 t34.2.2.2.length c19].toArray : Value) by simp only [hlc2]) ?_
          refine OJ.as (t := 56) rfl (show _ = (.agg [.slice A14 t34.2.1.length c15, .slice A16 t34.2.2.1.length c17, .slice A18 t34.2.2.2.length c19].toArray : Value) by simp only [hlc2]) ?_
          replace hS := hS.boxAs (i := 5) rfl (show _ = ([.slice A14 t34.2.1.length c15, .slice A16 t34.2.2.1.length c17, .slice A18 t34.2.2.2.length c19] : List Value) by simp only [hlc2])
          have hS : St w no w1 [box b1 ([.slice Aa0_0 a0.Names.length ca0_0, .slice Aa0_1 a0.Eats.length ca0_1, .slice Aa0_2 a0.Foes.length ca0_2]) 26, rowC (ci .i64) A11 c12 2 t10.1, rowC G.cs A14 c15 9 t34.2.1, rowC (ci .i16) A16 c17 73 t34.2.2.1, rowC (ci .u16) A18 c19 74 t34.2.2.2, box b20 ([.slice A14 t34.2.1.length c15, .slice A16 t34.2.2.1.length c17, .slice A18 t34.2.2.2.length c19]) 29, rowC (ci .i64) A22 c23 2 t21.1, rowC G.cs A27 c28 9 t26.Names, rowC (ci .i16) A29 c30 73 t26.Eats, rowC (ci .u16) A31 c32 74 t26.Foes] [roC G.cs Aa0_0 ca0_0 a0.Names, roC (ci .i16) Aa0_1 ca0_1 a0.Eats, roC (ci .u16) Aa0_2 ca0_2 a0.Foes] := hS
          refine OJ.pures tU_ok 1 rfl ?_
          refine OJ.nil (EJ.next ?_)
          refine CJ.seq ?_
          obtain ⟨j91, H, K91⟩ := pbind H
          refine CJ.cut (fun F w1 => ∃ (y35 : Bool) , (some y35 : Option Bool) = some j91 ∧ F = [(1, .pointer (some ⟨b1, 0, none⟩)), (4, .slice A11 t10.1.length c12), (5, .int .i64 t10.2.1), (6, .int .i64 t10.2.2), (8, .slice A22 t21.1.length c23), (76, .bool y35)] ∧ St w no w1 [box b1 ([.slice Aa0_0 a0.Names.length ca0_0, .slice Aa0_1 a0.Eats.length ca0_1, .slice Aa0_2 a0.Foes.length ca0_2]) 26, rowC (ci .i64) A11 c12 2 t10.1, rowC (ci .i64) A22 c23 2 t21.1] [roC G.cs Aa0_0 ca0_0 a0.Names, roC (ci .i16) Aa0_1 ca0_1 a0.Eats, roC (ci .u16) Aa0_2 ca0_2 a0.Foes]) ?_ ?_
          · skip
            refine CJ.region ?_
            refine OJ.pures tU_ok 3 rfl ?_
            refine OJ.split (t := 61) rfl (fun hb => ?_) (fun hb => ?_)
            · replace H := pif_t (of_decide_eq_true hb) H
              refine OJ.pures tU_ok 15 rfl ?_
              refine OJ.nil ?_
              exact EJ.meet (F' := [(1, .pointer (some ⟨b1, 0, none⟩)), (4, .slice A11 t10.1.length c12), (5, .int .i64 t10.2.1), (6, .int .i64 t10.2.2), (8, .slice A22 t21.1.length c23), (76, .bool true)]) ⟨rfl, rfl, rfl, rfl, rfl, rfl, trivial⟩ ⟨true, H, rfl, hS.pick [0, 1, 6] [0, 1, 2] rfl⟩
            · replace H := pif_f (of_decide_eq_false hb) H
              refine OJ.pures tU_ok 2 rfl ?_
              obtain ⟨t36, ht36, H⟩ := pbind H
              refine OJ.callF rfl rfl rfl rfl rfl hb24 rfl (laws_eqInt64S.c k _ A22 c23 t21.1 (hS.rd (i := 6) rfl) (hS.le (i := 6) rfl) A11 c12 t10.1 (hS.rd (i := 1) rfl) (hS.le (i := 1) rfl) _ ht36) ?_
              rintro _ w1 ⟨rfl, hs⟩
              replace hS := hS.grow hs
              refine OJ.pures tU_ok 3 rfl ?_
              refine OJ.split (t := 67) rfl (fun hb => ?_) (fun hb => ?_)
              · replace H := pif_t hb H
                refine OJ.pures tU_ok 9 rfl ?_
                refine OJ.nil ?_
                exact EJ.meet (F' := [(1, .pointer (some ⟨b1, 0, none⟩)), (4, .slice A11 t10.1.length c12), (5, .int .i64 t10.2.1), (6, .int .i64 t10.2.2), (8, .slice A22 t21.1.length c23), (76, .bool true)]) ⟨rfl, rfl, rfl, rfl, rfl, rfl, trivial⟩ ⟨true, H, rfl, hS.pick [0, 1, 6] [0, 1, 2] rfl⟩
              · replace H := pifb_f hb H
                refine OJ.pures tU_ok 5 rfl ?_
                refine OJ.split (t := 72) rfl (fun hb => ?_) (fun hb => ?_)
                · replace H := pif_t (of_decide_eq_true hb) H
                  refine OJ.pures tU_ok 4 rfl ?_
                  refine OJ.nil ?_
                  exact EJ.meet (F' := [(1, .pointer (some ⟨b1, 0, none⟩)), (4, .slice A11 t10.1.length c12), (5, .int .i64 t10.2.1), (6, .int .i64 t10.2.2), (8, .slice A22 t21.1.length c23), (76, .bool true)]) ⟨rfl, rfl, rfl, rfl, rfl, rfl, trivial⟩ ⟨true, H, rfl, hS.pick [0, 1, 6] [0, 1, 2] rfl⟩
                · replace H := pif_f (of_decide_eq_false hb) H
                  refine OJ.pures tU_ok 4 rfl ?_
                  refine OJ.nil ?_
                  exact EJ.meet (F' := [(1, .pointer (some ⟨b1, 0, none⟩)), (4, .slice A11 t10.1.length c12), (5, .int .i64 t10.2.1), (6, .int .i64 t10.2.2), (8, .slice A22 t21.1.length c23), (76, .bool (decide (t21.2.2 ≠ t10.2.2)))]) ⟨rfl, rfl, rfl, rfl, rfl, rfl, trivial⟩ ⟨(decide (t21.2.2 ≠ t10.2.2)), H, rfl, hS.pick [0, 1, 6] [0, 1, 2] rfl⟩
          · rintro F w1 ⟨y35, he, rfl, hS⟩
            obtain rfl := Option.some.inj he
            have H := K91
            refine CJ.cond rfl (fun hb => ?_) (fun hb => ?_)
            · replace H := pif_t hb H
              refine CJ.seq ?_
              refine CJ.region ?_
              refine OJ.pures tU_ok 1 rfl ?_
              refine OJ.nil (EJ.next ?_)
              refine CJ.ret (EJ.skR (?_))
              obtain rfl := Option.some.inj H
              exact EJ.fin rfl (.tmp rfl .nil) ⟨rfl, hS.ext⟩
            · replace H := pifb_f hb H
              refine CJ.skip (EJ.next ?_)
              refine CJ.seq ?_
              refine CJ.region ?_
              refine OJ.pures tU_ok 1 rfl ?_
              refine OJ.nil (EJ.next ?_)
              refine CJ.seq ?_
              refine CJ.region ?_
              refine OJ.pures tU_ok 2 rfl ?_
              obtain ⟨t37, ht37, H⟩ := pbind H
              refine OJ.callF rfl rfl rfl rfl rfl hb30 rfl (laws_markInt64S.c k _ A22 c23 t21.1 1 ((hS.subs [2] [] [] rfl).pick [0] [] rfl) _ ht37) ?_
              rintro _ w1 ⟨rfl, hs, hlc0⟩
              replace hS := hS.back [2] rfl rfl [rowC (ci .i64) A22 c23 2 t37.2] [] hs ⟨fun _ => Iff.rfl, trivial⟩
              refine OJ.as (t := 8) rfl (show _ = (.slice A22 t37.2.length c23 : Value) by simp only [hlc0]) ?_
              refine OJ.as (t := 77) rfl (show _ = (.slice A22 t37.2.length c23 : Value) by simp only [hlc0]) ?_
              refine OJ.pures tU_ok 1 rfl ?_
              refine OJ.nil (EJ.next ?_)
              refine CJ.seq ?_
              refine CJ.region ?_
              refine OJ.pures tU_ok 1 rfl ?_
              refine OJ.nil (EJ.next ?_)
              refine CJ.seq ?_
              refine CJ.region ?_
              refine OJ.pures tU_ok 2 rfl ?_
              obtain ⟨t38, ht38, H⟩ := pbind H
              refine OJ.callF rfl rfl rfl rfl rfl hb31 rfl (laws_heldInt64S.c k _ A22 c23 t37.2 (hS.rd (i := 2) rfl) (hS.le (i := 2) rfl) 1 _ ht38) ?_
              rintro _ w1 ⟨rfl, hs⟩
              replace hS := hS.grow hs
              refine OJ.pures tU_ok 1 rfl ?_
              refine OJ.nil (EJ.next ?_)
              refine CJ.seq ?_
              refine CJ.seq ?_
              refine CJ.region ?_
              refine OJ.pures tU_ok 2 rfl ?_
              refine OJ.nil (EJ.next ?_)
              refine CJ.cond rfl (fun hb => ?_) (fun hb => ?_)
              · replace H := pif_t (of_decide_eq_true hb) H
                refine CJ.seq ?_
                refine CJ.region ?_
                refine OJ.pures tU_ok 1 rfl ?_
                refine OJ.nil (EJ.next ?_)
                refine CJ.ret (EJ.skR (?_))
                obtain rfl := Option.some.inj H
                exact EJ.fin rfl (.tmp rfl .nil) ⟨rfl, hS.ext⟩
              · replace H := pif_f (of_decide_eq_false hb) H
                refine CJ.skip (EJ.next ?_)
                refine CJ.seq ?_
                refine CJ.seq ?_
                refine CJ.region ?_
                refine OJ.pures tU_ok 3 rfl ?_
                refine OJ.nil (EJ.next ?_)
                refine CJ.cond rfl (fun hb => ?_) (fun hb => ?_)
                · replace H := pif_t (of_decide_eq_true hb) H
                  refine CJ.seq ?_
                  refine CJ.region ?_
                  refine OJ.pures tU_ok 1 rfl ?_
                  refine OJ.nil (EJ.next ?_)
                  refine CJ.ret (EJ.skR (?_))
                  obtain rfl := Option.some.inj H
                  exact EJ.fin rfl (.tmp rfl .nil) ⟨rfl, hS.ext⟩
                · replace H := pif_f (of_decide_eq_false hb) H
                  refine CJ.skip (EJ.next ?_)
                  refine CJ.seq ?_
                  refine CJ.region ?_
                  refine OJ.st rfl rfl rfl (SR.load rfl rfl (fun w' hx => ldN tU_ok tI_ok rfl rfl rfl (CA.ext (hS.cells (i := 0) rfl) hx) (ds := [.slice Aa0_0 a0.Names.length ca0_0, .slice Aa0_1 a0.Eats.length ca0_1, .slice Aa0_2 a0.Foes.length ca0_2]) rfl rfl)) ?_
                  obtain ⟨t39, ht39, H⟩ := pbind H
                  refine OJ.callF rfl rfl rfl rfl rfl hb16 rfl (laws_toHerd.c k _ Aa0_0 ca0_0 Aa0_1 ca0_1 Aa0_2 ca0_2 a0 (hS.rd' (i := 0) rfl) (hS.le' (i := 0) rfl) (hS.rd' (i := 1) rfl) (hS.le' (i := 1) rfl) (hS.rd' (i := 2) rfl) (hS.le' (i := 2) rfl) _ ht39) ?_
                  rintro _ w1 ⟨A40, c41, A42, c43, A44, c45, rfl, hs⟩
                  replace hS := hS.addN hs
                  have hS : St w no w1 [box b1 ([.slice Aa0_0 a0.Names.length ca0_0, .slice Aa0_1 a0.Eats.length ca0_1, .slice Aa0_2 a0.Foes.length ca0_2]) 26, rowC (ci .i64) A11 c12 2 t10.1, rowC (ci .i64) A22 c23 2 t37.2, rowC G.cs A40 c41 9 t39.Names, rowC (ci .i16) A42 c43 73 t39.Eats, rowC (ci .u16) A44 c45 74 t39.Foes] [roC G.cs Aa0_0 ca0_0 a0.Names, roC (ci .i16) Aa0_1 ca0_1 a0.Eats, roC (ci .u16) Aa0_2 ca0_2 a0.Foes] := hS
                  obtain ⟨t46, ht46, H⟩ := pbind H
                  refine OJ.callF rfl rfl rfl rfl rfl hb43 rfl (impl_FewestGroups.c k _ A40 c41 A42 c43 A44 c45 t39 (hS.rd (i := 3) rfl) (hS.le (i := 3) rfl) (hS.rd (i := 4) rfl) (hS.le (i := 4) rfl) (hS.rd (i := 5) rfl) (hS.le (i := 5) rfl) _ ht46) ?_
                  rintro _ w1 ⟨A47, c48, rfl, hs⟩
                  replace hS := hS.addN hs
                  have hS : St w no w1 [box b1 ([.slice Aa0_0 a0.Names.length ca0_0, .slice Aa0_1 a0.Eats.length ca0_1, .slice Aa0_2 a0.Foes.length ca0_2]) 26, rowC (ci .i64) A11 c12 2 t10.1, rowC (ci .i64) A22 c23 2 t37.2, rowC G.cs A40 c41 9 t39.Names, rowC (ci .i16) A42 c43 73 t39.Eats, rowC (ci .u16) A44 c45 74 t39.Foes, rowC (ci .i64) A47 c48 2 t46.1] [roC G.cs Aa0_0 ca0_0 a0.Names, roC (ci .i16) Aa0_1 ca0_1 a0.Eats, roC (ci .u16) Aa0_2 ca0_2 a0.Foes] := hS
                  refine OJ.pures tU_ok 7 rfl ?_
                  refine OJ.nil (EJ.next ?_)
                  refine CJ.seq ?_
                  obtain ⟨j95, H, K95⟩ := pbind H
                  refine CJ.cut (fun F w1 => ∃ (y49 : Bool) , (some y49 : Option Bool) = some j95 ∧ F = [(8, .slice A22 t37.2.length c23), (12, .int .i64 t37.1), (108, .bool y49)] ∧ St w no w1 [rowC (ci .i64) A22 c23 2 t37.2] [roC G.cs Aa0_0 ca0_0 a0.Names, roC (ci .i16) Aa0_1 ca0_1 a0.Eats, roC (ci .u16) Aa0_2 ca0_2 a0.Foes]) ?_ ?_
                  · skip
                    refine CJ.region ?_
                    refine OJ.pures tU_ok 2 rfl ?_
                    obtain ⟨t50, ht50, H⟩ := pbind H
                    refine OJ.callF rfl rfl rfl rfl rfl hb24 rfl (laws_eqInt64S.c k _ A47 c48 t46.1 (hS.rd (i := 6) rfl) (hS.le (i := 6) rfl) A11 c12 t10.1 (hS.rd (i := 1) rfl) (hS.le (i := 1) rfl) _ ht50) ?_
                    rintro _ w1 ⟨rfl, hs⟩
                    replace hS := hS.grow hs
                    refine OJ.pures tU_ok 2 rfl ?_
                    refine OJ.split (t := 99) rfl (fun hb => ?_) (fun hb => ?_)
                    · replace H := pif_t hb H
                      refine OJ.pures tU_ok 9 rfl ?_
                      refine OJ.nil ?_
                      exact EJ.meet (F' := [(8, .slice A22 t37.2.length c23), (12, .int .i64 t37.1), (108, .bool true)]) ⟨rfl, rfl, rfl, trivial⟩ ⟨true, H, rfl, hS.pick [2] [0, 1, 2] rfl⟩
                    · replace H := pifb_f hb H
                      refine OJ.pures tU_ok 5 rfl ?_
                      refine OJ.split (t := 104) rfl (fun hb => ?_) (fun hb => ?_)
                      · replace H := pif_t (of_decide_eq_true hb) H
                        refine OJ.pures tU_ok 4 rfl ?_
                        refine OJ.nil ?_
                        exact EJ.meet (F' := [(8, .slice A22 t37.2.length c23), (12, .int .i64 t37.1), (108, .bool true)]) ⟨rfl, rfl, rfl, trivial⟩ ⟨true, H, rfl, hS.pick [2] [0, 1, 2] rfl⟩
                      · replace H := pif_f (of_decide_eq_false hb) H
                        refine OJ.pures tU_ok 4 rfl ?_
                        refine OJ.nil ?_
                        exact EJ.meet (F' := [(8, .slice A22 t37.2.length c23), (12, .int .i64 t37.1), (108, .bool (decide (t46.2.2 ≠ t10.2.2)))]) ⟨rfl, rfl, rfl, trivial⟩ ⟨(decide (t46.2.2 ≠ t10.2.2)), H, rfl, hS.pick [2] [0, 1, 2] rfl⟩
                  · rintro F w1 ⟨y49, he, rfl, hS⟩
                    obtain rfl := Option.some.inj he
                    have H := K95
                    refine CJ.cond rfl (fun hb => ?_) (fun hb => ?_)
                    · replace H := pif_t hb H
                      refine CJ.seq ?_
                      refine CJ.region ?_
                      refine OJ.pures tU_ok 1 rfl ?_
                      refine OJ.nil (EJ.next ?_)
                      refine CJ.ret (EJ.skR (?_))
                      obtain rfl := Option.some.inj H
                      exact EJ.fin rfl (.tmp rfl .nil) ⟨rfl, hS.ext⟩
                    · replace H := pifb_f hb H
                      refine CJ.skip (EJ.next ?_)
                      refine CJ.seq ?_
                      refine CJ.region ?_
                      refine OJ.pures tU_ok 1 rfl ?_
                      refine OJ.nil (EJ.next ?_)
                      refine CJ.seq ?_
                      refine CJ.region ?_
                      refine OJ.pures tU_ok 2 rfl ?_
                      obtain ⟨t51, ht51, H⟩ := pbind H
                      refine OJ.callF rfl rfl rfl rfl rfl hb31 rfl (laws_heldInt64S.c k _ A22 c23 t37.2 (hS.rd (i := 0) rfl) (hS.le (i := 0) rfl) 1 _ ht51) ?_
                      rintro _ w1 ⟨rfl, hs⟩
                      replace hS := hS.grow hs
                      refine OJ.pures tU_ok 1 rfl ?_
                      refine OJ.nil (EJ.next ?_)
                      refine CJ.seq ?_
                      refine CJ.seq ?_
                      refine CJ.region ?_
                      refine OJ.pures tU_ok 2 rfl ?_
                      refine OJ.nil (EJ.next ?_)
                      refine CJ.cond rfl (fun hb => ?_) (fun hb => ?_)
                      · replace H := pif_t (of_decide_eq_true hb) H
                        refine CJ.seq ?_
                        refine CJ.region ?_
                        refine OJ.pures tU_ok 1 rfl ?_
                        refine OJ.nil (EJ.next ?_)
                        refine CJ.ret (EJ.skR (?_))
                        obtain rfl := Option.some.inj H
                        exact EJ.fin rfl (.tmp rfl .nil) ⟨rfl, hS.ext⟩
                      · replace H := pif_f (of_decide_eq_false hb) H
                        refine CJ.skip (EJ.next ?_)
                        refine CJ.seq ?_
                        refine CJ.seq ?_
                        refine CJ.region ?_
                        refine OJ.pures tU_ok 3 rfl ?_
                        refine OJ.nil (EJ.next ?_)
                        refine CJ.cond rfl (fun hb => ?_) (fun hb => ?_)
                        · replace H := pif_t (of_decide_eq_true hb) H
                          refine CJ.seq ?_
                          refine CJ.region ?_
                          refine OJ.pures tU_ok 1 rfl ?_
                          refine OJ.nil (EJ.next ?_)
                          refine CJ.ret (EJ.skR (?_))
                          obtain rfl := Option.some.inj H
                          exact EJ.fin rfl (.tmp rfl .nil) ⟨rfl, hS.ext⟩
                        · replace H := pif_f (of_decide_eq_false hb) H
                          refine CJ.skip (EJ.next ?_)
                          refine CJ.seq ?_
                          refine CJ.region ?_
                          refine OJ.pures tU_ok 1 rfl ?_
                          refine OJ.nil (EJ.next ?_)
                          refine CJ.ret (?_)
                          obtain rfl := Option.some.inj H
                          exact EJ.fin rfl (.tmp rfl .nil) ⟨rfl, hS.ext⟩

def spec_l06Asked.l1 (a0 : Herd) (a1 : List Int) : Nat → Int → Option (Int ⊕ Unit)
  | 0, _ => none
  | k + 1, y2 => if y2 < (a1.length : Int) then ((getI a1 y2).bind fun t3 => (spec_l00In.f t3 0 (IntKind.i64.wrap ((a0.Names.length : Int) - 1))).bind fun t4 => if (!t4) = true then (some (Sum.inl 2)) else (spec_l06Asked.l1 a0 a1 k (IntKind.i64.wrap (y2 + 1)))) else (some (Sum.inr ()))
def spec_l06Asked.f (k : Nat) (a0 : Herd) (a1 : List Int) : Option Int := (spec_l06Ok.f k a0).bind fun t1 => if (!t1) = true then (some 1) else ((spec_l06Asked.l1 a0 a1 k 0).bind fun s96 => match s96 with | .inl r => some r | .inr _ => some 0)
theorem spec_l06Asked.c (k : Nat) (w : World) (Aa0_0 : Option Addr) (ca0_0 : Nat) (Aa0_1 : Option Addr) (ca0_1 : Nat) (Aa0_2 : Option Addr) (ca0_2 : Nat) (a0 : Herd) (hr0_0 : Rd G.cs w Aa0_0 a0.Names) (hc0_0 : a0.Names.length ≤ ca0_0) (hr0_1 : Rd (ci .i16) w Aa0_1 a0.Eats) (hc0_1 : a0.Eats.length ≤ ca0_1) (hr0_2 : Rd (ci .u16) w Aa0_2 a0.Foes) (hc0_2 : a0.Foes.length ≤ ca0_2) (pa0 : Addr) (hp0 : CA w pa0 ([.slice Aa0_0 a0.Names.length ca0_0, .slice Aa0_1 a0.Eats.length ca0_1, .slice Aa0_2 a0.Foes.length ca0_2])) (Aa1 : Option Addr) (ca1 : Nat) (a1 : List Int) (hr1 : Rd (ci .i64) w Aa1 a1) (hc1 : a1.length ≤ ca1) (r : Int) (H : spec_l06Asked.f k a0 a1 = some r) :
    CV Tryd.prog 62 [.pointer (some pa0), .slice Aa1 a1.length ca1].toArray w fun v w' => v = .int .i64 r ∧ Ext w w' := by
  have hS := ((((((St.init w no).param G.cs Aa0_0 ca0_0 a0.Names hr0_0 hc0_0).param (ci .i16) Aa0_1 ca0_1 a0.Eats hr0_1 hc0_1).param (ci .u16) Aa0_2 ca0_2 a0.Foes hr0_2 hc0_2).paramP pa0 ([.slice Aa0_0 a0.Names.length ca0_0, .slice Aa0_1 a0.Eats.length ca0_1, .slice Aa0_2 a0.Foes.length ca0_2]) hp0).param (ci .i64) Aa1 ca1 a1 hr1 hc1)
  unfold spec_l06Asked.f at H
  refine CV.body Tryd.func62 rfl Tryd.ntmps62 rfl ?_
  refine CJ.seq ?_
  refine CJ.region ?_
  refine OJ.pures tU_ok 1 rfl ?_
  refine OJ.nil (EJ.next ?_)
  refine CJ.seq ?_
  refine CJ.seq ?_
  refine CJ.region ?_
  refine OJ.pures tU_ok 1 rfl ?_
  obtain ⟨t1, ht1, H⟩ := pbind H
  refine OJ.callF rfl rfl rfl rfl rfl hb51 rfl (spec_l06Ok.c k _ Aa0_0 ca0_0 Aa0_1 ca0_1 Aa0_2 ca0_2 a0 (hS.rd' (i := 0) rfl) (hS.le' (i := 0) rfl) (hS.rd' (i := 1) rfl) (hS.le' (i := 1) rfl) (hS.rd' (i := 2) rfl) (hS.le' (i := 2) rfl) pa0 (hS.ca (i := 3) rfl) _ ht1) ?_
  rintro _ w1 ⟨rfl, hs⟩
  replace hS := hS.grow hs
  refine OJ.pures tU_ok 1 rfl ?_
  refine OJ.nil (EJ.next ?_)
  refine CJ.cond rfl (fun hb => ?_) (fun hb => ?_)
  · replace H := pif_t hb H
    refine CJ.seq ?_
    refine CJ.region ?_
    refine OJ.pures tU_ok 1 rfl ?_
    refine OJ.nil (EJ.next ?_)
    refine CJ.ret (EJ.skR (?_))
    obtain rfl := Option.some.inj H
    exact EJ.fin rfl (.tmp rfl .nil) ⟨rfl, hS.ext⟩
  · replace H := pifb_f hb H
    refine CJ.skip (EJ.next ?_)
    refine CJ.seq ?_
    refine CJ.seq ?_
    refine CJ.region ?_
    refine OJ.pures tU_ok 1 rfl ?_
    refine OJ.nil (EJ.next ?_)
    obtain ⟨j96, H, K96⟩ := pbind H
    refine CJ.cut1 (fun F w1 => (some (Sum.inr ()) : Option (Int ⊕ Unit)) = some j96 ∧ F = [] ∧ St w no w1 [] [roC G.cs Aa0_0 ca0_0 a0.Names, roC (ci .i16) Aa0_1 ca0_1 a0.Eats, roC (ci .u16) Aa0_2 ca0_2 a0.Foes, roP pa0 ([.slice Aa0_0 a0.Names.length ca0_0, .slice Aa0_1 a0.Eats.length ca0_1, .slice Aa0_2 a0.Foes.length ca0_2]), roC (ci .i64) Aa1 ca1 a1]) ?_ ?_
    · skip
      refine CJ.block ?_
      refine CJ.loop (fun k F w1 => ∃ (y2 : Int), F = [(0, .pointer (some pa0)), (1, .slice Aa1 a1.length ca1), (5, .int .i64 y2)] ∧ St w no w1 [] [roC G.cs Aa0_0 ca0_0 a0.Names, roC (ci .i16) Aa0_1 ca0_1 a0.Eats, roC (ci .u16) Aa0_2 ca0_2 a0.Foes, roP pa0 ([.slice Aa0_0 a0.Names.length ca0_0, .slice Aa0_1 a0.Eats.length ca0_1, .slice Aa0_2 a0.Foes.length ca0_2]), roC (ci .i64) Aa1 ca1 a1] ∧ spec_l06Asked.l1 a0 a1 k y2 = some j96) k (F' := [(0, .pointer (some pa0)), (1, .slice Aa1 a1.length ca1), (5, .int .i64 0)]) ⟨rfl, rfl, rfl, trivial⟩ ⟨0, rfl, hS.pick [] [0, 1, 2, 3, 4] rfl, H⟩ ?_
      rintro k F w1 ⟨y2, rfl, hS, H⟩
      cases k with
      | zero => rw [spec_l06Asked.l1] at H; cases H
      | succ k =>
        rw [spec_l06Asked.l1] at H
        refine CJ.seq ?_
        refine CJ.seq ?_
        refine CJ.region ?_
        refine OJ.pures tU_ok 4 rfl ?_
        refine OJ.nil (EJ.next ?_)
        refine CJ.cond rfl (fun hb => ?_) (fun hb => ?_)
        · replace H := pif_t (of_decide_eq_true hb) H
          refine CJ.skip (EJ.next ?_)
          refine CJ.seq ?_
          refine CJ.block ?_
          refine CJ.seq ?_
          refine CJ.draw [] [0, 1, 2, 3, 4, 5, 6, 7, 8, 9, 10, 11] mixed (by kernel_rfl) hS fun w1 hS => ?_
          refine DJ.pures tU_ok 2 rfl ?_
          obtain ⟨t3, ht3, H⟩ := pbind H
          obtain ⟨ad3, e3⟩ := (hS.rd' (i := 4) rfl).some' ht3
          refine DJ.st rfl rfl rfl rfl rfl (SR.idxS tU_ok tI_ok rfl rfl rfl rfl e3 rfl (getI_some ht3).1) ?_
          refine DJ.st rfl rfl rfl rfl rfl (SR.load rfl rfl (fun w' hx => ld1 tU_ok rfl rfl (CA.ext ((hS.rd' (i := 4) rfl).at_ e3 ht3) hx) rfl)) ?_
          refine DJ.pures tU_ok 2 rfl ?_
          refine DJ.st rfl rfl rfl rfl rfl (SR.fieldAddr tU_ok tI_ok rfl rfl rfl rfl rfl rfl) ?_
          refine DJ.st rfl rfl rfl rfl rfl (SR.load rfl rfl (fun w' hx => ld1 tU_ok rfl rfl (CA.ext (CA.sub (hS.ca (i := 3) rfl) 0) hx) rfl)) ?_
          refine DJ.pures tU_ok 2 rfl ?_
          obtain ⟨t4, ht4, H⟩ := pbind H
          refine DJ.callF rfl rfl rfl rfl rfl rfl rfl hb87 rfl (spec_l00In.c _ t3 0 (IntKind.i64.wrap ((a0.Names.length : Int) - 1)) _ ht4) (by rintro v w' ⟨rfl, hs⟩; exact hs) ?_
          rintro _ w1 ⟨rfl, hs⟩
          replace hS := hS.grow hs
          refine DJ.pures tU_ok 1 rfl ?_
          refine DJ.nil (EJ.next ?_)
          refine CJ.cond rfl (fun hb => ?_) (fun hb => ?_)
          · replace H := pif_t hb H
            refine CJ.seq ?_
            refine CJ.region ?_
            refine OJ.pures tU_ok 1 rfl ?_
            refine OJ.nil (EJ.next ?_)
            refine CJ.ret (EJ.bkR (EJ.skR (EJ.skR (EJ.bkR (EJ.skR (EJ.skR (?_)))))))
            first | (obtain rfl := Option.some.inj H; have H := K96) | (obtain ⟨q96, H2, e96⟩ := pbind H; obtain rfl := Option.some.inj e96; obtain rfl := Option.some.inj K96; have H := H2)
            obtain rfl := Option.some.inj H
            exact EJ.fin rfl (.tmp rfl .nil) ⟨rfl, hS.ext⟩
          · replace H := pifb_f hb H
            refine CJ.skip (EJ.blk (EJ.next ?_))
            refine CJ.region ?_
            refine OJ.pures tU_ok 3 rfl ?_
            refine OJ.nil ?_
            exact EJ.round k (F' := [(0, .pointer (some pa0)), (1, .slice Aa1 a1.length ca1), (5, .int .i64 (IntKind.i64.wrap (y2 + 1)))]) ⟨rfl, rfl, rfl, trivial⟩ (Nat.lt_succ_self _) ⟨(IntKind.i64.wrap (y2 + 1)), rfl, hS.pick [] [0, 1, 2, 3, 4] rfl, H⟩
        · replace H := pif_f (of_decide_eq_false hb) H
          refine CJ.exit (EJ.skE (EJ.skE (EJ.hit (?_))))
          exact EJ.meet (F' := []) trivial ⟨H, rfl, hS.pick [] [0, 1, 2, 3, 4] rfl⟩
    · rintro F w1 ⟨he, rfl, hS⟩
      obtain rfl := Option.some.inj he
      have H := K96
      refine EJ.next ?_
      refine CJ.seq ?_
      refine CJ.region ?_
      refine OJ.pures tU_ok 1 rfl ?_
      refine OJ.nil (EJ.next ?_)
      refine CJ.ret (?_)
      obtain rfl := Option.some.inj H
      exact EJ.fin rfl (.tmp rfl .nil) ⟨rfl, hS.ext⟩

def laws_toInt64S.l1 (a0 : List Int) : Nat → (List Int) → Int → Option (List Int)
  | 0, _, _ => none
  | k + 1, y4, y5 => if y5 < (a0.length : Int) then ((getI a0 y5).bind fun t6 => (getI y4 y5).bind fun t7 => laws_toInt64S.l1 a0 k (y4.set y5.toNat t6) (IntKind.i64.wrap (y5 + 1))) else (some y4)
def laws_toInt64S.f (k : Nat) (a0 : List Int) : Option (List Int) := (chk (0 ≤ (a0.length : Int) ∧ (a0.length : Int) ≤ 4294967296)).bind fun u1 => (laws_toInt64S.l1 a0 k (List.replicate ((a0.length : Int).toNat) 0) 0).bind fun y3 => some y3
theorem laws_toInt64S.c (k : Nat) (w : World) (Aa0 : Option Addr) (ca0 : Nat) (a0 : List Int) (hr0 : Rd (ci .i64) w Aa0 a0) (hc0 : a0.length ≤ ca0) (r : List Int) (H : laws_toInt64S.f k a0 = some r) :
    CV Tryd.prog 22 [.slice Aa0 a0.length ca0].toArray w fun v w' => ∃ (A0 : Option Addr) (c0 : Nat), v = .slice A0 r.length c0 ∧ St w no w' [rowC (ci .i64) A0 c0 2 r] [] := by
  have hS := ((St.init w no).param (ci .i64) Aa0 ca0 a0 hr0 hc0)
  unfold laws_toInt64S.f at H
  refine CV.body Tryd.func22 rfl Tryd.ntmps22 rfl ?_
  refine CJ.seq ?_
  refine CJ.region ?_
  refine OJ.pures tU_ok 1 rfl ?_
  refine OJ.nil (EJ.next ?_)
  refine CJ.seq ?_
  refine CJ.region ?_
  refine OJ.pures tU_ok 2 rfl ?_
  obtain ⟨u1, hu1, H⟩ := pbind H
  refine OJ.ef rfl rfl rfl (Ef.make tU_ok tI_ok hS (C := (ci .i64)) rfl rfl rfl rfl rfl rfl rfl rfl (chk_some hu1) 0 rfl) ?_
  rintro _ w1 ⟨A2, rfl, hS⟩
  refine OJ.pures tU_ok 1 rfl ?_
  refine OJ.nil (EJ.next ?_)
  refine CJ.seq ?_
  refine CJ.seq ?_
  refine CJ.region ?_
  refine OJ.pures tU_ok 1 rfl ?_
  refine OJ.nil (EJ.next ?_)
  obtain ⟨j97, H, K97⟩ := pbind H
  refine CJ.cut1 (fun F w1 => ∃ (y3 : List Int) , (some y3 : Option (List Int)) = some j97 ∧ F = [(3, .slice A2 y3.length ((a0.length : Int).toNat))] ∧ St w no w1 [rowC (ci .i64) A2 ((a0.length : Int).toNat) 2 y3] [roC (ci .i64) Aa0 ca0 a0]) ?_ ?_
  · skip
    refine CJ.block ?_
    refine CJ.loop (fun k F w1 => ∃ (y4 : List Int) (y5 : Int), F = [(0, .slice Aa0 a0.length ca0), (3, .slice A2 y4.length ((a0.length : Int).toNat)), (4, .int .i64 y5)] ∧ St w no w1 [rowC (ci .i64) A2 ((a0.length : Int).toNat) 2 y4] [roC (ci .i64) Aa0 ca0 a0] ∧ laws_toInt64S.l1 a0 k y4 y5 = some j97) k (F' := [(0, .slice Aa0 a0.length ca0), (3, .slice A2 (List.replicate ((a0.length : Int).toNat) 0).length ((a0.length : Int).toNat)), (4, .int .i64 0)]) ⟨rfl, rfl, rfl, trivial⟩ ⟨(List.replicate ((a0.length : Int).toNat) 0), 0, rfl, hS.pick [0] [0] rfl, H⟩ ?_
    rintro k F w1 ⟨y4, y5, rfl, hS, H⟩
    cases k with
    | zero => rw [laws_toInt64S.l1] at H; cases H
    | succ k =>
      rw [laws_toInt64S.l1] at H
      refine CJ.seq ?_
      refine CJ.seq ?_
      refine CJ.region ?_
      refine OJ.pures tU_ok 4 rfl ?_
      refine OJ.nil (EJ.next ?_)
      refine CJ.cond rfl (fun hb => ?_) (fun hb => ?_)
      · replace H := pif_t (of_decide_eq_true hb) H
        refine CJ.skip (EJ.next ?_)
        refine CJ.seq ?_
        refine CJ.block ?_
        refine CJ.region ?_
        refine OJ.pures tU_ok 4 rfl ?_
        obtain ⟨t6, ht6, H⟩ := pbind H
        obtain ⟨ad6, e6⟩ := (hS.rd' (i := 0) rfl).some' ht6
        refine OJ.st rfl rfl rfl (SR.idxS tU_ok tI_ok rfl rfl rfl rfl e6 rfl (getI_some ht6).1) ?_
        refine OJ.st rfl rfl rfl (SR.load rfl rfl (fun w' hx => ld1 tU_ok rfl rfl (CA.ext ((hS.rd' (i := 0) rfl).at_ e6 ht6) hx) rfl)) ?_
        obtain ⟨t7, ht7, H⟩ := pbind H
        obtain ⟨ad7, e7⟩ := (hS.rd (i := 0) rfl).some' ht7
        refine OJ.st rfl rfl rfl (SR.idxS tU_ok tI_ok rfl rfl rfl rfl e7 rfl (getI_some ht7).1) ?_
        refine OJ.es rfl rfl (Es.storeR tI_ok hS (i := 0) (off := 0) rfl rfl ht7 e7 rfl rfl rfl rfl (vs := (ci .i64).enc t6) rfl rfl (one1 rfl) (Nat.le_of_ble_eq_true rfl) t6 rfl) ?_
        intro w1 hS
        refine OJ.as (t := 3) rfl (show _ = (.slice A2 (y4.set y5.toNat t6).length ((a0.length : Int).toNat) : Value) by simp only [List.length_set]) ?_
        refine OJ.as (t := 14) rfl (show _ = (.slice A2 (y4.set y5.toNat t6).length ((a0.length : Int).toNat) : Value) by simp only [List.length_set]) ?_
        refine OJ.nil (EJ.blk (EJ.next ?_))
        refine CJ.region ?_
        refine OJ.pures tU_ok 3 rfl ?_
        refine OJ.nil ?_
        exact EJ.round k (F' := [(0, .slice Aa0 a0.length ca0), (3, .slice A2 (y4.set y5.toNat t6).length ((a0.length : Int).toNat)), (4, .int .i64 (IntKind.i64.wrap (y5 + 1)))]) ⟨rfl, rfl, rfl, trivial⟩ (Nat.lt_succ_self _) ⟨(y4.set y5.toNat t6), (IntKind.i64.wrap (y5 + 1)), rfl, hS.pick [0] [0] rfl, H⟩
      · replace H := pif_f (of_decide_eq_false hb) H
        refine CJ.exit (EJ.skE (EJ.skE (EJ.hit (?_))))
        exact EJ.meet (F' := [(3, .slice A2 y4.length ((a0.length : Int).toNat))]) ⟨rfl, trivial⟩ ⟨y4, H, rfl, hS.pick [0] [0] rfl⟩
  · rintro F w1 ⟨y3, he, rfl, hS⟩
    obtain rfl := Option.some.inj he
    have H := K97
    refine EJ.next ?_
    refine CJ.seq ?_
    refine CJ.region ?_
    refine OJ.pures tU_ok 2 rfl ?_
    refine OJ.nil (EJ.next ?_)
    refine CJ.ret (?_)
    obtain rfl := Option.some.inj H
    exact EJ.fin rfl (.tmp rfl .nil) ⟨A2, ((a0.length : Int).toNat), rfl, hS.pick [0] [] rfl⟩

def impl_size_string.f (a0 : List ByteArray) : Option Int := some (a0.length : Int)
theorem impl_size_string.c (w : World) (Aa0 : Option Addr) (ca0 : Nat) (a0 : List ByteArray) (hr0 : Rd G.cs w Aa0 a0) (hc0 : a0.length ≤ ca0) (r : Int) (H : impl_size_string.f a0 = some r) :
    CV Tryd.prog 101 [.slice Aa0 a0.length ca0].toArray w fun v w' => v = .int .i64 r ∧ Ext w w' := by
  have hS := ((St.init w no).param G.cs Aa0 ca0 a0 hr0 hc0)
  unfold impl_size_string.f at H
  refine CV.body Tryd.func101 rfl Tryd.ntmps101 rfl ?_
  refine CJ.seq ?_
  refine CJ.region ?_
  refine OJ.pures tU_ok 1 rfl ?_
  refine OJ.nil (EJ.next ?_)
  refine CJ.seq ?_
  refine CJ.region ?_
  refine OJ.pures tU_ok 3 rfl ?_
  refine OJ.nil (EJ.next ?_)
  refine CJ.ret (?_)
  obtain rfl := Option.some.inj H
  exact EJ.fin rfl (.tmp rfl .nil) ⟨rfl, hS.ext⟩

def impl_Herd_many.f (a0 : Herd) : Option Int := (impl_size_string.f a0.Names).bind fun t2 => some t2
theorem impl_Herd_many.c (w : World) (Aa0_0 : Option Addr) (ca0_0 : Nat) (Aa0_1 : Option Addr) (ca0_1 : Nat) (Aa0_2 : Option Addr) (ca0_2 : Nat) (a0 : Herd) (hr0_0 : Rd G.cs w Aa0_0 a0.Names) (hc0_0 : a0.Names.length ≤ ca0_0) (hr0_1 : Rd (ci .i16) w Aa0_1 a0.Eats) (hc0_1 : a0.Eats.length ≤ ca0_1) (hr0_2 : Rd (ci .u16) w Aa0_2 a0.Foes) (hc0_2 : a0.Foes.length ≤ ca0_2) (r : Int) (H : impl_Herd_many.f a0 = some r) :
    CV Tryd.prog 78 [.agg [.slice Aa0_0 a0.Names.length ca0_0, .slice Aa0_1 a0.Eats.length ca0_1, .slice Aa0_2 a0.Foes.length ca0_2].toArray].toArray w fun v w' => v = .int .i64 r ∧ Ext w w' := by
  have hS := ((((St.init w no).param G.cs Aa0_0 ca0_0 a0.Names hr0_0 hc0_0).param (ci .i16) Aa0_1 ca0_1 a0.Eats hr0_1 hc0_1).param (ci .u16) Aa0_2 ca0_2 a0.Foes hr0_2 hc0_2)
  unfold impl_Herd_many.f at H
  refine CV.body Tryd.func78 rfl Tryd.ntmps78 rfl ?_
  refine CJ.seq ?_
  refine CJ.region ?_
  refine OJ.ef rfl rfl rfl (Ef.box hS rfl rfl ([.slice Aa0_0 a0.Names.length ca0_0, .slice Aa0_1 a0.Eats.length ca0_1, .slice Aa0_2 a0.Foes.length ca0_2]) rfl) ?_
  rintro _ w1 ⟨b1, rfl, hS⟩
  refine OJ.pures tU_ok 1 rfl ?_
  refine OJ.nil (EJ.next ?_)
  refine CJ.seq ?_
  refine CJ.region ?_
  refine OJ.st rfl rfl rfl (SR.fieldAddr tU_ok tI_ok rfl rfl rfl rfl rfl rfl) ?_
  refine OJ.st rfl rfl rfl (SR.load rfl rfl (fun w' hx => ld1 tU_ok rfl rfl (CA.ext (CA.sub (hS.cells (i := 0) rfl) 0) hx) rfl)) ?_
  obtain ⟨t2, ht2, H⟩ := pbind H
  refine OJ.callF rfl rfl rfl rfl rfl hb101 rfl (impl_size_string.c _ Aa0_0 ca0_0 a0.Names (hS.rd' (i := 0) rfl) (hS.le' (i := 0) rfl) _ ht2) ?_
  rintro _ w1 ⟨rfl, hs⟩
  replace hS := hS.grow hs
  refine OJ.pures tU_ok 1 rfl ?_
  refine OJ.nil (EJ.next ?_)
  refine CJ.ret (?_)
  obtain rfl := Option.some.inj H
  exact EJ.fin rfl (.tmp rfl .nil) ⟨rfl, hS.ext⟩

def impl_herdCode_1.f (a1 : Herd) (a0 : Int) : Option Bool := (impl_Herd_many.f a1).bind fun t1 => (impl_within.f a0 0 (IntKind.i64.wrap (t1 - 1))).bind fun t2 => some (!t2)
theorem impl_herdCode_1.c (w : World) (Aa1_0 : Option Addr) (ca1_0 : Nat) (Aa1_1 : Option Addr) (ca1_1 : Nat) (Aa1_2 : Option Addr) (ca1_2 : Nat) (a1 : Herd) (hr1_0 : Rd G.cs w Aa1_0 a1.Names) (hc1_0 : a1.Names.length ≤ ca1_0) (hr1_1 : Rd (ci .i16) w Aa1_1 a1.Eats) (hc1_1 : a1.Eats.length ≤ ca1_1) (hr1_2 : Rd (ci .u16) w Aa1_2 a1.Foes) (hc1_2 : a1.Foes.length ≤ ca1_2) (pa1 : Addr) (hp1 : CA w pa1 ([.slice Aa1_0 a1.Names.length ca1_0, .slice Aa1_1 a1.Eats.length ca1_1, .slice Aa1_2 a1.Foes.length ca1_2])) (a0 : Int) (r : Bool) (H : impl_herdCode_1.f a1 a0 = some r) :
    CV Tryd.prog 96 [.int .i64 a0, .pointer (some pa1)].toArray w fun v w' => v = .bool r ∧ Ext w w' := by
  have hS := (((((St.init w no).param G.cs Aa1_0 ca1_0 a1.Names hr1_0 hc1_0).param (ci .i16) Aa1_1 ca1_1 a1.Eats hr1_1 hc1_1).param (ci .u16) Aa1_2 ca1_2 a1.Foes hr1_2 hc1_2).paramP pa1 ([.slice Aa1_0 a1.Names.length ca1_0, .slice Aa1_1 a1.Eats.length ca1_1, .slice Aa1_2 a1.Foes.length ca1_2]) hp1)
  unfold impl_herdCode_1.f at H
  refine CV.body Tryd.func96 rfl Tryd.ntmps96 rfl ?_
  refine CJ.seq ?_
  refine CJ.region ?_
  refine OJ.pures tU_ok 1 rfl ?_
  refine OJ.nil (EJ.next ?_)
  refine CJ.seq ?_
  refine CJ.region ?_
  refine OJ.pures tU_ok 1 rfl ?_
  refine OJ.st rfl rfl rfl (SR.load rfl rfl (fun w' hx => ldN tU_ok tI_ok rfl rfl rfl (CA.ext (hS.ca (i := 3) rfl) hx) (ds := [.slice Aa1_0 a1.Names.length ca1_0, .slice Aa1_1 a1.Eats.length ca1_1, .slice Aa1_2 a1.Foes.length ca1_2]) rfl rfl)) ?_
  obtain ⟨t1, ht1, H⟩ := pbind H
  refine OJ.callF rfl rfl rfl rfl rfl hb78 rfl (impl_Herd_many.c _ Aa1_0 ca1_0 Aa1_1 ca1_1 Aa1_2 ca1_2 a1 (hS.rd' (i := 0) rfl) (hS.le' (i := 0) rfl) (hS.rd' (i := 1) rfl) (hS.le' (i := 1) rfl) (hS.rd' (i := 2) rfl) (hS.le' (i := 2) rfl) _ ht1) ?_
  rintro _ w1 ⟨rfl, hs⟩
  replace hS := hS.grow hs
  refine OJ.pures tU_ok 1 rfl ?_
  obtain ⟨t2, ht2, H⟩ := pbind H
  refine OJ.callF rfl rfl rfl rfl rfl hb57 rfl (impl_within.c _ a0 0 (IntKind.i64.wrap (t1 - 1)) _ ht2) ?_
  rintro _ w1 ⟨rfl, hs⟩
  replace hS := hS.grow hs
  refine OJ.pures tU_ok 2 rfl ?_
  refine OJ.nil (EJ.next ?_)
  refine CJ.ret (?_)
  obtain rfl := Option.some.inj H
  exact EJ.fin rfl (.tmp rfl .nil) ⟨rfl, hS.ext⟩

def impl_unless.f (a0 : Bool) (a1 : Int) : Option Int := if a0 = true then (some 0) else (some a1)
theorem impl_unless.c (w : World) (a0 : Bool) (a1 : Int) (r : Int) (H : impl_unless.f a0 a1 = some r) :
    CV Tryd.prog 90 [.bool a0, .int .i64 a1].toArray w fun v w' => v = .int .i64 r ∧ Ext w w' := by
  have hS := (St.init w no)
  unfold impl_unless.f at H
  refine CV.body Tryd.func90 rfl Tryd.ntmps90 rfl ?_
  refine CJ.seq ?_
  refine CJ.region ?_
  refine OJ.pures tU_ok 1 rfl ?_
  refine OJ.nil (EJ.next ?_)
  refine CJ.seq ?_
  refine CJ.seq ?_
  refine CJ.region ?_
  refine OJ.pures tU_ok 1 rfl ?_
  refine OJ.nil (EJ.next ?_)
  refine CJ.cond rfl (fun hb => ?_) (fun hb => ?_)
  · replace H := pif_t hb H
    refine CJ.seq ?_
    refine CJ.region ?_
    refine OJ.pures tU_ok 1 rfl ?_
    refine OJ.nil (EJ.next ?_)
    refine CJ.ret (EJ.skR (?_))
    obtain rfl := Option.some.inj H
    exact EJ.fin rfl (.tmp rfl .nil) ⟨rfl, hS.ext⟩
  · replace H := pifb_f hb H
    refine CJ.skip (EJ.next ?_)
    refine CJ.seq ?_
    refine CJ.region ?_
    refine OJ.pures tU_ok 2 rfl ?_
    refine OJ.nil (EJ.next ?_)
    refine CJ.ret (?_)
    obtain rfl := Option.some.inj H
    exact EJ.fin rfl (.tmp rfl .nil) ⟨rfl, hS.ext⟩

def impl_herdCode.f (k : Nat) (a0 : Herd) (a1 : List Int) : Option Int := (impl_ValidHerd.f k a0).bind fun t2 => if (!t2) = true then (some 1) else ((slices_ContainsFunc_int64_int64.f k a1 (impl_herdCode_1.f a0)).bind fun t3 => (impl_unless.f (!t3) 2).bind fun t4 => some t4)
theorem impl_herdCode.c (k : Nat) (w : World) (Aa0_0 : Option Addr) (ca0_0 : Nat) (Aa0_1 : Option Addr) (ca0_1 : Nat) (Aa0_2 : Option Addr) (ca0_2 : Nat) (a0 : Herd) (hr0_0 : Rd G.cs w Aa0_0 a0.Names) (hc0_0 : a0.Names.length ≤ ca0_0) (hr0_1 : Rd (ci .i16) w Aa0_1 a0.Eats) (hc0_1 : a0.Eats.length ≤ ca0_1) (hr0_2 : Rd (ci .u16) w Aa0_2 a0.Foes) (hc0_2 : a0.Foes.length ≤ ca0_2) (Aa1 : Option Addr) (ca1 : Nat) (a1 : List Int) (hr1 : Rd (ci .i64) w Aa1 a1) (hc1 : a1.length ≤ ca1) (r : Int) (H : impl_herdCode.f k a0 a1 = some r) :
    CV Tryd.prog 64 [.agg [.slice Aa0_0 a0.Names.length ca0_0, .slice Aa0_1 a0.Eats.length ca0_1, .slice Aa0_2 a0.Foes.length ca0_2].toArray, .slice Aa1 a1.length ca1].toArray w fun v w' => v = .int .i64 r ∧ Ext w w' := by
  have hS := (((((St.init w no).param G.cs Aa0_0 ca0_0 a0.Names hr0_0 hc0_0).param (ci .i16) Aa0_1 ca0_1 a0.Eats hr0_1 hc0_1).param (ci .u16) Aa0_2 ca0_2 a0.Foes hr0_2 hc0_2).param (ci .i64) Aa1 ca1 a1 hr1 hc1)
  unfold impl_herdCode.f at H
  refine CV.body Tryd.func64 rfl Tryd.ntmps64 rfl ?_
  refine CJ.seq ?_
  refine CJ.region ?_
  refine OJ.ef rfl rfl rfl (Ef.box hS rfl rfl ([.slice Aa0_0 a0.Names.length ca0_0, .slice Aa0_1 a0.Eats.length ca0_1, .slice Aa0_2 a0.Foes.length ca0_2]) rfl) ?_
  rintro _ w1 ⟨b1, rfl, hS⟩
  refine OJ.pures tU_ok 1 rfl ?_
  refine OJ.nil (EJ.next ?_)
  refine CJ.seq ?_
  refine CJ.seq ?_
  refine CJ.region ?_
  refine OJ.st rfl rfl rfl (SR.load rfl rfl (fun w' hx => ldN tU_ok tI_ok rfl rfl rfl (CA.ext (hS.cells (i := 0) rfl) hx) (ds := [.slice Aa0_0 a0.Names.length ca0_0, .slice Aa0_1 a0.Eats.length ca0_1, .slice Aa0_2 a0.Foes.length ca0_2]) rfl rfl)) ?_
  obtain ⟨t2, ht2, H⟩ := pbind H
  refine OJ.callF rfl rfl rfl rfl rfl hb17 rfl (impl_ValidHerd.c k _ Aa0_0 ca0_0 Aa0_1 ca0_1 Aa0_2 ca0_2 a0 (hS.rd' (i := 0) rfl) (hS.le' (i := 0) rfl) (hS.rd' (i := 1) rfl) (hS.le' (i := 1) rfl) (hS.rd' (i := 2) rfl) (hS.le' (i := 2) rfl) _ ht2) ?_
  rintro _ w1 ⟨rfl, hs⟩
  replace hS := hS.grow hs
  refine OJ.pures tU_ok 1 rfl ?_
  refine OJ.nil (EJ.next ?_)
  refine CJ.cond rfl (fun hb => ?_) (fun hb => ?_)
  · replace H := pif_t hb H
    refine CJ.seq ?_
    refine CJ.region ?_
    refine OJ.pures tU_ok 1 rfl ?_
    refine OJ.nil (EJ.next ?_)
    refine CJ.ret (EJ.skR (?_))
    obtain rfl := Option.some.inj H
    exact EJ.fin rfl (.tmp rfl .nil) ⟨rfl, hS.ext⟩
  · replace H := pifb_f hb H
    refine CJ.skip (EJ.next ?_)
    refine CJ.seq ?_
    refine CJ.region ?_
    refine OJ.pures tU_ok 2 rfl ?_
    obtain ⟨t3, ht3, H⟩ := pbind H
    refine OJ.callF rfl rfl rfl rfl rfl hb95 rfl (slices_ContainsFunc_int64_int64.c k _ Aa1 ca1 a1 (hS.rd' (i := 3) rfl) (hS.le' (i := 3) rfl) 96 #[] #[.pointer (some ⟨b1, 0, none⟩)] hb96 (impl_herdCode_1.f a0) (fun z0 r h w' hx => CV.cast (impl_herdCode_1.c w' Aa0_0 ca0_0 Aa0_1 ca0_1 Aa0_2 ca0_2 a0 ((hS.rd' (i := 0) rfl).ext hx) (hS.le' (i := 0) rfl) ((hS.rd' (i := 1) rfl).ext hx) (hS.le' (i := 1) rfl) ((hS.rd' (i := 2) rfl).ext hx) (hS.le' (i := 2) rfl) ⟨b1, 0, none⟩ (CA.ext (hS.cells (i := 0) rfl) hx)  z0 r h) (by simp)) _ ht3) ?_
    rintro _ w1 ⟨rfl, hs⟩
    replace hS := hS.grow hs
    refine OJ.pures tU_ok 1 rfl ?_
    obtain ⟨t4, ht4, H⟩ := pbind H
    refine OJ.callF rfl rfl rfl rfl rfl hb90 rfl (impl_unless.c _ (!t3) 2 _ ht4) ?_
    rintro _ w1 ⟨rfl, hs⟩
    replace hS := hS.grow hs
    refine OJ.pures tU_ok 1 rfl ?_
    refine OJ.nil (EJ.next ?_)
    refine CJ.ret (?_)
    obtain rfl := Option.some.inj H
    exact EJ.fin rfl (.tmp rfl .nil) ⟨rfl, hS.ext⟩
end Go.Proofs.YtimpcenflahchaaDoor
