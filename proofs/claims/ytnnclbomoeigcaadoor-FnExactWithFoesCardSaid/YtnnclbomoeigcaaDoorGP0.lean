/-
  What the functions come to.
-/
import Derived.Test.YtnnclbomoeigcaaDoorGT
namespace Go.Proofs.YtnnclbomoeigcaaDoor
open G
set_option linter.unusedVariables false
set_option linter.unusedSimpArgs false
set_option maxRecDepth 100000
set_option maxHeartbeats 4000000
def laws_szStringS.l1 (a0 : List ByteArray) : Nat → Int → Int → Option (Int ⊕ Int)
  | 0, _, _ => none
  | k + 1, y2, y3 => if y3 < (a0.length : Int) then ((getI a0 y3).bind fun t4 => if (IntKind.i64.wrap (y2 - (t4.size : Int))) < 0 then (some (Sum.inl (-1))) else (laws_szStringS.l1 a0 k (IntKind.i64.wrap (y2 - (t4.size : Int))) (IntKind.i64.wrap (y3 + 1)))) else (some (Sum.inr y2))
def laws_szStringS.f (k : Nat) (a0 : List ByteArray) (a1 : Int) : Option Int := if (IntKind.i64.wrap (a1 - (a0.length : Int))) < 0 then (some (-1)) else ((laws_szStringS.l1 a0 k (IntKind.i64.wrap (a1 - (a0.length : Int))) 0).bind fun s1 => match s1 with | .inl r => some r | .inr y1 => some y1)
theorem laws_szStringS.c (k : Nat) (w : World) (Aa0 : Option Addr) (ca0 : Nat) (a0 : List ByteArray) (hr0 : Rd G.cs w Aa0 a0) (hc0 : a0.length ≤ ca0) (a1 : Int) (r : Int) (H : laws_szStringS.f k a0 a1 = some r) :
    CV Tryd.prog 17 [.slice Aa0 a0.length ca0, .int .i64 a1].toArray w fun v w' => v = .int .i64 r ∧ Ext w w' := by
  have hS := ((St.init w no).param G.cs Aa0 ca0 a0 hr0 hc0)
  unfold laws_szStringS.f at H
  refine CV.body Tryd.func17 rfl Tryd.ntmps17 rfl ?_
  refine CJ.seq ?_
  refine CJ.region ?_
  refine OJ.pures tU_ok 1 rfl ?_
  refine OJ.nil (EJ.next ?_)
  refine CJ.seq ?_
  refine CJ.region ?_
  refine OJ.pures tU_ok 5 rfl ?_
  refine OJ.nil (EJ.next ?_)
  refine CJ.seq ?_
  refine CJ.seq ?_
  refine CJ.region ?_
  refine OJ.pures tU_ok 2 rfl ?_
  refine OJ.nil (EJ.next ?_)
  refine CJ.cond rfl (fun hb => ?_) (fun hb => ?_)
  · replace H := pif_t (of_decide_eq_true hb) H
    refine CJ.seq ?_
    refine CJ.region ?_
    refine OJ.pures tU_ok 1 rfl ?_
    refine OJ.nil (EJ.next ?_)
    refine CJ.ret (EJ.skR (?_))
    obtain rfl := Option.some.inj H
    exact EJ.fin rfl (.tmp rfl .nil) ⟨rfl, hS.ext⟩
  · replace H := pif_f (of_decide_eq_false hb) H
    refine CJ.skip (EJ.next ?_)
    refine CJ.seq ?_
    refine CJ.seq ?_
    refine CJ.region ?_
    refine OJ.pures tU_ok 1 rfl ?_
    refine OJ.nil (EJ.next ?_)
    obtain ⟨j1, H, K1⟩ := pbind H
    refine CJ.cut1 (fun F w1 => ∃ (y1 : Int) , (some (Sum.inr y1) : Option (Int ⊕ Int)) = some j1 ∧ F = [(1, .int .i64 y1)] ∧ St w no w1 [] [roC G.cs Aa0 ca0 a0]) ?_ ?_
    · skip
      refine CJ.block ?_
      refine CJ.loop (fun k F w1 => ∃ (y2 : Int) (y3 : Int), F = [(0, .slice Aa0 a0.length ca0), (1, .int .i64 y2), (5, .int .i64 y3)] ∧ St w no w1 [] [roC G.cs Aa0 ca0 a0] ∧ laws_szStringS.l1 a0 k y2 y3 = some j1) k (F' := [(0, .slice Aa0 a0.length ca0), (1, .int .i64 (IntKind.i64.wrap (a1 - (a0.length : Int)))), (5, .int .i64 0)]) ⟨rfl, rfl, rfl, trivial⟩ ⟨(IntKind.i64.wrap (a1 - (a0.length : Int))), 0, rfl, hS.pick [] [0] rfl, H⟩ ?_
      rintro k F w1 ⟨y2, y3, rfl, hS, H⟩
      cases k with
      | zero => rw [laws_szStringS.l1] at H; cases H
      | succ k =>
        rw [laws_szStringS.l1] at H
        refine CJ.seq ?_
        refine CJ.seq ?_
        refine CJ.region ?_
        refine OJ.pures tU_ok 4 rfl ?_
        refine OJ.nil (EJ.next ?_)
        refine CJ.cond rfl (fun hb => ?_) (fun hb => ?_)
        · replace H := pif_t (of_decide_eq_true hb) H
          refine CJ.skip (EJ.next ?_)
          refine CJ.seq ?_
          refine CJ.block ?_
          refine CJ.seq ?_
          refine CJ.region ?_
          refine OJ.pures tU_ok 3 rfl ?_
          obtain ⟨t4, ht4, H⟩ := pbind H
          obtain ⟨ad4, e4⟩ := (hS.rd' (i := 0) rfl).some' ht4
          refine OJ.st rfl rfl rfl (SR.idxS tU_ok tI_ok rfl rfl rfl rfl e4 rfl (getI_some ht4).1) ?_
          refine OJ.st rfl rfl rfl (SR.load rfl rfl (fun w' hx => ld1 tU_ok rfl rfl (CA.ext ((hS.rd' (i := 0) rfl).at_ e4 ht4) hx) rfl)) ?_
          refine OJ.pures tU_ok 3 rfl ?_
          refine OJ.nil (EJ.next ?_)
          refine CJ.seq ?_
          refine CJ.region ?_
          refine OJ.pures tU_ok 2 rfl ?_
          refine OJ.nil (EJ.next ?_)
          refine CJ.cond rfl (fun hb => ?_) (fun hb => ?_)
          · replace H := pif_t (of_decide_eq_true hb) H
            refine CJ.seq ?_
            refine CJ.region ?_
            refine OJ.pures tU_ok 1 rfl ?_
            refine OJ.nil (EJ.next ?_)
            refine CJ.ret (EJ.bkR (EJ.skR (EJ.skR (EJ.bkR (EJ.skR (EJ.skR (?_)))))))
            first | (obtain rfl := Option.some.inj H; have H := K1) | (obtain ⟨q1, H2, e1⟩ := pbind H; obtain rfl := Option.some.inj e1; obtain rfl := Option.some.inj K1; have H := H2)
            obtain rfl := Option.some.inj H
            exact EJ.fin rfl (.tmp rfl .nil) ⟨rfl, hS.ext⟩
          · replace H := pif_f (of_decide_eq_false hb) H
            refine CJ.skip (EJ.blk (EJ.next ?_))
            refine CJ.region ?_
            refine OJ.pures tU_ok 3 rfl ?_
            refine OJ.nil ?_
            exact EJ.round k (F' := [(0, .slice Aa0 a0.length ca0), (1, .int .i64 (IntKind.i64.wrap (y2 - (t4.size : Int)))), (5, .int .i64 (IntKind.i64.wrap (y3 + 1)))]) ⟨rfl, rfl, rfl, trivial⟩ (Nat.lt_succ_self _) ⟨(IntKind.i64.wrap (y2 - (t4.size : Int))), (IntKind.i64.wrap (y3 + 1)), rfl, hS.pick [] [0] rfl, H⟩
        · replace H := pif_f (of_decide_eq_false hb) H
          refine CJ.exit (EJ.skE (EJ.skE (EJ.hit (?_))))
          exact EJ.meet (F' := [(1, .int .i64 y2)]) ⟨rfl, trivial⟩ ⟨y2, H, rfl, hS.pick [] [0] rfl⟩
    · rintro F w1 ⟨y1, he, rfl, hS⟩
      obtain rfl := Option.some.inj he
      have H := K1
      refine EJ.next ?_
      refine CJ.seq ?_
      refine CJ.region ?_
      refine OJ.pures tU_ok 2 rfl ?_
      refine OJ.nil (EJ.next ?_)
      refine CJ.ret (?_)
      obtain rfl := Option.some.inj H
      exact EJ.fin rfl (.tmp rfl .nil) ⟨rfl, hS.ext⟩

def laws_szInt16S.f (a0 : List Int) (a1 : Int) : Option Int := if (IntKind.i64.wrap (a1 - (a0.length : Int))) < 0 then (some (-1)) else (some (IntKind.i64.wrap (a1 - (a0.length : Int))))
theorem laws_szInt16S.c (w : World) (Aa0 : Option Addr) (ca0 : Nat) (a0 : List Int) (hr0 : Rd (ci .i16) w Aa0 a0) (hc0 : a0.length ≤ ca0) (a1 : Int) (r : Int) (H : laws_szInt16S.f a0 a1 = some r) :
    CV Tryd.prog 18 [.slice Aa0 a0.length ca0, .int .i64 a1].toArray w fun v w' => v = .int .i64 r ∧ Ext w w' := by
  have hS := ((St.init w no).param (ci .i16) Aa0 ca0 a0 hr0 hc0)
  unfold laws_szInt16S.f at H
  refine CV.body Tryd.func18 rfl Tryd.ntmps18 rfl ?_
  refine CJ.seq ?_
  refine CJ.region ?_
  refine OJ.pures tU_ok 1 rfl ?_
  refine OJ.nil (EJ.next ?_)
  refine CJ.seq ?_
  refine CJ.region ?_
  refine OJ.pures tU_ok 5 rfl ?_
  refine OJ.nil (EJ.next ?_)
  refine CJ.seq ?_
  refine CJ.seq ?_
  refine CJ.region ?_
  refine OJ.pures tU_ok 2 rfl ?_
  refine OJ.nil (EJ.next ?_)
  refine CJ.cond rfl (fun hb => ?_) (fun hb => ?_)
  · replace H := pif_t (of_decide_eq_true hb) H
    refine CJ.seq ?_
    refine CJ.region ?_
    refine OJ.pures tU_ok 1 rfl ?_
    refine OJ.nil (EJ.next ?_)
    refine CJ.ret (EJ.skR (?_))
    obtain rfl := Option.some.inj H
    exact EJ.fin rfl (.tmp rfl .nil) ⟨rfl, hS.ext⟩
  · replace H := pif_f (of_decide_eq_false hb) H
    refine CJ.skip (EJ.next ?_)
    refine CJ.seq ?_
    refine CJ.region ?_
    refine OJ.pures tU_ok 2 rfl ?_
    refine OJ.nil (EJ.next ?_)
    refine CJ.ret (?_)
    obtain rfl := Option.some.inj H
    exact EJ.fin rfl (.tmp rfl .nil) ⟨rfl, hS.ext⟩

def laws_szUint16S.f (a0 : List Int) (a1 : Int) : Option Int := if (IntKind.i64.wrap (a1 - (a0.length : Int))) < 0 then (some (-1)) else (some (IntKind.i64.wrap (a1 - (a0.length : Int))))
theorem laws_szUint16S.c (w : World) (Aa0 : Option Addr) (ca0 : Nat) (a0 : List Int) (hr0 : Rd (ci .u16) w Aa0 a0) (hc0 : a0.length ≤ ca0) (a1 : Int) (r : Int) (H : laws_szUint16S.f a0 a1 = some r) :
    CV Tryd.prog 19 [.slice Aa0 a0.length ca0, .int .i64 a1].toArray w fun v w' => v = .int .i64 r ∧ Ext w w' := by
  have hS := ((St.init w no).param (ci .u16) Aa0 ca0 a0 hr0 hc0)
  unfold laws_szUint16S.f at H
  refine CV.body Tryd.func19 rfl Tryd.ntmps19 rfl ?_
  refine CJ.seq ?_
  refine CJ.region ?_
  refine OJ.pures tU_ok 1 rfl ?_
  refine OJ.nil (EJ.next ?_)
  refine CJ.seq ?_
  refine CJ.region ?_
  refine OJ.pures tU_ok 5 rfl ?_
  refine OJ.nil (EJ.next ?_)
  refine CJ.seq ?_
  refine CJ.seq ?_
  refine CJ.region ?_
  refine OJ.pures tU_ok 2 rfl ?_
  refine OJ.nil (EJ.next ?_)
  refine CJ.cond rfl (fun hb => ?_) (fun hb => ?_)
  · replace H := pif_t (of_decide_eq_true hb) H
    refine CJ.seq ?_
    refine CJ.region ?_
    refine OJ.pures tU_ok 1 rfl ?_
    refine OJ.nil (EJ.next ?_)
    refine CJ.ret (EJ.skR (?_))
    obtain rfl := Option.some.inj H
    exact EJ.fin rfl (.tmp rfl .nil) ⟨rfl, hS.ext⟩
  · replace H := pif_f (of_decide_eq_false hb) H
    refine CJ.skip (EJ.next ?_)
    refine CJ.seq ?_
    refine CJ.region ?_
    refine OJ.pures tU_ok 2 rfl ?_
    refine OJ.nil (EJ.next ?_)
    refine CJ.ret (?_)
    obtain rfl := Option.some.inj H
    exact EJ.fin rfl (.tmp rfl .nil) ⟨rfl, hS.ext⟩

def laws_szHerd.f (k : Nat) (a0 : Herd) (a1 : Int) : Option Int := (laws_szStringS.f k a0.Names a1).bind fun t2 => if t2 < 0 then (some (-1)) else ((laws_szInt16S.f a0.Eats t2).bind fun t3 => if t3 < 0 then (some (-1)) else ((laws_szUint16S.f a0.Foes t3).bind fun t4 => if t4 < 0 then (some (-1)) else (some t4)))
theorem laws_szHerd.c (k : Nat) (w : World) (Aa0_0 : Option Addr) (ca0_0 : Nat) (Aa0_1 : Option Addr) (ca0_1 : Nat) (Aa0_2 : Option Addr) (ca0_2 : Nat) (a0 : Herd) (hr0_0 : Rd G.cs w Aa0_0 a0.Names) (hc0_0 : a0.Names.length ≤ ca0_0) (hr0_1 : Rd (ci .i16) w Aa0_1 a0.Eats) (hc0_1 : a0.Eats.length ≤ ca0_1) (hr0_2 : Rd (ci .u16) w Aa0_2 a0.Foes) (hc0_2 : a0.Foes.length ≤ ca0_2) (a1 : Int) (r : Int) (H : laws_szHerd.f k a0 a1 = some r) :
    CV Tryd.prog 5 [.agg [.slice Aa0_0 a0.Names.length ca0_0, .slice Aa0_1 a0.Eats.length ca0_1, .slice Aa0_2 a0.Foes.length ca0_2].toArray, .int .i64 a1].toArray w fun v w' => v = .int .i64 r ∧ Ext w w' := by
  have hS := ((((St.init w no).param G.cs Aa0_0 ca0_0 a0.Names hr0_0 hc0_0).param (ci .i16) Aa0_1 ca0_1 a0.Eats hr0_1 hc0_1).param (ci .u16) Aa0_2 ca0_2 a0.Foes hr0_2 hc0_2)
  unfold laws_szHerd.f at H
  refine CV.body Tryd.func5 rfl Tryd.ntmps5 rfl ?_
  refine CJ.seq ?_
  refine CJ.region ?_
  refine OJ.ef rfl rfl rfl (Ef.box hS rfl rfl ([.slice Aa0_0 a0.Names.length ca0_0, .slice Aa0_1 a0.Eats.length ca0_1, .slice Aa0_2 a0.Foes.length ca0_2]) rfl) ?_
  rintro _ w1 ⟨b1, rfl, hS⟩
  refine OJ.pures tU_ok 1 rfl ?_
  refine OJ.nil (EJ.next ?_)
  refine CJ.seq ?_
  refine CJ.region ?_
  refine OJ.st rfl rfl rfl (SR.fieldAddr tU_ok tI_ok rfl rfl rfl rfl rfl rfl) ?_
  refine OJ.st rfl rfl rfl (SR.load rfl rfl (fun w' hx => ld1 tU_ok rfl rfl (CA.ext (CA.sub (hS.cells (i := 0) rfl) 0) hx) rfl)) ?_
  refine OJ.pures tU_ok 1 rfl ?_
  obtain ⟨t2, ht2, H⟩ := pbind H
  refine OJ.callF rfl rfl rfl rfl rfl hb17 rfl (laws_szStringS.c k _ Aa0_0 ca0_0 a0.Names (hS.rd' (i := 0) rfl) (hS.le' (i := 0) rfl) a1 _ ht2) ?_
  rintro _ w1 ⟨rfl, hs⟩
  replace hS := hS.grow hs
  refine OJ.pures tU_ok 1 rfl ?_
  refine OJ.nil (EJ.next ?_)
  refine CJ.seq ?_
  refine CJ.seq ?_
  refine CJ.region ?_
  refine OJ.pures tU_ok 2 rfl ?_
  refine OJ.nil (EJ.next ?_)
  refine CJ.cond rfl (fun hb => ?_) (fun hb => ?_)
  · replace H := pif_t (of_decide_eq_true hb) H
    refine CJ.seq ?_
    refine CJ.region ?_
    refine OJ.pures tU_ok 1 rfl ?_
    refine OJ.nil (EJ.next ?_)
    refine CJ.ret (EJ.skR (?_))
    obtain rfl := Option.some.inj H
    exact EJ.fin rfl (.tmp rfl .nil) ⟨rfl, hS.ext⟩
  · replace H := pif_f (of_decide_eq_false hb) H
    refine CJ.skip (EJ.next ?_)
    refine CJ.seq ?_
    refine CJ.region ?_
    refine OJ.st rfl rfl rfl (SR.fieldAddr tU_ok tI_ok rfl rfl rfl rfl rfl rfl) ?_
    refine OJ.st rfl rfl rfl (SR.load rfl rfl (fun w' hx => ld1 tU_ok rfl rfl (CA.ext (CA.sub (hS.cells (i := 0) rfl) 1) hx) rfl)) ?_
    refine OJ.pures tU_ok 1 rfl ?_
    obtain ⟨t3, ht3, H⟩ := pbind H
    refine OJ.callF rfl rfl rfl rfl rfl hb18 rfl (laws_szInt16S.c _ Aa0_1 ca0_1 a0.Eats (hS.rd' (i := 1) rfl) (hS.le' (i := 1) rfl) t2 _ ht3) ?_
    rintro _ w1 ⟨rfl, hs⟩
    replace hS := hS.grow hs
    refine OJ.pures tU_ok 1 rfl ?_
    refine OJ.nil (EJ.next ?_)
    refine CJ.seq ?_
    refine CJ.seq ?_
    refine CJ.region ?_
    refine OJ.pures tU_ok 2 rfl ?_
    refine OJ.nil (EJ.next ?_)
    refine CJ.cond rfl (fun hb => ?_) (fun hb => ?_)
    · replace H := pif_t (of_decide_eq_true hb) H
      refine CJ.seq ?_
      refine CJ.region ?_
      refine OJ.pures tU_ok 1 rfl ?_
      refine OJ.nil (EJ.next ?_)
      refine CJ.ret (EJ.skR (?_))
      obtain rfl := Option.some.inj H
      exact EJ.fin rfl (.tmp rfl .nil) ⟨rfl, hS.ext⟩
    · replace H := pif_f (of_decide_eq_false hb) H
      refine CJ.skip (EJ.next ?_)
      refine CJ.seq ?_
      refine CJ.region ?_
      refine OJ.st rfl rfl rfl (SR.fieldAddr tU_ok tI_ok rfl rfl rfl rfl rfl rfl) ?_
      refine OJ.st rfl rfl rfl (SR.load rfl rfl (fun w' hx => ld1 tU_ok rfl rfl (CA.ext (CA.sub (hS.cells (i := 0) rfl) 2) hx) rfl)) ?_
      refine OJ.pures tU_ok 1 rfl ?_
      obtain ⟨t4, ht4, H⟩ := pbind H
      refine OJ.callF rfl rfl rfl rfl rfl hb19 rfl (laws_szUint16S.c _ Aa0_2 ca0_2 a0.Foes (hS.rd' (i := 2) rfl) (hS.le' (i := 2) rfl) t3 _ ht4) ?_
      rintro _ w1 ⟨rfl, hs⟩
      replace hS := hS.grow hs
      refine OJ.pures tU_ok 1 rfl ?_
      refine OJ.nil (EJ.next ?_)
      refine CJ.seq ?_
      refine CJ.seq ?_
      refine CJ.region ?_
      refine OJ.pures tU_ok 2 rfl ?_
      refine OJ.nil (EJ.next ?_)
      refine CJ.cond rfl (fun hb => ?_) (fun hb => ?_)
      · replace H := pif_t (of_decide_eq_true hb) H
        refine CJ.seq ?_
        refine CJ.region ?_
        refine OJ.pures tU_ok 1 rfl ?_
        refine OJ.nil (EJ.next ?_)
        refine CJ.ret (EJ.skR (?_))
        obtain rfl := Option.some.inj H
        exact EJ.fin rfl (.tmp rfl .nil) ⟨rfl, hS.ext⟩
      · replace H := pif_f (of_decide_eq_false hb) H
        refine CJ.skip (EJ.next ?_)
        refine CJ.seq ?_
        refine CJ.region ?_
        refine OJ.pures tU_ok 2 rfl ?_
        refine OJ.nil (EJ.next ?_)
        refine CJ.ret (?_)
        obtain rfl := Option.some.inj H
        exact EJ.fin rfl (.tmp rfl .nil) ⟨rfl, hS.ext⟩

def laws_toStringS.l1 (a0 : List ByteArray) : Nat → (List ByteArray) → Int → Option (List ByteArray)
  | 0, _, _ => none
  | k + 1, y4, y5 => if y5 < (a0.length : Int) then ((getI a0 y5).bind fun t6 => (getI y4 y5).bind fun t7 => laws_toStringS.l1 a0 k (y4.set y5.toNat t6) (IntKind.i64.wrap (y5 + 1))) else (some y4)
def laws_toStringS.f (k : Nat) (a0 : List ByteArray) : Option (List ByteArray) := (chk (0 ≤ (a0.length : Int) ∧ (a0.length : Int) ≤ 4294967296)).bind fun u1 => (laws_toStringS.l1 a0 k (List.replicate ((a0.length : Int).toNat) ByteArray.empty) 0).bind fun y3 => some y3
theorem laws_toStringS.c (k : Nat) (w : World) (Aa0 : Option Addr) (ca0 : Nat) (a0 : List ByteArray) (hr0 : Rd G.cs w Aa0 a0) (hc0 : a0.length ≤ ca0) (r : List ByteArray) (H : laws_toStringS.f k a0 = some r) :
    CV Tryd.prog 22 [.slice Aa0 a0.length ca0].toArray w fun v w' => ∃ (A0 : Option Addr) (c0 : Nat), v = .slice A0 r.length c0 ∧ St w no w' [rowC G.cs A0 c0 9 r] [] := by
  have hS := ((St.init w no).param G.cs Aa0 ca0 a0 hr0 hc0)
  unfold laws_toStringS.f at H
  refine CV.body Tryd.func22 rfl Tryd.ntmps22 rfl ?_
  refine CJ.seq ?_
  refine CJ.region ?_
  refine OJ.pures tU_ok 1 rfl ?_
  refine OJ.nil (EJ.next ?_)
  refine CJ.seq ?_
  refine CJ.region ?_
  refine OJ.pures tU_ok 2 rfl ?_
  obtain ⟨u1, hu1, H⟩ := pbind H
  refine OJ.ef rfl rfl rfl (Ef.make tU_ok tI_ok hS (C := G.cs) rfl rfl rfl rfl rfl rfl rfl rfl (chk_some hu1) ByteArray.empty rfl) ?_
  rintro _ w1 ⟨A2, rfl, hS⟩
  refine OJ.pures tU_ok 1 rfl ?_
  refine OJ.nil (EJ.next ?_)
  refine CJ.seq ?_
  refine CJ.seq ?_
  refine CJ.region ?_
  refine OJ.pures tU_ok 1 rfl ?_
  refine OJ.nil (EJ.next ?_)
  obtain ⟨j2, H, K2⟩ := pbind H
  refine CJ.cut1 (fun F w1 => ∃ (y3 : List ByteArray) , (some y3 : Option (List ByteArray)) = some j2 ∧ F = [(3, .slice A2 y3.length ((a0.length : Int).toNat))] ∧ St w no w1 [rowC G.cs A2 ((a0.length : Int).toNat) 9 y3] [roC G.cs Aa0 ca0 a0]) ?_ ?_
  · skip
    refine CJ.block ?_
    refine CJ.loop (fun k F w1 => ∃ (y4 : List ByteArray) (y5 : Int), F = [(0, .slice Aa0 a0.length ca0), (3, .slice A2 y4.length ((a0.length : Int).toNat)), (4, .int .i64 y5)] ∧ St w no w1 [rowC G.cs A2 ((a0.length : Int).toNat) 9 y4] [roC G.cs Aa0 ca0 a0] ∧ laws_toStringS.l1 a0 k y4 y5 = some j2) k (F' := [(0, .slice Aa0 a0.length ca0), (3, .slice A2 (List.replicate ((a0.length : Int).toNat) ByteArray.empty).length ((a0.length : Int).toNat)), (4, .int .i64 0)]) ⟨rfl, rfl, rfl, trivial⟩ ⟨(List.replicate ((a0.length : Int).toNat) ByteArray.empty), 0, rfl, hS.pick [0] [0] rfl, H⟩ ?_
    rintro k F w1 ⟨y4, y5, rfl, hS, H⟩
    cases k with
    | zero => rw [laws_toStringS.l1] at H; cases H
    | succ k =>
      rw [laws_toStringS.l1] at H
      refine CJ.seq ?_
      refine CJ.seq ?_
      refine CJ.region ?_
      refine OJ.pures tU_ok 4 rfl ?_
      refine OJ.nil (EJ.next ?_)
      refine CJ.cond rfl (fun hb => ?_) (fun hb => ?_)
      · replace H := pif_t (of_decide_eq_true hb) H
        refine CJ.skip (EJ.next ?_)
        refine CJ.seq ?_
        refine CJ.block ?_
        refine CJ.region ?_
        refine OJ.pures tU_ok 4 rfl ?_
        obtain ⟨t6, ht6, H⟩ := pbind H
        obtain ⟨ad6, e6⟩ := (hS.rd' (i := 0) rfl).some' ht6
        refine OJ.st rfl rfl rfl (SR.idxS tU_ok tI_ok rfl rfl rfl rfl e6 rfl (getI_some ht6).1) ?_
        refine OJ.st rfl rfl rfl (SR.load rfl rfl (fun w' hx => ld1 tU_ok rfl rfl (CA.ext ((hS.rd' (i := 0) rfl).at_ e6 ht6) hx) rfl)) ?_
        obtain ⟨t7, ht7, H⟩ := pbind H
        obtain ⟨ad7, e7⟩ := (hS.rd (i := 0) rfl).some' ht7
        refine OJ.st rfl rfl rfl (SR.idxS tU_ok tI_ok rfl rfl rfl rfl e7 rfl (getI_some ht7).1) ?_
        refine OJ.es rfl rfl (Es.storeR tI_ok hS (i := 0) (off := 0) rfl rfl ht7 e7 rfl rfl rfl rfl (vs := G.cs.enc t6) rfl rfl (one1 rfl) (Nat.le_of_ble_eq_true rfl) t6 rfl) ?_
        intro w1 hS
        refine OJ.as (t := 3) rfl (show _ = (.slice A2 (y4.set y5.toNat t6).length ((a0.length : Int).toNat) : Value) by simp only [List.length_set]) ?_
        refine OJ.as (t := 14) rfl (show _ = (.slice A2 (y4.set y5.toNat t6).length ((a0.length : Int).toNat) : Value) by simp only [List.length_set]) ?_
        refine OJ.nil (EJ.blk (EJ.next ?_))
        refine CJ.region ?_
        refine OJ.pures tU_ok 3 rfl ?_
        refine OJ.nil ?_
        exact EJ.round k (F' := [(0, .slice Aa0 a0.length ca0), (3, .slice A2 (y4.set y5.toNat t6).length ((a0.length : Int).toNat)), (4, .int .i64 (IntKind.i64.wrap (y5 + 1)))]) ⟨rfl, rfl, rfl, trivial⟩ (Nat.lt_succ_self _) ⟨(y4.set y5.toNat t6), (IntKind.i64.wrap (y5 + 1)), rfl, hS.pick [0] [0] rfl, H⟩
      · replace H := pif_f (of_decide_eq_false hb) H
        refine CJ.exit (EJ.skE (EJ.skE (EJ.hit (?_))))
        exact EJ.meet (F' := [(3, .slice A2 y4.length ((a0.length : Int).toNat))]) ⟨rfl, trivial⟩ ⟨y4, H, rfl, hS.pick [0] [0] rfl⟩
  · rintro F w1 ⟨y3, he, rfl, hS⟩
    obtain rfl := Option.some.inj he
    have H := K2
    refine EJ.next ?_
    refine CJ.seq ?_
    refine CJ.region ?_
    refine OJ.pures tU_ok 2 rfl ?_
    refine OJ.nil (EJ.next ?_)
    refine CJ.ret (?_)
    obtain rfl := Option.some.inj H
    exact EJ.fin rfl (.tmp rfl .nil) ⟨A2, ((a0.length : Int).toNat), rfl, hS.pick [0] [] rfl⟩

def laws_toInt16S.l1 (a0 : List Int) : Nat → (List Int) → Int → Option (List Int)
  | 0, _, _ => none
  | k + 1, y4, y5 => if y5 < (a0.length : Int) then ((getI a0 y5).bind fun t6 => (getI y4 y5).bind fun t7 => laws_toInt16S.l1 a0 k (y4.set y5.toNat t6) (IntKind.i64.wrap (y5 + 1))) else (some y4)
def laws_toInt16S.f (k : Nat) (a0 : List Int) : Option (List Int) := (chk (0 ≤ (a0.length : Int) ∧ (a0.length : Int) ≤ 4294967296)).bind fun u1 => (laws_toInt16S.l1 a0 k (List.replicate ((a0.length : Int).toNat) 0) 0).bind fun y3 => some y3
theorem laws_toInt16S.c (k : Nat) (w : World) (Aa0 : Option Addr) (ca0 : Nat) (a0 : List Int) (hr0 : Rd (ci .i16) w Aa0 a0) (hc0 : a0.length ≤ ca0) (r : List Int) (H : laws_toInt16S.f k a0 = some r) :
    CV Tryd.prog 23 [.slice Aa0 a0.length ca0].toArray w fun v w' => ∃ (A0 : Option Addr) (c0 : Nat), v = .slice A0 r.length c0 ∧ St w no w' [rowC (ci .i16) A0 c0 65 r] [] := by
  have hS := ((St.init w no).param (ci .i16) Aa0 ca0 a0 hr0 hc0)
  unfold laws_toInt16S.f at H
  refine CV.body Tryd.func23 rfl Tryd.ntmps23 rfl ?_
  refine CJ.seq ?_
  refine CJ.region ?_
  refine OJ.pures tU_ok 1 rfl ?_
  refine OJ.nil (EJ.next ?_)
  refine CJ.seq ?_
  refine CJ.region ?_
  refine OJ.pures tU_ok 2 rfl ?_
  obtain ⟨u1, hu1, H⟩ := pbind H
  refine OJ.ef rfl rfl rfl (Ef.make tU_ok tI_ok hS (C := (ci .i16)) rfl rfl rfl rfl rfl rfl rfl rfl (chk_some hu1) 0 rfl) ?_
  rintro _ w1 ⟨A2, rfl, hS⟩
  refine OJ.pures tU_ok 1 rfl ?_
  refine OJ.nil (EJ.next ?_)
  refine CJ.seq ?_
  refine CJ.seq ?_
  refine CJ.region ?_
  refine OJ.pures tU_ok 1 rfl ?_
  refine OJ.nil (EJ.next ?_)
  obtain ⟨j3, H, K3⟩ := pbind H
  refine CJ.cut1 (fun F w1 => ∃ (y3 : List Int) , (some y3 : Option (List Int)) = some j3 ∧ F = [(3, .slice A2 y3.length ((a0.length : Int).toNat))] ∧ St w no w1 [rowC (ci .i16) A2 ((a0.length : Int).toNat) 65 y3] [roC (ci .i16) Aa0 ca0 a0]) ?_ ?_
  · skip
    refine CJ.block ?_
    refine CJ.loop (fun k F w1 => ∃ (y4 : List Int) (y5 : Int), F = [(0, .slice Aa0 a0.length ca0), (3, .slice A2 y4.length ((a0.length : Int).toNat)), (4, .int .i64 y5)] ∧ St w no w1 [rowC (ci .i16) A2 ((a0.length : Int).toNat) 65 y4] [roC (ci .i16) Aa0 ca0 a0] ∧ laws_toInt16S.l1 a0 k y4 y5 = some j3) k (F' := [(0, .slice Aa0 a0.length ca0), (3, .slice A2 (List.replicate ((a0.length : Int).toNat) 0).length ((a0.length : Int).toNat)), (4, .int .i64 0)]) ⟨rfl, rfl, rfl, trivial⟩ ⟨(List.replicate ((a0.length : Int).toNat) 0), 0, rfl, hS.pick [0] [0] rfl, H⟩ ?_
    rintro k F w1 ⟨y4, y5, rfl, hS, H⟩
    cases k with
    | zero => rw [laws_toInt16S.l1] at H; cases H
    | succ k =>
      rw [laws_toInt16S.l1] at H
      refine CJ.seq ?_
      refine CJ.seq ?_
      refine CJ.region ?_
      refine OJ.pures tU_ok 4 rfl ?_
      refine OJ.nil (EJ.next ?_)
      refine CJ.cond rfl (fun hb => ?_) (fun hb => ?_)
      · replace H := pif_t (of_decide_eq_true hb) H
        refine CJ.skip (EJ.next ?_)
        refine CJ.seq ?_
        refine CJ.block ?_
        refine CJ.region ?_
        refine OJ.pures tU_ok 4 rfl ?_
        obtain ⟨t6, ht6, H⟩ := pbind H
        obtain ⟨ad6, e6⟩ := (hS.rd' (i := 0) rfl).some' ht6
        refine OJ.st rfl rfl rfl (SR.idxS tU_ok tI_ok rfl rfl rfl rfl e6 rfl (getI_some ht6).1) ?_
        refine OJ.st rfl rfl rfl (SR.load rfl rfl (fun w' hx => ld1 tU_ok rfl rfl (CA.ext ((hS.rd' (i := 0) rfl).at_ e6 ht6) hx) rfl)) ?_
        obtain ⟨t7, ht7, H⟩ := pbind H
        obtain ⟨ad7, e7⟩ := (hS.rd (i := 0) rfl).some' ht7
        refine OJ.st rfl rfl rfl (SR.idxS tU_ok tI_ok rfl rfl rfl rfl e7 rfl (getI_some ht7).1) ?_
        refine OJ.es rfl rfl (Es.storeR tI_ok hS (i := 0) (off := 0) rfl rfl ht7 e7 rfl rfl rfl rfl (vs := (ci .i16).enc t6) rfl rfl (one1 rfl) (Nat.le_of_ble_eq_true rfl) t6 rfl) ?_
        intro w1 hS
        refine OJ.as (t := 3) rfl (show _ = (.slice A2 (y4.set y5.toNat t6).length ((a0.length : Int).toNat) : Value) by simp only [List.length_set]) ?_
        refine OJ.as (t := 14) rfl (show _ = (.slice A2 (y4.set y5.toNat t6).length ((a0.length : Int).toNat) : Value) by simp only [List.length_set]) ?_
        refine OJ.nil (EJ.blk (EJ.next ?_))
        refine CJ.region ?_
        refine OJ.pures tU_ok 3 rfl ?_
        refine OJ.nil ?_
        exact EJ.round k (F' := [(0, .slice Aa0 a0.length ca0), (3, .slice A2 (y4.set y5.toNat t6).length ((a0.length : Int).toNat)), (4, .int .i64 (IntKind.i64.wrap (y5 + 1)))]) ⟨rfl, rfl, rfl, trivial⟩ (Nat.lt_succ_self _) ⟨(y4.set y5.toNat t6), (IntKind.i64.wrap (y5 + 1)), rfl, hS.pick [0] [0] rfl, H⟩
      · replace H := pif_f (of_decide_eq_false hb) H
        refine CJ.exit (EJ.skE (EJ.skE (EJ.hit (?_))))
        exact EJ.meet (F' := [(3, .slice A2 y4.length ((a0.length : Int).toNat))]) ⟨rfl, trivial⟩ ⟨y4, H, rfl, hS.pick [0] [0] rfl⟩
  · rintro F w1 ⟨y3, he, rfl, hS⟩
    obtain rfl := Option.some.inj he
    have H := K3
    refine EJ.next ?_
    refine CJ.seq ?_
    refine CJ.region ?_
    refine OJ.pures tU_ok 2 rfl ?_
    refine OJ.nil (EJ.next ?_)
    refine CJ.ret (?_)
    obtain rfl := Option.some.inj H
    exact EJ.fin rfl (.tmp rfl .nil) ⟨A2, ((a0.length : Int).toNat), rfl, hS.pick [0] [] rfl⟩

def laws_toUint16S.l1 (a0 : List Int) : Nat → (List Int) → Int → Option (List Int)
  | 0, _, _ => none
  | k + 1, y4, y5 => if y5 < (a0.length : Int) then ((getI a0 y5).bind fun t6 => (getI y4 y5).bind fun t7 => laws_toUint16S.l1 a0 k (y4.set y5.toNat t6) (IntKind.i64.wrap (y5 + 1))) else (some y4)
def laws_toUint16S.f (k : Nat) (a0 : List Int) : Option (List Int) := (chk (0 ≤ (a0.length : Int) ∧ (a0.length : Int) ≤ 4294967296)).bind fun u1 => (laws_toUint16S.l1 a0 k (List.replicate ((a0.length : Int).toNat) 0) 0).bind fun y3 => some y3
theorem laws_toUint16S.c (k : Nat) (w : World) (Aa0 : Option Addr) (ca0 : Nat) (a0 : List Int) (hr0 : Rd (ci .u16) w Aa0 a0) (hc0 : a0.length ≤ ca0) (r : List Int) (H : laws_toUint16S.f k a0 = some r) :
    CV Tryd.prog 24 [.slice Aa0 a0.length ca0].toArray w fun v w' => ∃ (A0 : Option Addr) (c0 : Nat), v = .slice A0 r.length c0 ∧ St w no w' [rowC (ci .u16) A0 c0 66 r] [] := by
  have hS := ((St.init w no).param (ci .u16) Aa0 ca0 a0 hr0 hc0)
  unfold laws_toUint16S.f at H
  refine CV.body Tryd.func24 rfl Tryd.ntmps24 rfl ?_
  refine CJ.seq ?_
  refine CJ.region ?_
  refine OJ.pures tU_ok 1 rfl ?_
  refine OJ.nil (EJ.next ?_)
  refine CJ.seq ?_
  refine CJ.region ?_
  refine OJ.pures tU_ok 2 rfl ?_
  obtain ⟨u1, hu1, H⟩ := pbind H
  refine OJ.ef rfl rfl rfl (Ef.make tU_ok tI_ok hS (C := (ci .u16)) rfl rfl rfl rfl rfl rfl rfl rfl (chk_some hu1) 0 rfl) ?_
  rintro _ w1 ⟨A2, rfl, hS⟩
  refine OJ.pures tU_ok 1 rfl ?_
  refine OJ.nil (EJ.next ?_)
  refine CJ.seq ?_
  refine CJ.seq ?_
  refine CJ.region ?_
  refine OJ.pures tU_ok 1 rfl ?_
  refine OJ.nil (EJ.next ?_)
  obtain ⟨j4, H, K4⟩ := pbind H
  refine CJ.cut1 (fun F w1 => ∃ (y3 : List Int) , (some y3 : Option (List Int)) = some j4 ∧ F = [(3, .slice A2 y3.length ((a0.length : Int).toNat))] ∧ St w no w1 [rowC (ci .u16) A2 ((a0.length : Int).toNat) 66 y3] [roC (ci .u16) Aa0 ca0 a0]) ?_ ?_
  · skip
    refine CJ.block ?_
    refine CJ.loop (fun k F w1 => ∃ (y4 : List Int) (y5 : Int), F = [(0, .slice Aa0 a0.length ca0), (3, .slice A2 y4.length ((a0.length : Int).toNat)), (4, .int .i64 y5)] ∧ St w no w1 [rowC (ci .u16) A2 ((a0.length : Int).toNat) 66 y4] [roC (ci .u16) Aa0 ca0 a0] ∧ laws_toUint16S.l1 a0 k y4 y5 = some j4) k (F' := [(0, .slice Aa0 a0.length ca0), (3, .slice A2 (List.replicate ((a0.length : Int).toNat) 0).length ((a0.length : Int).toNat)), (4, .int .i64 0)]) ⟨rfl, rfl, rfl, trivial⟩ ⟨(List.replicate ((a0.length : Int).toNat) 0), 0, rfl, hS.pick [0] [0] rfl, H⟩ ?_
    rintro k F w1 ⟨y4, y5, rfl, hS, H⟩
    cases k with
    | zero => rw [laws_toUint16S.l1] at H; cases H
    | succ k =>
      rw [laws_toUint16S.l1] at H
      refine CJ.seq ?_
      refine CJ.seq ?_
      refine CJ.region ?_
      refine OJ.pures tU_ok 4 rfl ?_
      refine OJ.nil (EJ.next ?_)
      refine CJ.cond rfl (fun hb => ?_) (fun hb => ?_)
      · replace H := pif_t (of_decide_eq_true hb) H
        refine CJ.skip (EJ.next ?_)
        refine CJ.seq ?_
        refine CJ.block ?_
        refine CJ.region ?_
        refine OJ.pures tU_ok 4 rfl ?_
        obtain ⟨t6, ht6, H⟩ := pbind H
        obtain ⟨ad6, e6⟩ := (hS.rd' (i := 0) rfl).some' ht6
        refine OJ.st rfl rfl rfl (SR.idxS tU_ok tI_ok rfl rfl rfl rfl e6 rfl (getI_some ht6).1) ?_
        refine OJ.st rfl rfl rfl (SR.load rfl rfl (fun w' hx => ld1 tU_ok rfl rfl (CA.ext ((hS.rd' (i := 0) rfl).at_ e6 ht6) hx) rfl)) ?_
        obtain ⟨t7, ht7, H⟩ := pbind H
        obtain ⟨ad7, e7⟩ := (hS.rd (i := 0) rfl).some' ht7
        refine OJ.st rfl rfl rfl (SR.idxS tU_ok tI_ok rfl rfl rfl rfl e7 rfl (getI_some ht7).1) ?_
        refine OJ.es rfl rfl (Es.storeR tI_ok hS (i := 0) (off := 0) rfl rfl ht7 e7 rfl rfl rfl rfl (vs := (ci .u16).enc t6) rfl rfl (one1 rfl) (Nat.le_of_ble_eq_true rfl) t6 rfl) ?_
        intro w1 hS
        refine OJ.as (t := 3) rfl (show _ = (.slice A2 (y4.set y5.toNat t6).length ((a0.length : Int).toNat) : Value) by simp only [List.length_set]) ?_
        refine OJ.as (t := 14) rfl (show _ = (.slice A2 (y4.set y5.toNat t6).length ((a0.length : Int).toNat) : Value) by simp only [List.length_set]) ?_
        refine OJ.nil (EJ.blk (EJ.next ?_))
        refine CJ.region ?_
        refine OJ.pures tU_ok 3 rfl ?_
        refine OJ.nil ?_
        exact EJ.round k (F' := [(0, .slice Aa0 a0.length ca0), (3, .slice A2 (y4.set y5.toNat t6).length ((a0.length : Int).toNat)), (4, .int .i64 (IntKind.i64.wrap (y5 + 1)))]) ⟨rfl, rfl, rfl, trivial⟩ (Nat.lt_succ_self _) ⟨(y4.set y5.toNat t6), (IntKind.i64.wrap (y5 + 1)), rfl, hS.pick [0] [0] rfl, H⟩
      · replace H := pif_f (of_decide_eq_false hb) H
        refine CJ.exit (EJ.skE (EJ.skE (EJ.hit (?_))))
        exact EJ.meet (F' := [(3, .slice A2 y4.length ((a0.length : Int).toNat))]) ⟨rfl, trivial⟩ ⟨y4, H, rfl, hS.pick [0] [0] rfl⟩
  · rintro F w1 ⟨y3, he, rfl, hS⟩
    obtain rfl := Option.some.inj he
    have H := K4
    refine EJ.next ?_
    refine CJ.seq ?_
    refine CJ.region ?_
    refine OJ.pures tU_ok 2 rfl ?_
    refine OJ.nil (EJ.next ?_)
    refine CJ.ret (?_)
    obtain rfl := Option.some.inj H
    exact EJ.fin rfl (.tmp rfl .nil) ⟨A2, ((a0.length : Int).toNat), rfl, hS.pick [0] [] rfl⟩

def laws_toHerd.f (k : Nat) (a0 : Herd) : Option Herd := (laws_toStringS.f k a0.Names).bind fun t4 => (laws_toInt16S.f k a0.Eats).bind fun t7 => (laws_toUint16S.f k a0.Foes).bind fun t10 => some (⟨t4, t7, t10⟩ : Herd)
theorem laws_toHerd.c (k : Nat) (w : World) (Aa0_0 : Option Addr) (ca0_0 : Nat) (Aa0_1 : Option Addr) (ca0_1 : Nat) (Aa0_2 : Option Addr) (ca0_2 : Nat) (a0 : Herd) (hr0_0 : Rd G.cs w Aa0_0 a0.Names) (hc0_0 : a0.Names.length ≤ ca0_0) (hr0_1 : Rd (ci .i16) w Aa0_1 a0.Eats) (hc0_1 : a0.Eats.length ≤ ca0_1) (hr0_2 : Rd (ci .u16) w Aa0_2 a0.Foes) (hc0_2 : a0.Foes.length ≤ ca0_2) (r : Herd) (H : laws_toHerd.f k a0 = some r) :
    CV Tryd.prog 7 [.agg [.slice Aa0_0 a0.Names.length ca0_0, .slice Aa0_1 a0.Eats.length ca0_1, .slice Aa0_2 a0.Foes.length ca0_2].toArray].toArray w fun v w' => ∃ (A0_0 : Option Addr) (c0_0 : Nat) (A0_1 : Option Addr) (c0_1 : Nat) (A0_2 : Option Addr) (c0_2 : Nat), v = .agg [.slice A0_0 r.Names.length c0_0, .slice A0_1 r.Eats.length c0_1, .slice A0_2 r.Foes.length c0_2].toArray ∧ St w no w' [rowC G.cs A0_0 c0_0 9 r.Names, rowC (ci .i16) A0_1 c0_1 65 r.Eats, rowC (ci .u16) A0_2 c0_2 66 r.Foes] [] := by
  have hS := ((((St.init w no).param G.cs Aa0_0 ca0_0 a0.Names hr0_0 hc0_0).param (ci .i16) Aa0_1 ca0_1 a0.Eats hr0_1 hc0_1).param (ci .u16) Aa0_2 ca0_2 a0.Foes hr0_2 hc0_2)
  unfold laws_toHerd.f at H
  refine CV.body Tryd.func7 rfl Tryd.ntmps7 rfl ?_
  refine CJ.seq ?_
  refine CJ.region ?_
  refine OJ.ef rfl rfl rfl (Ef.box hS rfl rfl ([.slice Aa0_0 a0.Names.length ca0_0, .slice Aa0_1 a0.Eats.length ca0_1, .slice Aa0_2 a0.Foes.length ca0_2]) rfl) ?_
  rintro _ w1 ⟨b1, rfl, hS⟩
  refine OJ.ef rfl rfl rfl (Ef.alloc hS tI_ok rfl rfl ([.slice none 0 0, .slice none 0 0, .slice none 0 0]) rfl) ?_
  rintro _ w1 ⟨b2, rfl, hS⟩
  refine OJ.nil (EJ.next ?_)
  refine CJ.seq ?_
  refine CJ.region ?_
  refine OJ.ef rfl rfl rfl (Ef.alloc hS tI_ok rfl rfl ([.slice none 0 0, .slice none 0 0, .slice none 0 0]) rfl) ?_
  rintro _ w1 ⟨b3, rfl, hS⟩
  refine OJ.nil (EJ.next ?_)
  refine CJ.seq ?_
  refine CJ.region ?_
  refine OJ.st rfl rfl rfl (SR.fieldAddr tU_ok tI_ok rfl rfl rfl rfl rfl rfl) ?_
  refine OJ.st rfl rfl rfl (SR.load rfl rfl (fun w' hx => ld1 tU_ok rfl rfl (CA.ext (CA.sub (hS.cells (i := 0) rfl) 0) hx) rfl)) ?_
  obtain ⟨t4, ht4, H⟩ := pbind H
  refine OJ.callF rfl rfl rfl rfl rfl hb22 rfl (laws_toStringS.c k _ Aa0_0 ca0_0 a0.Names (hS.rd' (i := 0) rfl) (hS.le' (i := 0) rfl) _ ht4) ?_
  rintro _ w1 ⟨A5, c6, rfl, hs⟩
  replace hS := hS.addN hs
  refine OJ.st rfl rfl rfl (SR.fieldAddr tU_ok tI_ok rfl rfl rfl rfl rfl rfl) ?_
  refine OJ.es rfl rfl (Es.store tI_ok hS (i := 2) (vs := [.slice A5 t4.length c6]) rfl rfl rfl (ad1 _ _) rfl rfl rfl rfl (one1 rfl) (Nat.le_of_ble_eq_true rfl) ([.slice A5 t4.length c6, .slice none 0 0, .slice none 0 0]) rfl) ?_
  intro w1 hS
  refine OJ.nil (EJ.next ?_)
  refine CJ.seq ?_
  refine CJ.region ?_
  refine OJ.st rfl rfl rfl (SR.fieldAddr tU_ok tI_ok rfl rfl rfl rfl rfl rfl) ?_
  refine OJ.st rfl rfl rfl (SR.load rfl rfl (fun w' hx => ld1 tU_ok rfl rfl (CA.ext (CA.sub (hS.cells (i := 0) rfl) 1) hx) rfl)) ?_
  obtain ⟨t7, ht7, H⟩ := pbind H
  refine OJ.callF rfl rfl rfl rfl rfl hb23 rfl (laws_toInt16S.c k _ Aa0_1 ca0_1 a0.Eats (hS.rd' (i := 1) rfl) (hS.le' (i := 1) rfl) _ ht7) ?_
  rintro _ w1 ⟨A8, c9, rfl, hs⟩
  replace hS := hS.addN hs
  refine OJ.st rfl rfl rfl (SR.fieldAddr tU_ok tI_ok rfl rfl rfl rfl rfl rfl) ?_
  refine OJ.es rfl rfl (Es.store tI_ok hS (i := 2) (vs := [.slice A8 t7.length c9]) rfl rfl rfl (ad1 _ _) rfl rfl rfl rfl (one1 rfl) (Nat.le_of_ble_eq_true rfl) ([.slice A5 t4.length c6, .slice A8 t7.length c9, .slice none 0 0]) rfl) ?_
  intro w1 hS
  refine OJ.nil (EJ.next ?_)
  refine CJ.seq ?_
  refine CJ.region ?_
  refine OJ.st rfl rfl rfl (SR.fieldAddr tU_ok tI_ok rfl rfl rfl rfl rfl rfl) ?_
  refine OJ.st rfl rfl rfl (SR.load rfl rfl (fun w' hx => ld1 tU_ok rfl rfl (CA.ext (CA.sub (hS.cells (i := 0) rfl) 2) hx) rfl)) ?_
  obtain ⟨t10, ht10, H⟩ := pbind H
  refine OJ.callF rfl rfl rfl rfl rfl hb24 rfl (laws_toUint16S.c k _ Aa0_2 ca0_2 a0.Foes (hS.rd' (i := 2) rfl) (hS.le' (i := 2) rfl) _ ht10) ?_
  rintro _ w1 ⟨A11, c12, rfl, hs⟩
  replace hS := hS.addN hs
  have hS : St w no w1 [box b1 ([.slice Aa0_0 a0.Names.length ca0_0, .slice Aa0_1 a0.Eats.length ca0_1, .slice Aa0_2 a0.Foes.length ca0_2]) 26, box b2 ([.slice none 0 0, .slice none 0 0, .slice none 0 0]) 31, box b3 ([.slice A5 t4.length c6, .slice A8 t7.length c9, .slice none 0 0]) 31, rowC G.cs A5 c6 9 t4, rowC (ci .i16) A8 c9 65 t7, rowC (ci .u16) A11 c12 66 t10] [roC G.cs Aa0_0 ca0_0 a0.Names, roC (ci .i16) Aa0_1 ca0_1 a0.Eats, roC (ci .u16) Aa0_2 ca0_2 a0.Foes] := hS
  refine OJ.st rfl rfl rfl (SR.fieldAddr tU_ok tI_ok rfl rfl rfl rfl rfl rfl) ?_
  refine OJ.es rfl rfl (Es.store tI_ok hS (i := 2) (vs := [.slice A11 t10.length c12]) rfl rfl rfl (ad1 _ _) rfl rfl rfl rfl (one1 rfl) (Nat.le_of_ble_eq_true rfl) ([.slice A5 t4.length c6, .slice A8 t7.length c9, .slice A11 t10.length c12]) rfl) ?_
  intro w1 hS
  refine OJ.nil (EJ.next ?_)
  refine CJ.seq ?_
  refine CJ.region ?_
  refine OJ.st rfl rfl rfl (SR.load rfl rfl (fun w' hx => ldN tU_ok tI_ok rfl rfl rfl (CA.ext (hS.cells (i := 2) rfl) hx) (ds := [.slice A5 t4.length c6, .slice A8 t7.length c9, .slice A11 t10.length c12]) rfl rfl)) ?_
  refine OJ.es rfl rfl (Es.store tI_ok hS (i := 1) (vs := [.slice A5 t4.length c6, .slice A8 t7.length c9, .slice A11 t10.length c12]) rfl rfl rfl rfl rfl rfl rfl rfl (by intro u hu; simp only [List.mem_cons, List.not_mem_nil, or_false] at hu; rcases hu with rfl | rfl | rfl <;> rfl) (Nat.le_of_ble_eq_true rfl) ([.slice A5 t4.length c6, .slice A8 t7.length c9, .slice A11 t10.length c12]) rfl) ?_
  intro w1 hS
  refine OJ.nil (EJ.next ?_)
  refine CJ.ret (?_)
  obtain rfl := Option.some.inj H
  exact EJ.fin rfl (.cell rfl (ldN tU_ok tI_ok rfl rfl rfl (hS.cells (i := 1) rfl) (ds := [.slice A5 t4.length c6, .slice A8 t7.length c9, .slice A11 t10.length c12]) rfl rfl) .nil) ⟨A5, c6, A8, c9, A11, c12, rfl, hS.pick [3, 4, 5] [] rfl⟩

def spec_l00In.f (a0 : Int) (a1 : Int) (a2 : Int) : Option Bool := if a1 ≤ a0 then (some (decide (a0 ≤ a2))) else (some false)
theorem spec_l00In.c (w : World) (a0 : Int) (a1 : Int) (a2 : Int) (r : Bool) (H : spec_l00In.f a0 a1 a2 = some r) :
    CV Tryd.prog 45 [.int .i64 a0, .int .i64 a1, .int .i64 a2].toArray w fun v w' => v = .bool r ∧ Ext w w' := by
  have hS := (St.init w no)
  unfold spec_l00In.f at H
  refine CV.body Tryd.func45 rfl Tryd.ntmps45 rfl ?_
  refine CJ.seq ?_
  refine CJ.region ?_
  refine OJ.pures tU_ok 1 rfl ?_
  refine OJ.nil (EJ.next ?_)
  refine CJ.seq ?_
  refine CJ.region ?_
  refine OJ.pures tU_ok 4 rfl ?_
  refine OJ.split (t := 10) rfl (fun hb => ?_) (fun hb => ?_)
  · replace H := pif_t (of_decide_eq_true hb) H
    refine OJ.pures tU_ok 5 rfl ?_
    refine OJ.nil (EJ.next ?_)
    refine CJ.ret (?_)
    obtain rfl := Option.some.inj H
    exact EJ.fin rfl (.tmp rfl .nil) ⟨rfl, hS.ext⟩
  · replace H := pif_f (of_decide_eq_false hb) H
    refine OJ.pures tU_ok 5 rfl ?_
    refine OJ.nil (EJ.next ?_)
    refine CJ.ret (?_)
    obtain rfl := Option.some.inj H
    exact EJ.fin rfl (.tmp rfl .nil) ⟨rfl, hS.ext⟩

def spec_l06Name.l1 (a0 : ByteArray) : Nat → Int → Option (Bool ⊕ Unit)
  | 0, _ => none
  | k + 1, y1 => if y1 < (a0.size : Int) then ((getB a0 y1).bind fun t2 => if t2 < 97 then (some (Sum.inl false)) else ((getB a0 y1).bind fun t3 => if 122 < t3 then (some (Sum.inl false)) else (spec_l06Name.l1 a0 k (IntKind.i64.wrap (y1 + 1))))) else (some (Sum.inr ()))
def spec_l06Name.f (k : Nat) (a0 : ByteArray) : Option Bool := (spec_l06Name.l1 a0 k 0).bind fun s9 => match s9 with | .inl r => some r | .inr _ => (spec_l00In.f (a0.size : Int) 1 8).bind fun t4 => some t4
theorem spec_l06Name.c (k : Nat) (w : World) (a0 : ByteArray) (r : Bool) (H : spec_l06Name.f k a0 = some r) :
    CV Tryd.prog 44 [.string a0].toArray w fun v w' => v = .bool r ∧ Ext w w' := by
  have hS := (St.init w no)
  unfold spec_l06Name.f at H
  refine CV.body Tryd.func44 rfl Tryd.ntmps44 rfl ?_
  refine CJ.seq ?_
  refine CJ.region ?_
  refine OJ.pures tU_ok 1 rfl ?_
  refine OJ.nil (EJ.next ?_)
  refine CJ.seq ?_
  refine CJ.seq ?_
  refine CJ.region ?_
  refine OJ.pures tU_ok 1 rfl ?_
  refine OJ.nil (EJ.next ?_)
  obtain ⟨j9, H, K9⟩ := pbind H
  refine CJ.cut1 (fun F w1 => (some (Sum.inr ()) : Option (Bool ⊕ Unit)) = some j9 ∧ F = [(0, .string a0)] ∧ St w no w1 [] []) ?_ ?_
  · skip
    refine CJ.block ?_
    refine CJ.loop (fun k F w1 => ∃ (y1 : Int), F = [(0, .string a0), (3, .int .i64 y1)] ∧ St w no w1 [] [] ∧ spec_l06Name.l1 a0 k y1 = some j9) k (F' := [(0, .string a0), (3, .int .i64 0)]) ⟨rfl, rfl, trivial⟩ ⟨0, rfl, hS.pick [] [] rfl, H⟩ ?_
    rintro k F w1 ⟨y1, rfl, hS, H⟩
    cases k with
    | zero => rw [spec_l06Name.l1] at H; cases H
    | succ k =>
      rw [spec_l06Name.l1] at H
      refine CJ.seq ?_
      refine CJ.seq ?_
      refine CJ.region ?_
      refine OJ.pures tU_ok 4 rfl ?_
      refine OJ.nil (EJ.next ?_)
      refine CJ.cond rfl (fun hb => ?_) (fun hb => ?_)
      · replace H := pif_t (of_decide_eq_true hb) H
        refine CJ.skip (EJ.next ?_)
        refine CJ.seq ?_
        refine CJ.block ?_
        refine CJ.seq ?_
        refine CJ.region ?_
        refine OJ.pures tU_ok 2 rfl ?_
        obtain ⟨t2, ht2, H⟩ := pbind H
        refine OJ.st rfl rfl rfl (SR.idxStr tU_ok rfl rfl rfl rfl ht2) ?_
        refine OJ.pures tU_ok 2 rfl ?_
        refine OJ.split (t := 14) rfl (fun hb => ?_) (fun hb => ?_)
        · replace H := pif_t (of_decide_eq_true hb) H
          refine OJ.pures tU_ok 5 rfl ?_
          refine OJ.nil (EJ.next ?_)
          refine CJ.condT rfl ?_
          refine CJ.seq ?_
          refine CJ.region ?_
          refine OJ.pures tU_ok 1 rfl ?_
          refine OJ.nil (EJ.next ?_)
          refine CJ.ret (EJ.bkR (EJ.skR (EJ.skR (EJ.bkR (EJ.skR (EJ.skR (?_)))))))
          first | (obtain rfl := Option.some.inj H; have H := K9) | (obtain ⟨q9, H2, e9⟩ := pbind H; obtain rfl := Option.some.inj e9; obtain rfl := Option.some.inj K9; have H := H2)
          obtain rfl := Option.some.inj H
          exact EJ.fin rfl (.tmp rfl .nil) ⟨rfl, hS.ext⟩
        · replace H := pif_f (of_decide_eq_false hb) H
          refine OJ.pures tU_ok 2 rfl ?_
          obtain ⟨t3, ht3, H⟩ := pbind H
          refine OJ.st rfl rfl rfl (SR.idxStr tU_ok rfl rfl rfl rfl ht3) ?_
          refine OJ.pures tU_ok 2 rfl ?_
          refine OJ.nil (EJ.next ?_)
          refine CJ.cond rfl (fun hb => ?_) (fun hb => ?_)
          · replace H := pif_t (of_decide_eq_true hb) H
            refine CJ.seq ?_
            refine CJ.region ?_
            refine OJ.pures tU_ok 1 rfl ?_
            refine OJ.nil (EJ.next ?_)
            refine CJ.ret (EJ.bkR (EJ.skR (EJ.skR (EJ.bkR (EJ.skR (EJ.skR (?_)))))))
            first | (obtain rfl := Option.some.inj H; have H := K9) | (obtain ⟨q9, H2, e9⟩ := pbind H; obtain rfl := Option.some.inj e9; obtain rfl := Option.some.inj K9; have H := H2)
            obtain rfl := Option.some.inj H
            exact EJ.fin rfl (.tmp rfl .nil) ⟨rfl, hS.ext⟩
          · replace H := pif_f (of_decide_eq_false hb) H
            refine CJ.skip (EJ.blk (EJ.next ?_))
            refine CJ.region ?_
            refine OJ.pures tU_ok 3 rfl ?_
            refine OJ.nil ?_
            exact EJ.round k (F' := [(0, .string a0), (3, .int .i64 (IntKind.i64.wrap (y1 + 1)))]) ⟨rfl, rfl, trivial⟩ (Nat.lt_succ_self _) ⟨(IntKind.i64.wrap (y1 + 1)), rfl, hS.pick [] [] rfl, H⟩
      · replace H := pif_f (of_decide_eq_false hb) H
        refine CJ.exit (EJ.skE (EJ.skE (EJ.hit (?_))))
        exact EJ.meet (F' := [(0, .string a0)]) ⟨rfl, trivial⟩ ⟨H, rfl, hS.pick [] [] rfl⟩
  · rintro F w1 ⟨he, rfl, hS⟩
    obtain rfl := Option.some.inj he
    have H := K9
    refine EJ.next ?_
    refine CJ.seq ?_
    refine CJ.region ?_
    refine OJ.pures tU_ok 2 rfl ?_
    obtain ⟨t4, ht4, H⟩ := pbind H
    refine OJ.callF rfl rfl rfl rfl rfl hb45 rfl (spec_l00In.c _ (a0.size : Int) 1 8 _ ht4) ?_
    rintro _ w1 ⟨rfl, hs⟩
    replace hS := hS.grow hs
    refine OJ.pures tU_ok 1 rfl ?_
    refine OJ.nil (EJ.next ?_)
    refine CJ.ret (?_)
    obtain rfl := Option.some.inj H
    exact EJ.fin rfl (.tmp rfl .nil) ⟨rfl, hS.ext⟩

def spec_l06Are.f (a0 : Herd) (a1 : Int) (a2 : Int) : Option Bool := (getI a0.Foes a1).bind fun t1 => (chk (0 ≤ (IntKind.u64.wrap a2))).bind fun u2 => some (decide ((Int.tmod (shrI .u16 t1 (IntKind.u64.wrap a2)) 2) = 1))
theorem spec_l06Are.c (w : World) (Aa0_0 : Option Addr) (ca0_0 : Nat) (Aa0_1 : Option Addr) (ca0_1 : Nat) (Aa0_2 : Option Addr) (ca0_2 : Nat) (a0 : Herd) (hr0_0 : Rd G.cs w Aa0_0 a0.Names) (hc0_0 : a0.Names.length ≤ ca0_0) (hr0_1 : Rd (ci .i16) w Aa0_1 a0.Eats) (hc0_1 : a0.Eats.length ≤ ca0_1) (hr0_2 : Rd (ci .u16) w Aa0_2 a0.Foes) (hc0_2 : a0.Foes.length ≤ ca0_2) (pa0 : Addr) (hp0 : CA w pa0 ([.slice Aa0_0 a0.Names.length ca0_0, .slice Aa0_1 a0.Eats.length ca0_1, .slice Aa0_2 a0.Foes.length ca0_2])) (a1 : Int) (a2 : Int) (r : Bool) (H : spec_l06Are.f a0 a1 a2 = some r) :
    CV Tryd.prog 46 [.pointer (some pa0), .int .i64 a1, .int .i64 a2].toArray w fun v w' => v = .bool r ∧ Ext w w' := by
  have hS := (((((St.init w no).param G.cs Aa0_0 ca0_0 a0.Names hr0_0 hc0_0).param (ci .i16) Aa0_1 ca0_1 a0.Eats hr0_1 hc0_1).param (ci .u16) Aa0_2 ca0_2 a0.Foes hr0_2 hc0_2).paramP pa0 ([.slice Aa0_0 a0.Names.length ca0_0, .slice Aa0_1 a0.Eats.length ca0_1, .slice Aa0_2 a0.Foes.length ca0_2]) hp0)
  unfold spec_l06Are.f at H
  refine CV.body Tryd.func46 rfl Tryd.ntmps46 rfl ?_
  refine CJ.seq ?_
  refine CJ.region ?_
  refine OJ.pures tU_ok 1 rfl ?_
  refine OJ.nil (EJ.next ?_)
  refine CJ.seq ?_
  refine CJ.region ?_
  refine OJ.pures tU_ok 2 rfl ?_
  refine OJ.st rfl rfl rfl (SR.fieldAddr tU_ok tI_ok rfl rfl rfl rfl rfl rfl) ?_
  refine OJ.st rfl rfl rfl (SR.load rfl rfl (fun w' hx => ld1 tU_ok rfl rfl (CA.ext (CA.sub (hS.ca (i := 3) rfl) 2) hx) rfl)) ?_
  refine OJ.pures tU_ok 1 rfl ?_
  obtain ⟨t1, ht1, H⟩ := pbind H
  obtain ⟨ad1, e1⟩ := (hS.rd' (i := 2) rfl).some' ht1
  refine OJ.st rfl rfl rfl (SR.idxS tU_ok tI_ok rfl rfl rfl rfl e1 rfl (getI_some ht1).1) ?_
  refine OJ.st rfl rfl rfl (SR.load rfl rfl (fun w' hx => ld1 tU_ok rfl rfl (CA.ext ((hS.rd' (i := 2) rfl).at_ e1 ht1) hx) rfl)) ?_
  refine OJ.pures tU_ok 2 rfl ?_
  obtain ⟨u2, hu2, H⟩ := pbind H
  refine OJ.st rfl rfl rfl (SR.shr rfl rfl rfl (chk_some hu2)) ?_
  refine OJ.st rfl rfl rfl (SR.rem rfl rfl rfl (by decide)) ?_
  refine OJ.pures tU_ok 2 rfl ?_
  refine OJ.nil (EJ.next ?_)
  refine CJ.ret (?_)
  obtain rfl := Option.some.inj H
  exact EJ.fin rfl (.tmp rfl .nil) ⟨rfl, hS.ext⟩

def spec_l06Ok.l2 (a0 : Herd) (y2 : Int) : Nat → Int → Option (((Bool ⊕ Unit) ⊕ Unit) ⊕ Unit)
  | 0, _ => none
  | k + 1, y11 => if y11 < y2 then ((getI a0.Names y11).bind fun t12 => (getI a0.Names y2).bind fun t13 => if t12 = t13 then (some (Sum.inl (Sum.inl (Sum.inl false)))) else ((spec_l06Are.f a0 y2 y11).bind fun t14 => (spec_l06Are.f a0 y11 y2).bind fun t15 => if t14 ≠ t15 then (some (Sum.inl (Sum.inl (Sum.inl false)))) else (spec_l06Ok.l2 a0 y2 k (IntKind.i64.wrap (y11 + 1))))) else (some (Sum.inr ()))
def spec_l06Ok.l1 (a0 : Herd) : Nat → Int → Option (Bool ⊕ Unit)
  | 0, _ => none
  | k + 1, y2 => if y2 < (a0.Names.length : Int) then ((((getI a0.Names y2).bind fun t4 => (spec_l06Name.f k t4).bind fun t5 => if (!t5) = true then (some true) else ((getI a0.Eats y2).bind fun t6 => (spec_l00In.f (IntKind.i64.wrap t6) 0 100).bind fun t7 => if (!t7) = true then (some true) else ((getI a0.Foes y2).bind fun t8 => (chk (0 ≤ (IntKind.u64.wrap (a0.Names.length : Int)))).bind fun u9 => if (shrI .u16 t8 (IntKind.u64.wrap (a0.Names.length : Int))) ≠ 0 then (some true) else ((spec_l06Are.f a0 y2 y2).bind fun t10 => some t10)))).bind fun y3 => if y3 = true then (some (Sum.inl (Sum.inl false))) else ((spec_l06Ok.l2 a0 y2 k 0).bind fun s22 => match s22 with | .inl r => some r | .inr _ => some (Sum.inr ()))).bind fun s18 => match s18 with | .inl r => some r | .inr _ => spec_l06Ok.l1 a0 k (IntKind.i64.wrap (y2 + 1))) else (some (Sum.inr ()))
def spec_l06Ok.f (k : Nat) (a0 : Herd) : Option Bool := (if 14 < (a0.Names.length : Int) then (some true) else (if (a0.Eats.length : Int) ≠ (a0.Names.length : Int) then (some true) else (some (decide ((a0.Foes.length : Int) ≠ (a0.Names.length : Int)))))).bind fun y1 => if y1 = true then (some false) else ((spec_l06Ok.l1 a0 k 0).bind fun s6 => match s6 with | .inl r => some r | .inr _ => some true)
theorem spec_l06Ok.c (k : Nat) (w : World) (Aa0_0 : Option Addr) (ca0_0 : Nat) (Aa0_1 : Option Addr) (ca0_1 : Nat) (Aa0_2 : Option Addr) (ca0_2 : Nat) (a0 : Herd) (hr0_0 : Rd G.cs w Aa0_0 a0.Names) (hc0_0 : a0.Names.length ≤ ca0_0) (hr0_1 : Rd (ci .i16) w Aa0_1 a0.Eats) (hc0_1 : a0.Eats.length ≤ ca0_1) (hr0_2 : Rd (ci .u16) w Aa0_2 a0.Foes) (hc0_2 : a0.Foes.length ≤ ca0_2) (pa0 : Addr) (hp0 : CA w pa0 ([.slice Aa0_0 a0.Names.length ca0_0, .slice Aa0_1 a0.Eats.length ca0_1, .slice Aa0_2 a0.Foes.length ca0_2])) (r : Bool) (H : spec_l06Ok.f k a0 = some r) :
    CV Tryd.prog 20 [.pointer (some pa0)].toArray w fun v w' => v = .bool r ∧ Ext w w' := by
  have hS := (((((St.init w no).param G.cs Aa0_0 ca0_0 a0.Names hr0_0 hc0_0).param (ci .i16) Aa0_1 ca0_1 a0.Eats hr0_1 hc0_1).param (ci .u16) Aa0_2 ca0_2 a0.Foes hr0_2 hc0_2).paramP pa0 ([.slice Aa0_0 a0.Names.length ca0_0, .slice Aa0_1 a0.Eats.length ca0_1, .slice Aa0_2 a0.Foes.length ca0_2]) hp0)
  unfold spec_l06Ok.f at H
  refine CV.body Tryd.func20 rfl Tryd.ntmps20 rfl ?_
  refine CJ.seq ?_
  refine CJ.region ?_
  refine OJ.pures tU_ok 1 rfl ?_
  refine OJ.nil (EJ.next ?_)
  refine CJ.seq ?_
  refine CJ.region ?_
  refine OJ.pures tU_ok 2 rfl ?_
  refine OJ.st rfl rfl rfl (SR.fieldAddr tU_ok tI_ok rfl rfl rfl rfl rfl rfl) ?_
  refine OJ.st rfl rfl rfl (SR.load rfl rfl (fun w' hx => ld1 tU_ok rfl rfl (CA.ext (CA.sub (hS.ca (i := 3) rfl) 0) hx) rfl)) ?_
  refine OJ.pures tU_ok 2 rfl ?_
  refine OJ.nil (EJ.next ?_)
  refine CJ.seq ?_
  obtain ⟨j5, H, K5⟩ := pbind H
  refine CJ.cut (fun F w1 => ∃ (y1 : Bool) , (some y1 : Option Bool) = some j5 ∧ F = [(0, .pointer (some pa0)), (3, .int .i64 (a0.Names.length : Int)), (30, .bool y1)] ∧ St w no w1 [] [roC G.cs Aa0_0 ca0_0 a0.Names, roC (ci .i16) Aa0_1 ca0_1 a0.Eats, roC (ci .u16) Aa0_2 ca0_2 a0.Foes, roP pa0 ([.slice Aa0_0 a0.Names.length ca0_0, .slice Aa0_1 a0.Eats.length ca0_1, .slice Aa0_2 a0.Foes.length ca0_2])]) ?_ ?_
  · skip
    refine CJ.region ?_
    refine OJ.pures tU_ok 3 rfl ?_
    refine OJ.split (t := 13) rfl (fun hb => ?_) (fun hb => ?_)
    · replace H := pif_t (of_decide_eq_true hb) H
      refine OJ.pures tU_ok 17 rfl ?_
      refine OJ.nil ?_
      exact EJ.meet (F' := [(0, .pointer (some pa0)), (3, .int .i64 (a0.Names.length : Int)), (30, .bool true)]) ⟨rfl, rfl, rfl, trivial⟩ ⟨true, H, rfl, hS.pick [] [0, 1, 2, 3] rfl⟩
    · replace H := pif_f (of_decide_eq_false hb) H
      refine OJ.pures tU_ok 2 rfl ?_
      refine OJ.st rfl rfl rfl (SR.fieldAddr tU_ok tI_ok rfl rfl rfl rfl rfl rfl) ?_
      refine OJ.st rfl rfl rfl (SR.load rfl rfl (fun w' hx => ld1 tU_ok rfl rfl (CA.ext (CA.sub (hS.ca (i := 3) rfl) 1) hx) rfl)) ?_
      refine OJ.pures tU_ok 5 rfl ?_
      refine OJ.split (t := 22) rfl (fun hb => ?_) (fun hb => ?_)
      · replace H := pif_t (of_decide_eq_true hb) H
        refine OJ.pures tU_ok 8 rfl ?_
        refine OJ.nil ?_
        exact EJ.meet (F' := [(0, .pointer (some pa0)), (3, .int .i64 (a0.Names.length : Int)), (30, .bool true)]) ⟨rfl, rfl, rfl, trivial⟩ ⟨true, H, rfl, hS.pick [] [0, 1, 2, 3] rfl⟩
      · replace H := pif_f (of_decide_eq_false hb) H
        refine OJ.pures tU_ok 2 rfl ?_
        refine OJ.st rfl rfl rfl (SR.fieldAddr tU_ok tI_ok rfl rfl rfl rfl rfl rfl) ?_
        refine OJ.st rfl rfl rfl (SR.load rfl rfl (fun w' hx => ld1 tU_ok rfl rfl (CA.ext (CA.sub (hS.ca (i := 3) rfl) 2) hx) rfl)) ?_
        refine OJ.pures tU_ok 4 rfl ?_
        refine OJ.nil ?_
        exact EJ.meet (F' := [(0, .pointer (some pa0)), (3, .int .i64 (a0.Names.length : Int)), (30, .bool (decide ((a0.Foes.length : Int) ≠ (a0.Names.length : Int))))]) ⟨rfl, rfl, rfl, trivial⟩ ⟨(decide ((a0.Foes.length : Int) ≠ (a0.Names.length : Int))), H, rfl, hS.pick [] [0, 1, 2, 3] rfl⟩
  · rintro F w1 ⟨y1, he, rfl, hS⟩
    obtain rfl := Option.some.inj he
    have H := K5
    refine CJ.cond rfl (fun hb => ?_) (fun hb => ?_)
    · replace H := pif_t hb H
      refine CJ.seq ?_
      refine CJ.region ?_
      refine OJ.pures tU_ok 1 rfl ?_
      refine OJ.nil (EJ.next ?_)
      refine CJ.ret (EJ.skR (?_))
      obtain rfl := Option.some.inj H
      exact EJ.fin rfl (.tmp rfl .nil) ⟨rfl, hS.ext⟩
    · replace H := pifb_f hb H
      refine CJ.skip (EJ.next ?_)
      refine CJ.seq ?_
      refine CJ.seq ?_
      refine CJ.region ?_
      refine OJ.pures tU_ok 1 rfl ?_
      refine OJ.nil (EJ.next ?_)
      obtain ⟨j6, H, K6⟩ := pbind H
      refine CJ.cut1 (fun F w1 => (some (Sum.inr ()) : Option (Bool ⊕ Unit)) = some j6 ∧ F = [] ∧ St w no w1 [] [roC G.cs Aa0_0 ca0_0 a0.Names, roC (ci .i16) Aa0_1 ca0_1 a0.Eats, roC (ci .u16) Aa0_2 ca0_2 a0.Foes, roP pa0 ([.slice Aa0_0 a0.Names.length ca0_0, .slice Aa0_1 a0.Eats.length ca0_1, .slice Aa0_2 a0.Foes.length ca0_2])]) ?_ ?_
      · skip
        refine CJ.block ?_
        refine CJ.loop (fun k F w1 => ∃ (y2 : Int), F = [(0, .pointer (some pa0)), (3, .int .i64 (a0.Names.length : Int)), (4, .int .i64 y2)] ∧ St w no w1 [] [roC G.cs Aa0_0 ca0_0 a0.Names, roC (ci .i16) Aa0_1 ca0_1 a0.Eats, roC (ci .u16) Aa0_2 ca0_2 a0.Foes, roP pa0 ([.slice Aa0_0 a0.Names.length ca0_0, .slice Aa0_1 a0.Eats.length ca0_1, .slice Aa0_2 a0.Foes.length ca0_2])] ∧ spec_l06Ok.l1 a0 k y2 = some j6) k (F' := [(0, .pointer (some pa0)), (3, .int .i64 (a0.Names.length : Int)), (4, .int .i64 0)]) ⟨rfl, rfl, rfl, trivial⟩ ⟨0, rfl, hS.pick [] [0, 1, 2, 3] rfl, H⟩ ?_
        rintro k F w1 ⟨y2, rfl, hS, H⟩
        cases k with
        | zero => rw [spec_l06Ok.l1] at H; cases H
        | succ k =>
          rw [spec_l06Ok.l1] at H
          refine CJ.seq ?_
          refine CJ.seq ?_
          refine CJ.region ?_
          refine OJ.pures tU_ok 3 rfl ?_
          refine OJ.nil (EJ.next ?_)
          refine CJ.cond rfl (fun hb => ?_) (fun hb => ?_)
          · replace H := pif_t (of_decide_eq_true hb) H
            refine CJ.skip (EJ.next ?_)
            obtain ⟨j18, H, K18⟩ := pbind H
            refine CJ.cut (fun F w1 => (some (Sum.inr ()) : Option ((Bool ⊕ Unit) ⊕ Unit)) = some j18 ∧ F = [(0, .pointer (some pa0)), (3, .int .i64 (a0.Names.length : Int)), (4, .int .i64 y2)] ∧ St w no w1 [] [roC G.cs Aa0_0 ca0_0 a0.Names, roC (ci .i16) Aa0_1 ca0_1 a0.Eats, roC (ci .u16) Aa0_2 ca0_2 a0.Foes, roP pa0 ([.slice Aa0_0 a0.Names.length ca0_0, .slice Aa0_1 a0.Eats.length ca0_1, .slice Aa0_2 a0.Foes.length ca0_2])]) ?_ ?_
            · skip
              refine CJ.block ?_
              refine CJ.seq ?_
              obtain ⟨j21, H, K21⟩ := pbind H
              refine CJ.cut (fun F w1 => ∃ (y3 : Bool) , (some y3 : Option Bool) = some j21 ∧ F = [(0, .pointer (some pa0)), (3, .int .i64 (a0.Names.length : Int)), (4, .int .i64 y2), (75, .bool y3)] ∧ St w no w1 [] [roC G.cs Aa0_0 ca0_0 a0.Names, roC (ci .i16) Aa0_1 ca0_1 a0.Eats, roC (ci .u16) Aa0_2 ca0_2 a0.Foes, roP pa0 ([.slice Aa0_0 a0.Names.length ca0_0, .slice Aa0_1 a0.Eats.length ca0_1, .slice Aa0_2 a0.Foes.length ca0_2])]) ?_ ?_
              · skip
                refine CJ.region ?_
                refine OJ.pures tU_ok 2 rfl ?_
                refine OJ.st rfl rfl rfl (SR.fieldAddr tU_ok tI_ok rfl rfl rfl rfl rfl rfl) ?_
                refine OJ.st rfl rfl rfl (SR.load rfl rfl (fun w' hx => ld1 tU_ok rfl rfl (CA.ext (CA.sub (hS.ca (i := 3) rfl) 0) hx) rfl)) ?_
                refine OJ.pures tU_ok 1 rfl ?_
                obtain ⟨t4, ht4, H⟩ := pbind H
                obtain ⟨ad4, e4⟩ := (hS.rd' (i := 0) rfl).some' ht4
                refine OJ.st rfl rfl rfl (SR.idxS tU_ok tI_ok rfl rfl rfl rfl e4 rfl (getI_some ht4).1) ?_
                refine OJ.st rfl rfl rfl (SR.load rfl rfl (fun w' hx => ld1 tU_ok rfl rfl (CA.ext ((hS.rd' (i := 0) rfl).at_ e4 ht4) hx) rfl)) ?_
                obtain ⟨t5, ht5, H⟩ := pbind H
                refine OJ.callF rfl rfl rfl rfl rfl hb44 rfl (spec_l06Name.c k _ t4 _ ht5) ?_
                rintro _ w1 ⟨rfl, hs⟩
                replace hS := hS.grow hs
                refine OJ.pures tU_ok 2 rfl ?_
                refine OJ.split (t := 45) rfl (fun hb => ?_) (fun hb => ?_)
                · replace H := pif_t hb H
                  refine OJ.pures tU_ok 30 rfl ?_
                  refine OJ.nil ?_
                  exact EJ.meet (F' := [(0, .pointer (some pa0)), (3, .int .i64 (a0.Names.length : Int)), (4, .int .i64 y2), (75, .bool true)]) ⟨rfl, rfl, rfl, rfl, trivial⟩ ⟨true, H, rfl, hS.pick [] [0, 1, 2, 3] rfl⟩
                · replace H := pifb_f hb H
                  refine OJ.pures tU_ok 2 rfl ?_
                  refine OJ.st rfl rfl rfl (SR.fieldAddr tU_ok tI_ok rfl rfl rfl rfl rfl rfl) ?_
                  refine OJ.st rfl rfl rfl (SR.load rfl rfl (fun w' hx => ld1 tU_ok rfl rfl (CA.ext (CA.sub (hS.ca (i := 3) rfl) 1) hx) rfl)) ?_
                  refine OJ.pures tU_ok 1 rfl ?_
                  obtain ⟨t6, ht6, H⟩ := pbind H
                  obtain ⟨ad6, e6⟩ := (hS.rd' (i := 1) rfl).some' ht6
                  refine OJ.st rfl rfl rfl (SR.idxS tU_ok tI_ok rfl rfl rfl rfl e6 rfl (getI_some ht6).1) ?_
                  refine OJ.st rfl rfl rfl (SR.load rfl rfl (fun w' hx => ld1 tU_ok rfl rfl (CA.ext ((hS.rd' (i := 1) rfl).at_ e6 ht6) hx) rfl)) ?_
                  refine OJ.pures tU_ok 1 rfl ?_
                  obtain ⟨t7, ht7, H⟩ := pbind H
                  refine OJ.callF rfl rfl rfl rfl rfl hb45 rfl (spec_l00In.c _ (IntKind.i64.wrap t6) 0 100 _ ht7) ?_
                  rintro _ w1 ⟨rfl, hs⟩
                  replace hS := hS.grow hs
                  refine OJ.pures tU_ok 3 rfl ?_
                  refine OJ.split (t := 57) rfl (fun hb => ?_) (fun hb => ?_)
                  · replace H := pif_t hb H
                    refine OJ.pures tU_ok 18 rfl ?_
                    refine OJ.nil ?_
                    exact EJ.meet (F' := [(0, .pointer (some pa0)), (3, .int .i64 (a0.Names.length : Int)), (4, .int .i64 y2), (75, .bool true)]) ⟨rfl, rfl, rfl, rfl, trivial⟩ ⟨true, H, rfl, hS.pick [] [0, 1, 2, 3] rfl⟩
                  · replace H := pifb_f hb H
                    refine OJ.pures tU_ok 2 rfl ?_
                    refine OJ.st rfl rfl rfl (SR.fieldAddr tU_ok tI_ok rfl rfl rfl rfl rfl rfl) ?_
                    refine OJ.st rfl rfl rfl (SR.load rfl rfl (fun w' hx => ld1 tU_ok rfl rfl (CA.ext (CA.sub (hS.ca (i := 3) rfl) 2) hx) rfl)) ?_
                    refine OJ.pures tU_ok 1 rfl ?_
                    obtain ⟨t8, ht8, H⟩ := pbind H
                    obtain ⟨ad8, e8⟩ := (hS.rd' (i := 2) rfl).some' ht8
                    refine OJ.st rfl rfl rfl (SR.idxS tU_ok tI_ok rfl rfl rfl rfl e8 rfl (getI_some ht8).1) ?_
                    refine OJ.st rfl rfl rfl (SR.load rfl rfl (fun w' hx => ld1 tU_ok rfl rfl (CA.ext ((hS.rd' (i := 2) rfl).at_ e8 ht8) hx) rfl)) ?_
                    refine OJ.pures tU_ok 2 rfl ?_
                    obtain ⟨u9, hu9, H⟩ := pbind H
                    refine OJ.st rfl rfl rfl (SR.shr rfl rfl rfl (chk_some hu9)) ?_
                    refine OJ.pures tU_ok 3 rfl ?_
                    refine OJ.split (t := 70) rfl (fun hb => ?_) (fun hb => ?_)
                    · replace H := pif_t (of_decide_eq_true hb) H
                      refine OJ.pures tU_ok 5 rfl ?_
                      refine OJ.nil ?_
                      exact EJ.meet (F' := [(0, .pointer (some pa0)), (3, .int .i64 (a0.Names.length : Int)), (4, .int .i64 y2), (75, .bool true)]) ⟨rfl, rfl, rfl, rfl, trivial⟩ ⟨true, H, rfl, hS.pick [] [0, 1, 2, 3] rfl⟩
                    · replace H := pif_f (of_decide_eq_false hb) H
                      refine OJ.pures tU_ok 3 rfl ?_
                      obtain ⟨t10, ht10, H⟩ := pbind H
                      refine OJ.callF rfl rfl rfl rfl rfl hb46 rfl (spec_l06Are.c _ Aa0_0 ca0_0 Aa0_1 ca0_1 Aa0_2 ca0_2 a0 (hS.rd' (i := 0) rfl) (hS.le' (i := 0) rfl) (hS.rd' (i := 1) rfl) (hS.le' (i := 1) rfl) (hS.rd' (i := 2) rfl) (hS.le' (i := 2) rfl) pa0 (hS.ca (i := 3) rfl) y2 y2 _ ht10) ?_
                      rintro _ w1 ⟨rfl, hs⟩
                      replace hS := hS.grow hs
                      refine OJ.pures tU_ok 1 rfl ?_
                      refine OJ.nil ?_
                      exact EJ.meet (F' := [(0, .pointer (some pa0)), (3, .int .i64 (a0.Names.length : Int)), (4, .int .i64 y2), (75, .bool t10)]) ⟨rfl, rfl, rfl, rfl, trivial⟩ ⟨t10, H, rfl, hS.pick [] [0, 1, 2, 3] rfl⟩
              · rintro F w1 ⟨y3, he, rfl, hS⟩
                obtain rfl := Option.some.inj he
                have H := K21
                refine CJ.cond rfl (fun hb => ?_) (fun hb => ?_)
                · replace H := pif_t hb H
                  refine CJ.seq ?_
                  refine CJ.region ?_
                  refine OJ.pures tU_ok 1 rfl ?_
                  refine OJ.nil (EJ.next ?_)
                  refine CJ.ret (EJ.skR (EJ.bkR (EJ.skR (EJ.skR (EJ.bkR (EJ.skR (EJ.skR (?_))))))))
                  first | (obtain rfl := Option.some.inj H; have H := K18) | (obtain ⟨q18, H2, e18⟩ := pbind H; obtain rfl := Option.some.inj e18; obtain rfl := Option.some.inj K18; have H := H2)
                  first | (obtain rfl := Option.some.inj H; have H := K6) | (obtain ⟨q6, H2, e6⟩ := pbind H; obtain rfl := Option.some.inj e6; obtain rfl := Option.some.inj K6; have H := H2)
                  obtain rfl := Option.some.inj H
                  exact EJ.fin rfl (.tmp rfl .nil) ⟨rfl, hS.ext⟩
                · replace H := pifb_f hb H
                  refine CJ.skip (EJ.next ?_)
                  refine CJ.seq ?_
                  refine CJ.region ?_
                  refine OJ.pures tU_ok 1 rfl ?_
                  refine OJ.nil (EJ.next ?_)
                  obtain ⟨j22, H, K22⟩ := pbind H
                  refine CJ.cut1 (fun F w1 => (some (Sum.inr ()) : Option (((Bool ⊕ Unit) ⊕ Unit) ⊕ Unit)) = some j22 ∧ F = [(0, .pointer (some pa0)), (3, .int .i64 (a0.Names.length : Int)), (4, .int .i64 y2)] ∧ St w no w1 [] [roC G.cs Aa0_0 ca0_0 a0.Names, roC (ci .i16) Aa0_1 ca0_1 a0.Eats, roC (ci .u16) Aa0_2 ca0_2 a0.Foes, roP pa0 ([.slice Aa0_0 a0.Names.length ca0_0, .slice Aa0_1 a0.Eats.length ca0_1, .slice Aa0_2 a0.Foes.length ca0_2])]) ?_ ?_
                  · skip
                    refine CJ.block ?_
                    refine CJ.loop (fun k F w1 => ∃ (y11 : Int), F = [(0, .pointer (some pa0)), (3, .int .i64 (a0.Names.length : Int)), (4, .int .i64 y2), (5, .int .i64 y11)] ∧ St w no w1 [] [roC G.cs Aa0_0 ca0_0 a0.Names, roC (ci .i16) Aa0_1 ca0_1 a0.Eats, roC (ci .u16) Aa0_2 ca0_2 a0.Foes, roP pa0 ([.slice Aa0_0 a0.Names.length ca0_0, .slice Aa0_1 a0.Eats.length ca0_1, .slice Aa0_2 a0.Foes.length ca0_2])] ∧ spec_l06Ok.l2 a0 y2 k y11 = some j22) k (F' := [(0, .pointer (some pa0)), (3, .int .i64 (a0.Names.length : Int)), (4, .int .i64 y2), (5, .int .i64 0)]) ⟨rfl, rfl, rfl, rfl, trivial⟩ ⟨0, rfl, hS.pick [] [0, 1, 2, 3] rfl, H⟩ ?_
                    rintro k F w1 ⟨y11, rfl, hS, H⟩
                    cases k with
                    | zero => rw [spec_l06Ok.l2] at H; cases H
                    | succ k =>
                      rw [spec_l06Ok.l2] at H
                      refine CJ.seq ?_
                      refine CJ.seq ?_
                      refine CJ.region ?_
                      refine OJ.pures tU_ok 3 rfl ?_
                      refine OJ.nil (EJ.next ?_)
                      refine CJ.cond rfl (fun hb => ?_) (fun hb => ?_)
                      · replace H := pif_t (of_decide_eq_true hb) H
                        refine CJ.skip (EJ.next ?_)
                        refine CJ.seq ?_
                        refine CJ.block ?_
                        refine CJ.seq ?_
                        refine CJ.draw [] [0, 1, 2, 3, 4, 5, 6, 7, 8, 9, 10, 11, 12, 13, 14, 15, 16, 17, 18, 20, 21, 22, 19, 23, 24, 25] mixed (by kernel_rfl) hS fun w1 hS => ?_
                        refine DJ.pures tU_ok 2 rfl ?_
                        refine DJ.st rfl rfl rfl rfl rfl (SR.fieldAddr tU_ok tI_ok rfl rfl rfl rfl rfl rfl) ?_
                        refine DJ.st rfl rfl rfl rfl rfl (SR.load rfl rfl (fun w' hx => ld1 tU_ok rfl rfl (CA.ext (CA.sub (hS.ca (i := 3) rfl) 0) hx) rfl)) ?_
                        refine DJ.pures tU_ok 1 rfl ?_
                        obtain ⟨t12, ht12, H⟩ := pbind H
                        obtain ⟨ad12, e12⟩ := (hS.rd' (i := 0) rfl).some' ht12
                        refine DJ.st rfl rfl rfl rfl rfl (SR.idxS tU_ok tI_ok rfl rfl rfl rfl e12 rfl (getI_some ht12).1) ?_
                        refine DJ.st rfl rfl rfl rfl rfl (SR.load rfl rfl (fun w' hx => ld1 tU_ok rfl rfl (CA.ext ((hS.rd' (i := 0) rfl).at_ e12 ht12) hx) rfl)) ?_
                        refine DJ.pures tU_ok 2 rfl ?_
                        refine DJ.st rfl rfl rfl rfl rfl (SR.fieldAddr tU_ok tI_ok rfl rfl rfl rfl rfl rfl) ?_
                        refine DJ.st rfl rfl rfl rfl rfl (SR.load rfl rfl (fun w' hx => ld1 tU_ok rfl rfl (CA.ext (CA.sub (hS.ca (i := 3) rfl) 0) hx) rfl)) ?_
                        refine DJ.pures tU_ok 1 rfl ?_
                        obtain ⟨t13, ht13, H⟩ := pbind H
                        obtain ⟨ad13, e13⟩ := (hS.rd' (i := 0) rfl).some' ht13
                        refine DJ.st rfl rfl rfl rfl rfl (SR.idxS tU_ok tI_ok rfl rfl rfl rfl e13 rfl (getI_some ht13).1) ?_
                        refine DJ.st rfl rfl rfl rfl rfl (SR.load rfl rfl (fun w' hx => ld1 tU_ok rfl rfl (CA.ext ((hS.rd' (i := 0) rfl).at_ e13 ht13) hx) rfl)) ?_
                        refine DJ.pures tU_ok 2 rfl ?_
                        refine DJ.split (t := 96) rfl (fun hb => ?_) (fun hb => ?_)
                        · replace H := pif_t (of_decide_eq_true hb) H
                          refine DJ.pures tU_ok 10 rfl ?_
                          refine DJ.nil (EJ.next ?_)
                          refine CJ.condT rfl ?_
                          refine CJ.seq ?_
                          refine CJ.region ?_
                          refine OJ.pures tU_ok 1 rfl ?_
                          refine OJ.nil (EJ.next ?_)
                          refine CJ.ret (EJ.bkR (EJ.skR (EJ.skR (EJ.bkR (EJ.skR (EJ.bkR (EJ.skR (EJ.skR (EJ.bkR (EJ.skR (EJ.skR (?_))))))))))))
                          first | (obtain rfl := Option.some.inj H; have H := K22) | (obtain ⟨q22, H2, e22⟩ := pbind H; obtain rfl := Option.some.inj e22; obtain rfl := Option.some.inj K22; have H := H2)
                          first | (obtain rfl := Option.some.inj H; have H := K18) | (obtain ⟨q18, H2, e18⟩ := pbind H; obtain rfl := Option.some.inj e18; obtain rfl := Option.some.inj K18; have H := H2)
                          first | (obtain rfl := Option.some.inj H; have H := K6) | (obtain ⟨q6, H2, e6⟩ := pbind H; obtain rfl := Option.some.inj e6; obtain rfl := Option.some.inj K6; have H := H2)
                          obtain rfl := Option.some.inj H
                          exact EJ.fin rfl (.tmp rfl .nil) ⟨rfl, hS.ext⟩
                        · replace H := pif_f (of_decide_eq_false hb) H
                          refine DJ.pures tU_ok 6 rfl ?_
                          obtain ⟨t14, ht14, H⟩ := pbind H
                          refine DJ.callF rfl rfl rfl rfl rfl rfl rfl hb46 rfl (spec_l06Are.c _ Aa0_0 ca0_0 Aa0_1 ca0_1 Aa0_2 ca0_2 a0 (hS.rd' (i := 0) rfl) (hS.le' (i := 0) rfl) (hS.rd' (i := 1) rfl) (hS.le' (i := 1) rfl) (hS.rd' (i := 2) rfl) (hS.le' (i := 2) rfl) pa0 (hS.ca (i := 3) rfl) y2 y11 _ ht14) (by rintro v w' ⟨rfl, hs⟩; exact hs) ?_
                          rintro _ w1 ⟨rfl, hs⟩
                          replace hS := hS.grow hs
                          obtain ⟨t15, ht15, H⟩ := pbind H
                          refine DJ.callF rfl rfl rfl rfl rfl rfl rfl hb46 rfl (spec_l06Are.c _ Aa0_0 ca0_0 Aa0_1 ca0_1 Aa0_2 ca0_2 a0 (hS.rd' (i := 0) rfl) (hS.le' (i := 0) rfl) (hS.rd' (i := 1) rfl) (hS.le' (i := 1) rfl) (hS.rd' (i := 2) rfl) (hS.le' (i := 2) rfl) pa0 (hS.ca (i := 3) rfl) y11 y2 _ ht15) (by rintro v w' ⟨rfl, hs⟩; exact hs) ?_
                          rintro _ w1 ⟨rfl, hs⟩
                          replace hS := hS.grow hs
                          refine DJ.st rfl rfl rfl rfl rfl (SR.neB tU_ok rfl rfl rfl rfl) ?_
                          refine DJ.pures tU_ok 1 rfl ?_
                          refine DJ.nil (EJ.next ?_)
                          refine CJ.cond rfl (fun hb => ?_) (fun hb => ?_)
                          · replace H := pif_t (of_decide_eq_true hb) H
                            refine CJ.seq ?_
                            refine CJ.region ?_
                            refine OJ.pures tU_ok 1 rfl ?_
                            refine OJ.nil (EJ.next ?_)
                            refine CJ.ret (EJ.bkR (EJ.skR (EJ.skR (EJ.bkR (EJ.skR (EJ.bkR (EJ.skR (EJ.skR (EJ.bkR (EJ.skR (EJ.skR (?_))))))))))))
                            first | (obtain rfl := Option.some.inj H; have H := K22) | (obtain ⟨q22, H2, e22⟩ := pbind H; obtain rfl := Option.some.inj e22; obtain rfl := Option.some.inj K22; have H := H2)
                            first | (obtain rfl := Option.some.inj H; have H := K18) | (obtain ⟨q18, H2, e18⟩ := pbind H; obtain rfl := Option.some.inj e18; obtain rfl := Option.some.inj K18; have H := H2)
                            first | (obtain rfl := Option.some.inj H; have H := K6) | (obtain ⟨q6, H2, e6⟩ := pbind H; obtain rfl := Option.some.inj e6; obtain rfl := Option.some.inj K6; have H := H2)
                            obtain rfl := Option.some.inj H
                            exact EJ.fin rfl (.tmp rfl .nil) ⟨rfl, hS.ext⟩
                          · replace H := pif_f (of_decide_eq_false hb) H
                            refine CJ.skip (EJ.blk (EJ.next ?_))
                            refine CJ.region ?_
                            refine OJ.pures tU_ok 3 rfl ?_
                            refine OJ.nil ?_
                            exact EJ.round k (F' := [(0, .pointer (some pa0)), (3, .int .i64 (a0.Names.length : Int)), (4, .int .i64 y2), (5, .int .i64 (IntKind.i64.wrap (y11 + 1)))]) ⟨rfl, rfl, rfl, rfl, trivial⟩ (Nat.lt_succ_self _) ⟨(IntKind.i64.wrap (y11 + 1)), rfl, hS.pick [] [0, 1, 2, 3] rfl, H⟩
                      · replace H := pif_f (of_decide_eq_false hb) H
                        refine CJ.exit (EJ.skE (EJ.skE (EJ.hit (?_))))
                        exact EJ.meet (F' := [(0, .pointer (some pa0)), (3, .int .i64 (a0.Names.length : Int)), (4, .int .i64 y2)]) ⟨rfl, rfl, rfl, trivial⟩ ⟨H, rfl, hS.pick [] [0, 1, 2, 3] rfl⟩
                  · rintro F w1 ⟨he, rfl, hS⟩
                    obtain rfl := Option.some.inj he
                    have H := K22
                    refine EJ.blk (?_)
                    exact EJ.meet (F' := [(0, .pointer (some pa0)), (3, .int .i64 (a0.Names.length : Int)), (4, .int .i64 y2)]) ⟨rfl, rfl, rfl, trivial⟩ ⟨H, rfl, hS.pick [] [0, 1, 2, 3] rfl⟩
            · rintro F w1 ⟨he, rfl, hS⟩
              obtain rfl := Option.some.inj he
              have H := K18
              refine CJ.region ?_
              refine OJ.pures tU_ok 3 rfl ?_
              refine OJ.nil ?_
              exact EJ.round k (F' := [(0, .pointer (some pa0)), (3, .int .i64 (a0.Names.length : Int)), (4, .int .i64 (IntKind.i64.wrap (y2 + 1)))]) ⟨rfl, rfl, rfl, trivial⟩ (Nat.lt_succ_self _) ⟨(IntKind.i64.wrap (y2 + 1)), rfl, hS.pick [] [0, 1, 2, 3] rfl, H⟩
          · replace H := pif_f (of_decide_eq_false hb) H
            refine CJ.exit (EJ.skE (EJ.skE (EJ.hit (?_))))
            exact EJ.meet (F' := []) trivial ⟨H, rfl, hS.pick [] [0, 1, 2, 3] rfl⟩
      · rintro F w1 ⟨he, rfl, hS⟩
        obtain rfl := Option.some.inj he
        have H := K6
        refine EJ.next ?_
        refine CJ.seq ?_
        refine CJ.region ?_
        refine OJ.pures tU_ok 1 rfl ?_
        refine OJ.nil (EJ.next ?_)
        refine CJ.ret (?_)
        obtain rfl := Option.some.inj H
        exact EJ.fin rfl (.tmp rfl .nil) ⟨rfl, hS.ext⟩

def spec_l06Less.l1 (a0 : List Int) (a1 : List Int) : Nat → Int → Option (Bool ⊕ Unit)
  | 0, _ => none
  | k + 1, y1 => if y1 < (a0.length : Int) then ((getI a0 y1).bind fun t2 => (getI a1 y1).bind fun t3 => if t2 ≠ t3 then ((getI a0 y1).bind fun t4 => (getI a1 y1).bind fun t5 => some (Sum.inl (decide (t4 < t5)))) else (spec_l06Less.l1 a0 a1 k (IntKind.i64.wrap (y1 + 1)))) else (some (Sum.inr ()))
def spec_l06Less.f (k : Nat) (a0 : List Int) (a1 : List Int) : Option Bool := (spec_l06Less.l1 a0 a1 k 0).bind fun s38 => match s38 with | .inl r => some r | .inr _ => some false
theorem spec_l06Less.c (k : Nat) (w : World) (Aa0 : Option Addr) (ca0 : Nat) (a0 : List Int) (hr0 : Rd (ci .i64) w Aa0 a0) (hc0 : a0.length ≤ ca0) (Aa1 : Option Addr) (ca1 : Nat) (a1 : List Int) (hr1 : Rd (ci .i64) w Aa1 a1) (hc1 : a1.length ≤ ca1) (r : Bool) (H : spec_l06Less.f k a0 a1 = some r) :
    CV Tryd.prog 47 [.slice Aa0 a0.length ca0, .slice Aa1 a1.length ca1].toArray w fun v w' => v = .bool r ∧ Ext w w' := by
  have hS := (((St.init w no).param (ci .i64) Aa0 ca0 a0 hr0 hc0).param (ci .i64) Aa1 ca1 a1 hr1 hc1)
  unfold spec_l06Less.f at H
  refine CV.body Tryd.func47 rfl Tryd.ntmps47 rfl ?_
  refine CJ.seq ?_
  refine CJ.region ?_
  refine OJ.pures tU_ok 1 rfl ?_
  refine OJ.nil (EJ.next ?_)
  refine CJ.seq ?_
  refine CJ.seq ?_
  refine CJ.region ?_
  refine OJ.pures tU_ok 1 rfl ?_
  refine OJ.nil (EJ.next ?_)
  obtain ⟨j38, H, K38⟩ := pbind H
  refine CJ.cut1 (fun F w1 => (some (Sum.inr ()) : Option (Bool ⊕ Unit)) = some j38 ∧ F = [] ∧ St w no w1 [] [roC (ci .i64) Aa0 ca0 a0, roC (ci .i64) Aa1 ca1 a1]) ?_ ?_
  · skip
    refine CJ.block ?_
    refine CJ.loop (fun k F w1 => ∃ (y1 : Int), F = [(0, .slice Aa0 a0.length ca0), (1, .slice Aa1 a1.length ca1), (5, .int .i64 y1)] ∧ St w no w1 [] [roC (ci .i64) Aa0 ca0 a0, roC (ci .i64) Aa1 ca1 a1] ∧ spec_l06Less.l1 a0 a1 k y1 = some j38) k (F' := [(0, .slice Aa0 a0.length ca0), (1, .slice Aa1 a1.length ca1), (5, .int .i64 0)]) ⟨rfl, rfl, rfl, trivial⟩ ⟨0, rfl, hS.pick [] [0, 1] rfl, H⟩ ?_
    rintro k F w1 ⟨y1, rfl, hS, H⟩
    cases k with
    | zero => rw [spec_l06Less.l1] at H; cases H
    | succ k =>
      rw [spec_l06Less.l1] at H
      refine CJ.seq ?_
      refine CJ.seq ?_
      refine CJ.region ?_
      refine OJ.pures tU_ok 4 rfl ?_
      refine OJ.nil (EJ.next ?_)
      refine CJ.cond rfl (fun hb => ?_) (fun hb => ?_)
      · replace H := pif_t (of_decide_eq_true hb) H
        refine CJ.skip (EJ.next ?_)
        refine CJ.seq ?_
        refine CJ.block ?_
        refine CJ.seq ?_
        refine CJ.draw [] [0, 1, 2, 3, 4, 5, 6, 7, 8] mixed (by kernel_rfl) hS fun w1 hS => ?_
        refine DJ.pures tU_ok 2 rfl ?_
        obtain ⟨t2, ht2, H⟩ := pbind H
        obtain ⟨ad2, e2⟩ := (hS.rd' (i := 0) rfl).some' ht2
        refine DJ.st rfl rfl rfl rfl rfl (SR.idxS tU_ok tI_ok rfl rfl rfl rfl e2 rfl (getI_some ht2).1) ?_
        refine DJ.st rfl rfl rfl rfl rfl (SR.load rfl rfl (fun w' hx => ld1 tU_ok rfl rfl (CA.ext ((hS.rd' (i := 0) rfl).at_ e2 ht2) hx) rfl)) ?_
        refine DJ.pures tU_ok 2 rfl ?_
        obtain ⟨t3, ht3, H⟩ := pbind H
        obtain ⟨ad3, e3⟩ := (hS.rd' (i := 1) rfl).some' ht3
        refine DJ.st rfl rfl rfl rfl rfl (SR.idxS tU_ok tI_ok rfl rfl rfl rfl e3 rfl (getI_some ht3).1) ?_
        refine DJ.st rfl rfl rfl rfl rfl (SR.load rfl rfl (fun w' hx => ld1 tU_ok rfl rfl (CA.ext ((hS.rd' (i := 1) rfl).at_ e3 ht3) hx) rfl)) ?_
        refine DJ.pures tU_ok 1 rfl ?_
        refine DJ.nil (EJ.next ?_)
        refine CJ.cond rfl (fun hb => ?_) (fun hb => ?_)
        · replace H := pif_t (of_decide_eq_true hb) H
          refine CJ.seq ?_
          refine CJ.draw [] [0, 1, 2, 3, 4, 5, 6, 7, 8, 9] mixed (by kernel_rfl) hS fun w1 hS => ?_
          refine DJ.pures tU_ok 2 rfl ?_
          obtain ⟨t4, ht4, H⟩ := pbind H
          obtain ⟨ad4, e4⟩ := (hS.rd' (i := 0) rfl).some' ht4
          refine DJ.st rfl rfl rfl rfl rfl (SR.idxS tU_ok tI_ok rfl rfl rfl rfl e4 rfl (getI_some ht4).1) ?_
          refine DJ.st rfl rfl rfl rfl rfl (SR.load rfl rfl (fun w' hx => ld1 tU_ok rfl rfl (CA.ext ((hS.rd' (i := 0) rfl).at_ e4 ht4) hx) rfl)) ?_
          refine DJ.pures tU_ok 2 rfl ?_
          obtain ⟨t5, ht5, H⟩ := pbind H
          obtain ⟨ad5, e5⟩ := (hS.rd' (i := 1) rfl).some' ht5
          refine DJ.st rfl rfl rfl rfl rfl (SR.idxS tU_ok tI_ok rfl rfl rfl rfl e5 rfl (getI_some ht5).1) ?_
          refine DJ.st rfl rfl rfl rfl rfl (SR.load rfl rfl (fun w' hx => ld1 tU_ok rfl rfl (CA.ext ((hS.rd' (i := 1) rfl).at_ e5 ht5) hx) rfl)) ?_
          refine DJ.pures tU_ok 2 rfl ?_
          refine DJ.nil (EJ.next ?_)
          refine CJ.ret (EJ.bkR (EJ.skR (EJ.skR (EJ.bkR (EJ.skR (EJ.skR (?_)))))))
          first | (obtain rfl := Option.some.inj H; have H := K38) | (obtain ⟨q38, H2, e38⟩ := pbind H; obtain rfl := Option.some.inj e38; obtain rfl := Option.some.inj K38; have H := H2)
          obtain rfl := Option.some.inj H
          exact EJ.fin rfl (.tmp rfl .nil) ⟨rfl, hS.ext⟩
        · replace H := pif_f (of_decide_eq_false hb) H
          refine CJ.skip (EJ.blk (EJ.next ?_))
          refine CJ.region ?_
          refine OJ.pures tU_ok 3 rfl ?_
          refine OJ.nil ?_
          exact EJ.round k (F' := [(0, .slice Aa0 a0.length ca0), (1, .slice Aa1 a1.length ca1), (5, .int .i64 (IntKind.i64.wrap (y1 + 1)))]) ⟨rfl, rfl, rfl, trivial⟩ (Nat.lt_succ_self _) ⟨(IntKind.i64.wrap (y1 + 1)), rfl, hS.pick [] [0, 1] rfl, H⟩
      · replace H := pif_f (of_decide_eq_false hb) H
        refine CJ.exit (EJ.skE (EJ.skE (EJ.hit (?_))))
        exact EJ.meet (F' := []) trivial ⟨H, rfl, hS.pick [] [0, 1] rfl⟩
  · rintro F w1 ⟨he, rfl, hS⟩
    obtain rfl := Option.some.inj he
    have H := K38
    refine EJ.next ?_
    refine CJ.seq ?_
    refine CJ.region ?_
    refine OJ.pures tU_ok 1 rfl ?_
    refine OJ.nil (EJ.next ?_)
    refine CJ.ret (?_)
    obtain rfl := Option.some.inj H
    exact EJ.fin rfl (.tmp rfl .nil) ⟨rfl, hS.ext⟩

def spec_l06Largest.l3 (a0 : Herd) (a1 : Bool) (y18 : List Int) (y22 : Int) : Nat → Bool → Int → Option Bool
  | 0, _, _ => none
  | k + 1, y30, y31 => if y31 < (y18.length : Int) then (if y30 = true then ((getI y18 y31).bind fun t32 => (spec_l06Are.f a0 y22 t32).bind fun t33 => spec_l06Largest.l3 a0 a1 y18 y22 k (decide (t33 = a1)) (IntKind.i64.wrap (y31 + 1))) else (spec_l06Largest.l3 a0 a1 y18 y22 k false (IntKind.i64.wrap (y31 + 1)))) else (some y30)
def spec_l06Largest.l2 (a0 : Herd) (a1 : Bool) (y8 : Int) : Nat → (List Int) → Bool → Int → Option ((List Int) × Bool)
  | 0, _, _, _ => none
  | k + 1, y18, y21, y22 => (if y22 < (a0.Names.length : Int) then (some y21) else (some false)).bind fun y23 => if y23 = true then (((chk (0 ≤ (IntKind.u64.wrap y22))).bind fun u28 => if (Int.tmod (shrI .i64 y8 (IntKind.u64.wrap y22)) 2) = 0 then (some (y18, y21)) else ((spec_l06Largest.l3 a0 a1 y18 y22 k y21 0).bind fun y29 => (chk (y18.length + ([y22] : List Int).length ≤ 4294967296)).bind fun u35 => some (y18 ++ ([y22] : List Int), y29))).bind fun (y24, y27) => spec_l06Largest.l2 a0 a1 y8 k y24 y27 (IntKind.i64.wrap (y22 + 1))) else (some (y18, y21))
def spec_l06Largest.l1 (a0 : Herd) (a1 : Bool) : Nat → (List Int) → Int → Option (List Int)
  | 0, _, _ => none
  | k + 1, y5, y8 => (chk (0 ≤ (IntKind.u64.wrap (a0.Names.length : Int)))).bind fun u9 => if y8 < (shlI .i64 1 (IntKind.u64.wrap (a0.Names.length : Int))) then (((spec_l06Largest.l2 a0 a1 y8 k ([] : List Int) true 0).bind fun (y14, y17) => if y17 = true then (if (y5.length : Int) < (y14.length : Int) then (some y14) else (if (y14.length : Int) = (y5.length : Int) then ((spec_l06Less.f k y14 y5).bind fun t38 => if t38 = true then (some y14) else (some y5)) else (some y5))) else (some y5)).bind fun y10 => spec_l06Largest.l1 a0 a1 k y10 (IntKind.i64.wrap (y8 + 1))) else (some y5)
def spec_l06Largest.f (k : Nat) (a0 : Herd) (a1 : Bool) : Option (List Int) := (spec_l06Largest.l1 a0 a1 k ([] : List Int) 0).bind fun y2 => some y2
theorem spec_l06Largest.c (k : Nat) (w : World) (Aa0_0 : Option Addr) (ca0_0 : Nat) (Aa0_1 : Option Addr) (ca0_1 : Nat) (Aa0_2 : Option Addr) (ca0_2 : Nat) (a0 : Herd) (hr0_0 : Rd G.cs w Aa0_0 a0.Names) (hc0_0 : a0.Names.length ≤ ca0_0) (hr0_1 : Rd (ci .i16) w Aa0_1 a0.Eats) (hc0_1 : a0.Eats.length ≤ ca0_1) (hr0_2 : Rd (ci .u16) w Aa0_2 a0.Foes) (hc0_2 : a0.Foes.length ≤ ca0_2) (pa0 : Addr) (hp0 : CA w pa0 ([.slice Aa0_0 a0.Names.length ca0_0, .slice Aa0_1 a0.Eats.length ca0_1, .slice Aa0_2 a0.Foes.length ca0_2])) (a1 : Bool) (r : List Int) (H : spec_l06Largest.f k a0 a1 = some r) :
    CV Tryd.prog 21 [.pointer (some pa0), .bool a1].toArray w fun v w' => ∃ (A0 : Option Addr) (c0 : Nat), v = .slice A0 r.length c0 ∧ St w no w' [rowC (ci .i64) A0 c0 2 r] [] := by
  have hS := (((((St.init w no).param G.cs Aa0_0 ca0_0 a0.Names hr0_0 hc0_0).param (ci .i16) Aa0_1 ca0_1 a0.Eats hr0_1 hc0_1).param (ci .u16) Aa0_2 ca0_2 a0.Foes hr0_2 hc0_2).paramP pa0 ([.slice Aa0_0 a0.Names.length ca0_0, .slice Aa0_1 a0.Eats.length ca0_1, .slice Aa0_2 a0.Foes.length ca0_2]) hp0)
  unfold spec_l06Largest.f at H
  refine CV.body Tryd.func21 rfl Tryd.ntmps21 rfl ?_
  refine CJ.seq ?_
  refine CJ.region ?_
  refine OJ.pures tU_ok 1 rfl ?_
  refine OJ.nil (EJ.next ?_)
  refine CJ.seq ?_
  refine CJ.region ?_
  refine OJ.ef rfl rfl rfl (Ef.lit tU_ok tI_ok hS (C := (ci .i64)) rfl rfl rfl rfl rfl rfl ([] : List Int) rfl rfl rfl rfl) ?_
  rintro _ w1 ⟨A1, rfl, hS⟩
  refine OJ.pures tU_ok 1 rfl ?_
  refine OJ.nil (EJ.next ?_)
  refine CJ.seq ?_
  refine CJ.seq ?_
  refine CJ.region ?_
  refine OJ.pures tU_ok 1 rfl ?_
  refine OJ.nil (EJ.next ?_)
  obtain ⟨j23, H, K23⟩ := pbind H
  refine CJ.cut1 (fun F w1 => ∃ (y2 : List Int) (A3 : Option Addr) (c4 : Nat), (some y2 : Option (List Int)) = some j23 ∧ F = [(5, .slice A3 y2.length c4)] ∧ St w no w1 [rowC (ci .i64) A3 c4 2 y2] [roC G.cs Aa0_0 ca0_0 a0.Names, roC (ci .i16) Aa0_1 ca0_1 a0.Eats, roC (ci .u16) Aa0_2 ca0_2 a0.Foes, roP pa0 ([.slice Aa0_0 a0.Names.length ca0_0, .slice Aa0_1 a0.Eats.length ca0_1, .slice Aa0_2 a0.Foes.length ca0_2])]) ?_ ?_
  · skip
    refine CJ.block ?_
    refine CJ.loop (fun k F w1 => ∃ (y5 : List Int) (y8 : Int) (A6 : Option Addr) (c7 : Nat), F = [(0, .pointer (some pa0)), (1, .bool a1), (5, .slice A6 y5.length c7), (6, .int .i64 y8)] ∧ St w no w1 [rowC (ci .i64) A6 c7 2 y5] [roC G.cs Aa0_0 ca0_0 a0.Names, roC (ci .i16) Aa0_1 ca0_1 a0.Eats, roC (ci .u16) Aa0_2 ca0_2 a0.Foes, roP pa0 ([.slice Aa0_0 a0.Names.length ca0_0, .slice Aa0_1 a0.Eats.length ca0_1, .slice Aa0_2 a0.Foes.length ca0_2])] ∧ spec_l06Largest.l1 a0 a1 k y5 y8 = some j23) k (F' := [(0, .pointer (some pa0)), (1, .bool a1), (5, .slice A1 ([] : List Int).length (([] : List Int).length)), (6, .int .i64 0)]) ⟨rfl, rfl, rfl, rfl, trivial⟩ ⟨([] : List Int), 0, A1, (([] : List Int).length), rfl, hS.pick [0] [0, 1, 2, 3] rfl, H⟩ ?_
    rintro k F w1 ⟨y5, y8, A6, c7, rfl, hS, H⟩
    cases k with
    | zero => rw [spec_l06Largest.l1] at H; cases H
    | succ k =>
      rw [spec_l06Largest.l1] at H
      refine CJ.seq ?_
      refine CJ.seq ?_
      refine CJ.region ?_
      refine OJ.pures tU_ok 3 rfl ?_
      refine OJ.st rfl rfl rfl (SR.fieldAddr tU_ok tI_ok rfl rfl rfl rfl rfl rfl) ?_
      refine OJ.st rfl rfl rfl (SR.load rfl rfl (fun w' hx => ld1 tU_ok rfl rfl (CA.ext (CA.sub (hS.ca (i := 3) rfl) 0) hx) rfl)) ?_
      refine OJ.pures tU_ok 2 rfl ?_
      obtain ⟨u9, hu9, H⟩ := pbind H
      refine OJ.st rfl rfl rfl (SR.shl rfl rfl rfl (chk_some hu9)) ?_
      refine OJ.pures tU_ok 1 rfl ?_
      refine OJ.nil (EJ.next ?_)
      refine CJ.cond rfl (fun hb => ?_) (fun hb => ?_)
      · replace H := pif_t (of_decide_eq_true hb) H
        refine CJ.skip (EJ.next ?_)
        obtain ⟨j79, H, K79⟩ := pbind H
        refine CJ.cut (fun F w1 => ∃ (y10 : List Int) (A11 : Option Addr) (c12 : Nat), (some y10 : Option (List Int)) = some j79 ∧ F = [(0, .pointer (some pa0)), (1, .bool a1), (5, .slice A11 y10.length c12), (6, .int .i64 y8)] ∧ St w no w1 [rowC (ci .i64) A11 c12 2 y10] [roC G.cs Aa0_0 ca0_0 a0.Names, roC (ci .i16) Aa0_1 ca0_1 a0.Eats, roC (ci .u16) Aa0_2 ca0_2 a0.Foes, roP pa0 ([.slice Aa0_0 a0.Names.length ca0_0, .slice Aa0_1 a0.Eats.length ca0_1, .slice Aa0_2 a0.Foes.length ca0_2])]) ?_ ?_
        · skip
          refine CJ.block ?_
          refine CJ.seq ?_
          refine CJ.region ?_
          refine OJ.ef rfl rfl rfl (Ef.lit tU_ok tI_ok hS (C := (ci .i64)) rfl rfl rfl rfl rfl rfl ([] : List Int) rfl rfl rfl rfl) ?_
          rintro _ w1 ⟨A13, rfl, hS⟩
          refine OJ.pures tU_ok 1 rfl ?_
          refine OJ.nil (EJ.next ?_)
          refine CJ.seq ?_
          refine CJ.region ?_
          refine OJ.pures tU_ok 1 rfl ?_
          refine OJ.nil (EJ.next ?_)
          refine CJ.seq ?_
          refine CJ.seq ?_
          refine CJ.region ?_
          refine OJ.pures tU_ok 1 rfl ?_
          refine OJ.nil (EJ.next ?_)
          obtain ⟨j93, H, K93⟩ := pbind H
          refine CJ.cut1 (fun F w1 => ∃ (y14 : List Int) (y17 : Bool) (A15 : Option Addr) (c16 : Nat), (some (y14, y17) : Option ((List Int) × Bool)) = some j93 ∧ F = [(0, .pointer (some pa0)), (1, .bool a1), (5, .slice A6 y5.length c7), (6, .int .i64 y8), (7, .slice A15 y14.length c16), (8, .bool y17)] ∧ St w no w1 [rowC (ci .i64) A6 c7 2 y5, rowC (ci .i64) A15 c16 2 y14] [roC G.cs Aa0_0 ca0_0 a0.Names, roC (ci .i16) Aa0_1 ca0_1 a0.Eats, roC (ci .u16) Aa0_2 ca0_2 a0.Foes, roP pa0 ([.slice Aa0_0 a0.Names.length ca0_0, .slice Aa0_1 a0.Eats.length ca0_1, .slice Aa0_2 a0.Foes.length ca0_2])]) ?_ ?_
          · skip
            refine CJ.block ?_
            refine CJ.loop (fun k F w1 => ∃ (y18 : List Int) (y21 : Bool) (y22 : Int) (A19 : Option Addr) (c20 : Nat), F = [(0, .pointer (some pa0)), (1, .bool a1), (5, .slice A6 y5.length c7), (6, .int .i64 y8), (7, .slice A19 y18.length c20), (8, .bool y21), (9, .int .i64 y22)] ∧ St w no w1 [rowC (ci .i64) A6 c7 2 y5, rowC (ci .i64) A19 c20 2 y18] [roC G.cs Aa0_0 ca0_0 a0.Names, roC (ci .i16) Aa0_1 ca0_1 a0.Eats, roC (ci .u16) Aa0_2 ca0_2 a0.Foes, roP pa0 ([.slice Aa0_0 a0.Names.length ca0_0, .slice Aa0_1 a0.Eats.length ca0_1, .slice Aa0_2 a0.Foes.length ca0_2])] ∧ spec_l06Largest.l2 a0 a1 y8 k y18 y21 y22 = some j93) k (F' := [(0, .pointer (some pa0)), (1, .bool a1), (5, .slice A6 y5.length c7), (6, .int .i64 y8), (7, .slice A13 ([] : List Int).length (([] : List Int).length)), (8, .bool true), (9, .int .i64 0)]) ⟨rfl, rfl, rfl, rfl, rfl, rfl, rfl, trivial⟩ ⟨([] : List Int), true, 0, A13, (([] : List Int).length), rfl, hS.pick [0, 1] [0, 1, 2, 3] rfl, H⟩ ?_
            rintro k F w1 ⟨y18, y21, y22, A19, c20, rfl, hS, H⟩
            cases k with
            | zero => rw [spec_l06Largest.l2] at H; cases H
            | succ k =>
              rw [spec_l06Largest.l2] at H
              refine CJ.seq ?_
              obtain ⟨j102, H, K102⟩ := pbind H
              refine CJ.cut (fun F w1 => ∃ (y23 : Bool) , (some y23 : Option Bool) = some j102 ∧ F = [(0, .pointer (some pa0)), (1, .bool a1), (5, .slice A6 y5.length c7), (6, .int .i64 y8), (7, .slice A19 y18.length c20), (8, .bool y21), (9, .int .i64 y22), (33, .bool y23)] ∧ St w no w1 [rowC (ci .i64) A6 c7 2 y5, rowC (ci .i64) A19 c20 2 y18] [roC G.cs Aa0_0 ca0_0 a0.Names, roC (ci .i16) Aa0_1 ca0_1 a0.Eats, roC (ci .u16) Aa0_2 ca0_2 a0.Foes, roP pa0 ([.slice Aa0_0 a0.Names.length ca0_0, .slice Aa0_1 a0.Eats.length ca0_1, .slice Aa0_2 a0.Foes.length ca0_2])]) ?_ ?_
              · skip
                refine CJ.region ?_
                refine OJ.pures tU_ok 3 rfl ?_
                refine OJ.st rfl rfl rfl (SR.fieldAddr tU_ok tI_ok rfl rfl rfl rfl rfl rfl) ?_
                refine OJ.st rfl rfl rfl (SR.load rfl rfl (fun w' hx => ld1 tU_ok rfl rfl (CA.ext (CA.sub (hS.ca (i := 3) rfl) 0) hx) rfl)) ?_
                refine OJ.pures tU_ok 3 rfl ?_
                refine OJ.split (t := 31) rfl (fun hb => ?_) (fun hb => ?_)
                · replace H := pif_t (of_decide_eq_true hb) H
                  refine OJ.pures tU_ok 2 rfl ?_
                  refine OJ.nil ?_
                  exact EJ.meet (F' := [(0, .pointer (some pa0)), (1, .bool a1), (5, .slice A6 y5.length c7), (6, .int .i64 y8), (7, .slice A19 y18.length c20), (8, .bool y21), (9, .int .i64 y22), (33, .bool y21)]) ⟨rfl, rfl, rfl, rfl, rfl, rfl, rfl, rfl, trivial⟩ ⟨y21, H, rfl, hS.pick [0, 1] [0, 1, 2, 3] rfl⟩
                · replace H := pif_f (of_decide_eq_false hb) H
                  refine OJ.pures tU_ok 2 rfl ?_
                  refine OJ.nil ?_
                  exact EJ.meet (F' := [(0, .pointer (some pa0)), (1, .bool a1), (5, .slice A6 y5.length c7), (6, .int .i64 y8), (7, .slice A19 y18.length c20), (8, .bool y21), (9, .int .i64 y22), (33, .bool false)]) ⟨rfl, rfl, rfl, rfl, rfl, rfl, rfl, rfl, trivial⟩ ⟨false, H, rfl, hS.pick [0, 1] [0, 1, 2, 3] rfl⟩
              · rintro F w1 ⟨y23, he, rfl, hS⟩
                obtain rfl := Option.some.inj he
                have H := K102
                refine CJ.cond rfl (fun hb => ?_) (fun hb => ?_)
                · replace H := pif_t hb H
                  refine CJ.skip (EJ.next ?_)
                  obtain ⟨j103, H, K103⟩ := pbind H
                  refine CJ.cut (fun F w1 => ∃ (y24 : List Int) (y27 : Bool) (A25 : Option Addr) (c26 : Nat), (some (y24, y27) : Option ((List Int) × Bool)) = some j103 ∧ F = [(0, .pointer (some pa0)), (1, .bool a1), (5, .slice A6 y5.length c7), (6, .int .i64 y8), (7, .slice A25 y24.length c26), (8, .bool y27), (9, .int .i64 y22)] ∧ St w no w1 [rowC (ci .i64) A6 c7 2 y5, rowC (ci .i64) A25 c26 2 y24] [roC G.cs Aa0_0 ca0_0 a0.Names, roC (ci .i16) Aa0_1 ca0_1 a0.Eats, roC (ci .u16) Aa0_2 ca0_2 a0.Foes, roP pa0 ([.slice Aa0_0 a0.Names.length ca0_0, .slice Aa0_1 a0.Eats.length ca0_1, .slice Aa0_2 a0.Foes.length ca0_2])]) ?_ ?_
                  · skip
                    refine CJ.block ?_
                    refine CJ.seq ?_
                    refine CJ.seq ?_
                    refine CJ.region ?_
                    refine OJ.pures tU_ok 3 rfl ?_
                    obtain ⟨u28, hu28, H⟩ := pbind H
                    refine OJ.st rfl rfl rfl (SR.shr rfl rfl rfl (chk_some hu28)) ?_
                    refine OJ.st rfl rfl rfl (SR.rem rfl rfl rfl (by decide)) ?_
                    refine OJ.pures tU_ok 1 rfl ?_
                    refine OJ.nil (EJ.next ?_)
                    refine CJ.cond rfl (fun hb => ?_) (fun hb => ?_)
                    · replace H := pif_t (of_decide_eq_true hb) H
                      refine CJ.exit (EJ.skE (EJ.hit (?_)))
                      exact EJ.meet (F' := [(0, .pointer (some pa0)), (1, .bool a1), (5, .slice A6 y5.length c7), (6, .int .i64 y8), (7, .slice A19 y18.length c20), (8, .bool y21), (9, .int .i64 y22)]) ⟨rfl, rfl, rfl, rfl, rfl, rfl, rfl, trivial⟩ ⟨y18, y21, A19, c20, H, rfl, hS.pick [0, 1] [0, 1, 2, 3] rfl⟩
                    · replace H := pif_f (of_decide_eq_false hb) H
                      refine CJ.skip (EJ.next ?_)
                      refine CJ.seq ?_
                      refine CJ.seq ?_
                      refine CJ.region ?_
                      refine OJ.pures tU_ok 1 rfl ?_
                      refine OJ.nil (EJ.next ?_)
                      obtain ⟨j105, H, K105⟩ := pbind H
                      refine CJ.cut1 (fun F w1 => ∃ (y29 : Bool) , (some y29 : Option Bool) = some j105 ∧ F = [(0, .pointer (some pa0)), (1, .bool a1), (5, .slice A6 y5.length c7), (6, .int .i64 y8), (7, .slice A19 y18.length c20), (8, .bool y29), (9, .int .i64 y22)] ∧ St w no w1 [rowC (ci .i64) A6 c7 2 y5, rowC (ci .i64) A19 c20 2 y18] [roC G.cs Aa0_0 ca0_0 a0.Names, roC (ci .i16) Aa0_1 ca0_1 a0.Eats, roC (ci .u16) Aa0_2 ca0_2 a0.Foes, roP pa0 ([.slice Aa0_0 a0.Names.length ca0_0, .slice Aa0_1 a0.Eats.length ca0_1, .slice Aa0_2 a0.Foes.length ca0_2])]) ?_ ?_
                      · skip
                        refine CJ.block ?_
                        refine CJ.loop (fun k F w1 => ∃ (y30 : Bool) (y31 : Int), F = [(0, .pointer (some pa0)), (1, .bool a1), (5, .slice A6 y5.length c7), (6, .int .i64 y8), (7, .slice A19 y18.length c20), (8, .bool y30), (9, .int .i64 y22), (10, .int .i64 y31)] ∧ St w no w1 [rowC (ci .i64) A6 c7 2 y5, rowC (ci .i64) A19 c20 2 y18] [roC G.cs Aa0_0 ca0_0 a0.Names, roC (ci .i16) Aa0_1 ca0_1 a0.Eats, roC (ci .u16) Aa0_2 ca0_2 a0.Foes, roP pa0 ([.slice Aa0_0 a0.Names.length ca0_0, .slice Aa0_1 a0.Eats.length ca0_1, .slice Aa0_2 a0.Foes.length ca0_2])] ∧ spec_l06Largest.l3 a0 a1 y18 y22 k y30 y31 = some j105) k (F' := [(0, .pointer (some pa0)), (1, .bool a1), (5, .slice A6 y5.length c7), (6, .int .i64 y8), (7, .slice A19 y18.length c20), (8, .bool y21), (9, .int .i64 y22), (10, .int .i64 0)]) ⟨rfl, rfl, rfl, rfl, rfl, rfl, rfl, rfl, trivial⟩ ⟨y21, 0, rfl, hS.pick [0, 1] [0, 1, 2, 3] rfl, H⟩ ?_
                        rintro k F w1 ⟨y30, y31, rfl, hS, H⟩
                        cases k with
                        | zero => rw [spec_l06Largest.l3] at H; cases H
                        | succ k =>
                          rw [spec_l06Largest.l3] at H
                          refine CJ.seq ?_
                          refine CJ.seq ?_
                          refine CJ.region ?_
                          refine OJ.pures tU_ok 4 rfl ?_
                          refine OJ.nil (EJ.next ?_)
                          refine CJ.cond rfl (fun hb => ?_) (fun hb => ?_)
                          · replace H := pif_t (of_decide_eq_true hb) H
                            refine CJ.skip (EJ.next ?_)
                            refine CJ.seq ?_
                            refine CJ.block ?_
                            refine CJ.region ?_
                            refine OJ.pures tU_ok 2 rfl ?_
                            refine OJ.split (t := 49) rfl (fun hb => ?_) (fun hb => ?_)
                            · replace H := pif_t hb H
                              refine OJ.pures tU_ok 4 rfl ?_
                              obtain ⟨t32, ht32, H⟩ := pbind H
                              obtain ⟨ad32, e32⟩ := (hS.rd (i := 1) rfl).some' ht32
                              refine OJ.st rfl rfl rfl (SR.idxS tU_ok tI_ok rfl rfl rfl rfl e32 rfl (getI_some ht32).1) ?_
                              refine OJ.st rfl rfl rfl (SR.load rfl rfl (fun w' hx => ld1 tU_ok rfl rfl (CA.ext ((hS.rd (i := 1) rfl).at_ e32 ht32) hx) rfl)) ?_
                              obtain ⟨t33, ht33, H⟩ := pbind H
                              refine OJ.callF rfl rfl rfl rfl rfl hb46 rfl (spec_l06Are.c _ Aa0_0 ca0_0 Aa0_1 ca0_1 Aa0_2 ca0_2 a0 (hS.rd' (i := 0) rfl) (hS.le' (i := 0) rfl) (hS.rd' (i := 1) rfl) (hS.le' (i := 1) rfl) (hS.rd' (i := 2) rfl) (hS.le' (i := 2) rfl) pa0 (hS.ca (i := 3) rfl) y22 t32 _ ht33) ?_
                              rintro _ w1 ⟨rfl, hs⟩
                              replace hS := hS.grow hs
                              refine OJ.pures tU_ok 1 rfl ?_
                              refine OJ.st rfl rfl rfl (SR.eqB tU_ok rfl rfl rfl rfl) ?_
                              refine OJ.pures tU_ok 2 rfl ?_
                              refine OJ.nil (EJ.blk (EJ.next ?_))
                              refine CJ.region ?_
                              refine OJ.pures tU_ok 3 rfl ?_
                              refine OJ.nil ?_
                              exact EJ.round k (F' := [(0, .pointer (some pa0)), (1, .bool a1), (5, .slice A6 y5.length c7), (6, .int .i64 y8), (7, .slice A19 y18.length c20), (8, .bool (decide (t33 = a1))), (9, .int .i64 y22), (10, .int .i64 (IntKind.i64.wrap (y31 + 1)))]) ⟨rfl, rfl, rfl, rfl, rfl, rfl, rfl, rfl, trivial⟩ (Nat.lt_succ_self _) ⟨(decide (t33 = a1)), (IntKind.i64.wrap (y31 + 1)), rfl, hS.pick [0, 1] [0, 1, 2, 3] rfl, H⟩
                            · replace H := pifb_f hb H
                              refine OJ.pures tU_ok 11 rfl ?_
                              refine OJ.nil (EJ.blk (EJ.next ?_))
                              refine CJ.region ?_
                              refine OJ.pures tU_ok 3 rfl ?_
                              refine OJ.nil ?_
                              exact EJ.round k (F' := [(0, .pointer (some pa0)), (1, .bool a1), (5, .slice A6 y5.length c7), (6, .int .i64 y8), (7, .slice A19 y18.length c20), (8, .bool false), (9, .int .i64 y22), (10, .int .i64 (IntKind.i64.wrap (y31 + 1)))]) ⟨rfl, rfl, rfl, rfl, rfl, rfl, rfl, rfl, trivial⟩ (Nat.lt_succ_self _) ⟨false, (IntKind.i64.wrap (y31 + 1)), rfl, hS.pick [0, 1] [0, 1, 2, 3] rfl, H⟩
                          · replace H := pif_f (of_decide_eq_false hb) H
                            refine CJ.exit (EJ.skE (EJ.skE (EJ.hit (?_))))
                            exact EJ.meet (F' := [(0, .pointer (some pa0)), (1, .bool a1), (5, .slice A6 y5.length c7), (6, .int .i64 y8), (7, .slice A19 y18.length c20), (8, .bool y30), (9, .int .i64 y22)]) ⟨rfl, rfl, rfl, rfl, rfl, rfl, rfl, trivial⟩ ⟨y30, H, rfl, hS.pick [0, 1] [0, 1, 2, 3] rfl⟩
                      · rintro F w1 ⟨y29, he, rfl, hS⟩
                        obtain rfl := Option.some.inj he
                        have H := K105
                        refine EJ.next ?_
                        refine CJ.region ?_
                        refine OJ.pures tU_ok 2 rfl ?_
                        refine OJ.ef rfl rfl rfl (Ef.lit tU_ok tI_ok hS (C := (ci .i64)) rfl rfl rfl rfl rfl rfl ([y22] : List Int) rfl rfl rfl rfl) ?_
                        rintro _ w1 ⟨A34, rfl, hS⟩
                        obtain ⟨u35, hu35, H⟩ := pbind H
                        refine OJ.ew rfl rfl rfl (Ew.append tU_ok tI_ok (C := (ci .i64)) (xs := y18) (ys := ([y22] : List Int)) hS (i := 1) rfl rfl rfl rfl rfl rfl rfl rfl rfl rfl rfl rfl rfl (hS.rd (i := 2) rfl) (chk_some hu35)) ?_
                        rintro _ w1 ⟨A36, c37, rfl, hS⟩
                        refine OJ.pures tU_ok 1 rfl ?_
                        refine OJ.nil (EJ.blk (?_))
                        exact EJ.meet (F' := [(0, .pointer (some pa0)), (1, .bool a1), (5, .slice A6 y5.length c7), (6, .int .i64 y8), (7, .slice A36 (y18 ++ ([y22] : List Int)).length c37), (8, .bool y29), (9, .int .i64 y22)]) ⟨rfl, rfl, rfl, rfl, rfl, rfl, rfl, trivial⟩ ⟨(y18 ++ ([y22] : List Int)), y29, A36, c37, H, rfl, hS.pick [0, 1] [0, 1, 2, 3] rfl⟩
                  · rintro F w1 ⟨y24, y27, A25, c26, he, rfl, hS⟩
                    obtain rfl := Option.some.inj he
                    have H := K103
                    refine CJ.region ?_
                    refine OJ.pures tU_ok 3 rfl ?_
                    refine OJ.nil ?_
                    exact EJ.round k (F' := [(0, .pointer (some pa0)), (1, .bool a1), (5, .slice A6 y5.length c7), (6, .int .i64 y8), (7, .slice A25 y24.length c26), (8, .bool y27), (9, .int .i64 (IntKind.i64.wrap (y22 + 1)))]) ⟨rfl, rfl, rfl, rfl, rfl, rfl, rfl, trivial⟩ (Nat.lt_succ_self _) ⟨y24, y27, (IntKind.i64.wrap (y22 + 1)), A25, c26, rfl, hS.pick [0, 1] [0, 1, 2, 3] rfl, H⟩
                · replace H := pifb_f hb H
                  refine CJ.exit (EJ.skE (EJ.skE (EJ.hit (?_))))
                  exact EJ.meet (F' := [(0, .pointer (some pa0)), (1, .bool a1), (5, .slice A6 y5.length c7), (6, .int .i64 y8), (7, .slice A19 y18.length c20), (8, .bool y21)]) ⟨rfl, rfl, rfl, rfl, rfl, rfl, trivial⟩ ⟨y18, y21, A19, c20, H, rfl, hS.pick [0, 1] [0, 1, 2, 3] rfl⟩
          · rintro F w1 ⟨y14, y17, A15, c16, he, rfl, hS⟩
            obtain rfl := Option.some.inj he
            have H := K93
            refine EJ.next ?_
            refine CJ.seq ?_
            refine CJ.region ?_
            refine OJ.pures tU_ok 2 rfl ?_
            refine OJ.split (t := 65) rfl (fun hb => ?_) (fun hb => ?_)
            · replace H := pif_t hb H
              refine OJ.pures tU_ok 6 rfl ?_
              refine OJ.split (t := 71) rfl (fun hb => ?_) (fun hb => ?_)
              · replace H := pif_t (of_decide_eq_true hb) H
                refine OJ.pures tU_ok 12 rfl ?_
                refine OJ.nil (EJ.next ?_)
                refine CJ.condT rfl ?_
                refine CJ.region ?_
                refine OJ.pures tU_ok 2 rfl ?_
                refine OJ.nil (EJ.blk (?_))
                exact EJ.meet (F' := [(0, .pointer (some pa0)), (1, .bool a1), (5, .slice A15 y14.length c16), (6, .int .i64 y8)]) ⟨rfl, rfl, rfl, rfl, trivial⟩ ⟨y14, A15, c16, H, rfl, hS.pick [1] [0, 1, 2, 3] rfl⟩
              · replace H := pif_f (of_decide_eq_false hb) H
                refine OJ.pures tU_ok 6 rfl ?_
                refine OJ.split (t := 77) rfl (fun hb => ?_) (fun hb => ?_)
                · replace H := pif_t (of_decide_eq_true hb) H
                  refine OJ.pures tU_ok 2 rfl ?_
                  obtain ⟨t38, ht38, H⟩ := pbind H
                  refine OJ.callF rfl rfl rfl rfl rfl hb47 rfl (spec_l06Less.c k _ A15 c16 y14 (hS.rd (i := 1) rfl) (hS.le (i := 1) rfl) A6 c7 y5 (hS.rd (i := 0) rfl) (hS.le (i := 0) rfl) _ ht38) ?_
                  rintro _ w1 ⟨rfl, hs⟩
                  replace hS := hS.grow hs
                  refine OJ.pures tU_ok 3 rfl ?_
                  refine OJ.nil (EJ.next ?_)
                  refine CJ.cond rfl (fun hb => ?_) (fun hb => ?_)
                  · replace H := pif_t hb H
                    refine CJ.region ?_
                    refine OJ.pures tU_ok 2 rfl ?_
                    refine OJ.nil (EJ.blk (?_))
                    exact EJ.meet (F' := [(0, .pointer (some pa0)), (1, .bool a1), (5, .slice A15 y14.length c16), (6, .int .i64 y8)]) ⟨rfl, rfl, rfl, rfl, trivial⟩ ⟨y14, A15, c16, H, rfl, hS.pick [1] [0, 1, 2, 3] rfl⟩
                  · replace H := pifb_f hb H
                    refine CJ.skip (EJ.blk (?_))
                    exact EJ.meet (F' := [(0, .pointer (some pa0)), (1, .bool a1), (5, .slice A6 y5.length c7), (6, .int .i64 y8)]) ⟨rfl, rfl, rfl, rfl, trivial⟩ ⟨y5, A6, c7, H, rfl, hS.pick [0] [0, 1, 2, 3] rfl⟩
                · replace H := pif_f (of_decide_eq_false hb) H
                  refine OJ.pures tU_ok 6 rfl ?_
                  refine OJ.nil (EJ.next ?_)
                  refine CJ.condF rfl ?_
                  refine CJ.skip (EJ.blk (?_))
                  exact EJ.meet (F' := [(0, .pointer (some pa0)), (1, .bool a1), (5, .slice A6 y5.length c7), (6, .int .i64 y8)]) ⟨rfl, rfl, rfl, rfl, trivial⟩ ⟨y5, A6, c7, H, rfl, hS.pick [0] [0, 1, 2, 3] rfl⟩
            · replace H := pifb_f hb H
              refine OJ.pures tU_ok 18 rfl ?_
              refine OJ.nil (EJ.next ?_)
              refine CJ.condF rfl ?_
              refine CJ.skip (EJ.blk (?_))
              exact EJ.meet (F' := [(0, .pointer (some pa0)), (1, .bool a1), (5, .slice A6 y5.length c7), (6, .int .i64 y8)]) ⟨rfl, rfl, rfl, rfl, trivial⟩ ⟨y5, A6, c7, H, rfl, hS.pick [0] [0, 1, 2, 3] rfl⟩
        · rintro F w1 ⟨y10, A11, c12, he, rfl, hS⟩
          obtain rfl := Option.some.inj he
          have H := K79
          refine CJ.region ?_
          refine OJ.pures tU_ok 3 rfl ?_
          refine OJ.nil ?_
          exact EJ.round k (F' := [(0, .pointer (some pa0)), (1, .bool a1), (5, .slice A11 y10.length c12), (6, .int .i64 (IntKind.i64.wrap (y8 + 1)))]) ⟨rfl, rfl, rfl, rfl, trivial⟩ (Nat.lt_succ_self _) ⟨y10, (IntKind.i64.wrap (y8 + 1)), A11, c12, rfl, hS.pick [0] [0, 1, 2, 3] rfl, H⟩
      · replace H := pif_f (of_decide_eq_false hb) H
        refine CJ.exit (EJ.skE (EJ.skE (EJ.hit (?_))))
        exact EJ.meet (F' := [(5, .slice A6 y5.length c7)]) ⟨rfl, trivial⟩ ⟨y5, A6, c7, H, rfl, hS.pick [0] [0, 1, 2, 3] rfl⟩
  · rintro F w1 ⟨y2, A3, c4, he, rfl, hS⟩
    obtain rfl := Option.some.inj he
    have H := K23
    refine EJ.next ?_
    refine CJ.seq ?_
    refine CJ.region ?_
    refine OJ.pures tU_ok 2 rfl ?_
    refine OJ.nil (EJ.next ?_)
    refine CJ.ret (?_)
    obtain rfl := Option.some.inj H
    exact EJ.fin rfl (.tmp rfl .nil) ⟨A3, c4, rfl, hS.pick [0] [] rfl⟩

def spec_MostPeaceful.f (k : Nat) (a0 : Herd) : Option (List Int × Int) := (spec_l06Ok.f k a0).bind fun t2 => if (!t2) = true then (some (([] : List Int), 1)) else ((spec_l06Largest.f k a0 false).bind fun t4 => some (t4, 0))
theorem spec_MostPeaceful.c (k : Nat) (w : World) (Aa0_0 : Option Addr) (ca0_0 : Nat) (Aa0_1 : Option Addr) (ca0_1 : Nat) (Aa0_2 : Option Addr) (ca0_2 : Nat) (a0 : Herd) (hr0_0 : Rd G.cs w Aa0_0 a0.Names) (hc0_0 : a0.Names.length ≤ ca0_0) (hr0_1 : Rd (ci .i16) w Aa0_1 a0.Eats) (hc0_1 : a0.Eats.length ≤ ca0_1) (hr0_2 : Rd (ci .u16) w Aa0_2 a0.Foes) (hc0_2 : a0.Foes.length ≤ ca0_2) (r : List Int × Int) (H : spec_MostPeaceful.f k a0 = some r) :
    CV Tryd.prog 6 [.agg [.slice Aa0_0 a0.Names.length ca0_0, .slice Aa0_1 a0.Eats.length ca0_1, .slice Aa0_2 a0.Foes.length ca0_2].toArray].toArray w fun v w' => ∃ (A0 : Option Addr) (c0 : Nat), v = .tuple #[.slice A0 r.1.length c0, .int .i64 r.2] ∧ St w no w' [rowC (ci .i64) A0 c0 2 r.1] [] := by
  have hS := ((((St.init w no).param G.cs Aa0_0 ca0_0 a0.Names hr0_0 hc0_0).param (ci .i16) Aa0_1 ca0_1 a0.Eats hr0_1 hc0_1).param (ci .u16) Aa0_2 ca0_2 a0.Foes hr0_2 hc0_2)
  unfold spec_MostPeaceful.f at H
  refine CV.body Tryd.func6 rfl Tryd.ntmps6 rfl ?_
  refine CJ.seq ?_
  refine CJ.region ?_
  refine OJ.ef rfl rfl rfl (Ef.box hS rfl rfl ([.slice Aa0_0 a0.Names.length ca0_0, .slice Aa0_1 a0.Eats.length ca0_1, .slice Aa0_2 a0.Foes.length ca0_2]) rfl) ?_
  rintro _ w1 ⟨b1, rfl, hS⟩
  refine OJ.pures tU_ok 2 rfl ?_
  refine OJ.nil (EJ.next ?_)
  refine CJ.seq ?_
  refine CJ.seq ?_
  refine CJ.region ?_
  obtain ⟨t2, ht2, H⟩ := pbind H
  refine OJ.callF rfl rfl rfl rfl rfl hb20 rfl (spec_l06Ok.c k _ Aa0_0 ca0_0 Aa0_1 ca0_1 Aa0_2 ca0_2 a0 (hS.rd' (i := 0) rfl) (hS.le' (i := 0) rfl) (hS.rd' (i := 1) rfl) (hS.le' (i := 1) rfl) (hS.rd' (i := 2) rfl) (hS.le' (i := 2) rfl) ⟨b1, 0, none⟩ (hS.cells (i := 0) rfl) _ ht2) ?_
  rintro _ w1 ⟨rfl, hs⟩
  replace hS := hS.grow hs
  refine OJ.pures tU_ok 1 rfl ?_
  refine OJ.nil (EJ.next ?_)
  refine CJ.cond rfl (fun hb => ?_) (fun hb => ?_)
  · replace H := pif_t hb H
    refine CJ.seq ?_
    refine CJ.region ?_
    refine OJ.ef rfl rfl rfl (Ef.lit tU_ok tI_ok hS (C := (ci .i64)) rfl rfl rfl rfl rfl rfl ([] : List Int) rfl rfl rfl rfl) ?_
    rintro _ w1 ⟨A3, rfl, hS⟩
    refine OJ.pures tU_ok 2 rfl ?_
    refine OJ.nil (EJ.next ?_)
    refine CJ.ret (EJ.skR (?_))
    obtain rfl := Option.some.inj H
    exact EJ.fin rfl (.tmp rfl (.tmp rfl .nil)) ⟨A3, (([] : List Int).length), rfl, hS.pick [1] [] rfl⟩
  · replace H := pifb_f hb H
    refine CJ.skip (EJ.next ?_)
    refine CJ.seq ?_
    refine CJ.region ?_
    obtain ⟨t4, ht4, H⟩ := pbind H
    refine OJ.callF rfl rfl rfl rfl rfl hb21 rfl (spec_l06Largest.c k _ Aa0_0 ca0_0 Aa0_1 ca0_1 Aa0_2 ca0_2 a0 (hS.rd' (i := 0) rfl) (hS.le' (i := 0) rfl) (hS.rd' (i := 1) rfl) (hS.le' (i := 1) rfl) (hS.rd' (i := 2) rfl) (hS.le' (i := 2) rfl) ⟨b1, 0, none⟩ (hS.cells (i := 0) rfl) false _ ht4) ?_
    rintro _ w1 ⟨A5, c6, rfl, hs⟩
    replace hS := hS.addN hs
    refine OJ.pures tU_ok 2 rfl ?_
    refine OJ.nil (EJ.next ?_)
    refine CJ.ret (?_)
    obtain rfl := Option.some.inj H
    exact EJ.fin rfl (.tmp rfl (.tmp rfl .nil)) ⟨A5, c6, rfl, hS.pick [1] [] rfl⟩

def impl_within.f (a0 : Int) (a1 : Int) (a2 : Int) : Option Bool := if a1 ≤ a0 then (some (decide (a0 ≤ a2))) else (some false)
theorem impl_within.c (w : World) (a0 : Int) (a1 : Int) (a2 : Int) (r : Bool) (H : impl_within.f a0 a1 a2 = some r) :
    CV Tryd.prog 50 [.int .i64 a0, .int .i64 a1, .int .i64 a2].toArray w fun v w' => v = .bool r ∧ Ext w w' := by
  have hS := (St.init w no)
  unfold impl_within.f at H
  refine CV.body Tryd.func50 rfl Tryd.ntmps50 rfl ?_
  refine CJ.seq ?_
  refine CJ.region ?_
  refine OJ.pures tU_ok 1 rfl ?_
  refine OJ.nil (EJ.next ?_)
  refine CJ.seq ?_
  refine CJ.region ?_
  refine OJ.pures tU_ok 4 rfl ?_
  refine OJ.split (t := 10) rfl (fun hb => ?_) (fun hb => ?_)
  · replace H := pif_t (of_decide_eq_true hb) H
    refine OJ.pures tU_ok 5 rfl ?_
    refine OJ.nil (EJ.next ?_)
    refine CJ.ret (?_)
    obtain rfl := Option.some.inj H
    exact EJ.fin rfl (.tmp rfl .nil) ⟨rfl, hS.ext⟩
  · replace H := pif_f (of_decide_eq_false hb) H
    refine OJ.pures tU_ok 5 rfl ?_
    refine OJ.nil (EJ.next ?_)
    refine CJ.ret (?_)
    obtain rfl := Option.some.inj H
    exact EJ.fin rfl (.tmp rfl .nil) ⟨rfl, hS.ext⟩

def strings_trimRightByte.l1 (a1 : Int) : Nat → ByteArray → Option ByteArray
  | 0, _ => none
  | k + 1, y2 => if 0 < (y2.size : Int) then ((getB y2 (IntKind.i64.wrap ((y2.size : Int) - 1))).bind fun t3 => if t3 = a1 then ((chk ((0 : Int) ≤ 0 ∧ 0 ≤ (IntKind.i64.wrap ((y2.size : Int) - 1)) ∧ (IntKind.i64.wrap ((y2.size : Int) - 1)) ≤ (y2.size : Int))).bind fun u4 => strings_trimRightByte.l1 a1 k (y2.extract 0 ((IntKind.i64.wrap ((y2.size : Int) - 1)).toNat))) else (some y2)) else (some y2)
def strings_trimRightByte.f (k : Nat) (a0 : ByteArray) (a1 : Int) : Option ByteArray := (strings_trimRightByte.l1 a1 k a0).bind fun y1 => some y1
theorem strings_trimRightByte.c (k : Nat) (w : World) (a0 : ByteArray) (a1 : Int) (r : ByteArray) (H : strings_trimRightByte.f k a0 a1 = some r) :
    CV Tryd.prog 69 [.string a0, .int .u8 a1].toArray w fun v w' => v = .string r ∧ Ext w w' := by
  have hS := (St.init w no)
  unfold strings_trimRightByte.f at H
  refine CV.body Tryd.func69 rfl Tryd.ntmps69 rfl ?_
  refine CJ.seq ?_
  refine CJ.region ?_
  refine OJ.pures tU_ok 1 rfl ?_
  refine OJ.nil (EJ.next ?_)
  obtain ⟨j112, H, K112⟩ := pbind H
  refine CJ.cut (fun F w1 => ∃ (y1 : ByteArray) , (some y1 : Option ByteArray) = some j112 ∧ F = [(0, .string y1)] ∧ St w no w1 [] []) ?_ ?_
  · skip
    refine CJ.block ?_
    refine CJ.loop (fun k F w1 => ∃ (y2 : ByteArray), F = [(0, .string y2), (1, .int .u8 a1)] ∧ St w no w1 [] [] ∧ strings_trimRightByte.l1 a1 k y2 = some j112) k (F' := [(0, .string a0), (1, .int .u8 a1)]) ⟨rfl, rfl, trivial⟩ ⟨a0, rfl, hS.pick [] [] rfl, H⟩ ?_
    rintro k F w1 ⟨y2, rfl, hS, H⟩
    cases k with
    | zero => rw [strings_trimRightByte.l1] at H; cases H
    | succ k =>
      rw [strings_trimRightByte.l1] at H
      refine CJ.seq ?_
      refine CJ.seq ?_
      refine CJ.region ?_
      refine OJ.pures tU_ok 4 rfl ?_
      refine OJ.split (t := 8) rfl (fun hb => ?_) (fun hb => ?_)
      · replace H := pif_t (of_decide_eq_true hb) H
        refine OJ.pures tU_ok 4 rfl ?_
        obtain ⟨t3, ht3, H⟩ := pbind H
        refine OJ.st rfl rfl rfl (SR.idxStr tU_ok rfl rfl rfl rfl ht3) ?_
        refine OJ.pures tU_ok 3 rfl ?_
        refine OJ.nil (EJ.next ?_)
        refine CJ.cond rfl (fun hb => ?_) (fun hb => ?_)
        · replace H := pif_t (of_decide_eq_true hb) H
          refine CJ.skip (EJ.next ?_)
          refine CJ.block ?_
          refine CJ.region ?_
          refine OJ.pures tU_ok 4 rfl ?_
          obtain ⟨u4, hu4, H⟩ := pbind H
          refine OJ.st rfl rfl rfl (SR.cutStr tU_ok (0) ((IntKind.i64.wrap ((y2.size : Int) - 1)).toNat) rfl rfl rfl rfl rfl (.inl ⟨rfl, rfl⟩) (.inr ⟨_, _, rfl, (by have := (chk_some hu4); omega), rfl⟩) (by have := (chk_some hu4); omega) (by have := (chk_some hu4); omega)) ?_
          refine OJ.pures tU_ok 1 rfl ?_
          refine OJ.nil (EJ.blk (?_))
          exact EJ.round k (F' := [(0, .string (y2.extract 0 ((IntKind.i64.wrap ((y2.size : Int) - 1)).toNat))), (1, .int .u8 a1)]) ⟨rfl, rfl, trivial⟩ (Nat.lt_succ_self _) ⟨(y2.extract 0 ((IntKind.i64.wrap ((y2.size : Int) - 1)).toNat)), rfl, hS.pick [] [] rfl, H⟩
        · replace H := pif_f (of_decide_eq_false hb) H
          refine CJ.exit (EJ.skE (EJ.skE (EJ.hit (?_))))
          exact EJ.meet (F' := [(0, .string y2)]) ⟨rfl, trivial⟩ ⟨y2, H, rfl, hS.pick [] [] rfl⟩
      · replace H := pif_f (of_decide_eq_false hb) H
        refine OJ.pures tU_ok 8 rfl ?_
        refine OJ.nil (EJ.next ?_)
        refine CJ.condF rfl ?_
        refine CJ.exit (EJ.skE (EJ.skE (EJ.hit (?_))))
        exact EJ.meet (F' := [(0, .string y2)]) ⟨rfl, trivial⟩ ⟨y2, H, rfl, hS.pick [] [] rfl⟩
  · rintro F w1 ⟨y1, he, rfl, hS⟩
    obtain rfl := Option.some.inj he
    have H := K112
    refine CJ.seq ?_
    refine CJ.region ?_
    refine OJ.pures tU_ok 2 rfl ?_
    refine OJ.nil (EJ.next ?_)
    refine CJ.ret (?_)
    obtain rfl := Option.some.inj H
    exact EJ.fin rfl (.tmp rfl .nil) ⟨rfl, hS.ext⟩

def strings_trimLeftByte.l1 (a1 : Int) : Nat → ByteArray → Option ByteArray
  | 0, _ => none
  | k + 1, y2 => if 0 < (y2.size : Int) then ((getB y2 0).bind fun t3 => if t3 = a1 then ((chk ((0 : Int) ≤ 1 ∧ 1 ≤ (y2.size : Int) ∧ (y2.size : Int) ≤ (y2.size : Int))).bind fun u4 => strings_trimLeftByte.l1 a1 k (y2.extract ((1 : Int).toNat) y2.size)) else (some y2)) else (some y2)
def strings_trimLeftByte.f (k : Nat) (a0 : ByteArray) (a1 : Int) : Option ByteArray := (strings_trimLeftByte.l1 a1 k a0).bind fun y1 => some y1
theorem strings_trimLeftByte.c (k : Nat) (w : World) (a0 : ByteArray) (a1 : Int) (r : ByteArray) (H : strings_trimLeftByte.f k a0 a1 = some r) :
    CV Tryd.prog 68 [.string a0, .int .u8 a1].toArray w fun v w' => v = .string r ∧ Ext w w' := by
  have hS := (St.init w no)
  unfold strings_trimLeftByte.f at H
  refine CV.body Tryd.func68 rfl Tryd.ntmps68 rfl ?_
  refine CJ.seq ?_
  refine CJ.region ?_
  refine OJ.pures tU_ok 1 rfl ?_
  refine OJ.nil (EJ.next ?_)
  obtain ⟨j113, H, K113⟩ := pbind H
  refine CJ.cut (fun F w1 => ∃ (y1 : ByteArray) , (some y1 : Option ByteArray) = some j113 ∧ F = [(0, .string y1)] ∧ St w no w1 [] []) ?_ ?_
  · skip
    refine CJ.block ?_
    refine CJ.loop (fun k F w1 => ∃ (y2 : ByteArray), F = [(0, .string y2), (1, .int .u8 a1)] ∧ St w no w1 [] [] ∧ strings_trimLeftByte.l1 a1 k y2 = some j113) k (F' := [(0, .string a0), (1, .int .u8 a1)]) ⟨rfl, rfl, trivial⟩ ⟨a0, rfl, hS.pick [] [] rfl, H⟩ ?_
    rintro k F w1 ⟨y2, rfl, hS, H⟩
    cases k with
    | zero => rw [strings_trimLeftByte.l1] at H; cases H
    | succ k =>
      rw [strings_trimLeftByte.l1] at H
      refine CJ.seq ?_
      refine CJ.seq ?_
      refine CJ.region ?_
      refine OJ.pures tU_ok 4 rfl ?_
      refine OJ.split (t := 8) rfl (fun hb => ?_) (fun hb => ?_)
      · replace H := pif_t (of_decide_eq_true hb) H
        refine OJ.pures tU_ok 1 rfl ?_
        obtain ⟨t3, ht3, H⟩ := pbind H
        refine OJ.st rfl rfl rfl (SR.idxStr tU_ok rfl rfl rfl rfl ht3) ?_
        refine OJ.pures tU_ok 3 rfl ?_
        refine OJ.nil (EJ.next ?_)
        refine CJ.cond rfl (fun hb => ?_) (fun hb => ?_)
        · replace H := pif_t (of_decide_eq_true hb) H
          refine CJ.skip (EJ.next ?_)
          refine CJ.block ?_
          refine CJ.region ?_
          refine OJ.pures tU_ok 1 rfl ?_
          obtain ⟨u4, hu4, H⟩ := pbind H
          refine OJ.st rfl rfl rfl (SR.cutStr tU_ok ((1 : Int).toNat) (y2.size) rfl rfl rfl rfl rfl (.inr ⟨_, _, rfl, (chk_some hu4).1, rfl⟩) (.inl ⟨rfl, rfl⟩) (by have := (chk_some hu4); omega) (by have := (chk_some hu4); omega)) ?_
          refine OJ.pures tU_ok 1 rfl ?_
          refine OJ.nil (EJ.blk (?_))
          exact EJ.round k (F' := [(0, .string (y2.extract ((1 : Int).toNat) y2.size)), (1, .int .u8 a1)]) ⟨rfl, rfl, trivial⟩ (Nat.lt_succ_self _) ⟨(y2.extract ((1 : Int).toNat) y2.size), rfl, hS.pick [] [] rfl, H⟩
        · replace H := pif_f (of_decide_eq_false hb) H
          refine CJ.exit (EJ.skE (EJ.skE (EJ.hit (?_))))
          exact EJ.meet (F' := [(0, .string y2)]) ⟨rfl, trivial⟩ ⟨y2, H, rfl, hS.pick [] [] rfl⟩
      · replace H := pif_f (of_decide_eq_false hb) H
        refine OJ.pures tU_ok 5 rfl ?_
        refine OJ.nil (EJ.next ?_)
        refine CJ.condF rfl ?_
        refine CJ.exit (EJ.skE (EJ.skE (EJ.hit (?_))))
        exact EJ.meet (F' := [(0, .string y2)]) ⟨rfl, trivial⟩ ⟨y2, H, rfl, hS.pick [] [] rfl⟩
  · rintro F w1 ⟨y1, he, rfl, hS⟩
    obtain rfl := Option.some.inj he
    have H := K113
    refine CJ.seq ?_
    refine CJ.region ?_
    refine OJ.pures tU_ok 2 rfl ?_
    refine OJ.nil (EJ.next ?_)
    refine CJ.ret (?_)
    obtain rfl := Option.some.inj H
    exact EJ.fin rfl (.tmp rfl .nil) ⟨rfl, hS.ext⟩

def strings_makeASCIISet.l1 (a0 : ByteArray) : Nat → (Arr 256 Bool) → Int → Option ((Arr 256 Bool × Bool) ⊕ (Arr 256 Bool))
  | 0, _, _ => none
  | k + 1, y3, y4 => if y4 < (a0.size : Int) then ((getB a0 y4).bind fun t5 => if 128 ≤ t5 then (some (Sum.inl (y3, false))) else ((getI y3.l t5).bind fun t6 => strings_makeASCIISet.l1 a0 k (aset y3 t5.toNat true) (IntKind.i64.wrap (y4 + 1)))) else (some (Sum.inr y3))
def strings_makeASCIISet.f (k : Nat) (a0 : ByteArray) : Option (Arr 256 Bool × Bool) := (strings_makeASCIISet.l1 a0 k (Arr.mk' false : Arr 256 Bool) 0).bind fun s114 => match s114 with | .inl r => some r | .inr y2 => some (y2, true)
theorem strings_makeASCIISet.c (k : Nat) (w : World) (a0 : ByteArray) (r : Arr 256 Bool × Bool) (H : strings_makeASCIISet.f k a0 = some r) :
    CV Tryd.prog 70 [.string a0].toArray w fun v w' => v = .tuple #[.agg ((carr 256 cb).enc r.1).toArray, .bool r.2] ∧ Ext w w' := by
  have hS := (St.init w no)
  unfold strings_makeASCIISet.f at H
  refine CV.body Tryd.func70 rfl Tryd.ntmps70 rfl ?_
  refine CJ.seq ?_
  refine CJ.region ?_
  refine OJ.ef rfl rfl rfl (Ef.alloc hS tI_ok rfl rfl ((carr 256 cb).enc (Arr.mk' false : Arr 256 Bool)) (by kernel_rfl)) ?_
  rintro _ w1 ⟨b1, rfl, hS⟩
  refine OJ.pures tU_ok 1 rfl ?_
  refine OJ.nil (EJ.next ?_)
  refine CJ.seq ?_
  refine CJ.seq ?_
  refine CJ.region ?_
  refine OJ.pures tU_ok 1 rfl ?_
  refine OJ.nil (EJ.next ?_)
  obtain ⟨j114, H, K114⟩ := pbind H
  refine CJ.cut1 (fun F w1 => ∃ (y2 : Arr 256 Bool) , (some (Sum.inr y2) : Option ((Arr 256 Bool × Bool) ⊕ (Arr 256 Bool))) = some j114 ∧ F = [(2, .pointer (some ⟨b1, 0, none⟩))] ∧ St w no w1 [box b1 ((carr 256 cb).enc y2) 88] []) ?_ ?_
  · skip
    refine CJ.block ?_
    refine CJ.loop (fun k F w1 => ∃ (y3 : Arr 256 Bool) (y4 : Int), F = [(0, .string a0), (2, .pointer (some ⟨b1, 0, none⟩)), (4, .int .i64 y4)] ∧ St w no w1 [box b1 ((carr 256 cb).enc y3) 88] [] ∧ strings_makeASCIISet.l1 a0 k y3 y4 = some j114) k (F' := [(0, .string a0), (2, .pointer (some ⟨b1, 0, none⟩)), (4, .int .i64 0)]) ⟨rfl, rfl, rfl, trivial⟩ ⟨(Arr.mk' false : Arr 256 Bool), 0, rfl, hS.pick [0] [] rfl, H⟩ ?_
    rintro k F w1 ⟨y3, y4, rfl, hS, H⟩
    cases k with
    | zero => rw [strings_makeASCIISet.l1] at H; cases H
    | succ k =>
      rw [strings_makeASCIISet.l1] at H
      refine CJ.seq ?_
      refine CJ.seq ?_
      refine CJ.region ?_
      refine OJ.pures tU_ok 4 rfl ?_
      refine OJ.nil (EJ.next ?_)
      refine CJ.cond rfl (fun hb => ?_) (fun hb => ?_)
      · replace H := pif_t (of_decide_eq_true hb) H
        refine CJ.skip (EJ.next ?_)
        refine CJ.seq ?_
        refine CJ.block ?_
        refine CJ.seq ?_
        refine CJ.region ?_
        refine OJ.pures tU_ok 2 rfl ?_
        obtain ⟨t5, ht5, H⟩ := pbind H
        refine OJ.st rfl rfl rfl (SR.idxStr tU_ok rfl rfl rfl rfl ht5) ?_
        refine OJ.pures tU_ok 1 rfl ?_
        refine OJ.nil (EJ.next ?_)
        refine CJ.seq ?_
        refine CJ.seq ?_
        refine CJ.region ?_
        refine OJ.pures tU_ok 2 rfl ?_
        refine OJ.nil (EJ.next ?_)
        refine CJ.cond rfl (fun hb => ?_) (fun hb => ?_)
        · replace H := pif_t (of_decide_eq_true hb) H
          refine CJ.seq ?_
          refine CJ.region ?_
          refine OJ.st rfl rfl rfl (SR.load rfl rfl (fun w' hx => ldE tU_ok tI_ok rfl rfl rfl (CA.ext (hS.cells (i := 0) rfl) hx) rfl)) ?_
          refine OJ.es rfl rfl (Es.put tI_ok hS (i := 0) rfl rfl rfl rfl rfl (vs := (carr 256 cb).enc y3) rfl ((carr 256 cb).len _) ((carr 256 cb).one _) (Put.all (carr 256 cb) y3 y3) (by (try simp only [add_lit, Nat.add_assoc, Nat.zero_add, Nat.add_zero]) <;> rfl)) ?_
          intro w1 hS
          refine OJ.pures tU_ok 1 rfl ?_
          refine OJ.nil (EJ.next ?_)
          refine CJ.ret (EJ.skR (EJ.bkR (EJ.skR (EJ.skR (EJ.bkR (EJ.skR (EJ.skR (?_))))))))
          first | (obtain rfl := Option.some.inj H; have H := K114) | (obtain ⟨q114, H2, e114⟩ := pbind H; obtain rfl := Option.some.inj e114; obtain rfl := Option.some.inj K114; have H := H2)
          obtain rfl := Option.some.inj H
          exact EJ.fin rfl (.cell rfl (ldE tU_ok tI_ok rfl rfl rfl (hS.cells (i := 0) rfl) rfl) (.tmp rfl .nil)) ⟨rfl, hS.ext⟩
        · replace H := pif_f (of_decide_eq_false hb) H
          refine CJ.skip (EJ.next ?_)
          refine CJ.region ?_
          refine OJ.pures tU_ok 1 rfl ?_
          obtain ⟨t6, ht6, H⟩ := pbind H
          refine OJ.st rfl rfl rfl (SR.idxA tU_ok tI_ok rfl rfl rfl rfl rfl (Arr.lt ht6)) ?_
          refine OJ.es rfl rfl (Es.put tI_ok hS (i := 0) rfl rfl rfl rfl rfl (vs := cb.enc true) rfl rfl (one1 rfl) (Put.idx (Put.all cb t6 true) ht6) (by (try simp only [add_lit, Nat.add_assoc, Nat.zero_add, Nat.add_zero]) <;> rfl)) ?_
          intro w1 hS
          refine OJ.nil (EJ.blk (EJ.next ?_))
          refine CJ.region ?_
          refine OJ.pures tU_ok 3 rfl ?_
          refine OJ.nil ?_
          exact EJ.round k (F' := [(0, .string a0), (2, .pointer (some ⟨b1, 0, none⟩)), (4, .int .i64 (IntKind.i64.wrap (y4 + 1)))]) ⟨rfl, rfl, rfl, trivial⟩ (Nat.lt_succ_self _) ⟨(aset y3 t5.toNat true), (IntKind.i64.wrap (y4 + 1)), rfl, hS.pick [0] [] rfl, H⟩
      · replace H := pif_f (of_decide_eq_false hb) H
        refine CJ.exit (EJ.skE (EJ.skE (EJ.hit (?_))))
        exact EJ.meet (F' := [(2, .pointer (some ⟨b1, 0, none⟩))]) ⟨rfl, trivial⟩ ⟨y3, H, rfl, hS.pick [0] [] rfl⟩
  · rintro F w1 ⟨y2, he, rfl, hS⟩
    obtain rfl := Option.some.inj he
    have H := K114
    refine EJ.next ?_
    refine CJ.seq ?_
    refine CJ.region ?_
    refine OJ.st rfl rfl rfl (SR.load rfl rfl (fun w' hx => ldE tU_ok tI_ok rfl rfl rfl (CA.ext (hS.cells (i := 0) rfl) hx) rfl)) ?_
    refine OJ.es rfl rfl (Es.put tI_ok hS (i := 0) rfl rfl rfl rfl rfl (vs := (carr 256 cb).enc y2) rfl ((carr 256 cb).len _) ((carr 256 cb).one _) (Put.all (carr 256 cb) y2 y2) (by (try simp only [add_lit, Nat.add_assoc, Nat.zero_add, Nat.add_zero]) <;> rfl)) ?_
    intro w1 hS
    refine OJ.pures tU_ok 1 rfl ?_
    refine OJ.nil (EJ.next ?_)
    refine CJ.ret (?_)
    obtain rfl := Option.some.inj H
    exact EJ.fin rfl (.cell rfl (ldE tU_ok tI_ok rfl rfl rfl (hS.cells (i := 0) rfl) rfl) (.tmp rfl .nil)) ⟨rfl, hS.ext⟩

def strings_asciiSet_contains.f (a0 : Arr 256 Bool) (a1 : Int) : Option Bool := (getI a0.l a1).bind fun t1 => some t1
theorem strings_asciiSet_contains.c (w : World) (pa0 : Addr) (a0 : Arr 256 Bool) (hp0 : CA w pa0 ((carr 256 cb).enc a0)) (a1 : Int) (r : Bool) (H : strings_asciiSet_contains.f a0 a1 = some r) :
    CV Tryd.prog 76 [.pointer (some pa0), .int .u8 a1].toArray w fun v w' => v = .bool r ∧ Ext w w' := by
  have hS := ((St.init w no).paramP pa0 ((carr 256 cb).enc a0) hp0)
  unfold strings_asciiSet_contains.f at H
  refine CV.body Tryd.func76 rfl Tryd.ntmps76 rfl ?_
  refine CJ.seq ?_
  refine CJ.region ?_
  refine OJ.pures tU_ok 1 rfl ?_
  refine OJ.nil (EJ.next ?_)
  refine CJ.seq ?_
  refine CJ.region ?_
  refine OJ.pures tU_ok 3 rfl ?_
  obtain ⟨t1, ht1, H⟩ := pbind H
  refine OJ.st rfl rfl rfl (SR.idxA tU_ok tI_ok rfl rfl rfl rfl rfl (Arr.lt ht1)) ?_
  refine OJ.st rfl rfl rfl (SR.load rfl rfl (fun w' hx => ld1 tU_ok rfl rfl (CA.ext (CA.idx (hS.ca (i := 0) rfl) ht1) hx) rfl)) ?_
  refine OJ.pures tU_ok 1 rfl ?_
  refine OJ.nil (EJ.next ?_)
  refine CJ.ret (?_)
  obtain rfl := Option.some.inj H
  exact EJ.fin rfl (.tmp rfl .nil) ⟨rfl, hS.ext⟩

def strings_trimRightASCII.l1 (a1 : Arr 256 Bool) : Nat → ByteArray → Option ByteArray
  | 0, _ => none
  | k + 1, y2 => if 0 < (y2.size : Int) then ((getB y2 (IntKind.i64.wrap ((y2.size : Int) - 1))).bind fun t3 => (strings_asciiSet_contains.f a1 t3).bind fun t4 => if (!t4) = true then (some y2) else ((chk ((0 : Int) ≤ 0 ∧ 0 ≤ (IntKind.i64.wrap ((y2.size : Int) - 1)) ∧ (IntKind.i64.wrap ((y2.size : Int) - 1)) ≤ (y2.size : Int))).bind fun u5 => strings_trimRightASCII.l1 a1 k (y2.extract 0 ((IntKind.i64.wrap ((y2.size : Int) - 1)).toNat)))) else (some y2)
def strings_trimRightASCII.f (k : Nat) (a0 : ByteArray) (a1 : Arr 256 Bool) : Option ByteArray := (strings_trimRightASCII.l1 a1 k a0).bind fun y1 => some y1
theorem strings_trimRightASCII.c (k : Nat) (w : World) (a0 : ByteArray) (pa1 : Addr) (a1 : Arr 256 Bool) (hp1 : CA w pa1 ((carr 256 cb).enc a1)) (r : ByteArray) (H : strings_trimRightASCII.f k a0 a1 = some r) :
    CV Tryd.prog 72 [.string a0, .pointer (some pa1)].toArray w fun v w' => v = .string r ∧ Ext w w' := by
  have hS := ((St.init w no).paramP pa1 ((carr 256 cb).enc a1) hp1)
  unfold strings_trimRightASCII.f at H
  refine CV.body Tryd.func72 rfl Tryd.ntmps72 rfl ?_
  refine CJ.seq ?_
  refine CJ.region ?_
  refine OJ.pures tU_ok 1 rfl ?_
  refine OJ.nil (EJ.next ?_)
  obtain ⟨j115, H, K115⟩ := pbind H
  refine CJ.cut (fun F w1 => ∃ (y1 : ByteArray) , (some y1 : Option ByteArray) = some j115 ∧ F = [(0, .string y1)] ∧ St w no w1 [] [roP pa1 ((carr 256 cb).enc a1)]) ?_ ?_
  · skip
    refine CJ.block ?_
    refine CJ.loop (fun k F w1 => ∃ (y2 : ByteArray), F = [(0, .string y2), (1, .pointer (some pa1))] ∧ St w no w1 [] [roP pa1 ((carr 256 cb).enc a1)] ∧ strings_trimRightASCII.l1 a1 k y2 = some j115) k (F' := [(0, .string a0), (1, .pointer (some pa1))]) ⟨rfl, rfl, trivial⟩ ⟨a0, rfl, hS.pick [] [0] rfl, H⟩ ?_
    rintro k F w1 ⟨y2, rfl, hS, H⟩
    cases k with
    | zero => rw [strings_trimRightASCII.l1] at H; cases H
    | succ k =>
      rw [strings_trimRightASCII.l1] at H
      refine CJ.seq ?_
      refine CJ.seq ?_
      refine CJ.region ?_
      refine OJ.pures tU_ok 3 rfl ?_
      refine OJ.nil (EJ.next ?_)
      refine CJ.cond rfl (fun hb => ?_) (fun hb => ?_)
      · replace H := pif_t (of_decide_eq_true hb) H
        refine CJ.skip (EJ.next ?_)
        refine CJ.block ?_
        refine CJ.seq ?_
        refine CJ.seq ?_
        refine CJ.region ?_
        refine OJ.pures tU_ok 5 rfl ?_
        obtain ⟨t3, ht3, H⟩ := pbind H
        refine OJ.st rfl rfl rfl (SR.idxStr tU_ok rfl rfl rfl rfl ht3) ?_
        obtain ⟨t4, ht4, H⟩ := pbind H
        refine OJ.callF rfl rfl rfl rfl rfl hb76 rfl (strings_asciiSet_contains.c _ _ a1 (hS.ca (i := 0) rfl) t3 _ ht4) ?_
        rintro _ w1 ⟨rfl, hs⟩
        replace hS := hS.grow hs
        refine OJ.pures tU_ok 1 rfl ?_
        refine OJ.nil (EJ.next ?_)
        refine CJ.cond rfl (fun hb => ?_) (fun hb => ?_)
        · replace H := pif_t hb H
          refine CJ.exit (EJ.skE (EJ.bkE rfl (EJ.skE (EJ.hit (?_)))))
          exact EJ.meet (F' := [(0, .string y2)]) ⟨rfl, trivial⟩ ⟨y2, H, rfl, hS.pick [] [0] rfl⟩
        · replace H := pifb_f hb H
          refine CJ.skip (EJ.next ?_)
          refine CJ.region ?_
          refine OJ.pures tU_ok 4 rfl ?_
          obtain ⟨u5, hu5, H⟩ := pbind H
          refine OJ.st rfl rfl rfl (SR.cutStr tU_ok (0) ((IntKind.i64.wrap ((y2.size : Int) - 1)).toNat) rfl rfl rfl rfl rfl (.inl ⟨rfl, rfl⟩) (.inr ⟨_, _, rfl, (by have := (chk_some hu5); omega), rfl⟩) (by have := (chk_some hu5); omega) (by have := (chk_some hu5); omega)) ?_
          refine OJ.pures tU_ok 1 rfl ?_
          refine OJ.nil (EJ.blk (?_))
          exact EJ.round k (F' := [(0, .string (y2.extract 0 ((IntKind.i64.wrap ((y2.size : Int) - 1)).toNat))), (1, .pointer (some pa1))]) ⟨rfl, rfl, trivial⟩ (Nat.lt_succ_self _) ⟨(y2.extract 0 ((IntKind.i64.wrap ((y2.size : Int) - 1)).toNat)), rfl, hS.pick [] [0] rfl, H⟩
      · replace H := pif_f (of_decide_eq_false hb) H
        refine CJ.exit (EJ.skE (EJ.skE (EJ.hit (?_))))
        exact EJ.meet (F' := [(0, .string y2)]) ⟨rfl, trivial⟩ ⟨y2, H, rfl, hS.pick [] [0] rfl⟩
  · rintro F w1 ⟨y1, he, rfl, hS⟩
    obtain rfl := Option.some.inj he
    have H := K115
    refine CJ.seq ?_
    refine CJ.region ?_
    refine OJ.pures tU_ok 2 rfl ?_
    refine OJ.nil (EJ.next ?_)
    refine CJ.ret (?_)
    obtain rfl := Option.some.inj H
    exact EJ.fin rfl (.tmp rfl .nil) ⟨rfl, hS.ext⟩

def strings_trimLeftASCII.l1 (a1 : Arr 256 Bool) : Nat → ByteArray → Option ByteArray
  | 0, _ => none
  | k + 1, y2 => if 0 < (y2.size : Int) then ((getB y2 0).bind fun t3 => (strings_asciiSet_contains.f a1 t3).bind fun t4 => if (!t4) = true then (some y2) else ((chk ((0 : Int) ≤ 1 ∧ 1 ≤ (y2.size : Int) ∧ (y2.size : Int) ≤ (y2.size : Int))).bind fun u5 => strings_trimLeftASCII.l1 a1 k (y2.extract ((1 : Int).toNat) y2.size))) else (some y2)
def strings_trimLeftASCII.f (k : Nat) (a0 : ByteArray) (a1 : Arr 256 Bool) : Option ByteArray := (strings_trimLeftASCII.l1 a1 k a0).bind fun y1 => some y1
theorem strings_trimLeftASCII.c (k : Nat) (w : World) (a0 : ByteArray) (pa1 : Addr) (a1 : Arr 256 Bool) (hp1 : CA w pa1 ((carr 256 cb).enc a1)) (r : ByteArray) (H : strings_trimLeftASCII.f k a0 a1 = some r) :
    CV Tryd.prog 71 [.string a0, .pointer (some pa1)].toArray w fun v w' => v = .string r ∧ Ext w w' := by
  have hS := ((St.init w no).paramP pa1 ((carr 256 cb).enc a1) hp1)
  unfold strings_trimLeftASCII.f at H
  refine CV.body Tryd.func71 rfl Tryd.ntmps71 rfl ?_
  refine CJ.seq ?_
  refine CJ.region ?_
  refine OJ.pures tU_ok 1 rfl ?_
  refine OJ.nil (EJ.next ?_)
  obtain ⟨j116, H, K116⟩ := pbind H
  refine CJ.cut (fun F w1 => ∃ (y1 : ByteArray) , (some y1 : Option ByteArray) = some j116 ∧ F = [(0, .string y1)] ∧ St w no w1 [] [roP pa1 ((carr 256 cb).enc a1)]) ?_ ?_
  · skip
    refine CJ.block ?_
    refine CJ.loop (fun k F w1 => ∃ (y2 : ByteArray), F = [(0, .string y2), (1, .pointer (some pa1))] ∧ St w no w1 [] [roP pa1 ((carr 256 cb).enc a1)] ∧ strings_trimLeftASCII.l1 a1 k y2 = some j116) k (F' := [(0, .string a0), (1, .pointer (some pa1))]) ⟨rfl, rfl, trivial⟩ ⟨a0, rfl, hS.pick [] [0] rfl, H⟩ ?_
    rintro k F w1 ⟨y2, rfl, hS, H⟩
    cases k with
    | zero => rw [strings_trimLeftASCII.l1] at H; cases H
    | succ k =>
      rw [strings_trimLeftASCII.l1] at H
      refine CJ.seq ?_
      refine CJ.seq ?_
      refine CJ.region ?_
      refine OJ.pures tU_ok 3 rfl ?_
      refine OJ.nil (EJ.next ?_)
      refine CJ.cond rfl (fun hb => ?_) (fun hb => ?_)
      · replace H := pif_t (of_decide_eq_true hb) H
        refine CJ.skip (EJ.next ?_)
        refine CJ.block ?_
        refine CJ.seq ?_
        refine CJ.seq ?_
        refine CJ.region ?_
        refine OJ.pures tU_ok 2 rfl ?_
        obtain ⟨t3, ht3, H⟩ := pbind H
        refine OJ.st rfl rfl rfl (SR.idxStr tU_ok rfl rfl rfl rfl ht3) ?_
        obtain ⟨t4, ht4, H⟩ := pbind H
        refine OJ.callF rfl rfl rfl rfl rfl hb76 rfl (strings_asciiSet_contains.c _ _ a1 (hS.ca (i := 0) rfl) t3 _ ht4) ?_
        rintro _ w1 ⟨rfl, hs⟩
        replace hS := hS.grow hs
        refine OJ.pures tU_ok 1 rfl ?_
        refine OJ.nil (EJ.next ?_)
        refine CJ.cond rfl (fun hb => ?_) (fun hb => ?_)
        · replace H := pif_t hb H
          refine CJ.exit (EJ.skE (EJ.bkE rfl (EJ.skE (EJ.hit (?_)))))
          exact EJ.meet (F' := [(0, .string y2)]) ⟨rfl, trivial⟩ ⟨y2, H, rfl, hS.pick [] [0] rfl⟩
        · replace H := pifb_f hb H
          refine CJ.skip (EJ.next ?_)
          refine CJ.region ?_
          refine OJ.pures tU_ok 1 rfl ?_
          obtain ⟨u5, hu5, H⟩ := pbind H
          refine OJ.st rfl rfl rfl (SR.cutStr tU_ok ((1 : Int).toNat) (y2.size) rfl rfl rfl rfl rfl (.inr ⟨_, _, rfl, (chk_some hu5).1, rfl⟩) (.inl ⟨rfl, rfl⟩) (by have := (chk_some hu5); omega) (by have := (chk_some hu5); omega)) ?_
          refine OJ.pures tU_ok 1 rfl ?_
          refine OJ.nil (EJ.blk (?_))
          exact EJ.round k (F' := [(0, .string (y2.extract ((1 : Int).toNat) y2.size)), (1, .pointer (some pa1))]) ⟨rfl, rfl, trivial⟩ (Nat.lt_succ_self _) ⟨(y2.extract ((1 : Int).toNat) y2.size), rfl, hS.pick [] [0] rfl, H⟩
      · replace H := pif_f (of_decide_eq_false hb) H
        refine CJ.exit (EJ.skE (EJ.skE (EJ.hit (?_))))
        exact EJ.meet (F' := [(0, .string y2)]) ⟨rfl, trivial⟩ ⟨y2, H, rfl, hS.pick [] [0] rfl⟩
  · rintro F w1 ⟨y1, he, rfl, hS⟩
    obtain rfl := Option.some.inj he
    have H := K116
    refine CJ.seq ?_
    refine CJ.region ?_
    refine OJ.pures tU_ok 2 rfl ?_
    refine OJ.nil (EJ.next ?_)
    refine CJ.ret (?_)
    obtain rfl := Option.some.inj H
    exact EJ.fin rfl (.tmp rfl .nil) ⟨rfl, hS.ext⟩

def unicode_utf8_RuneStart.f (a0 : Int) : Option Bool := some (decide ((andI .u8 a0 192) ≠ 128))
theorem unicode_utf8_RuneStart.c (w : World) (a0 : Int) (r : Bool) (H : unicode_utf8_RuneStart.f a0 = some r) :
    CV Tryd.prog 82 [.int .u8 a0].toArray w fun v w' => v = .bool r ∧ Ext w w' := by
  have hS := (St.init w no)
  unfold unicode_utf8_RuneStart.f at H
  refine CV.body Tryd.func82 rfl Tryd.ntmps82 rfl ?_
  refine CJ.seq ?_
  refine CJ.region ?_
  refine OJ.pures tU_ok 1 rfl ?_
  refine OJ.nil (EJ.next ?_)
  refine CJ.seq ?_
  refine CJ.region ?_
  refine OJ.pures tU_ok 4 rfl ?_
  refine OJ.nil (EJ.next ?_)
  refine CJ.ret (?_)
  obtain rfl := Option.some.inj H
  exact EJ.fin rfl (.tmp rfl .nil) ⟨rfl, hS.ext⟩

def unicode_utf8_decodeRuneInStringSlow.f (a0 : ByteArray) : Option (Int × Int) := if (a0.size : Int) < 1 then (some (65533, 0)) else none
theorem unicode_utf8_decodeRuneInStringSlow.c (w : World) (a0 : ByteArray) (r : Int × Int) (H : unicode_utf8_decodeRuneInStringSlow.f a0 = some r) :
    CV Tryd.prog 80 [.string a0].toArray w fun v w' => v = .tuple #[.int .i32 r.1, .int .i64 r.2] ∧ Ext w w' := by
  have hS := (St.init w no)
  unfold unicode_utf8_decodeRuneInStringSlow.f at H
  refine CV.body Tryd.func80 rfl Tryd.ntmps80 rfl ?_
  refine CJ.seq ?_
  refine CJ.region ?_
  refine OJ.pures tU_ok 2 rfl ?_
  refine OJ.nil (EJ.next ?_)
  refine CJ.seq ?_
  refine CJ.region ?_
  refine OJ.pures tU_ok 3 rfl ?_
  refine OJ.nil (EJ.next ?_)
  refine CJ.seq ?_
  refine CJ.seq ?_
  refine CJ.region ?_
  refine OJ.pures tU_ok 2 rfl ?_
  refine OJ.nil (EJ.next ?_)
  refine CJ.cond rfl (fun hb => ?_) (fun hb => ?_)
  · replace H := pif_t (of_decide_eq_true hb) H
    refine CJ.seq ?_
    refine CJ.region ?_
    refine OJ.pures tU_ok 2 rfl ?_
    refine OJ.nil (EJ.next ?_)
    refine CJ.ret (EJ.skR (?_))
    obtain rfl := Option.some.inj H
    exact EJ.fin rfl (.tmp rfl (.tmp rfl .nil)) ⟨rfl, hS.ext⟩
  · replace H := pif_f (of_decide_eq_false hb) H
    cases H

def unicode_utf8_DecodeRuneInString.f (a0 : ByteArray) : Option (Int × Int) := (if a0 ≠ ByteArray.empty then ((getB a0 0).bind fun t2 => some (decide (t2 < 128))) else (some false)).bind fun y1 => if y1 = true then ((getB a0 0).bind fun t3 => some (IntKind.i32.wrap t3, 1)) else ((unicode_utf8_decodeRuneInStringSlow.f a0).bind fun t4 => some (t4.1, t4.2))
theorem unicode_utf8_DecodeRuneInString.c (w : World) (a0 : ByteArray) (r : Int × Int) (H : unicode_utf8_DecodeRuneInString.f a0 = some r) :
    CV Tryd.prog 77 [.string a0].toArray w fun v w' => v = .tuple #[.int .i32 r.1, .int .i64 r.2] ∧ Ext w w' := by
  have hS := (St.init w no)
  unfold unicode_utf8_DecodeRuneInString.f at H
  refine CV.body Tryd.func77 rfl Tryd.ntmps77 rfl ?_
  refine CJ.seq ?_
  refine CJ.region ?_
  refine OJ.pures tU_ok 2 rfl ?_
  refine OJ.nil (EJ.next ?_)
  refine CJ.seq ?_
  obtain ⟨j119, H, K119⟩ := pbind H
  refine CJ.cut (fun F w1 => ∃ (y1 : Bool) , (some y1 : Option Bool) = some j119 ∧ F = [(0, .string a0), (10, .bool y1)] ∧ St w no w1 [] []) ?_ ?_
  · skip
    refine CJ.region ?_
    refine OJ.pures tU_ok 3 rfl ?_
    refine OJ.split (t := 6) rfl (fun hb => ?_) (fun hb => ?_)
    · replace H := pif_t (of_decide_eq_true hb) H
      refine OJ.pures tU_ok 1 rfl ?_
      obtain ⟨t2, ht2, H⟩ := pbind H
      refine OJ.st rfl rfl rfl (SR.idxStr tU_ok rfl rfl rfl rfl ht2) ?_
      refine OJ.pures tU_ok 2 rfl ?_
      refine OJ.nil ?_
      exact EJ.meet (F' := [(0, .string a0), (10, .bool (decide (t2 < 128)))]) ⟨rfl, rfl, trivial⟩ ⟨(decide (t2 < 128)), H, rfl, hS.pick [] [] rfl⟩
    · replace H := pif_f (of_decide_eq_false hb) H
      refine OJ.pures tU_ok 4 rfl ?_
      refine OJ.nil ?_
      exact EJ.meet (F' := [(0, .string a0), (10, .bool false)]) ⟨rfl, rfl, trivial⟩ ⟨false, H, rfl, hS.pick [] [] rfl⟩
  · rintro F w1 ⟨y1, he, rfl, hS⟩
    obtain rfl := Option.some.inj he
    have H := K119
    refine CJ.cond rfl (fun hb => ?_) (fun hb => ?_)
    · replace H := pif_t hb H
      refine CJ.seq ?_
      refine CJ.region ?_
      refine OJ.pures tU_ok 1 rfl ?_
      obtain ⟨t3, ht3, H⟩ := pbind H
      refine OJ.st rfl rfl rfl (SR.idxStr tU_ok rfl rfl rfl rfl ht3) ?_
      refine OJ.pures tU_ok 3 rfl ?_
      refine OJ.nil (EJ.next ?_)
      refine CJ.ret (EJ.skR (?_))
      obtain rfl := Option.some.inj H
      exact EJ.fin rfl (.tmp rfl (.tmp rfl .nil)) ⟨rfl, hS.ext⟩
    · replace H := pifb_f hb H
      refine CJ.region ?_
      refine OJ.pures tU_ok 1 rfl ?_
      obtain ⟨t4, ht4, H⟩ := pbind H
      refine OJ.callF rfl rfl rfl rfl rfl hb80 rfl (unicode_utf8_decodeRuneInStringSlow.c _ a0 _ ht4) ?_
      rintro _ w1 ⟨rfl, hs⟩
      replace hS := hS.grow hs
      refine OJ.pures tU_ok 5 rfl ?_
      refine OJ.nil (EJ.next ?_)
      refine CJ.ret (?_)
      obtain rfl := Option.some.inj H
      exact EJ.fin rfl (.tmp rfl (.tmp rfl .nil)) ⟨rfl, hS.ext⟩

def unicode_utf8_DecodeLastRuneInString.l1 (a0 : ByteArray) : Nat → Int → Option Int
  | 0, _ => none
  | k + 1, y3 => if (if (IntKind.i64.wrap ((a0.size : Int) - 4)) < 0 then 0 else (IntKind.i64.wrap ((a0.size : Int) - 4))) ≤ y3 then ((getB a0 y3).bind fun t4 => (unicode_utf8_RuneStart.f t4).bind fun t5 => if t5 = true then (some y3) else (unicode_utf8_DecodeLastRuneInString.l1 a0 k (IntKind.i64.wrap (y3 - 1)))) else (some y3)
def unicode_utf8_DecodeLastRuneInString.f (k : Nat) (a0 : ByteArray) : Option (Int × Int) := if (a0.size : Int) = 0 then (some (65533, 0)) else ((getB a0 (IntKind.i64.wrap ((a0.size : Int) - 1))).bind fun t1 => if (IntKind.i32.wrap t1) < 128 then (some (IntKind.i32.wrap t1, 1)) else ((unicode_utf8_DecodeLastRuneInString.l1 a0 k (IntKind.i64.wrap ((IntKind.i64.wrap ((a0.size : Int) - 1)) - 1))).bind fun y2 => if y2 < 0 then ((chk ((0 : Int) ≤ 0 ∧ 0 ≤ (a0.size : Int) ∧ (a0.size : Int) ≤ (a0.size : Int))).bind fun u6 => (unicode_utf8_DecodeRuneInString.f (a0.extract ((0 : Int).toNat) ((a0.size : Int).toNat))).bind fun t7 => if (IntKind.i64.wrap (0 + t7.2)) ≠ (a0.size : Int) then (some (65533, 1)) else (some (t7.1, t7.2))) else ((chk ((0 : Int) ≤ y2 ∧ y2 ≤ (a0.size : Int) ∧ (a0.size : Int) ≤ (a0.size : Int))).bind fun u8 => (unicode_utf8_DecodeRuneInString.f (a0.extract y2.toNat ((a0.size : Int).toNat))).bind fun t9 => if (IntKind.i64.wrap (y2 + t9.2)) ≠ (a0.size : Int) then (some (65533, 1)) else (some (t9.1, t9.2)))))
theorem unicode_utf8_DecodeLastRuneInString.c (k : Nat) (w : World) (a0 : ByteArray) (r : Int × Int) (H : unicode_utf8_DecodeLastRuneInString.f k a0 = some r) :
    CV Tryd.prog 79 [.string a0].toArray w fun v w' => v = .tuple #[.int .i32 r.1, .int .i64 r.2] ∧ Ext w w' := by
  have hS := (St.init w no)
  unfold unicode_utf8_DecodeLastRuneInString.f at H
  refine CV.body Tryd.func79 rfl Tryd.ntmps79 rfl ?_
  refine CJ.seq ?_
  refine CJ.region ?_
  refine OJ.pures tU_ok 2 rfl ?_
  refine OJ.nil (EJ.next ?_)
  refine CJ.seq ?_
  refine CJ.region ?_
  refine OJ.pures tU_ok 3 rfl ?_
  refine OJ.nil (EJ.next ?_)
  refine CJ.seq ?_
  refine CJ.seq ?_
  refine CJ.region ?_
  refine OJ.pures tU_ok 2 rfl ?_
  refine OJ.nil (EJ.next ?_)
  refine CJ.cond rfl (fun hb => ?_) (fun hb => ?_)
  · replace H := pif_t (of_decide_eq_true hb) H
    refine CJ.seq ?_
    refine CJ.region ?_
    refine OJ.pures tU_ok 2 rfl ?_
    refine OJ.nil (EJ.next ?_)
    refine CJ.ret (EJ.skR (?_))
    obtain rfl := Option.some.inj H
    exact EJ.fin rfl (.tmp rfl (.tmp rfl .nil)) ⟨rfl, hS.ext⟩
  · replace H := pif_f (of_decide_eq_false hb) H
    refine CJ.skip (EJ.next ?_)
    refine CJ.seq ?_
    refine CJ.region ?_
    refine OJ.pures tU_ok 3 rfl ?_
    refine OJ.nil (EJ.next ?_)
    refine CJ.seq ?_
    refine CJ.region ?_
    refine OJ.pures tU_ok 2 rfl ?_
    obtain ⟨t1, ht1, H⟩ := pbind H
    refine OJ.st rfl rfl rfl (SR.idxStr tU_ok rfl rfl rfl rfl ht1) ?_
    refine OJ.pures tU_ok 2 rfl ?_
    refine OJ.nil (EJ.next ?_)
    refine CJ.seq ?_
    refine CJ.seq ?_
    refine CJ.region ?_
    refine OJ.pures tU_ok 2 rfl ?_
    refine OJ.nil (EJ.next ?_)
    refine CJ.cond rfl (fun hb => ?_) (fun hb => ?_)
    · replace H := pif_t (of_decide_eq_true hb) H
      refine CJ.seq ?_
      refine CJ.region ?_
      refine OJ.pures tU_ok 3 rfl ?_
      refine OJ.nil (EJ.next ?_)
      refine CJ.ret (EJ.skR (?_))
      obtain rfl := Option.some.inj H
      exact EJ.fin rfl (.tmp rfl (.tmp rfl .nil)) ⟨rfl, hS.ext⟩
    · replace H := pif_f (of_decide_eq_false hb) H
      refine CJ.skip (EJ.next ?_)
      refine CJ.seq ?_
      refine CJ.region ?_
      refine OJ.pures tU_ok 4 rfl ?_
      refine OJ.nil (EJ.next ?_)
      refine CJ.seq ?_
      refine CJ.seq ?_
      refine CJ.region ?_
      refine OJ.pures tU_ok 3 rfl ?_
      refine OJ.nil (EJ.next ?_)
      obtain ⟨j118, H, K118⟩ := pbind H
      refine CJ.cut1 (fun F w1 => ∃ (y2 : Int) , (some y2 : Option Int) = some j118 ∧ F = [(0, .string a0), (4, .int .i64 (a0.size : Int)), (5, .int .i64 y2)] ∧ St w no w1 [] []) ?_ ?_
      · skip
        refine CJ.block ?_
        refine CJ.loop (fun k F w1 => ∃ (y3 : Int), F = [(0, .string a0), (4, .int .i64 (a0.size : Int)), (5, .int .i64 y3), (6, .int .i64 (if (IntKind.i64.wrap ((a0.size : Int) - 4)) < 0 then 0 else (IntKind.i64.wrap ((a0.size : Int) - 4))))] ∧ St w no w1 [] [] ∧ unicode_utf8_DecodeLastRuneInString.l1 a0 k y3 = some j118) k (F' := [(0, .string a0), (4, .int .i64 (a0.size : Int)), (5, .int .i64 (IntKind.i64.wrap ((IntKind.i64.wrap ((a0.size : Int) - 1)) - 1))), (6, .int .i64 (if (IntKind.i64.wrap ((a0.size : Int) - 4)) < 0 then 0 else (IntKind.i64.wrap ((a0.size : Int) - 4))))]) ⟨rfl, rfl, rfl, rfl, trivial⟩ ⟨(IntKind.i64.wrap ((IntKind.i64.wrap ((a0.size : Int) - 1)) - 1)), rfl, hS.pick [] [] rfl, H⟩ ?_
        rintro k F w1 ⟨y3, rfl, hS, H⟩
        cases k with
        | zero => rw [unicode_utf8_DecodeLastRuneInString.l1] at H; cases H
        | succ k =>
          rw [unicode_utf8_DecodeLastRuneInString.l1] at H
          refine CJ.seq ?_
          refine CJ.seq ?_
          refine CJ.region ?_
          refine OJ.pures tU_ok 3 rfl ?_
          refine OJ.nil (EJ.next ?_)
          refine CJ.cond rfl (fun hb => ?_) (fun hb => ?_)
          · replace H := pif_t (of_decide_eq_true hb) H
            refine CJ.skip (EJ.next ?_)
            refine CJ.seq ?_
            refine CJ.block ?_
            refine CJ.seq ?_
            refine CJ.region ?_
            refine OJ.pures tU_ok 2 rfl ?_
            obtain ⟨t4, ht4, H⟩ := pbind H
            refine OJ.st rfl rfl rfl (SR.idxStr tU_ok rfl rfl rfl rfl ht4) ?_
            obtain ⟨t5, ht5, H⟩ := pbind H
            refine OJ.callF rfl rfl rfl rfl rfl hb82 rfl (unicode_utf8_RuneStart.c _ t4 _ ht5) ?_
            rintro _ w1 ⟨rfl, hs⟩
            replace hS := hS.grow hs
            refine OJ.nil (EJ.next ?_)
            refine CJ.cond rfl (fun hb => ?_) (fun hb => ?_)
            · replace H := pif_t hb H
              refine CJ.exit (EJ.bkE rfl (EJ.skE (EJ.skE (EJ.hit (?_)))))
              exact EJ.meet (F' := [(0, .string a0), (4, .int .i64 (a0.size : Int)), (5, .int .i64 y3)]) ⟨rfl, rfl, rfl, trivial⟩ ⟨y3, H, rfl, hS.pick [] [] rfl⟩
            · replace H := pifb_f hb H
              refine CJ.skip (EJ.blk (EJ.next ?_))
              refine CJ.region ?_
              refine OJ.pures tU_ok 3 rfl ?_
              refine OJ.nil ?_
              exact EJ.round k (F' := [(0, .string a0), (4, .int .i64 (a0.size : Int)), (5, .int .i64 (IntKind.i64.wrap (y3 - 1))), (6, .int .i64 (if (IntKind.i64.wrap ((a0.size : Int) - 4)) < 0 then 0 else (IntKind.i64.wrap ((a0.size : Int) - 4))))]) ⟨rfl, rfl, rfl, rfl, trivial⟩ (Nat.lt_succ_self _) ⟨(IntKind.i64.wrap (y3 - 1)), rfl, hS.pick [] [] rfl, H⟩
          · replace H := pif_f (of_decide_eq_false hb) H
            refine CJ.exit (EJ.skE (EJ.skE (EJ.hit (?_))))
            exact EJ.meet (F' := [(0, .string a0), (4, .int .i64 (a0.size : Int)), (5, .int .i64 y3)]) ⟨rfl, rfl, rfl, trivial⟩ ⟨y3, H, rfl, hS.pick [] [] rfl⟩
      · rintro F w1 ⟨y2, he, rfl, hS⟩
        obtain rfl := Option.some.inj he
        have H := K118
        refine EJ.next ?_
        refine CJ.seq ?_
        refine CJ.seq ?_
        refine CJ.region ?_
        refine OJ.pures tU_ok 2 rfl ?_
        refine OJ.nil (EJ.next ?_)
        refine CJ.cond rfl (fun hb => ?_) (fun hb => ?_)
        · replace H := pif_t (of_decide_eq_true hb) H
          refine CJ.region ?_
          refine OJ.pures tU_ok 1 rfl ?_
          refine OJ.nil (EJ.next ?_)
          refine CJ.seq ?_
          refine CJ.region ?_
          refine OJ.pures tU_ok 3 rfl ?_
          obtain ⟨u6, hu6, H⟩ := pbind H
          refine OJ.st rfl rfl rfl (SR.cutStr tU_ok ((0 : Int).toNat) ((a0.size : Int).toNat) rfl rfl rfl rfl rfl (.inr ⟨_, _, rfl, (chk_some hu6).1, rfl⟩) (.inr ⟨_, _, rfl, (by have := (chk_some hu6); omega), rfl⟩) (by have := (chk_some hu6); omega) (by have := (chk_some hu6); omega)) ?_
          obtain ⟨t7, ht7, H⟩ := pbind H
          refine OJ.callF rfl rfl rfl rfl rfl hb77 rfl (unicode_utf8_DecodeRuneInString.c _ (a0.extract ((0 : Int).toNat) ((a0.size : Int).toNat)) _ ht7) ?_
          rintro _ w1 ⟨rfl, hs⟩
          replace hS := hS.grow hs
          refine OJ.pures tU_ok 5 rfl ?_
          refine OJ.nil (EJ.next ?_)
          refine CJ.seq ?_
          refine CJ.seq ?_
          refine CJ.region ?_
          refine OJ.pures tU_ok 5 rfl ?_
          refine OJ.nil (EJ.next ?_)
          refine CJ.cond rfl (fun hb => ?_) (fun hb => ?_)
          · replace H := pif_t (of_decide_eq_true hb) H
            refine CJ.seq ?_
            refine CJ.region ?_
            refine OJ.pures tU_ok 2 rfl ?_
            refine OJ.nil (EJ.next ?_)
            refine CJ.ret (EJ.skR (?_))
            obtain rfl := Option.some.inj H
            exact EJ.fin rfl (.tmp rfl (.tmp rfl .nil)) ⟨rfl, hS.ext⟩
          · replace H := pif_f (of_decide_eq_false hb) H
            refine CJ.skip (EJ.next ?_)
            refine CJ.seq ?_
            refine CJ.region ?_
            refine OJ.pures tU_ok 4 rfl ?_
            refine OJ.nil (EJ.next ?_)
            refine CJ.ret (?_)
            obtain rfl := Option.some.inj H
            exact EJ.fin rfl (.tmp rfl (.tmp rfl .nil)) ⟨rfl, hS.ext⟩
        · replace H := pif_f (of_decide_eq_false hb) H
          refine CJ.skip (EJ.next ?_)
          refine CJ.seq ?_
          refine CJ.region ?_
          refine OJ.pures tU_ok 3 rfl ?_
          obtain ⟨u8, hu8, H⟩ := pbind H
          refine OJ.st rfl rfl rfl (SR.cutStr tU_ok (y2.toNat) ((a0.size : Int).toNat) rfl rfl rfl rfl rfl (.inr ⟨_, _, rfl, (chk_some hu8).1, rfl⟩) (.inr ⟨_, _, rfl, (by have := (chk_some hu8); omega), rfl⟩) (by have := (chk_some hu8); omega) (by have := (chk_some hu8); omega)) ?_
          obtain ⟨t9, ht9, H⟩ := pbind H
          refine OJ.callF rfl rfl rfl rfl rfl hb77 rfl (unicode_utf8_DecodeRuneInString.c _ (a0.extract y2.toNat ((a0.size : Int).toNat)) _ ht9) ?_
          rintro _ w1 ⟨rfl, hs⟩
          replace hS := hS.grow hs
          refine OJ.pures tU_ok 5 rfl ?_
          refine OJ.nil (EJ.next ?_)
          refine CJ.seq ?_
          refine CJ.seq ?_
          refine CJ.region ?_
          refine OJ.pures tU_ok 5 rfl ?_
          refine OJ.nil (EJ.next ?_)
          refine CJ.cond rfl (fun hb => ?_) (fun hb => ?_)
          · replace H := pif_t (of_decide_eq_true hb) H
            refine CJ.seq ?_
            refine CJ.region ?_
            refine OJ.pures tU_ok 2 rfl ?_
            refine OJ.nil (EJ.next ?_)
            refine CJ.ret (EJ.skR (?_))
            obtain rfl := Option.some.inj H
            exact EJ.fin rfl (.tmp rfl (.tmp rfl .nil)) ⟨rfl, hS.ext⟩
          · replace H := pif_f (of_decide_eq_false hb) H
            refine CJ.skip (EJ.next ?_)
            refine CJ.seq ?_
            refine CJ.region ?_
            refine OJ.pures tU_ok 4 rfl ?_
            refine OJ.nil (EJ.next ?_)
            refine CJ.ret (?_)
            obtain rfl := Option.some.inj H
            exact EJ.fin rfl (.tmp rfl (.tmp rfl .nil)) ⟨rfl, hS.ext⟩

def unicode_utf8_ValidRune.f (a0 : Int) : Option Bool := (if 0 ≤ a0 then (some (decide (a0 < 55296))) else (some false)).bind fun y1 => if y1 = true then (some true) else (if 57343 < a0 then (if a0 ≤ 1114111 then (some true) else (some false)) else (some false))
theorem unicode_utf8_ValidRune.c (w : World) (a0 : Int) (r : Bool) (H : unicode_utf8_ValidRune.f a0 = some r) :
    CV Tryd.prog 84 [.int .i32 a0].toArray w fun v w' => v = .bool r ∧ Ext w w' := by
  have hS := (St.init w no)
  unfold unicode_utf8_ValidRune.f at H
  refine CV.body Tryd.func84 rfl Tryd.ntmps84 rfl ?_
  refine CJ.seq ?_
  refine CJ.region ?_
  refine OJ.pures tU_ok 1 rfl ?_
  refine OJ.nil (EJ.next ?_)
  refine CJ.seq ?_
  refine CJ.block ?_
  obtain ⟨j121, H, K121⟩ := pbind H
  refine CJ.cut (fun F w1 => ∃ (y1 : Bool) , (some y1 : Option Bool) = some j121 ∧ F = [(0, .int .i32 a0), (3, .bool y1)] ∧ St w no w1 [] []) ?_ ?_
  · skip
    refine CJ.region ?_
    refine OJ.pures tU_ok 3 rfl ?_
    refine OJ.split (t := 6) rfl (fun hb => ?_) (fun hb => ?_)
    · replace H := pif_t (of_decide_eq_true hb) H
      refine OJ.pures tU_ok 4 rfl ?_
      refine OJ.nil ?_
      exact EJ.meet (F' := [(0, .int .i32 a0), (3, .bool (decide (a0 < 55296)))]) ⟨rfl, rfl, trivial⟩ ⟨(decide (a0 < 55296)), H, rfl, hS.pick [] [] rfl⟩
    · replace H := pif_f (of_decide_eq_false hb) H
      refine OJ.pures tU_ok 4 rfl ?_
      refine OJ.nil ?_
      exact EJ.meet (F' := [(0, .int .i32 a0), (3, .bool false)]) ⟨rfl, rfl, trivial⟩ ⟨false, H, rfl, hS.pick [] [] rfl⟩
  · rintro F w1 ⟨y1, he, rfl, hS⟩
    obtain rfl := Option.some.inj he
    have H := K121
    refine CJ.cond rfl (fun hb => ?_) (fun hb => ?_)
    · replace H := pif_t hb H
      refine CJ.seq ?_
      refine CJ.region ?_
      refine OJ.pures tU_ok 1 rfl ?_
      refine OJ.nil (EJ.next ?_)
      refine CJ.ret (EJ.bkR (EJ.skR (?_)))
      obtain rfl := Option.some.inj H
      exact EJ.fin rfl (.tmp rfl .nil) ⟨rfl, hS.ext⟩
    · replace H := pifb_f hb H
      refine CJ.seq ?_
      refine CJ.region ?_
      refine OJ.pures tU_ok 3 rfl ?_
      refine OJ.split (t := 13) rfl (fun hb => ?_) (fun hb => ?_)
      · replace H := pif_t (of_decide_eq_true hb) H
        refine OJ.pures tU_ok 4 rfl ?_
        refine OJ.nil (EJ.next ?_)
        refine CJ.cond rfl (fun hb => ?_) (fun hb => ?_)
        · replace H := pif_t (of_decide_eq_true hb) H
          refine CJ.seq ?_
          refine CJ.region ?_
          refine OJ.pures tU_ok 1 rfl ?_
          refine OJ.nil (EJ.next ?_)
          refine CJ.ret (EJ.bkR (EJ.skR (?_)))
          obtain rfl := Option.some.inj H
          exact EJ.fin rfl (.tmp rfl .nil) ⟨rfl, hS.ext⟩
        · replace H := pif_f (of_decide_eq_false hb) H
          refine CJ.skip (EJ.blk (EJ.next ?_))
          refine CJ.seq ?_
          refine CJ.region ?_
          refine OJ.pures tU_ok 1 rfl ?_
          refine OJ.nil (EJ.next ?_)
          refine CJ.ret (?_)
          obtain rfl := Option.some.inj H
          exact EJ.fin rfl (.tmp rfl .nil) ⟨rfl, hS.ext⟩
      · replace H := pif_f (of_decide_eq_false hb) H
        refine OJ.pures tU_ok 4 rfl ?_
        refine OJ.nil (EJ.next ?_)
        refine CJ.condF rfl ?_
        refine CJ.skip (EJ.blk (EJ.next ?_))
        refine CJ.seq ?_
        refine CJ.region ?_
        refine OJ.pures tU_ok 1 rfl ?_
        refine OJ.nil (EJ.next ?_)
        refine CJ.ret (?_)
        obtain rfl := Option.some.inj H
        exact EJ.fin rfl (.tmp rfl .nil) ⟨rfl, hS.ext⟩

def strings_IndexRune.f (a0 : ByteArray) (a1 : Int) : Option Int := (if 0 ≤ a1 then (some (decide (a1 < 128))) else (some false)).bind fun y1 => if y1 = true then none else (if a1 = 65533 then none else ((unicode_utf8_ValidRune.f a1).bind fun t2 => if (!t2) = true then (some (-1)) else none))
theorem strings_IndexRune.c (w : World) (a0 : ByteArray) (a1 : Int) (r : Int) (H : strings_IndexRune.f a0 a1 = some r) :
    CV Tryd.prog 81 [.string a0, .int .i32 a1].toArray w fun v w' => v = .int .i64 r ∧ Ext w w' := by
  have hS := (St.init w no)
  unfold strings_IndexRune.f at H
  refine CV.body Tryd.func81 rfl Tryd.ntmps81 rfl ?_
  refine CJ.seq ?_
  refine CJ.region ?_
  refine OJ.pures tU_ok 1 rfl ?_
  refine OJ.nil (EJ.next ?_)
  refine CJ.block ?_
  obtain ⟨j120, H, K120⟩ := pbind H
  refine CJ.cut (fun F w1 => ∃ (y1 : Bool) , (some y1 : Option Bool) = some j120 ∧ F = [(0, .string a0), (1, .int .i32 a1), (160, .bool y1)] ∧ St w no w1 [] []) ?_ ?_
  · skip
    refine CJ.region ?_
    refine OJ.pures tU_ok 3 rfl ?_
    refine OJ.split (t := 163) rfl (fun hb => ?_) (fun hb => ?_)
    · replace H := pif_t (of_decide_eq_true hb) H
      refine OJ.pures tU_ok 4 rfl ?_
      refine OJ.nil ?_
      exact EJ.meet (F' := [(0, .string a0), (1, .int .i32 a1), (160, .bool (decide (a1 < 128)))]) ⟨rfl, rfl, rfl, trivial⟩ ⟨(decide (a1 < 128)), H, rfl, hS.pick [] [] rfl⟩
    · replace H := pif_f (of_decide_eq_false hb) H
      refine OJ.pures tU_ok 4 rfl ?_
      refine OJ.nil ?_
      exact EJ.meet (F' := [(0, .string a0), (1, .int .i32 a1), (160, .bool false)]) ⟨rfl, rfl, rfl, trivial⟩ ⟨false, H, rfl, hS.pick [] [] rfl⟩
  · rintro F w1 ⟨y1, he, rfl, hS⟩
    obtain rfl := Option.some.inj he
    have H := K120
    refine CJ.cond rfl (fun hb => ?_) (fun hb => ?_)
    · replace H := pif_t hb H
      cases H
    · replace H := pifb_f hb H
      refine CJ.seq ?_
      refine CJ.region ?_
      refine OJ.pures tU_ok 3 rfl ?_
      refine OJ.nil (EJ.next ?_)
      refine CJ.cond rfl (fun hb => ?_) (fun hb => ?_)
      · replace H := pif_t (of_decide_eq_true hb) H
        cases H
      · replace H := pif_f (of_decide_eq_false hb) H
        refine CJ.seq ?_
        refine CJ.region ?_
        refine OJ.pures tU_ok 1 rfl ?_
        obtain ⟨t2, ht2, H⟩ := pbind H
        refine OJ.callF rfl rfl rfl rfl rfl hb84 rfl (unicode_utf8_ValidRune.c _ a1 _ ht2) ?_
        rintro _ w1 ⟨rfl, hs⟩
        replace hS := hS.grow hs
        refine OJ.pures tU_ok 2 rfl ?_
        refine OJ.nil (EJ.next ?_)
        refine CJ.cond rfl (fun hb => ?_) (fun hb => ?_)
        · replace H := pif_t hb H
          refine CJ.seq ?_
          refine CJ.region ?_
          refine OJ.pures tU_ok 1 rfl ?_
          refine OJ.nil (EJ.next ?_)
          refine CJ.ret (EJ.bkR (?_))
          obtain rfl := Option.some.inj H
          exact EJ.fin rfl (.tmp rfl .nil) ⟨rfl, hS.ext⟩
        · replace H := pifb_f hb H
          cases H

def strings_ContainsRune.f (a0 : ByteArray) (a1 : Int) : Option Bool := (strings_IndexRune.f a0 a1).bind fun t1 => some (decide (0 ≤ t1))
theorem strings_ContainsRune.c (w : World) (a0 : ByteArray) (a1 : Int) (r : Bool) (H : strings_ContainsRune.f a0 a1 = some r) :
    CV Tryd.prog 78 [.string a0, .int .i32 a1].toArray w fun v w' => v = .bool r ∧ Ext w w' := by
  have hS := (St.init w no)
  unfold strings_ContainsRune.f at H
  refine CV.body Tryd.func78 rfl Tryd.ntmps78 rfl ?_
  refine CJ.seq ?_
  refine CJ.region ?_
  refine OJ.pures tU_ok 1 rfl ?_
  refine OJ.nil (EJ.next ?_)
  refine CJ.seq ?_
  refine CJ.region ?_
  refine OJ.pures tU_ok 2 rfl ?_
  obtain ⟨t1, ht1, H⟩ := pbind H
  refine OJ.callF rfl rfl rfl rfl rfl hb81 rfl (strings_IndexRune.c _ a0 a1 _ ht1) ?_
  rintro _ w1 ⟨rfl, hs⟩
  replace hS := hS.grow hs
  refine OJ.pures tU_ok 2 rfl ?_
  refine OJ.nil (EJ.next ?_)
  refine CJ.ret (?_)
  obtain rfl := Option.some.inj H
  exact EJ.fin rfl (.tmp rfl .nil) ⟨rfl, hS.ext⟩

def strings_trimRightUnicode.l1 (a1 : ByteArray) : Nat → ByteArray → Option ByteArray
  | 0, _ => none
  | k + 1, y2 => if 0 < (y2.size : Int) then ((getB y2 (IntKind.i64.wrap ((y2.size : Int) - 1))).bind fun t3 => if 128 ≤ (IntKind.i32.wrap t3) then ((unicode_utf8_DecodeLastRuneInString.f k y2).bind fun t4 => (strings_ContainsRune.f a1 t4.1).bind fun t5 => if (!t5) = true then (some y2) else ((chk ((0 : Int) ≤ 0 ∧ 0 ≤ (IntKind.i64.wrap ((y2.size : Int) - t4.2)) ∧ (IntKind.i64.wrap ((y2.size : Int) - t4.2)) ≤ (y2.size : Int))).bind fun u6 => strings_trimRightUnicode.l1 a1 k (y2.extract 0 ((IntKind.i64.wrap ((y2.size : Int) - t4.2)).toNat)))) else ((strings_ContainsRune.f a1 (IntKind.i32.wrap t3)).bind fun t7 => if (!t7) = true then (some y2) else ((chk ((0 : Int) ≤ 0 ∧ 0 ≤ (IntKind.i64.wrap ((y2.size : Int) - 1)) ∧ (IntKind.i64.wrap ((y2.size : Int) - 1)) ≤ (y2.size : Int))).bind fun u8 => strings_trimRightUnicode.l1 a1 k (y2.extract 0 ((IntKind.i64.wrap ((y2.size : Int) - 1)).toNat))))) else (some y2)
def strings_trimRightUnicode.f (k : Nat) (a0 : ByteArray) (a1 : ByteArray) : Option ByteArray := (strings_trimRightUnicode.l1 a1 k a0).bind fun y1 => some y1
theorem strings_trimRightUnicode.c (k : Nat) (w : World) (a0 : ByteArray) (a1 : ByteArray) (r : ByteArray) (H : strings_trimRightUnicode.f k a0 a1 = some r) :
    CV Tryd.prog 74 [.string a0, .string a1].toArray w fun v w' => v = .string r ∧ Ext w w' := by
  have hS := (St.init w no)
  unfold strings_trimRightUnicode.f at H
  refine CV.body Tryd.func74 rfl Tryd.ntmps74 rfl ?_
  refine CJ.seq ?_
  refine CJ.region ?_
  refine OJ.pures tU_ok 1 rfl ?_
  refine OJ.nil (EJ.next ?_)
  obtain ⟨j117, H, K117⟩ := pbind H
  refine CJ.cut (fun F w1 => ∃ (y1 : ByteArray) , (some y1 : Option ByteArray) = some j117 ∧ F = [(0, .string y1)] ∧ St w no w1 [] []) ?_ ?_
  · skip
    refine CJ.block ?_
    refine CJ.loop (fun k F w1 => ∃ (y2 : ByteArray), F = [(0, .string y2), (1, .string a1)] ∧ St w no w1 [] [] ∧ strings_trimRightUnicode.l1 a1 k y2 = some j117) k (F' := [(0, .string a0), (1, .string a1)]) ⟨rfl, rfl, trivial⟩ ⟨a0, rfl, hS.pick [] [] rfl, H⟩ ?_
    rintro k F w1 ⟨y2, rfl, hS, H⟩
    cases k with
    | zero => rw [strings_trimRightUnicode.l1] at H; cases H
    | succ k =>
      rw [strings_trimRightUnicode.l1] at H
      refine CJ.seq ?_
      refine CJ.seq ?_
      refine CJ.region ?_
      refine OJ.pures tU_ok 3 rfl ?_
      refine OJ.nil (EJ.next ?_)
      refine CJ.cond rfl (fun hb => ?_) (fun hb => ?_)
      · replace H := pif_t (of_decide_eq_true hb) H
        refine CJ.skip (EJ.next ?_)
        refine CJ.block ?_
        refine CJ.seq ?_
        refine CJ.region ?_
        refine OJ.pures tU_ok 4 rfl ?_
        obtain ⟨t3, ht3, H⟩ := pbind H
        refine OJ.st rfl rfl rfl (SR.idxStr tU_ok rfl rfl rfl rfl ht3) ?_
        refine OJ.pures tU_ok 3 rfl ?_
        refine OJ.nil (EJ.next ?_)
        refine CJ.seq ?_
        refine CJ.seq ?_
        refine CJ.region ?_
        refine OJ.pures tU_ok 2 rfl ?_
        refine OJ.nil (EJ.next ?_)
        refine CJ.cond rfl (fun hb => ?_) (fun hb => ?_)
        · replace H := pif_t (of_decide_eq_true hb) H
          refine CJ.region ?_
          refine OJ.pures tU_ok 1 rfl ?_
          obtain ⟨t4, ht4, H⟩ := pbind H
          refine OJ.callF rfl rfl rfl rfl rfl hb79 rfl (unicode_utf8_DecodeLastRuneInString.c k _ y2 _ ht4) ?_
          rintro _ w1 ⟨rfl, hs⟩
          replace hS := hS.grow hs
          refine OJ.pures tU_ok 5 rfl ?_
          refine OJ.nil (EJ.next ?_)
          refine CJ.seq ?_
          refine CJ.seq ?_
          refine CJ.region ?_
          refine OJ.pures tU_ok 2 rfl ?_
          obtain ⟨t5, ht5, H⟩ := pbind H
          refine OJ.callF rfl rfl rfl rfl rfl hb78 rfl (strings_ContainsRune.c _ a1 t4.1 _ ht5) ?_
          rintro _ w1 ⟨rfl, hs⟩
          replace hS := hS.grow hs
          refine OJ.pures tU_ok 1 rfl ?_
          refine OJ.nil (EJ.next ?_)
          refine CJ.cond rfl (fun hb => ?_) (fun hb => ?_)
          · replace H := pif_t hb H
            refine CJ.exit (EJ.skE (EJ.bkE rfl (EJ.skE (EJ.hit (?_)))))
            exact EJ.meet (F' := [(0, .string y2)]) ⟨rfl, trivial⟩ ⟨y2, H, rfl, hS.pick [] [] rfl⟩
          · replace H := pifb_f hb H
            refine CJ.skip (EJ.next ?_)
            refine CJ.region ?_
            refine OJ.pures tU_ok 5 rfl ?_
            obtain ⟨u6, hu6, H⟩ := pbind H
            refine OJ.st rfl rfl rfl (SR.cutStr tU_ok (0) ((IntKind.i64.wrap ((y2.size : Int) - t4.2)).toNat) rfl rfl rfl rfl rfl (.inl ⟨rfl, rfl⟩) (.inr ⟨_, _, rfl, (by have := (chk_some hu6); omega), rfl⟩) (by have := (chk_some hu6); omega) (by have := (chk_some hu6); omega)) ?_
            refine OJ.pures tU_ok 1 rfl ?_
            refine OJ.nil (EJ.blk (?_))
            exact EJ.round k (F' := [(0, .string (y2.extract 0 ((IntKind.i64.wrap ((y2.size : Int) - t4.2)).toNat))), (1, .string a1)]) ⟨rfl, rfl, trivial⟩ (Nat.lt_succ_self _) ⟨(y2.extract 0 ((IntKind.i64.wrap ((y2.size : Int) - t4.2)).toNat)), rfl, hS.pick [] [] rfl, H⟩
        · replace H := pif_f (of_decide_eq_false hb) H
          refine CJ.skip (EJ.next ?_)
          refine CJ.seq ?_
          refine CJ.seq ?_
          refine CJ.region ?_
          refine OJ.pures tU_ok 2 rfl ?_
          obtain ⟨t7, ht7, H⟩ := pbind H
          refine OJ.callF rfl rfl rfl rfl rfl hb78 rfl (strings_ContainsRune.c _ a1 (IntKind.i32.wrap t3) _ ht7) ?_
          rintro _ w1 ⟨rfl, hs⟩
          replace hS := hS.grow hs
          refine OJ.pures tU_ok 1 rfl ?_
          refine OJ.nil (EJ.next ?_)
          refine CJ.cond rfl (fun hb => ?_) (fun hb => ?_)
          · replace H := pif_t hb H
            refine CJ.exit (EJ.skE (EJ.bkE rfl (EJ.skE (EJ.hit (?_)))))
            exact EJ.meet (F' := [(0, .string y2)]) ⟨rfl, trivial⟩ ⟨y2, H, rfl, hS.pick [] [] rfl⟩
          · replace H := pifb_f hb H
            refine CJ.skip (EJ.next ?_)
            refine CJ.region ?_
            refine OJ.pures tU_ok 5 rfl ?_
            obtain ⟨u8, hu8, H⟩ := pbind H
            refine OJ.st rfl rfl rfl (SR.cutStr tU_ok (0) ((IntKind.i64.wrap ((y2.size : Int) - 1)).toNat) rfl rfl rfl rfl rfl (.inl ⟨rfl, rfl⟩) (.inr ⟨_, _, rfl, (by have := (chk_some hu8); omega), rfl⟩) (by have := (chk_some hu8); omega) (by have := (chk_some hu8); omega)) ?_
            refine OJ.pures tU_ok 1 rfl ?_
            refine OJ.nil (EJ.blk (?_))
            exact EJ.round k (F' := [(0, .string (y2.extract 0 ((IntKind.i64.wrap ((y2.size : Int) - 1)).toNat))), (1, .string a1)]) ⟨rfl, rfl, trivial⟩ (Nat.lt_succ_self _) ⟨(y2.extract 0 ((IntKind.i64.wrap ((y2.size : Int) - 1)).toNat)), rfl, hS.pick [] [] rfl, H⟩
      · replace H := pif_f (of_decide_eq_false hb) H
        refine CJ.exit (EJ.skE (EJ.skE (EJ.hit (?_))))
        exact EJ.meet (F' := [(0, .string y2)]) ⟨rfl, trivial⟩ ⟨y2, H, rfl, hS.pick [] [] rfl⟩
  · rintro F w1 ⟨y1, he, rfl, hS⟩
    obtain rfl := Option.some.inj he
    have H := K117
    refine CJ.seq ?_
    refine CJ.region ?_
    refine OJ.pures tU_ok 2 rfl ?_
    refine OJ.nil (EJ.next ?_)
    refine CJ.ret (?_)
    obtain rfl := Option.some.inj H
    exact EJ.fin rfl (.tmp rfl .nil) ⟨rfl, hS.ext⟩

def strings_trimLeftUnicode.l1 (a1 : ByteArray) : Nat → ByteArray → Option ByteArray
  | 0, _ => none
  | k + 1, y2 => if 0 < (y2.size : Int) then ((unicode_utf8_DecodeRuneInString.f y2).bind fun t3 => (strings_ContainsRune.f a1 t3.1).bind fun t4 => if (!t4) = true then (some y2) else ((chk ((0 : Int) ≤ t3.2 ∧ t3.2 ≤ (y2.size : Int) ∧ (y2.size : Int) ≤ (y2.size : Int))).bind fun u5 => strings_trimLeftUnicode.l1 a1 k (y2.extract t3.2.toNat y2.size))) else (some y2)
def strings_trimLeftUnicode.f (k : Nat) (a0 : ByteArray) (a1 : ByteArray) : Option ByteArray := (strings_trimLeftUnicode.l1 a1 k a0).bind fun y1 => some y1
theorem strings_trimLeftUnicode.c (k : Nat) (w : World) (a0 : ByteArray) (a1 : ByteArray) (r : ByteArray) (H : strings_trimLeftUnicode.f k a0 a1 = some r) :
    CV Tryd.prog 73 [.string a0, .string a1].toArray w fun v w' => v = .string r ∧ Ext w w' := by
  have hS := (St.init w no)
  unfold strings_trimLeftUnicode.f at H
  refine CV.body Tryd.func73 rfl Tryd.ntmps73 rfl ?_
  refine CJ.seq ?_
  refine CJ.region ?_
  refine OJ.pures tU_ok 1 rfl ?_
  refine OJ.nil (EJ.next ?_)
  obtain ⟨j122, H, K122⟩ := pbind H
  refine CJ.cut (fun F w1 => ∃ (y1 : ByteArray) , (some y1 : Option ByteArray) = some j122 ∧ F = [(0, .string y1)] ∧ St w no w1 [] []) ?_ ?_
  · skip
    refine CJ.block ?_
    refine CJ.loop (fun k F w1 => ∃ (y2 : ByteArray), F = [(0, .string y2), (1, .string a1)] ∧ St w no w1 [] [] ∧ strings_trimLeftUnicode.l1 a1 k y2 = some j122) k (F' := [(0, .string a0), (1, .string a1)]) ⟨rfl, rfl, trivial⟩ ⟨a0, rfl, hS.pick [] [] rfl, H⟩ ?_
    rintro k F w1 ⟨y2, rfl, hS, H⟩
    cases k with
    | zero => rw [strings_trimLeftUnicode.l1] at H; cases H
    | succ k =>
      rw [strings_trimLeftUnicode.l1] at H
      refine CJ.seq ?_
      refine CJ.seq ?_
      refine CJ.region ?_
      refine OJ.pures tU_ok 3 rfl ?_
      refine OJ.nil (EJ.next ?_)
      refine CJ.cond rfl (fun hb => ?_) (fun hb => ?_)
      · replace H := pif_t (of_decide_eq_true hb) H
        refine CJ.skip (EJ.next ?_)
        refine CJ.block ?_
        refine CJ.seq ?_
        refine CJ.region ?_
        refine OJ.pures tU_ok 1 rfl ?_
        obtain ⟨t3, ht3, H⟩ := pbind H
        refine OJ.callF rfl rfl rfl rfl rfl hb77 rfl (unicode_utf8_DecodeRuneInString.c _ y2 _ ht3) ?_
        rintro _ w1 ⟨rfl, hs⟩
        replace hS := hS.grow hs
        refine OJ.pures tU_ok 5 rfl ?_
        refine OJ.nil (EJ.next ?_)
        refine CJ.seq ?_
        refine CJ.seq ?_
        refine CJ.region ?_
        refine OJ.pures tU_ok 2 rfl ?_
        obtain ⟨t4, ht4, H⟩ := pbind H
        refine OJ.callF rfl rfl rfl rfl rfl hb78 rfl (strings_ContainsRune.c _ a1 t3.1 _ ht4) ?_
        rintro _ w1 ⟨rfl, hs⟩
        replace hS := hS.grow hs
        refine OJ.pures tU_ok 1 rfl ?_
        refine OJ.nil (EJ.next ?_)
        refine CJ.cond rfl (fun hb => ?_) (fun hb => ?_)
        · replace H := pif_t hb H
          refine CJ.exit (EJ.skE (EJ.bkE rfl (EJ.skE (EJ.hit (?_)))))
          exact EJ.meet (F' := [(0, .string y2)]) ⟨rfl, trivial⟩ ⟨y2, H, rfl, hS.pick [] [] rfl⟩
        · replace H := pifb_f hb H
          refine CJ.skip (EJ.next ?_)
          refine CJ.region ?_
          refine OJ.pures tU_ok 2 rfl ?_
          obtain ⟨u5, hu5, H⟩ := pbind H
          refine OJ.st rfl rfl rfl (SR.cutStr tU_ok (t3.2.toNat) (y2.size) rfl rfl rfl rfl rfl (.inr ⟨_, _, rfl, (chk_some hu5).1, rfl⟩) (.inl ⟨rfl, rfl⟩) (by have := (chk_some hu5); omega) (by have := (chk_some hu5); omega)) ?_
          refine OJ.pures tU_ok 1 rfl ?_
          refine OJ.nil (EJ.blk (?_))
          exact EJ.round k (F' := [(0, .string (y2.extract t3.2.toNat y2.size)), (1, .string a1)]) ⟨rfl, rfl, trivial⟩ (Nat.lt_succ_self _) ⟨(y2.extract t3.2.toNat y2.size), rfl, hS.pick [] [] rfl, H⟩
      · replace H := pif_f (of_decide_eq_false hb) H
        refine CJ.exit (EJ.skE (EJ.skE (EJ.hit (?_))))
        exact EJ.meet (F' := [(0, .string y2)]) ⟨rfl, trivial⟩ ⟨y2, H, rfl, hS.pick [] [] rfl⟩
  · rintro F w1 ⟨y1, he, rfl, hS⟩
    obtain rfl := Option.some.inj he
    have H := K122
    refine CJ.seq ?_
    refine CJ.region ?_
    refine OJ.pures tU_ok 2 rfl ?_
    refine OJ.nil (EJ.next ?_)
    refine CJ.ret (?_)
    obtain rfl := Option.some.inj H
    exact EJ.fin rfl (.tmp rfl .nil) ⟨rfl, hS.ext⟩

def strings_Trim.f (k : Nat) (a0 : ByteArray) (a1 : ByteArray) : Option ByteArray := (if a0 = ByteArray.empty then (some true) else (some (decide (a1 = ByteArray.empty)))).bind fun y1 => if y1 = true then (some a0) else ((if (a1.size : Int) = 1 then ((getB a1 0).bind fun t3 => some (decide (t3 < 128))) else (some false)).bind fun y2 => if y2 = true then ((getB a1 0).bind fun t4 => (getB a1 0).bind fun t5 => (strings_trimRightByte.f k a0 t4).bind fun t6 => (strings_trimLeftByte.f k t6 t5).bind fun t7 => some t7) else ((strings_makeASCIISet.f k a1).bind fun t8 => if t8.2 = true then ((strings_trimRightASCII.f k a0 t8.1).bind fun t10 => (strings_trimLeftASCII.f k t10 t8.1).bind fun t11 => some t11) else ((strings_trimRightUnicode.f k a0 a1).bind fun t12 => (strings_trimLeftUnicode.f k t12 a1).bind fun t13 => some t13)))
theorem strings_Trim.c (k : Nat) (w : World) (a0 : ByteArray) (a1 : ByteArray) (r : ByteArray) (H : strings_Trim.f k a0 a1 = some r) :
    CV Tryd.prog 63 [.string a0, .string a1].toArray w fun v w' => v = .string r ∧ Ext w w' := by
  have hS := (St.init w no)
  unfold strings_Trim.f at H
  refine CV.body Tryd.func63 rfl Tryd.ntmps63 rfl ?_
  refine CJ.seq ?_
  refine CJ.region ?_
  refine OJ.pures tU_ok 1 rfl ?_
  refine OJ.nil (EJ.next ?_)
  refine CJ.seq ?_
  obtain ⟨j110, H, K110⟩ := pbind H
  refine CJ.cut (fun F w1 => ∃ (y1 : Bool) , (some y1 : Option Bool) = some j110 ∧ F = [(0, .string a0), (1, .string a1), (12, .bool y1)] ∧ St w no w1 [] []) ?_ ?_
  · skip
    refine CJ.region ?_
    refine OJ.pures tU_ok 3 rfl ?_
    refine OJ.split (t := 9) rfl (fun hb => ?_) (fun hb => ?_)
    · replace H := pif_t (of_decide_eq_true hb) H
      refine OJ.pures tU_ok 3 rfl ?_
      refine OJ.nil ?_
      exact EJ.meet (F' := [(0, .string a0), (1, .string a1), (12, .bool true)]) ⟨rfl, rfl, rfl, trivial⟩ ⟨true, H, rfl, hS.pick [] [] rfl⟩
    · replace H := pif_f (of_decide_eq_false hb) H
      refine OJ.pures tU_ok 3 rfl ?_
      refine OJ.nil ?_
      exact EJ.meet (F' := [(0, .string a0), (1, .string a1), (12, .bool (decide (a1 = ByteArray.empty)))]) ⟨rfl, rfl, rfl, trivial⟩ ⟨(decide (a1 = ByteArray.empty)), H, rfl, hS.pick [] [] rfl⟩
  · rintro F w1 ⟨y1, he, rfl, hS⟩
    obtain rfl := Option.some.inj he
    have H := K110
    refine CJ.cond rfl (fun hb => ?_) (fun hb => ?_)
    · replace H := pif_t hb H
      refine CJ.seq ?_
      refine CJ.region ?_
      refine OJ.pures tU_ok 2 rfl ?_
      refine OJ.nil (EJ.next ?_)
      refine CJ.ret (EJ.skR (?_))
      obtain rfl := Option.some.inj H
      exact EJ.fin rfl (.tmp rfl .nil) ⟨rfl, hS.ext⟩
    · replace H := pifb_f hb H
      refine CJ.skip (EJ.next ?_)
      refine CJ.seq ?_
      obtain ⟨j111, H, K111⟩ := pbind H
      refine CJ.cut (fun F w1 => ∃ (y2 : Bool) , (some y2 : Option Bool) = some j111 ∧ F = [(0, .string a0), (1, .string a1), (21, .bool y2)] ∧ St w no w1 [] []) ?_ ?_
      · skip
        refine CJ.region ?_
        refine OJ.pures tU_ok 4 rfl ?_
        refine OJ.split (t := 17) rfl (fun hb => ?_) (fun hb => ?_)
        · replace H := pif_t (of_decide_eq_true hb) H
          refine OJ.pures tU_ok 1 rfl ?_
          obtain ⟨t3, ht3, H⟩ := pbind H
          refine OJ.st rfl rfl rfl (SR.idxStr tU_ok rfl rfl rfl rfl ht3) ?_
          refine OJ.pures tU_ok 2 rfl ?_
          refine OJ.nil ?_
          exact EJ.meet (F' := [(0, .string a0), (1, .string a1), (21, .bool (decide (t3 < 128)))]) ⟨rfl, rfl, rfl, trivial⟩ ⟨(decide (t3 < 128)), H, rfl, hS.pick [] [] rfl⟩
        · replace H := pif_f (of_decide_eq_false hb) H
          refine OJ.pures tU_ok 4 rfl ?_
          refine OJ.nil ?_
          exact EJ.meet (F' := [(0, .string a0), (1, .string a1), (21, .bool false)]) ⟨rfl, rfl, rfl, trivial⟩ ⟨false, H, rfl, hS.pick [] [] rfl⟩
      · rintro F w1 ⟨y2, he, rfl, hS⟩
        obtain rfl := Option.some.inj he
        have H := K111
        refine CJ.cond rfl (fun hb => ?_) (fun hb => ?_)
        · replace H := pif_t hb H
          refine CJ.seq ?_
          refine CJ.draw [] [0, 1, 2, 4, 5, 3, 6, 7] mixed (by kernel_rfl) hS fun w1 hS => ?_
          refine DJ.pures tU_ok 2 rfl ?_
          obtain ⟨t4, ht4, H⟩ := pbind H
          refine DJ.st rfl rfl rfl rfl rfl (SR.idxStr tU_ok rfl rfl rfl rfl ht4) ?_
          refine DJ.pures tU_ok 1 rfl ?_
          obtain ⟨t5, ht5, H⟩ := pbind H
          refine DJ.st rfl rfl rfl rfl rfl (SR.idxStr tU_ok rfl rfl rfl rfl ht5) ?_
          obtain ⟨t6, ht6, H⟩ := pbind H
          refine DJ.callF rfl rfl rfl rfl rfl rfl rfl hb69 rfl (strings_trimRightByte.c k _ a0 t4 _ ht6) (by rintro v w' ⟨rfl, hs⟩; exact hs) ?_
          rintro _ w1 ⟨rfl, hs⟩
          replace hS := hS.grow hs
          obtain ⟨t7, ht7, H⟩ := pbind H
          refine DJ.callF rfl rfl rfl rfl rfl rfl rfl hb68 rfl (strings_trimLeftByte.c k _ t6 t5 _ ht7) (by rintro v w' ⟨rfl, hs⟩; exact hs) ?_
          rintro _ w1 ⟨rfl, hs⟩
          replace hS := hS.grow hs
          refine DJ.pures tU_ok 1 rfl ?_
          refine DJ.nil (EJ.next ?_)
          refine CJ.ret (EJ.skR (?_))
          obtain rfl := Option.some.inj H
          exact EJ.fin rfl (.tmp rfl .nil) ⟨rfl, hS.ext⟩
        · replace H := pifb_f hb H
          refine CJ.skip (EJ.next ?_)
          refine CJ.seq ?_
          refine CJ.seq ?_
          refine CJ.region ?_
          refine OJ.pures tU_ok 1 rfl ?_
          obtain ⟨t8, ht8, H⟩ := pbind H
          refine OJ.callF rfl rfl rfl rfl rfl hb70 rfl (strings_makeASCIISet.c k _ a1 _ ht8) ?_
          rintro _ w1 ⟨rfl, hs⟩
          replace hS := hS.grow hs
          refine OJ.pures tU_ok 3 rfl ?_
          refine OJ.ef rfl rfl rfl (Ef.alloc hS tI_ok rfl rfl ((carr 256 cb).enc (Arr.mk' false : Arr 256 Bool)) (by kernel_rfl)) ?_
          rintro _ w1 ⟨b9, rfl, hS⟩
          refine OJ.es rfl rfl (Es.put tI_ok hS (i := 0) rfl rfl rfl rfl rfl (vs := (carr 256 cb).enc t8.1) rfl ((carr 256 cb).len _) ((carr 256 cb).one _) (Put.all (carr 256 cb) (Arr.mk' false : Arr 256 Bool) t8.1) (by (try simp only [add_lit, Nat.add_assoc, Nat.zero_add, Nat.add_zero]) <;> rfl)) ?_
          intro w1 hS
          refine OJ.pures tU_ok 1 rfl ?_
          refine OJ.nil (EJ.next ?_)
          refine CJ.seq ?_
          refine CJ.region ?_
          refine OJ.pures tU_ok 1 rfl ?_
          refine OJ.nil (EJ.next ?_)
          refine CJ.cond rfl (fun hb => ?_) (fun hb => ?_)
          · replace H := pif_t hb H
            refine CJ.seq ?_
            refine CJ.region ?_
            refine OJ.pures tU_ok 1 rfl ?_
            obtain ⟨t10, ht10, H⟩ := pbind H
            refine OJ.callF rfl rfl rfl rfl rfl hb72 rfl (strings_trimRightASCII.c k _ a0 _ t8.1 (hS.cells (i := 0) rfl) _ ht10) ?_
            rintro _ w1 ⟨rfl, hs⟩
            replace hS := hS.grow hs
            obtain ⟨t11, ht11, H⟩ := pbind H
            refine OJ.callF rfl rfl rfl rfl rfl hb71 rfl (strings_trimLeftASCII.c k _ t10 _ t8.1 (hS.cells (i := 0) rfl) _ ht11) ?_
            rintro _ w1 ⟨rfl, hs⟩
            replace hS := hS.grow hs
            refine OJ.pures tU_ok 1 rfl ?_
            refine OJ.nil (EJ.next ?_)
            refine CJ.ret (EJ.skR (?_))
            obtain rfl := Option.some.inj H
            exact EJ.fin rfl (.tmp rfl .nil) ⟨rfl, hS.ext⟩
          · replace H := pifb_f hb H
            refine CJ.skip (EJ.next ?_)
            refine CJ.seq ?_
            refine CJ.region ?_
            refine OJ.pures tU_ok 2 rfl ?_
            obtain ⟨t12, ht12, H⟩ := pbind H
            refine OJ.callF rfl rfl rfl rfl rfl hb74 rfl (strings_trimRightUnicode.c k _ a0 a1 _ ht12) ?_
            rintro _ w1 ⟨rfl, hs⟩
            replace hS := hS.grow hs
            refine OJ.pures tU_ok 1 rfl ?_
            obtain ⟨t13, ht13, H⟩ := pbind H
            refine OJ.callF rfl rfl rfl rfl rfl hb73 rfl (strings_trimLeftUnicode.c k _ t12 a1 _ ht13) ?_
            rintro _ w1 ⟨rfl, hs⟩
            replace hS := hS.grow hs
            refine OJ.pures tU_ok 1 rfl ?_
            refine OJ.nil (EJ.next ?_)
            refine CJ.ret (?_)
            obtain rfl := Option.some.inj H
            exact EJ.fin rfl (.tmp rfl .nil) ⟨rfl, hS.ext⟩

def impl_isName.f (k : Nat) (a0 : ByteArray) : Option Bool := (impl_within.f (a0.size : Int) 1 8).bind fun t1 => if t1 = true then ((strings_Trim.f k a0 (⟨#[97, 98, 99, 100, 101, 102, 103, 104, 105, 106, 107, 108, 109, 110, 111, 112, 113, 114, 115, 116, 117, 118, 119, 120, 121, 122]⟩ : ByteArray)).bind fun t2 => some (decide (t2 = ByteArray.empty))) else (some false)
theorem impl_isName.c (k : Nat) (w : World) (a0 : ByteArray) (r : Bool) (H : impl_isName.f k a0 = some r) :
    CV Tryd.prog 48 [.string a0].toArray w fun v w' => v = .bool r ∧ Ext w w' := by
  have hS := (St.init w no)
  unfold impl_isName.f at H
  refine CV.body Tryd.func48 rfl Tryd.ntmps48 rfl ?_
  refine CJ.seq ?_
  refine CJ.region ?_
  refine OJ.pures tU_ok 1 rfl ?_
  refine OJ.nil (EJ.next ?_)
  refine CJ.seq ?_
  refine CJ.region ?_
  refine OJ.pures tU_ok 2 rfl ?_
  obtain ⟨t1, ht1, H⟩ := pbind H
  refine OJ.callF rfl rfl rfl rfl rfl hb50 rfl (impl_within.c _ (a0.size : Int) 1 8 _ ht1) ?_
  rintro _ w1 ⟨rfl, hs⟩
  replace hS := hS.grow hs
  refine OJ.pures tU_ok 1 rfl ?_
  refine OJ.split (t := 6) rfl (fun hb => ?_) (fun hb => ?_)
  · replace H := pif_t hb H
    refine OJ.pures tU_ok 1 rfl ?_
    obtain ⟨t2, ht2, H⟩ := pbind H
    refine OJ.callF rfl rfl rfl rfl rfl hb63 rfl (strings_Trim.c k _ a0 (⟨#[97, 98, 99, 100, 101, 102, 103, 104, 105, 106, 107, 108, 109, 110, 111, 112, 113, 114, 115, 116, 117, 118, 119, 120, 121, 122]⟩ : ByteArray) _ ht2) ?_
    rintro _ w1 ⟨rfl, hs⟩
    replace hS := hS.grow hs
    refine OJ.pures tU_ok 3 rfl ?_
    refine OJ.nil (EJ.next ?_)
    refine CJ.ret (?_)
    obtain rfl := Option.some.inj H
    exact EJ.fin rfl (.tmp rfl .nil) ⟨rfl, hS.ext⟩
  · replace H := pifb_f hb H
    refine OJ.pures tU_ok 5 rfl ?_
    refine OJ.nil (EJ.next ?_)
    refine CJ.ret (?_)
    obtain rfl := Option.some.inj H
    exact EJ.fin rfl (.tmp rfl .nil) ⟨rfl, hS.ext⟩

def slices_Index_string_string.l1 (a0 : List ByteArray) (a1 : ByteArray) : Nat → Int → Option (Int ⊕ Unit)
  | 0, _ => none
  | k + 1, y1 => if y1 < (a0.length : Int) then ((getI a0 y1).bind fun t2 => if a1 = t2 then (some (Sum.inl y1)) else (slices_Index_string_string.l1 a0 a1 k (IntKind.i64.wrap (y1 + 1)))) else (some (Sum.inr ()))
def slices_Index_string_string.f (k : Nat) (a0 : List ByteArray) (a1 : ByteArray) : Option Int := (slices_Index_string_string.l1 a0 a1 k 0).bind fun s123 => match s123 with | .inl r => some r | .inr _ => some (-1)
theorem slices_Index_string_string.c (k : Nat) (w : World) (Aa0 : Option Addr) (ca0 : Nat) (a0 : List ByteArray) (hr0 : Rd G.cs w Aa0 a0) (hc0 : a0.length ≤ ca0) (a1 : ByteArray) (r : Int) (H : slices_Index_string_string.f k a0 a1 = some r) :
    CV Tryd.prog 64 [.slice Aa0 a0.length ca0, .string a1].toArray w fun v w' => v = .int .i64 r ∧ Ext w w' := by
  have hS := ((St.init w no).param G.cs Aa0 ca0 a0 hr0 hc0)
  unfold slices_Index_string_string.f at H
  refine CV.body Tryd.func64 rfl Tryd.ntmps64 rfl ?_
  refine CJ.seq ?_
  refine CJ.region ?_
  refine OJ.pures tU_ok 1 rfl ?_
  refine OJ.nil (EJ.next ?_)
  refine CJ.seq ?_
  refine CJ.seq ?_
  refine CJ.region ?_
  refine OJ.pures tU_ok 3 rfl ?_
  refine OJ.nil (EJ.next ?_)
  obtain ⟨j123, H, K123⟩ := pbind H
  refine CJ.cut1 (fun F w1 => (some (Sum.inr ()) : Option (Int ⊕ Unit)) = some j123 ∧ F = [] ∧ St w no w1 [] [roC G.cs Aa0 ca0 a0]) ?_ ?_
  · skip
    refine CJ.block ?_
    refine CJ.loop (fun k F w1 => ∃ (y1 : Int), F = [(0, .slice Aa0 a0.length ca0), (1, .string a1), (7, .int .i64 (a0.length : Int)), (8, .int .i64 y1)] ∧ St w no w1 [] [roC G.cs Aa0 ca0 a0] ∧ slices_Index_string_string.l1 a0 a1 k y1 = some j123) k (F' := [(0, .slice Aa0 a0.length ca0), (1, .string a1), (7, .int .i64 (a0.length : Int)), (8, .int .i64 0)]) ⟨rfl, rfl, rfl, rfl, trivial⟩ ⟨0, rfl, hS.pick [] [0] rfl, H⟩ ?_
    rintro k F w1 ⟨y1, rfl, hS, H⟩
    cases k with
    | zero => rw [slices_Index_string_string.l1] at H; cases H
    | succ k =>
      rw [slices_Index_string_string.l1] at H
      refine CJ.seq ?_
      refine CJ.region ?_
      refine OJ.pures tU_ok 1 rfl ?_
      refine OJ.nil (EJ.next ?_)
      refine CJ.seq ?_
      refine CJ.cond rfl (fun hb => ?_) (fun hb => ?_)
      · replace H := pif_t (of_decide_eq_true hb) H
        refine CJ.skip (EJ.next ?_)
        refine CJ.seq ?_
        refine CJ.block ?_
        refine CJ.seq ?_
        refine CJ.region ?_
        refine OJ.pures tU_ok 2 rfl ?_
        refine OJ.nil (EJ.next ?_)
        refine CJ.seq ?_
        refine CJ.region ?_
        refine OJ.pures tU_ok 3 rfl ?_
        obtain ⟨t2, ht2, H⟩ := pbind H
        obtain ⟨ad2, e2⟩ := (hS.rd' (i := 0) rfl).some' ht2
        refine OJ.st rfl rfl rfl (SR.idxS tU_ok tI_ok rfl rfl rfl rfl e2 rfl (getI_some ht2).1) ?_
        refine OJ.st rfl rfl rfl (SR.load rfl rfl (fun w' hx => ld1 tU_ok rfl rfl (CA.ext ((hS.rd' (i := 0) rfl).at_ e2 ht2) hx) rfl)) ?_
        refine OJ.pures tU_ok 1 rfl ?_
        refine OJ.nil (EJ.next ?_)
        refine CJ.cond rfl (fun hb => ?_) (fun hb => ?_)
        · replace H := pif_t (of_decide_eq_true hb) H
          refine CJ.seq ?_
          refine CJ.region ?_
          refine OJ.pures tU_ok 2 rfl ?_
          refine OJ.nil (EJ.next ?_)
          refine CJ.ret (EJ.bkR (EJ.skR (EJ.skR (EJ.bkR (EJ.skR (EJ.skR (?_)))))))
          first | (obtain rfl := Option.some.inj H; have H := K123) | (obtain ⟨q123, H2, e123⟩ := pbind H; obtain rfl := Option.some.inj e123; obtain rfl := Option.some.inj K123; have H := H2)
          obtain rfl := Option.some.inj H
          exact EJ.fin rfl (.tmp rfl .nil) ⟨rfl, hS.ext⟩
        · replace H := pif_f (of_decide_eq_false hb) H
          refine CJ.skip (EJ.blk (EJ.next ?_))
          refine CJ.region ?_
          refine OJ.pures tU_ok 2 rfl ?_
          refine OJ.nil ?_
          exact EJ.round k (F' := [(0, .slice Aa0 a0.length ca0), (1, .string a1), (7, .int .i64 (a0.length : Int)), (8, .int .i64 (IntKind.i64.wrap (y1 + 1)))]) ⟨rfl, rfl, rfl, rfl, trivial⟩ (Nat.lt_succ_self _) ⟨(IntKind.i64.wrap (y1 + 1)), rfl, hS.pick [] [0] rfl, H⟩
      · replace H := pif_f (of_decide_eq_false hb) H
        refine CJ.exit (EJ.skE (EJ.skE (EJ.hit (?_))))
        exact EJ.meet (F' := []) trivial ⟨H, rfl, hS.pick [] [0] rfl⟩
  · rintro F w1 ⟨he, rfl, hS⟩
    obtain rfl := Option.some.inj he
    have H := K123
    refine EJ.next ?_
    refine CJ.seq ?_
    refine CJ.region ?_
    refine OJ.pures tU_ok 1 rfl ?_
    refine OJ.nil (EJ.next ?_)
    refine CJ.ret (?_)
    obtain rfl := Option.some.inj H
    exact EJ.fin rfl (.tmp rfl .nil) ⟨rfl, hS.ext⟩

def slices_Contains_string_string.f (k : Nat) (a0 : List ByteArray) (a1 : ByteArray) : Option Bool := (slices_Index_string_string.f k a0 a1).bind fun t1 => some (decide (0 ≤ t1))
theorem slices_Contains_string_string.c (k : Nat) (w : World) (Aa0 : Option Addr) (ca0 : Nat) (a0 : List ByteArray) (hr0 : Rd G.cs w Aa0 a0) (hc0 : a0.length ≤ ca0) (a1 : ByteArray) (r : Bool) (H : slices_Contains_string_string.f k a0 a1 = some r) :
    CV Tryd.prog 49 [.slice Aa0 a0.length ca0, .string a1].toArray w fun v w' => v = .bool r ∧ Ext w w' := by
  have hS := ((St.init w no).param G.cs Aa0 ca0 a0 hr0 hc0)
  unfold slices_Contains_string_string.f at H
  refine CV.body Tryd.func49 rfl Tryd.ntmps49 rfl ?_
  refine CJ.seq ?_
  refine CJ.region ?_
  refine OJ.pures tU_ok 1 rfl ?_
  refine OJ.nil (EJ.next ?_)
  refine CJ.seq ?_
  refine CJ.region ?_
  refine OJ.pures tU_ok 2 rfl ?_
  obtain ⟨t1, ht1, H⟩ := pbind H
  refine OJ.callF rfl rfl rfl rfl rfl hb64 rfl (slices_Index_string_string.c k _ Aa0 ca0 a0 (hS.rd' (i := 0) rfl) (hS.le' (i := 0) rfl) a1 _ ht1) ?_
  rintro _ w1 ⟨rfl, hs⟩
  replace hS := hS.grow hs
  refine OJ.pures tU_ok 2 rfl ?_
  refine OJ.nil (EJ.next ?_)
  refine CJ.ret (?_)
  obtain rfl := Option.some.inj H
  exact EJ.fin rfl (.tmp rfl .nil) ⟨rfl, hS.ext⟩

def impl_Herd_areFoes.f (a0 : Herd) (a1 : Int) (a2 : Int) : Option Bool := (getI a0.Foes a1).bind fun t2 => (chk (0 ≤ a2)).bind fun u3 => some (decide ((andI .u16 (shrI .u16 t2 a2) 1) = 1))
theorem impl_Herd_areFoes.c (w : World) (Aa0_0 : Option Addr) (ca0_0 : Nat) (Aa0_1 : Option Addr) (ca0_1 : Nat) (Aa0_2 : Option Addr) (ca0_2 : Nat) (a0 : Herd) (hr0_0 : Rd G.cs w Aa0_0 a0.Names) (hc0_0 : a0.Names.length ≤ ca0_0) (hr0_1 : Rd (ci .i16) w Aa0_1 a0.Eats) (hc0_1 : a0.Eats.length ≤ ca0_1) (hr0_2 : Rd (ci .u16) w Aa0_2 a0.Foes) (hc0_2 : a0.Foes.length ≤ ca0_2) (a1 : Int) (a2 : Int) (r : Bool) (H : impl_Herd_areFoes.f a0 a1 a2 = some r) :
    CV Tryd.prog 51 [.agg [.slice Aa0_0 a0.Names.length ca0_0, .slice Aa0_1 a0.Eats.length ca0_1, .slice Aa0_2 a0.Foes.length ca0_2].toArray, .int .i64 a1, .int .i64 a2].toArray w fun v w' => v = .bool r ∧ Ext w w' := by
  have hS := ((((St.init w no).param G.cs Aa0_0 ca0_0 a0.Names hr0_0 hc0_0).param (ci .i16) Aa0_1 ca0_1 a0.Eats hr0_1 hc0_1).param (ci .u16) Aa0_2 ca0_2 a0.Foes hr0_2 hc0_2)
  unfold impl_Herd_areFoes.f at H
  refine CV.body Tryd.func51 rfl Tryd.ntmps51 rfl ?_
  refine CJ.seq ?_
  refine CJ.region ?_
  refine OJ.ef rfl rfl rfl (Ef.box hS rfl rfl ([.slice Aa0_0 a0.Names.length ca0_0, .slice Aa0_1 a0.Eats.length ca0_1, .slice Aa0_2 a0.Foes.length ca0_2]) rfl) ?_
  rintro _ w1 ⟨b1, rfl, hS⟩
  refine OJ.pures tU_ok 1 rfl ?_
  refine OJ.nil (EJ.next ?_)
  refine CJ.seq ?_
  refine CJ.region ?_
  refine OJ.st rfl rfl rfl (SR.fieldAddr tU_ok tI_ok rfl rfl rfl rfl rfl rfl) ?_
  refine OJ.st rfl rfl rfl (SR.load rfl rfl (fun w' hx => ld1 tU_ok rfl rfl (CA.ext (CA.sub (hS.cells (i := 0) rfl) 2) hx) rfl)) ?_
  refine OJ.pures tU_ok 1 rfl ?_
  obtain ⟨t2, ht2, H⟩ := pbind H
  obtain ⟨ad2, e2⟩ := (hS.rd' (i := 2) rfl).some' ht2
  refine OJ.st rfl rfl rfl (SR.idxS tU_ok tI_ok rfl rfl rfl rfl e2 rfl (getI_some ht2).1) ?_
  refine OJ.st rfl rfl rfl (SR.load rfl rfl (fun w' hx => ld1 tU_ok rfl rfl (CA.ext ((hS.rd' (i := 2) rfl).at_ e2 ht2) hx) rfl)) ?_
  refine OJ.pures tU_ok 1 rfl ?_
  obtain ⟨u3, hu3, H⟩ := pbind H
  refine OJ.st rfl rfl rfl (SR.shr rfl rfl rfl (chk_some hu3)) ?_
  refine OJ.pures tU_ok 3 rfl ?_
  refine OJ.nil (EJ.next ?_)
  refine CJ.ret (?_)
  obtain rfl := Option.some.inj H
  exact EJ.fin rfl (.tmp rfl .nil) ⟨rfl, hS.ext⟩

def impl_ValidHerd.l2 (a0 : Herd) (y3 : Int) : Nat → Int → Option (((Bool ⊕ Unit) ⊕ Unit) ⊕ Unit)
  | 0, _ => none
  | k + 1, y14 => if y14 < y3 then ((impl_Herd_areFoes.f a0 y3 y14).bind fun t15 => (impl_Herd_areFoes.f a0 y14 y3).bind fun t16 => if t15 ≠ t16 then (some (Sum.inl (Sum.inl (Sum.inl false)))) else (impl_ValidHerd.l2 a0 y3 k (IntKind.i64.wrap (y14 + 1)))) else (some (Sum.inr ()))
def impl_ValidHerd.l1 (a0 : Herd) : Nat → Int → Option (Bool ⊕ Unit)
  | 0, _ => none
  | k + 1, y3 => if y3 < (a0.Names.length : Int) then (((getI a0.Names y3).bind fun t4 => ((impl_isName.f k t4).bind fun t6 => if (!t6) = true then (some true) else ((chk ((0 : Int) ≤ 0 ∧ 0 ≤ y3 ∧ y3 ≤ (a0.Names.length : Int))).bind fun u7 => (slices_Contains_string_string.f k ((a0.Names.drop 0).take (y3.toNat - 0)) t4).bind fun t8 => if t8 = true then (some true) else ((getI a0.Eats y3).bind fun t9 => (impl_within.f (IntKind.i64.wrap t9) 0 100).bind fun t10 => if (!t10) = true then (some true) else ((getI a0.Foes y3).bind fun t11 => (chk (0 ≤ (a0.Names.length : Int))).bind fun u12 => if (shrI .u16 t11 (a0.Names.length : Int)) ≠ 0 then (some true) else ((impl_Herd_areFoes.f a0 y3 y3).bind fun t13 => some t13))))).bind fun y5 => if y5 = true then (some (Sum.inl (Sum.inl false))) else ((impl_ValidHerd.l2 a0 y3 k 0).bind fun s136 => match s136 with | .inl r => some r | .inr _ => some (Sum.inr ()))).bind fun s132 => match s132 with | .inl r => some r | .inr _ => impl_ValidHerd.l1 a0 k (IntKind.i64.wrap (y3 + 1))) else (some (Sum.inr ()))
def impl_ValidHerd.f (k : Nat) (a0 : Herd) : Option Bool := (if 14 < (a0.Names.length : Int) then (some true) else (if (a0.Eats.length : Int) ≠ (a0.Names.length : Int) then (some true) else (some (decide ((a0.Foes.length : Int) ≠ (a0.Names.length : Int)))))).bind fun y2 => if y2 = true then (some false) else ((impl_ValidHerd.l1 a0 k 0).bind fun s107 => match s107 with | .inl r => some r | .inr _ => some true)
theorem impl_ValidHerd.c (k : Nat) (w : World) (Aa0_0 : Option Addr) (ca0_0 : Nat) (Aa0_1 : Option Addr) (ca0_1 : Nat) (Aa0_2 : Option Addr) (ca0_2 : Nat) (a0 : Herd) (hr0_0 : Rd G.cs w Aa0_0 a0.Names) (hc0_0 : a0.Names.length ≤ ca0_0) (hr0_1 : Rd (ci .i16) w Aa0_1 a0.Eats) (hc0_1 : a0.Eats.length ≤ ca0_1) (hr0_2 : Rd (ci .u16) w Aa0_2 a0.Foes) (hc0_2 : a0.Foes.length ≤ ca0_2) (r : Bool) (H : impl_ValidHerd.f k a0 = some r) :
    CV Tryd.prog 25 [.agg [.slice Aa0_0 a0.Names.length ca0_0, .slice Aa0_1 a0.Eats.length ca0_1, .slice Aa0_2 a0.Foes.length ca0_2].toArray].toArray w fun v w' => v = .bool r ∧ Ext w w' := by
  have hS := ((((St.init w no).param G.cs Aa0_0 ca0_0 a0.Names hr0_0 hc0_0).param (ci .i16) Aa0_1 ca0_1 a0.Eats hr0_1 hc0_1).param (ci .u16) Aa0_2 ca0_2 a0.Foes hr0_2 hc0_2)
  unfold impl_ValidHerd.f at H
  refine CV.body Tryd.func25 rfl Tryd.ntmps25 rfl ?_
  refine CJ.seq ?_
  refine CJ.region ?_
  refine OJ.ef rfl rfl rfl (Ef.box hS rfl rfl ([.slice Aa0_0 a0.Names.length ca0_0, .slice Aa0_1 a0.Eats.length ca0_1, .slice Aa0_2 a0.Foes.length ca0_2]) rfl) ?_
  rintro _ w1 ⟨b1, rfl, hS⟩
  refine OJ.pures tU_ok 1 rfl ?_
  refine OJ.nil (EJ.next ?_)
  refine CJ.seq ?_
  refine CJ.region ?_
  refine OJ.st rfl rfl rfl (SR.fieldAddr tU_ok tI_ok rfl rfl rfl rfl rfl rfl) ?_
  refine OJ.st rfl rfl rfl (SR.load rfl rfl (fun w' hx => ld1 tU_ok rfl rfl (CA.ext (CA.sub (hS.cells (i := 0) rfl) 0) hx) rfl)) ?_
  refine OJ.pures tU_ok 2 rfl ?_
  refine OJ.nil (EJ.next ?_)
  refine CJ.seq ?_
  obtain ⟨j106, H, K106⟩ := pbind H
  refine CJ.cut (fun F w1 => ∃ (y2 : Bool) , (some y2 : Option Bool) = some j106 ∧ F = [(1, .pointer (some ⟨b1, 0, none⟩)), (3, .int .i64 (a0.Names.length : Int)), (25, .bool y2)] ∧ St w no w1 [box b1 ([.slice Aa0_0 a0.Names.length ca0_0, .slice Aa0_1 a0.Eats.length ca0_1, .slice Aa0_2 a0.Foes.length ca0_2]) 31] [roC G.cs Aa0_0 ca0_0 a0.Names, roC (ci .i16) Aa0_1 ca0_1 a0.Eats, roC (ci .u16) Aa0_2 ca0_2 a0.Foes]) ?_ ?_
  · skip
    refine CJ.region ?_
    refine OJ.pures tU_ok 3 rfl ?_
    refine OJ.split (t := 12) rfl (fun hb => ?_) (fun hb => ?_)
    · replace H := pif_t (of_decide_eq_true hb) H
      refine OJ.pures tU_ok 13 rfl ?_
      refine OJ.nil ?_
      exact EJ.meet (F' := [(1, .pointer (some ⟨b1, 0, none⟩)), (3, .int .i64 (a0.Names.length : Int)), (25, .bool true)]) ⟨rfl, rfl, rfl, trivial⟩ ⟨true, H, rfl, hS.pick [0] [0, 1, 2] rfl⟩
    · replace H := pif_f (of_decide_eq_false hb) H
      refine OJ.st rfl rfl rfl (SR.fieldAddr tU_ok tI_ok rfl rfl rfl rfl rfl rfl) ?_
      refine OJ.st rfl rfl rfl (SR.load rfl rfl (fun w' hx => ld1 tU_ok rfl rfl (CA.ext (CA.sub (hS.cells (i := 0) rfl) 1) hx) rfl)) ?_
      refine OJ.pures tU_ok 5 rfl ?_
      refine OJ.split (t := 19) rfl (fun hb => ?_) (fun hb => ?_)
      · replace H := pif_t (of_decide_eq_true hb) H
        refine OJ.pures tU_ok 6 rfl ?_
        refine OJ.nil ?_
        exact EJ.meet (F' := [(1, .pointer (some ⟨b1, 0, none⟩)), (3, .int .i64 (a0.Names.length : Int)), (25, .bool true)]) ⟨rfl, rfl, rfl, trivial⟩ ⟨true, H, rfl, hS.pick [0] [0, 1, 2] rfl⟩
      · replace H := pif_f (of_decide_eq_false hb) H
        refine OJ.st rfl rfl rfl (SR.fieldAddr tU_ok tI_ok rfl rfl rfl rfl rfl rfl) ?_
        refine OJ.st rfl rfl rfl (SR.load rfl rfl (fun w' hx => ld1 tU_ok rfl rfl (CA.ext (CA.sub (hS.cells (i := 0) rfl) 2) hx) rfl)) ?_
        refine OJ.pures tU_ok 4 rfl ?_
        refine OJ.nil ?_
        exact EJ.meet (F' := [(1, .pointer (some ⟨b1, 0, none⟩)), (3, .int .i64 (a0.Names.length : Int)), (25, .bool (decide ((a0.Foes.length : Int) ≠ (a0.Names.length : Int))))]) ⟨rfl, rfl, rfl, trivial⟩ ⟨(decide ((a0.Foes.length : Int) ≠ (a0.Names.length : Int))), H, rfl, hS.pick [0] [0, 1, 2] rfl⟩
  · rintro F w1 ⟨y2, he, rfl, hS⟩
    obtain rfl := Option.some.inj he
    have H := K106
    refine CJ.cond rfl (fun hb => ?_) (fun hb => ?_)
    · replace H := pif_t hb H
      refine CJ.seq ?_
      refine CJ.region ?_
      refine OJ.pures tU_ok 1 rfl ?_
      refine OJ.nil (EJ.next ?_)
      refine CJ.ret (EJ.skR (?_))
      obtain rfl := Option.some.inj H
      exact EJ.fin rfl (.tmp rfl .nil) ⟨rfl, hS.ext⟩
    · replace H := pifb_f hb H
      refine CJ.skip (EJ.next ?_)
      refine CJ.seq ?_
      refine CJ.seq ?_
      refine CJ.region ?_
      refine OJ.st rfl rfl rfl (SR.fieldAddr tU_ok tI_ok rfl rfl rfl rfl rfl rfl) ?_
      refine OJ.st rfl rfl rfl (SR.load rfl rfl (fun w' hx => ld1 tU_ok rfl rfl (CA.ext (CA.sub (hS.cells (i := 0) rfl) 0) hx) rfl)) ?_
      refine OJ.pures tU_ok 2 rfl ?_
      refine OJ.nil (EJ.next ?_)
      obtain ⟨j107, H, K107⟩ := pbind H
      refine CJ.cut1 (fun F w1 => (some (Sum.inr ()) : Option (Bool ⊕ Unit)) = some j107 ∧ F = [] ∧ St w no w1 [] [roC G.cs Aa0_0 ca0_0 a0.Names, roC (ci .i16) Aa0_1 ca0_1 a0.Eats, roC (ci .u16) Aa0_2 ca0_2 a0.Foes]) ?_ ?_
      · skip
        refine CJ.block ?_
        refine CJ.loop (fun k F w1 => ∃ (y3 : Int), F = [(1, .pointer (some ⟨b1, 0, none⟩)), (3, .int .i64 (a0.Names.length : Int)), (27, .slice Aa0_0 a0.Names.length ca0_0), (28, .int .i64 (a0.Names.length : Int)), (29, .int .i64 y3)] ∧ St w no w1 [box b1 ([.slice Aa0_0 a0.Names.length ca0_0, .slice Aa0_1 a0.Eats.length ca0_1, .slice Aa0_2 a0.Foes.length ca0_2]) 31] [roC G.cs Aa0_0 ca0_0 a0.Names, roC (ci .i16) Aa0_1 ca0_1 a0.Eats, roC (ci .u16) Aa0_2 ca0_2 a0.Foes] ∧ impl_ValidHerd.l1 a0 k y3 = some j107) k (F' := [(1, .pointer (some ⟨b1, 0, none⟩)), (3, .int .i64 (a0.Names.length : Int)), (27, .slice Aa0_0 a0.Names.length ca0_0), (28, .int .i64 (a0.Names.length : Int)), (29, .int .i64 0)]) ⟨rfl, rfl, rfl, rfl, rfl, trivial⟩ ⟨0, rfl, hS.pick [0] [0, 1, 2] rfl, H⟩ ?_
        rintro k F w1 ⟨y3, rfl, hS, H⟩
        cases k with
        | zero => rw [impl_ValidHerd.l1] at H; cases H
        | succ k =>
          rw [impl_ValidHerd.l1] at H
          refine CJ.seq ?_
          refine CJ.region ?_
          refine OJ.pures tU_ok 1 rfl ?_
          refine OJ.nil (EJ.next ?_)
          refine CJ.seq ?_
          refine CJ.cond rfl (fun hb => ?_) (fun hb => ?_)
          · replace H := pif_t (of_decide_eq_true hb) H
            refine CJ.skip (EJ.next ?_)
            obtain ⟨j132, H, K132⟩ := pbind H
            refine CJ.cut (fun F w1 => (some (Sum.inr ()) : Option ((Bool ⊕ Unit) ⊕ Unit)) = some j132 ∧ F = [(1, .pointer (some ⟨b1, 0, none⟩)), (3, .int .i64 (a0.Names.length : Int)), (27, .slice Aa0_0 a0.Names.length ca0_0), (28, .int .i64 (a0.Names.length : Int)), (29, .int .i64 y3)] ∧ St w no w1 [box b1 ([.slice Aa0_0 a0.Names.length ca0_0, .slice Aa0_1 a0.Eats.length ca0_1, .slice Aa0_2 a0.Foes.length ca0_2]) 31] [roC G.cs Aa0_0 ca0_0 a0.Names, roC (ci .i16) Aa0_1 ca0_1 a0.Eats, roC (ci .u16) Aa0_2 ca0_2 a0.Foes]) ?_ ?_
            · skip
              refine CJ.block ?_
              refine CJ.seq ?_
              refine CJ.region ?_
              refine OJ.pures tU_ok 1 rfl ?_
              obtain ⟨t4, ht4, H⟩ := pbind H
              obtain ⟨ad4, e4⟩ := (hS.rd' (i := 0) rfl).some' ht4
              refine OJ.st rfl rfl rfl (SR.idxS tU_ok tI_ok rfl rfl rfl rfl e4 rfl (getI_some ht4).1) ?_
              refine OJ.st rfl rfl rfl (SR.load rfl rfl (fun w' hx => ld1 tU_ok rfl rfl (CA.ext ((hS.rd' (i := 0) rfl).at_ e4 ht4) hx) rfl)) ?_
              refine OJ.pures tU_ok 2 rfl ?_
              refine OJ.nil (EJ.next ?_)
              refine CJ.seq ?_
              obtain ⟨j135, H, K135⟩ := pbind H
              refine CJ.cut (fun F w1 => ∃ (y5 : Bool) , (some y5 : Option Bool) = some j135 ∧ F = [(1, .pointer (some ⟨b1, 0, none⟩)), (3, .int .i64 (a0.Names.length : Int)), (4, .int .i64 y3), (27, .slice Aa0_0 a0.Names.length ca0_0), (28, .int .i64 (a0.Names.length : Int)), (29, .int .i64 y3), (70, .bool y5)] ∧ St w no w1 [box b1 ([.slice Aa0_0 a0.Names.length ca0_0, .slice Aa0_1 a0.Eats.length ca0_1, .slice Aa0_2 a0.Foes.length ca0_2]) 31] [roC G.cs Aa0_0 ca0_0 a0.Names, roC (ci .i16) Aa0_1 ca0_1 a0.Eats, roC (ci .u16) Aa0_2 ca0_2 a0.Foes]) ?_ ?_
              · skip
                refine CJ.region ?_
                refine OJ.pures tU_ok 1 rfl ?_
                obtain ⟨t6, ht6, H⟩ := pbind H
                refine OJ.callF rfl rfl rfl rfl rfl hb48 rfl (impl_isName.c k _ t4 _ ht6) ?_
                rintro _ w1 ⟨rfl, hs⟩
                replace hS := hS.grow hs
                refine OJ.pures tU_ok 2 rfl ?_
                refine OJ.split (t := 37) rfl (fun hb => ?_) (fun hb => ?_)
                · replace H := pif_t hb H
                  refine OJ.pures tU_ok 33 rfl ?_
                  refine OJ.nil ?_
                  exact EJ.meet (F' := [(1, .pointer (some ⟨b1, 0, none⟩)), (3, .int .i64 (a0.Names.length : Int)), (4, .int .i64 y3), (27, .slice Aa0_0 a0.Names.length ca0_0), (28, .int .i64 (a0.Names.length : Int)), (29, .int .i64 y3), (70, .bool true)]) ⟨rfl, rfl, rfl, rfl, rfl, rfl, rfl, trivial⟩ ⟨true, H, rfl, hS.pick [0] [0, 1, 2] rfl⟩
                · replace H := pifb_f hb H
                  refine OJ.st rfl rfl rfl (SR.fieldAddr tU_ok tI_ok rfl rfl rfl rfl rfl rfl) ?_
                  refine OJ.st rfl rfl rfl (SR.load rfl rfl (fun w' hx => ld1 tU_ok rfl rfl (CA.ext (CA.sub (hS.cells (i := 0) rfl) 0) hx) rfl)) ?_
                  refine OJ.pures tU_ok 1 rfl ?_
                  obtain ⟨u7, hu7, H⟩ := pbind H
                  refine OJ.st rfl rfl rfl (SR.cutS tU_ok tI_ok (0) (y3.toNat) rfl rfl rfl rfl rfl rfl (.inl ⟨rfl, rfl⟩) (.inr ⟨_, _, rfl, (by have := (chk_some hu7); omega), rfl⟩) (by have := (chk_some hu7); omega) (by have := (chk_some hu7); have := (hS.le' (i := 0) rfl : a0.Names.length ≤ ca0_0); omega)) ?_
                  replace hS := hS.cutR (i := 0) (lo := 0) (hi := y3.toNat) rfl (by have := (chk_some hu7); omega) (by have := (chk_some hu7); omega)
                  refine OJ.as (t := 41) rfl (show _ = (.slice (cutA Aa0_0 ca0_0 0 G.cs.sz) ((a0.Names.drop 0).take (y3.toNat - 0)).length (ca0_0 - 0) : Value) by rw [cutLen (by have := (chk_some hu7); omega) (by have := (chk_some hu7); omega)]; rfl) ?_
                  refine OJ.pures tU_ok 1 rfl ?_
                  obtain ⟨t8, ht8, H⟩ := pbind H
                  refine OJ.callF rfl rfl rfl rfl rfl hb49 rfl (slices_Contains_string_string.c k _ (cutA Aa0_0 ca0_0 0 G.cs.sz) (ca0_0 - 0) ((a0.Names.drop 0).take (y3.toNat - 0)) (hS.rd' (i := 3) rfl) (hS.le' (i := 3) rfl) t4 _ ht8) ?_
                  rintro _ w1 ⟨rfl, hs⟩
                  replace hS := hS.grow hs
                  refine OJ.pures tU_ok 2 rfl ?_
                  refine OJ.split (t := 45) rfl (fun hb => ?_) (fun hb => ?_)
                  · replace H := pif_t hb H
                    refine OJ.pures tU_ok 25 rfl ?_
                    refine OJ.nil ?_
                    exact EJ.meet (F' := [(1, .pointer (some ⟨b1, 0, none⟩)), (3, .int .i64 (a0.Names.length : Int)), (4, .int .i64 y3), (27, .slice Aa0_0 a0.Names.length ca0_0), (28, .int .i64 (a0.Names.length : Int)), (29, .int .i64 y3), (70, .bool true)]) ⟨rfl, rfl, rfl, rfl, rfl, rfl, rfl, trivial⟩ ⟨true, H, rfl, hS.pick [0] [0, 1, 2] rfl⟩
                  · replace H := pifb_f hb H
                    refine OJ.st rfl rfl rfl (SR.fieldAddr tU_ok tI_ok rfl rfl rfl rfl rfl rfl) ?_
                    refine OJ.st rfl rfl rfl (SR.load rfl rfl (fun w' hx => ld1 tU_ok rfl rfl (CA.ext (CA.sub (hS.cells (i := 0) rfl) 1) hx) rfl)) ?_
                    refine OJ.pures tU_ok 1 rfl ?_
                    obtain ⟨t9, ht9, H⟩ := pbind H
                    obtain ⟨ad9, e9⟩ := (hS.rd' (i := 1) rfl).some' ht9
                    refine OJ.st rfl rfl rfl (SR.idxS tU_ok tI_ok rfl rfl rfl rfl e9 rfl (getI_some ht9).1) ?_
                    refine OJ.st rfl rfl rfl (SR.load rfl rfl (fun w' hx => ld1 tU_ok rfl rfl (CA.ext ((hS.rd' (i := 1) rfl).at_ e9 ht9) hx) rfl)) ?_
                    refine OJ.pures tU_ok 1 rfl ?_
                    obtain ⟨t10, ht10, H⟩ := pbind H
                    refine OJ.callF rfl rfl rfl rfl rfl hb50 rfl (impl_within.c _ (IntKind.i64.wrap t9) 0 100 _ ht10) ?_
                    rintro _ w1 ⟨rfl, hs⟩
                    replace hS := hS.grow hs
                    refine OJ.pures tU_ok 3 rfl ?_
                    refine OJ.split (t := 55) rfl (fun hb => ?_) (fun hb => ?_)
                    · replace H := pif_t hb H
                      refine OJ.pures tU_ok 15 rfl ?_
                      refine OJ.nil ?_
                      exact EJ.meet (F' := [(1, .pointer (some ⟨b1, 0, none⟩)), (3, .int .i64 (a0.Names.length : Int)), (4, .int .i64 y3), (27, .slice Aa0_0 a0.Names.length ca0_0), (28, .int .i64 (a0.Names.length : Int)), (29, .int .i64 y3), (70, .bool true)]) ⟨rfl, rfl, rfl, rfl, rfl, rfl, rfl, trivial⟩ ⟨true, H, rfl, hS.pick [0] [0, 1, 2] rfl⟩
                    · replace H := pifb_f hb H
                      refine OJ.st rfl rfl rfl (SR.fieldAddr tU_ok tI_ok rfl rfl rfl rfl rfl rfl) ?_
                      refine OJ.st rfl rfl rfl (SR.load rfl rfl (fun w' hx => ld1 tU_ok rfl rfl (CA.ext (CA.sub (hS.cells (i := 0) rfl) 2) hx) rfl)) ?_
                      refine OJ.pures tU_ok 1 rfl ?_
                      obtain ⟨t11, ht11, H⟩ := pbind H
                      obtain ⟨ad11, e11⟩ := (hS.rd' (i := 2) rfl).some' ht11
                      refine OJ.st rfl rfl rfl (SR.idxS tU_ok tI_ok rfl rfl rfl rfl e11 rfl (getI_some ht11).1) ?_
                      refine OJ.st rfl rfl rfl (SR.load rfl rfl (fun w' hx => ld1 tU_ok rfl rfl (CA.ext ((hS.rd' (i := 2) rfl).at_ e11 ht11) hx) rfl)) ?_
                      refine OJ.pures tU_ok 1 rfl ?_
                      obtain ⟨u12, hu12, H⟩ := pbind H
                      refine OJ.st rfl rfl rfl (SR.shr rfl rfl rfl (chk_some hu12)) ?_
                      refine OJ.pures tU_ok 3 rfl ?_
                      refine OJ.split (t := 65) rfl (fun hb => ?_) (fun hb => ?_)
                      · replace H := pif_t (of_decide_eq_true hb) H
                        refine OJ.pures tU_ok 5 rfl ?_
                        refine OJ.nil ?_
                        exact EJ.meet (F' := [(1, .pointer (some ⟨b1, 0, none⟩)), (3, .int .i64 (a0.Names.length : Int)), (4, .int .i64 y3), (27, .slice Aa0_0 a0.Names.length ca0_0), (28, .int .i64 (a0.Names.length : Int)), (29, .int .i64 y3), (70, .bool true)]) ⟨rfl, rfl, rfl, rfl, rfl, rfl, rfl, trivial⟩ ⟨true, H, rfl, hS.pick [0] [0, 1, 2] rfl⟩
                      · replace H := pif_f (of_decide_eq_false hb) H
                        refine OJ.st rfl rfl rfl (SR.load rfl rfl (fun w' hx => ldN tU_ok tI_ok rfl rfl rfl (CA.ext (hS.cells (i := 0) rfl) hx) (ds := [.slice Aa0_0 a0.Names.length ca0_0, .slice Aa0_1 a0.Eats.length ca0_1, .slice Aa0_2 a0.Foes.length ca0_2]) rfl rfl)) ?_
                        refine OJ.pures tU_ok 2 rfl ?_
                        obtain ⟨t13, ht13, H⟩ := pbind H
                        refine OJ.callF rfl rfl rfl rfl rfl hb51 rfl (impl_Herd_areFoes.c _ Aa0_0 ca0_0 Aa0_1 ca0_1 Aa0_2 ca0_2 a0 (hS.rd' (i := 0) rfl) (hS.le' (i := 0) rfl) (hS.rd' (i := 1) rfl) (hS.le' (i := 1) rfl) (hS.rd' (i := 2) rfl) (hS.le' (i := 2) rfl) y3 y3 _ ht13) ?_
                        rintro _ w1 ⟨rfl, hs⟩
                        replace hS := hS.grow hs
                        refine OJ.pures tU_ok 1 rfl ?_
                        refine OJ.nil ?_
                        exact EJ.meet (F' := [(1, .pointer (some ⟨b1, 0, none⟩)), (3, .int .i64 (a0.Names.length : Int)), (4, .int .i64 y3), (27, .slice Aa0_0 a0.Names.length ca0_0), (28, .int .i64 (a0.Names.length : Int)), (29, .int .i64 y3), (70, .bool t13)]) ⟨rfl, rfl, rfl, rfl, rfl, rfl, rfl, trivial⟩ ⟨t13, H, rfl, hS.pick [0] [0, 1, 2] rfl⟩
              · rintro F w1 ⟨y5, he, rfl, hS⟩
                obtain rfl := Option.some.inj he
                have H := K135
                refine CJ.cond rfl (fun hb => ?_) (fun hb => ?_)
                · replace H := pif_t hb H
                  refine CJ.seq ?_
                  refine CJ.region ?_
                  refine OJ.pures tU_ok 1 rfl ?_
                  refine OJ.nil (EJ.next ?_)
                  refine CJ.ret (EJ.skR (EJ.bkR (EJ.skR (EJ.skR (EJ.bkR (EJ.skR (EJ.skR (?_))))))))
                  first | (obtain rfl := Option.some.inj H; have H := K132) | (obtain ⟨q132, H2, e132⟩ := pbind H; obtain rfl := Option.some.inj e132; obtain rfl := Option.some.inj K132; have H := H2)
                  first | (obtain rfl := Option.some.inj H; have H := K107) | (obtain ⟨q107, H2, e107⟩ := pbind H; obtain rfl := Option.some.inj e107; obtain rfl := Option.some.inj K107; have H := H2)
                  obtain rfl := Option.some.inj H
                  exact EJ.fin rfl (.tmp rfl .nil) ⟨rfl, hS.ext⟩
                · replace H := pifb_f hb H
                  refine CJ.skip (EJ.next ?_)
                  refine CJ.seq ?_
                  refine CJ.region ?_
                  refine OJ.pures tU_ok 2 rfl ?_
                  refine OJ.nil (EJ.next ?_)
                  obtain ⟨j136, H, K136⟩ := pbind H
                  refine CJ.cut1 (fun F w1 => (some (Sum.inr ()) : Option (((Bool ⊕ Unit) ⊕ Unit) ⊕ Unit)) = some j136 ∧ F = [(1, .pointer (some ⟨b1, 0, none⟩)), (3, .int .i64 (a0.Names.length : Int)), (27, .slice Aa0_0 a0.Names.length ca0_0), (28, .int .i64 (a0.Names.length : Int)), (29, .int .i64 y3)] ∧ St w no w1 [box b1 ([.slice Aa0_0 a0.Names.length ca0_0, .slice Aa0_1 a0.Eats.length ca0_1, .slice Aa0_2 a0.Foes.length ca0_2]) 31] [roC G.cs Aa0_0 ca0_0 a0.Names, roC (ci .i16) Aa0_1 ca0_1 a0.Eats, roC (ci .u16) Aa0_2 ca0_2 a0.Foes]) ?_ ?_
                  · skip
                    refine CJ.block ?_
                    refine CJ.loop (fun k F w1 => ∃ (y14 : Int), F = [(1, .pointer (some ⟨b1, 0, none⟩)), (3, .int .i64 (a0.Names.length : Int)), (4, .int .i64 y3), (27, .slice Aa0_0 a0.Names.length ca0_0), (28, .int .i64 (a0.Names.length : Int)), (29, .int .i64 y3), (71, .int .i64 y3), (72, .int .i64 y14)] ∧ St w no w1 [box b1 ([.slice Aa0_0 a0.Names.length ca0_0, .slice Aa0_1 a0.Eats.length ca0_1, .slice Aa0_2 a0.Foes.length ca0_2]) 31] [roC G.cs Aa0_0 ca0_0 a0.Names, roC (ci .i16) Aa0_1 ca0_1 a0.Eats, roC (ci .u16) Aa0_2 ca0_2 a0.Foes] ∧ impl_ValidHerd.l2 a0 y3 k y14 = some j136) k (F' := [(1, .pointer (some ⟨b1, 0, none⟩)), (3, .int .i64 (a0.Names.length : Int)), (4, .int .i64 y3), (27, .slice Aa0_0 a0.Names.length ca0_0), (28, .int .i64 (a0.Names.length : Int)), (29, .int .i64 y3), (71, .int .i64 y3), (72, .int .i64 0)]) ⟨rfl, rfl, rfl, rfl, rfl, rfl, rfl, rfl, trivial⟩ ⟨0, rfl, hS.pick [0] [0, 1, 2] rfl, H⟩ ?_
                    rintro k F w1 ⟨y14, rfl, hS, H⟩
                    cases k with
                    | zero => rw [impl_ValidHerd.l2] at H; cases H
                    | succ k =>
                      rw [impl_ValidHerd.l2] at H
                      refine CJ.seq ?_
                      refine CJ.region ?_
                      refine OJ.pures tU_ok 1 rfl ?_
                      refine OJ.nil (EJ.next ?_)
                      refine CJ.seq ?_
                      refine CJ.cond rfl (fun hb => ?_) (fun hb => ?_)
                      · replace H := pif_t (of_decide_eq_true hb) H
                        refine CJ.skip (EJ.next ?_)
                        refine CJ.seq ?_
                        refine CJ.block ?_
                        refine CJ.seq ?_
                        refine CJ.region ?_
                        refine OJ.pures tU_ok 2 rfl ?_
                        refine OJ.nil (EJ.next ?_)
                        refine CJ.seq ?_
                        refine CJ.draw [] [0, 1, 2, 4, 5, 6, 3, 7, 8] mixed (by kernel_rfl) hS fun w1 hS => ?_
                        refine DJ.st rfl rfl rfl rfl rfl (SR.load rfl rfl (fun w' hx => ldN tU_ok tI_ok rfl rfl rfl (CA.ext (hS.cells (i := 0) rfl) hx) (ds := [.slice Aa0_0 a0.Names.length ca0_0, .slice Aa0_1 a0.Eats.length ca0_1, .slice Aa0_2 a0.Foes.length ca0_2]) rfl rfl)) ?_
                        refine DJ.pures tU_ok 2 rfl ?_
                        refine DJ.st rfl rfl rfl rfl rfl (SR.load rfl rfl (fun w' hx => ldN tU_ok tI_ok rfl rfl rfl (CA.ext (hS.cells (i := 0) rfl) hx) (ds := [.slice Aa0_0 a0.Names.length ca0_0, .slice Aa0_1 a0.Eats.length ca0_1, .slice Aa0_2 a0.Foes.length ca0_2]) rfl rfl)) ?_
                        refine DJ.pures tU_ok 2 rfl ?_
                        obtain ⟨t15, ht15, H⟩ := pbind H
                        refine DJ.callF rfl rfl rfl rfl rfl rfl rfl hb51 rfl (impl_Herd_areFoes.c _ Aa0_0 ca0_0 Aa0_1 ca0_1 Aa0_2 ca0_2 a0 (hS.rd' (i := 0) rfl) (hS.le' (i := 0) rfl) (hS.rd' (i := 1) rfl) (hS.le' (i := 1) rfl) (hS.rd' (i := 2) rfl) (hS.le' (i := 2) rfl) y3 y14 _ ht15) (by rintro v w' ⟨rfl, hs⟩; exact hs) ?_
                        rintro _ w1 ⟨rfl, hs⟩
                        replace hS := hS.grow hs
                        obtain ⟨t16, ht16, H⟩ := pbind H
                        refine DJ.callF rfl rfl rfl rfl rfl rfl rfl hb51 rfl (impl_Herd_areFoes.c _ Aa0_0 ca0_0 Aa0_1 ca0_1 Aa0_2 ca0_2 a0 (hS.rd' (i := 0) rfl) (hS.le' (i := 0) rfl) (hS.rd' (i := 1) rfl) (hS.le' (i := 1) rfl) (hS.rd' (i := 2) rfl) (hS.le' (i := 2) rfl) y14 y3 _ ht16) (by rintro v w' ⟨rfl, hs⟩; exact hs) ?_
                        rintro _ w1 ⟨rfl, hs⟩
                        replace hS := hS.grow hs
                        refine DJ.st rfl rfl rfl rfl rfl (SR.neB tU_ok rfl rfl rfl rfl) ?_
                        refine DJ.nil (EJ.next ?_)
                        refine CJ.cond rfl (fun hb => ?_) (fun hb => ?_)
                        · replace H := pif_t (of_decide_eq_true hb) H
                          refine CJ.seq ?_
                          refine CJ.region ?_
                          refine OJ.pures tU_ok 1 rfl ?_
                          refine OJ.nil (EJ.next ?_)
                          refine CJ.ret (EJ.bkR (EJ.skR (EJ.skR (EJ.bkR (EJ.skR (EJ.bkR (EJ.skR (EJ.skR (EJ.bkR (EJ.skR (EJ.skR (?_))))))))))))
                          first | (obtain rfl := Option.some.inj H; have H := K136) | (obtain ⟨q136, H2, e136⟩ := pbind H; obtain rfl := Option.some.inj e136; obtain rfl := Option.some.inj K136; have H := H2)
                          first | (obtain rfl := Option.some.inj H; have H := K132) | (obtain ⟨q132, H2, e132⟩ := pbind H; obtain rfl := Option.some.inj e132; obtain rfl := Option.some.inj K132; have H := H2)
                          first | (obtain rfl := Option.some.inj H; have H := K107) | (obtain ⟨q107, H2, e107⟩ := pbind H; obtain rfl := Option.some.inj e107; obtain rfl := Option.some.inj K107; have H := H2)
                          obtain rfl := Option.some.inj H
                          exact EJ.fin rfl (.tmp rfl .nil) ⟨rfl, hS.ext⟩
                        · replace H := pif_f (of_decide_eq_false hb) H
                          refine CJ.skip (EJ.blk (EJ.next ?_))
                          refine CJ.region ?_
                          refine OJ.pures tU_ok 2 rfl ?_
                          refine OJ.nil ?_
                          exact EJ.round k (F' := [(1, .pointer (some ⟨b1, 0, none⟩)), (3, .int .i64 (a0.Names.length : Int)), (4, .int .i64 y3), (27, .slice Aa0_0 a0.Names.length ca0_0), (28, .int .i64 (a0.Names.length : Int)), (29, .int .i64 y3), (71, .int .i64 y3), (72, .int .i64 (IntKind.i64.wrap (y14 + 1)))]) ⟨rfl, rfl, rfl, rfl, rfl, rfl, rfl, rfl, trivial⟩ (Nat.lt_succ_self _) ⟨(IntKind.i64.wrap (y14 + 1)), rfl, hS.pick [0] [0, 1, 2] rfl, H⟩
                      · replace H := pif_f (of_decide_eq_false hb) H
                        refine CJ.exit (EJ.skE (EJ.skE (EJ.hit (?_))))
                        exact EJ.meet (F' := [(1, .pointer (some ⟨b1, 0, none⟩)), (3, .int .i64 (a0.Names.length : Int)), (27, .slice Aa0_0 a0.Names.length ca0_0), (28, .int .i64 (a0.Names.length : Int)), (29, .int .i64 y3)]) ⟨rfl, rfl, rfl, rfl, rfl, trivial⟩ ⟨H, rfl, hS.pick [0] [0, 1, 2] rfl⟩
                  · rintro F w1 ⟨he, rfl, hS⟩
                    obtain rfl := Option.some.inj he
                    have H := K136
                    refine EJ.blk (?_)
                    exact EJ.meet (F' := [(1, .pointer (some ⟨b1, 0, none⟩)), (3, .int .i64 (a0.Names.length : Int)), (27, .slice Aa0_0 a0.Names.length ca0_0), (28, .int .i64 (a0.Names.length : Int)), (29, .int .i64 y3)]) ⟨rfl, rfl, rfl, rfl, rfl, trivial⟩ ⟨H, rfl, hS.pick [0] [0, 1, 2] rfl⟩
            · rintro F w1 ⟨he, rfl, hS⟩
              obtain rfl := Option.some.inj he
              have H := K132
              refine CJ.region ?_
              refine OJ.pures tU_ok 2 rfl ?_
              refine OJ.nil ?_
              exact EJ.round k (F' := [(1, .pointer (some ⟨b1, 0, none⟩)), (3, .int .i64 (a0.Names.length : Int)), (27, .slice Aa0_0 a0.Names.length ca0_0), (28, .int .i64 (a0.Names.length : Int)), (29, .int .i64 (IntKind.i64.wrap (y3 + 1)))]) ⟨rfl, rfl, rfl, rfl, rfl, trivial⟩ (Nat.lt_succ_self _) ⟨(IntKind.i64.wrap (y3 + 1)), rfl, hS.pick [0] [0, 1, 2] rfl, H⟩
          · replace H := pif_f (of_decide_eq_false hb) H
            refine CJ.exit (EJ.skE (EJ.skE (EJ.hit (?_))))
            exact EJ.meet (F' := []) trivial ⟨H, rfl, hS.pick [] [0, 1, 2] rfl⟩
      · rintro F w1 ⟨he, rfl, hS⟩
        obtain rfl := Option.some.inj he
        have H := K107
        refine EJ.next ?_
        refine CJ.seq ?_
        refine CJ.region ?_
        refine OJ.pures tU_ok 1 rfl ?_
        refine OJ.nil (EJ.next ?_)
        refine CJ.ret (?_)
        obtain rfl := Option.some.inj H
        exact EJ.fin rfl (.tmp rfl .nil) ⟨rfl, hS.ext⟩

def impl_listed.l1 (a0 : Int) : Nat → (List Int) → Int → Option (List Int)
  | 0, _, _ => none
  | k + 1, y5, y8 => if y8 < 16 then ((chk (0 ≤ y8)).bind fun u9 => if (andI .u16 (shrI .u16 a0 y8) 1) = 1 then ((chk (y5.length + ([y8] : List Int).length ≤ 4294967296)).bind fun u11 => impl_listed.l1 a0 k (y5 ++ ([y8] : List Int)) (IntKind.i64.wrap (y8 + 1))) else (impl_listed.l1 a0 k y5 (IntKind.i64.wrap (y8 + 1)))) else (some y5)
def impl_listed.f (k : Nat) (a0 : Int) : Option (List Int) := (impl_listed.l1 a0 k ([] : List Int) 0).bind fun y2 => some y2
theorem impl_listed.c (k : Nat) (w : World) (a0 : Int) (r : List Int) (H : impl_listed.f k a0 = some r) :
    CV Tryd.prog 52 [.int .u16 a0].toArray w fun v w' => ∃ (A0 : Option Addr) (c0 : Nat), v = .slice A0 r.length c0 ∧ St w no w' [rowC (ci .i64) A0 c0 2 r] [] := by
  have hS := (St.init w no)
  unfold impl_listed.f at H
  refine CV.body Tryd.func52 rfl Tryd.ntmps52 rfl ?_
  refine CJ.seq ?_
  refine CJ.region ?_
  refine OJ.pures tU_ok 1 rfl ?_
  refine OJ.nil (EJ.next ?_)
  refine CJ.seq ?_
  refine CJ.region ?_
  refine OJ.ef rfl rfl rfl (Ef.lit tU_ok tI_ok hS (C := (ci .i64)) rfl rfl rfl rfl rfl rfl ([] : List Int) rfl rfl rfl rfl) ?_
  rintro _ w1 ⟨A1, rfl, hS⟩
  refine OJ.pures tU_ok 1 rfl ?_
  refine OJ.nil (EJ.next ?_)
  refine CJ.seq ?_
  refine CJ.seq ?_
  refine CJ.region ?_
  refine OJ.pures tU_ok 1 rfl ?_
  refine OJ.nil (EJ.next ?_)
  obtain ⟨j139, H, K139⟩ := pbind H
  refine CJ.cut1 (fun F w1 => ∃ (y2 : List Int) (A3 : Option Addr) (c4 : Nat), (some y2 : Option (List Int)) = some j139 ∧ F = [(3, .slice A3 y2.length c4)] ∧ St w no w1 [rowC (ci .i64) A3 c4 2 y2] []) ?_ ?_
  · skip
    refine CJ.block ?_
    refine CJ.loop (fun k F w1 => ∃ (y5 : List Int) (y8 : Int) (A6 : Option Addr) (c7 : Nat), F = [(0, .int .u16 a0), (3, .slice A6 y5.length c7), (6, .int .i64 y8)] ∧ St w no w1 [rowC (ci .i64) A6 c7 2 y5] [] ∧ impl_listed.l1 a0 k y5 y8 = some j139) k (F' := [(0, .int .u16 a0), (3, .slice A1 ([] : List Int).length (([] : List Int).length)), (6, .int .i64 0)]) ⟨rfl, rfl, rfl, trivial⟩ ⟨([] : List Int), 0, A1, (([] : List Int).length), rfl, hS.pick [0] [] rfl, H⟩ ?_
    rintro k F w1 ⟨y5, y8, A6, c7, rfl, hS, H⟩
    cases k with
    | zero => rw [impl_listed.l1] at H; cases H
    | succ k =>
      rw [impl_listed.l1] at H
      refine CJ.seq ?_
      refine CJ.region ?_
      refine OJ.pures tU_ok 1 rfl ?_
      refine OJ.nil (EJ.next ?_)
      refine CJ.seq ?_
      refine CJ.cond rfl (fun hb => ?_) (fun hb => ?_)
      · replace H := pif_t (of_decide_eq_true hb) H
        refine CJ.skip (EJ.next ?_)
        refine CJ.seq ?_
        refine CJ.block ?_
        refine CJ.seq ?_
        refine CJ.region ?_
        refine OJ.pures tU_ok 2 rfl ?_
        refine OJ.nil (EJ.next ?_)
        refine CJ.seq ?_
        refine CJ.region ?_
        refine OJ.pures tU_ok 2 rfl ?_
        obtain ⟨u9, hu9, H⟩ := pbind H
        refine OJ.st rfl rfl rfl (SR.shr rfl rfl rfl (chk_some hu9)) ?_
        refine OJ.pures tU_ok 2 rfl ?_
        refine OJ.nil (EJ.next ?_)
        refine CJ.cond rfl (fun hb => ?_) (fun hb => ?_)
        · replace H := pif_t (of_decide_eq_true hb) H
          refine CJ.region ?_
          refine OJ.pures tU_ok 2 rfl ?_
          refine OJ.ef rfl rfl rfl (Ef.lit tU_ok tI_ok hS (C := (ci .i64)) rfl rfl rfl rfl rfl rfl ([y8] : List Int) rfl rfl rfl rfl) ?_
          rintro _ w1 ⟨A10, rfl, hS⟩
          obtain ⟨u11, hu11, H⟩ := pbind H
          refine OJ.ew rfl rfl rfl (Ew.append tU_ok tI_ok (C := (ci .i64)) (xs := y5) (ys := ([y8] : List Int)) hS (i := 0) rfl rfl rfl rfl rfl rfl rfl rfl rfl rfl rfl rfl rfl (hS.rd (i := 1) rfl) (chk_some hu11)) ?_
          rintro _ w1 ⟨A12, c13, rfl, hS⟩
          refine OJ.pures tU_ok 1 rfl ?_
          refine OJ.nil (EJ.blk (EJ.next ?_))
          refine CJ.region ?_
          refine OJ.pures tU_ok 2 rfl ?_
          refine OJ.nil ?_
          exact EJ.round k (F' := [(0, .int .u16 a0), (3, .slice A12 (y5 ++ ([y8] : List Int)).length c13), (6, .int .i64 (IntKind.i64.wrap (y8 + 1)))]) ⟨rfl, rfl, rfl, trivial⟩ (Nat.lt_succ_self _) ⟨(y5 ++ ([y8] : List Int)), (IntKind.i64.wrap (y8 + 1)), A12, c13, rfl, hS.pick [0] [] rfl, H⟩
        · replace H := pif_f (of_decide_eq_false hb) H
          refine CJ.skip (EJ.blk (EJ.next ?_))
          refine CJ.region ?_
          refine OJ.pures tU_ok 2 rfl ?_
          refine OJ.nil ?_
          exact EJ.round k (F' := [(0, .int .u16 a0), (3, .slice A6 y5.length c7), (6, .int .i64 (IntKind.i64.wrap (y8 + 1)))]) ⟨rfl, rfl, rfl, trivial⟩ (Nat.lt_succ_self _) ⟨y5, (IntKind.i64.wrap (y8 + 1)), A6, c7, rfl, hS.pick [0] [] rfl, H⟩
      · replace H := pif_f (of_decide_eq_false hb) H
        refine CJ.exit (EJ.skE (EJ.skE (EJ.hit (?_))))
        exact EJ.meet (F' := [(3, .slice A6 y5.length c7)]) ⟨rfl, trivial⟩ ⟨y5, A6, c7, H, rfl, hS.pick [0] [] rfl⟩
  · rintro F w1 ⟨y2, A3, c4, he, rfl, hS⟩
    obtain rfl := Option.some.inj he
    have H := K139
    refine EJ.next ?_
    refine CJ.seq ?_
    refine CJ.region ?_
    refine OJ.pures tU_ok 2 rfl ?_
    refine OJ.nil (EJ.next ?_)
    refine CJ.ret (?_)
    obtain rfl := Option.some.inj H
    exact EJ.fin rfl (.tmp rfl .nil) ⟨A3, c4, rfl, hS.pick [0] [] rfl⟩

def math_bits_OnesCount16.f (a0 : Int) : Option Int := (getB (⟨#[0, 1, 1, 2, 1, 2, 2, 3, 1, 2, 2, 3, 2, 3, 3, 4, 1, 2, 2, 3, 2, 3, 3, 4, 2, 3, 3, 4, 3, 4, 4, 5, 1, 2, 2, 3, 2, 3, 3, 4, 2, 3, 3, 4, 3, 4, 4, 5, 2, 3, 3, 4, 3, 4, 4, 5, 3, 4, 4, 5, 4, 5, 5, 6, 1, 2, 2, 3, 2, 3, 3, 4, 2, 3, 3, 4, 3, 4, 4, 5, 2, 3, 3, 4, 3, 4, 4, 5, 3, 4, 4, 5, 4, 5, 5, 6, 2, 3, 3, 4, 3, 4, 4, 5, 3, 4, 4, 5, 4, 5, 5, 6, 3, 4, 4, 5, 4, 5, 5, 6, 4, 5, 5, 6, 5, 6, 6, 7, 1, 2, 2, 3, 2, 3, 3, 4, 2, 3, 3, 4, 3, 4, 4, 5, 2, 3, 3, 4, 3, 4, 4, 5, 3, 4, 4, 5, 4, 5, 5, 6, 2, 3, 3, 4, 3, 4, 4, 5, 3, 4, 4, 5, 4, 5, 5, 6, 3, 4, 4, 5, 4, 5, 5, 6, 4, 5, 5, 6, 5, 6, 6, 7, 2, 3, 3, 4, 3, 4, 4, 5, 3, 4, 4, 5, 4, 5, 5, 6, 3, 4, 4, 5, 4, 5, 5, 6, 4, 5, 5, 6, 5, 6, 6, 7, 3, 4, 4, 5, 4, 5, 5, 6, 4, 5, 5, 6, 5, 6, 6, 7, 4, 5, 5, 6, 5, 6, 6, 7, 5, 6, 6, 7, 6, 7, 7, 8]⟩ : ByteArray) (shrI .u16 a0 8)).bind fun t1 => (getB (⟨#[0, 1, 1, 2, 1, 2, 2, 3, 1, 2, 2, 3, 2, 3, 3, 4, 1, 2, 2, 3, 2, 3, 3, 4, 2, 3, 3, 4, 3, 4, 4, 5, 1, 2, 2, 3, 2, 3, 3, 4, 2, 3, 3, 4, 3, 4, 4, 5, 2, 3, 3, 4, 3, 4, 4, 5, 3, 4, 4, 5, 4, 5, 5, 6, 1, 2, 2, 3, 2, 3, 3, 4, 2, 3, 3, 4, 3, 4, 4, 5, 2, 3, 3, 4, 3, 4, 4, 5, 3, 4, 4, 5, 4, 5, 5, 6, 2, 3, 3, 4, 3, 4, 4, 5, 3, 4, 4, 5, 4, 5, 5, 6, 3, 4, 4, 5, 4, 5, 5, 6, 4, 5, 5, 6, 5, 6, 6, 7, 1, 2, 2, 3, 2, 3, 3, 4, 2, 3, 3, 4, 3, 4, 4, 5, 2, 3, 3, 4, 3, 4, 4, 5, 3, 4, 4, 5, 4, 5, 5, 6, 2, 3, 3, 4, 3, 4, 4, 5, 3, 4, 4, 5, 4, 5, 5, 6, 3, 4, 4, 5, 4, 5, 5, 6, 4, 5, 5, 6, 5, 6, 6, 7, 2, 3, 3, 4, 3, 4, 4, 5, 3, 4, 4, 5, 4, 5, 5, 6, 3, 4, 4, 5, 4, 5, 5, 6, 4, 5, 5, 6, 5, 6, 6, 7, 3, 4, 4, 5, 4, 5, 5, 6, 4, 5, 5, 6, 5, 6, 6, 7, 4, 5, 5, 6, 5, 6, 6, 7, 5, 6, 6, 7, 6, 7, 7, 8]⟩ : ByteArray) (andI .u16 a0 255)).bind fun t2 => some (IntKind.i64.wrap (IntKind.u8.wrap (t1 + t2)))
theorem math_bits_OnesCount16.c (w : World) (a0 : Int) (r : Int) (H : math_bits_OnesCount16.f a0 = some r) :
    CV Tryd.prog 53 [.int .u16 a0].toArray w fun v w' => v = .int .i64 r ∧ Ext w w' := by
  have hS := (St.init w no)
  unfold math_bits_OnesCount16.f at H
  refine CV.body Tryd.func53 rfl Tryd.ntmps53 rfl ?_
  refine CJ.seq ?_
  refine CJ.region ?_
  refine OJ.pures tU_ok 1 rfl ?_
  refine OJ.nil (EJ.next ?_)
  refine CJ.seq ?_
  refine CJ.draw [] [0, 1, 2, 3, 4, 5, 6, 7, 8] mixed (by kernel_rfl) hS fun w1 hS => ?_
  refine DJ.pures tU_ok 1 rfl ?_
  refine DJ.st rfl rfl rfl rfl rfl (SR.shr rfl rfl rfl (by decide)) ?_
  obtain ⟨t1, ht1, H⟩ := pbind H
  refine DJ.st rfl rfl rfl rfl rfl (SR.idxStr tU_ok rfl rfl rfl rfl ht1) ?_
  refine DJ.pures tU_ok 2 rfl ?_
  obtain ⟨t2, ht2, H⟩ := pbind H
  refine DJ.st rfl rfl rfl rfl rfl (SR.idxStr tU_ok rfl rfl rfl rfl ht2) ?_
  refine DJ.pures tU_ok 3 rfl ?_
  refine DJ.nil (EJ.next ?_)
  refine CJ.ret (?_)
  obtain rfl := Option.some.inj H
  exact EJ.fin rfl (.tmp rfl .nil) ⟨rfl, hS.ext⟩

def cmp_isNaN_int64.f (a0 : Int) : Option Bool := some (decide (a0 ≠ a0))
theorem cmp_isNaN_int64.c (w : World) (a0 : Int) (r : Bool) (H : cmp_isNaN_int64.f a0 = some r) :
    CV Tryd.prog 75 [.int .i64 a0].toArray w fun v w' => v = .bool r ∧ Ext w w' := by
  have hS := (St.init w no)
  unfold cmp_isNaN_int64.f at H
  refine CV.body Tryd.func75 rfl Tryd.ntmps75 rfl ?_
  refine CJ.seq ?_
  refine CJ.region ?_
  refine OJ.pures tU_ok 1 rfl ?_
  refine OJ.nil (EJ.next ?_)
  refine CJ.seq ?_
  refine CJ.region ?_
  refine OJ.pures tU_ok 4 rfl ?_
  refine OJ.nil (EJ.next ?_)
  refine CJ.ret (?_)
  obtain rfl := Option.some.inj H
  exact EJ.fin rfl (.tmp rfl .nil) ⟨rfl, hS.ext⟩

def cmp_Compare_int64.f (a0 : Int) (a1 : Int) : Option Int := (cmp_isNaN_int64.f a0).bind fun t1 => (cmp_isNaN_int64.f a1).bind fun t2 => if t1 = true then (if t2 = true then (some 0) else (some (-1))) else (if t2 = true then (some 1) else (if a0 < a1 then (some (-1)) else (if a1 < a0 then (some 1) else (some 0))))
theorem cmp_Compare_int64.c (w : World) (a0 : Int) (a1 : Int) (r : Int) (H : cmp_Compare_int64.f a0 a1 = some r) :
    CV Tryd.prog 65 [.int .i64 a0, .int .i64 a1].toArray w fun v w' => v = .int .i64 r ∧ Ext w w' := by
  have hS := (St.init w no)
  unfold cmp_Compare_int64.f at H
  refine CV.body Tryd.func65 rfl Tryd.ntmps65 rfl ?_
  refine CJ.seq ?_
  refine CJ.region ?_
  refine OJ.pures tU_ok 1 rfl ?_
  refine OJ.nil (EJ.next ?_)
  refine CJ.seq ?_
  refine CJ.region ?_
  refine OJ.pures tU_ok 1 rfl ?_
  obtain ⟨t1, ht1, H⟩ := pbind H
  refine OJ.callF rfl rfl rfl rfl rfl hb75 rfl (cmp_isNaN_int64.c _ a0 _ ht1) ?_
  rintro _ w1 ⟨rfl, hs⟩
  replace hS := hS.grow hs
  refine OJ.pures tU_ok 1 rfl ?_
  refine OJ.nil (EJ.next ?_)
  refine CJ.seq ?_
  refine CJ.region ?_
  refine OJ.pures tU_ok 1 rfl ?_
  obtain ⟨t2, ht2, H⟩ := pbind H
  refine OJ.callF rfl rfl rfl rfl rfl hb75 rfl (cmp_isNaN_int64.c _ a1 _ ht2) ?_
  rintro _ w1 ⟨rfl, hs⟩
  replace hS := hS.grow hs
  refine OJ.pures tU_ok 1 rfl ?_
  refine OJ.nil (EJ.next ?_)
  refine CJ.seq ?_
  refine CJ.seq ?_
  refine CJ.region ?_
  refine OJ.pures tU_ok 1 rfl ?_
  refine OJ.nil (EJ.next ?_)
  refine CJ.cond rfl (fun hb => ?_) (fun hb => ?_)
  · replace H := pif_t hb H
    refine CJ.seq ?_
    refine CJ.seq ?_
    refine CJ.region ?_
    refine OJ.pures tU_ok 1 rfl ?_
    refine OJ.nil (EJ.next ?_)
    refine CJ.cond rfl (fun hb => ?_) (fun hb => ?_)
    · replace H := pif_t hb H
      refine CJ.seq ?_
      refine CJ.region ?_
      refine OJ.pures tU_ok 1 rfl ?_
      refine OJ.nil (EJ.next ?_)
      refine CJ.ret (EJ.skR (EJ.skR (?_)))
      obtain rfl := Option.some.inj H
      exact EJ.fin rfl (.tmp rfl .nil) ⟨rfl, hS.ext⟩
    · replace H := pifb_f hb H
      refine CJ.skip (EJ.next ?_)
      refine CJ.seq ?_
      refine CJ.region ?_
      refine OJ.pures tU_ok 1 rfl ?_
      refine OJ.nil (EJ.next ?_)
      refine CJ.ret (EJ.skR (?_))
      obtain rfl := Option.some.inj H
      exact EJ.fin rfl (.tmp rfl .nil) ⟨rfl, hS.ext⟩
  · replace H := pifb_f hb H
    refine CJ.skip (EJ.next ?_)
    refine CJ.seq ?_
    refine CJ.seq ?_
    refine CJ.region ?_
    refine OJ.pures tU_ok 1 rfl ?_
    refine OJ.nil (EJ.next ?_)
    refine CJ.cond rfl (fun hb => ?_) (fun hb => ?_)
    · replace H := pif_t hb H
      refine CJ.seq ?_
      refine CJ.region ?_
      refine OJ.pures tU_ok 1 rfl ?_
      refine OJ.nil (EJ.next ?_)
      refine CJ.ret (EJ.skR (?_))
      obtain rfl := Option.some.inj H
      exact EJ.fin rfl (.tmp rfl .nil) ⟨rfl, hS.ext⟩
    · replace H := pifb_f hb H
      refine CJ.skip (EJ.next ?_)
      refine CJ.seq ?_
      refine CJ.seq ?_
      refine CJ.region ?_
      refine OJ.pures tU_ok 3 rfl ?_
      refine OJ.nil (EJ.next ?_)
      refine CJ.cond rfl (fun hb => ?_) (fun hb => ?_)
      · replace H := pif_t (of_decide_eq_true hb) H
        refine CJ.seq ?_
        refine CJ.region ?_
        refine OJ.pures tU_ok 1 rfl ?_
        refine OJ.nil (EJ.next ?_)
        refine CJ.ret (EJ.skR (?_))
        obtain rfl := Option.some.inj H
        exact EJ.fin rfl (.tmp rfl .nil) ⟨rfl, hS.ext⟩
      · replace H := pif_f (of_decide_eq_false hb) H
        refine CJ.skip (EJ.next ?_)
        refine CJ.seq ?_
        refine CJ.seq ?_
        refine CJ.region ?_
        refine OJ.pures tU_ok 3 rfl ?_
        refine OJ.nil (EJ.next ?_)
        refine CJ.cond rfl (fun hb => ?_) (fun hb => ?_)
        · replace H := pif_t (of_decide_eq_true hb) H
          refine CJ.seq ?_
          refine CJ.region ?_
          refine OJ.pures tU_ok 1 rfl ?_
          refine OJ.nil (EJ.next ?_)
          refine CJ.ret (EJ.skR (?_))
          obtain rfl := Option.some.inj H
          exact EJ.fin rfl (.tmp rfl .nil) ⟨rfl, hS.ext⟩
        · replace H := pif_f (of_decide_eq_false hb) H
          refine CJ.skip (EJ.next ?_)
          refine CJ.seq ?_
          refine CJ.region ?_
          refine OJ.pures tU_ok 1 rfl ?_
          refine OJ.nil (EJ.next ?_)
          refine CJ.ret (?_)
          obtain rfl := Option.some.inj H
          exact EJ.fin rfl (.tmp rfl .nil) ⟨rfl, hS.ext⟩

def slices_Compare_int64_int64.l1 (a0 : List Int) (a1 : List Int) : Nat → Int → Option (Int ⊕ Unit)
  | 0, _ => none
  | k + 1, y1 => if y1 < (a0.length : Int) then ((getI a0 y1).bind fun t2 => if (a1.length : Int) ≤ y1 then (some (Sum.inl 1)) else ((getI a1 y1).bind fun t3 => (cmp_Compare_int64.f t2 t3).bind fun t4 => if t4 ≠ 0 then (some (Sum.inl t4)) else (slices_Compare_int64_int64.l1 a0 a1 k (IntKind.i64.wrap (y1 + 1))))) else (some (Sum.inr ()))
def slices_Compare_int64_int64.f (k : Nat) (a0 : List Int) (a1 : List Int) : Option Int := (slices_Compare_int64_int64.l1 a0 a1 k 0).bind fun s141 => match s141 with | .inl r => some r | .inr _ => if (a0.length : Int) < (a1.length : Int) then (some (-1)) else (some 0)
theorem slices_Compare_int64_int64.c (k : Nat) (w : World) (Aa0 : Option Addr) (ca0 : Nat) (a0 : List Int) (hr0 : Rd (ci .i64) w Aa0 a0) (hc0 : a0.length ≤ ca0) (Aa1 : Option Addr) (ca1 : Nat) (a1 : List Int) (hr1 : Rd (ci .i64) w Aa1 a1) (hc1 : a1.length ≤ ca1) (r : Int) (H : slices_Compare_int64_int64.f k a0 a1 = some r) :
    CV Tryd.prog 54 [.slice Aa0 a0.length ca0, .slice Aa1 a1.length ca1].toArray w fun v w' => v = .int .i64 r ∧ Ext w w' := by
  have hS := (((St.init w no).param (ci .i64) Aa0 ca0 a0 hr0 hc0).param (ci .i64) Aa1 ca1 a1 hr1 hc1)
  unfold slices_Compare_int64_int64.f at H
  refine CV.body Tryd.func54 rfl Tryd.ntmps54 rfl ?_
  refine CJ.seq ?_
  refine CJ.region ?_
  refine OJ.pures tU_ok 1 rfl ?_
  refine OJ.nil (EJ.next ?_)
  refine CJ.seq ?_
  refine CJ.seq ?_
  refine CJ.region ?_
  refine OJ.pures tU_ok 3 rfl ?_
  refine OJ.nil (EJ.next ?_)
  obtain ⟨j141, H, K141⟩ := pbind H
  refine CJ.cut1 (fun F w1 => (some (Sum.inr ()) : Option (Int ⊕ Unit)) = some j141 ∧ F = [(0, .slice Aa0 a0.length ca0), (1, .slice Aa1 a1.length ca1)] ∧ St w no w1 [] [roC (ci .i64) Aa0 ca0 a0, roC (ci .i64) Aa1 ca1 a1]) ?_ ?_
  · skip
    refine CJ.block ?_
    refine CJ.loop (fun k F w1 => ∃ (y1 : Int), F = [(0, .slice Aa0 a0.length ca0), (1, .slice Aa1 a1.length ca1), (9, .slice Aa0 a0.length ca0), (10, .int .i64 (a0.length : Int)), (11, .int .i64 y1)] ∧ St w no w1 [] [roC (ci .i64) Aa0 ca0 a0, roC (ci .i64) Aa1 ca1 a1] ∧ slices_Compare_int64_int64.l1 a0 a1 k y1 = some j141) k (F' := [(0, .slice Aa0 a0.length ca0), (1, .slice Aa1 a1.length ca1), (9, .slice Aa0 a0.length ca0), (10, .int .i64 (a0.length : Int)), (11, .int .i64 0)]) ⟨rfl, rfl, rfl, rfl, rfl, trivial⟩ ⟨0, rfl, hS.pick [] [0, 1] rfl, H⟩ ?_
    rintro k F w1 ⟨y1, rfl, hS, H⟩
    cases k with
    | zero => rw [slices_Compare_int64_int64.l1] at H; cases H
    | succ k =>
      rw [slices_Compare_int64_int64.l1] at H
      refine CJ.seq ?_
      refine CJ.region ?_
      refine OJ.pures tU_ok 1 rfl ?_
      refine OJ.nil (EJ.next ?_)
      refine CJ.seq ?_
      refine CJ.cond rfl (fun hb => ?_) (fun hb => ?_)
      · replace H := pif_t (of_decide_eq_true hb) H
        refine CJ.skip (EJ.next ?_)
        refine CJ.seq ?_
        refine CJ.block ?_
        refine CJ.seq ?_
        refine CJ.region ?_
        refine OJ.pures tU_ok 1 rfl ?_
        obtain ⟨t2, ht2, H⟩ := pbind H
        obtain ⟨ad2, e2⟩ := (hS.rd' (i := 0) rfl).some' ht2
        refine OJ.st rfl rfl rfl (SR.idxS tU_ok tI_ok rfl rfl rfl rfl e2 rfl (getI_some ht2).1) ?_
        refine OJ.st rfl rfl rfl (SR.load rfl rfl (fun w' hx => ld1 tU_ok rfl rfl (CA.ext ((hS.rd' (i := 0) rfl).at_ e2 ht2) hx) rfl)) ?_
        refine OJ.pures tU_ok 2 rfl ?_
        refine OJ.nil (EJ.next ?_)
        refine CJ.seq ?_
        refine CJ.seq ?_
        refine CJ.region ?_
        refine OJ.pures tU_ok 4 rfl ?_
        refine OJ.nil (EJ.next ?_)
        refine CJ.cond rfl (fun hb => ?_) (fun hb => ?_)
        · replace H := pif_t (of_decide_eq_true hb) H
          refine CJ.seq ?_
          refine CJ.region ?_
          refine OJ.pures tU_ok 1 rfl ?_
          refine OJ.nil (EJ.next ?_)
          refine CJ.ret (EJ.skR (EJ.bkR (EJ.skR (EJ.skR (EJ.bkR (EJ.skR (EJ.skR (?_))))))))
          first | (obtain rfl := Option.some.inj H; have H := K141) | (obtain ⟨q141, H2, e141⟩ := pbind H; obtain rfl := Option.some.inj e141; obtain rfl := Option.some.inj K141; have H := H2)
          obtain rfl := Option.some.inj H
          exact EJ.fin rfl (.tmp rfl .nil) ⟨rfl, hS.ext⟩
        · replace H := pif_f (of_decide_eq_false hb) H
          refine CJ.skip (EJ.next ?_)
          refine CJ.seq ?_
          refine CJ.region ?_
          refine OJ.pures tU_ok 2 rfl ?_
          obtain ⟨t3, ht3, H⟩ := pbind H
          obtain ⟨ad3, e3⟩ := (hS.rd' (i := 1) rfl).some' ht3
          refine OJ.st rfl rfl rfl (SR.idxS tU_ok tI_ok rfl rfl rfl rfl e3 rfl (getI_some ht3).1) ?_
          refine OJ.st rfl rfl rfl (SR.load rfl rfl (fun w' hx => ld1 tU_ok rfl rfl (CA.ext ((hS.rd' (i := 1) rfl).at_ e3 ht3) hx) rfl)) ?_
          refine OJ.pures tU_ok 1 rfl ?_
          refine OJ.nil (EJ.next ?_)
          refine CJ.seq ?_
          refine CJ.region ?_
          refine OJ.pures tU_ok 2 rfl ?_
          obtain ⟨t4, ht4, H⟩ := pbind H
          refine OJ.callF rfl rfl rfl rfl rfl hb65 rfl (cmp_Compare_int64.c _ t2 t3 _ ht4) ?_
          rintro _ w1 ⟨rfl, hs⟩
          replace hS := hS.grow hs
          refine OJ.pures tU_ok 1 rfl ?_
          refine OJ.nil (EJ.next ?_)
          refine CJ.seq ?_
          refine CJ.region ?_
          refine OJ.pures tU_ok 2 rfl ?_
          refine OJ.nil (EJ.next ?_)
          refine CJ.cond rfl (fun hb => ?_) (fun hb => ?_)
          · replace H := pif_t (of_decide_eq_true hb) H
            refine CJ.seq ?_
            refine CJ.region ?_
            refine OJ.pures tU_ok 2 rfl ?_
            refine OJ.nil (EJ.next ?_)
            refine CJ.ret (EJ.bkR (EJ.skR (EJ.skR (EJ.bkR (EJ.skR (EJ.skR (?_)))))))
            first | (obtain rfl := Option.some.inj H; have H := K141) | (obtain ⟨q141, H2, e141⟩ := pbind H; obtain rfl := Option.some.inj e141; obtain rfl := Option.some.inj K141; have H := H2)
            obtain rfl := Option.some.inj H
            exact EJ.fin rfl (.tmp rfl .nil) ⟨rfl, hS.ext⟩
          · replace H := pif_f (of_decide_eq_false hb) H
            refine CJ.skip (EJ.blk (EJ.next ?_))
            refine CJ.region ?_
            refine OJ.pures tU_ok 2 rfl ?_
            refine OJ.nil ?_
            exact EJ.round k (F' := [(0, .slice Aa0 a0.length ca0), (1, .slice Aa1 a1.length ca1), (9, .slice Aa0 a0.length ca0), (10, .int .i64 (a0.length : Int)), (11, .int .i64 (IntKind.i64.wrap (y1 + 1)))]) ⟨rfl, rfl, rfl, rfl, rfl, trivial⟩ (Nat.lt_succ_self _) ⟨(IntKind.i64.wrap (y1 + 1)), rfl, hS.pick [] [0, 1] rfl, H⟩
      · replace H := pif_f (of_decide_eq_false hb) H
        refine CJ.exit (EJ.skE (EJ.skE (EJ.hit (?_))))
        exact EJ.meet (F' := [(0, .slice Aa0 a0.length ca0), (1, .slice Aa1 a1.length ca1)]) ⟨rfl, rfl, trivial⟩ ⟨H, rfl, hS.pick [] [0, 1] rfl⟩
  · rintro F w1 ⟨he, rfl, hS⟩
    obtain rfl := Option.some.inj he
    have H := K141
    refine EJ.next ?_
    refine CJ.seq ?_
    refine CJ.seq ?_
    refine CJ.region ?_
    refine OJ.pures tU_ok 5 rfl ?_
    refine OJ.nil (EJ.next ?_)
    refine CJ.cond rfl (fun hb => ?_) (fun hb => ?_)
    · replace H := pif_t (of_decide_eq_true hb) H
      refine CJ.seq ?_
      refine CJ.region ?_
      refine OJ.pures tU_ok 1 rfl ?_
      refine OJ.nil (EJ.next ?_)
      refine CJ.ret (EJ.skR (?_))
      obtain rfl := Option.some.inj H
      exact EJ.fin rfl (.tmp rfl .nil) ⟨rfl, hS.ext⟩
    · replace H := pif_f (of_decide_eq_false hb) H
      refine CJ.skip (EJ.next ?_)
      refine CJ.seq ?_
      refine CJ.region ?_
      refine OJ.pures tU_ok 1 rfl ?_
      refine OJ.nil (EJ.next ?_)
      refine CJ.ret (?_)
      obtain rfl := Option.some.inj H
      exact EJ.fin rfl (.tmp rfl .nil) ⟨rfl, hS.ext⟩

def impl_Herd_largest.l2 (a0 : Herd) (a1 : Bool) (y5 : Int) (t7 : List Int) : Nat → Bool → Int → Option Bool
  | 0, _, _ => none
  | k + 1, y11, y12 => if y12 < (t7.length : Int) then ((getI t7 y12).bind fun t13 => (chk (0 ≤ t13)).bind fun u14 => if a1 = true then (if y11 = true then ((getI a0.Foes t13).bind fun t15 => impl_Herd_largest.l2 a0 a1 y5 t7 k (decide ((andNotI .u16 (andNotI .u16 (IntKind.u16.wrap y5) (shlI .u16 1 t13)) t15) = 0)) (IntKind.i64.wrap (y12 + 1))) else (impl_Herd_largest.l2 a0 a1 y5 t7 k false (IntKind.i64.wrap (y12 + 1)))) else (if y11 = true then ((getI a0.Foes t13).bind fun t16 => impl_Herd_largest.l2 a0 a1 y5 t7 k (decide ((andI .u16 (andNotI .u16 (IntKind.u16.wrap y5) (shlI .u16 1 t13)) t16) = 0)) (IntKind.i64.wrap (y12 + 1))) else (impl_Herd_largest.l2 a0 a1 y5 t7 k false (IntKind.i64.wrap (y12 + 1))))) else (some y11)
def impl_Herd_largest.l1 (a0 : Herd) (a1 : Bool) : Nat → Int → Int → Option Int
  | 0, _, _ => none
  | k + 1, y4, y5 => if y5 < (shlI .u32 1 (a0.Names.length : Int)) then (((impl_listed.f k (IntKind.u16.wrap y5)).bind fun t7 => (impl_Herd_largest.l2 a0 a1 y5 t7 k true 0).bind fun y10 => (math_bits_OnesCount16.f (IntKind.u16.wrap y5)).bind fun t17 => (math_bits_OnesCount16.f y4).bind fun t18 => if y10 = true then (if 0 < (IntKind.i64.wrap (t17 - t18)) then (some (IntKind.u16.wrap y5)) else (if (IntKind.i64.wrap (t17 - t18)) = 0 then ((impl_listed.f k (IntKind.u16.wrap y5)).bind fun t19 => (impl_listed.f k y4).bind fun t22 => (slices_Compare_int64_int64.f k t19 t22).bind fun t25 => if t25 < 0 then (some (IntKind.u16.wrap y5)) else (some y4)) else (some y4))) else (some y4)).bind fun y6 => impl_Herd_largest.l1 a0 a1 k y6 (IntKind.u32.wrap (y5 + 1))) else (some y4)
def impl_Herd_largest.f (k : Nat) (a0 : Herd) (a1 : Bool) : Option (List Int) := (chk (0 ≤ (a0.Names.length : Int))).bind fun u2 => (impl_Herd_largest.l1 a0 a1 k 0 0).bind fun y3 => (impl_listed.f k y3).bind fun t26 => some t26
theorem impl_Herd_largest.c (k : Nat) (w : World) (Aa0_0 : Option Addr) (ca0_0 : Nat) (Aa0_1 : Option Addr) (ca0_1 : Nat) (Aa0_2 : Option Addr) (ca0_2 : Nat) (a0 : Herd) (hr0_0 : Rd G.cs w Aa0_0 a0.Names) (hc0_0 : a0.Names.length ≤ ca0_0) (hr0_1 : Rd (ci .i16) w Aa0_1 a0.Eats) (hc0_1 : a0.Eats.length ≤ ca0_1) (hr0_2 : Rd (ci .u16) w Aa0_2 a0.Foes) (hc0_2 : a0.Foes.length ≤ ca0_2) (a1 : Bool) (r : List Int) (H : impl_Herd_largest.f k a0 a1 = some r) :
    CV Tryd.prog 26 [.agg [.slice Aa0_0 a0.Names.length ca0_0, .slice Aa0_1 a0.Eats.length ca0_1, .slice Aa0_2 a0.Foes.length ca0_2].toArray, .bool a1].toArray w fun v w' => ∃ (A0 : Option Addr) (c0 : Nat), v = .slice A0 r.length c0 ∧ St w no w' [rowC (ci .i64) A0 c0 2 r] [] := by
  have hS := ((((St.init w no).param G.cs Aa0_0 ca0_0 a0.Names hr0_0 hc0_0).param (ci .i16) Aa0_1 ca0_1 a0.Eats hr0_1 hc0_1).param (ci .u16) Aa0_2 ca0_2 a0.Foes hr0_2 hc0_2)
  unfold impl_Herd_largest.f at H
  refine CV.body Tryd.func26 rfl Tryd.ntmps26 rfl ?_
  refine CJ.seq ?_
  refine CJ.region ?_
  refine OJ.ef rfl rfl rfl (Ef.box hS rfl rfl ([.slice Aa0_0 a0.Names.length ca0_0, .slice Aa0_1 a0.Eats.length ca0_1, .slice Aa0_2 a0.Foes.length ca0_2]) rfl) ?_
  rintro _ w1 ⟨b1, rfl, hS⟩
  refine OJ.pures tU_ok 1 rfl ?_
  refine OJ.nil (EJ.next ?_)
  refine CJ.seq ?_
  refine CJ.region ?_
  refine OJ.pures tU_ok 1 rfl ?_
  refine OJ.nil (EJ.next ?_)
  refine CJ.seq ?_
  refine CJ.seq ?_
  refine CJ.region ?_
  refine OJ.st rfl rfl rfl (SR.fieldAddr tU_ok tI_ok rfl rfl rfl rfl rfl rfl) ?_
  refine OJ.st rfl rfl rfl (SR.load rfl rfl (fun w' hx => ld1 tU_ok rfl rfl (CA.ext (CA.sub (hS.cells (i := 0) rfl) 0) hx) rfl)) ?_
  refine OJ.pures tU_ok 1 rfl ?_
  obtain ⟨u2, hu2, H⟩ := pbind H
  refine OJ.st rfl rfl rfl (SR.shl rfl rfl rfl (chk_some hu2)) ?_
  refine OJ.pures tU_ok 1 rfl ?_
  refine OJ.nil (EJ.next ?_)
  obtain ⟨j137, H, K137⟩ := pbind H
  refine CJ.cut1 (fun F w1 => ∃ (y3 : Int) , (some y3 : Option Int) = some j137 ∧ F = [(5, .int .u16 y3)] ∧ St w no w1 [] [roC G.cs Aa0_0 ca0_0 a0.Names, roC (ci .i16) Aa0_1 ca0_1 a0.Eats, roC (ci .u16) Aa0_2 ca0_2 a0.Foes]) ?_ ?_
  · skip
    refine CJ.block ?_
    refine CJ.loop (fun k F w1 => ∃ (y4 : Int) (y5 : Int), F = [(1, .bool a1), (2, .pointer (some ⟨b1, 0, none⟩)), (5, .int .u16 y4), (16, .int .u32 (shlI .u32 1 (a0.Names.length : Int))), (17, .int .u32 y5)] ∧ St w no w1 [box b1 ([.slice Aa0_0 a0.Names.length ca0_0, .slice Aa0_1 a0.Eats.length ca0_1, .slice Aa0_2 a0.Foes.length ca0_2]) 31] [roC G.cs Aa0_0 ca0_0 a0.Names, roC (ci .i16) Aa0_1 ca0_1 a0.Eats, roC (ci .u16) Aa0_2 ca0_2 a0.Foes] ∧ impl_Herd_largest.l1 a0 a1 k y4 y5 = some j137) k (F' := [(1, .bool a1), (2, .pointer (some ⟨b1, 0, none⟩)), (5, .int .u16 0), (16, .int .u32 (shlI .u32 1 (a0.Names.length : Int))), (17, .int .u32 0)]) ⟨rfl, rfl, rfl, rfl, rfl, trivial⟩ ⟨0, 0, rfl, hS.pick [0] [0, 1, 2] rfl, H⟩ ?_
    rintro k F w1 ⟨y4, y5, rfl, hS, H⟩
    cases k with
    | zero => rw [impl_Herd_largest.l1] at H; cases H
    | succ k =>
      rw [impl_Herd_largest.l1] at H
      refine CJ.seq ?_
      refine CJ.region ?_
      refine OJ.pures tU_ok 1 rfl ?_
      refine OJ.nil (EJ.next ?_)
      refine CJ.seq ?_
      refine CJ.cond rfl (fun hb => ?_) (fun hb => ?_)
      · replace H := pif_t (of_decide_eq_true hb) H
        refine CJ.skip (EJ.next ?_)
        obtain ⟨j146, H, K146⟩ := pbind H
        refine CJ.cut (fun F w1 => ∃ (y6 : Int) , (some y6 : Option Int) = some j146 ∧ F = [(1, .bool a1), (2, .pointer (some ⟨b1, 0, none⟩)), (5, .int .u16 y6), (16, .int .u32 (shlI .u32 1 (a0.Names.length : Int))), (17, .int .u32 y5)] ∧ St w no w1 [box b1 ([.slice Aa0_0 a0.Names.length ca0_0, .slice Aa0_1 a0.Eats.length ca0_1, .slice Aa0_2 a0.Foes.length ca0_2]) 31] [roC G.cs Aa0_0 ca0_0 a0.Names, roC (ci .i16) Aa0_1 ca0_1 a0.Eats, roC (ci .u16) Aa0_2 ca0_2 a0.Foes]) ?_ ?_
        · skip
          refine CJ.block ?_
          refine CJ.seq ?_
          refine CJ.region ?_
          refine OJ.pures tU_ok 2 rfl ?_
          refine OJ.nil (EJ.next ?_)
          refine CJ.seq ?_
          refine CJ.region ?_
          refine OJ.pures tU_ok 4 rfl ?_
          refine OJ.nil (EJ.next ?_)
          refine CJ.seq ?_
          refine CJ.seq ?_
          refine CJ.region ?_
          refine OJ.pures tU_ok 1 rfl ?_
          obtain ⟨t7, ht7, H⟩ := pbind H
          refine OJ.callF rfl rfl rfl rfl rfl hb52 rfl (impl_listed.c k _ (IntKind.u16.wrap y5) _ ht7) ?_
          rintro _ w1 ⟨A8, c9, rfl, hs⟩
          replace hS := hS.addN hs
          refine OJ.pures tU_ok 2 rfl ?_
          refine OJ.nil (EJ.next ?_)
          obtain ⟨j148, H, K148⟩ := pbind H
          refine CJ.cut1 (fun F w1 => ∃ (y10 : Bool) , (some y10 : Option Bool) = some j148 ∧ F = [(1, .bool a1), (2, .pointer (some ⟨b1, 0, none⟩)), (5, .int .u16 y4), (7, .int .u16 (IntKind.u16.wrap y5)), (8, .bool y10), (16, .int .u32 (shlI .u32 1 (a0.Names.length : Int))), (17, .int .u32 y5)] ∧ St w no w1 [box b1 ([.slice Aa0_0 a0.Names.length ca0_0, .slice Aa0_1 a0.Eats.length ca0_1, .slice Aa0_2 a0.Foes.length ca0_2]) 31] [roC G.cs Aa0_0 ca0_0 a0.Names, roC (ci .i16) Aa0_1 ca0_1 a0.Eats, roC (ci .u16) Aa0_2 ca0_2 a0.Foes]) ?_ ?_
          · skip
            refine CJ.block ?_
            refine CJ.loop (fun k F w1 => ∃ (y11 : Bool) (y12 : Int), F = [(1, .bool a1), (2, .pointer (some ⟨b1, 0, none⟩)), (5, .int .u16 y4), (7, .int .u16 (IntKind.u16.wrap y5)), (8, .bool y11), (16, .int .u32 (shlI .u32 1 (a0.Names.length : Int))), (17, .int .u32 y5), (23, .slice A8 t7.length c9), (24, .int .i64 (t7.length : Int)), (25, .int .i64 y12)] ∧ St w no w1 [box b1 ([.slice Aa0_0 a0.Names.length ca0_0, .slice Aa0_1 a0.Eats.length ca0_1, .slice Aa0_2 a0.Foes.length ca0_2]) 31, rowC (ci .i64) A8 c9 2 t7] [roC G.cs Aa0_0 ca0_0 a0.Names, roC (ci .i16) Aa0_1 ca0_1 a0.Eats, roC (ci .u16) Aa0_2 ca0_2 a0.Foes] ∧ impl_Herd_largest.l2 a0 a1 y5 t7 k y11 y12 = some j148) k (F' := [(1, .bool a1), (2, .pointer (some ⟨b1, 0, none⟩)), (5, .int .u16 y4), (7, .int .u16 (IntKind.u16.wrap y5)), (8, .bool true), (16, .int .u32 (shlI .u32 1 (a0.Names.length : Int))), (17, .int .u32 y5), (23, .slice A8 t7.length c9), (24, .int .i64 (t7.length : Int)), (25, .int .i64 0)]) ⟨rfl, rfl, rfl, rfl, rfl, rfl, rfl, rfl, rfl, rfl, trivial⟩ ⟨true, 0, rfl, hS.pick [0, 1] [0, 1, 2] rfl, H⟩ ?_
            rintro k F w1 ⟨y11, y12, rfl, hS, H⟩
            cases k with
            | zero => rw [impl_Herd_largest.l2] at H; cases H
            | succ k =>
              rw [impl_Herd_largest.l2] at H
              refine CJ.seq ?_
              refine CJ.region ?_
              refine OJ.pures tU_ok 1 rfl ?_
              refine OJ.nil (EJ.next ?_)
              refine CJ.seq ?_
              refine CJ.cond rfl (fun hb => ?_) (fun hb => ?_)
              · replace H := pif_t (of_decide_eq_true hb) H
                refine CJ.skip (EJ.next ?_)
                refine CJ.seq ?_
                refine CJ.block ?_
                refine CJ.seq ?_
                refine CJ.region ?_
                obtain ⟨t13, ht13, H⟩ := pbind H
                obtain ⟨ad13, e13⟩ := (hS.rd (i := 1) rfl).some' ht13
                refine OJ.st rfl rfl rfl (SR.idxS tU_ok tI_ok rfl rfl rfl rfl e13 rfl (getI_some ht13).1) ?_
                refine OJ.st rfl rfl rfl (SR.load rfl rfl (fun w' hx => ld1 tU_ok rfl rfl (CA.ext ((hS.rd (i := 1) rfl).at_ e13 ht13) hx) rfl)) ?_
                refine OJ.pures tU_ok 1 rfl ?_
                refine OJ.nil (EJ.next ?_)
                refine CJ.seq ?_
                refine CJ.region ?_
                refine OJ.pures tU_ok 2 rfl ?_
                obtain ⟨u14, hu14, H⟩ := pbind H
                refine OJ.st rfl rfl rfl (SR.shl rfl rfl rfl (chk_some hu14)) ?_
                refine OJ.pures tU_ok 2 rfl ?_
                refine OJ.nil (EJ.next ?_)
                refine CJ.seq ?_
                refine CJ.region ?_
                refine OJ.pures tU_ok 1 rfl ?_
                refine OJ.nil (EJ.next ?_)
                refine CJ.cond rfl (fun hb => ?_) (fun hb => ?_)
                · replace H := pif_t hb H
                  refine CJ.region ?_
                  refine OJ.pures tU_ok 2 rfl ?_
                  refine OJ.split (t := 35) rfl (fun hb => ?_) (fun hb => ?_)
                  · replace H := pif_t hb H
                    refine OJ.pures tU_ok 1 rfl ?_
                    refine OJ.st rfl rfl rfl (SR.fieldAddr tU_ok tI_ok rfl rfl rfl rfl rfl rfl) ?_
                    refine OJ.st rfl rfl rfl (SR.load rfl rfl (fun w' hx => ld1 tU_ok rfl rfl (CA.ext (CA.sub (hS.cells (i := 0) rfl) 2) hx) rfl)) ?_
                    refine OJ.pures tU_ok 1 rfl ?_
                    obtain ⟨t15, ht15, H⟩ := pbind H
                    obtain ⟨ad15, e15⟩ := (hS.rd' (i := 2) rfl).some' ht15
                    refine OJ.st rfl rfl rfl (SR.idxS tU_ok tI_ok rfl rfl rfl rfl e15 rfl (getI_some ht15).1) ?_
                    refine OJ.st rfl rfl rfl (SR.load rfl rfl (fun w' hx => ld1 tU_ok rfl rfl (CA.ext ((hS.rd' (i := 2) rfl).at_ e15 ht15) hx) rfl)) ?_
                    refine OJ.pures tU_ok 4 rfl ?_
                    refine OJ.nil (EJ.blk (EJ.next ?_))
                    refine CJ.region ?_
                    refine OJ.pures tU_ok 2 rfl ?_
                    refine OJ.nil ?_
                    exact EJ.round k (F' := [(1, .bool a1), (2, .pointer (some ⟨b1, 0, none⟩)), (5, .int .u16 y4), (7, .int .u16 (IntKind.u16.wrap y5)), (8, .bool (decide ((andNotI .u16 (andNotI .u16 (IntKind.u16.wrap y5) (shlI .u16 1 t13)) t15) = 0))), (16, .int .u32 (shlI .u32 1 (a0.Names.length : Int))), (17, .int .u32 y5), (23, .slice A8 t7.length c9), (24, .int .i64 (t7.length : Int)), (25, .int .i64 (IntKind.i64.wrap (y12 + 1)))]) ⟨rfl, rfl, rfl, rfl, rfl, rfl, rfl, rfl, rfl, rfl, trivial⟩ (Nat.lt_succ_self _) ⟨(decide ((andNotI .u16 (andNotI .u16 (IntKind.u16.wrap y5) (shlI .u16 1 t13)) t15) = 0)), (IntKind.i64.wrap (y12 + 1)), rfl, hS.pick [0, 1] [0, 1, 2] rfl, H⟩
                  · replace H := pifb_f hb H
                    refine OJ.pures tU_ok 10 rfl ?_
                    refine OJ.nil (EJ.blk (EJ.next ?_))
                    refine CJ.region ?_
                    refine OJ.pures tU_ok 2 rfl ?_
                    refine OJ.nil ?_
                    exact EJ.round k (F' := [(1, .bool a1), (2, .pointer (some ⟨b1, 0, none⟩)), (5, .int .u16 y4), (7, .int .u16 (IntKind.u16.wrap y5)), (8, .bool false), (16, .int .u32 (shlI .u32 1 (a0.Names.length : Int))), (17, .int .u32 y5), (23, .slice A8 t7.length c9), (24, .int .i64 (t7.length : Int)), (25, .int .i64 (IntKind.i64.wrap (y12 + 1)))]) ⟨rfl, rfl, rfl, rfl, rfl, rfl, rfl, rfl, rfl, rfl, trivial⟩ (Nat.lt_succ_self _) ⟨false, (IntKind.i64.wrap (y12 + 1)), rfl, hS.pick [0, 1] [0, 1, 2] rfl, H⟩
                · replace H := pifb_f hb H
                  refine CJ.region ?_
                  refine OJ.pures tU_ok 2 rfl ?_
                  refine OJ.split (t := 46) rfl (fun hb => ?_) (fun hb => ?_)
                  · replace H := pif_t hb H
                    refine OJ.pures tU_ok 1 rfl ?_
                    refine OJ.st rfl rfl rfl (SR.fieldAddr tU_ok tI_ok rfl rfl rfl rfl rfl rfl) ?_
                    refine OJ.st rfl rfl rfl (SR.load rfl rfl (fun w' hx => ld1 tU_ok rfl rfl (CA.ext (CA.sub (hS.cells (i := 0) rfl) 2) hx) rfl)) ?_
                    refine OJ.pures tU_ok 1 rfl ?_
                    obtain ⟨t16, ht16, H⟩ := pbind H
                    obtain ⟨ad16, e16⟩ := (hS.rd' (i := 2) rfl).some' ht16
                    refine OJ.st rfl rfl rfl (SR.idxS tU_ok tI_ok rfl rfl rfl rfl e16 rfl (getI_some ht16).1) ?_
                    refine OJ.st rfl rfl rfl (SR.load rfl rfl (fun w' hx => ld1 tU_ok rfl rfl (CA.ext ((hS.rd' (i := 2) rfl).at_ e16 ht16) hx) rfl)) ?_
                    refine OJ.pures tU_ok 4 rfl ?_
                    refine OJ.nil (EJ.blk (EJ.next ?_))
                    refine CJ.region ?_
                    refine OJ.pures tU_ok 2 rfl ?_
                    refine OJ.nil ?_
                    exact EJ.round k (F' := [(1, .bool a1), (2, .pointer (some ⟨b1, 0, none⟩)), (5, .int .u16 y4), (7, .int .u16 (IntKind.u16.wrap y5)), (8, .bool (decide ((andI .u16 (andNotI .u16 (IntKind.u16.wrap y5) (shlI .u16 1 t13)) t16) = 0))), (16, .int .u32 (shlI .u32 1 (a0.Names.length : Int))), (17, .int .u32 y5), (23, .slice A8 t7.length c9), (24, .int .i64 (t7.length : Int)), (25, .int .i64 (IntKind.i64.wrap (y12 + 1)))]) ⟨rfl, rfl, rfl, rfl, rfl, rfl, rfl, rfl, rfl, rfl, trivial⟩ (Nat.lt_succ_self _) ⟨(decide ((andI .u16 (andNotI .u16 (IntKind.u16.wrap y5) (shlI .u16 1 t13)) t16) = 0)), (IntKind.i64.wrap (y12 + 1)), rfl, hS.pick [0, 1] [0, 1, 2] rfl, H⟩
                  · replace H := pifb_f hb H
                    refine OJ.pures tU_ok 10 rfl ?_
                    refine OJ.nil (EJ.blk (EJ.next ?_))
                    refine CJ.region ?_
                    refine OJ.pures tU_ok 2 rfl ?_
                    refine OJ.nil ?_
                    exact EJ.round k (F' := [(1, .bool a1), (2, .pointer (some ⟨b1, 0, none⟩)), (5, .int .u16 y4), (7, .int .u16 (IntKind.u16.wrap y5)), (8, .bool false), (16, .int .u32 (shlI .u32 1 (a0.Names.length : Int))), (17, .int .u32 y5), (23, .slice A8 t7.length c9), (24, .int .i64 (t7.length : Int)), (25, .int .i64 (IntKind.i64.wrap (y12 + 1)))]) ⟨rfl, rfl, rfl, rfl, rfl, rfl, rfl, rfl, rfl, rfl, trivial⟩ (Nat.lt_succ_self _) ⟨false, (IntKind.i64.wrap (y12 + 1)), rfl, hS.pick [0, 1] [0, 1, 2] rfl, H⟩
              · replace H := pif_f (of_decide_eq_false hb) H
                refine CJ.exit (EJ.skE (EJ.skE (EJ.hit (?_))))
                exact EJ.meet (F' := [(1, .bool a1), (2, .pointer (some ⟨b1, 0, none⟩)), (5, .int .u16 y4), (7, .int .u16 (IntKind.u16.wrap y5)), (8, .bool y11), (16, .int .u32 (shlI .u32 1 (a0.Names.length : Int))), (17, .int .u32 y5)]) ⟨rfl, rfl, rfl, rfl, rfl, rfl, rfl, trivial⟩ ⟨y11, H, rfl, hS.pick [0] [0, 1, 2] rfl⟩
          · rintro F w1 ⟨y10, he, rfl, hS⟩
            obtain rfl := Option.some.inj he
            have H := K148
            refine EJ.next ?_
            refine CJ.seq ?_
            refine CJ.region ?_
            refine OJ.pures tU_ok 1 rfl ?_
            obtain ⟨t17, ht17, H⟩ := pbind H
            refine OJ.callF rfl rfl rfl rfl rfl hb53 rfl (math_bits_OnesCount16.c _ (IntKind.u16.wrap y5) _ ht17) ?_
            rintro _ w1 ⟨rfl, hs⟩
            replace hS := hS.grow hs
            refine OJ.pures tU_ok 1 rfl ?_
            obtain ⟨t18, ht18, H⟩ := pbind H
            refine OJ.callF rfl rfl rfl rfl rfl hb53 rfl (math_bits_OnesCount16.c _ y4 _ ht18) ?_
            rintro _ w1 ⟨rfl, hs⟩
            replace hS := hS.grow hs
            refine OJ.pures tU_ok 2 rfl ?_
            refine OJ.nil (EJ.next ?_)
            refine CJ.seq ?_
            refine CJ.region ?_
            refine OJ.pures tU_ok 2 rfl ?_
            refine OJ.split (t := 63) rfl (fun hb => ?_) (fun hb => ?_)
            · replace H := pif_t hb H
              refine OJ.pures tU_ok 3 rfl ?_
              refine OJ.split (t := 66) rfl (fun hb => ?_) (fun hb => ?_)
              · replace H := pif_t (of_decide_eq_true hb) H
                refine OJ.pures tU_ok 12 rfl ?_
                refine OJ.nil (EJ.next ?_)
                refine CJ.condT rfl ?_
                refine CJ.region ?_
                refine OJ.pures tU_ok 2 rfl ?_
                refine OJ.nil (EJ.blk (?_))
                exact EJ.meet (F' := [(1, .bool a1), (2, .pointer (some ⟨b1, 0, none⟩)), (5, .int .u16 (IntKind.u16.wrap y5)), (16, .int .u32 (shlI .u32 1 (a0.Names.length : Int))), (17, .int .u32 y5)]) ⟨rfl, rfl, rfl, rfl, rfl, trivial⟩ ⟨(IntKind.u16.wrap y5), H, rfl, hS.pick [0] [0, 1, 2] rfl⟩
              · replace H := pif_f (of_decide_eq_false hb) H
                refine OJ.pures tU_ok 3 rfl ?_
                refine OJ.split (t := 69) rfl (fun hb => ?_) (fun hb => ?_)
                · replace H := pif_t (of_decide_eq_true hb) H
                  refine OJ.pures tU_ok 1 rfl ?_
                  obtain ⟨t19, ht19, H⟩ := pbind H
                  refine OJ.callF rfl rfl rfl rfl rfl hb52 rfl (impl_listed.c k _ (IntKind.u16.wrap y5) _ ht19) ?_
                  rintro _ w1 ⟨A20, c21, rfl, hs⟩
                  replace hS := hS.addN hs
                  refine OJ.pures tU_ok 1 rfl ?_
                  obtain ⟨t22, ht22, H⟩ := pbind H
                  refine OJ.callF rfl rfl rfl rfl rfl hb52 rfl (impl_listed.c k _ y4 _ ht22) ?_
                  rintro _ w1 ⟨A23, c24, rfl, hs⟩
                  replace hS := hS.addN hs
                  obtain ⟨t25, ht25, H⟩ := pbind H
                  refine OJ.callF rfl rfl rfl rfl rfl hb54 rfl (slices_Compare_int64_int64.c k _ A20 c21 t19 (hS.rd (i := 1) rfl) (hS.le (i := 1) rfl) A23 c24 t22 (hS.rd (i := 2) rfl) (hS.le (i := 2) rfl) _ ht25) ?_
                  rintro _ w1 ⟨rfl, hs⟩
                  replace hS := hS.grow hs
                  refine OJ.pures tU_ok 4 rfl ?_
                  refine OJ.nil (EJ.next ?_)
                  refine CJ.cond rfl (fun hb => ?_) (fun hb => ?_)
                  · replace H := pif_t (of_decide_eq_true hb) H
                    refine CJ.region ?_
                    refine OJ.pures tU_ok 2 rfl ?_
                    refine OJ.nil (EJ.blk (?_))
                    exact EJ.meet (F' := [(1, .bool a1), (2, .pointer (some ⟨b1, 0, none⟩)), (5, .int .u16 (IntKind.u16.wrap y5)), (16, .int .u32 (shlI .u32 1 (a0.Names.length : Int))), (17, .int .u32 y5)]) ⟨rfl, rfl, rfl, rfl, rfl, trivial⟩ ⟨(IntKind.u16.wrap y5), H, rfl, hS.pick [0] [0, 1, 2] rfl⟩
                  · replace H := pif_f (of_decide_eq_false hb) H
                    refine CJ.skip (EJ.blk (?_))
                    exact EJ.meet (F' := [(1, .bool a1), (2, .pointer (some ⟨b1, 0, none⟩)), (5, .int .u16 y4), (16, .int .u32 (shlI .u32 1 (a0.Names.length : Int))), (17, .int .u32 y5)]) ⟨rfl, rfl, rfl, rfl, rfl, trivial⟩ ⟨y4, H, rfl, hS.pick [0] [0, 1, 2] rfl⟩
                · replace H := pif_f (of_decide_eq_false hb) H
                  refine OJ.pures tU_ok 9 rfl ?_
                  refine OJ.nil (EJ.next ?_)
                  refine CJ.condF rfl ?_
                  refine CJ.skip (EJ.blk (?_))
                  exact EJ.meet (F' := [(1, .bool a1), (2, .pointer (some ⟨b1, 0, none⟩)), (5, .int .u16 y4), (16, .int .u32 (shlI .u32 1 (a0.Names.length : Int))), (17, .int .u32 y5)]) ⟨rfl, rfl, rfl, rfl, rfl, trivial⟩ ⟨y4, H, rfl, hS.pick [0] [0, 1, 2] rfl⟩
            · replace H := pifb_f hb H
              refine OJ.pures tU_ok 15 rfl ?_
              refine OJ.nil (EJ.next ?_)
              refine CJ.condF rfl ?_
              refine CJ.skip (EJ.blk (?_))
              exact EJ.meet (F' := [(1, .bool a1), (2, .pointer (some ⟨b1, 0, none⟩)), (5, .int .u16 y4), (16, .int .u32 (shlI .u32 1 (a0.Names.length : Int))), (17, .int .u32 y5)]) ⟨rfl, rfl, rfl, rfl, rfl, trivial⟩ ⟨y4, H, rfl, hS.pick [0] [0, 1, 2] rfl⟩
        · rintro F w1 ⟨y6, he, rfl, hS⟩
          obtain rfl := Option.some.inj he
          have H := K146
          refine CJ.region ?_
          refine OJ.pures tU_ok 2 rfl ?_
          refine OJ.nil ?_
          exact EJ.round k (F' := [(1, .bool a1), (2, .pointer (some ⟨b1, 0, none⟩)), (5, .int .u16 y6), (16, .int .u32 (shlI .u32 1 (a0.Names.length : Int))), (17, .int .u32 (IntKind.u32.wrap (y5 + 1)))]) ⟨rfl, rfl, rfl, rfl, rfl, trivial⟩ (Nat.lt_succ_self _) ⟨y6, (IntKind.u32.wrap (y5 + 1)), rfl, hS.pick [0] [0, 1, 2] rfl, H⟩
      · replace H := pif_f (of_decide_eq_false hb) H
        refine CJ.exit (EJ.skE (EJ.skE (EJ.hit (?_))))
        exact EJ.meet (F' := [(5, .int .u16 y4)]) ⟨rfl, trivial⟩ ⟨y4, H, rfl, hS.pick [] [0, 1, 2] rfl⟩
  · rintro F w1 ⟨y3, he, rfl, hS⟩
    obtain rfl := Option.some.inj he
    have H := K137
    refine EJ.next ?_
    refine CJ.seq ?_
    refine CJ.region ?_
    refine OJ.pures tU_ok 1 rfl ?_
    obtain ⟨t26, ht26, H⟩ := pbind H
    refine OJ.callF rfl rfl rfl rfl rfl hb52 rfl (impl_listed.c k _ y3 _ ht26) ?_
    rintro _ w1 ⟨A27, c28, rfl, hs⟩
    replace hS := hS.addN hs
    refine OJ.pures tU_ok 1 rfl ?_
    refine OJ.nil (EJ.next ?_)
    refine CJ.ret (?_)
    obtain rfl := Option.some.inj H
    exact EJ.fin rfl (.tmp rfl .nil) ⟨A27, c28, rfl, hS.pick [0] [] rfl⟩

def impl_MostPeaceful.f (k : Nat) (a0 : Herd) : Option (List Int × Int) := (impl_ValidHerd.f k a0).bind fun t2 => if (!t2) = true then (some ([], 1)) else ((impl_Herd_largest.f k a0 false).bind fun t3 => some (t3, 0))
theorem impl_MostPeaceful.c (k : Nat) (w : World) (Aa0_0 : Option Addr) (ca0_0 : Nat) (Aa0_1 : Option Addr) (ca0_1 : Nat) (Aa0_2 : Option Addr) (ca0_2 : Nat) (a0 : Herd) (hr0_0 : Rd G.cs w Aa0_0 a0.Names) (hc0_0 : a0.Names.length ≤ ca0_0) (hr0_1 : Rd (ci .i16) w Aa0_1 a0.Eats) (hc0_1 : a0.Eats.length ≤ ca0_1) (hr0_2 : Rd (ci .u16) w Aa0_2 a0.Foes) (hc0_2 : a0.Foes.length ≤ ca0_2) (r : List Int × Int) (H : impl_MostPeaceful.f k a0 = some r) :
    CV Tryd.prog 8 [.agg [.slice Aa0_0 a0.Names.length ca0_0, .slice Aa0_1 a0.Eats.length ca0_1, .slice Aa0_2 a0.Foes.length ca0_2].toArray].toArray w fun v w' => ∃ (A0 : Option Addr) (c0 : Nat), v = .tuple #[.slice A0 r.1.length c0, .int .i64 r.2] ∧ St w no w' [rowC (ci .i64) A0 c0 2 r.1] [] := by
  have hS := ((((St.init w no).param G.cs Aa0_0 ca0_0 a0.Names hr0_0 hc0_0).param (ci .i16) Aa0_1 ca0_1 a0.Eats hr0_1 hc0_1).param (ci .u16) Aa0_2 ca0_2 a0.Foes hr0_2 hc0_2)
  unfold impl_MostPeaceful.f at H
  refine CV.body Tryd.func8 rfl Tryd.ntmps8 rfl ?_
  refine CJ.seq ?_
  refine CJ.region ?_
  refine OJ.ef rfl rfl rfl (Ef.box hS rfl rfl ([.slice Aa0_0 a0.Names.length ca0_0, .slice Aa0_1 a0.Eats.length ca0_1, .slice Aa0_2 a0.Foes.length ca0_2]) rfl) ?_
  rintro _ w1 ⟨b1, rfl, hS⟩
  refine OJ.pures tU_ok 2 rfl ?_
  refine OJ.nil (EJ.next ?_)
  refine CJ.seq ?_
  refine CJ.seq ?_
  refine CJ.region ?_
  refine OJ.st rfl rfl rfl (SR.load rfl rfl (fun w' hx => ldN tU_ok tI_ok rfl rfl rfl (CA.ext (hS.cells (i := 0) rfl) hx) (ds := [.slice Aa0_0 a0.Names.length ca0_0, .slice Aa0_1 a0.Eats.length ca0_1, .slice Aa0_2 a0.Foes.length ca0_2]) rfl rfl)) ?_
  obtain ⟨t2, ht2, H⟩ := pbind H
  refine OJ.callF rfl rfl rfl rfl rfl hb25 rfl (impl_ValidHerd.c k _ Aa0_0 ca0_0 Aa0_1 ca0_1 Aa0_2 ca0_2 a0 (hS.rd' (i := 0) rfl) (hS.le' (i := 0) rfl) (hS.rd' (i := 1) rfl) (hS.le' (i := 1) rfl) (hS.rd' (i := 2) rfl) (hS.le' (i := 2) rfl) _ ht2) ?_
  rintro _ w1 ⟨rfl, hs⟩
  replace hS := hS.grow hs
  refine OJ.pures tU_ok 1 rfl ?_
  refine OJ.nil (EJ.next ?_)
  refine CJ.cond rfl (fun hb => ?_) (fun hb => ?_)
  · replace H := pif_t hb H
    refine CJ.seq ?_
    refine CJ.region ?_
    refine OJ.pures tU_ok 2 rfl ?_
    refine OJ.nil (EJ.next ?_)
    refine CJ.ret (EJ.skR (?_))
    replace hS := hS.addNil (ci .i64) 2 none
    obtain rfl := Option.some.inj H
    exact EJ.fin rfl (.tmp rfl (.tmp rfl .nil)) ⟨none, 0, rfl, hS.pick [1] [] rfl⟩
  · replace H := pifb_f hb H
    refine CJ.skip (EJ.next ?_)
    refine CJ.seq ?_
    refine CJ.region ?_
    refine OJ.st rfl rfl rfl (SR.load rfl rfl (fun w' hx => ldN tU_ok tI_ok rfl rfl rfl (CA.ext (hS.cells (i := 0) rfl) hx) (ds := [.slice Aa0_0 a0.Names.length ca0_0, .slice Aa0_1 a0.Eats.length ca0_1, .slice Aa0_2 a0.Foes.length ca0_2]) rfl rfl)) ?_
    obtain ⟨t3, ht3, H⟩ := pbind H
    refine OJ.callF rfl rfl rfl rfl rfl hb26 rfl (impl_Herd_largest.c k _ Aa0_0 ca0_0 Aa0_1 ca0_1 Aa0_2 ca0_2 a0 (hS.rd' (i := 0) rfl) (hS.le' (i := 0) rfl) (hS.rd' (i := 1) rfl) (hS.le' (i := 1) rfl) (hS.rd' (i := 2) rfl) (hS.le' (i := 2) rfl) false _ ht3) ?_
    rintro _ w1 ⟨A4, c5, rfl, hs⟩
    replace hS := hS.addN hs
    refine OJ.pures tU_ok 2 rfl ?_
    refine OJ.nil (EJ.next ?_)
    refine CJ.ret (?_)
    obtain rfl := Option.some.inj H
    exact EJ.fin rfl (.tmp rfl (.tmp rfl .nil)) ⟨A4, c5, rfl, hS.pick [1] [] rfl⟩

def laws_eqInt64S.l1 (a0 : List Int) (a1 : List Int) : Nat → Int → Option (Bool ⊕ Unit)
  | 0, _ => none
  | k + 1, y1 => if y1 < (a0.length : Int) then ((getI a0 y1).bind fun t2 => (getI a1 y1).bind fun t3 => if t2 ≠ t3 then (some (Sum.inl false)) else (laws_eqInt64S.l1 a0 a1 k (IntKind.i64.wrap (y1 + 1)))) else (some (Sum.inr ()))
def laws_eqInt64S.f (k : Nat) (a0 : List Int) (a1 : List Int) : Option Bool := if (a0.length : Int) ≠ (a1.length : Int) then (some false) else ((laws_eqInt64S.l1 a0 a1 k 0).bind fun s150 => match s150 with | .inl r => some r | .inr _ => some true)
theorem laws_eqInt64S.c (k : Nat) (w : World) (Aa0 : Option Addr) (ca0 : Nat) (a0 : List Int) (hr0 : Rd (ci .i64) w Aa0 a0) (hc0 : a0.length ≤ ca0) (Aa1 : Option Addr) (ca1 : Nat) (a1 : List Int) (hr1 : Rd (ci .i64) w Aa1 a1) (hc1 : a1.length ≤ ca1) (r : Bool) (H : laws_eqInt64S.f k a0 a1 = some r) :
    CV Tryd.prog 9 [.slice Aa0 a0.length ca0, .slice Aa1 a1.length ca1].toArray w fun v w' => v = .bool r ∧ Ext w w' := by
  have hS := (((St.init w no).param (ci .i64) Aa0 ca0 a0 hr0 hc0).param (ci .i64) Aa1 ca1 a1 hr1 hc1)
  unfold laws_eqInt64S.f at H
  refine CV.body Tryd.func9 rfl Tryd.ntmps9 rfl ?_
  refine CJ.seq ?_
  refine CJ.region ?_
  refine OJ.pures tU_ok 1 rfl ?_
  refine OJ.nil (EJ.next ?_)
  refine CJ.seq ?_
  refine CJ.seq ?_
  refine CJ.region ?_
  refine OJ.pures tU_ok 5 rfl ?_
  refine OJ.nil (EJ.next ?_)
  refine CJ.cond rfl (fun hb => ?_) (fun hb => ?_)
  · replace H := pif_t (of_decide_eq_true hb) H
    refine CJ.seq ?_
    refine CJ.region ?_
    refine OJ.pures tU_ok 1 rfl ?_
    refine OJ.nil (EJ.next ?_)
    refine CJ.ret (EJ.skR (?_))
    obtain rfl := Option.some.inj H
    exact EJ.fin rfl (.tmp rfl .nil) ⟨rfl, hS.ext⟩
  · replace H := pif_f (of_decide_eq_false hb) H
    refine CJ.skip (EJ.next ?_)
    refine CJ.seq ?_
    refine CJ.seq ?_
    refine CJ.region ?_
    refine OJ.pures tU_ok 1 rfl ?_
    refine OJ.nil (EJ.next ?_)
    obtain ⟨j150, H, K150⟩ := pbind H
    refine CJ.cut1 (fun F w1 => (some (Sum.inr ()) : Option (Bool ⊕ Unit)) = some j150 ∧ F = [] ∧ St w no w1 [] [roC (ci .i64) Aa0 ca0 a0, roC (ci .i64) Aa1 ca1 a1]) ?_ ?_
    · skip
      refine CJ.block ?_
      refine CJ.loop (fun k F w1 => ∃ (y1 : Int), F = [(0, .slice Aa0 a0.length ca0), (1, .slice Aa1 a1.length ca1), (5, .int .i64 y1)] ∧ St w no w1 [] [roC (ci .i64) Aa0 ca0 a0, roC (ci .i64) Aa1 ca1 a1] ∧ laws_eqInt64S.l1 a0 a1 k y1 = some j150) k (F' := [(0, .slice Aa0 a0.length ca0), (1, .slice Aa1 a1.length ca1), (5, .int .i64 0)]) ⟨rfl, rfl, rfl, trivial⟩ ⟨0, rfl, hS.pick [] [0, 1] rfl, H⟩ ?_
      rintro k F w1 ⟨y1, rfl, hS, H⟩
      cases k with
      | zero => rw [laws_eqInt64S.l1] at H; cases H
      | succ k =>
        rw [laws_eqInt64S.l1] at H
        refine CJ.seq ?_
        refine CJ.seq ?_
        refine CJ.region ?_
        refine OJ.pures tU_ok 4 rfl ?_
        refine OJ.nil (EJ.next ?_)
        refine CJ.cond rfl (fun hb => ?_) (fun hb => ?_)
        · replace H := pif_t (of_decide_eq_true hb) H
          refine CJ.skip (EJ.next ?_)
          refine CJ.seq ?_
          refine CJ.block ?_
          refine CJ.seq ?_
          refine CJ.draw [] [0, 1, 2, 3, 4, 5, 6, 7, 8] mixed (by kernel_rfl) hS fun w1 hS => ?_
          refine DJ.pures tU_ok 2 rfl ?_
          obtain ⟨t2, ht2, H⟩ := pbind H
          obtain ⟨ad2, e2⟩ := (hS.rd' (i := 0) rfl).some' ht2
          refine DJ.st rfl rfl rfl rfl rfl (SR.idxS tU_ok tI_ok rfl rfl rfl rfl e2 rfl (getI_some ht2).1) ?_
          refine DJ.st rfl rfl rfl rfl rfl (SR.load rfl rfl (fun w' hx => ld1 tU_ok rfl rfl (CA.ext ((hS.rd' (i := 0) rfl).at_ e2 ht2) hx) rfl)) ?_
          refine DJ.pures tU_ok 2 rfl ?_
          obtain ⟨t3, ht3, H⟩ := pbind H
          obtain ⟨ad3, e3⟩ := (hS.rd' (i := 1) rfl).some' ht3
          refine DJ.st rfl rfl rfl rfl rfl (SR.idxS tU_ok tI_ok rfl rfl rfl rfl e3 rfl (getI_some ht3).1) ?_
          refine DJ.st rfl rfl rfl rfl rfl (SR.load rfl rfl (fun w' hx => ld1 tU_ok rfl rfl (CA.ext ((hS.rd' (i := 1) rfl).at_ e3 ht3) hx) rfl)) ?_
          refine DJ.pures tU_ok 1 rfl ?_
          refine DJ.nil (EJ.next ?_)
          refine CJ.cond rfl (fun hb => ?_) (fun hb => ?_)
          · replace H := pif_t (of_decide_eq_true hb) H
            refine CJ.seq ?_
            refine CJ.region ?_
            refine OJ.pures tU_ok 1 rfl ?_
            refine OJ.nil (EJ.next ?_)
            refine CJ.ret (EJ.bkR (EJ.skR (EJ.skR (EJ.bkR (EJ.skR (EJ.skR (?_)))))))
            first | (obtain rfl := Option.some.inj H; have H := K150) | (obtain ⟨q150, H2, e150⟩ := pbind H; obtain rfl := Option.some.inj e150; obtain rfl := Option.some.inj K150; have H := H2)
            obtain rfl := Option.some.inj H
            exact EJ.fin rfl (.tmp rfl .nil) ⟨rfl, hS.ext⟩
          · replace H := pif_f (of_decide_eq_false hb) H
            refine CJ.skip (EJ.blk (EJ.next ?_))
            refine CJ.region ?_
            refine OJ.pures tU_ok 3 rfl ?_
            refine OJ.nil ?_
            exact EJ.round k (F' := [(0, .slice Aa0 a0.length ca0), (1, .slice Aa1 a1.length ca1), (5, .int .i64 (IntKind.i64.wrap (y1 + 1)))]) ⟨rfl, rfl, rfl, trivial⟩ (Nat.lt_succ_self _) ⟨(IntKind.i64.wrap (y1 + 1)), rfl, hS.pick [] [0, 1] rfl, H⟩
        · replace H := pif_f (of_decide_eq_false hb) H
          refine CJ.exit (EJ.skE (EJ.skE (EJ.hit (?_))))
          exact EJ.meet (F' := []) trivial ⟨H, rfl, hS.pick [] [0, 1] rfl⟩
    · rintro F w1 ⟨he, rfl, hS⟩
      obtain rfl := Option.some.inj he
      have H := K150
      refine EJ.next ?_
      refine CJ.seq ?_
      refine CJ.region ?_
      refine OJ.pures tU_ok 1 rfl ?_
      refine OJ.nil (EJ.next ?_)
      refine CJ.ret (?_)
      obtain rfl := Option.some.inj H
      exact EJ.fin rfl (.tmp rfl .nil) ⟨rfl, hS.ext⟩

def laws_eqStringS.l1 (a0 : List ByteArray) (a1 : List ByteArray) : Nat → Int → Option (Bool ⊕ Unit)
  | 0, _ => none
  | k + 1, y1 => if y1 < (a0.length : Int) then ((getI a0 y1).bind fun t2 => (getI a1 y1).bind fun t3 => if t2 ≠ t3 then (some (Sum.inl false)) else (laws_eqStringS.l1 a0 a1 k (IntKind.i64.wrap (y1 + 1)))) else (some (Sum.inr ()))
def laws_eqStringS.f (k : Nat) (a0 : List ByteArray) (a1 : List ByteArray) : Option Bool := if (a0.length : Int) ≠ (a1.length : Int) then (some false) else ((laws_eqStringS.l1 a0 a1 k 0).bind fun s151 => match s151 with | .inl r => some r | .inr _ => some true)
theorem laws_eqStringS.c (k : Nat) (w : World) (Aa0 : Option Addr) (ca0 : Nat) (a0 : List ByteArray) (hr0 : Rd G.cs w Aa0 a0) (hc0 : a0.length ≤ ca0) (Aa1 : Option Addr) (ca1 : Nat) (a1 : List ByteArray) (hr1 : Rd G.cs w Aa1 a1) (hc1 : a1.length ≤ ca1) (r : Bool) (H : laws_eqStringS.f k a0 a1 = some r) :
    CV Tryd.prog 27 [.slice Aa0 a0.length ca0, .slice Aa1 a1.length ca1].toArray w fun v w' => v = .bool r ∧ Ext w w' := by
  have hS := (((St.init w no).param G.cs Aa0 ca0 a0 hr0 hc0).param G.cs Aa1 ca1 a1 hr1 hc1)
  unfold laws_eqStringS.f at H
  refine CV.body Tryd.func27 rfl Tryd.ntmps27 rfl ?_
  refine CJ.seq ?_
  refine CJ.region ?_
  refine OJ.pures tU_ok 1 rfl ?_
  refine OJ.nil (EJ.next ?_)
  refine CJ.seq ?_
  refine CJ.seq ?_
  refine CJ.region ?_
  refine OJ.pures tU_ok 5 rfl ?_
  refine OJ.nil (EJ.next ?_)
  refine CJ.cond rfl (fun hb => ?_) (fun hb => ?_)
  · replace H := pif_t (of_decide_eq_true hb) H
    refine CJ.seq ?_
    refine CJ.region ?_
    refine OJ.pures tU_ok 1 rfl ?_
    refine OJ.nil (EJ.next ?_)
    refine CJ.ret (EJ.skR (?_))
    obtain rfl := Option.some.inj H
    exact EJ.fin rfl (.tmp rfl .nil) ⟨rfl, hS.ext⟩
  · replace H := pif_f (of_decide_eq_false hb) H
    refine CJ.skip (EJ.next ?_)
    refine CJ.seq ?_
    refine CJ.seq ?_
    refine CJ.region ?_
    refine OJ.pures tU_ok 1 rfl ?_
    refine OJ.nil (EJ.next ?_)
    obtain ⟨j151, H, K151⟩ := pbind H
    refine CJ.cut1 (fun F w1 => (some (Sum.inr ()) : Option (Bool ⊕ Unit)) = some j151 ∧ F = [] ∧ St w no w1 [] [roC G.cs Aa0 ca0 a0, roC G.cs Aa1 ca1 a1]) ?_ ?_
    · skip
      refine CJ.block ?_
      refine CJ.loop (fun k F w1 => ∃ (y1 : Int), F = [(0, .slice Aa0 a0.length ca0), (1, .slice Aa1 a1.length ca1), (5, .int .i64 y1)] ∧ St w no w1 [] [roC G.cs Aa0 ca0 a0, roC G.cs Aa1 ca1 a1] ∧ laws_eqStringS.l1 a0 a1 k y1 = some j151) k (F' := [(0, .slice Aa0 a0.length ca0), (1, .slice Aa1 a1.length ca1), (5, .int .i64 0)]) ⟨rfl, rfl, rfl, trivial⟩ ⟨0, rfl, hS.pick [] [0, 1] rfl, H⟩ ?_
      rintro k F w1 ⟨y1, rfl, hS, H⟩
      cases k with
      | zero => rw [laws_eqStringS.l1] at H; cases H
      | succ k =>
        rw [laws_eqStringS.l1] at H
        refine CJ.seq ?_
        refine CJ.seq ?_
        refine CJ.region ?_
        refine OJ.pures tU_ok 4 rfl ?_
        refine OJ.nil (EJ.next ?_)
        refine CJ.cond rfl (fun hb => ?_) (fun hb => ?_)
        · replace H := pif_t (of_decide_eq_true hb) H
          refine CJ.skip (EJ.next ?_)
          refine CJ.seq ?_
          refine CJ.block ?_
          refine CJ.seq ?_
          refine CJ.draw [] [0, 1, 2, 3, 4, 5, 6, 7, 8] mixed (by kernel_rfl) hS fun w1 hS => ?_
          refine DJ.pures tU_ok 2 rfl ?_
          obtain ⟨t2, ht2, H⟩ := pbind H
          obtain ⟨ad2, e2⟩ := (hS.rd' (i := 0) rfl).some' ht2
          refine DJ.st rfl rfl rfl rfl rfl (SR.idxS tU_ok tI_ok rfl rfl rfl rfl e2 rfl (getI_some ht2).1) ?_
          refine DJ.st rfl rfl rfl rfl rfl (SR.load rfl rfl (fun w' hx => ld1 tU_ok rfl rfl (CA.ext ((hS.rd' (i := 0) rfl).at_ e2 ht2) hx) rfl)) ?_
          refine DJ.pures tU_ok 2 rfl ?_
          obtain ⟨t3, ht3, H⟩ := pbind H
          obtain ⟨ad3, e3⟩ := (hS.rd' (i := 1) rfl).some' ht3
          refine DJ.st rfl rfl rfl rfl rfl (SR.idxS tU_ok tI_ok rfl rfl rfl rfl e3 rfl (getI_some ht3).1) ?_
          refine DJ.st rfl rfl rfl rfl rfl (SR.load rfl rfl (fun w' hx => ld1 tU_ok rfl rfl (CA.ext ((hS.rd' (i := 1) rfl).at_ e3 ht3) hx) rfl)) ?_
          refine DJ.pures tU_ok 1 rfl ?_
          refine DJ.nil (EJ.next ?_)
          refine CJ.cond rfl (fun hb => ?_) (fun hb => ?_)
          · replace H := pif_t (of_decide_eq_true hb) H
            refine CJ.seq ?_
            refine CJ.region ?_
            refine OJ.pures tU_ok 1 rfl ?_
            refine OJ.nil (EJ.next ?_)
            refine CJ.ret (EJ.bkR (EJ.skR (EJ.skR (EJ.bkR (EJ.skR (EJ.skR (?_)))))))
            first | (obtain rfl := Option.some.inj H; have H := K151) | (obtain ⟨q151, H2, e151⟩ := pbind H; obtain rfl := Option.some.inj e151; obtain rfl := Option.some.inj K151; have H := H2)
            obtain rfl := Option.some.inj H
            exact EJ.fin rfl (.tmp rfl .nil) ⟨rfl, hS.ext⟩
          · replace H := pif_f (of_decide_eq_false hb) H
            refine CJ.skip (EJ.blk (EJ.next ?_))
            refine CJ.region ?_
            refine OJ.pures tU_ok 3 rfl ?_
            refine OJ.nil ?_
            exact EJ.round k (F' := [(0, .slice Aa0 a0.length ca0), (1, .slice Aa1 a1.length ca1), (5, .int .i64 (IntKind.i64.wrap (y1 + 1)))]) ⟨rfl, rfl, rfl, trivial⟩ (Nat.lt_succ_self _) ⟨(IntKind.i64.wrap (y1 + 1)), rfl, hS.pick [] [0, 1] rfl, H⟩
        · replace H := pif_f (of_decide_eq_false hb) H
          refine CJ.exit (EJ.skE (EJ.skE (EJ.hit (?_))))
          exact EJ.meet (F' := []) trivial ⟨H, rfl, hS.pick [] [0, 1] rfl⟩
    · rintro F w1 ⟨he, rfl, hS⟩
      obtain rfl := Option.some.inj he
      have H := K151
      refine EJ.next ?_
      refine CJ.seq ?_
      refine CJ.region ?_
      refine OJ.pures tU_ok 1 rfl ?_
      refine OJ.nil (EJ.next ?_)
      refine CJ.ret (?_)
      obtain rfl := Option.some.inj H
      exact EJ.fin rfl (.tmp rfl .nil) ⟨rfl, hS.ext⟩

def laws_eqInt16S.l1 (a0 : List Int) (a1 : List Int) : Nat → Int → Option (Bool ⊕ Unit)
  | 0, _ => none
  | k + 1, y1 => if y1 < (a0.length : Int) then ((getI a0 y1).bind fun t2 => (getI a1 y1).bind fun t3 => if t2 ≠ t3 then (some (Sum.inl false)) else (laws_eqInt16S.l1 a0 a1 k (IntKind.i64.wrap (y1 + 1)))) else (some (Sum.inr ()))
def laws_eqInt16S.f (k : Nat) (a0 : List Int) (a1 : List Int) : Option Bool := if (a0.length : Int) ≠ (a1.length : Int) then (some false) else ((laws_eqInt16S.l1 a0 a1 k 0).bind fun s152 => match s152 with | .inl r => some r | .inr _ => some true)
theorem laws_eqInt16S.c (k : Nat) (w : World) (Aa0 : Option Addr) (ca0 : Nat) (a0 : List Int) (hr0 : Rd (ci .i16) w Aa0 a0) (hc0 : a0.length ≤ ca0) (Aa1 : Option Addr) (ca1 : Nat) (a1 : List Int) (hr1 : Rd (ci .i16) w Aa1 a1) (hc1 : a1.length ≤ ca1) (r : Bool) (H : laws_eqInt16S.f k a0 a1 = some r) :
    CV Tryd.prog 28 [.slice Aa0 a0.length ca0, .slice Aa1 a1.length ca1].toArray w fun v w' => v = .bool r ∧ Ext w w' := by
  have hS := (((St.init w no).param (ci .i16) Aa0 ca0 a0 hr0 hc0).param (ci .i16) Aa1 ca1 a1 hr1 hc1)
  unfold laws_eqInt16S.f at H
  refine CV.body Tryd.func28 rfl Tryd.ntmps28 rfl ?_
  refine CJ.seq ?_
  refine CJ.region ?_
  refine OJ.pures tU_ok 1 rfl ?_
  refine OJ.nil (EJ.next ?_)
  refine CJ.seq ?_
  refine CJ.seq ?_
  refine CJ.region ?_
  refine OJ.pures tU_ok 5 rfl ?_
  refine OJ.nil (EJ.next ?_)
  refine CJ.cond rfl (fun hb => ?_) (fun hb => ?_)
  · replace H := pif_t (of_decide_eq_true hb) H
    refine CJ.seq ?_
    refine CJ.region ?_
    refine OJ.pures tU_ok 1 rfl ?_
    refine OJ.nil (EJ.next ?_)
    refine CJ.ret (EJ.skR (?_))
    obtain rfl := Option.some.inj H
    exact EJ.fin rfl (.tmp rfl .nil) ⟨rfl, hS.ext⟩
  · replace H := pif_f (of_decide_eq_false hb) H
    refine CJ.skip (EJ.next ?_)
    refine CJ.seq ?_
    refine CJ.seq ?_
    refine CJ.region ?_
    refine OJ.pures tU_ok 1 rfl ?_
    refine OJ.nil (EJ.next ?_)
    obtain ⟨j152, H, K152⟩ := pbind H
    refine CJ.cut1 (fun F w1 => (some (Sum.inr ()) : Option (Bool ⊕ Unit)) = some j152 ∧ F = [] ∧ St w no w1 [] [roC (ci .i16) Aa0 ca0 a0, roC (ci .i16) Aa1 ca1 a1]) ?_ ?_
    · skip
      refine CJ.block ?_
      refine CJ.loop (fun k F w1 => ∃ (y1 : Int), F = [(0, .slice Aa0 a0.length ca0), (1, .slice Aa1 a1.length ca1), (5, .int .i64 y1)] ∧ St w no w1 [] [roC (ci .i16) Aa0 ca0 a0, roC (ci .i16) Aa1 ca1 a1] ∧ laws_eqInt16S.l1 a0 a1 k y1 = some j152) k (F' := [(0, .slice Aa0 a0.length ca0), (1, .slice Aa1 a1.length ca1), (5, .int .i64 0)]) ⟨rfl, rfl, rfl, trivial⟩ ⟨0, rfl, hS.pick [] [0, 1] rfl, H⟩ ?_
      rintro k F w1 ⟨y1, rfl, hS, H⟩
      cases k with
      | zero => rw [laws_eqInt16S.l1] at H; cases H
      | succ k =>
        rw [laws_eqInt16S.l1] at H
        refine CJ.seq ?_
        refine CJ.seq ?_
        refine CJ.region ?_
        refine OJ.pures tU_ok 4 rfl ?_
        refine OJ.nil (EJ.next ?_)
        refine CJ.cond rfl (fun hb => ?_) (fun hb => ?_)
        · replace H := pif_t (of_decide_eq_true hb) H
          refine CJ.skip (EJ.next ?_)
          refine CJ.seq ?_
          refine CJ.block ?_
          refine CJ.seq ?_
          refine CJ.draw [] [0, 1, 2, 3, 4, 5, 6, 7, 8] mixed (by kernel_rfl) hS fun w1 hS => ?_
          refine DJ.pures tU_ok 2 rfl ?_
          obtain ⟨t2, ht2, H⟩ := pbind H
          obtain ⟨ad2, e2⟩ := (hS.rd' (i := 0) rfl).some' ht2
          refine DJ.st rfl rfl rfl rfl rfl (SR.idxS tU_ok tI_ok rfl rfl rfl rfl e2 rfl (getI_some ht2).1) ?_
          refine DJ.st rfl rfl rfl rfl rfl (SR.load rfl rfl (fun w' hx => ld1 tU_ok rfl rfl (CA.ext ((hS.rd' (i := 0) rfl).at_ e2 ht2) hx) rfl)) ?_
          refine DJ.pures tU_ok 2 rfl ?_
          obtain ⟨t3, ht3, H⟩ := pbind H
          obtain ⟨ad3, e3⟩ := (hS.rd' (i := 1) rfl).some' ht3
          refine DJ.st rfl rfl rfl rfl rfl (SR.idxS tU_ok tI_ok rfl rfl rfl rfl e3 rfl (getI_some ht3).1) ?_
          refine DJ.st rfl rfl rfl rfl rfl (SR.load rfl rfl (fun w' hx => ld1 tU_ok rfl rfl (CA.ext ((hS.rd' (i := 1) rfl).at_ e3 ht3) hx) rfl)) ?_
          refine DJ.pures tU_ok 1 rfl ?_
          refine DJ.nil (EJ.next ?_)
          refine CJ.cond rfl (fun hb => ?_) (fun hb => ?_)
          · replace H := pif_t (of_decide_eq_true hb) H
            refine CJ.seq ?_
            refine CJ.region ?_
            refine OJ.pures tU_ok 1 rfl ?_
            refine OJ.nil (EJ.next ?_)
            refine CJ.ret (EJ.bkR (EJ.skR (EJ.skR (EJ.bkR (EJ.skR (EJ.skR (?_)))))))
            first | (obtain rfl := Option.some.inj H; have H := K152) | (obtain ⟨q152, H2, e152⟩ := pbind H; obtain rfl := Option.some.inj e152; obtain rfl := Option.some.inj K152; have H := H2)
            obtain rfl := Option.some.inj H
            exact EJ.fin rfl (.tmp rfl .nil) ⟨rfl, hS.ext⟩
          · replace H := pif_f (of_decide_eq_false hb) H
            refine CJ.skip (EJ.blk (EJ.next ?_))
            refine CJ.region ?_
            refine OJ.pures tU_ok 3 rfl ?_
            refine OJ.nil ?_
            exact EJ.round k (F' := [(0, .slice Aa0 a0.length ca0), (1, .slice Aa1 a1.length ca1), (5, .int .i64 (IntKind.i64.wrap (y1 + 1)))]) ⟨rfl, rfl, rfl, trivial⟩ (Nat.lt_succ_self _) ⟨(IntKind.i64.wrap (y1 + 1)), rfl, hS.pick [] [0, 1] rfl, H⟩
        · replace H := pif_f (of_decide_eq_false hb) H
          refine CJ.exit (EJ.skE (EJ.skE (EJ.hit (?_))))
          exact EJ.meet (F' := []) trivial ⟨H, rfl, hS.pick [] [0, 1] rfl⟩
    · rintro F w1 ⟨he, rfl, hS⟩
      obtain rfl := Option.some.inj he
      have H := K152
      refine EJ.next ?_
      refine CJ.seq ?_
      refine CJ.region ?_
      refine OJ.pures tU_ok 1 rfl ?_
      refine OJ.nil (EJ.next ?_)
      refine CJ.ret (?_)
      obtain rfl := Option.some.inj H
      exact EJ.fin rfl (.tmp rfl .nil) ⟨rfl, hS.ext⟩
end Go.Proofs.YtnnclbomoeigcaaDoor
