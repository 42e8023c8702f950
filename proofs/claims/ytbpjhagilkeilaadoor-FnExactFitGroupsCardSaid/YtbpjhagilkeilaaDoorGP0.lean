/-
  What the functions come to.
-/
import Derived.Test.YtbpjhagilkeilaaDoorGT
namespace Go.Proofs.YtbpjhagilkeilaaDoor
open G
set_option linter.unusedVariables false
set_option linter.unusedSimpArgs false
set_option maxRecDepth 100000
set_option maxHeartbeats 4000000
def laws_szStringS.l1 (a0 : List ByteArray) : Nat → Int → Int → Option (Int ⊕ Int)
  | 0, _, _ => none
  | k + 1, y2, y3 => if y3 < (a0.length : Int) then ((getI a0 y3).bind fun t4 => if (IntKind.i64.wrap (y2 - (t4.size : Int))) < 0 then (some (Sum.inl (-1))) else (laws_szStringS.l1 a0 k (IntKind.i64.wrap (y2 - (t4.size : Int))) (IntKind.i64.wrap (y3 + 1)))) else (some (Sum.inr y2))
def laws_szStringS.f (k : Nat) (a0 : List ByteArray) (a1 : Int) : Option Int := if (IntKind.i64.wrap (a1 - (a0.length : Int))) < 0 then (some (-1)) else ((laws_szStringS.l1 a0 k (IntKind.i64.wrap (a1 - (a0.length : Int))) 0).bind fun s1 => match s1 with | .inl r => some r | .inr y1 => some y1)
theorem laws_szStringS.c (k : Nat) (w : World) (Aa0 : Option Addr) (ca0 : Nat) (a0 : List ByteArray) (hr0 : Rd G.cs w Aa0 a0) (hc0 : a0.length ≤ ca0) (a1 : Int) (r : Int) (H : laws_szStringS.f k a0 a1 = some r) :
    CV Tryd.prog 24 [.slice Aa0 a0.length ca0, .int .i64 a1].toArray w fun v w' => v = .int .i64 r ∧ Ext w w' := by
  have hS := ((St.init w no).param G.cs Aa0 ca0 a0 hr0 hc0)
  unfold laws_szStringS.f at H
  refine CV.body Tryd.func24 rfl Tryd.ntmps24 rfl ?_
  refine CJ.seq ?_
  refine CJ.region ?_
  refine OJ.pures tU_ok 1 rfl ?_
  refine OJ.nil (EJ.next ?_)
  refine CJ.seq ?_
  refine CJ.region ?_
  refine OJ.pures tU_ok 5 rfl ?_
  refine OJ.nil (EJ.next ?_)
  refine CJ.seq ?_
  refine CJ.seq ?_
  refine CJ.region ?_
  refine OJ.pures tU_ok 2 rfl ?_
  refine OJ.nil (EJ.next ?_)
  refine CJ.cond rfl (fun hb => ?_) (fun hb => ?_)
  · replace H := pif_t (of_decide_eq_true hb) H
    refine CJ.seq ?_
    refine CJ.region ?_
    refine OJ.pures tU_ok 1 rfl ?_
    refine OJ.nil (EJ.next ?_)
    refine CJ.ret (EJ.skR (?_))
    obtain rfl := Option.some.inj H
    exact EJ.fin rfl (.tmp rfl .nil) ⟨rfl, hS.ext⟩
  · replace H := pif_f (of_decide_eq_false hb) H
    refine CJ.skip (EJ.next ?_)
    refine CJ.seq ?_
    refine CJ.seq ?_
    refine CJ.region ?_
    refine OJ.pures tU_ok 1 rfl ?_
    refine OJ.nil (EJ.next ?_)
    obtain ⟨j1, H, K1⟩ := pbind H
    refine CJ.cut1 (fun F w1 => ∃ (y1 : Int) , (some (Sum.inr y1) : Option (Int ⊕ Int)) = some j1 ∧ F = [(1, .int .i64 y1)] ∧ St w no w1 [] [roC G.cs Aa0 ca0 a0]) ?_ ?_
    · skip
      refine CJ.block ?_
      refine CJ.loop (fun k F w1 => ∃ (y2 : Int) (y3 : Int), F = [(0, .slice Aa0 a0.length ca0), (1, .int .i64 y2), (5, .int .i64 y3)] ∧ St w no w1 [] [roC G.cs Aa0 ca0 a0] ∧ laws_szStringS.l1 a0 k y2 y3 = some j1) k (F' := [(0, .slice Aa0 a0.length ca0), (1, .int .i64 (IntKind.i64.wrap (a1 - (a0.length : Int)))), (5, .int .i64 0)]) ⟨rfl, rfl, rfl, trivial⟩ ⟨(IntKind.i64.wrap (a1 - (a0.length : Int))), 0, rfl, hS.pick [] [0] rfl, H⟩ ?_
      rintro k F w1 ⟨y2, y3, rfl, hS, H⟩
      cases k with
      | zero => rw [laws_szStringS.l1] at H; cases H
      | succ k =>
        rw [laws_szStringS.l1] at H
        refine CJ.seq ?_
        refine CJ.seq ?_
        refine CJ.region ?_
        refine OJ.pures tU_ok 4 rfl ?_
        refine OJ.nil (EJ.next ?_)
        refine CJ.cond rfl (fun hb => ?_) (fun hb => ?_)
        · replace H := pif_t (of_decide_eq_true hb) H
          refine CJ.skip (EJ.next ?_)
          refine CJ.seq ?_
          refine CJ.block ?_
          refine CJ.seq ?_
          refine CJ.region ?_
          refine OJ.pures tU_ok 3 rfl ?_
          obtain ⟨t4, ht4, H⟩ := pbind H
          obtain ⟨ad4, e4⟩ := (hS.rd' (i := 0) rfl).some' ht4
          refine OJ.st rfl rfl rfl (SR.idxS tU_ok tI_ok rfl rfl rfl rfl e4 rfl (getI_some ht4).1) ?_
          refine OJ.st rfl rfl rfl (SR.load rfl rfl (fun w' hx => ld1 tU_ok rfl rfl (CA.ext ((hS.rd' (i := 0) rfl).at_ e4 ht4) hx) rfl)) ?_
          refine OJ.pures tU_ok 3 rfl ?_
          refine OJ.nil (EJ.next ?_)
          refine CJ.seq ?_
          refine CJ.region ?_
          refine OJ.pures tU_ok 2 rfl ?_
          refine OJ.nil (EJ.next ?_)
          refine CJ.cond rfl (fun hb => ?_) (fun hb => ?_)
          · replace H := pif_t (of_decide_eq_true hb) H
            refine CJ.seq ?_
            refine CJ.region ?_
            refine OJ.pures tU_ok 1 rfl ?_
            refine OJ.nil (EJ.next ?_)
            refine CJ.ret (EJ.bkR (EJ.skR (EJ.skR (EJ.bkR (EJ.skR (EJ.skR (?_)))))))
            first | (obtain rfl := Option.some.inj H; have H := K1) | (obtain ⟨q1, H2, e1⟩ := pbind H; obtain rfl := Option.some.inj e1; obtain rfl := Option.some.inj K1; have H := H2)
            obtain rfl := Option.some.inj H
            exact EJ.fin rfl (.tmp rfl .nil) ⟨rfl, hS.ext⟩
          · replace H := pif_f (of_decide_eq_false hb) H
            refine CJ.skip (EJ.blk (EJ.next ?_))
            refine CJ.region ?_
            refine OJ.pures tU_ok 3 rfl ?_
            refine OJ.nil ?_
            exact EJ.round k (F' := [(0, .slice Aa0 a0.length ca0), (1, .int .i64 (IntKind.i64.wrap (y2 - (t4.size : Int)))), (5, .int .i64 (IntKind.i64.wrap (y3 + 1)))]) ⟨rfl, rfl, rfl, trivial⟩ (Nat.lt_succ_self _) ⟨(IntKind.i64.wrap (y2 - (t4.size : Int))), (IntKind.i64.wrap (y3 + 1)), rfl, hS.pick [] [0] rfl, H⟩
        · replace H := pif_f (of_decide_eq_false hb) H
          refine CJ.exit (EJ.skE (EJ.skE (EJ.hit (?_))))
          exact EJ.meet (F' := [(1, .int .i64 y2)]) ⟨rfl, trivial⟩ ⟨y2, H, rfl, hS.pick [] [0] rfl⟩
    · rintro F w1 ⟨y1, he, rfl, hS⟩
      obtain rfl := Option.some.inj he
      have H := K1
      refine EJ.next ?_
      refine CJ.seq ?_
      refine CJ.region ?_
      refine OJ.pures tU_ok 2 rfl ?_
      refine OJ.nil (EJ.next ?_)
      refine CJ.ret (?_)
      obtain rfl := Option.some.inj H
      exact EJ.fin rfl (.tmp rfl .nil) ⟨rfl, hS.ext⟩

def laws_szInt16S.f (a0 : List Int) (a1 : Int) : Option Int := if (IntKind.i64.wrap (a1 - (a0.length : Int))) < 0 then (some (-1)) else (some (IntKind.i64.wrap (a1 - (a0.length : Int))))
theorem laws_szInt16S.c (w : World) (Aa0 : Option Addr) (ca0 : Nat) (a0 : List Int) (hr0 : Rd (ci .i16) w Aa0 a0) (hc0 : a0.length ≤ ca0) (a1 : Int) (r : Int) (H : laws_szInt16S.f a0 a1 = some r) :
    CV Tryd.prog 25 [.slice Aa0 a0.length ca0, .int .i64 a1].toArray w fun v w' => v = .int .i64 r ∧ Ext w w' := by
  have hS := ((St.init w no).param (ci .i16) Aa0 ca0 a0 hr0 hc0)
  unfold laws_szInt16S.f at H
  refine CV.body Tryd.func25 rfl Tryd.ntmps25 rfl ?_
  refine CJ.seq ?_
  refine CJ.region ?_
  refine OJ.pures tU_ok 1 rfl ?_
  refine OJ.nil (EJ.next ?_)
  refine CJ.seq ?_
  refine CJ.region ?_
  refine OJ.pures tU_ok 5 rfl ?_
  refine OJ.nil (EJ.next ?_)
  refine CJ.seq ?_
  refine CJ.seq ?_
  refine CJ.region ?_
  refine OJ.pures tU_ok 2 rfl ?_
  refine OJ.nil (EJ.next ?_)
  refine CJ.cond rfl (fun hb => ?_) (fun hb => ?_)
  · replace H := pif_t (of_decide_eq_true hb) H
    refine CJ.seq ?_
    refine CJ.region ?_
    refine OJ.pures tU_ok 1 rfl ?_
    refine OJ.nil (EJ.next ?_)
    refine CJ.ret (EJ.skR (?_))
    obtain rfl := Option.some.inj H
    exact EJ.fin rfl (.tmp rfl .nil) ⟨rfl, hS.ext⟩
  · replace H := pif_f (of_decide_eq_false hb) H
    refine CJ.skip (EJ.next ?_)
    refine CJ.seq ?_
    refine CJ.region ?_
    refine OJ.pures tU_ok 2 rfl ?_
    refine OJ.nil (EJ.next ?_)
    refine CJ.ret (?_)
    obtain rfl := Option.some.inj H
    exact EJ.fin rfl (.tmp rfl .nil) ⟨rfl, hS.ext⟩

def laws_szUint16S.f (a0 : List Int) (a1 : Int) : Option Int := if (IntKind.i64.wrap (a1 - (a0.length : Int))) < 0 then (some (-1)) else (some (IntKind.i64.wrap (a1 - (a0.length : Int))))
theorem laws_szUint16S.c (w : World) (Aa0 : Option Addr) (ca0 : Nat) (a0 : List Int) (hr0 : Rd (ci .u16) w Aa0 a0) (hc0 : a0.length ≤ ca0) (a1 : Int) (r : Int) (H : laws_szUint16S.f a0 a1 = some r) :
    CV Tryd.prog 26 [.slice Aa0 a0.length ca0, .int .i64 a1].toArray w fun v w' => v = .int .i64 r ∧ Ext w w' := by
  have hS := ((St.init w no).param (ci .u16) Aa0 ca0 a0 hr0 hc0)
  unfold laws_szUint16S.f at H
  refine CV.body Tryd.func26 rfl Tryd.ntmps26 rfl ?_
  refine CJ.seq ?_
  refine CJ.region ?_
  refine OJ.pures tU_ok 1 rfl ?_
  refine OJ.nil (EJ.next ?_)
  refine CJ.seq ?_
  refine CJ.region ?_
  refine OJ.pures tU_ok 5 rfl ?_
  refine OJ.nil (EJ.next ?_)
  refine CJ.seq ?_
  refine CJ.seq ?_
  refine CJ.region ?_
  refine OJ.pures tU_ok 2 rfl ?_
  refine OJ.nil (EJ.next ?_)
  refine CJ.cond rfl (fun hb => ?_) (fun hb => ?_)
  · replace H := pif_t (of_decide_eq_true hb) H
    refine CJ.seq ?_
    refine CJ.region ?_
    refine OJ.pures tU_ok 1 rfl ?_
    refine OJ.nil (EJ.next ?_)
    refine CJ.ret (EJ.skR (?_))
    obtain rfl := Option.some.inj H
    exact EJ.fin rfl (.tmp rfl .nil) ⟨rfl, hS.ext⟩
  · replace H := pif_f (of_decide_eq_false hb) H
    refine CJ.skip (EJ.next ?_)
    refine CJ.seq ?_
    refine CJ.region ?_
    refine OJ.pures tU_ok 2 rfl ?_
    refine OJ.nil (EJ.next ?_)
    refine CJ.ret (?_)
    obtain rfl := Option.some.inj H
    exact EJ.fin rfl (.tmp rfl .nil) ⟨rfl, hS.ext⟩

def laws_szHerd.f (k : Nat) (a0 : Herd) (a1 : Int) : Option Int := (laws_szStringS.f k a0.Names a1).bind fun t2 => if t2 < 0 then (some (-1)) else ((laws_szInt16S.f a0.Eats t2).bind fun t3 => if t3 < 0 then (some (-1)) else ((laws_szUint16S.f a0.Foes t3).bind fun t4 => if t4 < 0 then (some (-1)) else (some t4)))
theorem laws_szHerd.c (k : Nat) (w : World) (Aa0_0 : Option Addr) (ca0_0 : Nat) (Aa0_1 : Option Addr) (ca0_1 : Nat) (Aa0_2 : Option Addr) (ca0_2 : Nat) (a0 : Herd) (hr0_0 : Rd G.cs w Aa0_0 a0.Names) (hc0_0 : a0.Names.length ≤ ca0_0) (hr0_1 : Rd (ci .i16) w Aa0_1 a0.Eats) (hc0_1 : a0.Eats.length ≤ ca0_1) (hr0_2 : Rd (ci .u16) w Aa0_2 a0.Foes) (hc0_2 : a0.Foes.length ≤ ca0_2) (a1 : Int) (r : Int) (H : laws_szHerd.f k a0 a1 = some r) :
    CV Tryd.prog 7 [.agg [.slice Aa0_0 a0.Names.length ca0_0, .slice Aa0_1 a0.Eats.length ca0_1, .slice Aa0_2 a0.Foes.length ca0_2].toArray, .int .i64 a1].toArray w fun v w' => v = .int .i64 r ∧ Ext w w' := by
  have hS := ((((St.init w no).param G.cs Aa0_0 ca0_0 a0.Names hr0_0 hc0_0).param (ci .i16) Aa0_1 ca0_1 a0.Eats hr0_1 hc0_1).param (ci .u16) Aa0_2 ca0_2 a0.Foes hr0_2 hc0_2)
  unfold laws_szHerd.f at H
  refine CV.body Tryd.func7 rfl Tryd.ntmps7 rfl ?_
  refine CJ.seq ?_
  refine CJ.region ?_
  refine OJ.ef rfl rfl rfl (Ef.box hS rfl rfl ([.slice Aa0_0 a0.Names.length ca0_0, .slice Aa0_1 a0.Eats.length ca0_1, .slice Aa0_2 a0.Foes.length ca0_2]) rfl) ?_
  rintro _ w1 ⟨b1, rfl, hS⟩
  refine OJ.pures tU_ok 1 rfl ?_
  refine OJ.nil (EJ.next ?_)
  refine CJ.seq ?_
  refine CJ.region ?_
  refine OJ.st rfl rfl rfl (SR.fieldAddr tU_ok tI_ok rfl rfl rfl rfl rfl rfl) ?_
  refine OJ.st rfl rfl rfl (SR.load rfl rfl (fun w' hx => ld1 tU_ok rfl rfl (CA.ext (CA.sub (hS.cells (i := 0) rfl) 0) hx) rfl)) ?_
  refine OJ.pures tU_ok 1 rfl ?_
  obtain ⟨t2, ht2, H⟩ := pbind H
  refine OJ.callF rfl rfl rfl rfl rfl hb24 rfl (laws_szStringS.c k _ Aa0_0 ca0_0 a0.Names (hS.rd' (i := 0) rfl) (hS.le' (i := 0) rfl) a1 _ ht2) ?_
  rintro _ w1 ⟨rfl, hs⟩
  replace hS := hS.grow hs
  refine OJ.pures tU_ok 1 rfl ?_
  refine OJ.nil (EJ.next ?_)
  refine CJ.seq ?_
  refine CJ.seq ?_
  refine CJ.region ?_
  refine OJ.pures tU_ok 2 rfl ?_
  refine OJ.nil (EJ.next ?_)
  refine CJ.cond rfl (fun hb => ?_) (fun hb => ?_)
  · replace H := pif_t (of_decide_eq_true hb) H
    refine CJ.seq ?_
    refine CJ.region ?_
    refine OJ.pures tU_ok 1 rfl ?_
    refine OJ.nil (EJ.next ?_)
    refine CJ.ret (EJ.skR (?_))
    obtain rfl := Option.some.inj H
    exact EJ.fin rfl (.tmp rfl .nil) ⟨rfl, hS.ext⟩
  · replace H := pif_f (of_decide_eq_false hb) H
    refine CJ.skip (EJ.next ?_)
    refine CJ.seq ?_
    refine CJ.region ?_
    refine OJ.st rfl rfl rfl (SR.fieldAddr tU_ok tI_ok rfl rfl rfl rfl rfl rfl) ?_
    refine OJ.st rfl rfl rfl (SR.load rfl rfl (fun w' hx => ld1 tU_ok rfl rfl (CA.ext (CA.sub (hS.cells (i := 0) rfl) 1) hx) rfl)) ?_
    refine OJ.pures tU_ok 1 rfl ?_
    obtain ⟨t3, ht3, H⟩ := pbind H
    refine OJ.callF rfl rfl rfl rfl rfl hb25 rfl (laws_szInt16S.c _ Aa0_1 ca0_1 a0.Eats (hS.rd' (i := 1) rfl) (hS.le' (i := 1) rfl) t2 _ ht3) ?_
    rintro _ w1 ⟨rfl, hs⟩
    replace hS := hS.grow hs
    refine OJ.pures tU_ok 1 rfl ?_
    refine OJ.nil (EJ.next ?_)
    refine CJ.seq ?_
    refine CJ.seq ?_
    refine CJ.region ?_
    refine OJ.pures tU_ok 2 rfl ?_
    refine OJ.nil (EJ.next ?_)
    refine CJ.cond rfl (fun hb => ?_) (fun hb => ?_)
    · replace H := pif_t (of_decide_eq_true hb) H
      refine CJ.seq ?_
      refine CJ.region ?_
      refine OJ.pures tU_ok 1 rfl ?_
      refine OJ.nil (EJ.next ?_)
      refine CJ.ret (EJ.skR (?_))
      obtain rfl := Option.some.inj H
      exact EJ.fin rfl (.tmp rfl .nil) ⟨rfl, hS.ext⟩
    · replace H := pif_f (of_decide_eq_false hb) H
      refine CJ.skip (EJ.next ?_)
      refine CJ.seq ?_
      refine CJ.region ?_
      refine OJ.st rfl rfl rfl (SR.fieldAddr tU_ok tI_ok rfl rfl rfl rfl rfl rfl) ?_
      refine OJ.st rfl rfl rfl (SR.load rfl rfl (fun w' hx => ld1 tU_ok rfl rfl (CA.ext (CA.sub (hS.cells (i := 0) rfl) 2) hx) rfl)) ?_
      refine OJ.pures tU_ok 1 rfl ?_
      obtain ⟨t4, ht4, H⟩ := pbind H
      refine OJ.callF rfl rfl rfl rfl rfl hb26 rfl (laws_szUint16S.c _ Aa0_2 ca0_2 a0.Foes (hS.rd' (i := 2) rfl) (hS.le' (i := 2) rfl) t3 _ ht4) ?_
      rintro _ w1 ⟨rfl, hs⟩
      replace hS := hS.grow hs
      refine OJ.pures tU_ok 1 rfl ?_
      refine OJ.nil (EJ.next ?_)
      refine CJ.seq ?_
      refine CJ.seq ?_
      refine CJ.region ?_
      refine OJ.pures tU_ok 2 rfl ?_
      refine OJ.nil (EJ.next ?_)
      refine CJ.cond rfl (fun hb => ?_) (fun hb => ?_)
      · replace H := pif_t (of_decide_eq_true hb) H
        refine CJ.seq ?_
        refine CJ.region ?_
        refine OJ.pures tU_ok 1 rfl ?_
        refine OJ.nil (EJ.next ?_)
        refine CJ.ret (EJ.skR (?_))
        obtain rfl := Option.some.inj H
        exact EJ.fin rfl (.tmp rfl .nil) ⟨rfl, hS.ext⟩
      · replace H := pif_f (of_decide_eq_false hb) H
        refine CJ.skip (EJ.next ?_)
        refine CJ.seq ?_
        refine CJ.region ?_
        refine OJ.pures tU_ok 2 rfl ?_
        refine OJ.nil (EJ.next ?_)
        refine CJ.ret (?_)
        obtain rfl := Option.some.inj H
        exact EJ.fin rfl (.tmp rfl .nil) ⟨rfl, hS.ext⟩

def laws_toStringS.l1 (a0 : List ByteArray) : Nat → (List ByteArray) → Int → Option (List ByteArray)
  | 0, _, _ => none
  | k + 1, y4, y5 => if y5 < (a0.length : Int) then ((getI a0 y5).bind fun t6 => (getI y4 y5).bind fun t7 => laws_toStringS.l1 a0 k (y4.set y5.toNat t6) (IntKind.i64.wrap (y5 + 1))) else (some y4)
def laws_toStringS.f (k : Nat) (a0 : List ByteArray) : Option (List ByteArray) := (chk (0 ≤ (a0.length : Int) ∧ (a0.length : Int) ≤ 4294967296)).bind fun u1 => (laws_toStringS.l1 a0 k (List.replicate ((a0.length : Int).toNat) ByteArray.empty : List ByteArray) 0).bind fun y3 => some y3
theorem laws_toStringS.c (k : Nat) (w : World) (Aa0 : Option Addr) (ca0 : Nat) (a0 : List ByteArray) (hr0 : Rd G.cs w Aa0 a0) (hc0 : a0.length ≤ ca0) (r : List ByteArray) (H : laws_toStringS.f k a0 = some r) :
    CV Tryd.prog 30 [.slice Aa0 a0.length ca0].toArray w fun v w' => ∃ (A0 : Option Addr) (c0 : Nat), v = .slice A0 r.length c0 ∧ St w no w' [rowC G.cs A0 c0 9 r] [] := by
  have hS := ((St.init w no).param G.cs Aa0 ca0 a0 hr0 hc0)
  unfold laws_toStringS.f at H
  refine CV.body Tryd.func30 rfl Tryd.ntmps30 rfl ?_
  refine CJ.seq ?_
  refine CJ.region ?_
  refine OJ.pures tU_ok 1 rfl ?_
  refine OJ.nil (EJ.next ?_)
  refine CJ.seq ?_
  refine CJ.region ?_
  refine OJ.pures tU_ok 2 rfl ?_
  obtain ⟨u1, hu1, H⟩ := pbind H
  refine OJ.ef rfl rfl rfl (Ef.make tU_ok tI_ok hS (C := G.cs) rfl rfl rfl rfl rfl rfl rfl rfl (chk_some hu1) ByteArray.empty rfl) ?_
  rintro _ w1 ⟨A2, rfl, hS⟩
  refine OJ.pures tU_ok 1 rfl ?_
  refine OJ.nil (EJ.next ?_)
  refine CJ.seq ?_
  refine CJ.seq ?_
  refine CJ.region ?_
  refine OJ.pures tU_ok 1 rfl ?_
  refine OJ.nil (EJ.next ?_)
  obtain ⟨j2, H, K2⟩ := pbind H
  refine CJ.cut1 (fun F w1 => ∃ (y3 : List ByteArray) , (some y3 : Option (List ByteArray)) = some j2 ∧ F = [(3, .slice A2 y3.length ((a0.length : Int).toNat))] ∧ St w no w1 [rowC G.cs A2 ((a0.length : Int).toNat) 9 y3] [roC G.cs Aa0 ca0 a0]) ?_ ?_
  · skip
    refine CJ.block ?_
    refine CJ.loop (fun k F w1 => ∃ (y4 : List ByteArray) (y5 : Int), F = [(0, .slice Aa0 a0.length ca0), (3, .slice A2 y4.length ((a0.length : Int).toNat)), (4, .int .i64 y5)] ∧ St w no w1 [rowC G.cs A2 ((a0.length : Int).toNat) 9 y4] [roC G.cs Aa0 ca0 a0] ∧ laws_toStringS.l1 a0 k y4 y5 = some j2) k (F' := [(0, .slice Aa0 a0.length ca0), (3, .slice A2 (List.replicate ((a0.length : Int).toNat) ByteArray.empty : List ByteArray).length ((a0.length : Int).toNat)), (4, .int .i64 0)]) ⟨rfl, rfl, rfl, trivial⟩ ⟨(List.replicate ((a0.length : Int).toNat) ByteArray.empty : List ByteArray), 0, rfl, hS.pick [0] [0] rfl, H⟩ ?_
    rintro k F w1 ⟨y4, y5, rfl, hS, H⟩
    cases k with
    | zero => rw [laws_toStringS.l1] at H; cases H
    | succ k =>
      rw [laws_toStringS.l1] at H
      refine CJ.seq ?_
      refine CJ.seq ?_
      refine CJ.region ?_
      refine OJ.pures tU_ok 4 rfl ?_
      refine OJ.nil (EJ.next ?_)
      refine CJ.cond rfl (fun hb => ?_) (fun hb => ?_)
      · replace H := pif_t (of_decide_eq_true hb) H
        refine CJ.skip (EJ.next ?_)
        refine CJ.seq ?_
        refine CJ.block ?_
        refine CJ.region ?_
        refine OJ.pures tU_ok 4 rfl ?_
        obtain ⟨t6, ht6, H⟩ := pbind H
        obtain ⟨ad6, e6⟩ := (hS.rd' (i := 0) rfl).some' ht6
        refine OJ.st rfl rfl rfl (SR.idxS tU_ok tI_ok rfl rfl rfl rfl e6 rfl (getI_some ht6).1) ?_
        refine OJ.st rfl rfl rfl (SR.load rfl rfl (fun w' hx => ld1 tU_ok rfl rfl (CA.ext ((hS.rd' (i := 0) rfl).at_ e6 ht6) hx) rfl)) ?_
        obtain ⟨t7, ht7, H⟩ := pbind H
        obtain ⟨ad7, e7⟩ := (hS.rd (i := 0) rfl).some' ht7
        refine OJ.st rfl rfl rfl (SR.idxS tU_ok tI_ok rfl rfl rfl rfl e7 rfl (getI_some ht7).1) ?_
        refine OJ.es rfl rfl (Es.storeR tI_ok hS (i := 0) (off := 0) rfl rfl ht7 e7 rfl rfl rfl rfl (vs := G.cs.enc t6) rfl rfl (one1 rfl) (Nat.le_of_ble_eq_true rfl) t6 rfl) ?_
        intro w1 hS
        refine OJ.as (t := 3) rfl (show _ = (.slice A2 (y4.set y5.toNat t6).length ((a0.length : Int).toNat) : Value) by simp only [List.length_set]) ?_
        refine OJ.as (t := 14) rfl (show _ = (.slice A2 (y4.set y5.toNat t6).length ((a0.length : Int).toNat) : Value) by simp only [List.length_set]) ?_
        refine OJ.nil (EJ.blk (EJ.next ?_))
        refine CJ.region ?_
        refine OJ.pures tU_ok 3 rfl ?_
        refine OJ.nil ?_
        exact EJ.round k (F' := [(0, .slice Aa0 a0.length ca0), (3, .slice A2 (y4.set y5.toNat t6).length ((a0.length : Int).toNat)), (4, .int .i64 (IntKind.i64.wrap (y5 + 1)))]) ⟨rfl, rfl, rfl, trivial⟩ (Nat.lt_succ_self _) ⟨(y4.set y5.toNat t6), (IntKind.i64.wrap (y5 + 1)), rfl, hS.pick [0] [0] rfl, H⟩
      · replace H := pif_f (of_decide_eq_false hb) H
        refine CJ.exit (EJ.skE (EJ.skE (EJ.hit (?_))))
        exact EJ.meet (F' := [(3, .slice A2 y4.length ((a0.length : Int).toNat))]) ⟨rfl, trivial⟩ ⟨y4, H, rfl, hS.pick [0] [0] rfl⟩
  · rintro F w1 ⟨y3, he, rfl, hS⟩
    obtain rfl := Option.some.inj he
    have H := K2
    refine EJ.next ?_
    refine CJ.seq ?_
    refine CJ.region ?_
    refine OJ.pures tU_ok 2 rfl ?_
    refine OJ.nil (EJ.next ?_)
    refine CJ.ret (?_)
    obtain rfl := Option.some.inj H
    exact EJ.fin rfl (.tmp rfl .nil) ⟨A2, ((a0.length : Int).toNat), rfl, hS.pick [0] [] rfl⟩

def laws_toInt16S.l1 (a0 : List Int) : Nat → (List Int) → Int → Option (List Int)
  | 0, _, _ => none
  | k + 1, y4, y5 => if y5 < (a0.length : Int) then ((getI a0 y5).bind fun t6 => (getI y4 y5).bind fun t7 => laws_toInt16S.l1 a0 k (y4.set y5.toNat t6) (IntKind.i64.wrap (y5 + 1))) else (some y4)
def laws_toInt16S.f (k : Nat) (a0 : List Int) : Option (List Int) := (chk (0 ≤ (a0.length : Int) ∧ (a0.length : Int) ≤ 4294967296)).bind fun u1 => (laws_toInt16S.l1 a0 k (List.replicate ((a0.length : Int).toNat) 0 : List Int) 0).bind fun y3 => some y3
theorem laws_toInt16S.c (k : Nat) (w : World) (Aa0 : Option Addr) (ca0 : Nat) (a0 : List Int) (hr0 : Rd (ci .i16) w Aa0 a0) (hc0 : a0.length ≤ ca0) (r : List Int) (H : laws_toInt16S.f k a0 = some r) :
    CV Tryd.prog 31 [.slice Aa0 a0.length ca0].toArray w fun v w' => ∃ (A0 : Option Addr) (c0 : Nat), v = .slice A0 r.length c0 ∧ St w no w' [rowC (ci .i16) A0 c0 50 r] [] := by
  have hS := ((St.init w no).param (ci .i16) Aa0 ca0 a0 hr0 hc0)
  unfold laws_toInt16S.f at H
  refine CV.body Tryd.func31 rfl Tryd.ntmps31 rfl ?_
  refine CJ.seq ?_
  refine CJ.region ?_
  refine OJ.pures tU_ok 1 rfl ?_
  refine OJ.nil (EJ.next ?_)
  refine CJ.seq ?_
  refine CJ.region ?_
  refine OJ.pures tU_ok 2 rfl ?_
  obtain ⟨u1, hu1, H⟩ := pbind H
  refine OJ.ef rfl rfl rfl (Ef.make tU_ok tI_ok hS (C := (ci .i16)) rfl rfl rfl rfl rfl rfl rfl rfl (chk_some hu1) 0 rfl) ?_
  rintro _ w1 ⟨A2, rfl, hS⟩
  refine OJ.pures tU_ok 1 rfl ?_
  refine OJ.nil (EJ.next ?_)
  refine CJ.seq ?_
  refine CJ.seq ?_
  refine CJ.region ?_
  refine OJ.pures tU_ok 1 rfl ?_
  refine OJ.nil (EJ.next ?_)
  obtain ⟨j3, H, K3⟩ := pbind H
  refine CJ.cut1 (fun F w1 => ∃ (y3 : List Int) , (some y3 : Option (List Int)) = some j3 ∧ F = [(3, .slice A2 y3.length ((a0.length : Int).toNat))] ∧ St w no w1 [rowC (ci .i16) A2 ((a0.length : Int).toNat) 50 y3] [roC (ci .i16) Aa0 ca0 a0]) ?_ ?_
  · skip
    refine CJ.block ?_
    refine CJ.loop (fun k F w1 => ∃ (y4 : List Int) (y5 : Int), F = [(0, .slice Aa0 a0.length ca0), (3, .slice A2 y4.length ((a0.length : Int).toNat)), (4, .int .i64 y5)] ∧ St w no w1 [rowC (ci .i16) A2 ((a0.length : Int).toNat) 50 y4] [roC (ci .i16) Aa0 ca0 a0] ∧ laws_toInt16S.l1 a0 k y4 y5 = some j3) k (F' := [(0, .slice Aa0 a0.length ca0), (3, .slice A2 (List.replicate ((a0.length : Int).toNat) 0 : List Int).length ((a0.length : Int).toNat)), (4, .int .i64 0)]) ⟨rfl, rfl, rfl, trivial⟩ ⟨(List.replicate ((a0.length : Int).toNat) 0 : List Int), 0, rfl, hS.pick [0] [0] rfl, H⟩ ?_
    rintro k F w1 ⟨y4, y5, rfl, hS, H⟩
    cases k with
    | zero => rw [laws_toInt16S.l1] at H; cases H
    | succ k =>
      rw [laws_toInt16S.l1] at H
      refine CJ.seq ?_
      refine CJ.seq ?_
      refine CJ.region ?_
      refine OJ.pures tU_ok 4 rfl ?_
      refine OJ.nil (EJ.next ?_)
      refine CJ.cond rfl (fun hb => ?_) (fun hb => ?_)
      · replace H := pif_t (of_decide_eq_true hb) H
        refine CJ.skip (EJ.next ?_)
        refine CJ.seq ?_
        refine CJ.block ?_
        refine CJ.region ?_
        refine OJ.pures tU_ok 4 rfl ?_
        obtain ⟨t6, ht6, H⟩ := pbind H
        obtain ⟨ad6, e6⟩ := (hS.rd' (i := 0) rfl).some' ht6
        refine OJ.st rfl rfl rfl (SR.idxS tU_ok tI_ok rfl rfl rfl rfl e6 rfl (getI_some ht6).1) ?_
        refine OJ.st rfl rfl rfl (SR.load rfl rfl (fun w' hx => ld1 tU_ok rfl rfl (CA.ext ((hS.rd' (i := 0) rfl).at_ e6 ht6) hx) rfl)) ?_
        obtain ⟨t7, ht7, H⟩ := pbind H
        obtain ⟨ad7, e7⟩ := (hS.rd (i := 0) rfl).some' ht7
        refine OJ.st rfl rfl rfl (SR.idxS tU_ok tI_ok rfl rfl rfl rfl e7 rfl (getI_some ht7).1) ?_
        refine OJ.es rfl rfl (Es.storeR tI_ok hS (i := 0) (off := 0) rfl rfl ht7 e7 rfl rfl rfl rfl (vs := (ci .i16).enc t6) rfl rfl (one1 rfl) (Nat.le_of_ble_eq_true rfl) t6 rfl) ?_
        intro w1 hS
        refine OJ.as (t := 3) rfl (show _ = (.slice A2 (y4.set y5.toNat t6).length ((a0.length : Int).toNat) : Value) by simp only [List.length_set]) ?_
        refine OJ.as (t := 14) rfl (show _ = (.slice A2 (y4.set y5.toNat t6).length ((a0.length : Int).toNat) : Value) by simp only [List.length_set]) ?_
        refine OJ.nil (EJ.blk (EJ.next ?_))
        refine CJ.region ?_
        refine OJ.pures tU_ok 3 rfl ?_
        refine OJ.nil ?_
        exact EJ.round k (F' := [(0, .slice Aa0 a0.length ca0), (3, .slice A2 (y4.set y5.toNat t6).length ((a0.length : Int).toNat)), (4, .int .i64 (IntKind.i64.wrap (y5 + 1)))]) ⟨rfl, rfl, rfl, trivial⟩ (Nat.lt_succ_self _) ⟨(y4.set y5.toNat t6), (IntKind.i64.wrap (y5 + 1)), rfl, hS.pick [0] [0] rfl, H⟩
      · replace H := pif_f (of_decide_eq_false hb) H
        refine CJ.exit (EJ.skE (EJ.skE (EJ.hit (?_))))
        exact EJ.meet (F' := [(3, .slice A2 y4.length ((a0.length : Int).toNat))]) ⟨rfl, trivial⟩ ⟨y4, H, rfl, hS.pick [0] [0] rfl⟩
  · rintro F w1 ⟨y3, he, rfl, hS⟩
    obtain rfl := Option.some.inj he
    have H := K3
    refine EJ.next ?_
    refine CJ.seq ?_
    refine CJ.region ?_
    refine OJ.pures tU_ok 2 rfl ?_
    refine OJ.nil (EJ.next ?_)
    refine CJ.ret (?_)
    obtain rfl := Option.some.inj H
    exact EJ.fin rfl (.tmp rfl .nil) ⟨A2, ((a0.length : Int).toNat), rfl, hS.pick [0] [] rfl⟩

def laws_toUint16S.l1 (a0 : List Int) : Nat → (List Int) → Int → Option (List Int)
  | 0, _, _ => none
  | k + 1, y4, y5 => if y5 < (a0.length : Int) then ((getI a0 y5).bind fun t6 => (getI y4 y5).bind fun t7 => laws_toUint16S.l1 a0 k (y4.set y5.toNat t6) (IntKind.i64.wrap (y5 + 1))) else (some y4)
def laws_toUint16S.f (k : Nat) (a0 : List Int) : Option (List Int) := (chk (0 ≤ (a0.length : Int) ∧ (a0.length : Int) ≤ 4294967296)).bind fun u1 => (laws_toUint16S.l1 a0 k (List.replicate ((a0.length : Int).toNat) 0 : List Int) 0).bind fun y3 => some y3
theorem laws_toUint16S.c (k : Nat) (w : World) (Aa0 : Option Addr) (ca0 : Nat) (a0 : List Int) (hr0 : Rd (ci .u16) w Aa0 a0) (hc0 : a0.length ≤ ca0) (r : List Int) (H : laws_toUint16S.f k a0 = some r) :
    CV Tryd.prog 32 [.slice Aa0 a0.length ca0].toArray w fun v w' => ∃ (A0 : Option Addr) (c0 : Nat), v = .slice A0 r.length c0 ∧ St w no w' [rowC (ci .u16) A0 c0 51 r] [] := by
  have hS := ((St.init w no).param (ci .u16) Aa0 ca0 a0 hr0 hc0)
  unfold laws_toUint16S.f at H
  refine CV.body Tryd.func32 rfl Tryd.ntmps32 rfl ?_
  refine CJ.seq ?_
  refine CJ.region ?_
  refine OJ.pures tU_ok 1 rfl ?_
  refine OJ.nil (EJ.next ?_)
  refine CJ.seq ?_
  refine CJ.region ?_
  refine OJ.pures tU_ok 2 rfl ?_
  obtain ⟨u1, hu1, H⟩ := pbind H
  refine OJ.ef rfl rfl rfl (Ef.make tU_ok tI_ok hS (C := (ci .u16)) rfl rfl rfl rfl rfl rfl rfl rfl (chk_some hu1) 0 rfl) ?_
  rintro _ w1 ⟨A2, rfl, hS⟩
  refine OJ.pures tU_ok 1 rfl ?_
  refine OJ.nil (EJ.next ?_)
  refine CJ.seq ?_
  refine CJ.seq ?_
  refine CJ.region ?_
  refine OJ.pures tU_ok 1 rfl ?_
  refine OJ.nil (EJ.next ?_)
  obtain ⟨j4, H, K4⟩ := pbind H
  refine CJ.cut1 (fun F w1 => ∃ (y3 : List Int) , (some y3 : Option (List Int)) = some j4 ∧ F = [(3, .slice A2 y3.length ((a0.length : Int).toNat))] ∧ St w no w1 [rowC (ci .u16) A2 ((a0.length : Int).toNat) 51 y3] [roC (ci .u16) Aa0 ca0 a0]) ?_ ?_
  · skip
    refine CJ.block ?_
    refine CJ.loop (fun k F w1 => ∃ (y4 : List Int) (y5 : Int), F = [(0, .slice Aa0 a0.length ca0), (3, .slice A2 y4.length ((a0.length : Int).toNat)), (4, .int .i64 y5)] ∧ St w no w1 [rowC (ci .u16) A2 ((a0.length : Int).toNat) 51 y4] [roC (ci .u16) Aa0 ca0 a0] ∧ laws_toUint16S.l1 a0 k y4 y5 = some j4) k (F' := [(0, .slice Aa0 a0.length ca0), (3, .slice A2 (List.replicate ((a0.length : Int).toNat) 0 : List Int).length ((a0.length : Int).toNat)), (4, .int .i64 0)]) ⟨rfl, rfl, rfl, trivial⟩ ⟨(List.replicate ((a0.length : Int).toNat) 0 : List Int), 0, rfl, hS.pick [0] [0] rfl, H⟩ ?_
    rintro k F w1 ⟨y4, y5, rfl, hS, H⟩
    cases k with
    | zero => rw [laws_toUint16S.l1] at H; cases H
    | succ k =>
      rw [laws_toUint16S.l1] at H
      refine CJ.seq ?_
      refine CJ.seq ?_
      refine CJ.region ?_
      refine OJ.pures tU_ok 4 rfl ?_
      refine OJ.nil (EJ.next ?_)
      refine CJ.cond rfl (fun hb => ?_) (fun hb => ?_)
      · replace H := pif_t (of_decide_eq_true hb) H
        refine CJ.skip (EJ.next ?_)
        refine CJ.seq ?_
        refine CJ.block ?_
        refine CJ.region ?_
        refine OJ.pures tU_ok 4 rfl ?_
        obtain ⟨t6, ht6, H⟩ := pbind H
        obtain ⟨ad6, e6⟩ := (hS.rd' (i := 0) rfl).some' ht6
        refine OJ.st rfl rfl rfl (SR.idxS tU_ok tI_ok rfl rfl rfl rfl e6 rfl (getI_some ht6).1) ?_
        refine OJ.st rfl rfl rfl (SR.load rfl rfl (fun w' hx => ld1 tU_ok rfl rfl (CA.ext ((hS.rd' (i := 0) rfl).at_ e6 ht6) hx) rfl)) ?_
        obtain ⟨t7, ht7, H⟩ := pbind H
        obtain ⟨ad7, e7⟩ := (hS.rd (i := 0) rfl).some' ht7
        refine OJ.st rfl rfl rfl (SR.idxS tU_ok tI_ok rfl rfl rfl rfl e7 rfl (getI_some ht7).1) ?_
        refine OJ.es rfl rfl (Es.storeR tI_ok hS (i := 0) (off := 0) rfl rfl ht7 e7 rfl rfl rfl rfl (vs := (ci .u16).enc t6) rfl rfl (one1 rfl) (Nat.le_of_ble_eq_true rfl) t6 rfl) ?_
        intro w1 hS
        refine OJ.as (t := 3) rfl (show _ = (.slice A2 (y4.set y5.toNat t6).length ((a0.length : Int).toNat) : Value) by simp only [List.length_set]) ?_
        refine OJ.as (t := 14) rfl (show _ = (.slice A2 (y4.set y5.toNat t6).length ((a0.length : Int).toNat) : Value) by simp only [List.length_set]) ?_
        refine OJ.nil (EJ.blk (EJ.next ?_))
        refine CJ.region ?_
        refine OJ.pures tU_ok 3 rfl ?_
        refine OJ.nil ?_
        exact EJ.round k (F' := [(0, .slice Aa0 a0.length ca0), (3, .slice A2 (y4.set y5.toNat t6).length ((a0.length : Int).toNat)), (4, .int .i64 (IntKind.i64.wrap (y5 + 1)))]) ⟨rfl, rfl, rfl, trivial⟩ (Nat.lt_succ_self _) ⟨(y4.set y5.toNat t6), (IntKind.i64.wrap (y5 + 1)), rfl, hS.pick [0] [0] rfl, H⟩
      · replace H := pif_f (of_decide_eq_false hb) H
        refine CJ.exit (EJ.skE (EJ.skE (EJ.hit (?_))))
        exact EJ.meet (F' := [(3, .slice A2 y4.length ((a0.length : Int).toNat))]) ⟨rfl, trivial⟩ ⟨y4, H, rfl, hS.pick [0] [0] rfl⟩
  · rintro F w1 ⟨y3, he, rfl, hS⟩
    obtain rfl := Option.some.inj he
    have H := K4
    refine EJ.next ?_
    refine CJ.seq ?_
    refine CJ.region ?_
    refine OJ.pures tU_ok 2 rfl ?_
    refine OJ.nil (EJ.next ?_)
    refine CJ.ret (?_)
    obtain rfl := Option.some.inj H
    exact EJ.fin rfl (.tmp rfl .nil) ⟨A2, ((a0.length : Int).toNat), rfl, hS.pick [0] [] rfl⟩

def laws_toHerd.f (k : Nat) (a0 : Herd) : Option Herd := (laws_toStringS.f k a0.Names).bind fun t4 => (laws_toInt16S.f k a0.Eats).bind fun t7 => (laws_toUint16S.f k a0.Foes).bind fun t10 => some (⟨t4, t7, t10⟩ : Herd)
theorem laws_toHerd.c (k : Nat) (w : World) (Aa0_0 : Option Addr) (ca0_0 : Nat) (Aa0_1 : Option Addr) (ca0_1 : Nat) (Aa0_2 : Option Addr) (ca0_2 : Nat) (a0 : Herd) (hr0_0 : Rd G.cs w Aa0_0 a0.Names) (hc0_0 : a0.Names.length ≤ ca0_0) (hr0_1 : Rd (ci .i16) w Aa0_1 a0.Eats) (hc0_1 : a0.Eats.length ≤ ca0_1) (hr0_2 : Rd (ci .u16) w Aa0_2 a0.Foes) (hc0_2 : a0.Foes.length ≤ ca0_2) (r : Herd) (H : laws_toHerd.f k a0 = some r) :
    CV Tryd.prog 9 [.agg [.slice Aa0_0 a0.Names.length ca0_0, .slice Aa0_1 a0.Eats.length ca0_1, .slice Aa0_2 a0.Foes.length ca0_2].toArray].toArray w fun v w' => ∃ (A0_0 : Option Addr) (c0_0 : Nat) (A0_1 : Option Addr) (c0_1 : Nat) (A0_2 : Option Addr) (c0_2 : Nat), v = .agg [.slice A0_0 r.Names.length c0_0, .slice A0_1 r.Eats.length c0_1, .slice A0_2 r.Foes.length c0_2].toArray ∧ St w no w' [rowC G.cs A0_0 c0_0 9 r.Names, rowC (ci .i16) A0_1 c0_1 50 r.Eats, rowC (ci .u16) A0_2 c0_2 51 r.Foes] [] := by
  have hS := ((((St.init w no).param G.cs Aa0_0 ca0_0 a0.Names hr0_0 hc0_0).param (ci .i16) Aa0_1 ca0_1 a0.Eats hr0_1 hc0_1).param (ci .u16) Aa0_2 ca0_2 a0.Foes hr0_2 hc0_2)
  unfold laws_toHerd.f at H
  refine CV.body Tryd.func9 rfl Tryd.ntmps9 rfl ?_
  refine CJ.seq ?_
  refine CJ.region ?_
  refine OJ.ef rfl rfl rfl (Ef.box hS rfl rfl ([.slice Aa0_0 a0.Names.length ca0_0, .slice Aa0_1 a0.Eats.length ca0_1, .slice Aa0_2 a0.Foes.length ca0_2]) rfl) ?_
  rintro _ w1 ⟨b1, rfl, hS⟩
  refine OJ.ef rfl rfl rfl (Ef.alloc hS tI_ok rfl rfl ([.slice none 0 0, .slice none 0 0, .slice none 0 0]) rfl) ?_
  rintro _ w1 ⟨b2, rfl, hS⟩
  refine OJ.nil (EJ.next ?_)
  refine CJ.seq ?_
  refine CJ.region ?_
  refine OJ.ef rfl rfl rfl (Ef.alloc hS tI_ok rfl rfl ([.slice none 0 0, .slice none 0 0, .slice none 0 0]) rfl) ?_
  rintro _ w1 ⟨b3, rfl, hS⟩
  refine OJ.nil (EJ.next ?_)
  refine CJ.seq ?_
  refine CJ.region ?_
  refine OJ.st rfl rfl rfl (SR.fieldAddr tU_ok tI_ok rfl rfl rfl rfl rfl rfl) ?_
  refine OJ.st rfl rfl rfl (SR.load rfl rfl (fun w' hx => ld1 tU_ok rfl rfl (CA.ext (CA.sub (hS.cells (i := 0) rfl) 0) hx) rfl)) ?_
  obtain ⟨t4, ht4, H⟩ := pbind H
  refine OJ.callF rfl rfl rfl rfl rfl hb30 rfl (laws_toStringS.c k _ Aa0_0 ca0_0 a0.Names (hS.rd' (i := 0) rfl) (hS.le' (i := 0) rfl) _ ht4) ?_
  rintro _ w1 ⟨A5, c6, rfl, hs⟩
  replace hS := hS.addN hs
  refine OJ.st rfl rfl rfl (SR.fieldAddr tU_ok tI_ok rfl rfl rfl rfl rfl rfl) ?_
  refine OJ.es rfl rfl (Es.store tI_ok hS (i := 2) (vs := [.slice A5 t4.length c6]) rfl rfl rfl (ad1 _ _) rfl rfl rfl rfl (one1 rfl) (Nat.le_of_ble_eq_true rfl) ([.slice A5 t4.length c6, .slice none 0 0, .slice none 0 0]) rfl) ?_
  intro w1 hS
  refine OJ.nil (EJ.next ?_)
  refine CJ.seq ?_
  refine CJ.region ?_
  refine OJ.st rfl rfl rfl (SR.fieldAddr tU_ok tI_ok rfl rfl rfl rfl rfl rfl) ?_
  refine OJ.st rfl rfl rfl (SR.load rfl rfl (fun w' hx => ld1 tU_ok rfl rfl (CA.ext (CA.sub (hS.cells (i := 0) rfl) 1) hx) rfl)) ?_
  obtain ⟨t7, ht7, H⟩ := pbind H
  refine OJ.callF rfl rfl rfl rfl rfl hb31 rfl (laws_toInt16S.c k _ Aa0_1 ca0_1 a0.Eats (hS.rd' (i := 1) rfl) (hS.le' (i := 1) rfl) _ ht7) ?_
  rintro _ w1 ⟨A8, c9, rfl, hs⟩
  replace hS := hS.addN hs
  refine OJ.st rfl rfl rfl (SR.fieldAddr tU_ok tI_ok rfl rfl rfl rfl rfl rfl) ?_
  refine OJ.es rfl rfl (Es.store tI_ok hS (i := 2) (vs := [.slice A8 t7.length c9]) rfl rfl rfl (ad1 _ _) rfl rfl rfl rfl (one1 rfl) (Nat.le_of_ble_eq_true rfl) ([.slice A5 t4.length c6, .slice A8 t7.length c9, .slice none 0 0]) rfl) ?_
  intro w1 hS
  refine OJ.nil (EJ.next ?_)
  refine CJ.seq ?_
  refine CJ.region ?_
  refine OJ.st rfl rfl rfl (SR.fieldAddr tU_ok tI_ok rfl rfl rfl rfl rfl rfl) ?_
  refine OJ.st rfl rfl rfl (SR.load rfl rfl (fun w' hx => ld1 tU_ok rfl rfl (CA.ext (CA.sub (hS.cells (i := 0) rfl) 2) hx) rfl)) ?_
  obtain ⟨t10, ht10, H⟩ := pbind H
  refine OJ.callF rfl rfl rfl rfl rfl hb32 rfl (laws_toUint16S.c k _ Aa0_2 ca0_2 a0.Foes (hS.rd' (i := 2) rfl) (hS.le' (i := 2) rfl) _ ht10) ?_
  rintro _ w1 ⟨A11, c12, rfl, hs⟩
  replace hS := hS.addN hs
  have hS : St w no w1 [box b1 ([.slice Aa0_0 a0.Names.length ca0_0, .slice Aa0_1 a0.Eats.length ca0_1, .slice Aa0_2 a0.Foes.length ca0_2]) 26, box b2 ([.slice none 0 0, .slice none 0 0, .slice none 0 0]) 29, box b3 ([.slice A5 t4.length c6, .slice A8 t7.length c9, .slice none 0 0]) 29, rowC G.cs A5 c6 9 t4, rowC (ci .i16) A8 c9 50 t7, rowC (ci .u16) A11 c12 51 t10] [roC G.cs Aa0_0 ca0_0 a0.Names, roC (ci .i16) Aa0_1 ca0_1 a0.Eats, roC (ci .u16) Aa0_2 ca0_2 a0.Foes] := hS
  refine OJ.st rfl rfl rfl (SR.fieldAddr tU_ok tI_ok rfl rfl rfl rfl rfl rfl) ?_
  refine OJ.es rfl rfl (Es.store tI_ok hS (i := 2) (vs := [.slice A11 t10.length c12]) rfl rfl rfl (ad1 _ _) rfl rfl rfl rfl (one1 rfl) (Nat.le_of_ble_eq_true rfl) ([.slice A5 t4.length c6, .slice A8 t7.length c9, .slice A11 t10.length c12]) rfl) ?_
  intro w1 hS
  refine OJ.nil (EJ.next ?_)
  refine CJ.seq ?_
  refine CJ.region ?_
  refine OJ.st rfl rfl rfl (SR.load rfl rfl (fun w' hx => ldN tU_ok tI_ok rfl rfl rfl (CA.ext (hS.cells (i := 2) rfl) hx) (ds := [.slice A5 t4.length c6, .slice A8 t7.length c9, .slice A11 t10.length c12]) rfl rfl)) ?_
  refine OJ.es rfl rfl (Es.store tI_ok hS (i := 1) (vs := [.slice A5 t4.length c6, .slice A8 t7.length c9, .slice A11 t10.length c12]) rfl rfl rfl rfl rfl rfl rfl rfl (by intro u hu; simp only [List.mem_cons, List.not_mem_nil, or_false] at hu; rcases hu with rfl | rfl | rfl <;> rfl) (Nat.le_of_ble_eq_true rfl) ([.slice A5 t4.length c6, .slice A8 t7.length c9, .slice A11 t10.length c12]) rfl) ?_
  intro w1 hS
  refine OJ.nil (EJ.next ?_)
  refine CJ.ret (?_)
  obtain rfl := Option.some.inj H
  exact EJ.fin rfl (.cell rfl (ldN tU_ok tI_ok rfl rfl rfl (hS.cells (i := 1) rfl) (ds := [.slice A5 t4.length c6, .slice A8 t7.length c9, .slice A11 t10.length c12]) rfl rfl) .nil) ⟨A5, c6, A8, c9, A11, c12, rfl, hS.pick [3, 4, 5] [] rfl⟩

def laws_toInt64S.l1 (a0 : List Int) : Nat → (List Int) → Int → Option (List Int)
  | 0, _, _ => none
  | k + 1, y4, y5 => if y5 < (a0.length : Int) then ((getI a0 y5).bind fun t6 => (getI y4 y5).bind fun t7 => laws_toInt64S.l1 a0 k (y4.set y5.toNat t6) (IntKind.i64.wrap (y5 + 1))) else (some y4)
def laws_toInt64S.f (k : Nat) (a0 : List Int) : Option (List Int) := (chk (0 ≤ (a0.length : Int) ∧ (a0.length : Int) ≤ 4294967296)).bind fun u1 => (laws_toInt64S.l1 a0 k (List.replicate ((a0.length : Int).toNat) 0 : List Int) 0).bind fun y3 => some y3
theorem laws_toInt64S.c (k : Nat) (w : World) (Aa0 : Option Addr) (ca0 : Nat) (a0 : List Int) (hr0 : Rd (ci .i64) w Aa0 a0) (hc0 : a0.length ≤ ca0) (r : List Int) (H : laws_toInt64S.f k a0 = some r) :
    CV Tryd.prog 10 [.slice Aa0 a0.length ca0].toArray w fun v w' => ∃ (A0 : Option Addr) (c0 : Nat), v = .slice A0 r.length c0 ∧ St w no w' [rowC (ci .i64) A0 c0 2 r] [] := by
  have hS := ((St.init w no).param (ci .i64) Aa0 ca0 a0 hr0 hc0)
  unfold laws_toInt64S.f at H
  refine CV.body Tryd.func10 rfl Tryd.ntmps10 rfl ?_
  refine CJ.seq ?_
  refine CJ.region ?_
  refine OJ.pures tU_ok 1 rfl ?_
  refine OJ.nil (EJ.next ?_)
  refine CJ.seq ?_
  refine CJ.region ?_
  refine OJ.pures tU_ok 2 rfl ?_
  obtain ⟨u1, hu1, H⟩ := pbind H
  refine OJ.ef rfl rfl rfl (Ef.make tU_ok tI_ok hS (C := (ci .i64)) rfl rfl rfl rfl rfl rfl rfl rfl (chk_some hu1) 0 rfl) ?_
  rintro _ w1 ⟨A2, rfl, hS⟩
  refine OJ.pures tU_ok 1 rfl ?_
  refine OJ.nil (EJ.next ?_)
  refine CJ.seq ?_
  refine CJ.seq ?_
  refine CJ.region ?_
  refine OJ.pures tU_ok 1 rfl ?_
  refine OJ.nil (EJ.next ?_)
  obtain ⟨j5, H, K5⟩ := pbind H
  refine CJ.cut1 (fun F w1 => ∃ (y3 : List Int) , (some y3 : Option (List Int)) = some j5 ∧ F = [(3, .slice A2 y3.length ((a0.length : Int).toNat))] ∧ St w no w1 [rowC (ci .i64) A2 ((a0.length : Int).toNat) 2 y3] [roC (ci .i64) Aa0 ca0 a0]) ?_ ?_
  · skip
    refine CJ.block ?_
    refine CJ.loop (fun k F w1 => ∃ (y4 : List Int) (y5 : Int), F = [(0, .slice Aa0 a0.length ca0), (3, .slice A2 y4.length ((a0.length : Int).toNat)), (4, .int .i64 y5)] ∧ St w no w1 [rowC (ci .i64) A2 ((a0.length : Int).toNat) 2 y4] [roC (ci .i64) Aa0 ca0 a0] ∧ laws_toInt64S.l1 a0 k y4 y5 = some j5) k (F' := [(0, .slice Aa0 a0.length ca0), (3, .slice A2 (List.replicate ((a0.length : Int).toNat) 0 : List Int).length ((a0.length : Int).toNat)), (4, .int .i64 0)]) ⟨rfl, rfl, rfl, trivial⟩ ⟨(List.replicate ((a0.length : Int).toNat) 0 : List Int), 0, rfl, hS.pick [0] [0] rfl, H⟩ ?_
    rintro k F w1 ⟨y4, y5, rfl, hS, H⟩
    cases k with
    | zero => rw [laws_toInt64S.l1] at H; cases H
    | succ k =>
      rw [laws_toInt64S.l1] at H
      refine CJ.seq ?_
      refine CJ.seq ?_
      refine CJ.region ?_
      refine OJ.pures tU_ok 4 rfl ?_
      refine OJ.nil (EJ.next ?_)
      refine CJ.cond rfl (fun hb => ?_) (fun hb => ?_)
      · replace H := pif_t (of_decide_eq_true hb) H
        refine CJ.skip (EJ.next ?_)
        refine CJ.seq ?_
        refine CJ.block ?_
        refine CJ.region ?_
        refine OJ.pures tU_ok 4 rfl ?_
        obtain ⟨t6, ht6, H⟩ := pbind H
        obtain ⟨ad6, e6⟩ := (hS.rd' (i := 0) rfl).some' ht6
        refine OJ.st rfl rfl rfl (SR.idxS tU_ok tI_ok rfl rfl rfl rfl e6 rfl (getI_some ht6).1) ?_
        refine OJ.st rfl rfl rfl (SR.load rfl rfl (fun w' hx => ld1 tU_ok rfl rfl (CA.ext ((hS.rd' (i := 0) rfl).at_ e6 ht6) hx) rfl)) ?_
        obtain ⟨t7, ht7, H⟩ := pbind H
        obtain ⟨ad7, e7⟩ := (hS.rd (i := 0) rfl).some' ht7
        refine OJ.st rfl rfl rfl (SR.idxS tU_ok tI_ok rfl rfl rfl rfl e7 rfl (getI_some ht7).1) ?_
        refine OJ.es rfl rfl (Es.storeR tI_ok hS (i := 0) (off := 0) rfl rfl ht7 e7 rfl rfl rfl rfl (vs := (ci .i64).enc t6) rfl rfl (one1 rfl) (Nat.le_of_ble_eq_true rfl) t6 rfl) ?_
        intro w1 hS
        refine OJ.as (t := 3) rfl (show _ = (.slice A2 (y4.set y5.toNat t6).length ((a0.length : Int).toNat) : Value) by simp only [List.length_set]) ?_
        refine OJ.as (t := 14) rfl (show _ = (.slice A2 (y4.set y5.toNat t6).length ((a0.length : Int).toNat) : Value) by simp only [List.length_set]) ?_
        refine OJ.nil (EJ.blk (EJ.next ?_))
        refine CJ.region ?_
        refine OJ.pures tU_ok 3 rfl ?_
        refine OJ.nil ?_
        exact EJ.round k (F' := [(0, .slice Aa0 a0.length ca0), (3, .slice A2 (y4.set y5.toNat t6).length ((a0.length : Int).toNat)), (4, .int .i64 (IntKind.i64.wrap (y5 + 1)))]) ⟨rfl, rfl, rfl, trivial⟩ (Nat.lt_succ_self _) ⟨(y4.set y5.toNat t6), (IntKind.i64.wrap (y5 + 1)), rfl, hS.pick [0] [0] rfl, H⟩
      · replace H := pif_f (of_decide_eq_false hb) H
        refine CJ.exit (EJ.skE (EJ.skE (EJ.hit (?_))))
        exact EJ.meet (F' := [(3, .slice A2 y4.length ((a0.length : Int).toNat))]) ⟨rfl, trivial⟩ ⟨y4, H, rfl, hS.pick [0] [0] rfl⟩
  · rintro F w1 ⟨y3, he, rfl, hS⟩
    obtain rfl := Option.some.inj he
    have H := K5
    refine EJ.next ?_
    refine CJ.seq ?_
    refine CJ.region ?_
    refine OJ.pures tU_ok 2 rfl ?_
    refine OJ.nil (EJ.next ?_)
    refine CJ.ret (?_)
    obtain rfl := Option.some.inj H
    exact EJ.fin rfl (.tmp rfl .nil) ⟨A2, ((a0.length : Int).toNat), rfl, hS.pick [0] [] rfl⟩

def spec_l00In.f (a0 : Int) (a1 : Int) (a2 : Int) : Option Bool := if a1 ≤ a0 then (some (decide (a0 ≤ a2))) else (some false)
theorem spec_l00In.c (w : World) (a0 : Int) (a1 : Int) (a2 : Int) (r : Bool) (H : spec_l00In.f a0 a1 a2 = some r) :
    CV Tryd.prog 49 [.int .i64 a0, .int .i64 a1, .int .i64 a2].toArray w fun v w' => v = .bool r ∧ Ext w w' := by
  have hS := (St.init w no)
  unfold spec_l00In.f at H
  refine CV.body Tryd.func49 rfl Tryd.ntmps49 rfl ?_
  refine CJ.seq ?_
  refine CJ.region ?_
  refine OJ.pures tU_ok 1 rfl ?_
  refine OJ.nil (EJ.next ?_)
  refine CJ.seq ?_
  refine CJ.region ?_
  refine OJ.pures tU_ok 4 rfl ?_
  refine OJ.split (t := 10) rfl (fun hb => ?_) (fun hb => ?_)
  · replace H := pif_t (of_decide_eq_true hb) H
    refine OJ.pures tU_ok 5 rfl ?_
    refine OJ.nil (EJ.next ?_)
    refine CJ.ret (?_)
    obtain rfl := Option.some.inj H
    exact EJ.fin rfl (.tmp rfl .nil) ⟨rfl, hS.ext⟩
  · replace H := pif_f (of_decide_eq_false hb) H
    refine OJ.pures tU_ok 5 rfl ?_
    refine OJ.nil (EJ.next ?_)
    refine CJ.ret (?_)
    obtain rfl := Option.some.inj H
    exact EJ.fin rfl (.tmp rfl .nil) ⟨rfl, hS.ext⟩

def spec_l06Name.l1 (a0 : ByteArray) : Nat → Int → Option (Bool ⊕ Unit)
  | 0, _ => none
  | k + 1, y1 => if y1 < (a0.size : Int) then ((getB a0 y1).bind fun t2 => if t2 < 97 then (some (Sum.inl false)) else ((getB a0 y1).bind fun t3 => if 122 < t3 then (some (Sum.inl false)) else (spec_l06Name.l1 a0 k (IntKind.i64.wrap (y1 + 1))))) else (some (Sum.inr ()))
def spec_l06Name.f (k : Nat) (a0 : ByteArray) : Option Bool := (spec_l06Name.l1 a0 k 0).bind fun s10 => match s10 with | .inl r => some r | .inr _ => (spec_l00In.f (a0.size : Int) 1 8).bind fun t4 => some t4
theorem spec_l06Name.c (k : Nat) (w : World) (a0 : ByteArray) (r : Bool) (H : spec_l06Name.f k a0 = some r) :
    CV Tryd.prog 77 [.string a0].toArray w fun v w' => v = .bool r ∧ Ext w w' := by
  have hS := (St.init w no)
  unfold spec_l06Name.f at H
  refine CV.body Tryd.func77 rfl Tryd.ntmps77 rfl ?_
  refine CJ.seq ?_
  refine CJ.region ?_
  refine OJ.pures tU_ok 1 rfl ?_
  refine OJ.nil (EJ.next ?_)
  refine CJ.seq ?_
  refine CJ.seq ?_
  refine CJ.region ?_
  refine OJ.pures tU_ok 1 rfl ?_
  refine OJ.nil (EJ.next ?_)
  obtain ⟨j10, H, K10⟩ := pbind H
  refine CJ.cut1 (fun F w1 => (some (Sum.inr ()) : Option (Bool ⊕ Unit)) = some j10 ∧ F = [(0, .string a0)] ∧ St w no w1 [] []) ?_ ?_
  · skip
    refine CJ.block ?_
    refine CJ.loop (fun k F w1 => ∃ (y1 : Int), F = [(0, .string a0), (3, .int .i64 y1)] ∧ St w no w1 [] [] ∧ spec_l06Name.l1 a0 k y1 = some j10) k (F' := [(0, .string a0), (3, .int .i64 0)]) ⟨rfl, rfl, trivial⟩ ⟨0, rfl, hS.pick [] [] rfl, H⟩ ?_
    rintro k F w1 ⟨y1, rfl, hS, H⟩
    cases k with
    | zero => rw [spec_l06Name.l1] at H; cases H
    | succ k =>
      rw [spec_l06Name.l1] at H
      refine CJ.seq ?_
      refine CJ.seq ?_
      refine CJ.region ?_
      refine OJ.pures tU_ok 4 rfl ?_
      refine OJ.nil (EJ.next ?_)
      refine CJ.cond rfl (fun hb => ?_) (fun hb => ?_)
      · replace H := pif_t (of_decide_eq_true hb) H
        refine CJ.skip (EJ.next ?_)
        refine CJ.seq ?_
        refine CJ.block ?_
        refine CJ.seq ?_
        refine CJ.region ?_
        refine OJ.pures tU_ok 2 rfl ?_
        obtain ⟨t2, ht2, H⟩ := pbind H
        refine OJ.st rfl rfl rfl (SR.idxStr tU_ok rfl rfl rfl rfl ht2) ?_
        refine OJ.pures tU_ok 2 rfl ?_
        refine OJ.split (t := 14) rfl (fun hb => ?_) (fun hb => ?_)
        · replace H := pif_t (of_decide_eq_true hb) H
          refine OJ.pures tU_ok 5 rfl ?_
          refine OJ.nil (EJ.next ?_)
          refine CJ.condT rfl ?_
          refine CJ.seq ?_
          refine CJ.region ?_
          refine OJ.pures tU_ok 1 rfl ?_
          refine OJ.nil (EJ.next ?_)
          refine CJ.ret (EJ.bkR (EJ.skR (EJ.skR (EJ.bkR (EJ.skR (EJ.skR (?_)))))))
          first | (obtain rfl := Option.some.inj H; have H := K10) | (obtain ⟨q10, H2, e10⟩ := pbind H; obtain rfl := Option.some.inj e10; obtain rfl := Option.some.inj K10; have H := H2)
          obtain rfl := Option.some.inj H
          exact EJ.fin rfl (.tmp rfl .nil) ⟨rfl, hS.ext⟩
        · replace H := pif_f (of_decide_eq_false hb) H
          refine OJ.pures tU_ok 2 rfl ?_
          obtain ⟨t3, ht3, H⟩ := pbind H
          refine OJ.st rfl rfl rfl (SR.idxStr tU_ok rfl rfl rfl rfl ht3) ?_
          refine OJ.pures tU_ok 2 rfl ?_
          refine OJ.nil (EJ.next ?_)
          refine CJ.cond rfl (fun hb => ?_) (fun hb => ?_)
          · replace H := pif_t (of_decide_eq_true hb) H
            refine CJ.seq ?_
            refine CJ.region ?_
            refine OJ.pures tU_ok 1 rfl ?_
            refine OJ.nil (EJ.next ?_)
            refine CJ.ret (EJ.bkR (EJ.skR (EJ.skR (EJ.bkR (EJ.skR (EJ.skR (?_)))))))
            first | (obtain rfl := Option.some.inj H; have H := K10) | (obtain ⟨q10, H2, e10⟩ := pbind H; obtain rfl := Option.some.inj e10; obtain rfl := Option.some.inj K10; have H := H2)
            obtain rfl := Option.some.inj H
            exact EJ.fin rfl (.tmp rfl .nil) ⟨rfl, hS.ext⟩
          · replace H := pif_f (of_decide_eq_false hb) H
            refine CJ.skip (EJ.blk (EJ.next ?_))
            refine CJ.region ?_
            refine OJ.pures tU_ok 3 rfl ?_
            refine OJ.nil ?_
            exact EJ.round k (F' := [(0, .string a0), (3, .int .i64 (IntKind.i64.wrap (y1 + 1)))]) ⟨rfl, rfl, trivial⟩ (Nat.lt_succ_self _) ⟨(IntKind.i64.wrap (y1 + 1)), rfl, hS.pick [] [] rfl, H⟩
      · replace H := pif_f (of_decide_eq_false hb) H
        refine CJ.exit (EJ.skE (EJ.skE (EJ.hit (?_))))
        exact EJ.meet (F' := [(0, .string a0)]) ⟨rfl, trivial⟩ ⟨H, rfl, hS.pick [] [] rfl⟩
  · rintro F w1 ⟨he, rfl, hS⟩
    obtain rfl := Option.some.inj he
    have H := K10
    refine EJ.next ?_
    refine CJ.seq ?_
    refine CJ.region ?_
    refine OJ.pures tU_ok 2 rfl ?_
    obtain ⟨t4, ht4, H⟩ := pbind H
    refine OJ.callF rfl rfl rfl rfl rfl hb49 rfl (spec_l00In.c _ (a0.size : Int) 1 8 _ ht4) ?_
    rintro _ w1 ⟨rfl, hs⟩
    replace hS := hS.grow hs
    refine OJ.pures tU_ok 1 rfl ?_
    refine OJ.nil (EJ.next ?_)
    refine CJ.ret (?_)
    obtain rfl := Option.some.inj H
    exact EJ.fin rfl (.tmp rfl .nil) ⟨rfl, hS.ext⟩

def spec_l06Are.f (a0 : Herd) (a1 : Int) (a2 : Int) : Option Bool := (getI a0.Foes a1).bind fun t1 => (chk (0 ≤ (IntKind.u64.wrap a2))).bind fun u2 => some (decide ((Int.tmod (shrI .u16 t1 (IntKind.u64.wrap a2)) 2) = 1))
theorem spec_l06Are.c (w : World) (Aa0_0 : Option Addr) (ca0_0 : Nat) (Aa0_1 : Option Addr) (ca0_1 : Nat) (Aa0_2 : Option Addr) (ca0_2 : Nat) (a0 : Herd) (hr0_0 : Rd G.cs w Aa0_0 a0.Names) (hc0_0 : a0.Names.length ≤ ca0_0) (hr0_1 : Rd (ci .i16) w Aa0_1 a0.Eats) (hc0_1 : a0.Eats.length ≤ ca0_1) (hr0_2 : Rd (ci .u16) w Aa0_2 a0.Foes) (hc0_2 : a0.Foes.length ≤ ca0_2) (pa0 : Addr) (hp0 : CA w pa0 ([.slice Aa0_0 a0.Names.length ca0_0, .slice Aa0_1 a0.Eats.length ca0_1, .slice Aa0_2 a0.Foes.length ca0_2])) (a1 : Int) (a2 : Int) (r : Bool) (H : spec_l06Are.f a0 a1 a2 = some r) :
    CV Tryd.prog 29 [.pointer (some pa0), .int .i64 a1, .int .i64 a2].toArray w fun v w' => v = .bool r ∧ Ext w w' := by
  have hS := (((((St.init w no).param G.cs Aa0_0 ca0_0 a0.Names hr0_0 hc0_0).param (ci .i16) Aa0_1 ca0_1 a0.Eats hr0_1 hc0_1).param (ci .u16) Aa0_2 ca0_2 a0.Foes hr0_2 hc0_2).paramP pa0 ([.slice Aa0_0 a0.Names.length ca0_0, .slice Aa0_1 a0.Eats.length ca0_1, .slice Aa0_2 a0.Foes.length ca0_2]) hp0)
  unfold spec_l06Are.f at H
  refine CV.body Tryd.func29 rfl Tryd.ntmps29 rfl ?_
  refine CJ.seq ?_
  refine CJ.region ?_
  refine OJ.pures tU_ok 1 rfl ?_
  refine OJ.nil (EJ.next ?_)
  refine CJ.seq ?_
  refine CJ.region ?_
  refine OJ.pures tU_ok 2 rfl ?_
  refine OJ.st rfl rfl rfl (SR.fieldAddr tU_ok tI_ok rfl rfl rfl rfl rfl rfl) ?_
  refine OJ.st rfl rfl rfl (SR.load rfl rfl (fun w' hx => ld1 tU_ok rfl rfl (CA.ext (CA.sub (hS.ca (i := 3) rfl) 2) hx) rfl)) ?_
  refine OJ.pures tU_ok 1 rfl ?_
  obtain ⟨t1, ht1, H⟩ := pbind H
  obtain ⟨ad1, e1⟩ := (hS.rd' (i := 2) rfl).some' ht1
  refine OJ.st rfl rfl rfl (SR.idxS tU_ok tI_ok rfl rfl rfl rfl e1 rfl (getI_some ht1).1) ?_
  refine OJ.st rfl rfl rfl (SR.load rfl rfl (fun w' hx => ld1 tU_ok rfl rfl (CA.ext ((hS.rd' (i := 2) rfl).at_ e1 ht1) hx) rfl)) ?_
  refine OJ.pures tU_ok 2 rfl ?_
  obtain ⟨u2, hu2, H⟩ := pbind H
  refine OJ.st rfl rfl rfl (SR.shr rfl rfl rfl (chk_some hu2)) ?_
  refine OJ.st rfl rfl rfl (SR.rem rfl rfl rfl (by decide)) ?_
  refine OJ.pures tU_ok 2 rfl ?_
  refine OJ.nil (EJ.next ?_)
  refine CJ.ret (?_)
  obtain rfl := Option.some.inj H
  exact EJ.fin rfl (.tmp rfl .nil) ⟨rfl, hS.ext⟩

def spec_l06Ok.l2 (a0 : Herd) (y2 : Int) : Nat → Int → Option (((Bool ⊕ Unit) ⊕ Unit) ⊕ Unit)
  | 0, _ => none
  | k + 1, y11 => if y11 < y2 then ((getI a0.Names y11).bind fun t12 => (getI a0.Names y2).bind fun t13 => if t12 = t13 then (some (Sum.inl (Sum.inl (Sum.inl false)))) else ((spec_l06Are.f a0 y2 y11).bind fun t14 => (spec_l06Are.f a0 y11 y2).bind fun t15 => if t14 ≠ t15 then (some (Sum.inl (Sum.inl (Sum.inl false)))) else (spec_l06Ok.l2 a0 y2 k (IntKind.i64.wrap (y11 + 1))))) else (some (Sum.inr ()))
def spec_l06Ok.l1 (a0 : Herd) : Nat → Int → Option (Bool ⊕ Unit)
  | 0, _ => none
  | k + 1, y2 => if y2 < (a0.Names.length : Int) then ((((getI a0.Names y2).bind fun t4 => (spec_l06Name.f k t4).bind fun t5 => if (!t5) = true then (some true) else ((getI a0.Eats y2).bind fun t6 => (spec_l00In.f (IntKind.i64.wrap t6) 0 100).bind fun t7 => if (!t7) = true then (some true) else ((getI a0.Foes y2).bind fun t8 => (chk (0 ≤ (IntKind.u64.wrap (a0.Names.length : Int)))).bind fun u9 => if (shrI .u16 t8 (IntKind.u64.wrap (a0.Names.length : Int))) ≠ 0 then (some true) else ((spec_l06Are.f a0 y2 y2).bind fun t10 => some t10)))).bind fun y3 => if y3 = true then (some (Sum.inl (Sum.inl false))) else ((spec_l06Ok.l2 a0 y2 k 0).bind fun s23 => match s23 with | .inl r => some r | .inr _ => some (Sum.inr ()))).bind fun s19 => match s19 with | .inl r => some r | .inr _ => spec_l06Ok.l1 a0 k (IntKind.i64.wrap (y2 + 1))) else (some (Sum.inr ()))
def spec_l06Ok.f (k : Nat) (a0 : Herd) : Option Bool := (if 14 < (a0.Names.length : Int) then (some true) else (if (a0.Eats.length : Int) ≠ (a0.Names.length : Int) then (some true) else (some (decide ((a0.Foes.length : Int) ≠ (a0.Names.length : Int)))))).bind fun y1 => if y1 = true then (some false) else ((spec_l06Ok.l1 a0 k 0).bind fun s7 => match s7 with | .inl r => some r | .inr _ => some true)
theorem spec_l06Ok.c (k : Nat) (w : World) (Aa0_0 : Option Addr) (ca0_0 : Nat) (Aa0_1 : Option Addr) (ca0_1 : Nat) (Aa0_2 : Option Addr) (ca0_2 : Nat) (a0 : Herd) (hr0_0 : Rd G.cs w Aa0_0 a0.Names) (hc0_0 : a0.Names.length ≤ ca0_0) (hr0_1 : Rd (ci .i16) w Aa0_1 a0.Eats) (hc0_1 : a0.Eats.length ≤ ca0_1) (hr0_2 : Rd (ci .u16) w Aa0_2 a0.Foes) (hc0_2 : a0.Foes.length ≤ ca0_2) (pa0 : Addr) (hp0 : CA w pa0 ([.slice Aa0_0 a0.Names.length ca0_0, .slice Aa0_1 a0.Eats.length ca0_1, .slice Aa0_2 a0.Foes.length ca0_2])) (r : Bool) (H : spec_l06Ok.f k a0 = some r) :
    CV Tryd.prog 48 [.pointer (some pa0)].toArray w fun v w' => v = .bool r ∧ Ext w w' := by
  have hS := (((((St.init w no).param G.cs Aa0_0 ca0_0 a0.Names hr0_0 hc0_0).param (ci .i16) Aa0_1 ca0_1 a0.Eats hr0_1 hc0_1).param (ci .u16) Aa0_2 ca0_2 a0.Foes hr0_2 hc0_2).paramP pa0 ([.slice Aa0_0 a0.Names.length ca0_0, .slice Aa0_1 a0.Eats.length ca0_1, .slice Aa0_2 a0.Foes.length ca0_2]) hp0)
  unfold spec_l06Ok.f at H
  refine CV.body Tryd.func48 rfl Tryd.ntmps48 rfl ?_
  refine CJ.seq ?_
  refine CJ.region ?_
  refine OJ.pures tU_ok 1 rfl ?_
  refine OJ.nil (EJ.next ?_)
  refine CJ.seq ?_
  refine CJ.region ?_
  refine OJ.pures tU_ok 2 rfl ?_
  refine OJ.st rfl rfl rfl (SR.fieldAddr tU_ok tI_ok rfl rfl rfl rfl rfl rfl) ?_
  refine OJ.st rfl rfl rfl (SR.load rfl rfl (fun w' hx => ld1 tU_ok rfl rfl (CA.ext (CA.sub (hS.ca (i := 3) rfl) 0) hx) rfl)) ?_
  refine OJ.pures tU_ok 2 rfl ?_
  refine OJ.nil (EJ.next ?_)
  refine CJ.seq ?_
  obtain ⟨j6, H, K6⟩ := pbind H
  refine CJ.cut (fun F w1 => ∃ (y1 : Bool) , (some y1 : Option Bool) = some j6 ∧ F = [(0, .pointer (some pa0)), (3, .int .i64 (a0.Names.length : Int)), (30, .bool y1)] ∧ St w no w1 [] [roC G.cs Aa0_0 ca0_0 a0.Names, roC (ci .i16) Aa0_1 ca0_1 a0.Eats, roC (ci .u16) Aa0_2 ca0_2 a0.Foes, roP pa0 ([.slice Aa0_0 a0.Names.length ca0_0, .slice Aa0_1 a0.Eats.length ca0_1, .slice Aa0_2 a0.Foes.length ca0_2])]) ?_ ?_
  · skip
    refine CJ.region ?_
    refine OJ.pures tU_ok 3 rfl ?_
    refine OJ.split (t := 13) rfl (fun hb => ?_) (fun hb => ?_)
    · replace H := pif_t (of_decide_eq_true hb) H
      refine OJ.pures tU_ok 17 rfl ?_
      refine OJ.nil ?_
      exact EJ.meet (F' := [(0, .pointer (some pa0)), (3, .int .i64 (a0.Names.length : Int)), (30, .bool true)]) ⟨rfl, rfl, rfl, trivial⟩ ⟨true, H, rfl, hS.pick [] [0, 1, 2, 3] rfl⟩
    · replace H := pif_f (of_decide_eq_false hb) H
      refine OJ.pures tU_ok 2 rfl ?_
      refine OJ.st rfl rfl rfl (SR.fieldAddr tU_ok tI_ok rfl rfl rfl rfl rfl rfl) ?_
      refine OJ.st rfl rfl rfl (SR.load rfl rfl (fun w' hx => ld1 tU_ok rfl rfl (CA.ext (CA.sub (hS.ca (i := 3) rfl) 1) hx) rfl)) ?_
      refine OJ.pures tU_ok 5 rfl ?_
      refine OJ.split (t := 22) rfl (fun hb => ?_) (fun hb => ?_)
      · replace H := pif_t (of_decide_eq_true hb) H
        refine OJ.pures tU_ok 8 rfl ?_
        refine OJ.nil ?_
        exact EJ.meet (F' := [(0, .pointer (some pa0)), (3, .int .i64 (a0.Names.length : Int)), (30, .bool true)]) ⟨rfl, rfl, rfl, trivial⟩ ⟨true, H, rfl, hS.pick [] [0, 1, 2, 3] rfl⟩
      · replace H := pif_f (of_decide_eq_false hb) H
        refine OJ.pures tU_ok 2 rfl ?_
        refine OJ.st rfl rfl rfl (SR.fieldAddr tU_ok tI_ok rfl rfl rfl rfl rfl rfl) ?_
        refine OJ.st rfl rfl rfl (SR.load rfl rfl (fun w' hx => ld1 tU_ok rfl rfl (CA.ext (CA.sub (hS.ca (i := 3) rfl) 2) hx) rfl)) ?_
        refine OJ.pures tU_ok 4 rfl ?_
        refine OJ.nil ?_
        exact EJ.meet (F' := [(0, .pointer (some pa0)), (3, .int .i64 (a0.Names.length : Int)), (30, .bool (decide ((a0.Foes.length : Int) ≠ (a0.Names.length : Int))))]) ⟨rfl, rfl, rfl, trivial⟩ ⟨(decide ((a0.Foes.length : Int) ≠ (a0.Names.length : Int))), H, rfl, hS.pick [] [0, 1, 2, 3] rfl⟩
  · rintro F w1 ⟨y1, he, rfl, hS⟩
    obtain rfl := Option.some.inj he
    have H := K6
    refine CJ.cond rfl (fun hb => ?_) (fun hb => ?_)
    · replace H := pif_t hb H
      refine CJ.seq ?_
      refine CJ.region ?_
      refine OJ.pures tU_ok 1 rfl ?_
      refine OJ.nil (EJ.next ?_)
      refine CJ.ret (EJ.skR (?_))
      obtain rfl := Option.some.inj H
      exact EJ.fin rfl (.tmp rfl .nil) ⟨rfl, hS.ext⟩
    · replace H := pifb_f hb H
      refine CJ.skip (EJ.next ?_)
      refine CJ.seq ?_
      refine CJ.seq ?_
      refine CJ.region ?_
      refine OJ.pures tU_ok 1 rfl ?_
      refine OJ.nil (EJ.next ?_)
      obtain ⟨j7, H, K7⟩ := pbind H
      refine CJ.cut1 (fun F w1 => (some (Sum.inr ()) : Option (Bool ⊕ Unit)) = some j7 ∧ F = [] ∧ St w no w1 [] [roC G.cs Aa0_0 ca0_0 a0.Names, roC (ci .i16) Aa0_1 ca0_1 a0.Eats, roC (ci .u16) Aa0_2 ca0_2 a0.Foes, roP pa0 ([.slice Aa0_0 a0.Names.length ca0_0, .slice Aa0_1 a0.Eats.length ca0_1, .slice Aa0_2 a0.Foes.length ca0_2])]) ?_ ?_
      · skip
        refine CJ.block ?_
        refine CJ.loop (fun k F w1 => ∃ (y2 : Int), F = [(0, .pointer (some pa0)), (3, .int .i64 (a0.Names.length : Int)), (4, .int .i64 y2)] ∧ St w no w1 [] [roC G.cs Aa0_0 ca0_0 a0.Names, roC (ci .i16) Aa0_1 ca0_1 a0.Eats, roC (ci .u16) Aa0_2 ca0_2 a0.Foes, roP pa0 ([.slice Aa0_0 a0.Names.length ca0_0, .slice Aa0_1 a0.Eats.length ca0_1, .slice Aa0_2 a0.Foes.length ca0_2])] ∧ spec_l06Ok.l1 a0 k y2 = some j7) k (F' := [(0, .pointer (some pa0)), (3, .int .i64 (a0.Names.length : Int)), (4, .int .i64 0)]) ⟨rfl, rfl, rfl, trivial⟩ ⟨0, rfl, hS.pick [] [0, 1, 2, 3] rfl, H⟩ ?_
        rintro k F w1 ⟨y2, rfl, hS, H⟩
        cases k with
        | zero => rw [spec_l06Ok.l1] at H; cases H
        | succ k =>
          rw [spec_l06Ok.l1] at H
          refine CJ.seq ?_
          refine CJ.seq ?_
          refine CJ.region ?_
          refine OJ.pures tU_ok 3 rfl ?_
          refine OJ.nil (EJ.next ?_)
          refine CJ.cond rfl (fun hb => ?_) (fun hb => ?_)
          · replace H := pif_t (of_decide_eq_true hb) H
            refine CJ.skip (EJ.next ?_)
            obtain ⟨j19, H, K19⟩ := pbind H
            refine CJ.cut (fun F w1 => (some (Sum.inr ()) : Option ((Bool ⊕ Unit) ⊕ Unit)) = some j19 ∧ F = [(0, .pointer (some pa0)), (3, .int .i64 (a0.Names.length : Int)), (4, .int .i64 y2)] ∧ St w no w1 [] [roC G.cs Aa0_0 ca0_0 a0.Names, roC (ci .i16) Aa0_1 ca0_1 a0.Eats, roC (ci .u16) Aa0_2 ca0_2 a0.Foes, roP pa0 ([.slice Aa0_0 a0.Names.length ca0_0, .slice Aa0_1 a0.Eats.length ca0_1, .slice Aa0_2 a0.Foes.length ca0_2])]) ?_ ?_
            · skip
              refine CJ.block ?_
              refine CJ.seq ?_
              obtain ⟨j22, H, K22⟩ := pbind H
              refine CJ.cut (fun F w1 => ∃ (y3 : Bool) , (some y3 : Option Bool) = some j22 ∧ F = [(0, .pointer (some pa0)), (3, .int .i64 (a0.Names.length : Int)), (4, .int .i64 y2), (75, .bool y3)] ∧ St w no w1 [] [roC G.cs Aa0_0 ca0_0 a0.Names, roC (ci .i16) Aa0_1 ca0_1 a0.Eats, roC (ci .u16) Aa0_2 ca0_2 a0.Foes, roP pa0 ([.slice Aa0_0 a0.Names.length ca0_0, .slice Aa0_1 a0.Eats.length ca0_1, .slice Aa0_2 a0.Foes.length ca0_2])]) ?_ ?_
              · skip
                refine CJ.region ?_
                refine OJ.pures tU_ok 2 rfl ?_
                refine OJ.st rfl rfl rfl (SR.fieldAddr tU_ok tI_ok rfl rfl rfl rfl rfl rfl) ?_
                refine OJ.st rfl rfl rfl (SR.load rfl rfl (fun w' hx => ld1 tU_ok rfl rfl (CA.ext (CA.sub (hS.ca (i := 3) rfl) 0) hx) rfl)) ?_
                refine OJ.pures tU_ok 1 rfl ?_
                obtain ⟨t4, ht4, H⟩ := pbind H
                obtain ⟨ad4, e4⟩ := (hS.rd' (i := 0) rfl).some' ht4
                refine OJ.st rfl rfl rfl (SR.idxS tU_ok tI_ok rfl rfl rfl rfl e4 rfl (getI_some ht4).1) ?_
                refine OJ.st rfl rfl rfl (SR.load rfl rfl (fun w' hx => ld1 tU_ok rfl rfl (CA.ext ((hS.rd' (i := 0) rfl).at_ e4 ht4) hx) rfl)) ?_
                obtain ⟨t5, ht5, H⟩ := pbind H
                refine OJ.callF rfl rfl rfl rfl rfl hb77 rfl (spec_l06Name.c k _ t4 _ ht5) ?_
                rintro _ w1 ⟨rfl, hs⟩
                replace hS := hS.grow hs
                refine OJ.pures tU_ok 2 rfl ?_
                refine OJ.split (t := 45) rfl (fun hb => ?_) (fun hb => ?_)
                · replace H := pif_t hb H
                  refine OJ.pures tU_ok 30 rfl ?_
                  refine OJ.nil ?_
                  exact EJ.meet (F' := [(0, .pointer (some pa0)), (3, .int .i64 (a0.Names.length : Int)), (4, .int .i64 y2), (75, .bool true)]) ⟨rfl, rfl, rfl, rfl, trivial⟩ ⟨true, H, rfl, hS.pick [] [0, 1, 2, 3] rfl⟩
                · replace H := pifb_f hb H
                  refine OJ.pures tU_ok 2 rfl ?_
                  refine OJ.st rfl rfl rfl (SR.fieldAddr tU_ok tI_ok rfl rfl rfl rfl rfl rfl) ?_
                  refine OJ.st rfl rfl rfl (SR.load rfl rfl (fun w' hx => ld1 tU_ok rfl rfl (CA.ext (CA.sub (hS.ca (i := 3) rfl) 1) hx) rfl)) ?_
                  refine OJ.pures tU_ok 1 rfl ?_
                  obtain ⟨t6, ht6, H⟩ := pbind H
                  obtain ⟨ad6, e6⟩ := (hS.rd' (i := 1) rfl).some' ht6
                  refine OJ.st rfl rfl rfl (SR.idxS tU_ok tI_ok rfl rfl rfl rfl e6 rfl (getI_some ht6).1) ?_
                  refine OJ.st rfl rfl rfl (SR.load rfl rfl (fun w' hx => ld1 tU_ok rfl rfl (CA.ext ((hS.rd' (i := 1) rfl).at_ e6 ht6) hx) rfl)) ?_
                  refine OJ.pures tU_ok 1 rfl ?_
                  obtain ⟨t7, ht7, H⟩ := pbind H
                  refine OJ.callF rfl rfl rfl rfl rfl hb49 rfl (spec_l00In.c _ (IntKind.i64.wrap t6) 0 100 _ ht7) ?_
                  rintro _ w1 ⟨rfl, hs⟩
                  replace hS := hS.grow hs
                  refine OJ.pures tU_ok 3 rfl ?_
                  refine OJ.split (t := 57) rfl (fun hb => ?_) (fun hb => ?_)
                  · replace H := pif_t hb H
                    refine OJ.pures tU_ok 18 rfl ?_
                    refine OJ.nil ?_
                    exact EJ.meet (F' := [(0, .pointer (some pa0)), (3, .int .i64 (a0.Names.length : Int)), (4, .int .i64 y2), (75, .bool true)]) ⟨rfl, rfl, rfl, rfl, trivial⟩ ⟨true, H, rfl, hS.pick [] [0, 1, 2, 3] rfl⟩
                  · replace H := pifb_f hb H
                    refine OJ.pures tU_ok 2 rfl ?_
                    refine OJ.st rfl rfl rfl (SR.fieldAddr tU_ok tI_ok rfl rfl rfl rfl rfl rfl) ?_
                    refine OJ.st rfl rfl rfl (SR.load rfl rfl (fun w' hx => ld1 tU_ok rfl rfl (CA.ext (CA.sub (hS.ca (i := 3) rfl) 2) hx) rfl)) ?_
                    refine OJ.pures tU_ok 1 rfl ?_
                    obtain ⟨t8, ht8, H⟩ := pbind H
                    obtain ⟨ad8, e8⟩ := (hS.rd' (i := 2) rfl).some' ht8
                    refine OJ.st rfl rfl rfl (SR.idxS tU_ok tI_ok rfl rfl rfl rfl e8 rfl (getI_some ht8).1) ?_
                    refine OJ.st rfl rfl rfl (SR.load rfl rfl (fun w' hx => ld1 tU_ok rfl rfl (CA.ext ((hS.rd' (i := 2) rfl).at_ e8 ht8) hx) rfl)) ?_
                    refine OJ.pures tU_ok 2 rfl ?_
                    obtain ⟨u9, hu9, H⟩ := pbind H
                    refine OJ.st rfl rfl rfl (SR.shr rfl rfl rfl (chk_some hu9)) ?_
                    refine OJ.pures tU_ok 3 rfl ?_
                    refine OJ.split (t := 70) rfl (fun hb => ?_) (fun hb => ?_)
                    · replace H := pif_t (of_decide_eq_true hb) H
                      refine OJ.pures tU_ok 5 rfl ?_
                      refine OJ.nil ?_
                      exact EJ.meet (F' := [(0, .pointer (some pa0)), (3, .int .i64 (a0.Names.length : Int)), (4, .int .i64 y2), (75, .bool true)]) ⟨rfl, rfl, rfl, rfl, trivial⟩ ⟨true, H, rfl, hS.pick [] [0, 1, 2, 3] rfl⟩
                    · replace H := pif_f (of_decide_eq_false hb) H
                      refine OJ.pures tU_ok 3 rfl ?_
                      obtain ⟨t10, ht10, H⟩ := pbind H
                      refine OJ.callF rfl rfl rfl rfl rfl hb29 rfl (spec_l06Are.c _ Aa0_0 ca0_0 Aa0_1 ca0_1 Aa0_2 ca0_2 a0 (hS.rd' (i := 0) rfl) (hS.le' (i := 0) rfl) (hS.rd' (i := 1) rfl) (hS.le' (i := 1) rfl) (hS.rd' (i := 2) rfl) (hS.le' (i := 2) rfl) pa0 (hS.ca (i := 3) rfl) y2 y2 _ ht10) ?_
                      rintro _ w1 ⟨rfl, hs⟩
                      replace hS := hS.grow hs
                      refine OJ.pures tU_ok 1 rfl ?_
                      refine OJ.nil ?_
                      exact EJ.meet (F' := [(0, .pointer (some pa0)), (3, .int .i64 (a0.Names.length : Int)), (4, .int .i64 y2), (75, .bool t10)]) ⟨rfl, rfl, rfl, rfl, trivial⟩ ⟨t10, H, rfl, hS.pick [] [0, 1, 2, 3] rfl⟩
              · rintro F w1 ⟨y3, he, rfl, hS⟩
                obtain rfl := Option.some.inj he
                have H := K22
                refine CJ.cond rfl (fun hb => ?_) (fun hb => ?_)
                · replace H := pif_t hb H
                  refine CJ.seq ?_
                  refine CJ.region ?_
                  refine OJ.pures tU_ok 1 rfl ?_
                  refine OJ.nil (EJ.next ?_)
                  refine CJ.ret (EJ.skR (EJ.bkR (EJ.skR (EJ.skR (EJ.bkR (EJ.skR (EJ.skR (?_))))))))
                  first | (obtain rfl := Option.some.inj H; have H := K19) | (obtain ⟨q19, H2, e19⟩ := pbind H; obtain rfl := Option.some.inj e19; obtain rfl := Option.some.inj K19; have H := H2)
                  first | (obtain rfl := Option.some.inj H; have H := K7) | (obtain ⟨q7, H2, e7⟩ := pbind H; obtain rfl := Option.some.inj e7; obtain rfl := Option.some.inj K7; have H := H2)
                  obtain rfl := Option.some.inj H
                  exact EJ.fin rfl (.tmp rfl .nil) ⟨rfl, hS.ext⟩
                · replace H := pifb_f hb H
                  refine CJ.skip (EJ.next ?_)
                  refine CJ.seq ?_
                  refine CJ.region ?_
                  refine OJ.pures tU_ok 1 rfl ?_
                  refine OJ.nil (EJ.next ?_)
                  obtain ⟨j23, H, K23⟩ := pbind H
                  refine CJ.cut1 (fun F w1 => (some (Sum.inr ()) : Option (((Bool ⊕ Unit) ⊕ Unit) ⊕ Unit)) = some j23 ∧ F = [(0, .pointer (some pa0)), (3, .int .i64 (a0.Names.length : Int)), (4, .int .i64 y2)] ∧ St w no w1 [] [roC G.cs Aa0_0 ca0_0 a0.Names, roC (ci .i16) Aa0_1 ca0_1 a0.Eats, roC (ci .u16) Aa0_2 ca0_2 a0.Foes, roP pa0 ([.slice Aa0_0 a0.Names.length ca0_0, .slice Aa0_1 a0.Eats.length ca0_1, .slice Aa0_2 a0.Foes.length ca0_2])]) ?_ ?_
                  · skip
                    refine CJ.block ?_
                    refine CJ.loop (fun k F w1 => ∃ (y11 : Int), F = [(0, .pointer (some pa0)), (3, .int .i64 (a0.Names.length : Int)), (4, .int .i64 y2), (5, .int .i64 y11)] ∧ St w no w1 [] [roC G.cs Aa0_0 ca0_0 a0.Names, roC (ci .i16) Aa0_1 ca0_1 a0.Eats, roC (ci .u16) Aa0_2 ca0_2 a0.Foes, roP pa0 ([.slice Aa0_0 a0.Names.length ca0_0, .slice Aa0_1 a0.Eats.length ca0_1, .slice Aa0_2 a0.Foes.length ca0_2])] ∧ spec_l06Ok.l2 a0 y2 k y11 = some j23) k (F' := [(0, .pointer (some pa0)), (3, .int .i64 (a0.Names.length : Int)), (4, .int .i64 y2), (5, .int .i64 0)]) ⟨rfl, rfl, rfl, rfl, trivial⟩ ⟨0, rfl, hS.pick [] [0, 1, 2, 3] rfl, H⟩ ?_
                    rintro k F w1 ⟨y11, rfl, hS, H⟩
                    cases k with
                    | zero => rw [spec_l06Ok.l2] at H; cases H
                    | succ k =>
                      rw [spec_l06Ok.l2] at H
                      refine CJ.seq ?_
                      refine CJ.seq ?_
                      refine CJ.region ?_
                      refine OJ.pures tU_ok 3 rfl ?_
                      refine OJ.nil (EJ.next ?_)
                      refine CJ.cond rfl (fun hb => ?_) (fun hb => ?_)
                      · replace H := pif_t (of_decide_eq_true hb) H
                        refine CJ.skip (EJ.next ?_)
                        refine CJ.seq ?_
                        refine CJ.block ?_
                        refine CJ.seq ?_
                        refine CJ.draw [] [0, 1, 2, 3, 4, 5, 6, 7, 8, 9, 10, 11, 12, 13, 14, 15, 16, 17, 18, 20, 21, 22, 19, 23, 24, 25] mixed (by kernel_rfl) hS fun w1 hS => ?_
                        refine DJ.pures tU_ok 2 rfl ?_
                        refine DJ.st rfl rfl rfl rfl rfl (SR.fieldAddr tU_ok tI_ok rfl rfl rfl rfl rfl rfl) ?_
                        refine DJ.st rfl rfl rfl rfl rfl (SR.load rfl rfl (fun w' hx => ld1 tU_ok rfl rfl (CA.ext (CA.sub (hS.ca (i := 3) rfl) 0) hx) rfl)) ?_
                        refine DJ.pures tU_ok 1 rfl ?_
                        obtain ⟨t12, ht12, H⟩ := pbind H
                        obtain ⟨ad12, e12⟩ := (hS.rd' (i := 0) rfl).some' ht12
                        refine DJ.st rfl rfl rfl rfl rfl (SR.idxS tU_ok tI_ok rfl rfl rfl rfl e12 rfl (getI_some ht12).1) ?_
                        refine DJ.st rfl rfl rfl rfl rfl (SR.load rfl rfl (fun w' hx => ld1 tU_ok rfl rfl (CA.ext ((hS.rd' (i := 0) rfl).at_ e12 ht12) hx) rfl)) ?_
                        refine DJ.pures tU_ok 2 rfl ?_
                        refine DJ.st rfl rfl rfl rfl rfl (SR.fieldAddr tU_ok tI_ok rfl rfl rfl rfl rfl rfl) ?_
                        refine DJ.st rfl rfl rfl rfl rfl (SR.load rfl rfl (fun w' hx => ld1 tU_ok rfl rfl (CA.ext (CA.sub (hS.ca (i := 3) rfl) 0) hx) rfl)) ?_
                        refine DJ.pures tU_ok 1 rfl ?_
                        obtain ⟨t13, ht13, H⟩ := pbind H
                        obtain ⟨ad13, e13⟩ := (hS.rd' (i := 0) rfl).some' ht13
                        refine DJ.st rfl rfl rfl rfl rfl (SR.idxS tU_ok tI_ok rfl rfl rfl rfl e13 rfl (getI_some ht13).1) ?_
                        refine DJ.st rfl rfl rfl rfl rfl (SR.load rfl rfl (fun w' hx => ld1 tU_ok rfl rfl (CA.ext ((hS.rd' (i := 0) rfl).at_ e13 ht13) hx) rfl)) ?_
                        refine DJ.pures tU_ok 2 rfl ?_
                        refine DJ.split (t := 96) rfl (fun hb => ?_) (fun hb => ?_)
                        · replace H := pif_t (of_decide_eq_true hb) H
                          refine DJ.pures tU_ok 10 rfl ?_
                          refine DJ.nil (EJ.next ?_)
                          refine CJ.condT rfl ?_
                          refine CJ.seq ?_
                          refine CJ.region ?_
                          refine OJ.pures tU_ok 1 rfl ?_
                          refine OJ.nil (EJ.next ?_)
                          refine CJ.ret (EJ.bkR (EJ.skR (EJ.skR (EJ.bkR (EJ.skR (EJ.bkR (EJ.skR (EJ.skR (EJ.bkR (EJ.skR (EJ.skR (?_))))))))))))
                          first | (obtain rfl := Option.some.inj H; have H := K23) | (obtain ⟨q23, H2, e23⟩ := pbind H; obtain rfl := Option.some.inj e23; obtain rfl := Option.some.inj K23; have H := H2)
                          first | (obtain rfl := Option.some.inj H; have H := K19) | (obtain ⟨q19, H2, e19⟩ := pbind H; obtain rfl := Option.some.inj e19; obtain rfl := Option.some.inj K19; have H := H2)
                          first | (obtain rfl := Option.some.inj H; have H := K7) | (obtain ⟨q7, H2, e7⟩ := pbind H; obtain rfl := Option.some.inj e7; obtain rfl := Option.some.inj K7; have H := H2)
                          obtain rfl := Option.some.inj H
                          exact EJ.fin rfl (.tmp rfl .nil) ⟨rfl, hS.ext⟩
                        · replace H := pif_f (of_decide_eq_false hb) H
                          refine DJ.pures tU_ok 6 rfl ?_
                          obtain ⟨t14, ht14, H⟩ := pbind H
                          refine DJ.callF rfl rfl rfl rfl rfl rfl rfl hb29 rfl (spec_l06Are.c _ Aa0_0 ca0_0 Aa0_1 ca0_1 Aa0_2 ca0_2 a0 (hS.rd' (i := 0) rfl) (hS.le' (i := 0) rfl) (hS.rd' (i := 1) rfl) (hS.le' (i := 1) rfl) (hS.rd' (i := 2) rfl) (hS.le' (i := 2) rfl) pa0 (hS.ca (i := 3) rfl) y2 y11 _ ht14) (by rintro v w' ⟨rfl, hs⟩; exact hs) ?_
                          rintro _ w1 ⟨rfl, hs⟩
                          replace hS := hS.grow hs
                          obtain ⟨t15, ht15, H⟩ := pbind H
                          refine DJ.callF rfl rfl rfl rfl rfl rfl rfl hb29 rfl (spec_l06Are.c _ Aa0_0 ca0_0 Aa0_1 ca0_1 Aa0_2 ca0_2 a0 (hS.rd' (i := 0) rfl) (hS.le' (i := 0) rfl) (hS.rd' (i := 1) rfl) (hS.le' (i := 1) rfl) (hS.rd' (i := 2) rfl) (hS.le' (i := 2) rfl) pa0 (hS.ca (i := 3) rfl) y11 y2 _ ht15) (by rintro v w' ⟨rfl, hs⟩; exact hs) ?_
                          rintro _ w1 ⟨rfl, hs⟩
                          replace hS := hS.grow hs
                          refine DJ.st rfl rfl rfl rfl rfl (SR.neB tU_ok rfl rfl rfl rfl) ?_
                          refine DJ.pures tU_ok 1 rfl ?_
                          refine DJ.nil (EJ.next ?_)
                          refine CJ.cond rfl (fun hb => ?_) (fun hb => ?_)
                          · replace H := pif_t (of_decide_eq_true hb) H
                            refine CJ.seq ?_
                            refine CJ.region ?_
                            refine OJ.pures tU_ok 1 rfl ?_
                            refine OJ.nil (EJ.next ?_)
                            refine CJ.ret (EJ.bkR (EJ.skR (EJ.skR (EJ.bkR (EJ.skR (EJ.bkR (EJ.skR (EJ.skR (EJ.bkR (EJ.skR (EJ.skR (?_))))))))))))
                            first | (obtain rfl := Option.some.inj H; have H := K23) | (obtain ⟨q23, H2, e23⟩ := pbind H; obtain rfl := Option.some.inj e23; obtain rfl := Option.some.inj K23; have H := H2)
                            first | (obtain rfl := Option.some.inj H; have H := K19) | (obtain ⟨q19, H2, e19⟩ := pbind H; obtain rfl := Option.some.inj e19; obtain rfl := Option.some.inj K19; have H := H2)
                            first | (obtain rfl := Option.some.inj H; have H := K7) | (obtain ⟨q7, H2, e7⟩ := pbind H; obtain rfl := Option.some.inj e7; obtain rfl := Option.some.inj K7; have H := H2)
                            obtain rfl := Option.some.inj H
                            exact EJ.fin rfl (.tmp rfl .nil) ⟨rfl, hS.ext⟩
                          · replace H := pif_f (of_decide_eq_false hb) H
                            refine CJ.skip (EJ.blk (EJ.next ?_))
                            refine CJ.region ?_
                            refine OJ.pures tU_ok 3 rfl ?_
                            refine OJ.nil ?_
                            exact EJ.round k (F' := [(0, .pointer (some pa0)), (3, .int .i64 (a0.Names.length : Int)), (4, .int .i64 y2), (5, .int .i64 (IntKind.i64.wrap (y11 + 1)))]) ⟨rfl, rfl, rfl, rfl, trivial⟩ (Nat.lt_succ_self _) ⟨(IntKind.i64.wrap (y11 + 1)), rfl, hS.pick [] [0, 1, 2, 3] rfl, H⟩
                      · replace H := pif_f (of_decide_eq_false hb) H
                        refine CJ.exit (EJ.skE (EJ.skE (EJ.hit (?_))))
                        exact EJ.meet (F' := [(0, .pointer (some pa0)), (3, .int .i64 (a0.Names.length : Int)), (4, .int .i64 y2)]) ⟨rfl, rfl, rfl, trivial⟩ ⟨H, rfl, hS.pick [] [0, 1, 2, 3] rfl⟩
                  · rintro F w1 ⟨he, rfl, hS⟩
                    obtain rfl := Option.some.inj he
                    have H := K23
                    refine EJ.blk (?_)
                    exact EJ.meet (F' := [(0, .pointer (some pa0)), (3, .int .i64 (a0.Names.length : Int)), (4, .int .i64 y2)]) ⟨rfl, rfl, rfl, trivial⟩ ⟨H, rfl, hS.pick [] [0, 1, 2, 3] rfl⟩
            · rintro F w1 ⟨he, rfl, hS⟩
              obtain rfl := Option.some.inj he
              have H := K19
              refine CJ.region ?_
              refine OJ.pures tU_ok 3 rfl ?_
              refine OJ.nil ?_
              exact EJ.round k (F' := [(0, .pointer (some pa0)), (3, .int .i64 (a0.Names.length : Int)), (4, .int .i64 (IntKind.i64.wrap (y2 + 1)))]) ⟨rfl, rfl, rfl, trivial⟩ (Nat.lt_succ_self _) ⟨(IntKind.i64.wrap (y2 + 1)), rfl, hS.pick [] [0, 1, 2, 3] rfl, H⟩
          · replace H := pif_f (of_decide_eq_false hb) H
            refine CJ.exit (EJ.skE (EJ.skE (EJ.hit (?_))))
            exact EJ.meet (F' := []) trivial ⟨H, rfl, hS.pick [] [0, 1, 2, 3] rfl⟩
      · rintro F w1 ⟨he, rfl, hS⟩
        obtain rfl := Option.some.inj he
        have H := K7
        refine EJ.next ?_
        refine CJ.seq ?_
        refine CJ.region ?_
        refine OJ.pures tU_ok 1 rfl ?_
        refine OJ.nil (EJ.next ?_)
        refine CJ.ret (?_)
        obtain rfl := Option.some.inj H
        exact EJ.fin rfl (.tmp rfl .nil) ⟨rfl, hS.ext⟩

def spec_l06Numbers.l1 (a1 : List Int) : Nat → Int → Option (Bool ⊕ Unit)
  | 0, _ => none
  | k + 1, y1 => if y1 < (a1.length : Int) then ((getI a1 y1).bind fun t2 => (spec_l00In.f t2 0 13).bind fun t3 => if (!t3) = true then (some (Sum.inl false)) else (spec_l06Numbers.l1 a1 k (IntKind.i64.wrap (y1 + 1)))) else (some (Sum.inr ()))
def spec_l06Numbers.f (k : Nat) (a0 : Herd) (a1 : List Int) : Option Bool := (spec_l06Numbers.l1 a1 k 0).bind fun s24 => match s24 with | .inl r => some r | .inr _ => some (decide ((a1.length : Int) = (a0.Names.length : Int)))
theorem spec_l06Numbers.c (k : Nat) (w : World) (Aa0_0 : Option Addr) (ca0_0 : Nat) (Aa0_1 : Option Addr) (ca0_1 : Nat) (Aa0_2 : Option Addr) (ca0_2 : Nat) (a0 : Herd) (hr0_0 : Rd G.cs w Aa0_0 a0.Names) (hc0_0 : a0.Names.length ≤ ca0_0) (hr0_1 : Rd (ci .i16) w Aa0_1 a0.Eats) (hc0_1 : a0.Eats.length ≤ ca0_1) (hr0_2 : Rd (ci .u16) w Aa0_2 a0.Foes) (hc0_2 : a0.Foes.length ≤ ca0_2) (pa0 : Addr) (hp0 : CA w pa0 ([.slice Aa0_0 a0.Names.length ca0_0, .slice Aa0_1 a0.Eats.length ca0_1, .slice Aa0_2 a0.Foes.length ca0_2])) (Aa1 : Option Addr) (ca1 : Nat) (a1 : List Int) (hr1 : Rd (ci .i64) w Aa1 a1) (hc1 : a1.length ≤ ca1) (r : Bool) (H : spec_l06Numbers.f k a0 a1 = some r) :
    CV Tryd.prog 83 [.pointer (some pa0), .slice Aa1 a1.length ca1].toArray w fun v w' => v = .bool r ∧ Ext w w' := by
  have hS := ((((((St.init w no).param G.cs Aa0_0 ca0_0 a0.Names hr0_0 hc0_0).param (ci .i16) Aa0_1 ca0_1 a0.Eats hr0_1 hc0_1).param (ci .u16) Aa0_2 ca0_2 a0.Foes hr0_2 hc0_2).paramP pa0 ([.slice Aa0_0 a0.Names.length ca0_0, .slice Aa0_1 a0.Eats.length ca0_1, .slice Aa0_2 a0.Foes.length ca0_2]) hp0).param (ci .i64) Aa1 ca1 a1 hr1 hc1)
  unfold spec_l06Numbers.f at H
  refine CV.body Tryd.func83 rfl Tryd.ntmps83 rfl ?_
  refine CJ.seq ?_
  refine CJ.region ?_
  refine OJ.pures tU_ok 1 rfl ?_
  refine OJ.nil (EJ.next ?_)
  refine CJ.seq ?_
  refine CJ.seq ?_
  refine CJ.region ?_
  refine OJ.pures tU_ok 1 rfl ?_
  refine OJ.nil (EJ.next ?_)
  obtain ⟨j24, H, K24⟩ := pbind H
  refine CJ.cut1 (fun F w1 => (some (Sum.inr ()) : Option (Bool ⊕ Unit)) = some j24 ∧ F = [(0, .pointer (some pa0)), (1, .slice Aa1 a1.length ca1)] ∧ St w no w1 [] [roC G.cs Aa0_0 ca0_0 a0.Names, roC (ci .i16) Aa0_1 ca0_1 a0.Eats, roC (ci .u16) Aa0_2 ca0_2 a0.Foes, roP pa0 ([.slice Aa0_0 a0.Names.length ca0_0, .slice Aa0_1 a0.Eats.length ca0_1, .slice Aa0_2 a0.Foes.length ca0_2]), roC (ci .i64) Aa1 ca1 a1]) ?_ ?_
  · skip
    refine CJ.block ?_
    refine CJ.loop (fun k F w1 => ∃ (y1 : Int), F = [(0, .pointer (some pa0)), (1, .slice Aa1 a1.length ca1), (5, .int .i64 y1)] ∧ St w no w1 [] [roC G.cs Aa0_0 ca0_0 a0.Names, roC (ci .i16) Aa0_1 ca0_1 a0.Eats, roC (ci .u16) Aa0_2 ca0_2 a0.Foes, roP pa0 ([.slice Aa0_0 a0.Names.length ca0_0, .slice Aa0_1 a0.Eats.length ca0_1, .slice Aa0_2 a0.Foes.length ca0_2]), roC (ci .i64) Aa1 ca1 a1] ∧ spec_l06Numbers.l1 a1 k y1 = some j24) k (F' := [(0, .pointer (some pa0)), (1, .slice Aa1 a1.length ca1), (5, .int .i64 0)]) ⟨rfl, rfl, rfl, trivial⟩ ⟨0, rfl, hS.pick [] [0, 1, 2, 3, 4] rfl, H⟩ ?_
    rintro k F w1 ⟨y1, rfl, hS, H⟩
    cases k with
    | zero => rw [spec_l06Numbers.l1] at H; cases H
    | succ k =>
      rw [spec_l06Numbers.l1] at H
      refine CJ.seq ?_
      refine CJ.seq ?_
      refine CJ.region ?_
      refine OJ.pures tU_ok 4 rfl ?_
      refine OJ.nil (EJ.next ?_)
      refine CJ.cond rfl (fun hb => ?_) (fun hb => ?_)
      · replace H := pif_t (of_decide_eq_true hb) H
        refine CJ.skip (EJ.next ?_)
        refine CJ.seq ?_
        refine CJ.block ?_
        refine CJ.seq ?_
        refine CJ.region ?_
        refine OJ.pures tU_ok 2 rfl ?_
        obtain ⟨t2, ht2, H⟩ := pbind H
        obtain ⟨ad2, e2⟩ := (hS.rd' (i := 4) rfl).some' ht2
        refine OJ.st rfl rfl rfl (SR.idxS tU_ok tI_ok rfl rfl rfl rfl e2 rfl (getI_some ht2).1) ?_
        refine OJ.st rfl rfl rfl (SR.load rfl rfl (fun w' hx => ld1 tU_ok rfl rfl (CA.ext ((hS.rd' (i := 4) rfl).at_ e2 ht2) hx) rfl)) ?_
        obtain ⟨t3, ht3, H⟩ := pbind H
        refine OJ.callF rfl rfl rfl rfl rfl hb49 rfl (spec_l00In.c _ t2 0 13 _ ht3) ?_
        rintro _ w1 ⟨rfl, hs⟩
        replace hS := hS.grow hs
        refine OJ.pures tU_ok 1 rfl ?_
        refine OJ.nil (EJ.next ?_)
        refine CJ.cond rfl (fun hb => ?_) (fun hb => ?_)
        · replace H := pif_t hb H
          refine CJ.seq ?_
          refine CJ.region ?_
          refine OJ.pures tU_ok 1 rfl ?_
          refine OJ.nil (EJ.next ?_)
          refine CJ.ret (EJ.bkR (EJ.skR (EJ.skR (EJ.bkR (EJ.skR (EJ.skR (?_)))))))
          first | (obtain rfl := Option.some.inj H; have H := K24) | (obtain ⟨q24, H2, e24⟩ := pbind H; obtain rfl := Option.some.inj e24; obtain rfl := Option.some.inj K24; have H := H2)
          obtain rfl := Option.some.inj H
          exact EJ.fin rfl (.tmp rfl .nil) ⟨rfl, hS.ext⟩
        · replace H := pifb_f hb H
          refine CJ.skip (EJ.blk (EJ.next ?_))
          refine CJ.region ?_
          refine OJ.pures tU_ok 3 rfl ?_
          refine OJ.nil ?_
          exact EJ.round k (F' := [(0, .pointer (some pa0)), (1, .slice Aa1 a1.length ca1), (5, .int .i64 (IntKind.i64.wrap (y1 + 1)))]) ⟨rfl, rfl, rfl, trivial⟩ (Nat.lt_succ_self _) ⟨(IntKind.i64.wrap (y1 + 1)), rfl, hS.pick [] [0, 1, 2, 3, 4] rfl, H⟩
      · replace H := pif_f (of_decide_eq_false hb) H
        refine CJ.exit (EJ.skE (EJ.skE (EJ.hit (?_))))
        exact EJ.meet (F' := [(0, .pointer (some pa0)), (1, .slice Aa1 a1.length ca1)]) ⟨rfl, rfl, trivial⟩ ⟨H, rfl, hS.pick [] [0, 1, 2, 3, 4] rfl⟩
  · rintro F w1 ⟨he, rfl, hS⟩
    obtain rfl := Option.some.inj he
    have H := K24
    refine EJ.next ?_
    refine CJ.seq ?_
    refine CJ.region ?_
    refine OJ.pures tU_ok 4 rfl ?_
    refine OJ.st rfl rfl rfl (SR.fieldAddr tU_ok tI_ok rfl rfl rfl rfl rfl rfl) ?_
    refine OJ.st rfl rfl rfl (SR.load rfl rfl (fun w' hx => ld1 tU_ok rfl rfl (CA.ext (CA.sub (hS.ca (i := 3) rfl) 0) hx) rfl)) ?_
    refine OJ.pures tU_ok 3 rfl ?_
    refine OJ.nil (EJ.next ?_)
    refine CJ.ret (?_)
    obtain rfl := Option.some.inj H
    exact EJ.fin rfl (.tmp rfl .nil) ⟨rfl, hS.ext⟩

def spec_l06Told.f (k : Nat) (a0 : Herd) (a1 : List Int) : Option Int := (spec_l06Ok.f k a0).bind fun t1 => if (!t1) = true then (some 1) else ((spec_l06Numbers.f k a0 a1).bind fun t2 => if (!t2) = true then (some 4) else (some 0))
theorem spec_l06Told.c (k : Nat) (w : World) (Aa0_0 : Option Addr) (ca0_0 : Nat) (Aa0_1 : Option Addr) (ca0_1 : Nat) (Aa0_2 : Option Addr) (ca0_2 : Nat) (a0 : Herd) (hr0_0 : Rd G.cs w Aa0_0 a0.Names) (hc0_0 : a0.Names.length ≤ ca0_0) (hr0_1 : Rd (ci .i16) w Aa0_1 a0.Eats) (hc0_1 : a0.Eats.length ≤ ca0_1) (hr0_2 : Rd (ci .u16) w Aa0_2 a0.Foes) (hc0_2 : a0.Foes.length ≤ ca0_2) (pa0 : Addr) (hp0 : CA w pa0 ([.slice Aa0_0 a0.Names.length ca0_0, .slice Aa0_1 a0.Eats.length ca0_1, .slice Aa0_2 a0.Foes.length ca0_2])) (Aa1 : Option Addr) (ca1 : Nat) (a1 : List Int) (hr1 : Rd (ci .i64) w Aa1 a1) (hc1 : a1.length ≤ ca1) (r : Int) (H : spec_l06Told.f k a0 a1 = some r) :
    CV Tryd.prog 58 [.pointer (some pa0), .slice Aa1 a1.length ca1].toArray w fun v w' => v = .int .i64 r ∧ Ext w w' := by
  have hS := ((((((St.init w no).param G.cs Aa0_0 ca0_0 a0.Names hr0_0 hc0_0).param (ci .i16) Aa0_1 ca0_1 a0.Eats hr0_1 hc0_1).param (ci .u16) Aa0_2 ca0_2 a0.Foes hr0_2 hc0_2).paramP pa0 ([.slice Aa0_0 a0.Names.length ca0_0, .slice Aa0_1 a0.Eats.length ca0_1, .slice Aa0_2 a0.Foes.length ca0_2]) hp0).param (ci .i64) Aa1 ca1 a1 hr1 hc1)
  unfold spec_l06Told.f at H
  refine CV.body Tryd.func58 rfl Tryd.ntmps58 rfl ?_
  refine CJ.seq ?_
  refine CJ.region ?_
  refine OJ.pures tU_ok 1 rfl ?_
  refine OJ.nil (EJ.next ?_)
  refine CJ.seq ?_
  refine CJ.seq ?_
  refine CJ.region ?_
  refine OJ.pures tU_ok 1 rfl ?_
  obtain ⟨t1, ht1, H⟩ := pbind H
  refine OJ.callF rfl rfl rfl rfl rfl hb48 rfl (spec_l06Ok.c k _ Aa0_0 ca0_0 Aa0_1 ca0_1 Aa0_2 ca0_2 a0 (hS.rd' (i := 0) rfl) (hS.le' (i := 0) rfl) (hS.rd' (i := 1) rfl) (hS.le' (i := 1) rfl) (hS.rd' (i := 2) rfl) (hS.le' (i := 2) rfl) pa0 (hS.ca (i := 3) rfl) _ ht1) ?_
  rintro _ w1 ⟨rfl, hs⟩
  replace hS := hS.grow hs
  refine OJ.pures tU_ok 1 rfl ?_
  refine OJ.nil (EJ.next ?_)
  refine CJ.cond rfl (fun hb => ?_) (fun hb => ?_)
  · replace H := pif_t hb H
    refine CJ.seq ?_
    refine CJ.region ?_
    refine OJ.pures tU_ok 1 rfl ?_
    refine OJ.nil (EJ.next ?_)
    refine CJ.ret (EJ.skR (?_))
    obtain rfl := Option.some.inj H
    exact EJ.fin rfl (.tmp rfl .nil) ⟨rfl, hS.ext⟩
  · replace H := pifb_f hb H
    refine CJ.skip (EJ.next ?_)
    refine CJ.seq ?_
    refine CJ.seq ?_
    refine CJ.region ?_
    refine OJ.pures tU_ok 2 rfl ?_
    obtain ⟨t2, ht2, H⟩ := pbind H
    refine OJ.callF rfl rfl rfl rfl rfl hb83 rfl (spec_l06Numbers.c k _ Aa0_0 ca0_0 Aa0_1 ca0_1 Aa0_2 ca0_2 a0 (hS.rd' (i := 0) rfl) (hS.le' (i := 0) rfl) (hS.rd' (i := 1) rfl) (hS.le' (i := 1) rfl) (hS.rd' (i := 2) rfl) (hS.le' (i := 2) rfl) pa0 (hS.ca (i := 3) rfl) Aa1 ca1 a1 (hS.rd' (i := 4) rfl) (hS.le' (i := 4) rfl) _ ht2) ?_
    rintro _ w1 ⟨rfl, hs⟩
    replace hS := hS.grow hs
    refine OJ.pures tU_ok 1 rfl ?_
    refine OJ.nil (EJ.next ?_)
    refine CJ.cond rfl (fun hb => ?_) (fun hb => ?_)
    · replace H := pif_t hb H
      refine CJ.seq ?_
      refine CJ.region ?_
      refine OJ.pures tU_ok 1 rfl ?_
      refine OJ.nil (EJ.next ?_)
      refine CJ.ret (EJ.skR (?_))
      obtain rfl := Option.some.inj H
      exact EJ.fin rfl (.tmp rfl .nil) ⟨rfl, hS.ext⟩
    · replace H := pifb_f hb H
      refine CJ.skip (EJ.next ?_)
      refine CJ.seq ?_
      refine CJ.region ?_
      refine OJ.pures tU_ok 1 rfl ?_
      refine OJ.nil (EJ.next ?_)
      refine CJ.ret (?_)
      obtain rfl := Option.some.inj H
      exact EJ.fin rfl (.tmp rfl .nil) ⟨rfl, hS.ext⟩

def spec_l00Max.f (a0 : Int) (a1 : Int) : Option Int := if a1 < a0 then (some a0) else (some a1)
theorem spec_l00Max.c (w : World) (a0 : Int) (a1 : Int) (r : Int) (H : spec_l00Max.f a0 a1 = some r) :
    CV Tryd.prog 84 [.int .i64 a0, .int .i64 a1].toArray w fun v w' => v = .int .i64 r ∧ Ext w w' := by
  have hS := (St.init w no)
  unfold spec_l00Max.f at H
  refine CV.body Tryd.func84 rfl Tryd.ntmps84 rfl ?_
  refine CJ.seq ?_
  refine CJ.region ?_
  refine OJ.pures tU_ok 1 rfl ?_
  refine OJ.nil (EJ.next ?_)
  refine CJ.seq ?_
  refine CJ.seq ?_
  refine CJ.region ?_
  refine OJ.pures tU_ok 3 rfl ?_
  refine OJ.nil (EJ.next ?_)
  refine CJ.cond rfl (fun hb => ?_) (fun hb => ?_)
  · replace H := pif_t (of_decide_eq_true hb) H
    refine CJ.seq ?_
    refine CJ.region ?_
    refine OJ.pures tU_ok 2 rfl ?_
    refine OJ.nil (EJ.next ?_)
    refine CJ.ret (EJ.skR (?_))
    obtain rfl := Option.some.inj H
    exact EJ.fin rfl (.tmp rfl .nil) ⟨rfl, hS.ext⟩
  · replace H := pif_f (of_decide_eq_false hb) H
    refine CJ.skip (EJ.next ?_)
    refine CJ.seq ?_
    refine CJ.region ?_
    refine OJ.pures tU_ok 2 rfl ?_
    refine OJ.nil (EJ.next ?_)
    refine CJ.ret (?_)
    obtain rfl := Option.some.inj H
    exact EJ.fin rfl (.tmp rfl .nil) ⟨rfl, hS.ext⟩

def spec_l06Needs.l1 (a1 : List Int) : Nat → Int → Int → Option Int
  | 0, _, _ => none
  | k + 1, y2, y3 => if y3 < (a1.length : Int) then ((getI a1 y3).bind fun t4 => (spec_l00Max.f y2 t4).bind fun t5 => spec_l06Needs.l1 a1 k t5 (IntKind.i64.wrap (y3 + 1))) else (some y2)
def spec_l06Needs.l2 (a0 : Herd) (a1 : List Int) : Nat → (List Int) → Int → Option (List Int)
  | 0, _, _ => none
  | k + 1, y9, y10 => if y10 < (a1.length : Int) then ((getI a1 y10).bind fun t11 => (getI y9 t11).bind fun t12 => (getI a0.Eats y10).bind fun t13 => (getI y9 t11).bind fun t14 => spec_l06Needs.l2 a0 a1 k (y9.set t11.toNat (IntKind.i64.wrap (t12 + (IntKind.i64.wrap t13)))) (IntKind.i64.wrap (y10 + 1))) else (some y9)
def spec_l06Needs.f (k : Nat) (a0 : Herd) (a1 : List Int) : Option (List Int) := (spec_l06Needs.l1 a1 k (-1) 0).bind fun y1 => (chk (0 ≤ (IntKind.i64.wrap (y1 + 1)) ∧ (IntKind.i64.wrap (y1 + 1)) ≤ 4294967296)).bind fun u6 => (spec_l06Needs.l2 a0 a1 k (List.replicate ((IntKind.i64.wrap (y1 + 1)).toNat) 0 : List Int) 0).bind fun y8 => some y8
theorem spec_l06Needs.c (k : Nat) (w : World) (Aa0_0 : Option Addr) (ca0_0 : Nat) (Aa0_1 : Option Addr) (ca0_1 : Nat) (Aa0_2 : Option Addr) (ca0_2 : Nat) (a0 : Herd) (hr0_0 : Rd G.cs w Aa0_0 a0.Names) (hc0_0 : a0.Names.length ≤ ca0_0) (hr0_1 : Rd (ci .i16) w Aa0_1 a0.Eats) (hc0_1 : a0.Eats.length ≤ ca0_1) (hr0_2 : Rd (ci .u16) w Aa0_2 a0.Foes) (hc0_2 : a0.Foes.length ≤ ca0_2) (pa0 : Addr) (hp0 : CA w pa0 ([.slice Aa0_0 a0.Names.length ca0_0, .slice Aa0_1 a0.Eats.length ca0_1, .slice Aa0_2 a0.Foes.length ca0_2])) (Aa1 : Option Addr) (ca1 : Nat) (a1 : List Int) (hr1 : Rd (ci .i64) w Aa1 a1) (hc1 : a1.length ≤ ca1) (r : List Int) (H : spec_l06Needs.f k a0 a1 = some r) :
    CV Tryd.prog 59 [.pointer (some pa0), .slice Aa1 a1.length ca1].toArray w fun v w' => ∃ (A0 : Option Addr) (c0 : Nat), v = .slice A0 r.length c0 ∧ St w no w' [rowC (ci .i64) A0 c0 2 r] [] := by
  have hS := ((((((St.init w no).param G.cs Aa0_0 ca0_0 a0.Names hr0_0 hc0_0).param (ci .i16) Aa0_1 ca0_1 a0.Eats hr0_1 hc0_1).param (ci .u16) Aa0_2 ca0_2 a0.Foes hr0_2 hc0_2).paramP pa0 ([.slice Aa0_0 a0.Names.length ca0_0, .slice Aa0_1 a0.Eats.length ca0_1, .slice Aa0_2 a0.Foes.length ca0_2]) hp0).param (ci .i64) Aa1 ca1 a1 hr1 hc1)
  unfold spec_l06Needs.f at H
  refine CV.body Tryd.func59 rfl Tryd.ntmps59 rfl ?_
  refine CJ.seq ?_
  refine CJ.region ?_
  refine OJ.pures tU_ok 1 rfl ?_
  refine OJ.nil (EJ.next ?_)
  refine CJ.seq ?_
  refine CJ.region ?_
  refine OJ.pures tU_ok 1 rfl ?_
  refine OJ.nil (EJ.next ?_)
  refine CJ.seq ?_
  refine CJ.seq ?_
  refine CJ.region ?_
  refine OJ.pures tU_ok 1 rfl ?_
  refine OJ.nil (EJ.next ?_)
  obtain ⟨j33, H, K33⟩ := pbind H
  refine CJ.cut1 (fun F w1 => ∃ (y1 : Int) , (some y1 : Option Int) = some j33 ∧ F = [(0, .pointer (some pa0)), (1, .slice Aa1 a1.length ca1), (5, .int .i64 y1)] ∧ St w no w1 [] [roC G.cs Aa0_0 ca0_0 a0.Names, roC (ci .i16) Aa0_1 ca0_1 a0.Eats, roC (ci .u16) Aa0_2 ca0_2 a0.Foes, roP pa0 ([.slice Aa0_0 a0.Names.length ca0_0, .slice Aa0_1 a0.Eats.length ca0_1, .slice Aa0_2 a0.Foes.length ca0_2]), roC (ci .i64) Aa1 ca1 a1]) ?_ ?_
  · skip
    refine CJ.block ?_
    refine CJ.loop (fun k F w1 => ∃ (y2 : Int) (y3 : Int), F = [(0, .pointer (some pa0)), (1, .slice Aa1 a1.length ca1), (5, .int .i64 y2), (6, .int .i64 y3)] ∧ St w no w1 [] [roC G.cs Aa0_0 ca0_0 a0.Names, roC (ci .i16) Aa0_1 ca0_1 a0.Eats, roC (ci .u16) Aa0_2 ca0_2 a0.Foes, roP pa0 ([.slice Aa0_0 a0.Names.length ca0_0, .slice Aa0_1 a0.Eats.length ca0_1, .slice Aa0_2 a0.Foes.length ca0_2]), roC (ci .i64) Aa1 ca1 a1] ∧ spec_l06Needs.l1 a1 k y2 y3 = some j33) k (F' := [(0, .pointer (some pa0)), (1, .slice Aa1 a1.length ca1), (5, .int .i64 (-1)), (6, .int .i64 0)]) ⟨rfl, rfl, rfl, rfl, trivial⟩ ⟨(-1), 0, rfl, hS.pick [] [0, 1, 2, 3, 4] rfl, H⟩ ?_
    rintro k F w1 ⟨y2, y3, rfl, hS, H⟩
    cases k with
    | zero => rw [spec_l06Needs.l1] at H; cases H
    | succ k =>
      rw [spec_l06Needs.l1] at H
      refine CJ.seq ?_
      refine CJ.seq ?_
      refine CJ.region ?_
      refine OJ.pures tU_ok 4 rfl ?_
      refine OJ.nil (EJ.next ?_)
      refine CJ.cond rfl (fun hb => ?_) (fun hb => ?_)
      · replace H := pif_t (of_decide_eq_true hb) H
        refine CJ.skip (EJ.next ?_)
        refine CJ.seq ?_
        refine CJ.block ?_
        refine CJ.region ?_
        refine OJ.pures tU_ok 3 rfl ?_
        obtain ⟨t4, ht4, H⟩ := pbind H
        obtain ⟨ad4, e4⟩ := (hS.rd' (i := 4) rfl).some' ht4
        refine OJ.st rfl rfl rfl (SR.idxS tU_ok tI_ok rfl rfl rfl rfl e4 rfl (getI_some ht4).1) ?_
        refine OJ.st rfl rfl rfl (SR.load rfl rfl (fun w' hx => ld1 tU_ok rfl rfl (CA.ext ((hS.rd' (i := 4) rfl).at_ e4 ht4) hx) rfl)) ?_
        obtain ⟨t5, ht5, H⟩ := pbind H
        refine OJ.callF rfl rfl rfl rfl rfl hb84 rfl (spec_l00Max.c _ y2 t4 _ ht5) ?_
        rintro _ w1 ⟨rfl, hs⟩
        replace hS := hS.grow hs
        refine OJ.pures tU_ok 1 rfl ?_
        refine OJ.nil (EJ.blk (EJ.next ?_))
        refine CJ.region ?_
        refine OJ.pures tU_ok 3 rfl ?_
        refine OJ.nil ?_
        exact EJ.round k (F' := [(0, .pointer (some pa0)), (1, .slice Aa1 a1.length ca1), (5, .int .i64 t5), (6, .int .i64 (IntKind.i64.wrap (y3 + 1)))]) ⟨rfl, rfl, rfl, rfl, trivial⟩ (Nat.lt_succ_self _) ⟨t5, (IntKind.i64.wrap (y3 + 1)), rfl, hS.pick [] [0, 1, 2, 3, 4] rfl, H⟩
      · replace H := pif_f (of_decide_eq_false hb) H
        refine CJ.exit (EJ.skE (EJ.skE (EJ.hit (?_))))
        exact EJ.meet (F' := [(0, .pointer (some pa0)), (1, .slice Aa1 a1.length ca1), (5, .int .i64 y2)]) ⟨rfl, rfl, rfl, trivial⟩ ⟨y2, H, rfl, hS.pick [] [0, 1, 2, 3, 4] rfl⟩
  · rintro F w1 ⟨y1, he, rfl, hS⟩
    obtain rfl := Option.some.inj he
    have H := K33
    refine EJ.next ?_
    refine CJ.seq ?_
    refine CJ.region ?_
    refine OJ.pures tU_ok 2 rfl ?_
    obtain ⟨u6, hu6, H⟩ := pbind H
    refine OJ.ef rfl rfl rfl (Ef.make tU_ok tI_ok hS (C := (ci .i64)) rfl rfl rfl rfl rfl rfl rfl rfl (chk_some hu6) 0 rfl) ?_
    rintro _ w1 ⟨A7, rfl, hS⟩
    refine OJ.pures tU_ok 1 rfl ?_
    refine OJ.nil (EJ.next ?_)
    refine CJ.seq ?_
    refine CJ.seq ?_
    refine CJ.region ?_
    refine OJ.pures tU_ok 1 rfl ?_
    refine OJ.nil (EJ.next ?_)
    obtain ⟨j34, H, K34⟩ := pbind H
    refine CJ.cut1 (fun F w1 => ∃ (y8 : List Int) , (some y8 : Option (List Int)) = some j34 ∧ F = [(7, .slice A7 y8.length ((IntKind.i64.wrap (y1 + 1)).toNat))] ∧ St w no w1 [rowC (ci .i64) A7 ((IntKind.i64.wrap (y1 + 1)).toNat) 2 y8] [roC G.cs Aa0_0 ca0_0 a0.Names, roC (ci .i16) Aa0_1 ca0_1 a0.Eats, roC (ci .u16) Aa0_2 ca0_2 a0.Foes, roP pa0 ([.slice Aa0_0 a0.Names.length ca0_0, .slice Aa0_1 a0.Eats.length ca0_1, .slice Aa0_2 a0.Foes.length ca0_2]), roC (ci .i64) Aa1 ca1 a1]) ?_ ?_
    · skip
      refine CJ.block ?_
      refine CJ.loop (fun k F w1 => ∃ (y9 : List Int) (y10 : Int), F = [(0, .pointer (some pa0)), (1, .slice Aa1 a1.length ca1), (7, .slice A7 y9.length ((IntKind.i64.wrap (y1 + 1)).toNat)), (8, .int .i64 y10)] ∧ St w no w1 [rowC (ci .i64) A7 ((IntKind.i64.wrap (y1 + 1)).toNat) 2 y9] [roC G.cs Aa0_0 ca0_0 a0.Names, roC (ci .i16) Aa0_1 ca0_1 a0.Eats, roC (ci .u16) Aa0_2 ca0_2 a0.Foes, roP pa0 ([.slice Aa0_0 a0.Names.length ca0_0, .slice Aa0_1 a0.Eats.length ca0_1, .slice Aa0_2 a0.Foes.length ca0_2]), roC (ci .i64) Aa1 ca1 a1] ∧ spec_l06Needs.l2 a0 a1 k y9 y10 = some j34) k (F' := [(0, .pointer (some pa0)), (1, .slice Aa1 a1.length ca1), (7, .slice A7 (List.replicate ((IntKind.i64.wrap (y1 + 1)).toNat) 0 : List Int).length ((IntKind.i64.wrap (y1 + 1)).toNat)), (8, .int .i64 0)]) ⟨rfl, rfl, rfl, rfl, trivial⟩ ⟨(List.replicate ((IntKind.i64.wrap (y1 + 1)).toNat) 0 : List Int), 0, rfl, hS.pick [0] [0, 1, 2, 3, 4] rfl, H⟩ ?_
      rintro k F w1 ⟨y9, y10, rfl, hS, H⟩
      cases k with
      | zero => rw [spec_l06Needs.l2] at H; cases H
      | succ k =>
        rw [spec_l06Needs.l2] at H
        refine CJ.seq ?_
        refine CJ.seq ?_
        refine CJ.region ?_
        refine OJ.pures tU_ok 4 rfl ?_
        refine OJ.nil (EJ.next ?_)
        refine CJ.cond rfl (fun hb => ?_) (fun hb => ?_)
        · replace H := pif_t (of_decide_eq_true hb) H
          refine CJ.skip (EJ.next ?_)
          refine CJ.seq ?_
          refine CJ.block ?_
          refine CJ.draw [] [0, 1, 2, 3, 4, 5, 6, 7, 8, 9, 10, 11, 12, 13, 14, 15, 16, 17] mixed (by kernel_rfl) hS fun w1 hS => ?_
          refine DJ.pures tU_ok 3 rfl ?_
          obtain ⟨t11, ht11, H⟩ := pbind H
          obtain ⟨ad11, e11⟩ := (hS.rd' (i := 4) rfl).some' ht11
          refine DJ.st rfl rfl rfl rfl rfl (SR.idxS tU_ok tI_ok rfl rfl rfl rfl e11 rfl (getI_some ht11).1) ?_
          refine DJ.st rfl rfl rfl rfl rfl (SR.load rfl rfl (fun w' hx => ld1 tU_ok rfl rfl (CA.ext ((hS.rd' (i := 4) rfl).at_ e11 ht11) hx) rfl)) ?_
          obtain ⟨t12, ht12, H⟩ := pbind H
          obtain ⟨ad12, e12⟩ := (hS.rd (i := 0) rfl).some' ht12
          refine DJ.st rfl rfl rfl rfl rfl (SR.idxS tU_ok tI_ok rfl rfl rfl rfl e12 rfl (getI_some ht12).1) ?_
          refine DJ.st rfl rfl rfl rfl rfl (SR.load rfl rfl (fun w' hx => ld1 tU_ok rfl rfl (CA.ext ((hS.rd (i := 0) rfl).at_ e12 ht12) hx) rfl)) ?_
          refine DJ.pures tU_ok 2 rfl ?_
          refine DJ.st rfl rfl rfl rfl rfl (SR.fieldAddr tU_ok tI_ok rfl rfl rfl rfl rfl rfl) ?_
          refine DJ.st rfl rfl rfl rfl rfl (SR.load rfl rfl (fun w' hx => ld1 tU_ok rfl rfl (CA.ext (CA.sub (hS.ca (i := 3) rfl) 1) hx) rfl)) ?_
          refine DJ.pures tU_ok 1 rfl ?_
          obtain ⟨t13, ht13, H⟩ := pbind H
          obtain ⟨ad13, e13⟩ := (hS.rd' (i := 1) rfl).some' ht13
          refine DJ.st rfl rfl rfl rfl rfl (SR.idxS tU_ok tI_ok rfl rfl rfl rfl e13 rfl (getI_some ht13).1) ?_
          refine DJ.st rfl rfl rfl rfl rfl (SR.load rfl rfl (fun w' hx => ld1 tU_ok rfl rfl (CA.ext ((hS.rd' (i := 1) rfl).at_ e13 ht13) hx) rfl)) ?_
          refine DJ.pures tU_ok 2 rfl ?_
          obtain ⟨t14, ht14, H⟩ := pbind H
          obtain ⟨ad14, e14⟩ := (hS.rd (i := 0) rfl).some' ht14
          refine DJ.st rfl rfl rfl rfl rfl (SR.idxS tU_ok tI_ok rfl rfl rfl rfl e14 rfl (getI_some ht14).1) ?_
          refine DJ.es rfl rfl rfl rfl (Es.storeR tI_ok hS (i := 0) (off := 0) rfl rfl ht14 e14 rfl rfl rfl rfl (vs := (ci .i64).enc (IntKind.i64.wrap (t12 + (IntKind.i64.wrap t13)))) rfl rfl (one1 rfl) (Nat.le_of_ble_eq_true rfl) (IntKind.i64.wrap (t12 + (IntKind.i64.wrap t13))) rfl) ?_
          intro w1 hS
          refine DJ.as (t := 7) rfl (show _ = (.slice A7 (y9.set t11.toNat (IntKind.i64.wrap (t12 + (IntKind.i64.wrap t13)))).length ((IntKind.i64.wrap (y1 + 1)).toNat) : Value) by simp only [List.length_set]) ?_
          refine DJ.as (t := 30) rfl (show _ = (.slice A7 (y9.set t11.toNat (IntKind.i64.wrap (t12 + (IntKind.i64.wrap t13)))).length ((IntKind.i64.wrap (y1 + 1)).toNat) : Value) by simp only [List.length_set]) ?_
          refine DJ.nil (EJ.blk (EJ.next ?_))
          refine CJ.region ?_
          refine OJ.pures tU_ok 3 rfl ?_
          refine OJ.nil ?_
          exact EJ.round k (F' := [(0, .pointer (some pa0)), (1, .slice Aa1 a1.length ca1), (7, .slice A7 (y9.set t11.toNat (IntKind.i64.wrap (t12 + (IntKind.i64.wrap t13)))).length ((IntKind.i64.wrap (y1 + 1)).toNat)), (8, .int .i64 (IntKind.i64.wrap (y10 + 1)))]) ⟨rfl, rfl, rfl, rfl, trivial⟩ (Nat.lt_succ_self _) ⟨(y9.set t11.toNat (IntKind.i64.wrap (t12 + (IntKind.i64.wrap t13)))), (IntKind.i64.wrap (y10 + 1)), rfl, hS.pick [0] [0, 1, 2, 3, 4] rfl, H⟩
        · replace H := pif_f (of_decide_eq_false hb) H
          refine CJ.exit (EJ.skE (EJ.skE (EJ.hit (?_))))
          exact EJ.meet (F' := [(7, .slice A7 y9.length ((IntKind.i64.wrap (y1 + 1)).toNat))]) ⟨rfl, trivial⟩ ⟨y9, H, rfl, hS.pick [0] [0, 1, 2, 3, 4] rfl⟩
    · rintro F w1 ⟨y8, he, rfl, hS⟩
      obtain rfl := Option.some.inj he
      have H := K34
      refine EJ.next ?_
      refine CJ.seq ?_
      refine CJ.region ?_
      refine OJ.pures tU_ok 2 rfl ?_
      refine OJ.nil (EJ.next ?_)
      refine CJ.ret (?_)
      obtain rfl := Option.some.inj H
      exact EJ.fin rfl (.tmp rfl .nil) ⟨A7, ((IntKind.i64.wrap (y1 + 1)).toNat), rfl, hS.pick [0] [] rfl⟩

def spec_l06Enough.l2 (a1 : List Int) (y9 : Int) : Nat → Int → Int → Option Int
  | 0, _, _ => none
  | k + 1, y19, y20 => if y20 < (a1.length : Int) then ((chk (0 ≤ (IntKind.u64.wrap y20))).bind fun u21 => if (Int.tmod (shrI .u16 y9 (IntKind.u64.wrap y20)) 2) = 0 then (if y19 < 0 then (spec_l06Enough.l2 a1 y9 k y20 (IntKind.i64.wrap (y20 + 1))) else ((getI a1 y20).bind fun t22 => (getI a1 y19).bind fun t23 => if t22 < t23 then (spec_l06Enough.l2 a1 y9 k y20 (IntKind.i64.wrap (y20 + 1))) else (spec_l06Enough.l2 a1 y9 k y19 (IntKind.i64.wrap (y20 + 1))))) else (spec_l06Enough.l2 a1 y9 k y19 (IntKind.i64.wrap (y20 + 1)))) else (some y19)
def spec_l06Enough.l3 (y10 : List Int) : Nat → Int → Int → Option Int
  | 0, _, _ => none
  | k + 1, y26, y27 => if y27 < (y10.length : Int) then ((getI y10 y27).bind fun t28 => (getI y10 y26).bind fun t29 => if t28 < t29 then (spec_l06Enough.l3 y10 k y27 (IntKind.i64.wrap (y27 + 1))) else (spec_l06Enough.l3 y10 k y26 (IntKind.i64.wrap (y27 + 1)))) else (some y26)
def spec_l06Enough.l1 (a1 : List Int) : Nat → Int → (List Int) → Int → Option (List Int)
  | 0, _, _, _ => none
  | k + 1, y9, y10, y13 => if y13 < (a1.length : Int) then (((spec_l06Enough.l2 a1 y9 k (-1) 0).bind fun y18 => (if y18 < 0 then (some true) else (some (decide ((y10.length : Int) = 0)))).bind fun y24 => if y24 = true then (some (Sum.inl y10)) else ((spec_l06Enough.l3 y10 k 0 1).bind fun y25 => (getI y10 y25).bind fun t30 => (getI a1 y18).bind fun t31 => if t30 ≤ t31 then ((chk ((0 : Int) ≤ 0 ∧ 0 ≤ y25 ∧ y25 ≤ (y10.length : Int))).bind fun u32 => (chk ((0 : Int) ≤ (IntKind.i64.wrap (y25 + 1)) ∧ (IntKind.i64.wrap (y25 + 1)) ≤ (y10.length : Int) ∧ (y10.length : Int) ≤ (y10.length : Int))).bind fun u33 => (chk (([] : List Int).length + ((y10.drop 0).take (y25.toNat - 0)).length ≤ 4294967296)).bind fun u35 => (chk ((([] : List Int) ++ ((y10.drop 0).take (y25.toNat - 0))).length + ((y10.drop ((IntKind.i64.wrap (y25 + 1)).toNat)).take (y10.length - ((IntKind.i64.wrap (y25 + 1)).toNat))).length ≤ 4294967296)).bind fun u38 => (chk (0 ≤ (IntKind.u64.wrap y18))).bind fun u46 => some (Sum.inr ((([] : List Int) ++ ((y10.drop 0).take (y25.toNat - 0))) ++ ((y10.drop ((IntKind.i64.wrap (y25 + 1)).toNat)).take (y10.length - ((IntKind.i64.wrap (y25 + 1)).toNat))), orI .u16 y9 (shlI .u16 1 (IntKind.u64.wrap y18))))) else ((chk (0 ≤ (IntKind.u64.wrap y18))).bind fun u47 => some (Sum.inr (y10, orI .u16 y9 (shlI .u16 1 (IntKind.u64.wrap y18))))))).bind fun s54 => match s54 with | .inl r => some r | .inr (y14, y17) => spec_l06Enough.l1 a1 k y17 y14 (IntKind.i64.wrap (y13 + 1))) else (some y10)
def spec_l06Enough.f (k : Nat) (a0 : List Int) (a1 : List Int) (a2 : Int) (a3 : Int) : Option Bool := (chk ((0 : Int) ≤ a2 ∧ a2 ≤ (a0.length : Int) ∧ (a0.length : Int) ≤ (a0.length : Int))).bind fun u2 => (chk (([] : List Int).length + ((a0.drop a2.toNat).take (a0.length - a2.toNat)).length ≤ 4294967296)).bind fun u3 => (spec_l06Enough.l1 a1 k a3 (([] : List Int) ++ ((a0.drop a2.toNat).take (a0.length - a2.toNat))) 0).bind fun y6 => some (decide ((y6.length : Int) = 0))
theorem spec_l06Enough.c (k : Nat) (w : World) (Aa0 : Option Addr) (ca0 : Nat) (a0 : List Int) (hr0 : Rd (ci .i64) w Aa0 a0) (hc0 : a0.length ≤ ca0) (Aa1 : Option Addr) (ca1 : Nat) (a1 : List Int) (hr1 : Rd (ci .i64) w Aa1 a1) (hc1 : a1.length ≤ ca1) (a2 : Int) (a3 : Int) (r : Bool) (H : spec_l06Enough.f k a0 a1 a2 a3 = some r) :
    CV Tryd.prog 60 [.slice Aa0 a0.length ca0, .slice Aa1 a1.length ca1, .int .i64 a2, .int .u16 a3].toArray w fun v w' => v = .bool r ∧ Ext w w' := by
  have hS := (((St.init w no).param (ci .i64) Aa0 ca0 a0 hr0 hc0).param (ci .i64) Aa1 ca1 a1 hr1 hc1)
  unfold spec_l06Enough.f at H
  refine CV.body Tryd.func60 rfl Tryd.ntmps60 rfl ?_
  refine CJ.seq ?_
  refine CJ.region ?_
  refine OJ.pures tU_ok 1 rfl ?_
  refine OJ.nil (EJ.next ?_)
  refine CJ.seq ?_
  refine CJ.region ?_
  refine OJ.ef rfl rfl rfl (Ef.lit tU_ok tI_ok hS (C := (ci .i64)) rfl rfl rfl rfl rfl rfl ([] : List Int) rfl rfl rfl rfl) ?_
  rintro _ w1 ⟨A1, rfl, hS⟩
  refine OJ.pures tU_ok 2 rfl ?_
  obtain ⟨u2, hu2, H⟩ := pbind H
  refine OJ.st rfl rfl rfl (SR.cutS tU_ok tI_ok (a2.toNat) (a0.length) rfl rfl rfl rfl rfl rfl (.inr ⟨_, _, rfl, (chk_some hu2).1, rfl⟩) (.inl ⟨rfl, rfl⟩) (by have := (chk_some hu2); omega) (by have := (chk_some hu2); have := (hS.le' (i := 0) rfl : a0.length ≤ ca0); omega)) ?_
  replace hS := hS.cutR (i := 0) (lo := a2.toNat) (hi := a0.length) rfl (by have := (chk_some hu2); omega) (by have := (chk_some hu2); omega)
  refine OJ.as (t := 18) rfl (show _ = (.slice (cutA Aa0 ca0 a2.toNat (ci .i64).sz) ((a0.drop a2.toNat).take (a0.length - a2.toNat)).length (ca0 - a2.toNat) : Value) by rw [cutLen (by have := (chk_some hu2); omega) (by have := (chk_some hu2); omega)]; rfl) ?_
  obtain ⟨u3, hu3, H⟩ := pbind H
  refine OJ.ew rfl rfl rfl (Ew.append tU_ok tI_ok (C := (ci .i64)) (xs := ([] : List Int)) (ys := ((a0.drop a2.toNat).take (a0.length - a2.toNat))) hS (i := 0) rfl rfl rfl rfl rfl rfl rfl rfl rfl rfl rfl rfl rfl (hS.rd' (i := 2) rfl) (chk_some hu3)) ?_
  rintro _ w1 ⟨A4, c5, rfl, hS⟩
  refine OJ.pures tU_ok 1 rfl ?_
  refine OJ.nil (EJ.next ?_)
  refine CJ.seq ?_
  refine CJ.seq ?_
  refine CJ.region ?_
  refine OJ.pures tU_ok 1 rfl ?_
  refine OJ.nil (EJ.next ?_)
  replace hS := hS.freezeG (i := 0) rfl
  obtain ⟨j35, H, K35⟩ := pbind H
  refine CJ.cut1 (fun F w1 => ∃ (y6 : List Int) (A7 : Option Addr) (c8 : Nat), (some y6 : Option (List Int)) = some j35 ∧ F = [(9, .slice A7 y6.length c8)] ∧ St w no w1 [] [roC (ci .i64) Aa0 ca0 a0, roC (ci .i64) Aa1 ca1 a1, roC (ci .i64) (cutA Aa0 ca0 a2.toNat (ci .i64).sz) (ca0 - a2.toNat) ((a0.drop a2.toNat).take (a0.length - a2.toNat)), roC (ci .i64) A4 c5 (([] : List Int) ++ ((a0.drop a2.toNat).take (a0.length - a2.toNat))), roC (ci .i64) A7 c8 y6]) ?_ ?_
  · skip
    refine CJ.block ?_
    refine CJ.loop (fun k F w1 => ∃ (y9 : Int) (y10 : List Int) (y13 : Int) (A11 : Option Addr) (c12 : Nat), F = [(1, .slice Aa1 a1.length ca1), (3, .int .u16 y9), (9, .slice A11 y10.length c12), (10, .int .i64 y13)] ∧ St w no w1 [] [roC (ci .i64) Aa0 ca0 a0, roC (ci .i64) Aa1 ca1 a1, roC (ci .i64) (cutA Aa0 ca0 a2.toNat (ci .i64).sz) (ca0 - a2.toNat) ((a0.drop a2.toNat).take (a0.length - a2.toNat)), roC (ci .i64) A4 c5 (([] : List Int) ++ ((a0.drop a2.toNat).take (a0.length - a2.toNat))), roC (ci .i64) A11 c12 y10] ∧ spec_l06Enough.l1 a1 k y9 y10 y13 = some j35) k (F' := [(1, .slice Aa1 a1.length ca1), (3, .int .u16 a3), (9, .slice A4 (([] : List Int) ++ ((a0.drop a2.toNat).take (a0.length - a2.toNat))).length c5), (10, .int .i64 0)]) ⟨rfl, rfl, rfl, rfl, trivial⟩ ⟨a3, (([] : List Int) ++ ((a0.drop a2.toNat).take (a0.length - a2.toNat))), 0, A4, c5, rfl, hS.pick [] [0, 1, 2, 3, 3] rfl, H⟩ ?_
    rintro k F w1 ⟨y9, y10, y13, A11, c12, rfl, hS, H⟩
    cases k with
    | zero => rw [spec_l06Enough.l1] at H; cases H
    | succ k =>
      rw [spec_l06Enough.l1] at H
      refine CJ.seq ?_
      refine CJ.seq ?_
      refine CJ.region ?_
      refine OJ.pures tU_ok 4 rfl ?_
      refine OJ.nil (EJ.next ?_)
      refine CJ.cond rfl (fun hb => ?_) (fun hb => ?_)
      · replace H := pif_t (of_decide_eq_true hb) H
        refine CJ.skip (EJ.next ?_)
        obtain ⟨j54, H, K54⟩ := pbind H
        refine CJ.cut (fun F w1 => ∃ (y14 : List Int) (y17 : Int) (A15 : Option Addr) (c16 : Nat), (some (Sum.inr (y14, y17)) : Option ((List Int) ⊕ ((List Int) × Int))) = some j54 ∧ F = [(1, .slice Aa1 a1.length ca1), (3, .int .u16 y17), (9, .slice A15 y14.length c16), (10, .int .i64 y13)] ∧ St w no w1 [] [roC (ci .i64) Aa0 ca0 a0, roC (ci .i64) Aa1 ca1 a1, roC (ci .i64) (cutA Aa0 ca0 a2.toNat (ci .i64).sz) (ca0 - a2.toNat) ((a0.drop a2.toNat).take (a0.length - a2.toNat)), roC (ci .i64) A4 c5 (([] : List Int) ++ ((a0.drop a2.toNat).take (a0.length - a2.toNat))), roC (ci .i64) A11 c12 y10, roC (ci .i64) A15 c16 y14]) ?_ ?_
        · skip
          refine CJ.block ?_
          refine CJ.seq ?_
          refine CJ.region ?_
          refine OJ.pures tU_ok 1 rfl ?_
          refine OJ.nil (EJ.next ?_)
          refine CJ.seq ?_
          refine CJ.seq ?_
          refine CJ.region ?_
          refine OJ.pures tU_ok 1 rfl ?_
          refine OJ.nil (EJ.next ?_)
          obtain ⟨j58, H, K58⟩ := pbind H
          refine CJ.cut1 (fun F w1 => ∃ (y18 : Int) , (some y18 : Option Int) = some j58 ∧ F = [(1, .slice Aa1 a1.length ca1), (3, .int .u16 y9), (9, .slice A11 y10.length c12), (10, .int .i64 y13), (11, .int .i64 y18)] ∧ St w no w1 [] [roC (ci .i64) Aa0 ca0 a0, roC (ci .i64) Aa1 ca1 a1, roC (ci .i64) (cutA Aa0 ca0 a2.toNat (ci .i64).sz) (ca0 - a2.toNat) ((a0.drop a2.toNat).take (a0.length - a2.toNat)), roC (ci .i64) A4 c5 (([] : List Int) ++ ((a0.drop a2.toNat).take (a0.length - a2.toNat))), roC (ci .i64) A11 c12 y10]) ?_ ?_
          · skip
            refine CJ.block ?_
            refine CJ.loop (fun k F w1 => ∃ (y19 : Int) (y20 : Int), F = [(1, .slice Aa1 a1.length ca1), (3, .int .u16 y9), (9, .slice A11 y10.length c12), (10, .int .i64 y13), (11, .int .i64 y19), (12, .int .i64 y20)] ∧ St w no w1 [] [roC (ci .i64) Aa0 ca0 a0, roC (ci .i64) Aa1 ca1 a1, roC (ci .i64) (cutA Aa0 ca0 a2.toNat (ci .i64).sz) (ca0 - a2.toNat) ((a0.drop a2.toNat).take (a0.length - a2.toNat)), roC (ci .i64) A4 c5 (([] : List Int) ++ ((a0.drop a2.toNat).take (a0.length - a2.toNat))), roC (ci .i64) A11 c12 y10] ∧ spec_l06Enough.l2 a1 y9 k y19 y20 = some j58) k (F' := [(1, .slice Aa1 a1.length ca1), (3, .int .u16 y9), (9, .slice A11 y10.length c12), (10, .int .i64 y13), (11, .int .i64 (-1)), (12, .int .i64 0)]) ⟨rfl, rfl, rfl, rfl, rfl, rfl, trivial⟩ ⟨(-1), 0, rfl, hS.pick [] [0, 1, 2, 3, 4] rfl, H⟩ ?_
            rintro k F w1 ⟨y19, y20, rfl, hS, H⟩
            cases k with
            | zero => rw [spec_l06Enough.l2] at H; cases H
            | succ k =>
              rw [spec_l06Enough.l2] at H
              refine CJ.seq ?_
              refine CJ.seq ?_
              refine CJ.region ?_
              refine OJ.pures tU_ok 4 rfl ?_
              refine OJ.nil (EJ.next ?_)
              refine CJ.cond rfl (fun hb => ?_) (fun hb => ?_)
              · replace H := pif_t (of_decide_eq_true hb) H
                refine CJ.skip (EJ.next ?_)
                refine CJ.seq ?_
                refine CJ.block ?_
                refine CJ.seq ?_
                refine CJ.draw [] [0, 1, 2, 3, 4, 5, 6, 7, 8, 9, 10, 11, 12, 13, 14, 15, 16, 17, 18, 19, 20] mixed (by kernel_rfl) hS fun w1 hS => ?_
                refine DJ.pures tU_ok 3 rfl ?_
                obtain ⟨u21, hu21, H⟩ := pbind H
                refine DJ.st rfl rfl rfl rfl rfl (SR.shr rfl rfl rfl (chk_some hu21)) ?_
                refine DJ.st rfl rfl rfl rfl rfl (SR.rem rfl rfl rfl (by decide)) ?_
                refine DJ.pures tU_ok 2 rfl ?_
                refine DJ.split (t := 38) rfl (fun hb => ?_) (fun hb => ?_)
                · replace H := pif_t (of_decide_eq_true hb) H
                  refine DJ.pures tU_ok 3 rfl ?_
                  refine DJ.split (t := 41) rfl (fun hb => ?_) (fun hb => ?_)
                  · replace H := pif_t (of_decide_eq_true hb) H
                    refine DJ.pures tU_ok 11 rfl ?_
                    refine DJ.nil (EJ.next ?_)
                    refine CJ.condT rfl ?_
                    refine CJ.region ?_
                    refine OJ.pures tU_ok 2 rfl ?_
                    refine OJ.nil (EJ.blk (EJ.next ?_))
                    refine CJ.region ?_
                    refine OJ.pures tU_ok 3 rfl ?_
                    refine OJ.nil ?_
                    exact EJ.round k (F' := [(1, .slice Aa1 a1.length ca1), (3, .int .u16 y9), (9, .slice A11 y10.length c12), (10, .int .i64 y13), (11, .int .i64 y20), (12, .int .i64 (IntKind.i64.wrap (y20 + 1)))]) ⟨rfl, rfl, rfl, rfl, rfl, rfl, trivial⟩ (Nat.lt_succ_self _) ⟨y20, (IntKind.i64.wrap (y20 + 1)), rfl, hS.pick [] [0, 1, 2, 3, 4] rfl, H⟩
                  · replace H := pif_f (of_decide_eq_false hb) H
                    refine DJ.pures tU_ok 2 rfl ?_
                    obtain ⟨t22, ht22, H⟩ := pbind H
                    obtain ⟨ad22, e22⟩ := (hS.rd' (i := 1) rfl).some' ht22
                    refine DJ.st rfl rfl rfl rfl rfl (SR.idxS tU_ok tI_ok rfl rfl rfl rfl e22 rfl (getI_some ht22).1) ?_
                    refine DJ.st rfl rfl rfl rfl rfl (SR.load rfl rfl (fun w' hx => ld1 tU_ok rfl rfl (CA.ext ((hS.rd' (i := 1) rfl).at_ e22 ht22) hx) rfl)) ?_
                    refine DJ.pures tU_ok 2 rfl ?_
                    obtain ⟨t23, ht23, H⟩ := pbind H
                    obtain ⟨ad23, e23⟩ := (hS.rd' (i := 1) rfl).some' ht23
                    refine DJ.st rfl rfl rfl rfl rfl (SR.idxS tU_ok tI_ok rfl rfl rfl rfl e23 rfl (getI_some ht23).1) ?_
                    refine DJ.st rfl rfl rfl rfl rfl (SR.load rfl rfl (fun w' hx => ld1 tU_ok rfl rfl (CA.ext ((hS.rd' (i := 1) rfl).at_ e23 ht23) hx) rfl)) ?_
                    refine DJ.pures tU_ok 3 rfl ?_
                    refine DJ.nil (EJ.next ?_)
                    refine CJ.cond rfl (fun hb => ?_) (fun hb => ?_)
                    · replace H := pif_t (of_decide_eq_true hb) H
                      refine CJ.region ?_
                      refine OJ.pures tU_ok 2 rfl ?_
                      refine OJ.nil (EJ.blk (EJ.next ?_))
                      refine CJ.region ?_
                      refine OJ.pures tU_ok 3 rfl ?_
                      refine OJ.nil ?_
                      exact EJ.round k (F' := [(1, .slice Aa1 a1.length ca1), (3, .int .u16 y9), (9, .slice A11 y10.length c12), (10, .int .i64 y13), (11, .int .i64 y20), (12, .int .i64 (IntKind.i64.wrap (y20 + 1)))]) ⟨rfl, rfl, rfl, rfl, rfl, rfl, trivial⟩ (Nat.lt_succ_self _) ⟨y20, (IntKind.i64.wrap (y20 + 1)), rfl, hS.pick [] [0, 1, 2, 3, 4] rfl, H⟩
                    · replace H := pif_f (of_decide_eq_false hb) H
                      refine CJ.skip (EJ.blk (EJ.next ?_))
                      refine CJ.region ?_
                      refine OJ.pures tU_ok 3 rfl ?_
                      refine OJ.nil ?_
                      exact EJ.round k (F' := [(1, .slice Aa1 a1.length ca1), (3, .int .u16 y9), (9, .slice A11 y10.length c12), (10, .int .i64 y13), (11, .int .i64 y19), (12, .int .i64 (IntKind.i64.wrap (y20 + 1)))]) ⟨rfl, rfl, rfl, rfl, rfl, rfl, trivial⟩ (Nat.lt_succ_self _) ⟨y19, (IntKind.i64.wrap (y20 + 1)), rfl, hS.pick [] [0, 1, 2, 3, 4] rfl, H⟩
                · replace H := pif_f (of_decide_eq_false hb) H
                  refine DJ.pures tU_ok 14 rfl ?_
                  refine DJ.nil (EJ.next ?_)
                  refine CJ.condF rfl ?_
                  refine CJ.skip (EJ.blk (EJ.next ?_))
                  refine CJ.region ?_
                  refine OJ.pures tU_ok 3 rfl ?_
                  refine OJ.nil ?_
                  exact EJ.round k (F' := [(1, .slice Aa1 a1.length ca1), (3, .int .u16 y9), (9, .slice A11 y10.length c12), (10, .int .i64 y13), (11, .int .i64 y19), (12, .int .i64 (IntKind.i64.wrap (y20 + 1)))]) ⟨rfl, rfl, rfl, rfl, rfl, rfl, trivial⟩ (Nat.lt_succ_self _) ⟨y19, (IntKind.i64.wrap (y20 + 1)), rfl, hS.pick [] [0, 1, 2, 3, 4] rfl, H⟩
              · replace H := pif_f (of_decide_eq_false hb) H
                refine CJ.exit (EJ.skE (EJ.skE (EJ.hit (?_))))
                exact EJ.meet (F' := [(1, .slice Aa1 a1.length ca1), (3, .int .u16 y9), (9, .slice A11 y10.length c12), (10, .int .i64 y13), (11, .int .i64 y19)]) ⟨rfl, rfl, rfl, rfl, rfl, trivial⟩ ⟨y19, H, rfl, hS.pick [] [0, 1, 2, 3, 4] rfl⟩
          · rintro F w1 ⟨y18, he, rfl, hS⟩
            obtain rfl := Option.some.inj he
            have H := K58
            refine EJ.next ?_
            refine CJ.seq ?_
            obtain ⟨j59, H, K59⟩ := pbind H
            refine CJ.cut (fun F w1 => ∃ (y24 : Bool) , (some y24 : Option Bool) = some j59 ∧ F = [(1, .slice Aa1 a1.length ca1), (3, .int .u16 y9), (9, .slice A11 y10.length c12), (10, .int .i64 y13), (11, .int .i64 y18), (60, .bool y24)] ∧ St w no w1 [] [roC (ci .i64) Aa0 ca0 a0, roC (ci .i64) Aa1 ca1 a1, roC (ci .i64) (cutA Aa0 ca0 a2.toNat (ci .i64).sz) (ca0 - a2.toNat) ((a0.drop a2.toNat).take (a0.length - a2.toNat)), roC (ci .i64) A4 c5 (([] : List Int) ++ ((a0.drop a2.toNat).take (a0.length - a2.toNat))), roC (ci .i64) A11 c12 y10]) ?_ ?_
            · skip
              refine CJ.region ?_
              refine OJ.pures tU_ok 3 rfl ?_
              refine OJ.split (t := 56) rfl (fun hb => ?_) (fun hb => ?_)
              · replace H := pif_t (of_decide_eq_true hb) H
                refine OJ.pures tU_ok 4 rfl ?_
                refine OJ.nil ?_
                exact EJ.meet (F' := [(1, .slice Aa1 a1.length ca1), (3, .int .u16 y9), (9, .slice A11 y10.length c12), (10, .int .i64 y13), (11, .int .i64 y18), (60, .bool true)]) ⟨rfl, rfl, rfl, rfl, rfl, rfl, trivial⟩ ⟨true, H, rfl, hS.pick [] [0, 1, 2, 3, 4] rfl⟩
              · replace H := pif_f (of_decide_eq_false hb) H
                refine OJ.pures tU_ok 4 rfl ?_
                refine OJ.nil ?_
                exact EJ.meet (F' := [(1, .slice Aa1 a1.length ca1), (3, .int .u16 y9), (9, .slice A11 y10.length c12), (10, .int .i64 y13), (11, .int .i64 y18), (60, .bool (decide ((y10.length : Int) = 0)))]) ⟨rfl, rfl, rfl, rfl, rfl, rfl, trivial⟩ ⟨(decide ((y10.length : Int) = 0)), H, rfl, hS.pick [] [0, 1, 2, 3, 4] rfl⟩
            · rintro F w1 ⟨y24, he, rfl, hS⟩
              obtain rfl := Option.some.inj he
              have H := K59
              refine CJ.cond rfl (fun hb => ?_) (fun hb => ?_)
              · replace H := pif_t hb H
                refine CJ.exit (EJ.skE (EJ.bkE rfl (EJ.skE (EJ.skE (EJ.hit (?_))))))
                first | (obtain rfl := Option.some.inj H; have H := K54) | (obtain ⟨q54, H2, e54⟩ := pbind H; obtain rfl := Option.some.inj e54; obtain rfl := Option.some.inj K54; have H := H2)
                exact EJ.meet (F' := [(9, .slice A11 y10.length c12)]) ⟨rfl, trivial⟩ ⟨y10, A11, c12, H, rfl, hS.pick [] [0, 1, 2, 3, 4] rfl⟩
              · replace H := pifb_f hb H
                refine CJ.skip (EJ.next ?_)
                refine CJ.seq ?_
                refine CJ.region ?_
                refine OJ.pures tU_ok 1 rfl ?_
                refine OJ.nil (EJ.next ?_)
                refine CJ.seq ?_
                refine CJ.seq ?_
                refine CJ.region ?_
                refine OJ.pures tU_ok 1 rfl ?_
                refine OJ.nil (EJ.next ?_)
                obtain ⟨j60, H, K60⟩ := pbind H
                refine CJ.cut1 (fun F w1 => ∃ (y25 : Int) , (some y25 : Option Int) = some j60 ∧ F = [(1, .slice Aa1 a1.length ca1), (3, .int .u16 y9), (9, .slice A11 y10.length c12), (10, .int .i64 y13), (11, .int .i64 y18), (13, .int .i64 y25)] ∧ St w no w1 [] [roC (ci .i64) Aa0 ca0 a0, roC (ci .i64) Aa1 ca1 a1, roC (ci .i64) (cutA Aa0 ca0 a2.toNat (ci .i64).sz) (ca0 - a2.toNat) ((a0.drop a2.toNat).take (a0.length - a2.toNat)), roC (ci .i64) A4 c5 (([] : List Int) ++ ((a0.drop a2.toNat).take (a0.length - a2.toNat))), roC (ci .i64) A11 c12 y10]) ?_ ?_
                · skip
                  refine CJ.block ?_
                  refine CJ.loop (fun k F w1 => ∃ (y26 : Int) (y27 : Int), F = [(1, .slice Aa1 a1.length ca1), (3, .int .u16 y9), (9, .slice A11 y10.length c12), (10, .int .i64 y13), (11, .int .i64 y18), (13, .int .i64 y26), (14, .int .i64 y27)] ∧ St w no w1 [] [roC (ci .i64) Aa0 ca0 a0, roC (ci .i64) Aa1 ca1 a1, roC (ci .i64) (cutA Aa0 ca0 a2.toNat (ci .i64).sz) (ca0 - a2.toNat) ((a0.drop a2.toNat).take (a0.length - a2.toNat)), roC (ci .i64) A4 c5 (([] : List Int) ++ ((a0.drop a2.toNat).take (a0.length - a2.toNat))), roC (ci .i64) A11 c12 y10] ∧ spec_l06Enough.l3 y10 k y26 y27 = some j60) k (F' := [(1, .slice Aa1 a1.length ca1), (3, .int .u16 y9), (9, .slice A11 y10.length c12), (10, .int .i64 y13), (11, .int .i64 y18), (13, .int .i64 0), (14, .int .i64 1)]) ⟨rfl, rfl, rfl, rfl, rfl, rfl, rfl, trivial⟩ ⟨0, 1, rfl, hS.pick [] [0, 1, 2, 3, 4] rfl, H⟩ ?_
                  rintro k F w1 ⟨y26, y27, rfl, hS, H⟩
                  cases k with
                  | zero => rw [spec_l06Enough.l3] at H; cases H
                  | succ k =>
                    rw [spec_l06Enough.l3] at H
                    refine CJ.seq ?_
                    refine CJ.seq ?_
                    refine CJ.region ?_
                    refine OJ.pures tU_ok 4 rfl ?_
                    refine OJ.nil (EJ.next ?_)
                    refine CJ.cond rfl (fun hb => ?_) (fun hb => ?_)
                    · replace H := pif_t (of_decide_eq_true hb) H
                      refine CJ.skip (EJ.next ?_)
                      refine CJ.seq ?_
                      refine CJ.block ?_
                      refine CJ.seq ?_
                      refine CJ.draw [] [0, 1, 2, 3, 4, 5, 6, 7, 8] mixed (by kernel_rfl) hS fun w1 hS => ?_
                      refine DJ.pures tU_ok 2 rfl ?_
                      obtain ⟨t28, ht28, H⟩ := pbind H
                      obtain ⟨ad28, e28⟩ := (hS.rd' (i := 4) rfl).some' ht28
                      refine DJ.st rfl rfl rfl rfl rfl (SR.idxS tU_ok tI_ok rfl rfl rfl rfl e28 rfl (getI_some ht28).1) ?_
                      refine DJ.st rfl rfl rfl rfl rfl (SR.load rfl rfl (fun w' hx => ld1 tU_ok rfl rfl (CA.ext ((hS.rd' (i := 4) rfl).at_ e28 ht28) hx) rfl)) ?_
                      refine DJ.pures tU_ok 2 rfl ?_
                      obtain ⟨t29, ht29, H⟩ := pbind H
                      obtain ⟨ad29, e29⟩ := (hS.rd' (i := 4) rfl).some' ht29
                      refine DJ.st rfl rfl rfl rfl rfl (SR.idxS tU_ok tI_ok rfl rfl rfl rfl e29 rfl (getI_some ht29).1) ?_
                      refine DJ.st rfl rfl rfl rfl rfl (SR.load rfl rfl (fun w' hx => ld1 tU_ok rfl rfl (CA.ext ((hS.rd' (i := 4) rfl).at_ e29 ht29) hx) rfl)) ?_
                      refine DJ.pures tU_ok 1 rfl ?_
                      refine DJ.nil (EJ.next ?_)
                      refine CJ.cond rfl (fun hb => ?_) (fun hb => ?_)
                      · replace H := pif_t (of_decide_eq_true hb) H
                        refine CJ.region ?_
                        refine OJ.pures tU_ok 2 rfl ?_
                        refine OJ.nil (EJ.blk (EJ.next ?_))
                        refine CJ.region ?_
                        refine OJ.pures tU_ok 3 rfl ?_
                        refine OJ.nil ?_
                        exact EJ.round k (F' := [(1, .slice Aa1 a1.length ca1), (3, .int .u16 y9), (9, .slice A11 y10.length c12), (10, .int .i64 y13), (11, .int .i64 y18), (13, .int .i64 y27), (14, .int .i64 (IntKind.i64.wrap (y27 + 1)))]) ⟨rfl, rfl, rfl, rfl, rfl, rfl, rfl, trivial⟩ (Nat.lt_succ_self _) ⟨y27, (IntKind.i64.wrap (y27 + 1)), rfl, hS.pick [] [0, 1, 2, 3, 4] rfl, H⟩
                      · replace H := pif_f (of_decide_eq_false hb) H
                        refine CJ.skip (EJ.blk (EJ.next ?_))
                        refine CJ.region ?_
                        refine OJ.pures tU_ok 3 rfl ?_
                        refine OJ.nil ?_
                        exact EJ.round k (F' := [(1, .slice Aa1 a1.length ca1), (3, .int .u16 y9), (9, .slice A11 y10.length c12), (10, .int .i64 y13), (11, .int .i64 y18), (13, .int .i64 y26), (14, .int .i64 (IntKind.i64.wrap (y27 + 1)))]) ⟨rfl, rfl, rfl, rfl, rfl, rfl, rfl, trivial⟩ (Nat.lt_succ_self _) ⟨y26, (IntKind.i64.wrap (y27 + 1)), rfl, hS.pick [] [0, 1, 2, 3, 4] rfl, H⟩
                    · replace H := pif_f (of_decide_eq_false hb) H
                      refine CJ.exit (EJ.skE (EJ.skE (EJ.hit (?_))))
                      exact EJ.meet (F' := [(1, .slice Aa1 a1.length ca1), (3, .int .u16 y9), (9, .slice A11 y10.length c12), (10, .int .i64 y13), (11, .int .i64 y18), (13, .int .i64 y26)]) ⟨rfl, rfl, rfl, rfl, rfl, rfl, trivial⟩ ⟨y26, H, rfl, hS.pick [] [0, 1, 2, 3, 4] rfl⟩
                · rintro F w1 ⟨y25, he, rfl, hS⟩
                  obtain rfl := Option.some.inj he
                  have H := K60
                  refine EJ.next ?_
                  refine CJ.seq ?_
                  refine CJ.seq ?_
                  refine CJ.draw [] [0, 1, 2, 3, 4, 5, 6, 7, 8] mixed (by kernel_rfl) hS fun w1 hS => ?_
                  refine DJ.pures tU_ok 2 rfl ?_
                  obtain ⟨t30, ht30, H⟩ := pbind H
                  obtain ⟨ad30, e30⟩ := (hS.rd' (i := 4) rfl).some' ht30
                  refine DJ.st rfl rfl rfl rfl rfl (SR.idxS tU_ok tI_ok rfl rfl rfl rfl e30 rfl (getI_some ht30).1) ?_
                  refine DJ.st rfl rfl rfl rfl rfl (SR.load rfl rfl (fun w' hx => ld1 tU_ok rfl rfl (CA.ext ((hS.rd' (i := 4) rfl).at_ e30 ht30) hx) rfl)) ?_
                  refine DJ.pures tU_ok 2 rfl ?_
                  obtain ⟨t31, ht31, H⟩ := pbind H
                  obtain ⟨ad31, e31⟩ := (hS.rd' (i := 1) rfl).some' ht31
                  refine DJ.st rfl rfl rfl rfl rfl (SR.idxS tU_ok tI_ok rfl rfl rfl rfl e31 rfl (getI_some ht31).1) ?_
                  refine DJ.st rfl rfl rfl rfl rfl (SR.load rfl rfl (fun w' hx => ld1 tU_ok rfl rfl (CA.ext ((hS.rd' (i := 1) rfl).at_ e31 ht31) hx) rfl)) ?_
                  refine DJ.pures tU_ok 1 rfl ?_
                  refine DJ.nil (EJ.next ?_)
                  refine CJ.cond rfl (fun hb => ?_) (fun hb => ?_)
                  · replace H := pif_t (of_decide_eq_true hb) H
                    obtain ⟨u32, hu32, H⟩ := pbind H
                    obtain ⟨u33, hu33, H⟩ := pbind H
                    obtain ⟨u35, hu35, H⟩ := pbind H
                    obtain ⟨u38, hu38, H⟩ := pbind H
                    refine CJ.cut1 (fun F w1 => ∃ (A39 : Option Addr) (c40 : Nat), F = [(1, .slice Aa1 a1.length ca1), (3, .int .u16 y9), (9, .slice A39 ((([] : List Int) ++ ((y10.drop 0).take (y25.toNat - 0))) ++ ((y10.drop ((IntKind.i64.wrap (y25 + 1)).toNat)).take (y10.length - ((IntKind.i64.wrap (y25 + 1)).toNat)))).length c40), (10, .int .i64 y13), (11, .int .i64 y18)] ∧ St w no w1 [rowC (ci .i64) A39 c40 2 ((([] : List Int) ++ ((y10.drop 0).take (y25.toNat - 0))) ++ ((y10.drop ((IntKind.i64.wrap (y25 + 1)).toNat)).take (y10.length - ((IntKind.i64.wrap (y25 + 1)).toNat))))] [roC (ci .i64) Aa0 ca0 a0, roC (ci .i64) Aa1 ca1 a1, roC (ci .i64) (cutA Aa0 ca0 a2.toNat (ci .i64).sz) (ca0 - a2.toNat) ((a0.drop a2.toNat).take (a0.length - a2.toNat)), roC (ci .i64) A4 c5 (([] : List Int) ++ ((a0.drop a2.toNat).take (a0.length - a2.toNat))), roC (ci .i64) A11 c12 y10, roC (ci .i64) (cutA A11 c12 0 (ci .i64).sz) (c12 - 0) ((y10.drop 0).take (y25.toNat - 0)), roC (ci .i64) (cutA A11 c12 ((IntKind.i64.wrap (y25 + 1)).toNat) (ci .i64).sz) (c12 - ((IntKind.i64.wrap (y25 + 1)).toNat)) ((y10.drop ((IntKind.i64.wrap (y25 + 1)).toNat)).take (y10.length - ((IntKind.i64.wrap (y25 + 1)).toNat)))]) ?_ ?_
                    · skip
                      refine CJ.drawT [] [0, 4, 9] (.one 1 (.one 2 (.one 3 (.one 5 (.one 6 (.one 7 (.one 8 (.one 0 (.one 4 (.one 9 (.one 10 (.fin)))))))))))) mixed (by kernel_rfl) hS [] fun w1 hS hY hV => ?_
                      refine TJ.pures tU_ok 2 rfl ?_
                      refine TJ.st hY rfl rfl rfl rfl rfl (fun w2 hY => SR.cutS tU_ok tI_ok (0) (y25.toNat) rfl rfl rfl rfl rfl rfl (.inl ⟨rfl, rfl⟩) (.inr ⟨_, _, rfl, (by have := (chk_some hu32); omega), rfl⟩) (by have := (chk_some hu32); omega) (by have := (chk_some hu32); have := ((hV w2 hY).le' (i := 4) rfl : y10.length ≤ c12); omega)) ?_
                      replace hS := hS.cutR (i := 4) (lo := 0) (hi := y25.toNat) rfl (by have := (chk_some hu32); omega) (by have := (chk_some hu32); omega)
                      refine TJ.as (t := 89) rfl (show _ = (.slice (cutA A11 c12 0 (ci .i64).sz) ((y10.drop 0).take (y25.toNat - 0)).length (c12 - 0) : Value) by rw [cutLen (by have := (chk_some hu32); omega) (by have := (chk_some hu32); omega)]; rfl) ?_
                      refine TJ.pures tU_ok 3 rfl ?_
                      refine TJ.st hY rfl rfl rfl rfl rfl (fun w2 hY => SR.cutS tU_ok tI_ok ((IntKind.i64.wrap (y25 + 1)).toNat) (y10.length) rfl rfl rfl rfl rfl rfl (.inr ⟨_, _, rfl, (chk_some hu33).1, rfl⟩) (.inl ⟨rfl, rfl⟩) (by have := (chk_some hu33); omega) (by have := (chk_some hu33); have := ((hV w2 hY).le' (i := 4) rfl : y10.length ≤ c12); omega)) ?_
                      replace hS := hS.cutR (i := 4) (lo := (IntKind.i64.wrap (y25 + 1)).toNat) (hi := y10.length) rfl (by have := (chk_some hu33); omega) (by have := (chk_some hu33); omega)
                      refine TJ.as (t := 94) rfl (show _ = (.slice (cutA A11 c12 ((IntKind.i64.wrap (y25 + 1)).toNat) (ci .i64).sz) ((y10.drop ((IntKind.i64.wrap (y25 + 1)).toNat)).take (y10.length - ((IntKind.i64.wrap (y25 + 1)).toNat))).length (c12 - ((IntKind.i64.wrap (y25 + 1)).toNat)) : Value) by rw [cutLen (by have := (chk_some hu33); omega) (by have := (chk_some hu33); omega)]; rfl) ?_
                      refine TJ.ef hY rfl rfl rfl rfl rfl (Ef.lit tU_ok tI_ok hS (C := (ci .i64)) rfl rfl rfl rfl rfl rfl ([] : List Int) rfl rfl rfl rfl) ?_
                      rintro _ w1 hY ⟨A41, rfl, hS⟩
                      have hO := hS
                      refine TJ.ew rfl rfl rfl rfl rfl (Ew.append tU_ok tI_ok (C := (ci .i64)) (xs := ([] : List Int)) (ys := ((y10.drop 0).take (y25.toNat - 0))) (hS.inn []) (i := 0) rfl rfl rfl rfl rfl rfl rfl rfl rfl rfl rfl rfl rfl (hS.rd' (i := 5) rfl) (chk_some hu35)) (by rintro _ w1 ⟨A42, c43, rfl, hS⟩; exact hY.wr (hO.inY [] 5 rfl rfl) hS.chg) ?_
                      rintro _ w1 hY ⟨A42, c43, rfl, hS⟩
                      have hS : St w no w1 [rowC (ci .i64) A42 c43 2 (([] : List Int) ++ ((y10.drop 0).take (y25.toNat - 0)))] [roC (ci .i64) Aa0 ca0 a0, roC (ci .i64) Aa1 ca1 a1, roC (ci .i64) (cutA Aa0 ca0 a2.toNat (ci .i64).sz) (ca0 - a2.toNat) ((a0.drop a2.toNat).take (a0.length - a2.toNat)), roC (ci .i64) A4 c5 (([] : List Int) ++ ((a0.drop a2.toNat).take (a0.length - a2.toNat))), roC (ci .i64) A11 c12 y10, roC (ci .i64) (cutA A11 c12 0 (ci .i64).sz) (c12 - 0) ((y10.drop 0).take (y25.toNat - 0)), roC (ci .i64) (cutA A11 c12 ((IntKind.i64.wrap (y25 + 1)).toNat) (ci .i64).sz) (c12 - ((IntKind.i64.wrap (y25 + 1)).toNat)) ((y10.drop ((IntKind.i64.wrap (y25 + 1)).toNat)).take (y10.length - ((IntKind.i64.wrap (y25 + 1)).toNat)))] := hO.out [] hS
                      have hO := hS
                      refine TJ.ew rfl rfl rfl rfl rfl (Ew.append tU_ok tI_ok (C := (ci .i64)) (xs := (([] : List Int) ++ ((y10.drop 0).take (y25.toNat - 0)))) (ys := ((y10.drop ((IntKind.i64.wrap (y25 + 1)).toNat)).take (y10.length - ((IntKind.i64.wrap (y25 + 1)).toNat)))) (hS.inn []) (i := 0) rfl rfl rfl rfl rfl rfl rfl rfl rfl rfl rfl rfl rfl (hS.rd' (i := 6) rfl) (chk_some hu38)) (by rintro _ w1 ⟨A44, c45, rfl, hS⟩; exact hY.wr (hO.inY [] 5 rfl rfl) hS.chg) ?_
                      rintro _ w1 hY ⟨A44, c45, rfl, hS⟩
                      have hS : St w no w1 [rowC (ci .i64) A44 c45 2 ((([] : List Int) ++ ((y10.drop 0).take (y25.toNat - 0))) ++ ((y10.drop ((IntKind.i64.wrap (y25 + 1)).toNat)).take (y10.length - ((IntKind.i64.wrap (y25 + 1)).toNat))))] [roC (ci .i64) Aa0 ca0 a0, roC (ci .i64) Aa1 ca1 a1, roC (ci .i64) (cutA Aa0 ca0 a2.toNat (ci .i64).sz) (ca0 - a2.toNat) ((a0.drop a2.toNat).take (a0.length - a2.toNat)), roC (ci .i64) A4 c5 (([] : List Int) ++ ((a0.drop a2.toNat).take (a0.length - a2.toNat))), roC (ci .i64) A11 c12 y10, roC (ci .i64) (cutA A11 c12 0 (ci .i64).sz) (c12 - 0) ((y10.drop 0).take (y25.toNat - 0)), roC (ci .i64) (cutA A11 c12 ((IntKind.i64.wrap (y25 + 1)).toNat) (ci .i64).sz) (c12 - ((IntKind.i64.wrap (y25 + 1)).toNat)) ((y10.drop ((IntKind.i64.wrap (y25 + 1)).toNat)).take (y10.length - ((IntKind.i64.wrap (y25 + 1)).toNat)))] := hO.out [] hS
                      refine TJ.pures tU_ok 1 rfl ?_
                      refine TJ.nil ?_
                      exact EJ.meet (F' := [(1, .slice Aa1 a1.length ca1), (3, .int .u16 y9), (9, .slice A44 ((([] : List Int) ++ ((y10.drop 0).take (y25.toNat - 0))) ++ ((y10.drop ((IntKind.i64.wrap (y25 + 1)).toNat)).take (y10.length - ((IntKind.i64.wrap (y25 + 1)).toNat)))).length c45), (10, .int .i64 y13), (11, .int .i64 y18)]) ⟨rfl, rfl, rfl, rfl, rfl, trivial⟩ ⟨A44, c45, rfl, hS.pick [0] [0, 1, 2, 3, 4, 5, 6] rfl⟩
                    · rintro F w1 ⟨A39, c40, rfl, hS⟩
                      refine EJ.next ?_
                      refine CJ.region ?_
                      refine OJ.pures tU_ok 3 rfl ?_
                      obtain ⟨u46, hu46, H⟩ := pbind H
                      refine OJ.st rfl rfl rfl (SR.shl rfl rfl rfl (chk_some hu46)) ?_
                      refine OJ.pures tU_ok 2 rfl ?_
                      refine OJ.nil (EJ.blk (?_))
                      replace hS := hS.freezeG (i := 0) rfl
                      exact EJ.meet (F' := [(1, .slice Aa1 a1.length ca1), (3, .int .u16 (orI .u16 y9 (shlI .u16 1 (IntKind.u64.wrap y18)))), (9, .slice A39 ((([] : List Int) ++ ((y10.drop 0).take (y25.toNat - 0))) ++ ((y10.drop ((IntKind.i64.wrap (y25 + 1)).toNat)).take (y10.length - ((IntKind.i64.wrap (y25 + 1)).toNat)))).length c40), (10, .int .i64 y13)]) ⟨rfl, rfl, rfl, rfl, trivial⟩ ⟨((([] : List Int) ++ ((y10.drop 0).take (y25.toNat - 0))) ++ ((y10.drop ((IntKind.i64.wrap (y25 + 1)).toNat)).take (y10.length - ((IntKind.i64.wrap (y25 + 1)).toNat)))), (orI .u16 y9 (shlI .u16 1 (IntKind.u64.wrap y18))), A39, c40, H, rfl, hS.pick [] [0, 1, 2, 3, 4, 7] rfl⟩
                  · replace H := pif_f (of_decide_eq_false hb) H
                    refine CJ.skip (EJ.next ?_)
                    refine CJ.region ?_
                    refine OJ.pures tU_ok 3 rfl ?_
                    obtain ⟨u47, hu47, H⟩ := pbind H
                    refine OJ.st rfl rfl rfl (SR.shl rfl rfl rfl (chk_some hu47)) ?_
                    refine OJ.pures tU_ok 2 rfl ?_
                    refine OJ.nil (EJ.blk (?_))
                    exact EJ.meet (F' := [(1, .slice Aa1 a1.length ca1), (3, .int .u16 (orI .u16 y9 (shlI .u16 1 (IntKind.u64.wrap y18)))), (9, .slice A11 y10.length c12), (10, .int .i64 y13)]) ⟨rfl, rfl, rfl, rfl, trivial⟩ ⟨y10, (orI .u16 y9 (shlI .u16 1 (IntKind.u64.wrap y18))), A11, c12, H, rfl, hS.pick [] [0, 1, 2, 3, 4, 4] rfl⟩
        · rintro F w1 ⟨y14, y17, A15, c16, he, rfl, hS⟩
          obtain rfl := Option.some.inj he
          have H := K54
          refine CJ.region ?_
          refine OJ.pures tU_ok 3 rfl ?_
          refine OJ.nil ?_
          exact EJ.round k (F' := [(1, .slice Aa1 a1.length ca1), (3, .int .u16 y17), (9, .slice A15 y14.length c16), (10, .int .i64 (IntKind.i64.wrap (y13 + 1)))]) ⟨rfl, rfl, rfl, rfl, trivial⟩ (Nat.lt_succ_self _) ⟨y17, y14, (IntKind.i64.wrap (y13 + 1)), A15, c16, rfl, hS.pick [] [0, 1, 2, 3, 5] rfl, H⟩
      · replace H := pif_f (of_decide_eq_false hb) H
        refine CJ.exit (EJ.skE (EJ.skE (EJ.hit (?_))))
        exact EJ.meet (F' := [(9, .slice A11 y10.length c12)]) ⟨rfl, trivial⟩ ⟨y10, A11, c12, H, rfl, hS.pick [] [0, 1, 2, 3, 4] rfl⟩
  · rintro F w1 ⟨y6, A7, c8, he, rfl, hS⟩
    obtain rfl := Option.some.inj he
    have H := K35
    refine EJ.next ?_
    refine CJ.seq ?_
    refine CJ.region ?_
    refine OJ.pures tU_ok 4 rfl ?_
    refine OJ.nil (EJ.next ?_)
    refine CJ.ret (?_)
    obtain rfl := Option.some.inj H
    exact EJ.fin rfl (.tmp rfl .nil) ⟨rfl, hS.ext⟩

def spec_FitGroups.l1 (a2 : List Int) : Nat → Option Unit
  | 0 => none
  | k + 1 => (if 0 < (a2.length : Int) then (some ()) else (some ())).bind fun _ => some ()
def spec_FitGroups.l2 (a2 : List Int) : Nat → Int → Int → Option Int
  | 0, _, _ => none
  | k + 1, y6, y7 => (if y7 < (a2.length : Int) then (some (decide (y6 = 0))) else (some false)).bind fun y8 => if y8 = true then ((getI a2 y7).bind fun t9 => (spec_l00In.f t9 0 1000000).bind fun t10 => if (!t10) = true then (spec_FitGroups.l2 a2 k 2 (IntKind.i64.wrap (y7 + 1))) else (spec_FitGroups.l2 a2 k y6 (IntKind.i64.wrap (y7 + 1)))) else (some y6)
def spec_FitGroups.l4 (a2 : List Int) (t12 : List Int) (y21 : List Int) (y24 : Int) (y25 : Int) : Nat → Int → Option ((List Int) × Int)
  | 0, _ => none
  | k + 1, y34 => if y34 < (a2.length : Int) then ((chk (0 ≤ (IntKind.u64.wrap y34))).bind fun u35 => ((chk (0 ≤ (IntKind.u64.wrap y34))).bind fun u37 => if (Int.tmod (shrI .u16 y24 (IntKind.u64.wrap y34)) 2) = 0 then ((getI a2 y34).bind fun t38 => (getI t12 y25).bind fun t39 => if t39 ≤ t38 then ((spec_l06Enough.f k t12 a2 (IntKind.i64.wrap (y25 + 1)) (orI .u16 y24 (shlI .u16 1 (IntKind.u64.wrap y34)))).bind fun t40 => some t40) else (some false)) else (some false)).bind fun y36 => if y36 = true then ((chk (y21.length + ([y34] : List Int).length ≤ 4294967296)).bind fun u42 => some (y21 ++ ([y34] : List Int), orI .u16 y24 (shlI .u16 1 (IntKind.u64.wrap y34)))) else (spec_FitGroups.l4 a2 t12 y21 y24 y25 k (IntKind.i64.wrap (y34 + 1)))) else (some (y21, y24))
def spec_FitGroups.l3 (a2 : List Int) (t12 : List Int) : Nat → (List Int) → Int → Int → Option (List Int)
  | 0, _, _, _ => none
  | k + 1, y21, y24, y25 => if y25 < (t12.length : Int) then (((spec_FitGroups.l4 a2 t12 y21 y24 y25 k 0).bind fun (y30, y33) => some (y30, y33)).bind fun (y26, y29) => spec_FitGroups.l3 a2 t12 k y26 y29 (IntKind.i64.wrap (y25 + 1))) else (some y21)
def spec_FitGroups.f (k : Nat) (a0 : Herd) (a1 : List Int) (a2 : List Int) : Option (List Int × Int) := (spec_l06Told.f k a0 a1).bind fun t2 => (if t2 = 0 then (some (decide (14 < (a2.length : Int)))) else (some false)).bind fun y3 => if y3 = true then ((spec_FitGroups.l1 a2 k).bind fun _ => some (([] : List Int), 3)) else ((spec_FitGroups.l2 a2 k t2 0).bind fun y5 => if y5 ≠ 0 then (some (([] : List Int), y5)) else ((spec_l06Needs.f k a0 a1).bind fun t12 => (spec_l06Enough.f k t12 a2 0 0).bind fun t15 => if (!t15) = true then (some (([] : List Int), 6)) else ((spec_FitGroups.l3 a2 t12 k ([] : List Int) 0 0).bind fun y18 => some (y18, 0))))
theorem spec_FitGroups.c (k : Nat) (w : World) (Aa0_0 : Option Addr) (ca0_0 : Nat) (Aa0_1 : Option Addr) (ca0_1 : Nat) (Aa0_2 : Option Addr) (ca0_2 : Nat) (a0 : Herd) (hr0_0 : Rd G.cs w Aa0_0 a0.Names) (hc0_0 : a0.Names.length ≤ ca0_0) (hr0_1 : Rd (ci .i16) w Aa0_1 a0.Eats) (hc0_1 : a0.Eats.length ≤ ca0_1) (hr0_2 : Rd (ci .u16) w Aa0_2 a0.Foes) (hc0_2 : a0.Foes.length ≤ ca0_2) (Aa1 : Option Addr) (ca1 : Nat) (a1 : List Int) (hr1 : Rd (ci .i64) w Aa1 a1) (hc1 : a1.length ≤ ca1) (Aa2 : Option Addr) (ca2 : Nat) (a2 : List Int) (hr2 : Rd (ci .i64) w Aa2 a2) (hc2 : a2.length ≤ ca2) (r : List Int × Int) (H : spec_FitGroups.f k a0 a1 a2 = some r) :
    CV Tryd.prog 20 [.agg [.slice Aa0_0 a0.Names.length ca0_0, .slice Aa0_1 a0.Eats.length ca0_1, .slice Aa0_2 a0.Foes.length ca0_2].toArray, .slice Aa1 a1.length ca1, .slice Aa2 a2.length ca2].toArray w fun v w' => ∃ (A0 : Option Addr) (c0 : Nat), v = .tuple #[.slice A0 r.1.length c0, .int .i64 r.2] ∧ St w no w' [rowC (ci .i64) A0 c0 2 r.1] [] := by
  have hS := ((((((St.init w no).param G.cs Aa0_0 ca0_0 a0.Names hr0_0 hc0_0).param (ci .i16) Aa0_1 ca0_1 a0.Eats hr0_1 hc0_1).param (ci .u16) Aa0_2 ca0_2 a0.Foes hr0_2 hc0_2).param (ci .i64) Aa1 ca1 a1 hr1 hc1).param (ci .i64) Aa2 ca2 a2 hr2 hc2)
  unfold spec_FitGroups.f at H
  refine CV.body Tryd.func20 rfl Tryd.ntmps20 rfl ?_
  refine CJ.seq ?_
  refine CJ.region ?_
  refine OJ.ef rfl rfl rfl (Ef.box hS rfl rfl ([.slice Aa0_0 a0.Names.length ca0_0, .slice Aa0_1 a0.Eats.length ca0_1, .slice Aa0_2 a0.Foes.length ca0_2]) rfl) ?_
  rintro _ w1 ⟨b1, rfl, hS⟩
  refine OJ.pures tU_ok 2 rfl ?_
  refine OJ.nil (EJ.next ?_)
  refine CJ.seq ?_
  refine CJ.region ?_
  refine OJ.pures tU_ok 1 rfl ?_
  obtain ⟨t2, ht2, H⟩ := pbind H
  refine OJ.callF rfl rfl rfl rfl rfl hb58 rfl (spec_l06Told.c k _ Aa0_0 ca0_0 Aa0_1 ca0_1 Aa0_2 ca0_2 a0 (hS.rd' (i := 0) rfl) (hS.le' (i := 0) rfl) (hS.rd' (i := 1) rfl) (hS.le' (i := 1) rfl) (hS.rd' (i := 2) rfl) (hS.le' (i := 2) rfl) ⟨b1, 0, none⟩ (hS.cells (i := 0) rfl) Aa1 ca1 a1 (hS.rd' (i := 3) rfl) (hS.le' (i := 3) rfl) _ ht2) ?_
  rintro _ w1 ⟨rfl, hs⟩
  replace hS := hS.grow hs
  refine OJ.pures tU_ok 1 rfl ?_
  refine OJ.nil (EJ.next ?_)
  refine CJ.seq ?_
  obtain ⟨j25, H, K25⟩ := pbind H
  refine CJ.cut (fun F w1 => ∃ (y3 : Bool) , (some y3 : Option Bool) = some j25 ∧ F = [(1, .slice Aa1 a1.length ca1), (2, .slice Aa2 a2.length ca2), (3, .pointer (some ⟨b1, 0, none⟩)), (8, .int .i64 t2), (24, .bool y3)] ∧ St w no w1 [box b1 ([.slice Aa0_0 a0.Names.length ca0_0, .slice Aa0_1 a0.Eats.length ca0_1, .slice Aa0_2 a0.Foes.length ca0_2]) 29] [roC G.cs Aa0_0 ca0_0 a0.Names, roC (ci .i16) Aa0_1 ca0_1 a0.Eats, roC (ci .u16) Aa0_2 ca0_2 a0.Foes, roC (ci .i64) Aa1 ca1 a1, roC (ci .i64) Aa2 ca2 a2]) ?_ ?_
  · skip
    refine CJ.region ?_
    refine OJ.pures tU_ok 3 rfl ?_
    refine OJ.split (t := 20) rfl (fun hb => ?_) (fun hb => ?_)
    · replace H := pif_t (of_decide_eq_true hb) H
      refine OJ.pures tU_ok 4 rfl ?_
      refine OJ.nil ?_
      exact EJ.meet (F' := [(1, .slice Aa1 a1.length ca1), (2, .slice Aa2 a2.length ca2), (3, .pointer (some ⟨b1, 0, none⟩)), (8, .int .i64 t2), (24, .bool (decide (14 < (a2.length : Int))))]) ⟨rfl, rfl, rfl, rfl, rfl, trivial⟩ ⟨(decide (14 < (a2.length : Int))), H, rfl, hS.pick [0] [0, 1, 2, 3, 4] rfl⟩
    · replace H := pif_f (of_decide_eq_false hb) H
      refine OJ.pures tU_ok 4 rfl ?_
      refine OJ.nil ?_
      exact EJ.meet (F' := [(1, .slice Aa1 a1.length ca1), (2, .slice Aa2 a2.length ca2), (3, .pointer (some ⟨b1, 0, none⟩)), (8, .int .i64 t2), (24, .bool false)]) ⟨rfl, rfl, rfl, rfl, rfl, trivial⟩ ⟨false, H, rfl, hS.pick [0] [0, 1, 2, 3, 4] rfl⟩
  · rintro F w1 ⟨y3, he, rfl, hS⟩
    obtain rfl := Option.some.inj he
    have H := K25
    refine CJ.cond rfl (fun hb => ?_) (fun hb => ?_)
    · replace H := pif_t hb H
      refine CJ.region ?_
      refine OJ.pures tU_ok 1 rfl ?_
      refine OJ.nil (EJ.next ?_)
      refine CJ.seq ?_
      refine CJ.seq ?_
      refine CJ.region ?_
      refine OJ.pures tU_ok 1 rfl ?_
      refine OJ.nil (EJ.next ?_)
      obtain ⟨j26, H, K26⟩ := pbind H
      refine CJ.cut1 (fun F w1 => (some () : Option Unit) = some j26 ∧ F = [(1, .slice Aa1 a1.length ca1), (2, .slice Aa2 a2.length ca2), (3, .pointer (some ⟨b1, 0, none⟩)), (8, .int .i64 3)] ∧ St w no w1 [box b1 ([.slice Aa0_0 a0.Names.length ca0_0, .slice Aa0_1 a0.Eats.length ca0_1, .slice Aa0_2 a0.Foes.length ca0_2]) 29] [roC G.cs Aa0_0 ca0_0 a0.Names, roC (ci .i16) Aa0_1 ca0_1 a0.Eats, roC (ci .u16) Aa0_2 ca0_2 a0.Foes, roC (ci .i64) Aa1 ca1 a1, roC (ci .i64) Aa2 ca2 a2]) ?_ ?_
      · skip
        refine CJ.block ?_
        refine CJ.loop (fun k F w1 => F = [(1, .slice Aa1 a1.length ca1), (2, .slice Aa2 a2.length ca2), (3, .pointer (some ⟨b1, 0, none⟩)), (8, .int .i64 3), (9, .int .i64 0)] ∧ St w no w1 [box b1 ([.slice Aa0_0 a0.Names.length ca0_0, .slice Aa0_1 a0.Eats.length ca0_1, .slice Aa0_2 a0.Foes.length ca0_2]) 29] [roC G.cs Aa0_0 ca0_0 a0.Names, roC (ci .i16) Aa0_1 ca0_1 a0.Eats, roC (ci .u16) Aa0_2 ca0_2 a0.Foes, roC (ci .i64) Aa1 ca1 a1, roC (ci .i64) Aa2 ca2 a2] ∧ spec_FitGroups.l1 a2 k = some j26) k (F' := [(1, .slice Aa1 a1.length ca1), (2, .slice Aa2 a2.length ca2), (3, .pointer (some ⟨b1, 0, none⟩)), (8, .int .i64 3), (9, .int .i64 0)]) ⟨rfl, rfl, rfl, rfl, rfl, trivial⟩ ⟨rfl, hS.pick [0] [0, 1, 2, 3, 4] rfl, H⟩ ?_
        rintro k F w1 ⟨rfl, hS, H⟩
        cases k with
        | zero => rw [spec_FitGroups.l1] at H; cases H
        | succ k =>
          rw [spec_FitGroups.l1] at H
          refine CJ.seq ?_
          obtain ⟨j28, H, K28⟩ := pbind H
          refine CJ.cut (fun F w1 => (some () : Option Unit) = some j28 ∧ F = [(1, .slice Aa1 a1.length ca1), (2, .slice Aa2 a2.length ca2), (3, .pointer (some ⟨b1, 0, none⟩)), (8, .int .i64 3), (9, .int .i64 0), (32, .bool false)] ∧ St w no w1 [box b1 ([.slice Aa0_0 a0.Names.length ca0_0, .slice Aa0_1 a0.Eats.length ca0_1, .slice Aa0_2 a0.Foes.length ca0_2]) 29] [roC G.cs Aa0_0 ca0_0 a0.Names, roC (ci .i16) Aa0_1 ca0_1 a0.Eats, roC (ci .u16) Aa0_2 ca0_2 a0.Foes, roC (ci .i64) Aa1 ca1 a1, roC (ci .i64) Aa2 ca2 a2]) ?_ ?_
          · skip
            refine CJ.region ?_
            refine OJ.pures tU_ok 5 rfl ?_
            refine OJ.split (t := 29) rfl (fun hb => ?_) (fun hb => ?_)
            · replace H := pif_t (of_decide_eq_true hb) H
              refine OJ.pures tU_ok 3 rfl ?_
              refine OJ.nil ?_
              exact EJ.meet (F' := [(1, .slice Aa1 a1.length ca1), (2, .slice Aa2 a2.length ca2), (3, .pointer (some ⟨b1, 0, none⟩)), (8, .int .i64 3), (9, .int .i64 0), (32, .bool false)]) ⟨rfl, rfl, rfl, rfl, rfl, rfl, trivial⟩ ⟨H, rfl, hS.pick [0] [0, 1, 2, 3, 4] rfl⟩
            · replace H := pif_f (of_decide_eq_false hb) H
              refine OJ.pures tU_ok 3 rfl ?_
              refine OJ.nil ?_
              exact EJ.meet (F' := [(1, .slice Aa1 a1.length ca1), (2, .slice Aa2 a2.length ca2), (3, .pointer (some ⟨b1, 0, none⟩)), (8, .int .i64 3), (9, .int .i64 0), (32, .bool false)]) ⟨rfl, rfl, rfl, rfl, rfl, rfl, trivial⟩ ⟨H, rfl, hS.pick [0] [0, 1, 2, 3, 4] rfl⟩
          · rintro F w1 ⟨he, rfl, hS⟩
            obtain rfl := Option.some.inj he
            have H := K28
            refine CJ.condF rfl ?_
            refine CJ.exit (EJ.skE (EJ.skE (EJ.hit (?_))))
            exact EJ.meet (F' := [(1, .slice Aa1 a1.length ca1), (2, .slice Aa2 a2.length ca2), (3, .pointer (some ⟨b1, 0, none⟩)), (8, .int .i64 3)]) ⟨rfl, rfl, rfl, rfl, trivial⟩ ⟨H, rfl, hS.pick [0] [0, 1, 2, 3, 4] rfl⟩
      · rintro F w1 ⟨he, rfl, hS⟩
        obtain rfl := Option.some.inj he
        have H := K26
        refine EJ.next ?_
        refine CJ.seq ?_
        refine CJ.seq ?_
        refine CJ.region ?_
        refine OJ.pures tU_ok 2 rfl ?_
        refine OJ.nil (EJ.next ?_)
        refine CJ.condT rfl ?_
        refine CJ.seq ?_
        refine CJ.region ?_
        refine OJ.ef rfl rfl rfl (Ef.lit tU_ok tI_ok hS (C := (ci .i64)) rfl rfl rfl rfl rfl rfl ([] : List Int) rfl rfl rfl rfl) ?_
        rintro _ w1 ⟨A4, rfl, hS⟩
        refine OJ.pures tU_ok 3 rfl ?_
        refine OJ.nil (EJ.next ?_)
        refine CJ.ret (EJ.skR (?_))
        obtain rfl := Option.some.inj H
        exact EJ.fin rfl (.tmp rfl (.tmp rfl .nil)) ⟨A4, (([] : List Int).length), rfl, hS.pick [1] [] rfl⟩
    · replace H := pifb_f hb H
      refine CJ.skip (EJ.next ?_)
      refine CJ.seq ?_
      refine CJ.seq ?_
      refine CJ.region ?_
      refine OJ.pures tU_ok 1 rfl ?_
      refine OJ.nil (EJ.next ?_)
      obtain ⟨j29, H, K29⟩ := pbind H
      refine CJ.cut1 (fun F w1 => ∃ (y5 : Int) , (some y5 : Option Int) = some j29 ∧ F = [(1, .slice Aa1 a1.length ca1), (2, .slice Aa2 a2.length ca2), (3, .pointer (some ⟨b1, 0, none⟩)), (8, .int .i64 y5)] ∧ St w no w1 [box b1 ([.slice Aa0_0 a0.Names.length ca0_0, .slice Aa0_1 a0.Eats.length ca0_1, .slice Aa0_2 a0.Foes.length ca0_2]) 29] [roC G.cs Aa0_0 ca0_0 a0.Names, roC (ci .i16) Aa0_1 ca0_1 a0.Eats, roC (ci .u16) Aa0_2 ca0_2 a0.Foes, roC (ci .i64) Aa1 ca1 a1, roC (ci .i64) Aa2 ca2 a2]) ?_ ?_
      · skip
        refine CJ.block ?_
        refine CJ.loop (fun k F w1 => ∃ (y6 : Int) (y7 : Int), F = [(1, .slice Aa1 a1.length ca1), (2, .slice Aa2 a2.length ca2), (3, .pointer (some ⟨b1, 0, none⟩)), (8, .int .i64 y6), (9, .int .i64 y7)] ∧ St w no w1 [box b1 ([.slice Aa0_0 a0.Names.length ca0_0, .slice Aa0_1 a0.Eats.length ca0_1, .slice Aa0_2 a0.Foes.length ca0_2]) 29] [roC G.cs Aa0_0 ca0_0 a0.Names, roC (ci .i16) Aa0_1 ca0_1 a0.Eats, roC (ci .u16) Aa0_2 ca0_2 a0.Foes, roC (ci .i64) Aa1 ca1 a1, roC (ci .i64) Aa2 ca2 a2] ∧ spec_FitGroups.l2 a2 k y6 y7 = some j29) k (F' := [(1, .slice Aa1 a1.length ca1), (2, .slice Aa2 a2.length ca2), (3, .pointer (some ⟨b1, 0, none⟩)), (8, .int .i64 t2), (9, .int .i64 0)]) ⟨rfl, rfl, rfl, rfl, rfl, trivial⟩ ⟨t2, 0, rfl, hS.pick [0] [0, 1, 2, 3, 4] rfl, H⟩ ?_
        rintro k F w1 ⟨y6, y7, rfl, hS, H⟩
        cases k with
        | zero => rw [spec_FitGroups.l2] at H; cases H
        | succ k =>
          rw [spec_FitGroups.l2] at H
          refine CJ.seq ?_
          obtain ⟨j32, H, K32⟩ := pbind H
          refine CJ.cut (fun F w1 => ∃ (y8 : Bool) , (some y8 : Option Bool) = some j32 ∧ F = [(1, .slice Aa1 a1.length ca1), (2, .slice Aa2 a2.length ca2), (3, .pointer (some ⟨b1, 0, none⟩)), (8, .int .i64 y6), (9, .int .i64 y7), (32, .bool y8)] ∧ St w no w1 [box b1 ([.slice Aa0_0 a0.Names.length ca0_0, .slice Aa0_1 a0.Eats.length ca0_1, .slice Aa0_2 a0.Foes.length ca0_2]) 29] [roC G.cs Aa0_0 ca0_0 a0.Names, roC (ci .i16) Aa0_1 ca0_1 a0.Eats, roC (ci .u16) Aa0_2 ca0_2 a0.Foes, roC (ci .i64) Aa1 ca1 a1, roC (ci .i64) Aa2 ca2 a2]) ?_ ?_
          · skip
            refine CJ.region ?_
            refine OJ.pures tU_ok 5 rfl ?_
            refine OJ.split (t := 29) rfl (fun hb => ?_) (fun hb => ?_)
            · replace H := pif_t (of_decide_eq_true hb) H
              refine OJ.pures tU_ok 3 rfl ?_
              refine OJ.nil ?_
              exact EJ.meet (F' := [(1, .slice Aa1 a1.length ca1), (2, .slice Aa2 a2.length ca2), (3, .pointer (some ⟨b1, 0, none⟩)), (8, .int .i64 y6), (9, .int .i64 y7), (32, .bool (decide (y6 = 0)))]) ⟨rfl, rfl, rfl, rfl, rfl, rfl, trivial⟩ ⟨(decide (y6 = 0)), H, rfl, hS.pick [0] [0, 1, 2, 3, 4] rfl⟩
            · replace H := pif_f (of_decide_eq_false hb) H
              refine OJ.pures tU_ok 3 rfl ?_
              refine OJ.nil ?_
              exact EJ.meet (F' := [(1, .slice Aa1 a1.length ca1), (2, .slice Aa2 a2.length ca2), (3, .pointer (some ⟨b1, 0, none⟩)), (8, .int .i64 y6), (9, .int .i64 y7), (32, .bool false)]) ⟨rfl, rfl, rfl, rfl, rfl, rfl, trivial⟩ ⟨false, H, rfl, hS.pick [0] [0, 1, 2, 3, 4] rfl⟩
          · rintro F w1 ⟨y8, he, rfl, hS⟩
            obtain rfl := Option.some.inj he
            have H := K32
            refine CJ.cond rfl (fun hb => ?_) (fun hb => ?_)
            · replace H := pif_t hb H
              refine CJ.skip (EJ.next ?_)
              refine CJ.seq ?_
              refine CJ.block ?_
              refine CJ.seq ?_
              refine CJ.region ?_
              refine OJ.pures tU_ok 2 rfl ?_
              obtain ⟨t9, ht9, H⟩ := pbind H
              obtain ⟨ad9, e9⟩ := (hS.rd' (i := 4) rfl).some' ht9
              refine OJ.st rfl rfl rfl (SR.idxS tU_ok tI_ok rfl rfl rfl rfl e9 rfl (getI_some ht9).1) ?_
              refine OJ.st rfl rfl rfl (SR.load rfl rfl (fun w' hx => ld1 tU_ok rfl rfl (CA.ext ((hS.rd' (i := 4) rfl).at_ e9 ht9) hx) rfl)) ?_
              obtain ⟨t10, ht10, H⟩ := pbind H
              refine OJ.callF rfl rfl rfl rfl rfl hb49 rfl (spec_l00In.c _ t9 0 1000000 _ ht10) ?_
              rintro _ w1 ⟨rfl, hs⟩
              replace hS := hS.grow hs
              refine OJ.pures tU_ok 1 rfl ?_
              refine OJ.nil (EJ.next ?_)
              refine CJ.cond rfl (fun hb => ?_) (fun hb => ?_)
              · replace H := pif_t hb H
                refine CJ.region ?_
                refine OJ.pures tU_ok 1 rfl ?_
                refine OJ.nil (EJ.blk (EJ.next ?_))
                refine CJ.region ?_
                refine OJ.pures tU_ok 3 rfl ?_
                refine OJ.nil ?_
                exact EJ.round k (F' := [(1, .slice Aa1 a1.length ca1), (2, .slice Aa2 a2.length ca2), (3, .pointer (some ⟨b1, 0, none⟩)), (8, .int .i64 2), (9, .int .i64 (IntKind.i64.wrap (y7 + 1)))]) ⟨rfl, rfl, rfl, rfl, rfl, trivial⟩ (Nat.lt_succ_self _) ⟨2, (IntKind.i64.wrap (y7 + 1)), rfl, hS.pick [0] [0, 1, 2, 3, 4] rfl, H⟩
              · replace H := pifb_f hb H
                refine CJ.skip (EJ.blk (EJ.next ?_))
                refine CJ.region ?_
                refine OJ.pures tU_ok 3 rfl ?_
                refine OJ.nil ?_
                exact EJ.round k (F' := [(1, .slice Aa1 a1.length ca1), (2, .slice Aa2 a2.length ca2), (3, .pointer (some ⟨b1, 0, none⟩)), (8, .int .i64 y6), (9, .int .i64 (IntKind.i64.wrap (y7 + 1)))]) ⟨rfl, rfl, rfl, rfl, rfl, trivial⟩ (Nat.lt_succ_self _) ⟨y6, (IntKind.i64.wrap (y7 + 1)), rfl, hS.pick [0] [0, 1, 2, 3, 4] rfl, H⟩
            · replace H := pifb_f hb H
              refine CJ.exit (EJ.skE (EJ.skE (EJ.hit (?_))))
              exact EJ.meet (F' := [(1, .slice Aa1 a1.length ca1), (2, .slice Aa2 a2.length ca2), (3, .pointer (some ⟨b1, 0, none⟩)), (8, .int .i64 y6)]) ⟨rfl, rfl, rfl, rfl, trivial⟩ ⟨y6, H, rfl, hS.pick [0] [0, 1, 2, 3, 4] rfl⟩
      · rintro F w1 ⟨y5, he, rfl, hS⟩
        obtain rfl := Option.some.inj he
        have H := K29
        refine EJ.next ?_
        refine CJ.seq ?_
        refine CJ.seq ?_
        refine CJ.region ?_
        refine OJ.pures tU_ok 2 rfl ?_
        refine OJ.nil (EJ.next ?_)
        refine CJ.cond rfl (fun hb => ?_) (fun hb => ?_)
        · replace H := pif_t (of_decide_eq_true hb) H
          refine CJ.seq ?_
          refine CJ.region ?_
          refine OJ.ef rfl rfl rfl (Ef.lit tU_ok tI_ok hS (C := (ci .i64)) rfl rfl rfl rfl rfl rfl ([] : List Int) rfl rfl rfl rfl) ?_
          rintro _ w1 ⟨A11, rfl, hS⟩
          refine OJ.pures tU_ok 3 rfl ?_
          refine OJ.nil (EJ.next ?_)
          refine CJ.ret (EJ.skR (?_))
          obtain rfl := Option.some.inj H
          exact EJ.fin rfl (.tmp rfl (.tmp rfl .nil)) ⟨A11, (([] : List Int).length), rfl, hS.pick [1] [] rfl⟩
        · replace H := pif_f (of_decide_eq_false hb) H
          refine CJ.skip (EJ.next ?_)
          refine CJ.seq ?_
          refine CJ.region ?_
          refine OJ.pures tU_ok 1 rfl ?_
          obtain ⟨t12, ht12, H⟩ := pbind H
          refine OJ.callF rfl rfl rfl rfl rfl hb59 rfl (spec_l06Needs.c k _ Aa0_0 ca0_0 Aa0_1 ca0_1 Aa0_2 ca0_2 a0 (hS.rd' (i := 0) rfl) (hS.le' (i := 0) rfl) (hS.rd' (i := 1) rfl) (hS.le' (i := 1) rfl) (hS.rd' (i := 2) rfl) (hS.le' (i := 2) rfl) ⟨b1, 0, none⟩ (hS.cells (i := 0) rfl) Aa1 ca1 a1 (hS.rd' (i := 3) rfl) (hS.le' (i := 3) rfl) _ ht12) ?_
          rintro _ w1 ⟨A13, c14, rfl, hs⟩
          replace hS := hS.addN hs
          refine OJ.pures tU_ok 1 rfl ?_
          refine OJ.nil (EJ.next ?_)
          refine CJ.seq ?_
          refine CJ.seq ?_
          refine CJ.region ?_
          refine OJ.pures tU_ok 2 rfl ?_
          obtain ⟨t15, ht15, H⟩ := pbind H
          refine OJ.callF rfl rfl rfl rfl rfl hb60 rfl (spec_l06Enough.c k _ A13 c14 t12 (hS.rd (i := 1) rfl) (hS.le (i := 1) rfl) Aa2 ca2 a2 (hS.rd' (i := 4) rfl) (hS.le' (i := 4) rfl) 0 0 _ ht15) ?_
          rintro _ w1 ⟨rfl, hs⟩
          replace hS := hS.grow hs
          refine OJ.pures tU_ok 1 rfl ?_
          refine OJ.nil (EJ.next ?_)
          refine CJ.cond rfl (fun hb => ?_) (fun hb => ?_)
          · replace H := pif_t hb H
            refine CJ.seq ?_
            refine CJ.region ?_
            refine OJ.ef rfl rfl rfl (Ef.lit tU_ok tI_ok hS (C := (ci .i64)) rfl rfl rfl rfl rfl rfl ([] : List Int) rfl rfl rfl rfl) ?_
            rintro _ w1 ⟨A16, rfl, hS⟩
            refine OJ.pures tU_ok 2 rfl ?_
            refine OJ.nil (EJ.next ?_)
            refine CJ.ret (EJ.skR (?_))
            obtain rfl := Option.some.inj H
            exact EJ.fin rfl (.tmp rfl (.tmp rfl .nil)) ⟨A16, (([] : List Int).length), rfl, hS.pick [2] [] rfl⟩
          · replace H := pifb_f hb H
            refine CJ.skip (EJ.next ?_)
            refine CJ.seq ?_
            refine CJ.region ?_
            refine OJ.ef rfl rfl rfl (Ef.lit tU_ok tI_ok hS (C := (ci .i64)) rfl rfl rfl rfl rfl rfl ([] : List Int) rfl rfl rfl rfl) ?_
            rintro _ w1 ⟨A17, rfl, hS⟩
            refine OJ.pures tU_ok 1 rfl ?_
            refine OJ.nil (EJ.next ?_)
            refine CJ.seq ?_
            refine CJ.region ?_
            refine OJ.pures tU_ok 1 rfl ?_
            refine OJ.nil (EJ.next ?_)
            refine CJ.seq ?_
            refine CJ.seq ?_
            refine CJ.region ?_
            refine OJ.pures tU_ok 1 rfl ?_
            refine OJ.nil (EJ.next ?_)
            obtain ⟨j61, H, K61⟩ := pbind H
            refine CJ.cut1 (fun F w1 => ∃ (y18 : List Int) (A19 : Option Addr) (c20 : Nat), (some y18 : Option (List Int)) = some j61 ∧ F = [(11, .slice A19 y18.length c20)] ∧ St w no w1 [rowC (ci .i64) A19 c20 2 y18] [roC G.cs Aa0_0 ca0_0 a0.Names, roC (ci .i16) Aa0_1 ca0_1 a0.Eats, roC (ci .u16) Aa0_2 ca0_2 a0.Foes, roC (ci .i64) Aa1 ca1 a1, roC (ci .i64) Aa2 ca2 a2]) ?_ ?_
            · skip
              refine CJ.block ?_
              refine CJ.loop (fun k F w1 => ∃ (y21 : List Int) (y24 : Int) (y25 : Int) (A22 : Option Addr) (c23 : Nat), F = [(2, .slice Aa2 a2.length ca2), (10, .slice A13 t12.length c14), (11, .slice A22 y21.length c23), (12, .int .u16 y24), (13, .int .i64 y25)] ∧ St w no w1 [rowC (ci .i64) A13 c14 2 t12, rowC (ci .i64) A22 c23 2 y21] [roC G.cs Aa0_0 ca0_0 a0.Names, roC (ci .i16) Aa0_1 ca0_1 a0.Eats, roC (ci .u16) Aa0_2 ca0_2 a0.Foes, roC (ci .i64) Aa1 ca1 a1, roC (ci .i64) Aa2 ca2 a2] ∧ spec_FitGroups.l3 a2 t12 k y21 y24 y25 = some j61) k (F' := [(2, .slice Aa2 a2.length ca2), (10, .slice A13 t12.length c14), (11, .slice A17 ([] : List Int).length (([] : List Int).length)), (12, .int .u16 0), (13, .int .i64 0)]) ⟨rfl, rfl, rfl, rfl, rfl, trivial⟩ ⟨([] : List Int), 0, 0, A17, (([] : List Int).length), rfl, hS.pick [1, 2] [0, 1, 2, 3, 4] rfl, H⟩ ?_
              rintro k F w1 ⟨y21, y24, y25, A22, c23, rfl, hS, H⟩
              cases k with
              | zero => rw [spec_FitGroups.l3] at H; cases H
              | succ k =>
                rw [spec_FitGroups.l3] at H
                refine CJ.seq ?_
                refine CJ.seq ?_
                refine CJ.region ?_
                refine OJ.pures tU_ok 4 rfl ?_
                refine OJ.nil (EJ.next ?_)
                refine CJ.cond rfl (fun hb => ?_) (fun hb => ?_)
                · replace H := pif_t (of_decide_eq_true hb) H
                  refine CJ.skip (EJ.next ?_)
                  obtain ⟨j80, H, K80⟩ := pbind H
                  refine CJ.cut (fun F w1 => ∃ (y26 : List Int) (y29 : Int) (A27 : Option Addr) (c28 : Nat), (some (y26, y29) : Option ((List Int) × Int)) = some j80 ∧ F = [(2, .slice Aa2 a2.length ca2), (10, .slice A13 t12.length c14), (11, .slice A27 y26.length c28), (12, .int .u16 y29), (13, .int .i64 y25)] ∧ St w no w1 [rowC (ci .i64) A13 c14 2 t12, rowC (ci .i64) A27 c28 2 y26] [roC G.cs Aa0_0 ca0_0 a0.Names, roC (ci .i16) Aa0_1 ca0_1 a0.Eats, roC (ci .u16) Aa0_2 ca0_2 a0.Foes, roC (ci .i64) Aa1 ca1 a1, roC (ci .i64) Aa2 ca2 a2]) ?_ ?_
                  · skip
                    refine CJ.block ?_
                    refine CJ.seq ?_
                    refine CJ.region ?_
                    refine OJ.pures tU_ok 1 rfl ?_
                    refine OJ.nil (EJ.next ?_)
                    obtain ⟨j85, H, K85⟩ := pbind H
                    refine CJ.cut1 (fun F w1 => ∃ (y30 : List Int) (y33 : Int) (A31 : Option Addr) (c32 : Nat), (some (y30, y33) : Option ((List Int) × Int)) = some j85 ∧ F = [(2, .slice Aa2 a2.length ca2), (10, .slice A13 t12.length c14), (11, .slice A31 y30.length c32), (12, .int .u16 y33), (13, .int .i64 y25)] ∧ St w no w1 [rowC (ci .i64) A13 c14 2 t12, rowC (ci .i64) A31 c32 2 y30] [roC G.cs Aa0_0 ca0_0 a0.Names, roC (ci .i16) Aa0_1 ca0_1 a0.Eats, roC (ci .u16) Aa0_2 ca0_2 a0.Foes, roC (ci .i64) Aa1 ca1 a1, roC (ci .i64) Aa2 ca2 a2]) ?_ ?_
                    · skip
                      refine CJ.block ?_
                      refine CJ.loop (fun k F w1 => ∃ (y34 : Int), F = [(2, .slice Aa2 a2.length ca2), (10, .slice A13 t12.length c14), (11, .slice A22 y21.length c23), (12, .int .u16 y24), (13, .int .i64 y25), (14, .int .i64 y34)] ∧ St w no w1 [rowC (ci .i64) A13 c14 2 t12, rowC (ci .i64) A22 c23 2 y21] [roC G.cs Aa0_0 ca0_0 a0.Names, roC (ci .i16) Aa0_1 ca0_1 a0.Eats, roC (ci .u16) Aa0_2 ca0_2 a0.Foes, roC (ci .i64) Aa1 ca1 a1, roC (ci .i64) Aa2 ca2 a2] ∧ spec_FitGroups.l4 a2 t12 y21 y24 y25 k y34 = some j85) k (F' := [(2, .slice Aa2 a2.length ca2), (10, .slice A13 t12.length c14), (11, .slice A22 y21.length c23), (12, .int .u16 y24), (13, .int .i64 y25), (14, .int .i64 0)]) ⟨rfl, rfl, rfl, rfl, rfl, rfl, trivial⟩ ⟨0, rfl, hS.pick [0, 1] [0, 1, 2, 3, 4] rfl, H⟩ ?_
                      rintro k F w1 ⟨y34, rfl, hS, H⟩
                      cases k with
                      | zero => rw [spec_FitGroups.l4] at H; cases H
                      | succ k =>
                        rw [spec_FitGroups.l4] at H
                        refine CJ.seq ?_
                        refine CJ.seq ?_
                        refine CJ.region ?_
                        refine OJ.pures tU_ok 4 rfl ?_
                        refine OJ.nil (EJ.next ?_)
                        refine CJ.cond rfl (fun hb => ?_) (fun hb => ?_)
                        · replace H := pif_t (of_decide_eq_true hb) H
                          refine CJ.skip (EJ.next ?_)
                          refine CJ.seq ?_
                          refine CJ.block ?_
                          refine CJ.seq ?_
                          refine CJ.region ?_
                          refine OJ.pures tU_ok 3 rfl ?_
                          obtain ⟨u35, hu35, H⟩ := pbind H
                          refine OJ.st rfl rfl rfl (SR.shl rfl rfl rfl (chk_some hu35)) ?_
                          refine OJ.pures tU_ok 2 rfl ?_
                          refine OJ.nil (EJ.next ?_)
                          obtain ⟨j88, H, K88⟩ := pbind H
                          refine CJ.cut (fun F w1 => ∃ (y36 : Bool) , (some y36 : Option Bool) = some j88 ∧ F = [(2, .slice Aa2 a2.length ca2), (10, .slice A13 t12.length c14), (11, .slice A22 y21.length c23), (12, .int .u16 y24), (13, .int .i64 y25), (14, .int .i64 y34), (15, .int .u16 (orI .u16 y24 (shlI .u16 1 (IntKind.u64.wrap y34)))), (94, .bool y36)] ∧ St w no w1 [rowC (ci .i64) A13 c14 2 t12, rowC (ci .i64) A22 c23 2 y21] [roC G.cs Aa0_0 ca0_0 a0.Names, roC (ci .i16) Aa0_1 ca0_1 a0.Eats, roC (ci .u16) Aa0_2 ca0_2 a0.Foes, roC (ci .i64) Aa1 ca1 a1, roC (ci .i64) Aa2 ca2 a2]) ?_ ?_
                          · skip
                            refine CJ.draw [] [0, 1, 2, 3, 4, 5, 6, 7, 8, 9, 10, 11, 12, 13, 14, 15, 16, 17, 18, 19, 20, 21, 22, 23, 24] mixed (by kernel_rfl) hS fun w1 hS => ?_
                            refine DJ.pures tU_ok 3 rfl ?_
                            obtain ⟨u37, hu37, H⟩ := pbind H
                            refine DJ.st rfl rfl rfl rfl rfl (SR.shr rfl rfl rfl (chk_some hu37)) ?_
                            refine DJ.st rfl rfl rfl rfl rfl (SR.rem rfl rfl rfl (by decide)) ?_
                            refine DJ.pures tU_ok 2 rfl ?_
                            refine DJ.split (t := 76) rfl (fun hb => ?_) (fun hb => ?_)
                            · replace H := pif_t (of_decide_eq_true hb) H
                              refine DJ.pures tU_ok 2 rfl ?_
                              obtain ⟨t38, ht38, H⟩ := pbind H
                              obtain ⟨ad38, e38⟩ := (hS.rd' (i := 4) rfl).some' ht38
                              refine DJ.st rfl rfl rfl rfl rfl (SR.idxS tU_ok tI_ok rfl rfl rfl rfl e38 rfl (getI_some ht38).1) ?_
                              refine DJ.st rfl rfl rfl rfl rfl (SR.load rfl rfl (fun w' hx => ld1 tU_ok rfl rfl (CA.ext ((hS.rd' (i := 4) rfl).at_ e38 ht38) hx) rfl)) ?_
                              refine DJ.pures tU_ok 2 rfl ?_
                              obtain ⟨t39, ht39, H⟩ := pbind H
                              obtain ⟨ad39, e39⟩ := (hS.rd (i := 0) rfl).some' ht39
                              refine DJ.st rfl rfl rfl rfl rfl (SR.idxS tU_ok tI_ok rfl rfl rfl rfl e39 rfl (getI_some ht39).1) ?_
                              refine DJ.st rfl rfl rfl rfl rfl (SR.load rfl rfl (fun w' hx => ld1 tU_ok rfl rfl (CA.ext ((hS.rd (i := 0) rfl).at_ e39 ht39) hx) rfl)) ?_
                              refine DJ.pures tU_ok 3 rfl ?_
                              refine DJ.split (t := 87) rfl (fun hb => ?_) (fun hb => ?_)
                              · replace H := pif_t (of_decide_eq_true hb) H
                                refine DJ.pures tU_ok 5 rfl ?_
                                obtain ⟨t40, ht40, H⟩ := pbind H
                                refine DJ.callF rfl rfl rfl rfl rfl rfl rfl hb60 rfl (spec_l06Enough.c k _ A13 c14 t12 (hS.rd (i := 0) rfl) (hS.le (i := 0) rfl) Aa2 ca2 a2 (hS.rd' (i := 4) rfl) (hS.le' (i := 4) rfl) (IntKind.i64.wrap (y25 + 1)) (orI .u16 y24 (shlI .u16 1 (IntKind.u64.wrap y34))) _ ht40) (by rintro v w' ⟨rfl, hs⟩; exact hs) ?_
                                rintro _ w1 ⟨rfl, hs⟩
                                replace hS := hS.grow hs
                                refine DJ.pures tU_ok 1 rfl ?_
                                refine DJ.nil ?_
                                exact EJ.meet (F' := [(2, .slice Aa2 a2.length ca2), (10, .slice A13 t12.length c14), (11, .slice A22 y21.length c23), (12, .int .u16 y24), (13, .int .i64 y25), (14, .int .i64 y34), (15, .int .u16 (orI .u16 y24 (shlI .u16 1 (IntKind.u64.wrap y34)))), (94, .bool t40)]) ⟨rfl, rfl, rfl, rfl, rfl, rfl, rfl, rfl, trivial⟩ ⟨t40, H, rfl, hS.pick [0, 1] [0, 1, 2, 3, 4] rfl⟩
                              · replace H := pif_f (of_decide_eq_false hb) H
                                refine DJ.pures tU_ok 7 rfl ?_
                                refine DJ.nil ?_
                                exact EJ.meet (F' := [(2, .slice Aa2 a2.length ca2), (10, .slice A13 t12.length c14), (11, .slice A22 y21.length c23), (12, .int .u16 y24), (13, .int .i64 y25), (14, .int .i64 y34), (15, .int .u16 (orI .u16 y24 (shlI .u16 1 (IntKind.u64.wrap y34)))), (94, .bool false)]) ⟨rfl, rfl, rfl, rfl, rfl, rfl, rfl, rfl, trivial⟩ ⟨false, H, rfl, hS.pick [0, 1] [0, 1, 2, 3, 4] rfl⟩
                            · replace H := pif_f (of_decide_eq_false hb) H
                              refine DJ.pures tU_ok 18 rfl ?_
                              refine DJ.nil ?_
                              exact EJ.meet (F' := [(2, .slice Aa2 a2.length ca2), (10, .slice A13 t12.length c14), (11, .slice A22 y21.length c23), (12, .int .u16 y24), (13, .int .i64 y25), (14, .int .i64 y34), (15, .int .u16 (orI .u16 y24 (shlI .u16 1 (IntKind.u64.wrap y34)))), (94, .bool false)]) ⟨rfl, rfl, rfl, rfl, rfl, rfl, rfl, rfl, trivial⟩ ⟨false, H, rfl, hS.pick [0, 1] [0, 1, 2, 3, 4] rfl⟩
                          · rintro F w1 ⟨y36, he, rfl, hS⟩
                            obtain rfl := Option.some.inj he
                            have H := K88
                            refine CJ.cond rfl (fun hb => ?_) (fun hb => ?_)
                            · replace H := pif_t hb H
                              refine CJ.seq ?_
                              refine CJ.region ?_
                              refine OJ.pures tU_ok 2 rfl ?_
                              refine OJ.ef rfl rfl rfl (Ef.lit tU_ok tI_ok hS (C := (ci .i64)) rfl rfl rfl rfl rfl rfl ([y34] : List Int) rfl rfl rfl rfl) ?_
                              rintro _ w1 ⟨A41, rfl, hS⟩
                              obtain ⟨u42, hu42, H⟩ := pbind H
                              refine OJ.ew rfl rfl rfl (Ew.append tU_ok tI_ok (C := (ci .i64)) (xs := y21) (ys := ([y34] : List Int)) hS (i := 1) rfl rfl rfl rfl rfl rfl rfl rfl rfl rfl rfl rfl rfl (hS.rd (i := 2) rfl) (chk_some hu42)) ?_
                              rintro _ w1 ⟨A43, c44, rfl, hS⟩
                              refine OJ.pures tU_ok 1 rfl ?_
                              refine OJ.nil (EJ.next ?_)
                              refine CJ.seq ?_
                              refine CJ.region ?_
                              refine OJ.pures tU_ok 2 rfl ?_
                              refine OJ.nil (EJ.next ?_)
                              refine CJ.exit (EJ.bkE rfl (EJ.skE (EJ.skE (EJ.hit (?_)))))
                              exact EJ.meet (F' := [(2, .slice Aa2 a2.length ca2), (10, .slice A13 t12.length c14), (11, .slice A43 (y21 ++ ([y34] : List Int)).length c44), (12, .int .u16 (orI .u16 y24 (shlI .u16 1 (IntKind.u64.wrap y34)))), (13, .int .i64 y25)]) ⟨rfl, rfl, rfl, rfl, rfl, trivial⟩ ⟨(y21 ++ ([y34] : List Int)), (orI .u16 y24 (shlI .u16 1 (IntKind.u64.wrap y34))), A43, c44, H, rfl, hS.pick [0, 1] [0, 1, 2, 3, 4] rfl⟩
                            · replace H := pifb_f hb H
                              refine CJ.skip (EJ.blk (EJ.next ?_))
                              refine CJ.region ?_
                              refine OJ.pures tU_ok 3 rfl ?_
                              refine OJ.nil ?_
                              exact EJ.round k (F' := [(2, .slice Aa2 a2.length ca2), (10, .slice A13 t12.length c14), (11, .slice A22 y21.length c23), (12, .int .u16 y24), (13, .int .i64 y25), (14, .int .i64 (IntKind.i64.wrap (y34 + 1)))]) ⟨rfl, rfl, rfl, rfl, rfl, rfl, trivial⟩ (Nat.lt_succ_self _) ⟨(IntKind.i64.wrap (y34 + 1)), rfl, hS.pick [0, 1] [0, 1, 2, 3, 4] rfl, H⟩
                        · replace H := pif_f (of_decide_eq_false hb) H
                          refine CJ.exit (EJ.skE (EJ.skE (EJ.hit (?_))))
                          exact EJ.meet (F' := [(2, .slice Aa2 a2.length ca2), (10, .slice A13 t12.length c14), (11, .slice A22 y21.length c23), (12, .int .u16 y24), (13, .int .i64 y25)]) ⟨rfl, rfl, rfl, rfl, rfl, trivial⟩ ⟨y21, y24, A22, c23, H, rfl, hS.pick [0, 1] [0, 1, 2, 3, 4] rfl⟩
                    · rintro F w1 ⟨y30, y33, A31, c32, he, rfl, hS⟩
                      obtain rfl := Option.some.inj he
                      have H := K85
                      refine EJ.blk (?_)
                      exact EJ.meet (F' := [(2, .slice Aa2 a2.length ca2), (10, .slice A13 t12.length c14), (11, .slice A31 y30.length c32), (12, .int .u16 y33), (13, .int .i64 y25)]) ⟨rfl, rfl, rfl, rfl, rfl, trivial⟩ ⟨y30, y33, A31, c32, H, rfl, hS.pick [0, 1] [0, 1, 2, 3, 4] rfl⟩
                  · rintro F w1 ⟨y26, y29, A27, c28, he, rfl, hS⟩
                    obtain rfl := Option.some.inj he
                    have H := K80
                    refine CJ.region ?_
                    refine OJ.pures tU_ok 3 rfl ?_
                    refine OJ.nil ?_
                    exact EJ.round k (F' := [(2, .slice Aa2 a2.length ca2), (10, .slice A13 t12.length c14), (11, .slice A27 y26.length c28), (12, .int .u16 y29), (13, .int .i64 (IntKind.i64.wrap (y25 + 1)))]) ⟨rfl, rfl, rfl, rfl, rfl, trivial⟩ (Nat.lt_succ_self _) ⟨y26, y29, (IntKind.i64.wrap (y25 + 1)), A27, c28, rfl, hS.pick [0, 1] [0, 1, 2, 3, 4] rfl, H⟩
                · replace H := pif_f (of_decide_eq_false hb) H
                  refine CJ.exit (EJ.skE (EJ.skE (EJ.hit (?_))))
                  exact EJ.meet (F' := [(11, .slice A22 y21.length c23)]) ⟨rfl, trivial⟩ ⟨y21, A22, c23, H, rfl, hS.pick [1] [0, 1, 2, 3, 4] rfl⟩
            · rintro F w1 ⟨y18, A19, c20, he, rfl, hS⟩
              obtain rfl := Option.some.inj he
              have H := K61
              refine EJ.next ?_
              refine CJ.seq ?_
              refine CJ.region ?_
              refine OJ.pures tU_ok 3 rfl ?_
              refine OJ.nil (EJ.next ?_)
              refine CJ.ret (?_)
              obtain rfl := Option.some.inj H
              exact EJ.fin rfl (.tmp rfl (.tmp rfl .nil)) ⟨A19, c20, rfl, hS.pick [0] [] rfl⟩

def impl_within.f (a0 : Int) (a1 : Int) (a2 : Int) : Option Bool := if a1 ≤ a0 then (some (decide (a0 ≤ a2))) else (some false)
theorem impl_within.c (w : World) (a0 : Int) (a1 : Int) (a2 : Int) (r : Bool) (H : impl_within.f a0 a1 a2 = some r) :
    CV Tryd.prog 63 [.int .i64 a0, .int .i64 a1, .int .i64 a2].toArray w fun v w' => v = .bool r ∧ Ext w w' := by
  have hS := (St.init w no)
  unfold impl_within.f at H
  refine CV.body Tryd.func63 rfl Tryd.ntmps63 rfl ?_
  refine CJ.seq ?_
  refine CJ.region ?_
  refine OJ.pures tU_ok 1 rfl ?_
  refine OJ.nil (EJ.next ?_)
  refine CJ.seq ?_
  refine CJ.region ?_
  refine OJ.pures tU_ok 4 rfl ?_
  refine OJ.split (t := 10) rfl (fun hb => ?_) (fun hb => ?_)
  · replace H := pif_t (of_decide_eq_true hb) H
    refine OJ.pures tU_ok 5 rfl ?_
    refine OJ.nil (EJ.next ?_)
    refine CJ.ret (?_)
    obtain rfl := Option.some.inj H
    exact EJ.fin rfl (.tmp rfl .nil) ⟨rfl, hS.ext⟩
  · replace H := pif_f (of_decide_eq_false hb) H
    refine OJ.pures tU_ok 5 rfl ?_
    refine OJ.nil (EJ.next ?_)
    refine CJ.ret (?_)
    obtain rfl := Option.some.inj H
    exact EJ.fin rfl (.tmp rfl .nil) ⟨rfl, hS.ext⟩

def strings_trimRightByte.l1 (a1 : Int) : Nat → ByteArray → Option ByteArray
  | 0, _ => none
  | k + 1, y2 => if 0 < (y2.size : Int) then ((getB y2 (IntKind.i64.wrap ((y2.size : Int) - 1))).bind fun t3 => if t3 = a1 then ((chk ((0 : Int) ≤ 0 ∧ 0 ≤ (IntKind.i64.wrap ((y2.size : Int) - 1)) ∧ (IntKind.i64.wrap ((y2.size : Int) - 1)) ≤ (y2.size : Int))).bind fun u4 => strings_trimRightByte.l1 a1 k (y2.extract 0 ((IntKind.i64.wrap ((y2.size : Int) - 1)).toNat))) else (some y2)) else (some y2)
def strings_trimRightByte.f (k : Nat) (a0 : ByteArray) (a1 : Int) : Option ByteArray := (strings_trimRightByte.l1 a1 k a0).bind fun y1 => some y1
theorem strings_trimRightByte.c (k : Nat) (w : World) (a0 : ByteArray) (a1 : Int) (r : ByteArray) (H : strings_trimRightByte.f k a0 a1 = some r) :
    CV Tryd.prog 114 [.string a0, .int .u8 a1].toArray w fun v w' => v = .string r ∧ Ext w w' := by
  have hS := (St.init w no)
  unfold strings_trimRightByte.f at H
  refine CV.body Tryd.func114 rfl Tryd.ntmps114 rfl ?_
  refine CJ.seq ?_
  refine CJ.region ?_
  refine OJ.pures tU_ok 1 rfl ?_
  refine OJ.nil (EJ.next ?_)
  obtain ⟨j95, H, K95⟩ := pbind H
  refine CJ.cut (fun F w1 => ∃ (y1 : ByteArray) , (some y1 : Option ByteArray) = some j95 ∧ F = [(0, .string y1)] ∧ St w no w1 [] []) ?_ ?_
  · skip
    refine CJ.block ?_
    refine CJ.loop (fun k F w1 => ∃ (y2 : ByteArray), F = [(0, .string y2), (1, .int .u8 a1)] ∧ St w no w1 [] [] ∧ strings_trimRightByte.l1 a1 k y2 = some j95) k (F' := [(0, .string a0), (1, .int .u8 a1)]) ⟨rfl, rfl, trivial⟩ ⟨a0, rfl, hS.pick [] [] rfl, H⟩ ?_
    rintro k F w1 ⟨y2, rfl, hS, H⟩
    cases k with
    | zero => rw [strings_trimRightByte.l1] at H; cases H
    | succ k =>
      rw [strings_trimRightByte.l1] at H
      refine CJ.seq ?_
      refine CJ.seq ?_
      refine CJ.region ?_
      refine OJ.pures tU_ok 4 rfl ?_
      refine OJ.split (t := 8) rfl (fun hb => ?_) (fun hb => ?_)
      · replace H := pif_t (of_decide_eq_true hb) H
        refine OJ.pures tU_ok 4 rfl ?_
        obtain ⟨t3, ht3, H⟩ := pbind H
        refine OJ.st rfl rfl rfl (SR.idxStr tU_ok rfl rfl rfl rfl ht3) ?_
        refine OJ.pures tU_ok 3 rfl ?_
        refine OJ.nil (EJ.next ?_)
        refine CJ.cond rfl (fun hb => ?_) (fun hb => ?_)
        · replace H := pif_t (of_decide_eq_true hb) H
          refine CJ.skip (EJ.next ?_)
          refine CJ.block ?_
          refine CJ.region ?_
          refine OJ.pures tU_ok 4 rfl ?_
          obtain ⟨u4, hu4, H⟩ := pbind H
          refine OJ.st rfl rfl rfl (SR.cutStr tU_ok (0) ((IntKind.i64.wrap ((y2.size : Int) - 1)).toNat) rfl rfl rfl rfl rfl (.inl ⟨rfl, rfl⟩) (.inr ⟨_, _, rfl, (by have := (chk_some hu4); omega), rfl⟩) (by have := (chk_some hu4); omega) (by have := (chk_some hu4); omega)) ?_
          refine OJ.pures tU_ok 1 rfl ?_
          refine OJ.nil (EJ.blk (?_))
          exact EJ.round k (F' := [(0, .string (y2.extract 0 ((IntKind.i64.wrap ((y2.size : Int) - 1)).toNat))), (1, .int .u8 a1)]) ⟨rfl, rfl, trivial⟩ (Nat.lt_succ_self _) ⟨(y2.extract 0 ((IntKind.i64.wrap ((y2.size : Int) - 1)).toNat)), rfl, hS.pick [] [] rfl, H⟩
        · replace H := pif_f (of_decide_eq_false hb) H
          refine CJ.exit (EJ.skE (EJ.skE (EJ.hit (?_))))
          exact EJ.meet (F' := [(0, .string y2)]) ⟨rfl, trivial⟩ ⟨y2, H, rfl, hS.pick [] [] rfl⟩
      · replace H := pif_f (of_decide_eq_false hb) H
        refine OJ.pures tU_ok 8 rfl ?_
        refine OJ.nil (EJ.next ?_)
        refine CJ.condF rfl ?_
        refine CJ.exit (EJ.skE (EJ.skE (EJ.hit (?_))))
        exact EJ.meet (F' := [(0, .string y2)]) ⟨rfl, trivial⟩ ⟨y2, H, rfl, hS.pick [] [] rfl⟩
  · rintro F w1 ⟨y1, he, rfl, hS⟩
    obtain rfl := Option.some.inj he
    have H := K95
    refine CJ.seq ?_
    refine CJ.region ?_
    refine OJ.pures tU_ok 2 rfl ?_
    refine OJ.nil (EJ.next ?_)
    refine CJ.ret (?_)
    obtain rfl := Option.some.inj H
    exact EJ.fin rfl (.tmp rfl .nil) ⟨rfl, hS.ext⟩

def strings_trimLeftByte.l1 (a1 : Int) : Nat → ByteArray → Option ByteArray
  | 0, _ => none
  | k + 1, y2 => if 0 < (y2.size : Int) then ((getB y2 0).bind fun t3 => if t3 = a1 then ((chk ((0 : Int) ≤ 1 ∧ 1 ≤ (y2.size : Int) ∧ (y2.size : Int) ≤ (y2.size : Int))).bind fun u4 => strings_trimLeftByte.l1 a1 k (y2.extract ((1 : Int).toNat) y2.size)) else (some y2)) else (some y2)
def strings_trimLeftByte.f (k : Nat) (a0 : ByteArray) (a1 : Int) : Option ByteArray := (strings_trimLeftByte.l1 a1 k a0).bind fun y1 => some y1
theorem strings_trimLeftByte.c (k : Nat) (w : World) (a0 : ByteArray) (a1 : Int) (r : ByteArray) (H : strings_trimLeftByte.f k a0 a1 = some r) :
    CV Tryd.prog 113 [.string a0, .int .u8 a1].toArray w fun v w' => v = .string r ∧ Ext w w' := by
  have hS := (St.init w no)
  unfold strings_trimLeftByte.f at H
  refine CV.body Tryd.func113 rfl Tryd.ntmps113 rfl ?_
  refine CJ.seq ?_
  refine CJ.region ?_
  refine OJ.pures tU_ok 1 rfl ?_
  refine OJ.nil (EJ.next ?_)
  obtain ⟨j96, H, K96⟩ := pbind H
  refine CJ.cut (fun F w1 => ∃ (y1 : ByteArray) , (some y1 : Option ByteArray) = some j96 ∧ F = [(0, .string y1)] ∧ St w no w1 [] []) ?_ ?_
  · skip
    refine CJ.block ?_
    refine CJ.loop (fun k F w1 => ∃ (y2 : ByteArray), F = [(0, .string y2), (1, .int .u8 a1)] ∧ St w no w1 [] [] ∧ strings_trimLeftByte.l1 a1 k y2 = some j96) k (F' := [(0, .string a0), (1, .int .u8 a1)]) ⟨rfl, rfl, trivial⟩ ⟨a0, rfl, hS.pick [] [] rfl, H⟩ ?_
    rintro k F w1 ⟨y2, rfl, hS, H⟩
    cases k with
    | zero => rw [strings_trimLeftByte.l1] at H; cases H
    | succ k =>
      rw [strings_trimLeftByte.l1] at H
      refine CJ.seq ?_
      refine CJ.seq ?_
      refine CJ.region ?_
      refine OJ.pures tU_ok 4 rfl ?_
      refine OJ.split (t := 8) rfl (fun hb => ?_) (fun hb => ?_)
      · replace H := pif_t (of_decide_eq_true hb) H
        refine OJ.pures tU_ok 1 rfl ?_
        obtain ⟨t3, ht3, H⟩ := pbind H
        refine OJ.st rfl rfl rfl (SR.idxStr tU_ok rfl rfl rfl rfl ht3) ?_
        refine OJ.pures tU_ok 3 rfl ?_
        refine OJ.nil (EJ.next ?_)
        refine CJ.cond rfl (fun hb => ?_) (fun hb => ?_)
        · replace H := pif_t (of_decide_eq_true hb) H
          refine CJ.skip (EJ.next ?_)
          refine CJ.block ?_
          refine CJ.region ?_
          refine OJ.pures tU_ok 1 rfl ?_
          obtain ⟨u4, hu4, H⟩ := pbind H
          refine OJ.st rfl rfl rfl (SR.cutStr tU_ok ((1 : Int).toNat) (y2.size) rfl rfl rfl rfl rfl (.inr ⟨_, _, rfl, (chk_some hu4).1, rfl⟩) (.inl ⟨rfl, rfl⟩) (by have := (chk_some hu4); omega) (by have := (chk_some hu4); omega)) ?_
          refine OJ.pures tU_ok 1 rfl ?_
          refine OJ.nil (EJ.blk (?_))
          exact EJ.round k (F' := [(0, .string (y2.extract ((1 : Int).toNat) y2.size)), (1, .int .u8 a1)]) ⟨rfl, rfl, trivial⟩ (Nat.lt_succ_self _) ⟨(y2.extract ((1 : Int).toNat) y2.size), rfl, hS.pick [] [] rfl, H⟩
        · replace H := pif_f (of_decide_eq_false hb) H
          refine CJ.exit (EJ.skE (EJ.skE (EJ.hit (?_))))
          exact EJ.meet (F' := [(0, .string y2)]) ⟨rfl, trivial⟩ ⟨y2, H, rfl, hS.pick [] [] rfl⟩
      · replace H := pif_f (of_decide_eq_false hb) H
        refine OJ.pures tU_ok 5 rfl ?_
        refine OJ.nil (EJ.next ?_)
        refine CJ.condF rfl ?_
        refine CJ.exit (EJ.skE (EJ.skE (EJ.hit (?_))))
        exact EJ.meet (F' := [(0, .string y2)]) ⟨rfl, trivial⟩ ⟨y2, H, rfl, hS.pick [] [] rfl⟩
  · rintro F w1 ⟨y1, he, rfl, hS⟩
    obtain rfl := Option.some.inj he
    have H := K96
    refine CJ.seq ?_
    refine CJ.region ?_
    refine OJ.pures tU_ok 2 rfl ?_
    refine OJ.nil (EJ.next ?_)
    refine CJ.ret (?_)
    obtain rfl := Option.some.inj H
    exact EJ.fin rfl (.tmp rfl .nil) ⟨rfl, hS.ext⟩

def strings_makeASCIISet.l1 (a0 : ByteArray) : Nat → (Arr 256 Bool) → Int → Option ((Arr 256 Bool × Bool) ⊕ (Arr 256 Bool))
  | 0, _, _ => none
  | k + 1, y3, y4 => if y4 < (a0.size : Int) then ((getB a0 y4).bind fun t5 => if 128 ≤ t5 then (some (Sum.inl (y3, false))) else ((getI y3.l t5).bind fun t6 => strings_makeASCIISet.l1 a0 k (aset y3 t5.toNat true) (IntKind.i64.wrap (y4 + 1)))) else (some (Sum.inr y3))
def strings_makeASCIISet.f (k : Nat) (a0 : ByteArray) : Option (Arr 256 Bool × Bool) := (strings_makeASCIISet.l1 a0 k (Arr.mk' false : Arr 256 Bool) 0).bind fun s97 => match s97 with | .inl r => some r | .inr y2 => some (y2, true)
theorem strings_makeASCIISet.c (k : Nat) (w : World) (a0 : ByteArray) (r : Arr 256 Bool × Bool) (H : strings_makeASCIISet.f k a0 = some r) :
    CV Tryd.prog 115 [.string a0].toArray w fun v w' => v = .tuple #[.agg ((carr 256 cb).enc r.1).toArray, .bool r.2] ∧ Ext w w' := by
  have hS := (St.init w no)
  unfold strings_makeASCIISet.f at H
  refine CV.body Tryd.func115 rfl Tryd.ntmps115 rfl ?_
  refine CJ.seq ?_
  refine CJ.region ?_
  refine OJ.ef rfl rfl rfl (Ef.alloc hS tI_ok rfl rfl ((carr 256 cb).enc (Arr.mk' false : Arr 256 Bool)) (by kernel_rfl)) ?_
  rintro _ w1 ⟨b1, rfl, hS⟩
  refine OJ.pures tU_ok 1 rfl ?_
  refine OJ.nil (EJ.next ?_)
  refine CJ.seq ?_
  refine CJ.seq ?_
  refine CJ.region ?_
  refine OJ.pures tU_ok 1 rfl ?_
  refine OJ.nil (EJ.next ?_)
  obtain ⟨j97, H, K97⟩ := pbind H
  refine CJ.cut1 (fun F w1 => ∃ (y2 : Arr 256 Bool) , (some (Sum.inr y2) : Option ((Arr 256 Bool × Bool) ⊕ (Arr 256 Bool))) = some j97 ∧ F = [(2, .pointer (some ⟨b1, 0, none⟩))] ∧ St w no w1 [box b1 ((carr 256 cb).enc y2) 132] []) ?_ ?_
  · skip
    refine CJ.block ?_
    refine CJ.loop (fun k F w1 => ∃ (y3 : Arr 256 Bool) (y4 : Int), F = [(0, .string a0), (2, .pointer (some ⟨b1, 0, none⟩)), (4, .int .i64 y4)] ∧ St w no w1 [box b1 ((carr 256 cb).enc y3) 132] [] ∧ strings_makeASCIISet.l1 a0 k y3 y4 = some j97) k (F' := [(0, .string a0), (2, .pointer (some ⟨b1, 0, none⟩)), (4, .int .i64 0)]) ⟨rfl, rfl, rfl, trivial⟩ ⟨(Arr.mk' false : Arr 256 Bool), 0, rfl, hS.pick [0] [] rfl, H⟩ ?_
    rintro k F w1 ⟨y3, y4, rfl, hS, H⟩
    cases k with
    | zero => rw [strings_makeASCIISet.l1] at H; cases H
    | succ k =>
      rw [strings_makeASCIISet.l1] at H
      refine CJ.seq ?_
      refine CJ.seq ?_
      refine CJ.region ?_
      refine OJ.pures tU_ok 4 rfl ?_
      refine OJ.nil (EJ.next ?_)
      refine CJ.cond rfl (fun hb => ?_) (fun hb => ?_)
      · replace H := pif_t (of_decide_eq_true hb) H
        refine CJ.skip (EJ.next ?_)
        refine CJ.seq ?_
        refine CJ.block ?_
        refine CJ.seq ?_
        refine CJ.region ?_
        refine OJ.pures tU_ok 2 rfl ?_
        obtain ⟨t5, ht5, H⟩ := pbind H
        refine OJ.st rfl rfl rfl (SR.idxStr tU_ok rfl rfl rfl rfl ht5) ?_
        refine OJ.pures tU_ok 1 rfl ?_
        refine OJ.nil (EJ.next ?_)
        refine CJ.seq ?_
        refine CJ.seq ?_
        refine CJ.region ?_
        refine OJ.pures tU_ok 2 rfl ?_
        refine OJ.nil (EJ.next ?_)
        refine CJ.cond rfl (fun hb => ?_) (fun hb => ?_)
        · replace H := pif_t (of_decide_eq_true hb) H
          refine CJ.seq ?_
          refine CJ.region ?_
          refine OJ.st rfl rfl rfl (SR.load rfl rfl (fun w' hx => ldE tU_ok tI_ok rfl rfl rfl (CA.ext (hS.cells (i := 0) rfl) hx) rfl)) ?_
          refine OJ.es rfl rfl (Es.put tI_ok hS (i := 0) rfl rfl rfl rfl rfl (vs := (carr 256 cb).enc y3) rfl ((carr 256 cb).len _) ((carr 256 cb).one _) (Put.all (carr 256 cb) y3 y3) (by (try simp only [add_lit, Nat.add_assoc, Nat.zero_add, Nat.add_zero]) <;> rfl)) ?_
          intro w1 hS
          refine OJ.pures tU_ok 1 rfl ?_
          refine OJ.nil (EJ.next ?_)
          refine CJ.ret (EJ.skR (EJ.bkR (EJ.skR (EJ.skR (EJ.bkR (EJ.skR (EJ.skR (?_))))))))
          first | (obtain rfl := Option.some.inj H; have H := K97) | (obtain ⟨q97, H2, e97⟩ := pbind H; obtain rfl := Option.some.inj e97; obtain rfl := Option.some.inj K97; have H := H2)
          obtain rfl := Option.some.inj H
          exact EJ.fin rfl (.cell rfl (ldE tU_ok tI_ok rfl rfl rfl (hS.cells (i := 0) rfl) rfl) (.tmp rfl .nil)) ⟨rfl, hS.ext⟩
        · replace H := pif_f (of_decide_eq_false hb) H
          refine CJ.skip (EJ.next ?_)
          refine CJ.region ?_
          refine OJ.pures tU_ok 1 rfl ?_
          obtain ⟨t6, ht6, H⟩ := pbind H
          refine OJ.st rfl rfl rfl (SR.idxA tU_ok tI_ok rfl rfl rfl rfl rfl (Arr.lt ht6)) ?_
          refine OJ.es rfl rfl (Es.put tI_ok hS (i := 0) rfl rfl rfl rfl rfl (vs := cb.enc true) rfl rfl (one1 rfl) (Put.idx (Put.all cb t6 true) ht6) (by (try simp only [add_lit, Nat.add_assoc, Nat.zero_add, Nat.add_zero]) <;> rfl)) ?_
          intro w1 hS
          refine OJ.nil (EJ.blk (EJ.next ?_))
          refine CJ.region ?_
          refine OJ.pures tU_ok 3 rfl ?_
          refine OJ.nil ?_
          exact EJ.round k (F' := [(0, .string a0), (2, .pointer (some ⟨b1, 0, none⟩)), (4, .int .i64 (IntKind.i64.wrap (y4 + 1)))]) ⟨rfl, rfl, rfl, trivial⟩ (Nat.lt_succ_self _) ⟨(aset y3 t5.toNat true), (IntKind.i64.wrap (y4 + 1)), rfl, hS.pick [0] [] rfl, H⟩
      · replace H := pif_f (of_decide_eq_false hb) H
        refine CJ.exit (EJ.skE (EJ.skE (EJ.hit (?_))))
        exact EJ.meet (F' := [(2, .pointer (some ⟨b1, 0, none⟩))]) ⟨rfl, trivial⟩ ⟨y3, H, rfl, hS.pick [0] [] rfl⟩
  · rintro F w1 ⟨y2, he, rfl, hS⟩
    obtain rfl := Option.some.inj he
    have H := K97
    refine EJ.next ?_
    refine CJ.seq ?_
    refine CJ.region ?_
    refine OJ.st rfl rfl rfl (SR.load rfl rfl (fun w' hx => ldE tU_ok tI_ok rfl rfl rfl (CA.ext (hS.cells (i := 0) rfl) hx) rfl)) ?_
    refine OJ.es rfl rfl (Es.put tI_ok hS (i := 0) rfl rfl rfl rfl rfl (vs := (carr 256 cb).enc y2) rfl ((carr 256 cb).len _) ((carr 256 cb).one _) (Put.all (carr 256 cb) y2 y2) (by (try simp only [add_lit, Nat.add_assoc, Nat.zero_add, Nat.add_zero]) <;> rfl)) ?_
    intro w1 hS
    refine OJ.pures tU_ok 1 rfl ?_
    refine OJ.nil (EJ.next ?_)
    refine CJ.ret (?_)
    obtain rfl := Option.some.inj H
    exact EJ.fin rfl (.cell rfl (ldE tU_ok tI_ok rfl rfl rfl (hS.cells (i := 0) rfl) rfl) (.tmp rfl .nil)) ⟨rfl, hS.ext⟩

def strings_asciiSet_contains.f (a0 : Arr 256 Bool) (a1 : Int) : Option Bool := (getI a0.l a1).bind fun t1 => some t1
theorem strings_asciiSet_contains.c (w : World) (pa0 : Addr) (a0 : Arr 256 Bool) (hp0 : CA w pa0 ((carr 256 cb).enc a0)) (a1 : Int) (r : Bool) (H : strings_asciiSet_contains.f a0 a1 = some r) :
    CV Tryd.prog 131 [.pointer (some pa0), .int .u8 a1].toArray w fun v w' => v = .bool r ∧ Ext w w' := by
  have hS := ((St.init w no).paramP pa0 ((carr 256 cb).enc a0) hp0)
  unfold strings_asciiSet_contains.f at H
  refine CV.body Tryd.func131 rfl Tryd.ntmps131 rfl ?_
  refine CJ.seq ?_
  refine CJ.region ?_
  refine OJ.pures tU_ok 1 rfl ?_
  refine OJ.nil (EJ.next ?_)
  refine CJ.seq ?_
  refine CJ.region ?_
  refine OJ.pures tU_ok 3 rfl ?_
  obtain ⟨t1, ht1, H⟩ := pbind H
  refine OJ.st rfl rfl rfl (SR.idxA tU_ok tI_ok rfl rfl rfl rfl rfl (Arr.lt ht1)) ?_
  refine OJ.st rfl rfl rfl (SR.load rfl rfl (fun w' hx => ld1 tU_ok rfl rfl (CA.ext (CA.idx (hS.ca (i := 0) rfl) ht1) hx) rfl)) ?_
  refine OJ.pures tU_ok 1 rfl ?_
  refine OJ.nil (EJ.next ?_)
  refine CJ.ret (?_)
  obtain rfl := Option.some.inj H
  exact EJ.fin rfl (.tmp rfl .nil) ⟨rfl, hS.ext⟩

def strings_trimRightASCII.l1 (a1 : Arr 256 Bool) : Nat → ByteArray → Option ByteArray
  | 0, _ => none
  | k + 1, y2 => if 0 < (y2.size : Int) then ((getB y2 (IntKind.i64.wrap ((y2.size : Int) - 1))).bind fun t3 => (strings_asciiSet_contains.f a1 t3).bind fun t4 => if (!t4) = true then (some y2) else ((chk ((0 : Int) ≤ 0 ∧ 0 ≤ (IntKind.i64.wrap ((y2.size : Int) - 1)) ∧ (IntKind.i64.wrap ((y2.size : Int) - 1)) ≤ (y2.size : Int))).bind fun u5 => strings_trimRightASCII.l1 a1 k (y2.extract 0 ((IntKind.i64.wrap ((y2.size : Int) - 1)).toNat)))) else (some y2)
def strings_trimRightASCII.f (k : Nat) (a0 : ByteArray) (a1 : Arr 256 Bool) : Option ByteArray := (strings_trimRightASCII.l1 a1 k a0).bind fun y1 => some y1
theorem strings_trimRightASCII.c (k : Nat) (w : World) (a0 : ByteArray) (pa1 : Addr) (a1 : Arr 256 Bool) (hp1 : CA w pa1 ((carr 256 cb).enc a1)) (r : ByteArray) (H : strings_trimRightASCII.f k a0 a1 = some r) :
    CV Tryd.prog 117 [.string a0, .pointer (some pa1)].toArray w fun v w' => v = .string r ∧ Ext w w' := by
  have hS := ((St.init w no).paramP pa1 ((carr 256 cb).enc a1) hp1)
  unfold strings_trimRightASCII.f at H
  refine CV.body Tryd.func117 rfl Tryd.ntmps117 rfl ?_
  refine CJ.seq ?_
  refine CJ.region ?_
  refine OJ.pures tU_ok 1 rfl ?_
  refine OJ.nil (EJ.next ?_)
  obtain ⟨j98, H, K98⟩ := pbind H
  refine CJ.cut (fun F w1 => ∃ (y1 : ByteArray) , (some y1 : Option ByteArray) = some j98 ∧ F = [(0, .string y1)] ∧ St w no w1 [] [roP pa1 ((carr 256 cb).enc a1)]) ?_ ?_
  · skip
    refine CJ.block ?_
    refine CJ.loop (fun k F w1 => ∃ (y2 : ByteArray), F = [(0, .string y2), (1, .pointer (some pa1))] ∧ St w no w1 [] [roP pa1 ((carr 256 cb).enc a1)] ∧ strings_trimRightASCII.l1 a1 k y2 = some j98) k (F' := [(0, .string a0), (1, .pointer (some pa1))]) ⟨rfl, rfl, trivial⟩ ⟨a0, rfl, hS.pick [] [0] rfl, H⟩ ?_
    rintro k F w1 ⟨y2, rfl, hS, H⟩
    cases k with
    | zero => rw [strings_trimRightASCII.l1] at H; cases H
    | succ k =>
      rw [strings_trimRightASCII.l1] at H
      refine CJ.seq ?_
      refine CJ.seq ?_
      refine CJ.region ?_
      refine OJ.pures tU_ok 3 rfl ?_
      refine OJ.nil (EJ.next ?_)
      refine CJ.cond rfl (fun hb => ?_) (fun hb => ?_)
      · replace H := pif_t (of_decide_eq_true hb) H
        refine CJ.skip (EJ.next ?_)
        refine CJ.block ?_
        refine CJ.seq ?_
        refine CJ.seq ?_
        refine CJ.region ?_
        refine OJ.pures tU_ok 5 rfl ?_
        obtain ⟨t3, ht3, H⟩ := pbind H
        refine OJ.st rfl rfl rfl (SR.idxStr tU_ok rfl rfl rfl rfl ht3) ?_
        obtain ⟨t4, ht4, H⟩ := pbind H
        refine OJ.callF rfl rfl rfl rfl rfl hb131 rfl (strings_asciiSet_contains.c _ _ a1 (hS.ca (i := 0) rfl) t3 _ ht4) ?_
        rintro _ w1 ⟨rfl, hs⟩
        replace hS := hS.grow hs
        refine OJ.pures tU_ok 1 rfl ?_
        refine OJ.nil (EJ.next ?_)
        refine CJ.cond rfl (fun hb => ?_) (fun hb => ?_)
        · replace H := pif_t hb H
          refine CJ.exit (EJ.skE (EJ.bkE rfl (EJ.skE (EJ.hit (?_)))))
          exact EJ.meet (F' := [(0, .string y2)]) ⟨rfl, trivial⟩ ⟨y2, H, rfl, hS.pick [] [0] rfl⟩
        · replace H := pifb_f hb H
          refine CJ.skip (EJ.next ?_)
          refine CJ.region ?_
          refine OJ.pures tU_ok 4 rfl ?_
          obtain ⟨u5, hu5, H⟩ := pbind H
          refine OJ.st rfl rfl rfl (SR.cutStr tU_ok (0) ((IntKind.i64.wrap ((y2.size : Int) - 1)).toNat) rfl rfl rfl rfl rfl (.inl ⟨rfl, rfl⟩) (.inr ⟨_, _, rfl, (by have := (chk_some hu5); omega), rfl⟩) (by have := (chk_some hu5); omega) (by have := (chk_some hu5); omega)) ?_
          refine OJ.pures tU_ok 1 rfl ?_
          refine OJ.nil (EJ.blk (?_))
          exact EJ.round k (F' := [(0, .string (y2.extract 0 ((IntKind.i64.wrap ((y2.size : Int) - 1)).toNat))), (1, .pointer (some pa1))]) ⟨rfl, rfl, trivial⟩ (Nat.lt_succ_self _) ⟨(y2.extract 0 ((IntKind.i64.wrap ((y2.size : Int) - 1)).toNat)), rfl, hS.pick [] [0] rfl, H⟩
      · replace H := pif_f (of_decide_eq_false hb) H
        refine CJ.exit (EJ.skE (EJ.skE (EJ.hit (?_))))
        exact EJ.meet (F' := [(0, .string y2)]) ⟨rfl, trivial⟩ ⟨y2, H, rfl, hS.pick [] [0] rfl⟩
  · rintro F w1 ⟨y1, he, rfl, hS⟩
    obtain rfl := Option.some.inj he
    have H := K98
    refine CJ.seq ?_
    refine CJ.region ?_
    refine OJ.pures tU_ok 2 rfl ?_
    refine OJ.nil (EJ.next ?_)
    refine CJ.ret (?_)
    obtain rfl := Option.some.inj H
    exact EJ.fin rfl (.tmp rfl .nil) ⟨rfl, hS.ext⟩

def strings_trimLeftASCII.l1 (a1 : Arr 256 Bool) : Nat → ByteArray → Option ByteArray
  | 0, _ => none
  | k + 1, y2 => if 0 < (y2.size : Int) then ((getB y2 0).bind fun t3 => (strings_asciiSet_contains.f a1 t3).bind fun t4 => if (!t4) = true then (some y2) else ((chk ((0 : Int) ≤ 1 ∧ 1 ≤ (y2.size : Int) ∧ (y2.size : Int) ≤ (y2.size : Int))).bind fun u5 => strings_trimLeftASCII.l1 a1 k (y2.extract ((1 : Int).toNat) y2.size))) else (some y2)
def strings_trimLeftASCII.f (k : Nat) (a0 : ByteArray) (a1 : Arr 256 Bool) : Option ByteArray := (strings_trimLeftASCII.l1 a1 k a0).bind fun y1 => some y1
theorem strings_trimLeftASCII.c (k : Nat) (w : World) (a0 : ByteArray) (pa1 : Addr) (a1 : Arr 256 Bool) (hp1 : CA w pa1 ((carr 256 cb).enc a1)) (r : ByteArray) (H : strings_trimLeftASCII.f k a0 a1 = some r) :
    CV Tryd.prog 116 [.string a0, .pointer (some pa1)].toArray w fun v w' => v = .string r ∧ Ext w w' := by
  have hS := ((St.init w no).paramP pa1 ((carr 256 cb).enc a1) hp1)
  unfold strings_trimLeftASCII.f at H
  refine CV.body Tryd.func116 rfl Tryd.ntmps116 rfl ?_
  refine CJ.seq ?_
  refine CJ.region ?_
  refine OJ.pures tU_ok 1 rfl ?_
  refine OJ.nil (EJ.next ?_)
  obtain ⟨j99, H, K99⟩ := pbind H
  refine CJ.cut (fun F w1 => ∃ (y1 : ByteArray) , (some y1 : Option ByteArray) = some j99 ∧ F = [(0, .string y1)] ∧ St w no w1 [] [roP pa1 ((carr 256 cb).enc a1)]) ?_ ?_
  · skip
    refine CJ.block ?_
    refine CJ.loop (fun k F w1 => ∃ (y2 : ByteArray), F = [(0, .string y2), (1, .pointer (some pa1))] ∧ St w no w1 [] [roP pa1 ((carr 256 cb).enc a1)] ∧ strings_trimLeftASCII.l1 a1 k y2 = some j99) k (F' := [(0, .string a0), (1, .pointer (some pa1))]) ⟨rfl, rfl, trivial⟩ ⟨a0, rfl, hS.pick [] [0] rfl, H⟩ ?_
    rintro k F w1 ⟨y2, rfl, hS, H⟩
    cases k with
    | zero => rw [strings_trimLeftASCII.l1] at H; cases H
    | succ k =>
      rw [strings_trimLeftASCII.l1] at H
      refine CJ.seq ?_
      refine CJ.seq ?_
      refine CJ.region ?_
      refine OJ.pures tU_ok 3 rfl ?_
      refine OJ.nil (EJ.next ?_)
      refine CJ.cond rfl (fun hb => ?_) (fun hb => ?_)
      · replace H := pif_t (of_decide_eq_true hb) H
        refine CJ.skip (EJ.next ?_)
        refine CJ.block ?_
        refine CJ.seq ?_
        refine CJ.seq ?_
        refine CJ.region ?_
        refine OJ.pures tU_ok 2 rfl ?_
        obtain ⟨t3, ht3, H⟩ := pbind H
        refine OJ.st rfl rfl rfl (SR.idxStr tU_ok rfl rfl rfl rfl ht3) ?_
        obtain ⟨t4, ht4, H⟩ := pbind H
        refine OJ.callF rfl rfl rfl rfl rfl hb131 rfl (strings_asciiSet_contains.c _ _ a1 (hS.ca (i := 0) rfl) t3 _ ht4) ?_
        rintro _ w1 ⟨rfl, hs⟩
        replace hS := hS.grow hs
        refine OJ.pures tU_ok 1 rfl ?_
        refine OJ.nil (EJ.next ?_)
        refine CJ.cond rfl (fun hb => ?_) (fun hb => ?_)
        · replace H := pif_t hb H
          refine CJ.exit (EJ.skE (EJ.bkE rfl (EJ.skE (EJ.hit (?_)))))
          exact EJ.meet (F' := [(0, .string y2)]) ⟨rfl, trivial⟩ ⟨y2, H, rfl, hS.pick [] [0] rfl⟩
        · replace H := pifb_f hb H
          refine CJ.skip (EJ.next ?_)
          refine CJ.region ?_
          refine OJ.pures tU_ok 1 rfl ?_
          obtain ⟨u5, hu5, H⟩ := pbind H
          refine OJ.st rfl rfl rfl (SR.cutStr tU_ok ((1 : Int).toNat) (y2.size) rfl rfl rfl rfl rfl (.inr ⟨_, _, rfl, (chk_some hu5).1, rfl⟩) (.inl ⟨rfl, rfl⟩) (by have := (chk_some hu5); omega) (by have := (chk_some hu5); omega)) ?_
          refine OJ.pures tU_ok 1 rfl ?_
          refine OJ.nil (EJ.blk (?_))
          exact EJ.round k (F' := [(0, .string (y2.extract ((1 : Int).toNat) y2.size)), (1, .pointer (some pa1))]) ⟨rfl, rfl, trivial⟩ (Nat.lt_succ_self _) ⟨(y2.extract ((1 : Int).toNat) y2.size), rfl, hS.pick [] [0] rfl, H⟩
      · replace H := pif_f (of_decide_eq_false hb) H
        refine CJ.exit (EJ.skE (EJ.skE (EJ.hit (?_))))
        exact EJ.meet (F' := [(0, .string y2)]) ⟨rfl, trivial⟩ ⟨y2, H, rfl, hS.pick [] [0] rfl⟩
  · rintro F w1 ⟨y1, he, rfl, hS⟩
    obtain rfl := Option.some.inj he
    have H := K99
    refine CJ.seq ?_
    refine CJ.region ?_
    refine OJ.pures tU_ok 2 rfl ?_
    refine OJ.nil (EJ.next ?_)
    refine CJ.ret (?_)
    obtain rfl := Option.some.inj H
    exact EJ.fin rfl (.tmp rfl .nil) ⟨rfl, hS.ext⟩

def unicode_utf8_RuneStart.f (a0 : Int) : Option Bool := some (decide ((andI .u8 a0 192) ≠ 128))
theorem unicode_utf8_RuneStart.c (w : World) (a0 : Int) (r : Bool) (H : unicode_utf8_RuneStart.f a0 = some r) :
    CV Tryd.prog 142 [.int .u8 a0].toArray w fun v w' => v = .bool r ∧ Ext w w' := by
  have hS := (St.init w no)
  unfold unicode_utf8_RuneStart.f at H
  refine CV.body Tryd.func142 rfl Tryd.ntmps142 rfl ?_
  refine CJ.seq ?_
  refine CJ.region ?_
  refine OJ.pures tU_ok 1 rfl ?_
  refine OJ.nil (EJ.next ?_)
  refine CJ.seq ?_
  refine CJ.region ?_
  refine OJ.pures tU_ok 4 rfl ?_
  refine OJ.nil (EJ.next ?_)
  refine CJ.ret (?_)
  obtain rfl := Option.some.inj H
  exact EJ.fin rfl (.tmp rfl .nil) ⟨rfl, hS.ext⟩

def unicode_utf8_decodeRuneInStringSlow.f (a0 : ByteArray) : Option (Int × Int) := if (a0.size : Int) < 1 then (some (65533, 0)) else none
theorem unicode_utf8_decodeRuneInStringSlow.c (w : World) (a0 : ByteArray) (r : Int × Int) (H : unicode_utf8_decodeRuneInStringSlow.f a0 = some r) :
    CV Tryd.prog 140 [.string a0].toArray w fun v w' => v = .tuple #[.int .i32 r.1, .int .i64 r.2] ∧ Ext w w' := by
  have hS := (St.init w no)
  unfold unicode_utf8_decodeRuneInStringSlow.f at H
  refine CV.body Tryd.func140 rfl Tryd.ntmps140 rfl ?_
  refine CJ.seq ?_
  refine CJ.region ?_
  refine OJ.pures tU_ok 2 rfl ?_
  refine OJ.nil (EJ.next ?_)
  refine CJ.seq ?_
  refine CJ.region ?_
  refine OJ.pures tU_ok 3 rfl ?_
  refine OJ.nil (EJ.next ?_)
  refine CJ.seq ?_
  refine CJ.seq ?_
  refine CJ.region ?_
  refine OJ.pures tU_ok 2 rfl ?_
  refine OJ.nil (EJ.next ?_)
  refine CJ.cond rfl (fun hb => ?_) (fun hb => ?_)
  · replace H := pif_t (of_decide_eq_true hb) H
    refine CJ.seq ?_
    refine CJ.region ?_
    refine OJ.pures tU_ok 2 rfl ?_
    refine OJ.nil (EJ.next ?_)
    refine CJ.ret (EJ.skR (?_))
    obtain rfl := Option.some.inj H
    exact EJ.fin rfl (.tmp rfl (.tmp rfl .nil)) ⟨rfl, hS.ext⟩
  · replace H := pif_f (of_decide_eq_false hb) H
    cases H

def unicode_utf8_DecodeRuneInString.f (a0 : ByteArray) : Option (Int × Int) := (if a0 ≠ ByteArray.empty then ((getB a0 0).bind fun t2 => some (decide (t2 < 128))) else (some false)).bind fun y1 => if y1 = true then ((getB a0 0).bind fun t3 => some (IntKind.i32.wrap t3, 1)) else ((unicode_utf8_decodeRuneInStringSlow.f a0).bind fun t4 => some (t4.1, t4.2))
theorem unicode_utf8_DecodeRuneInString.c (w : World) (a0 : ByteArray) (r : Int × Int) (H : unicode_utf8_DecodeRuneInString.f a0 = some r) :
    CV Tryd.prog 132 [.string a0].toArray w fun v w' => v = .tuple #[.int .i32 r.1, .int .i64 r.2] ∧ Ext w w' := by
  have hS := (St.init w no)
  unfold unicode_utf8_DecodeRuneInString.f at H
  refine CV.body Tryd.func132 rfl Tryd.ntmps132 rfl ?_
  refine CJ.seq ?_
  refine CJ.region ?_
  refine OJ.pures tU_ok 2 rfl ?_
  refine OJ.nil (EJ.next ?_)
  refine CJ.seq ?_
  obtain ⟨j102, H, K102⟩ := pbind H
  refine CJ.cut (fun F w1 => ∃ (y1 : Bool) , (some y1 : Option Bool) = some j102 ∧ F = [(0, .string a0), (10, .bool y1)] ∧ St w no w1 [] []) ?_ ?_
  · skip
    refine CJ.region ?_
    refine OJ.pures tU_ok 3 rfl ?_
    refine OJ.split (t := 6) rfl (fun hb => ?_) (fun hb => ?_)
    · replace H := pif_t (of_decide_eq_true hb) H
      refine OJ.pures tU_ok 1 rfl ?_
      obtain ⟨t2, ht2, H⟩ := pbind H
      refine OJ.st rfl rfl rfl (SR.idxStr tU_ok rfl rfl rfl rfl ht2) ?_
      refine OJ.pures tU_ok 2 rfl ?_
      refine OJ.nil ?_
      exact EJ.meet (F' := [(0, .string a0), (10, .bool (decide (t2 < 128)))]) ⟨rfl, rfl, trivial⟩ ⟨(decide (t2 < 128)), H, rfl, hS.pick [] [] rfl⟩
    · replace H := pif_f (of_decide_eq_false hb) H
      refine OJ.pures tU_ok 4 rfl ?_
      refine OJ.nil ?_
      exact EJ.meet (F' := [(0, .string a0), (10, .bool false)]) ⟨rfl, rfl, trivial⟩ ⟨false, H, rfl, hS.pick [] [] rfl⟩
  · rintro F w1 ⟨y1, he, rfl, hS⟩
    obtain rfl := Option.some.inj he
    have H := K102
    refine CJ.cond rfl (fun hb => ?_) (fun hb => ?_)
    · replace H := pif_t hb H
      refine CJ.seq ?_
      refine CJ.region ?_
      refine OJ.pures tU_ok 1 rfl ?_
      obtain ⟨t3, ht3, H⟩ := pbind H
      refine OJ.st rfl rfl rfl (SR.idxStr tU_ok rfl rfl rfl rfl ht3) ?_
      refine OJ.pures tU_ok 3 rfl ?_
      refine OJ.nil (EJ.next ?_)
      refine CJ.ret (EJ.skR (?_))
      obtain rfl := Option.some.inj H
      exact EJ.fin rfl (.tmp rfl (.tmp rfl .nil)) ⟨rfl, hS.ext⟩
    · replace H := pifb_f hb H
      refine CJ.region ?_
      refine OJ.pures tU_ok 1 rfl ?_
      obtain ⟨t4, ht4, H⟩ := pbind H
      refine OJ.callF rfl rfl rfl rfl rfl hb140 rfl (unicode_utf8_decodeRuneInStringSlow.c _ a0 _ ht4) ?_
      rintro _ w1 ⟨rfl, hs⟩
      replace hS := hS.grow hs
      refine OJ.pures tU_ok 5 rfl ?_
      refine OJ.nil (EJ.next ?_)
      refine CJ.ret (?_)
      obtain rfl := Option.some.inj H
      exact EJ.fin rfl (.tmp rfl (.tmp rfl .nil)) ⟨rfl, hS.ext⟩

def unicode_utf8_DecodeLastRuneInString.l1 (a0 : ByteArray) : Nat → Int → Option Int
  | 0, _ => none
  | k + 1, y3 => if (if (IntKind.i64.wrap ((a0.size : Int) - 4)) < 0 then 0 else (IntKind.i64.wrap ((a0.size : Int) - 4))) ≤ y3 then ((getB a0 y3).bind fun t4 => (unicode_utf8_RuneStart.f t4).bind fun t5 => if t5 = true then (some y3) else (unicode_utf8_DecodeLastRuneInString.l1 a0 k (IntKind.i64.wrap (y3 - 1)))) else (some y3)
def unicode_utf8_DecodeLastRuneInString.f (k : Nat) (a0 : ByteArray) : Option (Int × Int) := if (a0.size : Int) = 0 then (some (65533, 0)) else ((getB a0 (IntKind.i64.wrap ((a0.size : Int) - 1))).bind fun t1 => if (IntKind.i32.wrap t1) < 128 then (some (IntKind.i32.wrap t1, 1)) else ((unicode_utf8_DecodeLastRuneInString.l1 a0 k (IntKind.i64.wrap ((IntKind.i64.wrap ((a0.size : Int) - 1)) - 1))).bind fun y2 => if y2 < 0 then ((chk ((0 : Int) ≤ 0 ∧ 0 ≤ (a0.size : Int) ∧ (a0.size : Int) ≤ (a0.size : Int))).bind fun u6 => (unicode_utf8_DecodeRuneInString.f (a0.extract ((0 : Int).toNat) ((a0.size : Int).toNat))).bind fun t7 => if (IntKind.i64.wrap (0 + t7.2)) ≠ (a0.size : Int) then (some (65533, 1)) else (some (t7.1, t7.2))) else ((chk ((0 : Int) ≤ y2 ∧ y2 ≤ (a0.size : Int) ∧ (a0.size : Int) ≤ (a0.size : Int))).bind fun u8 => (unicode_utf8_DecodeRuneInString.f (a0.extract y2.toNat ((a0.size : Int).toNat))).bind fun t9 => if (IntKind.i64.wrap (y2 + t9.2)) ≠ (a0.size : Int) then (some (65533, 1)) else (some (t9.1, t9.2)))))
theorem unicode_utf8_DecodeLastRuneInString.c (k : Nat) (w : World) (a0 : ByteArray) (r : Int × Int) (H : unicode_utf8_DecodeLastRuneInString.f k a0 = some r) :
    CV Tryd.prog 134 [.string a0].toArray w fun v w' => v = .tuple #[.int .i32 r.1, .int .i64 r.2] ∧ Ext w w' := by
  have hS := (St.init w no)
  unfold unicode_utf8_DecodeLastRuneInString.f at H
  refine CV.body Tryd.func134 rfl Tryd.ntmps134 rfl ?_
  refine CJ.seq ?_
  refine CJ.region ?_
  refine OJ.pures tU_ok 2 rfl ?_
  refine OJ.nil (EJ.next ?_)
  refine CJ.seq ?_
  refine CJ.region ?_
  refine OJ.pures tU_ok 3 rfl ?_
  refine OJ.nil (EJ.next ?_)
  refine CJ.seq ?_
  refine CJ.seq ?_
  refine CJ.region ?_
  refine OJ.pures tU_ok 2 rfl ?_
  refine OJ.nil (EJ.next ?_)
  refine CJ.cond rfl (fun hb => ?_) (fun hb => ?_)
  · replace H := pif_t (of_decide_eq_true hb) H
    refine CJ.seq ?_
    refine CJ.region ?_
    refine OJ.pures tU_ok 2 rfl ?_
    refine OJ.nil (EJ.next ?_)
    refine CJ.ret (EJ.skR (?_))
    obtain rfl := Option.some.inj H
    exact EJ.fin rfl (.tmp rfl (.tmp rfl .nil)) ⟨rfl, hS.ext⟩
  · replace H := pif_f (of_decide_eq_false hb) H
    refine CJ.skip (EJ.next ?_)
    refine CJ.seq ?_
    refine CJ.region ?_
    refine OJ.pures tU_ok 3 rfl ?_
    refine OJ.nil (EJ.next ?_)
    refine CJ.seq ?_
    refine CJ.region ?_
    refine OJ.pures tU_ok 2 rfl ?_
    obtain ⟨t1, ht1, H⟩ := pbind H
    refine OJ.st rfl rfl rfl (SR.idxStr tU_ok rfl rfl rfl rfl ht1) ?_
    refine OJ.pures tU_ok 2 rfl ?_
    refine OJ.nil (EJ.next ?_)
    refine CJ.seq ?_
    refine CJ.seq ?_
    refine CJ.region ?_
    refine OJ.pures tU_ok 2 rfl ?_
    refine OJ.nil (EJ.next ?_)
    refine CJ.cond rfl (fun hb => ?_) (fun hb => ?_)
    · replace H := pif_t (of_decide_eq_true hb) H
      refine CJ.seq ?_
      refine CJ.region ?_
      refine OJ.pures tU_ok 3 rfl ?_
      refine OJ.nil (EJ.next ?_)
      refine CJ.ret (EJ.skR (?_))
      obtain rfl := Option.some.inj H
      exact EJ.fin rfl (.tmp rfl (.tmp rfl .nil)) ⟨rfl, hS.ext⟩
    · replace H := pif_f (of_decide_eq_false hb) H
      refine CJ.skip (EJ.next ?_)
      refine CJ.seq ?_
      refine CJ.region ?_
      refine OJ.pures tU_ok 4 rfl ?_
      refine OJ.nil (EJ.next ?_)
      refine CJ.seq ?_
      refine CJ.seq ?_
      refine CJ.region ?_
      refine OJ.pures tU_ok 3 rfl ?_
      refine OJ.nil (EJ.next ?_)
      obtain ⟨j101, H, K101⟩ := pbind H
      refine CJ.cut1 (fun F w1 => ∃ (y2 : Int) , (some y2 : Option Int) = some j101 ∧ F = [(0, .string a0), (4, .int .i64 (a0.size : Int)), (5, .int .i64 y2)] ∧ St w no w1 [] []) ?_ ?_
      · skip
        refine CJ.block ?_
        refine CJ.loop (fun k F w1 => ∃ (y3 : Int), F = [(0, .string a0), (4, .int .i64 (a0.size : Int)), (5, .int .i64 y3), (6, .int .i64 (if (IntKind.i64.wrap ((a0.size : Int) - 4)) < 0 then 0 else (IntKind.i64.wrap ((a0.size : Int) - 4))))] ∧ St w no w1 [] [] ∧ unicode_utf8_DecodeLastRuneInString.l1 a0 k y3 = some j101) k (F' := [(0, .string a0), (4, .int .i64 (a0.size : Int)), (5, .int .i64 (IntKind.i64.wrap ((IntKind.i64.wrap ((a0.size : Int) - 1)) - 1))), (6, .int .i64 (if (IntKind.i64.wrap ((a0.size : Int) - 4)) < 0 then 0 else (IntKind.i64.wrap ((a0.size : Int) - 4))))]) ⟨rfl, rfl, rfl, rfl, trivial⟩ ⟨(IntKind.i64.wrap ((IntKind.i64.wrap ((a0.size : Int) - 1)) - 1)), rfl, hS.pick [] [] rfl, H⟩ ?_
        rintro k F w1 ⟨y3, rfl, hS, H⟩
        cases k with
        | zero => rw [unicode_utf8_DecodeLastRuneInString.l1] at H; cases H
        | succ k =>
          rw [unicode_utf8_DecodeLastRuneInString.l1] at H
          refine CJ.seq ?_
          refine CJ.seq ?_
          refine CJ.region ?_
          refine OJ.pures tU_ok 3 rfl ?_
          refine OJ.nil (EJ.next ?_)
          refine CJ.cond rfl (fun hb => ?_) (fun hb => ?_)
          · replace H := pif_t (of_decide_eq_true hb) H
            refine CJ.skip (EJ.next ?_)
            refine CJ.seq ?_
            refine CJ.block ?_
            refine CJ.seq ?_
            refine CJ.region ?_
            refine OJ.pures tU_ok 2 rfl ?_
            obtain ⟨t4, ht4, H⟩ := pbind H
            refine OJ.st rfl rfl rfl (SR.idxStr tU_ok rfl rfl rfl rfl ht4) ?_
            obtain ⟨t5, ht5, H⟩ := pbind H
            refine OJ.callF rfl rfl rfl rfl rfl hb142 rfl (unicode_utf8_RuneStart.c _ t4 _ ht5) ?_
            rintro _ w1 ⟨rfl, hs⟩
            replace hS := hS.grow hs
            refine OJ.nil (EJ.next ?_)
            refine CJ.cond rfl (fun hb => ?_) (fun hb => ?_)
            · replace H := pif_t hb H
              refine CJ.exit (EJ.bkE rfl (EJ.skE (EJ.skE (EJ.hit (?_)))))
              exact EJ.meet (F' := [(0, .string a0), (4, .int .i64 (a0.size : Int)), (5, .int .i64 y3)]) ⟨rfl, rfl, rfl, trivial⟩ ⟨y3, H, rfl, hS.pick [] [] rfl⟩
            · replace H := pifb_f hb H
              refine CJ.skip (EJ.blk (EJ.next ?_))
              refine CJ.region ?_
              refine OJ.pures tU_ok 3 rfl ?_
              refine OJ.nil ?_
              exact EJ.round k (F' := [(0, .string a0), (4, .int .i64 (a0.size : Int)), (5, .int .i64 (IntKind.i64.wrap (y3 - 1))), (6, .int .i64 (if (IntKind.i64.wrap ((a0.size : Int) - 4)) < 0 then 0 else (IntKind.i64.wrap ((a0.size : Int) - 4))))]) ⟨rfl, rfl, rfl, rfl, trivial⟩ (Nat.lt_succ_self _) ⟨(IntKind.i64.wrap (y3 - 1)), rfl, hS.pick [] [] rfl, H⟩
          · replace H := pif_f (of_decide_eq_false hb) H
            refine CJ.exit (EJ.skE (EJ.skE (EJ.hit (?_))))
            exact EJ.meet (F' := [(0, .string a0), (4, .int .i64 (a0.size : Int)), (5, .int .i64 y3)]) ⟨rfl, rfl, rfl, trivial⟩ ⟨y3, H, rfl, hS.pick [] [] rfl⟩
      · rintro F w1 ⟨y2, he, rfl, hS⟩
        obtain rfl := Option.some.inj he
        have H := K101
        refine EJ.next ?_
        refine CJ.seq ?_
        refine CJ.seq ?_
        refine CJ.region ?_
        refine OJ.pures tU_ok 2 rfl ?_
        refine OJ.nil (EJ.next ?_)
        refine CJ.cond rfl (fun hb => ?_) (fun hb => ?_)
        · replace H := pif_t (of_decide_eq_true hb) H
          refine CJ.region ?_
          refine OJ.pures tU_ok 1 rfl ?_
          refine OJ.nil (EJ.next ?_)
          refine CJ.seq ?_
          refine CJ.region ?_
          refine OJ.pures tU_ok 3 rfl ?_
          obtain ⟨u6, hu6, H⟩ := pbind H
          refine OJ.st rfl rfl rfl (SR.cutStr tU_ok ((0 : Int).toNat) ((a0.size : Int).toNat) rfl rfl rfl rfl rfl (.inr ⟨_, _, rfl, (chk_some hu6).1, rfl⟩) (.inr ⟨_, _, rfl, (by have := (chk_some hu6); omega), rfl⟩) (by have := (chk_some hu6); omega) (by have := (chk_some hu6); omega)) ?_
          obtain ⟨t7, ht7, H⟩ := pbind H
          refine OJ.callF rfl rfl rfl rfl rfl hb132 rfl (unicode_utf8_DecodeRuneInString.c _ (a0.extract ((0 : Int).toNat) ((a0.size : Int).toNat)) _ ht7) ?_
          rintro _ w1 ⟨rfl, hs⟩
          replace hS := hS.grow hs
          refine OJ.pures tU_ok 5 rfl ?_
          refine OJ.nil (EJ.next ?_)
          refine CJ.seq ?_
          refine CJ.seq ?_
          refine CJ.region ?_
          refine OJ.pures tU_ok 5 rfl ?_
          refine OJ.nil (EJ.next ?_)
          refine CJ.cond rfl (fun hb => ?_) (fun hb => ?_)
          · replace H := pif_t (of_decide_eq_true hb) H
            refine CJ.seq ?_
            refine CJ.region ?_
            refine OJ.pures tU_ok 2 rfl ?_
            refine OJ.nil (EJ.next ?_)
            refine CJ.ret (EJ.skR (?_))
            obtain rfl := Option.some.inj H
            exact EJ.fin rfl (.tmp rfl (.tmp rfl .nil)) ⟨rfl, hS.ext⟩
          · replace H := pif_f (of_decide_eq_false hb) H
            refine CJ.skip (EJ.next ?_)
            refine CJ.seq ?_
            refine CJ.region ?_
            refine OJ.pures tU_ok 4 rfl ?_
            refine OJ.nil (EJ.next ?_)
            refine CJ.ret (?_)
            obtain rfl := Option.some.inj H
            exact EJ.fin rfl (.tmp rfl (.tmp rfl .nil)) ⟨rfl, hS.ext⟩
        · replace H := pif_f (of_decide_eq_false hb) H
          refine CJ.skip (EJ.next ?_)
          refine CJ.seq ?_
          refine CJ.region ?_
          refine OJ.pures tU_ok 3 rfl ?_
          obtain ⟨u8, hu8, H⟩ := pbind H
          refine OJ.st rfl rfl rfl (SR.cutStr tU_ok (y2.toNat) ((a0.size : Int).toNat) rfl rfl rfl rfl rfl (.inr ⟨_, _, rfl, (chk_some hu8).1, rfl⟩) (.inr ⟨_, _, rfl, (by have := (chk_some hu8); omega), rfl⟩) (by have := (chk_some hu8); omega) (by have := (chk_some hu8); omega)) ?_
          obtain ⟨t9, ht9, H⟩ := pbind H
          refine OJ.callF rfl rfl rfl rfl rfl hb132 rfl (unicode_utf8_DecodeRuneInString.c _ (a0.extract y2.toNat ((a0.size : Int).toNat)) _ ht9) ?_
          rintro _ w1 ⟨rfl, hs⟩
          replace hS := hS.grow hs
          refine OJ.pures tU_ok 5 rfl ?_
          refine OJ.nil (EJ.next ?_)
          refine CJ.seq ?_
          refine CJ.seq ?_
          refine CJ.region ?_
          refine OJ.pures tU_ok 5 rfl ?_
          refine OJ.nil (EJ.next ?_)
          refine CJ.cond rfl (fun hb => ?_) (fun hb => ?_)
          · replace H := pif_t (of_decide_eq_true hb) H
            refine CJ.seq ?_
            refine CJ.region ?_
            refine OJ.pures tU_ok 2 rfl ?_
            refine OJ.nil (EJ.next ?_)
            refine CJ.ret (EJ.skR (?_))
            obtain rfl := Option.some.inj H
            exact EJ.fin rfl (.tmp rfl (.tmp rfl .nil)) ⟨rfl, hS.ext⟩
          · replace H := pif_f (of_decide_eq_false hb) H
            refine CJ.skip (EJ.next ?_)
            refine CJ.seq ?_
            refine CJ.region ?_
            refine OJ.pures tU_ok 4 rfl ?_
            refine OJ.nil (EJ.next ?_)
            refine CJ.ret (?_)
            obtain rfl := Option.some.inj H
            exact EJ.fin rfl (.tmp rfl (.tmp rfl .nil)) ⟨rfl, hS.ext⟩

def unicode_utf8_ValidRune.f (a0 : Int) : Option Bool := (if 0 ≤ a0 then (some (decide (a0 < 55296))) else (some false)).bind fun y1 => if y1 = true then (some true) else (if 57343 < a0 then (if a0 ≤ 1114111 then (some true) else (some false)) else (some false))
theorem unicode_utf8_ValidRune.c (w : World) (a0 : Int) (r : Bool) (H : unicode_utf8_ValidRune.f a0 = some r) :
    CV Tryd.prog 146 [.int .i32 a0].toArray w fun v w' => v = .bool r ∧ Ext w w' := by
  have hS := (St.init w no)
  unfold unicode_utf8_ValidRune.f at H
  refine CV.body Tryd.func146 rfl Tryd.ntmps146 rfl ?_
  refine CJ.seq ?_
  refine CJ.region ?_
  refine OJ.pures tU_ok 1 rfl ?_
  refine OJ.nil (EJ.next ?_)
  refine CJ.seq ?_
  refine CJ.block ?_
  obtain ⟨j104, H, K104⟩ := pbind H
  refine CJ.cut (fun F w1 => ∃ (y1 : Bool) , (some y1 : Option Bool) = some j104 ∧ F = [(0, .int .i32 a0), (3, .bool y1)] ∧ St w no w1 [] []) ?_ ?_
  · skip
    refine CJ.region ?_
    refine OJ.pures tU_ok 3 rfl ?_
    refine OJ.split (t := 6) rfl (fun hb => ?_) (fun hb => ?_)
    · replace H := pif_t (of_decide_eq_true hb) H
      refine OJ.pures tU_ok 4 rfl ?_
      refine OJ.nil ?_
      exact EJ.meet (F' := [(0, .int .i32 a0), (3, .bool (decide (a0 < 55296)))]) ⟨rfl, rfl, trivial⟩ ⟨(decide (a0 < 55296)), H, rfl, hS.pick [] [] rfl⟩
    · replace H := pif_f (of_decide_eq_false hb) H
      refine OJ.pures tU_ok 4 rfl ?_
      refine OJ.nil ?_
      exact EJ.meet (F' := [(0, .int .i32 a0), (3, .bool false)]) ⟨rfl, rfl, trivial⟩ ⟨false, H, rfl, hS.pick [] [] rfl⟩
  · rintro F w1 ⟨y1, he, rfl, hS⟩
    obtain rfl := Option.some.inj he
    have H := K104
    refine CJ.cond rfl (fun hb => ?_) (fun hb => ?_)
    · replace H := pif_t hb H
      refine CJ.seq ?_
      refine CJ.region ?_
      refine OJ.pures tU_ok 1 rfl ?_
      refine OJ.nil (EJ.next ?_)
      refine CJ.ret (EJ.bkR (EJ.skR (?_)))
      obtain rfl := Option.some.inj H
      exact EJ.fin rfl (.tmp rfl .nil) ⟨rfl, hS.ext⟩
    · replace H := pifb_f hb H
      refine CJ.seq ?_
      refine CJ.region ?_
      refine OJ.pures tU_ok 3 rfl ?_
      refine OJ.split (t := 13) rfl (fun hb => ?_) (fun hb => ?_)
      · replace H := pif_t (of_decide_eq_true hb) H
        refine OJ.pures tU_ok 4 rfl ?_
        refine OJ.nil (EJ.next ?_)
        refine CJ.cond rfl (fun hb => ?_) (fun hb => ?_)
        · replace H := pif_t (of_decide_eq_true hb) H
          refine CJ.seq ?_
          refine CJ.region ?_
          refine OJ.pures tU_ok 1 rfl ?_
          refine OJ.nil (EJ.next ?_)
          refine CJ.ret (EJ.bkR (EJ.skR (?_)))
          obtain rfl := Option.some.inj H
          exact EJ.fin rfl (.tmp rfl .nil) ⟨rfl, hS.ext⟩
        · replace H := pif_f (of_decide_eq_false hb) H
          refine CJ.skip (EJ.blk (EJ.next ?_))
          refine CJ.seq ?_
          refine CJ.region ?_
          refine OJ.pures tU_ok 1 rfl ?_
          refine OJ.nil (EJ.next ?_)
          refine CJ.ret (?_)
          obtain rfl := Option.some.inj H
          exact EJ.fin rfl (.tmp rfl .nil) ⟨rfl, hS.ext⟩
      · replace H := pif_f (of_decide_eq_false hb) H
        refine OJ.pures tU_ok 4 rfl ?_
        refine OJ.nil (EJ.next ?_)
        refine CJ.condF rfl ?_
        refine CJ.skip (EJ.blk (EJ.next ?_))
        refine CJ.seq ?_
        refine CJ.region ?_
        refine OJ.pures tU_ok 1 rfl ?_
        refine OJ.nil (EJ.next ?_)
        refine CJ.ret (?_)
        obtain rfl := Option.some.inj H
        exact EJ.fin rfl (.tmp rfl .nil) ⟨rfl, hS.ext⟩

def strings_IndexRune.f (a0 : ByteArray) (a1 : Int) : Option Int := (if 0 ≤ a1 then (some (decide (a1 < 128))) else (some false)).bind fun y1 => if y1 = true then none else (if a1 = 65533 then none else ((unicode_utf8_ValidRune.f a1).bind fun t2 => if (!t2) = true then (some (-1)) else none))
theorem strings_IndexRune.c (w : World) (a0 : ByteArray) (a1 : Int) (r : Int) (H : strings_IndexRune.f a0 a1 = some r) :
    CV Tryd.prog 141 [.string a0, .int .i32 a1].toArray w fun v w' => v = .int .i64 r ∧ Ext w w' := by
  have hS := (St.init w no)
  unfold strings_IndexRune.f at H
  refine CV.body Tryd.func141 rfl Tryd.ntmps141 rfl ?_
  refine CJ.seq ?_
  refine CJ.region ?_
  refine OJ.pures tU_ok 1 rfl ?_
  refine OJ.nil (EJ.next ?_)
  refine CJ.block ?_
  obtain ⟨j103, H, K103⟩ := pbind H
  refine CJ.cut (fun F w1 => ∃ (y1 : Bool) , (some y1 : Option Bool) = some j103 ∧ F = [(0, .string a0), (1, .int .i32 a1), (160, .bool y1)] ∧ St w no w1 [] []) ?_ ?_
  · skip
    refine CJ.region ?_
    refine OJ.pures tU_ok 3 rfl ?_
    refine OJ.split (t := 163) rfl (fun hb => ?_) (fun hb => ?_)
    · replace H := pif_t (of_decide_eq_true hb) H
      refine OJ.pures tU_ok 4 rfl ?_
      refine OJ.nil ?_
      exact EJ.meet (F' := [(0, .string a0), (1, .int .i32 a1), (160, .bool (decide (a1 < 128)))]) ⟨rfl, rfl, rfl, trivial⟩ ⟨(decide (a1 < 128)), H, rfl, hS.pick [] [] rfl⟩
    · replace H := pif_f (of_decide_eq_false hb) H
      refine OJ.pures tU_ok 4 rfl ?_
      refine OJ.nil ?_
      exact EJ.meet (F' := [(0, .string a0), (1, .int .i32 a1), (160, .bool false)]) ⟨rfl, rfl, rfl, trivial⟩ ⟨false, H, rfl, hS.pick [] [] rfl⟩
  · rintro F w1 ⟨y1, he, rfl, hS⟩
    obtain rfl := Option.some.inj he
    have H := K103
    refine CJ.cond rfl (fun hb => ?_) (fun hb => ?_)
    · replace H := pif_t hb H
      cases H
    · replace H := pifb_f hb H
      refine CJ.seq ?_
      refine CJ.region ?_
      refine OJ.pures tU_ok 3 rfl ?_
      refine OJ.nil (EJ.next ?_)
      refine CJ.cond rfl (fun hb => ?_) (fun hb => ?_)
      · replace H := pif_t (of_decide_eq_true hb) H
        cases H
      · replace H := pif_f (of_decide_eq_false hb) H
        refine CJ.seq ?_
        refine CJ.region ?_
        refine OJ.pures tU_ok 1 rfl ?_
        obtain ⟨t2, ht2, H⟩ := pbind H
        refine OJ.callF rfl rfl rfl rfl rfl hb146 rfl (unicode_utf8_ValidRune.c _ a1 _ ht2) ?_
        rintro _ w1 ⟨rfl, hs⟩
        replace hS := hS.grow hs
        refine OJ.pures tU_ok 2 rfl ?_
        refine OJ.nil (EJ.next ?_)
        refine CJ.cond rfl (fun hb => ?_) (fun hb => ?_)
        · replace H := pif_t hb H
          refine CJ.seq ?_
          refine CJ.region ?_
          refine OJ.pures tU_ok 1 rfl ?_
          refine OJ.nil (EJ.next ?_)
          refine CJ.ret (EJ.bkR (?_))
          obtain rfl := Option.some.inj H
          exact EJ.fin rfl (.tmp rfl .nil) ⟨rfl, hS.ext⟩
        · replace H := pifb_f hb H
          cases H

def strings_ContainsRune.f (a0 : ByteArray) (a1 : Int) : Option Bool := (strings_IndexRune.f a0 a1).bind fun t1 => some (decide (0 ≤ t1))
theorem strings_ContainsRune.c (w : World) (a0 : ByteArray) (a1 : Int) (r : Bool) (H : strings_ContainsRune.f a0 a1 = some r) :
    CV Tryd.prog 133 [.string a0, .int .i32 a1].toArray w fun v w' => v = .bool r ∧ Ext w w' := by
  have hS := (St.init w no)
  unfold strings_ContainsRune.f at H
  refine CV.body Tryd.func133 rfl Tryd.ntmps133 rfl ?_
  refine CJ.seq ?_
  refine CJ.region ?_
  refine OJ.pures tU_ok 1 rfl ?_
  refine OJ.nil (EJ.next ?_)
  refine CJ.seq ?_
  refine CJ.region ?_
  refine OJ.pures tU_ok 2 rfl ?_
  obtain ⟨t1, ht1, H⟩ := pbind H
  refine OJ.callF rfl rfl rfl rfl rfl hb141 rfl (strings_IndexRune.c _ a0 a1 _ ht1) ?_
  rintro _ w1 ⟨rfl, hs⟩
  replace hS := hS.grow hs
  refine OJ.pures tU_ok 2 rfl ?_
  refine OJ.nil (EJ.next ?_)
  refine CJ.ret (?_)
  obtain rfl := Option.some.inj H
  exact EJ.fin rfl (.tmp rfl .nil) ⟨rfl, hS.ext⟩

def strings_trimRightUnicode.l1 (a1 : ByteArray) : Nat → ByteArray → Option ByteArray
  | 0, _ => none
  | k + 1, y2 => if 0 < (y2.size : Int) then ((getB y2 (IntKind.i64.wrap ((y2.size : Int) - 1))).bind fun t3 => if 128 ≤ (IntKind.i32.wrap t3) then ((unicode_utf8_DecodeLastRuneInString.f k y2).bind fun t4 => (strings_ContainsRune.f a1 t4.1).bind fun t5 => if (!t5) = true then (some y2) else ((chk ((0 : Int) ≤ 0 ∧ 0 ≤ (IntKind.i64.wrap ((y2.size : Int) - t4.2)) ∧ (IntKind.i64.wrap ((y2.size : Int) - t4.2)) ≤ (y2.size : Int))).bind fun u6 => strings_trimRightUnicode.l1 a1 k (y2.extract 0 ((IntKind.i64.wrap ((y2.size : Int) - t4.2)).toNat)))) else ((strings_ContainsRune.f a1 (IntKind.i32.wrap t3)).bind fun t7 => if (!t7) = true then (some y2) else ((chk ((0 : Int) ≤ 0 ∧ 0 ≤ (IntKind.i64.wrap ((y2.size : Int) - 1)) ∧ (IntKind.i64.wrap ((y2.size : Int) - 1)) ≤ (y2.size : Int))).bind fun u8 => strings_trimRightUnicode.l1 a1 k (y2.extract 0 ((IntKind.i64.wrap ((y2.size : Int) - 1)).toNat))))) else (some y2)
def strings_trimRightUnicode.f (k : Nat) (a0 : ByteArray) (a1 : ByteArray) : Option ByteArray := (strings_trimRightUnicode.l1 a1 k a0).bind fun y1 => some y1
theorem strings_trimRightUnicode.c (k : Nat) (w : World) (a0 : ByteArray) (a1 : ByteArray) (r : ByteArray) (H : strings_trimRightUnicode.f k a0 a1 = some r) :
    CV Tryd.prog 119 [.string a0, .string a1].toArray w fun v w' => v = .string r ∧ Ext w w' := by
  have hS := (St.init w no)
  unfold strings_trimRightUnicode.f at H
  refine CV.body Tryd.func119 rfl Tryd.ntmps119 rfl ?_
  refine CJ.seq ?_
  refine CJ.region ?_
  refine OJ.pures tU_ok 1 rfl ?_
  refine OJ.nil (EJ.next ?_)
  obtain ⟨j100, H, K100⟩ := pbind H
  refine CJ.cut (fun F w1 => ∃ (y1 : ByteArray) , (some y1 : Option ByteArray) = some j100 ∧ F = [(0, .string y1)] ∧ St w no w1 [] []) ?_ ?_
  · skip
    refine CJ.block ?_
    refine CJ.loop (fun k F w1 => ∃ (y2 : ByteArray), F = [(0, .string y2), (1, .string a1)] ∧ St w no w1 [] [] ∧ strings_trimRightUnicode.l1 a1 k y2 = some j100) k (F' := [(0, .string a0), (1, .string a1)]) ⟨rfl, rfl, trivial⟩ ⟨a0, rfl, hS.pick [] [] rfl, H⟩ ?_
    rintro k F w1 ⟨y2, rfl, hS, H⟩
    cases k with
    | zero => rw [strings_trimRightUnicode.l1] at H; cases H
    | succ k =>
      rw [strings_trimRightUnicode.l1] at H
      refine CJ.seq ?_
      refine CJ.seq ?_
      refine CJ.region ?_
      refine OJ.pures tU_ok 3 rfl ?_
      refine OJ.nil (EJ.next ?_)
      refine CJ.cond rfl (fun hb => ?_) (fun hb => ?_)
      · replace H := pif_t (of_decide_eq_true hb) H
        refine CJ.skip (EJ.next ?_)
        refine CJ.block ?_
        refine CJ.seq ?_
        refine CJ.region ?_
        refine OJ.pures tU_ok 4 rfl ?_
        obtain ⟨t3, ht3, H⟩ := pbind H
        refine OJ.st rfl rfl rfl (SR.idxStr tU_ok rfl rfl rfl rfl ht3) ?_
        refine OJ.pures tU_ok 3 rfl ?_
        refine OJ.nil (EJ.next ?_)
        refine CJ.seq ?_
        refine CJ.seq ?_
        refine CJ.region ?_
        refine OJ.pures tU_ok 2 rfl ?_
        refine OJ.nil (EJ.next ?_)
        refine CJ.cond rfl (fun hb => ?_) (fun hb => ?_)
        · replace H := pif_t (of_decide_eq_true hb) H
          refine CJ.region ?_
          refine OJ.pures tU_ok 1 rfl ?_
          obtain ⟨t4, ht4, H⟩ := pbind H
          refine OJ.callF rfl rfl rfl rfl rfl hb134 rfl (unicode_utf8_DecodeLastRuneInString.c k _ y2 _ ht4) ?_
          rintro _ w1 ⟨rfl, hs⟩
          replace hS := hS.grow hs
          refine OJ.pures tU_ok 5 rfl ?_
          refine OJ.nil (EJ.next ?_)
          refine CJ.seq ?_
          refine CJ.seq ?_
          refine CJ.region ?_
          refine OJ.pures tU_ok 2 rfl ?_
          obtain ⟨t5, ht5, H⟩ := pbind H
          refine OJ.callF rfl rfl rfl rfl rfl hb133 rfl (strings_ContainsRune.c _ a1 t4.1 _ ht5) ?_
          rintro _ w1 ⟨rfl, hs⟩
          replace hS := hS.grow hs
          refine OJ.pures tU_ok 1 rfl ?_
          refine OJ.nil (EJ.next ?_)
          refine CJ.cond rfl (fun hb => ?_) (fun hb => ?_)
          · replace H := pif_t hb H
            refine CJ.exit (EJ.skE (EJ.bkE rfl (EJ.skE (EJ.hit (?_)))))
            exact EJ.meet (F' := [(0, .string y2)]) ⟨rfl, trivial⟩ ⟨y2, H, rfl, hS.pick [] [] rfl⟩
          · replace H := pifb_f hb H
            refine CJ.skip (EJ.next ?_)
            refine CJ.region ?_
            refine OJ.pures tU_ok 5 rfl ?_
            obtain ⟨u6, hu6, H⟩ := pbind H
            refine OJ.st rfl rfl rfl (SR.cutStr tU_ok (0) ((IntKind.i64.wrap ((y2.size : Int) - t4.2)).toNat) rfl rfl rfl rfl rfl (.inl ⟨rfl, rfl⟩) (.inr ⟨_, _, rfl, (by have := (chk_some hu6); omega), rfl⟩) (by have := (chk_some hu6); omega) (by have := (chk_some hu6); omega)) ?_
            refine OJ.pures tU_ok 1 rfl ?_
            refine OJ.nil (EJ.blk (?_))
            exact EJ.round k (F' := [(0, .string (y2.extract 0 ((IntKind.i64.wrap ((y2.size : Int) - t4.2)).toNat))), (1, .string a1)]) ⟨rfl, rfl, trivial⟩ (Nat.lt_succ_self _) ⟨(y2.extract 0 ((IntKind.i64.wrap ((y2.size : Int) - t4.2)).toNat)), rfl, hS.pick [] [] rfl, H⟩
        · replace H := pif_f (of_decide_eq_false hb) H
          refine CJ.skip (EJ.next ?_)
          refine CJ.seq ?_
          refine CJ.seq ?_
          refine CJ.region ?_
          refine OJ.pures tU_ok 2 rfl ?_
          obtain ⟨t7, ht7, H⟩ := pbind H
          refine OJ.callF rfl rfl rfl rfl rfl hb133 rfl (strings_ContainsRune.c _ a1 (IntKind.i32.wrap t3) _ ht7) ?_
          rintro _ w1 ⟨rfl, hs⟩
          replace hS := hS.grow hs
          refine OJ.pures tU_ok 1 rfl ?_
          refine OJ.nil (EJ.next ?_)
          refine CJ.cond rfl (fun hb => ?_) (fun hb => ?_)
          · replace H := pif_t hb H
            refine CJ.exit (EJ.skE (EJ.bkE rfl (EJ.skE (EJ.hit (?_)))))
            exact EJ.meet (F' := [(0, .string y2)]) ⟨rfl, trivial⟩ ⟨y2, H, rfl, hS.pick [] [] rfl⟩
          · replace H := pifb_f hb H
            refine CJ.skip (EJ.next ?_)
            refine CJ.region ?_
            refine OJ.pures tU_ok 5 rfl ?_
            obtain ⟨u8, hu8, H⟩ := pbind H
            refine OJ.st rfl rfl rfl (SR.cutStr tU_ok (0) ((IntKind.i64.wrap ((y2.size : Int) - 1)).toNat) rfl rfl rfl rfl rfl (.inl ⟨rfl, rfl⟩) (.inr ⟨_, _, rfl, (by have := (chk_some hu8); omega), rfl⟩) (by have := (chk_some hu8); omega) (by have := (chk_some hu8); omega)) ?_
            refine OJ.pures tU_ok 1 rfl ?_
            refine OJ.nil (EJ.blk (?_))
            exact EJ.round k (F' := [(0, .string (y2.extract 0 ((IntKind.i64.wrap ((y2.size : Int) - 1)).toNat))), (1, .string a1)]) ⟨rfl, rfl, trivial⟩ (Nat.lt_succ_self _) ⟨(y2.extract 0 ((IntKind.i64.wrap ((y2.size : Int) - 1)).toNat)), rfl, hS.pick [] [] rfl, H⟩
      · replace H := pif_f (of_decide_eq_false hb) H
        refine CJ.exit (EJ.skE (EJ.skE (EJ.hit (?_))))
        exact EJ.meet (F' := [(0, .string y2)]) ⟨rfl, trivial⟩ ⟨y2, H, rfl, hS.pick [] [] rfl⟩
  · rintro F w1 ⟨y1, he, rfl, hS⟩
    obtain rfl := Option.some.inj he
    have H := K100
    refine CJ.seq ?_
    refine CJ.region ?_
    refine OJ.pures tU_ok 2 rfl ?_
    refine OJ.nil (EJ.next ?_)
    refine CJ.ret (?_)
    obtain rfl := Option.some.inj H
    exact EJ.fin rfl (.tmp rfl .nil) ⟨rfl, hS.ext⟩

def strings_trimLeftUnicode.l1 (a1 : ByteArray) : Nat → ByteArray → Option ByteArray
  | 0, _ => none
  | k + 1, y2 => if 0 < (y2.size : Int) then ((unicode_utf8_DecodeRuneInString.f y2).bind fun t3 => (strings_ContainsRune.f a1 t3.1).bind fun t4 => if (!t4) = true then (some y2) else ((chk ((0 : Int) ≤ t3.2 ∧ t3.2 ≤ (y2.size : Int) ∧ (y2.size : Int) ≤ (y2.size : Int))).bind fun u5 => strings_trimLeftUnicode.l1 a1 k (y2.extract t3.2.toNat y2.size))) else (some y2)
def strings_trimLeftUnicode.f (k : Nat) (a0 : ByteArray) (a1 : ByteArray) : Option ByteArray := (strings_trimLeftUnicode.l1 a1 k a0).bind fun y1 => some y1
theorem strings_trimLeftUnicode.c (k : Nat) (w : World) (a0 : ByteArray) (a1 : ByteArray) (r : ByteArray) (H : strings_trimLeftUnicode.f k a0 a1 = some r) :
    CV Tryd.prog 118 [.string a0, .string a1].toArray w fun v w' => v = .string r ∧ Ext w w' := by
  have hS := (St.init w no)
  unfold strings_trimLeftUnicode.f at H
  refine CV.body Tryd.func118 rfl Tryd.ntmps118 rfl ?_
  refine CJ.seq ?_
  refine CJ.region ?_
  refine OJ.pures tU_ok 1 rfl ?_
  refine OJ.nil (EJ.next ?_)
  obtain ⟨j105, H, K105⟩ := pbind H
  refine CJ.cut (fun F w1 => ∃ (y1 : ByteArray) , (some y1 : Option ByteArray) = some j105 ∧ F = [(0, .string y1)] ∧ St w no w1 [] []) ?_ ?_
  · skip
    refine CJ.block ?_
    refine CJ.loop (fun k F w1 => ∃ (y2 : ByteArray), F = [(0, .string y2), (1, .string a1)] ∧ St w no w1 [] [] ∧ strings_trimLeftUnicode.l1 a1 k y2 = some j105) k (F' := [(0, .string a0), (1, .string a1)]) ⟨rfl, rfl, trivial⟩ ⟨a0, rfl, hS.pick [] [] rfl, H⟩ ?_
    rintro k F w1 ⟨y2, rfl, hS, H⟩
    cases k with
    | zero => rw [strings_trimLeftUnicode.l1] at H; cases H
    | succ k =>
      rw [strings_trimLeftUnicode.l1] at H
      refine CJ.seq ?_
      refine CJ.seq ?_
      refine CJ.region ?_
      refine OJ.pures tU_ok 3 rfl ?_
      refine OJ.nil (EJ.next ?_)
      refine CJ.cond rfl (fun hb => ?_) (fun hb => ?_)
      · replace H := pif_t (of_decide_eq_true hb) H
        refine CJ.skip (EJ.next ?_)
        refine CJ.block ?_
        refine CJ.seq ?_
        refine CJ.region ?_
        refine OJ.pures tU_ok 1 rfl ?_
        obtain ⟨t3, ht3, H⟩ := pbind H
        refine OJ.callF rfl rfl rfl rfl rfl hb132 rfl (unicode_utf8_DecodeRuneInString.c _ y2 _ ht3) ?_
        rintro _ w1 ⟨rfl, hs⟩
        replace hS := hS.grow hs
        refine OJ.pures tU_ok 5 rfl ?_
        refine OJ.nil (EJ.next ?_)
        refine CJ.seq ?_
        refine CJ.seq ?_
        refine CJ.region ?_
        refine OJ.pures tU_ok 2 rfl ?_
        obtain ⟨t4, ht4, H⟩ := pbind H
        refine OJ.callF rfl rfl rfl rfl rfl hb133 rfl (strings_ContainsRune.c _ a1 t3.1 _ ht4) ?_
        rintro _ w1 ⟨rfl, hs⟩
        replace hS := hS.grow hs
        refine OJ.pures tU_ok 1 rfl ?_
        refine OJ.nil (EJ.next ?_)
        refine CJ.cond rfl (fun hb => ?_) (fun hb => ?_)
        · replace H := pif_t hb H
          refine CJ.exit (EJ.skE (EJ.bkE rfl (EJ.skE (EJ.hit (?_)))))
          exact EJ.meet (F' := [(0, .string y2)]) ⟨rfl, trivial⟩ ⟨y2, H, rfl, hS.pick [] [] rfl⟩
        · replace H := pifb_f hb H
          refine CJ.skip (EJ.next ?_)
          refine CJ.region ?_
          refine OJ.pures tU_ok 2 rfl ?_
          obtain ⟨u5, hu5, H⟩ := pbind H
          refine OJ.st rfl rfl rfl (SR.cutStr tU_ok (t3.2.toNat) (y2.size) rfl rfl rfl rfl rfl (.inr ⟨_, _, rfl, (chk_some hu5).1, rfl⟩) (.inl ⟨rfl, rfl⟩) (by have := (chk_some hu5); omega) (by have := (chk_some hu5); omega)) ?_
          refine OJ.pures tU_ok 1 rfl ?_
          refine OJ.nil (EJ.blk (?_))
          exact EJ.round k (F' := [(0, .string (y2.extract t3.2.toNat y2.size)), (1, .string a1)]) ⟨rfl, rfl, trivial⟩ (Nat.lt_succ_self _) ⟨(y2.extract t3.2.toNat y2.size), rfl, hS.pick [] [] rfl, H⟩
      · replace H := pif_f (of_decide_eq_false hb) H
        refine CJ.exit (EJ.skE (EJ.skE (EJ.hit (?_))))
        exact EJ.meet (F' := [(0, .string y2)]) ⟨rfl, trivial⟩ ⟨y2, H, rfl, hS.pick [] [] rfl⟩
  · rintro F w1 ⟨y1, he, rfl, hS⟩
    obtain rfl := Option.some.inj he
    have H := K105
    refine CJ.seq ?_
    refine CJ.region ?_
    refine OJ.pures tU_ok 2 rfl ?_
    refine OJ.nil (EJ.next ?_)
    refine CJ.ret (?_)
    obtain rfl := Option.some.inj H
    exact EJ.fin rfl (.tmp rfl .nil) ⟨rfl, hS.ext⟩

def strings_Trim.f (k : Nat) (a0 : ByteArray) (a1 : ByteArray) : Option ByteArray := (if a0 = ByteArray.empty then (some true) else (some (decide (a1 = ByteArray.empty)))).bind fun y1 => if y1 = true then (some a0) else ((if (a1.size : Int) = 1 then ((getB a1 0).bind fun t3 => some (decide (t3 < 128))) else (some false)).bind fun y2 => if y2 = true then ((getB a1 0).bind fun t4 => (getB a1 0).bind fun t5 => (strings_trimRightByte.f k a0 t4).bind fun t6 => (strings_trimLeftByte.f k t6 t5).bind fun t7 => some t7) else ((strings_makeASCIISet.f k a1).bind fun t8 => if t8.2 = true then ((strings_trimRightASCII.f k a0 t8.1).bind fun t10 => (strings_trimLeftASCII.f k t10 t8.1).bind fun t11 => some t11) else ((strings_trimRightUnicode.f k a0 a1).bind fun t12 => (strings_trimLeftUnicode.f k t12 a1).bind fun t13 => some t13)))
theorem strings_Trim.c (k : Nat) (w : World) (a0 : ByteArray) (a1 : ByteArray) (r : ByteArray) (H : strings_Trim.f k a0 a1 = some r) :
    CV Tryd.prog 94 [.string a0, .string a1].toArray w fun v w' => v = .string r ∧ Ext w w' := by
  have hS := (St.init w no)
  unfold strings_Trim.f at H
  refine CV.body Tryd.func94 rfl Tryd.ntmps94 rfl ?_
  refine CJ.seq ?_
  refine CJ.region ?_
  refine OJ.pures tU_ok 1 rfl ?_
  refine OJ.nil (EJ.next ?_)
  refine CJ.seq ?_
  obtain ⟨j93, H, K93⟩ := pbind H
  refine CJ.cut (fun F w1 => ∃ (y1 : Bool) , (some y1 : Option Bool) = some j93 ∧ F = [(0, .string a0), (1, .string a1), (12, .bool y1)] ∧ St w no w1 [] []) ?_ ?_
  · skip
    refine CJ.region ?_
    refine OJ.pures tU_ok 3 rfl ?_
    refine OJ.split (t := 9) rfl (fun hb => ?_) (fun hb => ?_)
    · replace H := pif_t (of_decide_eq_true hb) H
      refine OJ.pures tU_ok 3 rfl ?_
      refine OJ.nil ?_
      exact EJ.meet (F' := [(0, .string a0), (1, .string a1), (12, .bool true)]) ⟨rfl, rfl, rfl, trivial⟩ ⟨true, H, rfl, hS.pick [] [] rfl⟩
    · replace H := pif_f (of_decide_eq_false hb) H
      refine OJ.pures tU_ok 3 rfl ?_
      refine OJ.nil ?_
      exact EJ.meet (F' := [(0, .string a0), (1, .string a1), (12, .bool (decide (a1 = ByteArray.empty)))]) ⟨rfl, rfl, rfl, trivial⟩ ⟨(decide (a1 = ByteArray.empty)), H, rfl, hS.pick [] [] rfl⟩
  · rintro F w1 ⟨y1, he, rfl, hS⟩
    obtain rfl := Option.some.inj he
    have H := K93
    refine CJ.cond rfl (fun hb => ?_) (fun hb => ?_)
    · replace H := pif_t hb H
      refine CJ.seq ?_
      refine CJ.region ?_
      refine OJ.pures tU_ok 2 rfl ?_
      refine OJ.nil (EJ.next ?_)
      refine CJ.ret (EJ.skR (?_))
      obtain rfl := Option.some.inj H
      exact EJ.fin rfl (.tmp rfl .nil) ⟨rfl, hS.ext⟩
    · replace H := pifb_f hb H
      refine CJ.skip (EJ.next ?_)
      refine CJ.seq ?_
      obtain ⟨j94, H, K94⟩ := pbind H
      refine CJ.cut (fun F w1 => ∃ (y2 : Bool) , (some y2 : Option Bool) = some j94 ∧ F = [(0, .string a0), (1, .string a1), (21, .bool y2)] ∧ St w no w1 [] []) ?_ ?_
      · skip
        refine CJ.region ?_
        refine OJ.pures tU_ok 4 rfl ?_
        refine OJ.split (t := 17) rfl (fun hb => ?_) (fun hb => ?_)
        · replace H := pif_t (of_decide_eq_true hb) H
          refine OJ.pures tU_ok 1 rfl ?_
          obtain ⟨t3, ht3, H⟩ := pbind H
          refine OJ.st rfl rfl rfl (SR.idxStr tU_ok rfl rfl rfl rfl ht3) ?_
          refine OJ.pures tU_ok 2 rfl ?_
          refine OJ.nil ?_
          exact EJ.meet (F' := [(0, .string a0), (1, .string a1), (21, .bool (decide (t3 < 128)))]) ⟨rfl, rfl, rfl, trivial⟩ ⟨(decide (t3 < 128)), H, rfl, hS.pick [] [] rfl⟩
        · replace H := pif_f (of_decide_eq_false hb) H
          refine OJ.pures tU_ok 4 rfl ?_
          refine OJ.nil ?_
          exact EJ.meet (F' := [(0, .string a0), (1, .string a1), (21, .bool false)]) ⟨rfl, rfl, rfl, trivial⟩ ⟨false, H, rfl, hS.pick [] [] rfl⟩
      · rintro F w1 ⟨y2, he, rfl, hS⟩
        obtain rfl := Option.some.inj he
        have H := K94
        refine CJ.cond rfl (fun hb => ?_) (fun hb => ?_)
        · replace H := pif_t hb H
          refine CJ.seq ?_
          refine CJ.draw [] [0, 1, 2, 4, 5, 3, 6, 7] mixed (by kernel_rfl) hS fun w1 hS => ?_
          refine DJ.pures tU_ok 2 rfl ?_
          obtain ⟨t4, ht4, H⟩ := pbind H
          refine DJ.st rfl rfl rfl rfl rfl (SR.idxStr tU_ok rfl rfl rfl rfl ht4) ?_
          refine DJ.pures tU_ok 1 rfl ?_
          obtain ⟨t5, ht5, H⟩ := pbind H
          refine DJ.st rfl rfl rfl rfl rfl (SR.idxStr tU_ok rfl rfl rfl rfl ht5) ?_
          obtain ⟨t6, ht6, H⟩ := pbind H
          refine DJ.callF rfl rfl rfl rfl rfl rfl rfl hb114 rfl (strings_trimRightByte.c k _ a0 t4 _ ht6) (by rintro v w' ⟨rfl, hs⟩; exact hs) ?_
          rintro _ w1 ⟨rfl, hs⟩
          replace hS := hS.grow hs
          obtain ⟨t7, ht7, H⟩ := pbind H
          refine DJ.callF rfl rfl rfl rfl rfl rfl rfl hb113 rfl (strings_trimLeftByte.c k _ t6 t5 _ ht7) (by rintro v w' ⟨rfl, hs⟩; exact hs) ?_
          rintro _ w1 ⟨rfl, hs⟩
          replace hS := hS.grow hs
          refine DJ.pures tU_ok 1 rfl ?_
          refine DJ.nil (EJ.next ?_)
          refine CJ.ret (EJ.skR (?_))
          obtain rfl := Option.some.inj H
          exact EJ.fin rfl (.tmp rfl .nil) ⟨rfl, hS.ext⟩
        · replace H := pifb_f hb H
          refine CJ.skip (EJ.next ?_)
          refine CJ.seq ?_
          refine CJ.seq ?_
          refine CJ.region ?_
          refine OJ.pures tU_ok 1 rfl ?_
          obtain ⟨t8, ht8, H⟩ := pbind H
          refine OJ.callF rfl rfl rfl rfl rfl hb115 rfl (strings_makeASCIISet.c k _ a1 _ ht8) ?_
          rintro _ w1 ⟨rfl, hs⟩
          replace hS := hS.grow hs
          refine OJ.pures tU_ok 3 rfl ?_
          refine OJ.ef rfl rfl rfl (Ef.alloc hS tI_ok rfl rfl ((carr 256 cb).enc (Arr.mk' false : Arr 256 Bool)) (by kernel_rfl)) ?_
          rintro _ w1 ⟨b9, rfl, hS⟩
          refine OJ.es rfl rfl (Es.put tI_ok hS (i := 0) rfl rfl rfl rfl rfl (vs := (carr 256 cb).enc t8.1) rfl ((carr 256 cb).len _) ((carr 256 cb).one _) (Put.all (carr 256 cb) (Arr.mk' false : Arr 256 Bool) t8.1) (by (try simp only [add_lit, Nat.add_assoc, Nat.zero_add, Nat.add_zero]) <;> rfl)) ?_
          intro w1 hS
          refine OJ.pures tU_ok 1 rfl ?_
          refine OJ.nil (EJ.next ?_)
          refine CJ.seq ?_
          refine CJ.region ?_
          refine OJ.pures tU_ok 1 rfl ?_
          refine OJ.nil (EJ.next ?_)
          refine CJ.cond rfl (fun hb => ?_) (fun hb => ?_)
          · replace H := pif_t hb H
            refine CJ.seq ?_
            refine CJ.region ?_
            refine OJ.pures tU_ok 1 rfl ?_
            obtain ⟨t10, ht10, H⟩ := pbind H
            refine OJ.callF rfl rfl rfl rfl rfl hb117 rfl (strings_trimRightASCII.c k _ a0 _ t8.1 (hS.cells (i := 0) rfl) _ ht10) ?_
            rintro _ w1 ⟨rfl, hs⟩
            replace hS := hS.grow hs
            obtain ⟨t11, ht11, H⟩ := pbind H
            refine OJ.callF rfl rfl rfl rfl rfl hb116 rfl (strings_trimLeftASCII.c k _ t10 _ t8.1 (hS.cells (i := 0) rfl) _ ht11) ?_
            rintro _ w1 ⟨rfl, hs⟩
            replace hS := hS.grow hs
            refine OJ.pures tU_ok 1 rfl ?_
            refine OJ.nil (EJ.next ?_)
            refine CJ.ret (EJ.skR (?_))
            obtain rfl := Option.some.inj H
            exact EJ.fin rfl (.tmp rfl .nil) ⟨rfl, hS.ext⟩
          · replace H := pifb_f hb H
            refine CJ.skip (EJ.next ?_)
            refine CJ.seq ?_
            refine CJ.region ?_
            refine OJ.pures tU_ok 2 rfl ?_
            obtain ⟨t12, ht12, H⟩ := pbind H
            refine OJ.callF rfl rfl rfl rfl rfl hb119 rfl (strings_trimRightUnicode.c k _ a0 a1 _ ht12) ?_
            rintro _ w1 ⟨rfl, hs⟩
            replace hS := hS.grow hs
            refine OJ.pures tU_ok 1 rfl ?_
            obtain ⟨t13, ht13, H⟩ := pbind H
            refine OJ.callF rfl rfl rfl rfl rfl hb118 rfl (strings_trimLeftUnicode.c k _ t12 a1 _ ht13) ?_
            rintro _ w1 ⟨rfl, hs⟩
            replace hS := hS.grow hs
            refine OJ.pures tU_ok 1 rfl ?_
            refine OJ.nil (EJ.next ?_)
            refine CJ.ret (?_)
            obtain rfl := Option.some.inj H
            exact EJ.fin rfl (.tmp rfl .nil) ⟨rfl, hS.ext⟩

def impl_isName.f (k : Nat) (a0 : ByteArray) : Option Bool := (impl_within.f (a0.size : Int) 1 8).bind fun t1 => if t1 = true then ((strings_Trim.f k a0 (⟨#[97, 98, 99, 100, 101, 102, 103, 104, 105, 106, 107, 108, 109, 110, 111, 112, 113, 114, 115, 116, 117, 118, 119, 120, 121, 122]⟩ : ByteArray)).bind fun t2 => some (decide (t2 = ByteArray.empty))) else (some false)
theorem impl_isName.c (k : Nat) (w : World) (a0 : ByteArray) (r : Bool) (H : impl_isName.f k a0 = some r) :
    CV Tryd.prog 78 [.string a0].toArray w fun v w' => v = .bool r ∧ Ext w w' := by
  have hS := (St.init w no)
  unfold impl_isName.f at H
  refine CV.body Tryd.func78 rfl Tryd.ntmps78 rfl ?_
  refine CJ.seq ?_
  refine CJ.region ?_
  refine OJ.pures tU_ok 1 rfl ?_
  refine OJ.nil (EJ.next ?_)
  refine CJ.seq ?_
  refine CJ.region ?_
  refine OJ.pures tU_ok 2 rfl ?_
  obtain ⟨t1, ht1, H⟩ := pbind H
  refine OJ.callF rfl rfl rfl rfl rfl hb63 rfl (impl_within.c _ (a0.size : Int) 1 8 _ ht1) ?_
  rintro _ w1 ⟨rfl, hs⟩
  replace hS := hS.grow hs
  refine OJ.pures tU_ok 1 rfl ?_
  refine OJ.split (t := 6) rfl (fun hb => ?_) (fun hb => ?_)
  · replace H := pif_t hb H
    refine OJ.pures tU_ok 1 rfl ?_
    obtain ⟨t2, ht2, H⟩ := pbind H
    refine OJ.callF rfl rfl rfl rfl rfl hb94 rfl (strings_Trim.c k _ a0 (⟨#[97, 98, 99, 100, 101, 102, 103, 104, 105, 106, 107, 108, 109, 110, 111, 112, 113, 114, 115, 116, 117, 118, 119, 120, 121, 122]⟩ : ByteArray) _ ht2) ?_
    rintro _ w1 ⟨rfl, hs⟩
    replace hS := hS.grow hs
    refine OJ.pures tU_ok 3 rfl ?_
    refine OJ.nil (EJ.next ?_)
    refine CJ.ret (?_)
    obtain rfl := Option.some.inj H
    exact EJ.fin rfl (.tmp rfl .nil) ⟨rfl, hS.ext⟩
  · replace H := pifb_f hb H
    refine OJ.pures tU_ok 5 rfl ?_
    refine OJ.nil (EJ.next ?_)
    refine CJ.ret (?_)
    obtain rfl := Option.some.inj H
    exact EJ.fin rfl (.tmp rfl .nil) ⟨rfl, hS.ext⟩

def slices_Index_string_string.l1 (a0 : List ByteArray) (a1 : ByteArray) : Nat → Int → Option (Int ⊕ Unit)
  | 0, _ => none
  | k + 1, y1 => if y1 < (a0.length : Int) then ((getI a0 y1).bind fun t2 => if a1 = t2 then (some (Sum.inl y1)) else (slices_Index_string_string.l1 a0 a1 k (IntKind.i64.wrap (y1 + 1)))) else (some (Sum.inr ()))
def slices_Index_string_string.f (k : Nat) (a0 : List ByteArray) (a1 : ByteArray) : Option Int := (slices_Index_string_string.l1 a0 a1 k 0).bind fun s106 => match s106 with | .inl r => some r | .inr _ => some (-1)
theorem slices_Index_string_string.c (k : Nat) (w : World) (Aa0 : Option Addr) (ca0 : Nat) (a0 : List ByteArray) (hr0 : Rd G.cs w Aa0 a0) (hc0 : a0.length ≤ ca0) (a1 : ByteArray) (r : Int) (H : slices_Index_string_string.f k a0 a1 = some r) :
    CV Tryd.prog 95 [.slice Aa0 a0.length ca0, .string a1].toArray w fun v w' => v = .int .i64 r ∧ Ext w w' := by
  have hS := ((St.init w no).param G.cs Aa0 ca0 a0 hr0 hc0)
  unfold slices_Index_string_string.f at H
  refine CV.body Tryd.func95 rfl Tryd.ntmps95 rfl ?_
  refine CJ.seq ?_
  refine CJ.region ?_
  refine OJ.pures tU_ok 1 rfl ?_
  refine OJ.nil (EJ.next ?_)
  refine CJ.seq ?_
  refine CJ.seq ?_
  refine CJ.region ?_
  refine OJ.pures tU_ok 3 rfl ?_
  refine OJ.nil (EJ.next ?_)
  obtain ⟨j106, H, K106⟩ := pbind H
  refine CJ.cut1 (fun F w1 => (some (Sum.inr ()) : Option (Int ⊕ Unit)) = some j106 ∧ F = [] ∧ St w no w1 [] [roC G.cs Aa0 ca0 a0]) ?_ ?_
  · skip
    refine CJ.block ?_
    refine CJ.loop (fun k F w1 => ∃ (y1 : Int), F = [(0, .slice Aa0 a0.length ca0), (1, .string a1), (7, .int .i64 (a0.length : Int)), (8, .int .i64 y1)] ∧ St w no w1 [] [roC G.cs Aa0 ca0 a0] ∧ slices_Index_string_string.l1 a0 a1 k y1 = some j106) k (F' := [(0, .slice Aa0 a0.length ca0), (1, .string a1), (7, .int .i64 (a0.length : Int)), (8, .int .i64 0)]) ⟨rfl, rfl, rfl, rfl, trivial⟩ ⟨0, rfl, hS.pick [] [0] rfl, H⟩ ?_
    rintro k F w1 ⟨y1, rfl, hS, H⟩
    cases k with
    | zero => rw [slices_Index_string_string.l1] at H; cases H
    | succ k =>
      rw [slices_Index_string_string.l1] at H
      refine CJ.seq ?_
      refine CJ.region ?_
      refine OJ.pures tU_ok 1 rfl ?_
      refine OJ.nil (EJ.next ?_)
      refine CJ.seq ?_
      refine CJ.cond rfl (fun hb => ?_) (fun hb => ?_)
      · replace H := pif_t (of_decide_eq_true hb) H
        refine CJ.skip (EJ.next ?_)
        refine CJ.seq ?_
        refine CJ.block ?_
        refine CJ.seq ?_
        refine CJ.region ?_
        refine OJ.pures tU_ok 2 rfl ?_
        refine OJ.nil (EJ.next ?_)
        refine CJ.seq ?_
        refine CJ.region ?_
        refine OJ.pures tU_ok 3 rfl ?_
        obtain ⟨t2, ht2, H⟩ := pbind H
        obtain ⟨ad2, e2⟩ := (hS.rd' (i := 0) rfl).some' ht2
        refine OJ.st rfl rfl rfl (SR.idxS tU_ok tI_ok rfl rfl rfl rfl e2 rfl (getI_some ht2).1) ?_
        refine OJ.st rfl rfl rfl (SR.load rfl rfl (fun w' hx => ld1 tU_ok rfl rfl (CA.ext ((hS.rd' (i := 0) rfl).at_ e2 ht2) hx) rfl)) ?_
        refine OJ.pures tU_ok 1 rfl ?_
        refine OJ.nil (EJ.next ?_)
        refine CJ.cond rfl (fun hb => ?_) (fun hb => ?_)
        · replace H := pif_t (of_decide_eq_true hb) H
          refine CJ.seq ?_
          refine CJ.region ?_
          refine OJ.pures tU_ok 2 rfl ?_
          refine OJ.nil (EJ.next ?_)
          refine CJ.ret (EJ.bkR (EJ.skR (EJ.skR (EJ.bkR (EJ.skR (EJ.skR (?_)))))))
          first | (obtain rfl := Option.some.inj H; have H := K106) | (obtain ⟨q106, H2, e106⟩ := pbind H; obtain rfl := Option.some.inj e106; obtain rfl := Option.some.inj K106; have H := H2)
          obtain rfl := Option.some.inj H
          exact EJ.fin rfl (.tmp rfl .nil) ⟨rfl, hS.ext⟩
        · replace H := pif_f (of_decide_eq_false hb) H
          refine CJ.skip (EJ.blk (EJ.next ?_))
          refine CJ.region ?_
          refine OJ.pures tU_ok 2 rfl ?_
          refine OJ.nil ?_
          exact EJ.round k (F' := [(0, .slice Aa0 a0.length ca0), (1, .string a1), (7, .int .i64 (a0.length : Int)), (8, .int .i64 (IntKind.i64.wrap (y1 + 1)))]) ⟨rfl, rfl, rfl, rfl, trivial⟩ (Nat.lt_succ_self _) ⟨(IntKind.i64.wrap (y1 + 1)), rfl, hS.pick [] [0] rfl, H⟩
      · replace H := pif_f (of_decide_eq_false hb) H
        refine CJ.exit (EJ.skE (EJ.skE (EJ.hit (?_))))
        exact EJ.meet (F' := []) trivial ⟨H, rfl, hS.pick [] [0] rfl⟩
  · rintro F w1 ⟨he, rfl, hS⟩
    obtain rfl := Option.some.inj he
    have H := K106
    refine EJ.next ?_
    refine CJ.seq ?_
    refine CJ.region ?_
    refine OJ.pures tU_ok 1 rfl ?_
    refine OJ.nil (EJ.next ?_)
    refine CJ.ret (?_)
    obtain rfl := Option.some.inj H
    exact EJ.fin rfl (.tmp rfl .nil) ⟨rfl, hS.ext⟩

def slices_Contains_string_string.f (k : Nat) (a0 : List ByteArray) (a1 : ByteArray) : Option Bool := (slices_Index_string_string.f k a0 a1).bind fun t1 => some (decide (0 ≤ t1))
theorem slices_Contains_string_string.c (k : Nat) (w : World) (Aa0 : Option Addr) (ca0 : Nat) (a0 : List ByteArray) (hr0 : Rd G.cs w Aa0 a0) (hc0 : a0.length ≤ ca0) (a1 : ByteArray) (r : Bool) (H : slices_Contains_string_string.f k a0 a1 = some r) :
    CV Tryd.prog 79 [.slice Aa0 a0.length ca0, .string a1].toArray w fun v w' => v = .bool r ∧ Ext w w' := by
  have hS := ((St.init w no).param G.cs Aa0 ca0 a0 hr0 hc0)
  unfold slices_Contains_string_string.f at H
  refine CV.body Tryd.func79 rfl Tryd.ntmps79 rfl ?_
  refine CJ.seq ?_
  refine CJ.region ?_
  refine OJ.pures tU_ok 1 rfl ?_
  refine OJ.nil (EJ.next ?_)
  refine CJ.seq ?_
  refine CJ.region ?_
  refine OJ.pures tU_ok 2 rfl ?_
  obtain ⟨t1, ht1, H⟩ := pbind H
  refine OJ.callF rfl rfl rfl rfl rfl hb95 rfl (slices_Index_string_string.c k _ Aa0 ca0 a0 (hS.rd' (i := 0) rfl) (hS.le' (i := 0) rfl) a1 _ ht1) ?_
  rintro _ w1 ⟨rfl, hs⟩
  replace hS := hS.grow hs
  refine OJ.pures tU_ok 2 rfl ?_
  refine OJ.nil (EJ.next ?_)
  refine CJ.ret (?_)
  obtain rfl := Option.some.inj H
  exact EJ.fin rfl (.tmp rfl .nil) ⟨rfl, hS.ext⟩

def impl_Herd_areFoes.f (a0 : Herd) (a1 : Int) (a2 : Int) : Option Bool := (getI a0.Foes a1).bind fun t2 => (chk (0 ≤ a2)).bind fun u3 => some (decide ((andI .u16 (shrI .u16 t2 a2) 1) = 1))
theorem impl_Herd_areFoes.c (w : World) (Aa0_0 : Option Addr) (ca0_0 : Nat) (Aa0_1 : Option Addr) (ca0_1 : Nat) (Aa0_2 : Option Addr) (ca0_2 : Nat) (a0 : Herd) (hr0_0 : Rd G.cs w Aa0_0 a0.Names) (hc0_0 : a0.Names.length ≤ ca0_0) (hr0_1 : Rd (ci .i16) w Aa0_1 a0.Eats) (hc0_1 : a0.Eats.length ≤ ca0_1) (hr0_2 : Rd (ci .u16) w Aa0_2 a0.Foes) (hc0_2 : a0.Foes.length ≤ ca0_2) (a1 : Int) (a2 : Int) (r : Bool) (H : impl_Herd_areFoes.f a0 a1 a2 = some r) :
    CV Tryd.prog 38 [.agg [.slice Aa0_0 a0.Names.length ca0_0, .slice Aa0_1 a0.Eats.length ca0_1, .slice Aa0_2 a0.Foes.length ca0_2].toArray, .int .i64 a1, .int .i64 a2].toArray w fun v w' => v = .bool r ∧ Ext w w' := by
  have hS := ((((St.init w no).param G.cs Aa0_0 ca0_0 a0.Names hr0_0 hc0_0).param (ci .i16) Aa0_1 ca0_1 a0.Eats hr0_1 hc0_1).param (ci .u16) Aa0_2 ca0_2 a0.Foes hr0_2 hc0_2)
  unfold impl_Herd_areFoes.f at H
  refine CV.body Tryd.func38 rfl Tryd.ntmps38 rfl ?_
  refine CJ.seq ?_
  refine CJ.region ?_
  refine OJ.ef rfl rfl rfl (Ef.box hS rfl rfl ([.slice Aa0_0 a0.Names.length ca0_0, .slice Aa0_1 a0.Eats.length ca0_1, .slice Aa0_2 a0.Foes.length ca0_2]) rfl) ?_
  rintro _ w1 ⟨b1, rfl, hS⟩
  refine OJ.pures tU_ok 1 rfl ?_
  refine OJ.nil (EJ.next ?_)
  refine CJ.seq ?_
  refine CJ.region ?_
  refine OJ.st rfl rfl rfl (SR.fieldAddr tU_ok tI_ok rfl rfl rfl rfl rfl rfl) ?_
  refine OJ.st rfl rfl rfl (SR.load rfl rfl (fun w' hx => ld1 tU_ok rfl rfl (CA.ext (CA.sub (hS.cells (i := 0) rfl) 2) hx) rfl)) ?_
  refine OJ.pures tU_ok 1 rfl ?_
  obtain ⟨t2, ht2, H⟩ := pbind H
  obtain ⟨ad2, e2⟩ := (hS.rd' (i := 2) rfl).some' ht2
  refine OJ.st rfl rfl rfl (SR.idxS tU_ok tI_ok rfl rfl rfl rfl e2 rfl (getI_some ht2).1) ?_
  refine OJ.st rfl rfl rfl (SR.load rfl rfl (fun w' hx => ld1 tU_ok rfl rfl (CA.ext ((hS.rd' (i := 2) rfl).at_ e2 ht2) hx) rfl)) ?_
  refine OJ.pures tU_ok 1 rfl ?_
  obtain ⟨u3, hu3, H⟩ := pbind H
  refine OJ.st rfl rfl rfl (SR.shr rfl rfl rfl (chk_some hu3)) ?_
  refine OJ.pures tU_ok 3 rfl ?_
  refine OJ.nil (EJ.next ?_)
  refine CJ.ret (?_)
  obtain rfl := Option.some.inj H
  exact EJ.fin rfl (.tmp rfl .nil) ⟨rfl, hS.ext⟩

def impl_ValidHerd.l2 (a0 : Herd) (y3 : Int) : Nat → Int → Option (((Bool ⊕ Unit) ⊕ Unit) ⊕ Unit)
  | 0, _ => none
  | k + 1, y14 => if y14 < y3 then ((impl_Herd_areFoes.f a0 y3 y14).bind fun t15 => (impl_Herd_areFoes.f a0 y14 y3).bind fun t16 => if t15 ≠ t16 then (some (Sum.inl (Sum.inl (Sum.inl false)))) else (impl_ValidHerd.l2 a0 y3 k (IntKind.i64.wrap (y14 + 1)))) else (some (Sum.inr ()))
def impl_ValidHerd.l1 (a0 : Herd) : Nat → Int → Option (Bool ⊕ Unit)
  | 0, _ => none
  | k + 1, y3 => if y3 < (a0.Names.length : Int) then (((getI a0.Names y3).bind fun t4 => ((impl_isName.f k t4).bind fun t6 => if (!t6) = true then (some true) else ((chk ((0 : Int) ≤ 0 ∧ 0 ≤ y3 ∧ y3 ≤ (a0.Names.length : Int))).bind fun u7 => (slices_Contains_string_string.f k ((a0.Names.drop 0).take (y3.toNat - 0)) t4).bind fun t8 => if t8 = true then (some true) else ((getI a0.Eats y3).bind fun t9 => (impl_within.f (IntKind.i64.wrap t9) 0 100).bind fun t10 => if (!t10) = true then (some true) else ((getI a0.Foes y3).bind fun t11 => (chk (0 ≤ (a0.Names.length : Int))).bind fun u12 => if (shrI .u16 t11 (a0.Names.length : Int)) ≠ 0 then (some true) else ((impl_Herd_areFoes.f a0 y3 y3).bind fun t13 => some t13))))).bind fun y5 => if y5 = true then (some (Sum.inl (Sum.inl false))) else ((impl_ValidHerd.l2 a0 y3 k 0).bind fun s119 => match s119 with | .inl r => some r | .inr _ => some (Sum.inr ()))).bind fun s115 => match s115 with | .inl r => some r | .inr _ => impl_ValidHerd.l1 a0 k (IntKind.i64.wrap (y3 + 1))) else (some (Sum.inr ()))
def impl_ValidHerd.f (k : Nat) (a0 : Herd) : Option Bool := (if 14 < (a0.Names.length : Int) then (some true) else (if (a0.Eats.length : Int) ≠ (a0.Names.length : Int) then (some true) else (some (decide ((a0.Foes.length : Int) ≠ (a0.Names.length : Int)))))).bind fun y2 => if y2 = true then (some false) else ((impl_ValidHerd.l1 a0 k 0).bind fun s90 => match s90 with | .inl r => some r | .inr _ => some true)
theorem impl_ValidHerd.c (k : Nat) (w : World) (Aa0_0 : Option Addr) (ca0_0 : Nat) (Aa0_1 : Option Addr) (ca0_1 : Nat) (Aa0_2 : Option Addr) (ca0_2 : Nat) (a0 : Herd) (hr0_0 : Rd G.cs w Aa0_0 a0.Names) (hc0_0 : a0.Names.length ≤ ca0_0) (hr0_1 : Rd (ci .i16) w Aa0_1 a0.Eats) (hc0_1 : a0.Eats.length ≤ ca0_1) (hr0_2 : Rd (ci .u16) w Aa0_2 a0.Foes) (hc0_2 : a0.Foes.length ≤ ca0_2) (r : Bool) (H : impl_ValidHerd.f k a0 = some r) :
    CV Tryd.prog 51 [.agg [.slice Aa0_0 a0.Names.length ca0_0, .slice Aa0_1 a0.Eats.length ca0_1, .slice Aa0_2 a0.Foes.length ca0_2].toArray].toArray w fun v w' => v = .bool r ∧ Ext w w' := by
  have hS := ((((St.init w no).param G.cs Aa0_0 ca0_0 a0.Names hr0_0 hc0_0).param (ci .i16) Aa0_1 ca0_1 a0.Eats hr0_1 hc0_1).param (ci .u16) Aa0_2 ca0_2 a0.Foes hr0_2 hc0_2)
  unfold impl_ValidHerd.f at H
  refine CV.body Tryd.func51 rfl Tryd.ntmps51 rfl ?_
  refine CJ.seq ?_
  refine CJ.region ?_
  refine OJ.ef rfl rfl rfl (Ef.box hS rfl rfl ([.slice Aa0_0 a0.Names.length ca0_0, .slice Aa0_1 a0.Eats.length ca0_1, .slice Aa0_2 a0.Foes.length ca0_2]) rfl) ?_
  rintro _ w1 ⟨b1, rfl, hS⟩
  refine OJ.pures tU_ok 1 rfl ?_
  refine OJ.nil (EJ.next ?_)
  refine CJ.seq ?_
  refine CJ.region ?_
  refine OJ.st rfl rfl rfl (SR.fieldAddr tU_ok tI_ok rfl rfl rfl rfl rfl rfl) ?_
  refine OJ.st rfl rfl rfl (SR.load rfl rfl (fun w' hx => ld1 tU_ok rfl rfl (CA.ext (CA.sub (hS.cells (i := 0) rfl) 0) hx) rfl)) ?_
  refine OJ.pures tU_ok 2 rfl ?_
  refine OJ.nil (EJ.next ?_)
  refine CJ.seq ?_
  obtain ⟨j89, H, K89⟩ := pbind H
  refine CJ.cut (fun F w1 => ∃ (y2 : Bool) , (some y2 : Option Bool) = some j89 ∧ F = [(1, .pointer (some ⟨b1, 0, none⟩)), (3, .int .i64 (a0.Names.length : Int)), (25, .bool y2)] ∧ St w no w1 [box b1 ([.slice Aa0_0 a0.Names.length ca0_0, .slice Aa0_1 a0.Eats.length ca0_1, .slice Aa0_2 a0.Foes.length ca0_2]) 29] [roC G.cs Aa0_0 ca0_0 a0.Names, roC (ci .i16) Aa0_1 ca0_1 a0.Eats, roC (ci .u16) Aa0_2 ca0_2 a0.Foes]) ?_ ?_
  · skip
    refine CJ.region ?_
    refine OJ.pures tU_ok 3 rfl ?_
    refine OJ.split (t := 12) rfl (fun hb => ?_) (fun hb => ?_)
    · replace H := pif_t (of_decide_eq_true hb) H
      refine OJ.pures tU_ok 13 rfl ?_
      refine OJ.nil ?_
      exact EJ.meet (F' := [(1, .pointer (some ⟨b1, 0, none⟩)), (3, .int .i64 (a0.Names.length : Int)), (25, .bool true)]) ⟨rfl, rfl, rfl, trivial⟩ ⟨true, H, rfl, hS.pick [0] [0, 1, 2] rfl⟩
    · replace H := pif_f (of_decide_eq_false hb) H
      refine OJ.st rfl rfl rfl (SR.fieldAddr tU_ok tI_ok rfl rfl rfl rfl rfl rfl) ?_
      refine OJ.st rfl rfl rfl (SR.load rfl rfl (fun w' hx => ld1 tU_ok rfl rfl (CA.ext (CA.sub (hS.cells (i := 0) rfl) 1) hx) rfl)) ?_
      refine OJ.pures tU_ok 5 rfl ?_
      refine OJ.split (t := 19) rfl (fun hb => ?_) (fun hb => ?_)
      · replace H := pif_t (of_decide_eq_true hb) H
        refine OJ.pures tU_ok 6 rfl ?_
        refine OJ.nil ?_
        exact EJ.meet (F' := [(1, .pointer (some ⟨b1, 0, none⟩)), (3, .int .i64 (a0.Names.length : Int)), (25, .bool true)]) ⟨rfl, rfl, rfl, trivial⟩ ⟨true, H, rfl, hS.pick [0] [0, 1, 2] rfl⟩
      · replace H := pif_f (of_decide_eq_false hb) H
        refine OJ.st rfl rfl rfl (SR.fieldAddr tU_ok tI_ok rfl rfl rfl rfl rfl rfl) ?_
        refine OJ.st rfl rfl rfl (SR.load rfl rfl (fun w' hx => ld1 tU_ok rfl rfl (CA.ext (CA.sub (hS.cells (i := 0) rfl) 2) hx) rfl)) ?_
        refine OJ.pures tU_ok 4 rfl ?_
        refine OJ.nil ?_
        exact EJ.meet (F' := [(1, .pointer (some ⟨b1, 0, none⟩)), (3, .int .i64 (a0.Names.length : Int)), (25, .bool (decide ((a0.Foes.length : Int) ≠ (a0.Names.length : Int))))]) ⟨rfl, rfl, rfl, trivial⟩ ⟨(decide ((a0.Foes.length : Int) ≠ (a0.Names.length : Int))), H, rfl, hS.pick [0] [0, 1, 2] rfl⟩
  · rintro F w1 ⟨y2, he, rfl, hS⟩
    obtain rfl := Option.some.inj he
    have H := K89
    refine CJ.cond rfl (fun hb => ?_) (fun hb => ?_)
    · replace H := pif_t hb H
      refine CJ.seq ?_
      refine CJ.region ?_
      refine OJ.pures tU_ok 1 rfl ?_
      refine OJ.nil (EJ.next ?_)
      refine CJ.ret (EJ.skR (?_))
      obtain rfl := Option.some.inj H
      exact EJ.fin rfl (.tmp rfl .nil) ⟨rfl, hS.ext⟩
    · replace H := pifb_f hb H
      refine CJ.skip (EJ.next ?_)
      refine CJ.seq ?_
      refine CJ.seq ?_
      refine CJ.region ?_
      refine OJ.st rfl rfl rfl (SR.fieldAddr tU_ok tI_ok rfl rfl rfl rfl rfl rfl) ?_
      refine OJ.st rfl rfl rfl (SR.load rfl rfl (fun w' hx => ld1 tU_ok rfl rfl (CA.ext (CA.sub (hS.cells (i := 0) rfl) 0) hx) rfl)) ?_
      refine OJ.pures tU_ok 2 rfl ?_
      refine OJ.nil (EJ.next ?_)
      obtain ⟨j90, H, K90⟩ := pbind H
      refine CJ.cut1 (fun F w1 => (some (Sum.inr ()) : Option (Bool ⊕ Unit)) = some j90 ∧ F = [] ∧ St w no w1 [] [roC G.cs Aa0_0 ca0_0 a0.Names, roC (ci .i16) Aa0_1 ca0_1 a0.Eats, roC (ci .u16) Aa0_2 ca0_2 a0.Foes]) ?_ ?_
      · skip
        refine CJ.block ?_
        refine CJ.loop (fun k F w1 => ∃ (y3 : Int), F = [(1, .pointer (some ⟨b1, 0, none⟩)), (3, .int .i64 (a0.Names.length : Int)), (27, .slice Aa0_0 a0.Names.length ca0_0), (28, .int .i64 (a0.Names.length : Int)), (29, .int .i64 y3)] ∧ St w no w1 [box b1 ([.slice Aa0_0 a0.Names.length ca0_0, .slice Aa0_1 a0.Eats.length ca0_1, .slice Aa0_2 a0.Foes.length ca0_2]) 29] [roC G.cs Aa0_0 ca0_0 a0.Names, roC (ci .i16) Aa0_1 ca0_1 a0.Eats, roC (ci .u16) Aa0_2 ca0_2 a0.Foes] ∧ impl_ValidHerd.l1 a0 k y3 = some j90) k (F' := [(1, .pointer (some ⟨b1, 0, none⟩)), (3, .int .i64 (a0.Names.length : Int)), (27, .slice Aa0_0 a0.Names.length ca0_0), (28, .int .i64 (a0.Names.length : Int)), (29, .int .i64 0)]) ⟨rfl, rfl, rfl, rfl, rfl, trivial⟩ ⟨0, rfl, hS.pick [0] [0, 1, 2] rfl, H⟩ ?_
        rintro k F w1 ⟨y3, rfl, hS, H⟩
        cases k with
        | zero => rw [impl_ValidHerd.l1] at H; cases H
        | succ k =>
          rw [impl_ValidHerd.l1] at H
          refine CJ.seq ?_
          refine CJ.region ?_
          refine OJ.pures tU_ok 1 rfl ?_
          refine OJ.nil (EJ.next ?_)
          refine CJ.seq ?_
          refine CJ.cond rfl (fun hb => ?_) (fun hb => ?_)
          · replace H := pif_t (of_decide_eq_true hb) H
            refine CJ.skip (EJ.next ?_)
            obtain ⟨j115, H, K115⟩ := pbind H
            refine CJ.cut (fun F w1 => (some (Sum.inr ()) : Option ((Bool ⊕ Unit) ⊕ Unit)) = some j115 ∧ F = [(1, .pointer (some ⟨b1, 0, none⟩)), (3, .int .i64 (a0.Names.length : Int)), (27, .slice Aa0_0 a0.Names.length ca0_0), (28, .int .i64 (a0.Names.length : Int)), (29, .int .i64 y3)] ∧ St w no w1 [box b1 ([.slice Aa0_0 a0.Names.length ca0_0, .slice Aa0_1 a0.Eats.length ca0_1, .slice Aa0_2 a0.Foes.length ca0_2]) 29] [roC G.cs Aa0_0 ca0_0 a0.Names, roC (ci .i16) Aa0_1 ca0_1 a0.Eats, roC (ci .u16) Aa0_2 ca0_2 a0.Foes]) ?_ ?_
            · skip
              refine CJ.block ?_
              refine CJ.seq ?_
              refine CJ.region ?_
              refine OJ.pures tU_ok 1 rfl ?_
              obtain ⟨t4, ht4, H⟩ := pbind H
              obtain ⟨ad4, e4⟩ := (hS.rd' (i := 0) rfl).some' ht4
              refine OJ.st rfl rfl rfl (SR.idxS tU_ok tI_ok rfl rfl rfl rfl e4 rfl (getI_some ht4).1) ?_
              refine OJ.st rfl rfl rfl (SR.load rfl rfl (fun w' hx => ld1 tU_ok rfl rfl (CA.ext ((hS.rd' (i := 0) rfl).at_ e4 ht4) hx) rfl)) ?_
              refine OJ.pures tU_ok 2 rfl ?_
              refine OJ.nil (EJ.next ?_)
              refine CJ.seq ?_
              obtain ⟨j118, H, K118⟩ := pbind H
              refine CJ.cut (fun F w1 => ∃ (y5 : Bool) , (some y5 : Option Bool) = some j118 ∧ F = [(1, .pointer (some ⟨b1, 0, none⟩)), (3, .int .i64 (a0.Names.length : Int)), (4, .int .i64 y3), (27, .slice Aa0_0 a0.Names.length ca0_0), (28, .int .i64 (a0.Names.length : Int)), (29, .int .i64 y3), (70, .bool y5)] ∧ St w no w1 [box b1 ([.slice Aa0_0 a0.Names.length ca0_0, .slice Aa0_1 a0.Eats.length ca0_1, .slice Aa0_2 a0.Foes.length ca0_2]) 29] [roC G.cs Aa0_0 ca0_0 a0.Names, roC (ci .i16) Aa0_1 ca0_1 a0.Eats, roC (ci .u16) Aa0_2 ca0_2 a0.Foes]) ?_ ?_
              · skip
                refine CJ.region ?_
                refine OJ.pures tU_ok 1 rfl ?_
                obtain ⟨t6, ht6, H⟩ := pbind H
                refine OJ.callF rfl rfl rfl rfl rfl hb78 rfl (impl_isName.c k _ t4 _ ht6) ?_
                rintro _ w1 ⟨rfl, hs⟩
                replace hS := hS.grow hs
                refine OJ.pures tU_ok 2 rfl ?_
                refine OJ.split (t := 37) rfl (fun hb => ?_) (fun hb => ?_)
                · replace H := pif_t hb H
                  refine OJ.pures tU_ok 33 rfl ?_
                  refine OJ.nil ?_
                  exact EJ.meet (F' := [(1, .pointer (some ⟨b1, 0, none⟩)), (3, .int .i64 (a0.Names.length : Int)), (4, .int .i64 y3), (27, .slice Aa0_0 a0.Names.length ca0_0), (28, .int .i64 (a0.Names.length : Int)), (29, .int .i64 y3), (70, .bool true)]) ⟨rfl, rfl, rfl, rfl, rfl, rfl, rfl, trivial⟩ ⟨true, H, rfl, hS.pick [0] [0, 1, 2] rfl⟩
                · replace H := pifb_f hb H
                  refine OJ.st rfl rfl rfl (SR.fieldAddr tU_ok tI_ok rfl rfl rfl rfl rfl rfl) ?_
                  refine OJ.st rfl rfl rfl (SR.load rfl rfl (fun w' hx => ld1 tU_ok rfl rfl (CA.ext (CA.sub (hS.cells (i := 0) rfl) 0) hx) rfl)) ?_
                  refine OJ.pures tU_ok 1 rfl ?_
                  obtain ⟨u7, hu7, H⟩ := pbind H
                  refine OJ.st rfl rfl rfl (SR.cutS tU_ok tI_ok (0) (y3.toNat) rfl rfl rfl rfl rfl rfl (.inl ⟨rfl, rfl⟩) (.inr ⟨_, _, rfl, (by have := (chk_some hu7); omega), rfl⟩) (by have := (chk_some hu7); omega) (by have := (chk_some hu7); have := (hS.le' (i := 0) rfl : a0.Names.length ≤ ca0_0); omega)) ?_
                  replace hS := hS.cutR (i := 0) (lo := 0) (hi := y3.toNat) rfl (by have := (chk_some hu7); omega) (by have := (chk_some hu7); omega)
                  refine OJ.as (t := 41) rfl (show _ = (.slice (cutA Aa0_0 ca0_0 0 G.cs.sz) ((a0.Names.drop 0).take (y3.toNat - 0)).length (ca0_0 - 0) : Value) by rw [cutLen (by have := (chk_some hu7); omega) (by have := (chk_some hu7); omega)]; rfl) ?_
                  refine OJ.pures tU_ok 1 rfl ?_
                  obtain ⟨t8, ht8, H⟩ := pbind H
                  refine OJ.callF rfl rfl rfl rfl rfl hb79 rfl (slices_Contains_string_string.c k _ (cutA Aa0_0 ca0_0 0 G.cs.sz) (ca0_0 - 0) ((a0.Names.drop 0).take (y3.toNat - 0)) (hS.rd' (i := 3) rfl) (hS.le' (i := 3) rfl) t4 _ ht8) ?_
                  rintro _ w1 ⟨rfl, hs⟩
                  replace hS := hS.grow hs
                  refine OJ.pures tU_ok 2 rfl ?_
                  refine OJ.split (t := 45) rfl (fun hb => ?_) (fun hb => ?_)
                  · replace H := pif_t hb H
                    refine OJ.pures tU_ok 25 rfl ?_
                    refine OJ.nil ?_
                    exact EJ.meet (F' := [(1, .pointer (some ⟨b1, 0, none⟩)), (3, .int .i64 (a0.Names.length : Int)), (4, .int .i64 y3), (27, .slice Aa0_0 a0.Names.length ca0_0), (28, .int .i64 (a0.Names.length : Int)), (29, .int .i64 y3), (70, .bool true)]) ⟨rfl, rfl, rfl, rfl, rfl, rfl, rfl, trivial⟩ ⟨true, H, rfl, hS.pick [0] [0, 1, 2] rfl⟩
                  · replace H := pifb_f hb H
                    refine OJ.st rfl rfl rfl (SR.fieldAddr tU_ok tI_ok rfl rfl rfl rfl rfl rfl) ?_
                    refine OJ.st rfl rfl rfl (SR.load rfl rfl (fun w' hx => ld1 tU_ok rfl rfl (CA.ext (CA.sub (hS.cells (i := 0) rfl) 1) hx) rfl)) ?_
                    refine OJ.pures tU_ok 1 rfl ?_
                    obtain ⟨t9, ht9, H⟩ := pbind H
                    obtain ⟨ad9, e9⟩ := (hS.rd' (i := 1) rfl).some' ht9
                    refine OJ.st rfl rfl rfl (SR.idxS tU_ok tI_ok rfl rfl rfl rfl e9 rfl (getI_some ht9).1) ?_
                    refine OJ.st rfl rfl rfl (SR.load rfl rfl (fun w' hx => ld1 tU_ok rfl rfl (CA.ext ((hS.rd' (i := 1) rfl).at_ e9 ht9) hx) rfl)) ?_
                    refine OJ.pures tU_ok 1 rfl ?_
                    obtain ⟨t10, ht10, H⟩ := pbind H
                    refine OJ.callF rfl rfl rfl rfl rfl hb63 rfl (impl_within.c _ (IntKind.i64.wrap t9) 0 100 _ ht10) ?_
                    rintro _ w1 ⟨rfl, hs⟩
                    replace hS := hS.grow hs
                    refine OJ.pures tU_ok 3 rfl ?_
                    refine OJ.split (t := 55) rfl (fun hb => ?_) (fun hb => ?_)
                    · replace H := pif_t hb H
                      refine OJ.pures tU_ok 15 rfl ?_
                      refine OJ.nil ?_
                      exact EJ.meet (F' := [(1, .pointer (some ⟨b1, 0, none⟩)), (3, .int .i64 (a0.Names.length : Int)), (4, .int .i64 y3), (27, .slice Aa0_0 a0.Names.length ca0_0), (28, .int .i64 (a0.Names.length : Int)), (29, .int .i64 y3), (70, .bool true)]) ⟨rfl, rfl, rfl, rfl, rfl, rfl, rfl, trivial⟩ ⟨true, H, rfl, hS.pick [0] [0, 1, 2] rfl⟩
                    · replace H := pifb_f hb H
                      refine OJ.st rfl rfl rfl (SR.fieldAddr tU_ok tI_ok rfl rfl rfl rfl rfl rfl) ?_
                      refine OJ.st rfl rfl rfl (SR.load rfl rfl (fun w' hx => ld1 tU_ok rfl rfl (CA.ext (CA.sub (hS.cells (i := 0) rfl) 2) hx) rfl)) ?_
                      refine OJ.pures tU_ok 1 rfl ?_
                      obtain ⟨t11, ht11, H⟩ := pbind H
                      obtain ⟨ad11, e11⟩ := (hS.rd' (i := 2) rfl).some' ht11
                      refine OJ.st rfl rfl rfl (SR.idxS tU_ok tI_ok rfl rfl rfl rfl e11 rfl (getI_some ht11).1) ?_
                      refine OJ.st rfl rfl rfl (SR.load rfl rfl (fun w' hx => ld1 tU_ok rfl rfl (CA.ext ((hS.rd' (i := 2) rfl).at_ e11 ht11) hx) rfl)) ?_
                      refine OJ.pures tU_ok 1 rfl ?_
                      obtain ⟨u12, hu12, H⟩ := pbind H
                      refine OJ.st rfl rfl rfl (SR.shr rfl rfl rfl (chk_some hu12)) ?_
                      refine OJ.pures tU_ok 3 rfl ?_
                      refine OJ.split (t := 65) rfl (fun hb => ?_) (fun hb => ?_)
                      · replace H := pif_t (of_decide_eq_true hb) H
                        refine OJ.pures tU_ok 5 rfl ?_
                        refine OJ.nil ?_
                        exact EJ.meet (F' := [(1, .pointer (some ⟨b1, 0, none⟩)), (3, .int .i64 (a0.Names.length : Int)), (4, .int .i64 y3), (27, .slice Aa0_0 a0.Names.length ca0_0), (28, .int .i64 (a0.Names.length : Int)), (29, .int .i64 y3), (70, .bool true)]) ⟨rfl, rfl, rfl, rfl, rfl, rfl, rfl, trivial⟩ ⟨true, H, rfl, hS.pick [0] [0, 1, 2] rfl⟩
                      · replace H := pif_f (of_decide_eq_false hb) H
                        refine OJ.st rfl rfl rfl (SR.load rfl rfl (fun w' hx => ldN tU_ok tI_ok rfl rfl rfl (CA.ext (hS.cells (i := 0) rfl) hx) (ds := [.slice Aa0_0 a0.Names.length ca0_0, .slice Aa0_1 a0.Eats.length ca0_1, .slice Aa0_2 a0.Foes.length ca0_2]) rfl rfl)) ?_
                        refine OJ.pures tU_ok 2 rfl ?_
                        obtain ⟨t13, ht13, H⟩ := pbind H
                        refine OJ.callF rfl rfl rfl rfl rfl hb38 rfl (impl_Herd_areFoes.c _ Aa0_0 ca0_0 Aa0_1 ca0_1 Aa0_2 ca0_2 a0 (hS.rd' (i := 0) rfl) (hS.le' (i := 0) rfl) (hS.rd' (i := 1) rfl) (hS.le' (i := 1) rfl) (hS.rd' (i := 2) rfl) (hS.le' (i := 2) rfl) y3 y3 _ ht13) ?_
                        rintro _ w1 ⟨rfl, hs⟩
                        replace hS := hS.grow hs
                        refine OJ.pures tU_ok 1 rfl ?_
                        refine OJ.nil ?_
                        exact EJ.meet (F' := [(1, .pointer (some ⟨b1, 0, none⟩)), (3, .int .i64 (a0.Names.length : Int)), (4, .int .i64 y3), (27, .slice Aa0_0 a0.Names.length ca0_0), (28, .int .i64 (a0.Names.length : Int)), (29, .int .i64 y3), (70, .bool t13)]) ⟨rfl, rfl, rfl, rfl, rfl, rfl, rfl, trivial⟩ ⟨t13, H, rfl, hS.pick [0] [0, 1, 2] rfl⟩
              · rintro F w1 ⟨y5, he, rfl, hS⟩
                obtain rfl := Option.some.inj he
                have H := K118
                refine CJ.cond rfl (fun hb => ?_) (fun hb => ?_)
                · replace H := pif_t hb H
                  refine CJ.seq ?_
                  refine CJ.region ?_
                  refine OJ.pures tU_ok 1 rfl ?_
                  refine OJ.nil (EJ.next ?_)
                  refine CJ.ret (EJ.skR (EJ.bkR (EJ.skR (EJ.skR (EJ.bkR (EJ.skR (EJ.skR (?_))))))))
                  first | (obtain rfl := Option.some.inj H; have H := K115) | (obtain ⟨q115, H2, e115⟩ := pbind H; obtain rfl := Option.some.inj e115; obtain rfl := Option.some.inj K115; have H := H2)
                  first | (obtain rfl := Option.some.inj H; have H := K90) | (obtain ⟨q90, H2, e90⟩ := pbind H; obtain rfl := Option.some.inj e90; obtain rfl := Option.some.inj K90; have H := H2)
                  obtain rfl := Option.some.inj H
                  exact EJ.fin rfl (.tmp rfl .nil) ⟨rfl, hS.ext⟩
                · replace H := pifb_f hb H
                  refine CJ.skip (EJ.next ?_)
                  refine CJ.seq ?_
                  refine CJ.region ?_
                  refine OJ.pures tU_ok 2 rfl ?_
                  refine OJ.nil (EJ.next ?_)
                  obtain ⟨j119, H, K119⟩ := pbind H
                  refine CJ.cut1 (fun F w1 => (some (Sum.inr ()) : Option (((Bool ⊕ Unit) ⊕ Unit) ⊕ Unit)) = some j119 ∧ F = [(1, .pointer (some ⟨b1, 0, none⟩)), (3, .int .i64 (a0.Names.length : Int)), (27, .slice Aa0_0 a0.Names.length ca0_0), (28, .int .i64 (a0.Names.length : Int)), (29, .int .i64 y3)] ∧ St w no w1 [box b1 ([.slice Aa0_0 a0.Names.length ca0_0, .slice Aa0_1 a0.Eats.length ca0_1, .slice Aa0_2 a0.Foes.length ca0_2]) 29] [roC G.cs Aa0_0 ca0_0 a0.Names, roC (ci .i16) Aa0_1 ca0_1 a0.Eats, roC (ci .u16) Aa0_2 ca0_2 a0.Foes]) ?_ ?_
                  · skip
                    refine CJ.block ?_
                    refine CJ.loop (fun k F w1 => ∃ (y14 : Int), F = [(1, .pointer (some ⟨b1, 0, none⟩)), (3, .int .i64 (a0.Names.length : Int)), (4, .int .i64 y3), (27, .slice Aa0_0 a0.Names.length ca0_0), (28, .int .i64 (a0.Names.length : Int)), (29, .int .i64 y3), (71, .int .i64 y3), (72, .int .i64 y14)] ∧ St w no w1 [box b1 ([.slice Aa0_0 a0.Names.length ca0_0, .slice Aa0_1 a0.Eats.length ca0_1, .slice Aa0_2 a0.Foes.length ca0_2]) 29] [roC G.cs Aa0_0 ca0_0 a0.Names, roC (ci .i16) Aa0_1 ca0_1 a0.Eats, roC (ci .u16) Aa0_2 ca0_2 a0.Foes] ∧ impl_ValidHerd.l2 a0 y3 k y14 = some j119) k (F' := [(1, .pointer (some ⟨b1, 0, none⟩)), (3, .int .i64 (a0.Names.length : Int)), (4, .int .i64 y3), (27, .slice Aa0_0 a0.Names.length ca0_0), (28, .int .i64 (a0.Names.length : Int)), (29, .int .i64 y3), (71, .int .i64 y3), (72, .int .i64 0)]) ⟨rfl, rfl, rfl, rfl, rfl, rfl, rfl, rfl, trivial⟩ ⟨0, rfl, hS.pick [0] [0, 1, 2] rfl, H⟩ ?_
                    rintro k F w1 ⟨y14, rfl, hS, H⟩
                    cases k with
                    | zero => rw [impl_ValidHerd.l2] at H; cases H
                    | succ k =>
                      rw [impl_ValidHerd.l2] at H
                      refine CJ.seq ?_
                      refine CJ.region ?_
                      refine OJ.pures tU_ok 1 rfl ?_
                      refine OJ.nil (EJ.next ?_)
                      refine CJ.seq ?_
                      refine CJ.cond rfl (fun hb => ?_) (fun hb => ?_)
                      · replace H := pif_t (of_decide_eq_true hb) H
                        refine CJ.skip (EJ.next ?_)
                        refine CJ.seq ?_
                        refine CJ.block ?_
                        refine CJ.seq ?_
                        refine CJ.region ?_
                        refine OJ.pures tU_ok 2 rfl ?_
                        refine OJ.nil (EJ.next ?_)
                        refine CJ.seq ?_
                        refine CJ.draw [] [0, 1, 2, 4, 5, 6, 3, 7, 8] mixed (by kernel_rfl) hS fun w1 hS => ?_
                        refine DJ.st rfl rfl rfl rfl rfl (SR.load rfl rfl (fun w' hx => ldN tU_ok tI_ok rfl rfl rfl (CA.ext (hS.cells (i := 0) rfl) hx) (ds := [.slice Aa0_0 a0.Names.length ca0_0, .slice Aa0_1 a0.Eats.length ca0_1, .slice Aa0_2 a0.Foes.length ca0_2]) rfl rfl)) ?_
                        refine DJ.pures tU_ok 2 rfl ?_
                        refine DJ.st rfl rfl rfl rfl rfl (SR.load rfl rfl (fun w' hx => ldN tU_ok tI_ok rfl rfl rfl (CA.ext (hS.cells (i := 0) rfl) hx) (ds := [.slice Aa0_0 a0.Names.length ca0_0, .slice Aa0_1 a0.Eats.length ca0_1, .slice Aa0_2 a0.Foes.length ca0_2]) rfl rfl)) ?_
                        refine DJ.pures tU_ok 2 rfl ?_
                        obtain ⟨t15, ht15, H⟩ := pbind H
                        refine DJ.callF rfl rfl rfl rfl rfl rfl rfl hb38 rfl (impl_Herd_areFoes.c _ Aa0_0 ca0_0 Aa0_1 ca0_1 Aa0_2 ca0_2 a0 (hS.rd' (i := 0) rfl) (hS.le' (i := 0) rfl) (hS.rd' (i := 1) rfl) (hS.le' (i := 1) rfl) (hS.rd' (i := 2) rfl) (hS.le' (i := 2) rfl) y3 y14 _ ht15) (by rintro v w' ⟨rfl, hs⟩; exact hs) ?_
                        rintro _ w1 ⟨rfl, hs⟩
                        replace hS := hS.grow hs
                        obtain ⟨t16, ht16, H⟩ := pbind H
                        refine DJ.callF rfl rfl rfl rfl rfl rfl rfl hb38 rfl (impl_Herd_areFoes.c _ Aa0_0 ca0_0 Aa0_1 ca0_1 Aa0_2 ca0_2 a0 (hS.rd' (i := 0) rfl) (hS.le' (i := 0) rfl) (hS.rd' (i := 1) rfl) (hS.le' (i := 1) rfl) (hS.rd' (i := 2) rfl) (hS.le' (i := 2) rfl) y14 y3 _ ht16) (by rintro v w' ⟨rfl, hs⟩; exact hs) ?_
                        rintro _ w1 ⟨rfl, hs⟩
                        replace hS := hS.grow hs
                        refine DJ.st rfl rfl rfl rfl rfl (SR.neB tU_ok rfl rfl rfl rfl) ?_
                        refine DJ.nil (EJ.next ?_)
                        refine CJ.cond rfl (fun hb => ?_) (fun hb => ?_)
                        · replace H := pif_t (of_decide_eq_true hb) H
                          refine CJ.seq ?_
                          refine CJ.region ?_
                          refine OJ.pures tU_ok 1 rfl ?_
                          refine OJ.nil (EJ.next ?_)
                          refine CJ.ret (EJ.bkR (EJ.skR (EJ.skR (EJ.bkR (EJ.skR (EJ.bkR (EJ.skR (EJ.skR (EJ.bkR (EJ.skR (EJ.skR (?_))))))))))))
                          first | (obtain rfl := Option.some.inj H; have H := K119) | (obtain ⟨q119, H2, e119⟩ := pbind H; obtain rfl := Option.some.inj e119; obtain rfl := Option.some.inj K119; have H := H2)
                          first | (obtain rfl := Option.some.inj H; have H := K115) | (obtain ⟨q115, H2, e115⟩ := pbind H; obtain rfl := Option.some.inj e115; obtain rfl := Option.some.inj K115; have H := H2)
                          first | (obtain rfl := Option.some.inj H; have H := K90) | (obtain ⟨q90, H2, e90⟩ := pbind H; obtain rfl := Option.some.inj e90; obtain rfl := Option.some.inj K90; have H := H2)
                          obtain rfl := Option.some.inj H
                          exact EJ.fin rfl (.tmp rfl .nil) ⟨rfl, hS.ext⟩
                        · replace H := pif_f (of_decide_eq_false hb) H
                          refine CJ.skip (EJ.blk (EJ.next ?_))
                          refine CJ.region ?_
                          refine OJ.pures tU_ok 2 rfl ?_
                          refine OJ.nil ?_
                          exact EJ.round k (F' := [(1, .pointer (some ⟨b1, 0, none⟩)), (3, .int .i64 (a0.Names.length : Int)), (4, .int .i64 y3), (27, .slice Aa0_0 a0.Names.length ca0_0), (28, .int .i64 (a0.Names.length : Int)), (29, .int .i64 y3), (71, .int .i64 y3), (72, .int .i64 (IntKind.i64.wrap (y14 + 1)))]) ⟨rfl, rfl, rfl, rfl, rfl, rfl, rfl, rfl, trivial⟩ (Nat.lt_succ_self _) ⟨(IntKind.i64.wrap (y14 + 1)), rfl, hS.pick [0] [0, 1, 2] rfl, H⟩
                      · replace H := pif_f (of_decide_eq_false hb) H
                        refine CJ.exit (EJ.skE (EJ.skE (EJ.hit (?_))))
                        exact EJ.meet (F' := [(1, .pointer (some ⟨b1, 0, none⟩)), (3, .int .i64 (a0.Names.length : Int)), (27, .slice Aa0_0 a0.Names.length ca0_0), (28, .int .i64 (a0.Names.length : Int)), (29, .int .i64 y3)]) ⟨rfl, rfl, rfl, rfl, rfl, trivial⟩ ⟨H, rfl, hS.pick [0] [0, 1, 2] rfl⟩
                  · rintro F w1 ⟨he, rfl, hS⟩
                    obtain rfl := Option.some.inj he
                    have H := K119
                    refine EJ.blk (?_)
                    exact EJ.meet (F' := [(1, .pointer (some ⟨b1, 0, none⟩)), (3, .int .i64 (a0.Names.length : Int)), (27, .slice Aa0_0 a0.Names.length ca0_0), (28, .int .i64 (a0.Names.length : Int)), (29, .int .i64 y3)]) ⟨rfl, rfl, rfl, rfl, rfl, trivial⟩ ⟨H, rfl, hS.pick [0] [0, 1, 2] rfl⟩
            · rintro F w1 ⟨he, rfl, hS⟩
              obtain rfl := Option.some.inj he
              have H := K115
              refine CJ.region ?_
              refine OJ.pures tU_ok 2 rfl ?_
              refine OJ.nil ?_
              exact EJ.round k (F' := [(1, .pointer (some ⟨b1, 0, none⟩)), (3, .int .i64 (a0.Names.length : Int)), (27, .slice Aa0_0 a0.Names.length ca0_0), (28, .int .i64 (a0.Names.length : Int)), (29, .int .i64 (IntKind.i64.wrap (y3 + 1)))]) ⟨rfl, rfl, rfl, rfl, rfl, trivial⟩ (Nat.lt_succ_self _) ⟨(IntKind.i64.wrap (y3 + 1)), rfl, hS.pick [0] [0, 1, 2] rfl, H⟩
          · replace H := pif_f (of_decide_eq_false hb) H
            refine CJ.exit (EJ.skE (EJ.skE (EJ.hit (?_))))
            exact EJ.meet (F' := []) trivial ⟨H, rfl, hS.pick [] [0, 1, 2] rfl⟩
      · rintro F w1 ⟨he, rfl, hS⟩
        obtain rfl := Option.some.inj he
        have H := K90
        refine EJ.next ?_
        refine CJ.seq ?_
        refine CJ.region ?_
        refine OJ.pures tU_ok 1 rfl ?_
        refine OJ.nil (EJ.next ?_)
        refine CJ.ret (?_)
        obtain rfl := Option.some.inj H
        exact EJ.fin rfl (.tmp rfl .nil) ⟨rfl, hS.ext⟩

def impl_size_int64.f (a0 : List Int) : Option Int := some (a0.length : Int)
theorem impl_size_int64.c (w : World) (Aa0 : Option Addr) (ca0 : Nat) (a0 : List Int) (hr0 : Rd (ci .i64) w Aa0 a0) (hc0 : a0.length ≤ ca0) (r : Int) (H : impl_size_int64.f a0 = some r) :
    CV Tryd.prog 52 [.slice Aa0 a0.length ca0].toArray w fun v w' => v = .int .i64 r ∧ Ext w w' := by
  have hS := ((St.init w no).param (ci .i64) Aa0 ca0 a0 hr0 hc0)
  unfold impl_size_int64.f at H
  refine CV.body Tryd.func52 rfl Tryd.ntmps52 rfl ?_
  refine CJ.seq ?_
  refine CJ.region ?_
  refine OJ.pures tU_ok 1 rfl ?_
  refine OJ.nil (EJ.next ?_)
  refine CJ.seq ?_
  refine CJ.region ?_
  refine OJ.pures tU_ok 3 rfl ?_
  refine OJ.nil (EJ.next ?_)
  refine CJ.ret (?_)
  obtain rfl := Option.some.inj H
  exact EJ.fin rfl (.tmp rfl .nil) ⟨rfl, hS.ext⟩
end Go.Proofs.YtbpjhagilkeilaaDoor
