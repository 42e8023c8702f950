/-
  What the functions come to.
-/
import Derived.Test.YtbpjhagilkeilaaDoorGT
namespace Go.Proofs.YtbpjhagilkeilaaDoor
open G
set_option linter.unusedVariables false
set_option linter.unusedSimpArgs false
set_option maxRecDepth 100000
set_option maxHeartbeats 4000000
def laws_szStringS.l1 (a0 : List ByteArray) : Nat → Int → Int → Option (Int ⊕ Int)
  | 0, _, _ => none
  | k + 1, y2, y3 => if y3 < (a0.length : Int) then ((getI a0 y3).bind fun t4 => if (IntKind.i64.wrap (y2 - (t4.size : Int))) < 0 then (some (Sum.inl (-1))) else (laws_szStringS.l1 a0 k (IntKind.i64.wrap (y2 - (t4.size : Int))) (IntKind.i64.wrap (y3 + 1)))) else (some (Sum.inr y2))
def laws_szStringS.f (k : Nat) (a0 : List ByteArray) (a1 : Int) : Option Int := if (IntKind.i64.wrap (a1 - (a0.length : Int))) < 0 then (some (-1)) else ((laws_szStringS.l1 a0 k (IntKind.i64.wrap (a1 - (a0.length : Int))) 0).bind fun s1 => match s1 with | .inl r => some r | .inr y1 => some y1)
theorem laws_szStringS.c (k : Nat) (w : World) (Aa0 : Option Addr) (ca0 : Nat) (a0 : List ByteArray) (hr0 : Rd G.cs w Aa0 a0) (hc0 : a0.length ≤ ca0) (a1 : Int) (r : Int) (H : laws_szStringS.f k a0 a1 = some r) :
    CV Tryd.prog 24 [.slice Aa0 a0.length ca0, .int .i64 a1].toArray w fun v w' => v = .int .i64 r ∧ Ext w w' := by
  have hS := ((St.init w no).param G.cs Aa0 ca0 a0 hr0 hc0)
  unfold laws_szStringS.f at H
  refine CV.body Tryd.func24 rfl Tryd.ntmps24 rfl ?_
  refine CJ.seq ?_
  refine CJ.region ?_
  refine OJ.pures tU_ok 1 rfl ?_
  refine OJ.nil (EJ.next ?_)
  refine CJ.seq ?_
  refine CJ.region ?_
  refine OJ.pures tU_ok 5 rfl ?_
  refine OJ.nil (EJ.next ?_)
  refine CJ.seq ?_
  refine CJ.seq ?_
  refine CJ.region ?_
  refine OJ.pures tU_ok 2 rfl ?_
  refine OJ.nil (EJ.next ?_)
  refine CJ.cond rfl (fun hb => ?_) (fun hb => ?_)
  · replace H := pif_t (of_decide_eq_true hb) H
    refine CJ.seq ?_
    refine CJ.region ?_
    refine OJ.pures tU_ok 1 rfl ?_
    refine OJ.nil (EJ.next ?_)
    refine CJ.ret (EJ.skR (?_))
    obtain rfl := Option.some.inj H
    exact EJ.fin rfl (.tmp rfl .nil) ⟨rfl, hS.ext⟩
  · replace H := pif_f (of_decide_eq_false hb) H
    refine CJ.skip (EJ.next ?_)
    refine CJ.seq ?_
    refine CJ.seq ?_
    refine CJ.region ?_
    refine OJ.pures tU_ok 1 rfl ?_
    refine OJ.nil (EJ.next ?_)
    obtain ⟨j1, H, K1⟩ := pbind H
    refine CJ.cut1 (fun F w1 => ∃ (y1 : Int) , (some (Sum.inr y1) : Option (Int ⊕ Int)) = some j1 ∧ F = [(1, .int .i64 y1)] ∧ St w no w1 [] [roC G.cs Aa0 ca0 a0]) ?_ ?_
    · skip
      refine CJ.block ?_
      refine CJ.loop (fun k F w1 => ∃ (y2 : Int) (y3 : Int), F = [(0, .slice Aa0 a0.length ca0), (1, .int .i64 y2), (5, .int .i64 y3)] ∧ St w no w1 [] [roC G.cs Aa0 ca0 a0] ∧ laws_szStringS.l1 a0 k y2 y3 = some j1) k (F' := [(0, .slice Aa0 a0.length ca0), (1, .int .i64 (IntKind.i64.wrap (a1 - (a0.length : Int)))), (5, .int .i64 0)]) ⟨rfl, rfl, rfl, trivial⟩ ⟨(IntKind.i64.wrap (a1 - (a0.length : Int))), 0, rfl, hS.pick [] [0] rfl, H⟩ ?_
      rintro k F w1 ⟨y2, y3, rfl, hS, H⟩
      cases k with
      | zero => rw [laws_szStringS.l1] at H; cases H
      | succ k =>
        rw [laws_szStringS.l1] at H
        refine CJ.seq ?_
        refine CJ.seq ?_
        refine CJ.region ?_
        refine OJ.pures tU_ok 4 rfl ?_
        refine OJ.nil (EJ.next ?_)
        refine CJ.cond rfl (fun hb => ?_) (fun hb => ?_)
        · replace H := pif_t (of_decide_eq_true hb) H
          refine CJ.skip (EJ.next ?_)
          refine CJ.seq ?_
          refine CJ.block ?_
          refine CJ.seq ?_
          refine CJ.region ?_
          refine OJ.pures tU_ok 3 rfl ?_
          obtain ⟨t4, ht4, H⟩ := pbind H
          obtain ⟨ad4, e4⟩ := (hS.rd' (i := 0) rfl).some' ht4
          refine OJ.st rfl rfl rfl (SR.idxS tU_ok tI_ok rfl rfl rfl rfl e4 rfl (getI_some ht4).1) ?_
          refine OJ.st rfl rfl rfl (SR.load rfl rfl (fun w' hx => ld1 tU_ok rfl rfl (CA.ext ((hS.rd' (i := 0) rfl).at_ e4 ht4) hx) rfl)) ?_
          refine OJ.pures tU_ok 3 rfl ?_
          refine OJ.nil (EJ.next ?_)
          refine CJ.seq ?_
          refine CJ.region ?_
          refine OJ.pures tU_ok 2 rfl ?_
          refine OJ.nil (EJ.next ?_)
          refine CJ.cond rfl (fun hb => ?_) (fun hb => ?_)
          · replace H := pif_t (of_decide_eq_true hb) H
            refine CJ.seq ?_
            refine CJ.region ?_
            refine OJ.pures tU_ok 1 rfl ?_
            refine OJ.nil (EJ.next ?_)
            refine CJ.ret (EJ.bkR (EJ.skR (EJ.skR (EJ.bkR (EJ.skR (EJ.skR (?_)))))))
            first | (obtain rfl := Option.some.inj H; have H := K1) | (obtain ⟨q1, H2, e1⟩ := pbind H; obtain rfl := Option.some.inj e1; obtain rfl := Option.some.inj K1; have H := H2)
            obtain rfl := Option.some.inj H
            exact EJ.fin rfl (.tmp rfl .nil) ⟨rfl, hS.ext⟩
          · replace H := pif_f (of_decide_eq_false hb) H
            refine CJ.skip (EJ.blk (EJ.next ?_))
            refine CJ.region ?_
            refine OJ.pures tU_ok 3 rfl ?_
            refine OJ.nil ?_
            exact EJ.round k (F' := [(0, .slice Aa0 a0.length ca0), (1, .int .i64 (IntKind.i64.wrap (y2 - (t4.size : Int)))), (5, .int .i64 (IntKind.i64.wrap (y3 + 1)))]) ⟨rfl, rfl, rfl, trivial⟩ (Nat.lt_succ_self _) ⟨(IntKind.i64.wrap (y2 - (t4.size : Int))), (IntKind.i64.wrap (y3 + 1)), rfl, hS.pick [] [0] rfl, H⟩
        · replace H := pif_f (of_decide_eq_false hb) H
          refine CJ.exit (EJ.skE (EJ.skE (EJ.hit (?_))))
          exact EJ.meet (F' := [(1, .int .i64 y2)]) ⟨rfl, trivial⟩ ⟨y2, H, rfl, hS.pick [] [0] rfl⟩
    · rintro F w1 ⟨y1, he, rfl, hS⟩
      obtain rfl := Option.some.inj he
      have H := K1
      refine EJ.next ?_
      refine CJ.seq ?_
      refine CJ.region ?_
      refine OJ.pures tU_ok 2 rfl ?_
      refine OJ.nil (EJ.next ?_)
      refine CJ.ret (?_)
      obtain rfl := Option.some.inj H
      exact EJ.fin rfl (.tmp rfl .nil) ⟨rfl, hS.ext⟩

def laws_szInt16S.f (a0 : List Int) (a1 : Int) : Option Int := if (IntKind.i64.wrap (a1 - (a0.length : Int))) < 0 then (some (-1)) else (some (IntKind.i64.wrap (a1 - (a0.length : Int))))
theorem laws_szInt16S.c (w : World) (Aa0 : Option Addr) (ca0 : Nat) (a0 : List Int) (hr0 : Rd (ci .i16) w Aa0 a0) (hc0 : a0.length ≤ ca0) (a1 : Int) (r : Int) (H : laws_szInt16S.f a0 a1 = some r) :
    CV Tryd.prog 25 [.slice Aa0 a0.length ca0, .int .i64 a1].toArray w fun v w' => v = .int .i64 r ∧ Ext w w' := by
  have hS := ((St.init w no).param (ci .i16) Aa0 ca0 a0 hr0 hc0)
  unfold laws_szInt16S.f at H
  refine CV.body Tryd.func25 rfl Tryd.ntmps25 rfl ?_
  refine CJ.seq ?_
  refine CJ.region ?_
  refine OJ.pures tU_ok 1 rfl ?_
  refine OJ.nil (EJ.next ?_)
  refine CJ.seq ?_
  refine CJ.region ?_
  refine OJ.pures tU_ok 5 rfl ?_
  refine OJ.nil (EJ.next ?_)
  refine CJ.seq ?_
  refine CJ.seq ?_
  refine CJ.region ?_
  refine OJ.pures tU_ok 2 rfl ?_
  refine OJ.nil (EJ.next ?_)
  refine CJ.cond rfl (fun hb => ?_) (fun hb => ?_)
  · replace H := pif_t (of_decide_eq_true hb) H
    refine CJ.seq ?_
    refine CJ.region ?_
    refine OJ.pures tU_ok 1 rfl ?_
    refine OJ.nil (EJ.next ?_)
    refine CJ.ret (EJ.skR (?_))
    obtain rfl := Option.some.inj H
    exact EJ.fin rfl (.tmp rfl .nil) ⟨rfl, hS.ext⟩
  · replace H := pif_f (of_decide_eq_false hb) H
    refine CJ.skip (EJ.next ?_)
    refine CJ.seq ?_
    refine CJ.region ?_
    refine OJ.pures tU_ok 2 rfl ?_
    refine OJ.nil (EJ.next ?_)
    refine CJ.ret (?_)
    obtain rfl := Option.some.inj H
    exact EJ.fin rfl (.tmp rfl .nil) ⟨rfl, hS.ext⟩

def laws_szUint16S.f (a0 : List Int) (a1 : Int) : Option Int := if (IntKind.i64.wrap (a1 - (a0.length : Int))) < 0 then (some (-1)) else (some (IntKind.i64.wrap (a1 - (a0.length : Int))))
theorem laws_szUint16S.c (w : World) (Aa0 : Option Addr) (ca0 : Nat) (a0 : List Int) (hr0 : Rd (ci .u16) w Aa0 a0) (hc0 : a0.length ≤ ca0) (a1 : Int) (r : Int) (H : laws_szUint16S.f a0 a1 = some r) :
    CV Tryd.prog 26 [.slice Aa0 a0.length ca0, .int .i64 a1].toArray w fun v w' => v = .int .i64 r ∧ Ext w w' := by
  have hS := ((St.init w no).param (ci .u16) Aa0 ca0 a0 hr0 hc0)
  unfold laws_szUint16S.f at H
  refine CV.body Tryd.func26 rfl Tryd.ntmps26 rfl ?_
  refine CJ.seq ?_
  refine CJ.region ?_
  refine OJ.pures tU_ok 1 rfl ?_
  refine OJ.nil (EJ.next ?_)
  refine CJ.seq ?_
  refine CJ.region ?_
  refine OJ.pures tU_ok 5 rfl ?_
  refine OJ.nil (EJ.next ?_)
  refine CJ.seq ?_
  refine CJ.seq ?_
  refine CJ.region ?_
  refine OJ.pures tU_ok 2 rfl ?_
  refine OJ.nil (EJ.next ?_)
  refine CJ.cond rfl (fun hb => ?_) (fun hb => ?_)
  · replace H := pif_t (of_decide_eq_true hb) H
    refine CJ.seq ?_
    refine CJ.region ?_
    refine OJ.pures tU_ok 1 rfl ?_
    refine OJ.nil (EJ.next ?_)
    refine CJ.ret (EJ.skR (?_))
    obtain rfl := Option.some.inj H
    exact EJ.fin rfl (.tmp rfl .nil) ⟨rfl, hS.ext⟩
  · replace H := pif_f (of_decide_eq_false hb) H
    refine CJ.skip (EJ.next ?_)
    refine CJ.seq ?_
    refine CJ.region ?_
    refine OJ.pures tU_ok 2 rfl ?_
    refine OJ.nil (EJ.next ?_)
    refine CJ.ret (?_)
    obtain rfl := Option.some.inj H
    exact EJ.fin rfl (.tmp rfl .nil) ⟨rfl, hS.ext⟩

def laws_szHerd.f (k : Nat) (a0 : Herd) (a1 : Int) : Option Int := (laws_szStringS.f k a0.Names a1).bind fun t2 => if t2 < 0 then (some (-1)) else ((laws_szInt16S.f a0.Eats t2).bind fun t3 => if t3 < 0 then (some (-1)) else ((laws_szUint16S.f a0.Foes t3).bind fun t4 => if t4 < 0 then (some (-1)) else (some t4)))
theorem laws_szHerd.c (k : Nat) (w : World) (Aa0_0 : Option Addr) (ca0_0 : Nat) (Aa0_1 : Option Addr) (ca0_1 : Nat) (Aa0_2 : Option Addr) (ca0_2 : Nat) (a0 : Herd) (hr0_0 : Rd G.cs w Aa0_0 a0.Names) (hc0_0 : a0.Names.length ≤ ca0_0) (hr0_1 : Rd (ci .i16) w Aa0_1 a0.Eats) (hc0_1 : a0.Eats.length ≤ ca0_1) (hr0_2 : Rd (ci .u16) w Aa0_2 a0.Foes) (hc0_2 : a0.Foes.length ≤ ca0_2) (a1 : Int) (r : Int) (H : laws_szHerd.f k a0 a1 = some r) :
    CV Tryd.prog 7 [.agg [.slice Aa0_0 a0.Names.length ca0_0, .slice Aa0_1 a0.Eats.length ca0_1, .slice Aa0_2 a0.Foes.length ca0_2].toArray, .int .i64 a1].toArray w fun v w' => v = .int .i64 r ∧ Ext w w' := by
  have hS := ((((St.init w no).param G.cs Aa0_0 ca0_0 a0.Names hr0_0 hc0_0).param (ci .i16) Aa0_1 ca0_1 a0.Eats hr0_1 hc0_1).param (ci .u16) Aa0_2 ca0_2 a0.Foes hr0_2 hc0_2)
  unfold laws_szHerd.f at H
  refine CV.body Tryd.func7 rfl Tryd.ntmps7 rfl ?_
  refine CJ.seq ?_
  refine CJ.region ?_
  refine OJ.ef rfl rfl rfl (Ef.box hS rfl rfl ([.slice Aa0_0 a0.Names.length ca0_0, .slice Aa0_1 a0.Eats.length ca0_1, .slice Aa0_2 a0.Foes.length ca0_2]) rfl) ?_
  rintro _ w1 ⟨b1, rfl, hS⟩
  refine OJ.pures tU_ok 1 rfl ?_
  refine OJ.nil (EJ.next ?_)
  refine CJ.seq ?_
  refine CJ.region ?_
  refine OJ.st rfl rfl rfl (SR.fieldAddr tU_ok tI_ok rfl rfl rfl rfl rfl rfl) ?_
  refine OJ.st rfl rfl rfl (SR.load rfl rfl (fun w' hx => ld1 tU_ok rfl rfl (CA.ext (CA.sub (hS.cells (i := 0) rfl) 0) hx) rfl)) ?_
  refine OJ.pures tU_ok 1 rfl ?_
  obtain ⟨t2, ht2, H⟩ := pbind H
  refine OJ.callF rfl rfl rfl rfl rfl hb24 rfl (laws_szStringS.c k _ Aa0_0 ca0_0 a0.Names (hS.rd' (i := 0) rfl) (hS.le' (i := 0) rfl) a1 _ ht2) ?_
  rintro _ w1 ⟨rfl, hs⟩
  replace hS := hS.grow hs
  refine OJ.pures tU_ok 1 rfl ?_
  refine OJ.nil (EJ.next ?_)
  refine CJ.seq ?_
  refine CJ.seq ?_
  refine CJ.region ?_
  refine OJ.pures tU_ok 2 rfl ?_
  refine OJ.nil (EJ.next ?_)
  refine CJ.cond rfl (fun hb => ?_) (fun hb => ?_)
  · replace H := pif_t (of_decide_eq_true hb) H
    refine CJ.seq ?_
    refine CJ.region ?_
    refine OJ.pures tU_ok 1 rfl ?_
    refine OJ.nil (EJ.next ?_)
    refine CJ.ret (EJ.skR (?_))
    obtain rfl := Option.some.inj H
    exact EJ.fin rfl (.tmp rfl .nil) ⟨rfl, hS.ext⟩
  · replace H := pif_f (of_decide_eq_false hb) H
    refine CJ.skip (EJ.next ?_)
    refine CJ.seq ?_
    refine CJ.region ?_
    refine OJ.st rfl rfl rfl (SR.fieldAddr tU_ok tI_ok rfl rfl rfl rfl rfl rfl) ?_
    refine OJ.st rfl rfl rfl (SR.load rfl rfl (fun w' hx => ld1 tU_ok rfl rfl (CA.ext (CA.sub (hS.cells (i := 0) rfl) 1) hx) rfl)) ?_
    refine OJ.pures tU_ok 1 rfl ?_
    obtain ⟨t3, ht3, H⟩ := pbind H
    refine OJ.callF rfl rfl rfl rfl rfl hb25 rfl (laws_szInt16S.c _ Aa0_1 ca0_1 a0.Eats (hS.rd' (i := 1) rfl) (hS.le' (i := 1) rfl) t2 _ ht3) ?_
    rintro _ w1 ⟨rfl, hs⟩
    replace hS := hS.grow hs
    refine OJ.pures tU_ok 1 rfl ?_
    refine OJ.nil (EJ.next ?_)
    refine CJ.seq ?_
    refine CJ.seq ?_
    refine CJ.region ?_
    refine OJ.pures tU_ok 2 rfl ?_
    refine OJ.nil (EJ.next ?_)
    refine CJ.cond rfl (fun hb => ?_) (fun hb => ?_)
    · replace H := pif_t (of_decide_eq_true hb) H
      refine CJ.seq ?_
      refine CJ.region ?_
      refine OJ.pures tU_ok 1 rfl ?_
      refine OJ.nil (EJ.next ?_)
      refine CJ.ret (EJ.skR (?_))
      obtain rfl := Option.some.inj H
      exact EJ.fin rfl (.tmp rfl .nil) ⟨rfl, hS.ext⟩
    · replace H := pif_f (of_decide_eq_false hb) H
      refine CJ.skip (EJ.next ?_)
      refine CJ.seq ?_
      refine CJ.region ?_
      refine OJ.st rfl rfl rfl (SR.fieldAddr tU_ok tI_ok rfl rfl rfl rfl rfl rfl) ?_
      refine OJ.st rfl rfl rfl (SR.load rfl rfl (fun w' hx => ld1 tU_ok rfl rfl (CA.ext (CA.sub (hS.cells (i := 0) rfl) 2) hx) rfl)) ?_
      refine OJ.pures tU_ok 1 rfl ?_
      obtain ⟨t4, ht4, H⟩ := pbind H
      refine OJ.callF rfl rfl rfl rfl rfl hb26 rfl (laws_szUint16S.c _ Aa0_2 ca0_2 a0.Foes (hS.rd' (i := 2) rfl) (hS.le' (i := 2) rfl) t3 _ ht4) ?_
      rintro _ w1 ⟨rfl, hs⟩
      replace hS := hS.grow hs
      refine OJ.pures tU_ok 1 rfl ?_
      refine OJ.nil (EJ.next ?_)
      refine CJ.seq ?_
      refine CJ.seq ?_
      refine CJ.region ?_
      refine OJ.pures tU_ok 2 rfl ?_
      refine OJ.nil (EJ.next ?_)
      refine CJ.cond rfl (fun hb => ?_) (fun hb => ?_)
      · replace H := pif_t (of_decide_eq_true hb) H
        refine CJ.seq ?_
        refine CJ.region ?_
        refine OJ.pures tU_ok 1 rfl ?_
        refine OJ.nil (EJ.next ?_)
        refine CJ.ret (EJ.skR (?_))
        obtain rfl := Option.some.inj H
        exact EJ.fin rfl (.tmp rfl .nil) ⟨rfl, hS.ext⟩
      · replace H := pif_f (of_decide_eq_false hb) H
        refine CJ.skip (EJ.next ?_)
        refine CJ.seq ?_
        refine CJ.region ?_
        refine OJ.pures tU_ok 2 rfl ?_
        refine OJ.nil (EJ.next ?_)
        refine CJ.ret (?_)
        obtain rfl := Option.some.inj H
        exact EJ.fin rfl (.tmp rfl .nil) ⟨rfl, hS.ext⟩

def laws_toStringS.l1 (a0 : List ByteArray) : Nat → (List ByteArray) → Int → Option (List ByteArray)
  | 0, _, _ => none
  | k + 1, y4, y5 => if y5 < (a0.length : Int) then ((getI a0 y5).bind fun t6 => (getI y4 y5).bind fun t7 => laws_toStringS.l1 a0 k (y4.set y5.toNat t6) (IntKind.i64.wrap (y5 + 1))) else (some y4)
def laws_toStringS.f (k : Nat) (a0 : List ByteArray) : Option (List ByteArray) := (chk (0 ≤ (a0.length : Int) ∧ (a0.length : Int) ≤ 4294967296)).bind fun u1 => (laws_toStringS.l1 a0 k (List.replicate ((a0.length : Int).toNat) ByteArray.empty : List ByteArray) 0).bind fun y3 => some y3
theorem laws_toStringS.c (k : Nat) (w : World) (Aa0 : Option Addr) (ca0 : Nat) (a0 : List ByteArray) (hr0 : Rd G.cs w Aa0 a0) (hc0 : a0.length ≤ ca0) (r : List ByteArray) (H : laws_toStringS.f k a0 = some r) :
    CV Tryd.prog 30 [.slice Aa0 a0.length ca0].toArray w fun v w' => ∃ (A0 : Option Addr) (c0 : Nat), v = .slice A0 r.length c0 ∧ St w no w' [rowC G.cs A0 c0 9 r] [] := by
  have hS := ((St.init w no).param G.cs Aa0 ca0 a0 hr0 hc0)
  unfold laws_toStringS.f at H
  refine CV.body Tryd.func30 rfl Tryd.ntmps30 rfl ?_
  refine CJ.seq ?_
  refine CJ.region ?_
  refine OJ.pures tU_ok 1 rfl ?_
  refine OJ.nil (EJ.next ?_)
  refine CJ.seq ?_
  refine CJ.region ?_
  refine OJ.pures tU_ok 2 rfl ?_
  obtain ⟨u1, hu1, H⟩ := pbind H
  refine OJ.ef rfl rfl rfl (Ef.make tU_ok tI_ok hS (C := G.cs) rfl rfl rfl rfl rfl rfl rfl rfl (chk_some hu1) ByteArray.empty rfl) ?_
  rintro _ w1 ⟨A2, rfl, hS⟩
  refine OJ.pures tU_ok 1 rfl ?_
  refine OJ.nil (EJ.next ?_)
  refine CJ.seq ?_
  refine CJ.seq ?_
  refine CJ.region ?_
  refine OJ.pures tU_ok 1 rfl ?_
  refine OJ.nil (EJ.next ?_)
  obtain ⟨j2, H, K2⟩ := pbind H
  refine CJ.cut1 (fun F w1 => ∃ (y3 : List ByteArray) , (some y3 : Option (List ByteArray)) = some j2 ∧ F = [(3, .slice A2 y3.length ((a0.length : Int).toNat))] ∧ St w no w1 [rowC G.cs A2 ((a0.length : Int).toNat) 9 y3] [roC G.cs Aa0 ca0 a0]) ?_ ?_
  · skip
    refine CJ.block ?_
    refine CJ.loop (fun k F w1 => ∃ (y4 : List ByteArray) (y5 : Int), F = [(0, .slice Aa0 a0.length ca0), (3, .slice A2 y4.length ((a0.length : Int).toNat)), (4, .int .i64 y5)] ∧ St w no w1 [rowC G.cs A2 ((a0.length : Int).toNat) 9 y4] [roC G.cs Aa0 ca0 a0] ∧ laws_toStringS.l1 a0 k y4 y5 = some j2) k (F' := [(0, .slice Aa0 a0.length ca0), (3, .slice A2 (List.replicate ((a0.length : Int).toNat) ByteArray.empty : List ByteArray).length ((a0.length : Int).toNat)), (4, .int .i64 0)]) ⟨rfl, rfl, rfl, trivial⟩ ⟨(List.replicate ((a0.length : Int).toNat) ByteArray.empty : List ByteArray), 0, rfl, hS.pick [0] [0] rfl, H⟩ ?_
    rintro k F w1 ⟨y4, y5, rfl, hS, H⟩
    cases k with
    | zero => rw [laws_toStringS.l1] at H; cases H
    | succ k =>
      rw [laws_toStringS.l1] at H
      refine CJ.seq ?_
      refine CJ.seq ?_
      refine CJ.region ?_
      refine OJ.pures tU_ok 4 rfl ?_
      refine OJ.nil (EJ.next ?_)
      refine CJ.cond rfl (fun hb => ?_) (fun hb => ?_)
      · replace H := pif_t (of_decide_eq_true hb) H
        refine CJ.skip (EJ.next ?_)
        refine CJ.seq ?_
        refine CJ.block ?_
        refine CJ.region ?_
        refine OJ.pures tU_ok 4 rfl ?_
        obtain ⟨t6, ht6, H⟩ := pbind H
        obtain ⟨ad6, e6⟩ := (hS.rd' (i := 0) rfl).some' ht6
        refine OJ.st rfl rfl rfl (SR.idxS tU_ok tI_ok rfl rfl rfl rfl e6 rfl (getI_some ht6).1) ?_
        refine OJ.st rfl rfl rfl (SR.load rfl rfl (fun w' hx => ld1 tU_ok rfl rfl (CA.ext ((hS.rd' (i := 0) rfl).at_ e6 ht6) hx) rfl)) ?_
        obtain ⟨t7, ht7, H⟩ := pbind H
        obtain ⟨ad7, e7⟩ := (hS.rd (i := 0) rfl).some' ht7
        refine OJ.st rfl rfl rfl (SR.idxS tU_ok tI_ok rfl rfl rfl rfl e7 rfl (getI_some ht7).1) ?_
        refine OJ.es rfl rfl (Es.storeR tI_ok hS (i := 0) (off := 0) rfl rfl ht7 e7 rfl rfl rfl rfl (vs := G.cs.enc t6) rfl rfl (one1 rfl) (Nat.le_of_ble_eq_true rfl) t6 rfl) ?_
        intro w1 hS
        refine OJ.as (t := 3) rfl (show _ = (.slice A2 (y4.set y5.toNat t6).length ((a0.length : Int).toNat) : Value) by simp only [List.length_set]) ?_
        refine OJ.as (t := 14) rfl (show _ = (.slice A2 (y4.set y5.toNat t6).length ((a0.length : Int).toNat) : Value) by simp only [List.length_set]) ?_
        refine OJ.nil (EJ.blk (EJ.next ?_))
        refine CJ.region ?_
        refine OJ.pures tU_ok 3 rfl ?_
        refine OJ.nil ?_
        exact EJ.round k (F' := [(0, .slice Aa0 a0.length ca0), (3, .slice A2 (y4.set y5.toNat t6).length ((a0.length : Int).toNat)), (4, .int .i64 (IntKind.i64.wrap (y5 + 1)))]) ⟨rfl, rfl, rfl, trivial⟩ (Nat.lt_succ_self _) ⟨(y4.set y5.toNat t6), (IntKind.i64.wrap (y5 + 1)), rfl, hS.pick [0] [0] rfl, H⟩
      · replace H := pif_f (of_decide_eq_false hb) H
        refine CJ.exit (EJ.skE (EJ.skE (EJ.hit (?_))))
        exact EJ.meet (F' := [(3, .slice A2 y4.length ((a0.length : Int).toNat))]) ⟨rfl, trivial⟩ ⟨y4, H, rfl, hS.pick [0] [0] rfl⟩
  · rintro F w1 ⟨y3, he, rfl, hS⟩
    obtain rfl := Option.some.inj he
    have H := K2
    refine EJ.next ?_
    refine CJ.seq ?_
    refine CJ.region ?_
    refine OJ.pures tU_ok 2 rfl ?_
    refine OJ.nil (EJ.next ?_)
    refine CJ.ret (?_)
    obtain rfl := Option.some.inj H
    exact EJ.fin rfl (.tmp rfl .nil) ⟨A2, ((a0.length : Int).toNat), rfl, hS.pick [0] [] rfl⟩

def laws_toInt16S.l1 (a0 : List Int) : Nat → (List Int) → Int → Option (List Int)
  | 0, _, _ => none
  | k + 1, y4, y5 => if y5 < (a0.length : Int) then ((getI a0 y5).bind fun t6 => (getI y4 y5).bind fun t7 => laws_toInt16S.l1 a0 k (y4.set y5.toNat t6) (IntKind.i64.wrap (y5 + 1))) else (some y4)
def laws_toInt16S.f (k : Nat) (a0 : List Int) : Option (List Int) := (chk (0 ≤ (a0.length : Int) ∧ (a0.length : Int) ≤ 4294967296)).bind fun u1 => (laws_toInt16S.l1 a0 k (List.replicate ((a0.length : Int).toNat) 0 : List Int) 0).bind fun y3 => some y3
theorem laws_toInt16S.c (k : Nat) (w : World) (Aa0 : Option Addr) (ca0 : Nat) (a0 : List Int) (hr0 : Rd (ci .i16) w Aa0 a0) (hc0 : a0.length ≤ ca0) (r : List Int) (H : laws_toInt16S.f k a0 = some r) :
    CV Tryd.prog 31 [.slice Aa0 a0.length ca0].toArray w fun v w' => ∃ (A0 : Option Addr) (c0 : Nat), v = .slice A0 r.length c0 ∧ St w no w' [rowC (ci .i16) A0 c0 50 r] [] := by
  have hS := ((St.init w no).param (ci .i16) Aa0 ca0 a0 hr0 hc0)
  unfold laws_toInt16S.f at H
  refine CV.body Tryd.func31 rfl Tryd.ntmps31 rfl ?_
  refine CJ.seq ?_
  refine CJ.region ?_
  refine OJ.pures tU_ok 1 rfl ?_
  refine OJ.nil (EJ.next ?_)
  refine CJ.seq ?_
  refine CJ.region ?_
  refine OJ.pures tU_ok 2 rfl ?_
  obtain ⟨u1, hu1, H⟩ := pbind H
  refine OJ.ef rfl rfl rfl (Ef.make tU_ok tI_ok hS (C := (ci .i16)) rfl rfl rfl rfl rfl rfl rfl rfl (chk_some hu1) 0 rfl) ?_
  rintro _ w1 ⟨A2, rfl, hS⟩
  refine OJ.pures tU_ok 1 rfl ?_
  refine OJ.nil (EJ.next ?_)
  refine CJ.seq ?_
  refine CJ.seq ?_
  refine CJ.region ?_
  refine OJ.pures tU_ok 1 rfl ?_
  refine OJ.nil (EJ.next ?_)
  obtain ⟨j3, H, K3⟩ := pbind H
  refine CJ.cut1 (fun F w1 => ∃ (y3 : List Int) , (some y3 : Option (List Int)) = some j3 ∧ F = [(3, .slice A2 y3.length ((a0.length : Int).toNat))] ∧ St w no w1 [rowC (ci .i16) A2 ((a0.length : Int).toNat) 50 y3] [roC (ci .i16) Aa0 ca0 a0]) ?_ ?_
  · skip
    refine CJ.block ?_
    refine CJ.loop (fun k F w1 => ∃ (y4 : List Int) (y5 : Int), F = [(0, .slice Aa0 a0.length ca0), (3, .slice A2 y4.length ((a0.length : Int).toNat)), (4, .int .i64 y5)] ∧ St w no w1 [rowC (ci .i16) A2 ((a0.length : Int).toNat) 50 y4] [roC (ci .i16) Aa0 ca0 a0] ∧ laws_toInt16S.l1 a0 k y4 y5 = some j3) k (F' := [(0, .slice Aa0 a0.length ca0), (3, .slice A2 (List.replicate ((a0.length : Int).toNat) 0 : List Int).length ((a0.length : Int).toNat)), (4, .int .i64 0)]) ⟨rfl, rfl, rfl, trivial⟩ ⟨(List.replicate ((a0.length : Int).toNat) 0 : List Int), 0, rfl, hS.pick [0] [0] rfl, H⟩ ?_
    rintro k F w1 ⟨y4, y5, rfl, hS, H⟩
    cases k with
    | zero => rw [laws_toInt16S.l1] at H; cases H
    | succ k =>
      rw [laws_toInt16S.l1] at H
      refine CJ.seq ?_
      refine CJ.seq ?_
      refine CJ.region ?_
      refine OJ.pures tU_ok 4 rfl ?_
      refine OJ.nil (EJ.next ?_)
      refine CJ.cond rfl (fun hb => ?_) (fun hb => ?_)
      · replace H := pif_t (of_decide_eq_true hb) H
        refine CJ.skip (EJ.next ?_)
        refine CJ.seq ?_
        refine CJ.block ?_
        refine CJ.region ?_
        refine OJ.pures tU_ok 4 rfl ?_
        obtain ⟨t6, ht6, H⟩ := pbind H
        obtain ⟨ad6, e6⟩ := (hS.rd' (i := 0) rfl).some' ht6
        refine OJ.st rfl rfl rfl (SR.idxS tU_ok tI_ok rfl rfl rfl rfl e6 rfl (getI_some ht6).1) ?_
        refine OJ.st rfl rfl rfl (SR.load rfl rfl (fun w' hx => ld1 tU_ok rfl rfl (CA.ext ((hS.rd' (i := 0) rfl).at_ e6 ht6) hx) rfl)) ?_
        obtain ⟨t7, ht7, H⟩ := pbind H
        obtain ⟨ad7, e7⟩ := (hS.rd (i := 0) rfl).some' ht7
        refine OJ.st rfl rfl rfl (SR.idxS tU_ok tI_ok rfl rfl rfl rfl e7 rfl (getI_some ht7).1) ?_
        refine OJ.es rfl rfl (Es.storeR tI_ok hS (i := 0) (off := 0) rfl rfl ht7 e7 rfl rfl rfl rfl (vs := (ci .i16).enc t6) rfl rfl (one1 rfl) (Nat.le_of_ble_eq_true rfl) t6 rfl) ?_
        intro w1 hS
        refine OJ.as (t := 3) rfl (show _ = (.slice A2 (y4.set y5.toNat t6).length ((a0.length : Int).toNat) : Value) by simp only [List.length_set]) ?_
        refine OJ.as (t := 14) rfl (show _ = (.slice A2 (y4.set y5.toNat t6).length ((a0.length : Int).toNat) : Value) by simp only [List.length_set]) ?_
        refine OJ.nil (EJ.blk (EJ.next ?_))
        refine CJ.region ?_
        refine OJ.pures tU_ok 3 rfl ?_
        refine OJ.nil ?_
        exact EJ.round k (F' := [(0, .slice Aa0 a0.length ca0), (3, .slice A2 (y4.set y5.toNat t6).length ((a0.length : Int).toNat)), (4, .int .i64 (IntKind.i64.wrap (y5 + 1)))]) ⟨rfl, rfl, rfl, trivial⟩ (Nat.lt_succ_self _) ⟨(y4.set y5.toNat t6), (IntKind.i64.wrap (y5 + 1)), rfl, hS.pick [0] [0] rfl, H⟩
      · replace H := pif_f (of_decide_eq_false hb) H
        refine CJ.exit (EJ.skE (EJ.skE (EJ.hit (?_))))
        exact EJ.meet (F' := [(3, .slice A2 y4.length ((a0.length : Int).toNat))]) ⟨rfl, trivial⟩ ⟨y4, H, rfl, hS.pick [0] [0] rfl⟩
  · rintro F w1 ⟨y3, he, rfl, hS⟩
    obtain rfl := Option.some.inj he
    have H := K3
    refine EJ.next ?_
    refine CJ.seq ?_
    refine CJ.region ?_
    refine OJ.pures tU_ok 2 rfl ?_
    refine OJ.nil (EJ.next ?_)
    refine CJ.ret (?_)
    obtain rfl := Option.some.inj H
    exact EJ.fin rfl (.tmp rfl .nil) ⟨A2, ((a0.length : Int).toNat), rfl, hS.pick [0] [] rfl⟩

def laws_toUint16S.l1 (a0 : List Int) : Nat → (List Int) → Int → Option (List Int)
  | 0, _, _ => none
  | k + 1, y4, y5 => if y5 < (a0.length : Int) then ((getI a0 y5).bind fun t6 => (getI y4 y5).bind fun t7 => laws_toUint16S.l1 a0 k (y4.set y5.toNat t6) (IntKind.i64.wrap (y5 + 1))) else (some y4)
def laws_toUint16S.f (k : Nat) (a0 : List Int) : Option (List Int) := (chk (0 ≤ (a0.length : Int) ∧ (a0.length : Int) ≤ 4294967296)).bind fun u1 => (laws_toUint16S.l1 a0 k (List.replicate ((a0.length : Int).toNat) 0 : List Int) 0).bind fun y3 => some y3
theorem laws_toUint16S.c (k : Nat) (w : World) (Aa0 : Option Addr) (ca0 : Nat) (a0 : List Int) (hr0 : Rd (ci .u16) w Aa0 a0) (hc0 : a0.length ≤ ca0) (r : List Int) (H : laws_toUint16S.f k a0 = some r) :
    CV Tryd.prog 32 [.slice Aa0 a0.length ca0].toArray w fun v w' => ∃ (A0 : Option Addr) (c0 : Nat), v = .slice A0 r.length c0 ∧ St w no w' [rowC (ci .u16) A0 c0 51 r] [] := by
  have hS := ((St.init w no).param (ci .u16) Aa0 ca0 a0 hr0 hc0)
  unfold laws_toUint16S.f at H
  refine CV.body Tryd.func32 rfl Tryd.ntmps32 rfl ?_
  refine CJ.seq ?_
  refine CJ.region ?_
  refine OJ.pures tU_ok 1 rfl ?_
  refine OJ.nil (EJ.next ?_)
  refine CJ.seq ?_
  refine CJ.region ?_
  refine OJ.pures tU_ok 2 rfl ?_
  obtain ⟨u1, hu1, H⟩ := pbind H
  refine OJ.ef rfl rfl rfl (Ef.make tU_ok tI_ok hS (C := (ci .u16)) rfl rfl rfl rfl rfl rfl rfl rfl (chk_some hu1) 0 rfl) ?_
  rintro _ w1 ⟨A2, rfl, hS⟩
  refine OJ.pures tU_ok 1 rfl ?_
  refine OJ.nil (EJ.next ?_)
  refine CJ.seq ?_
  refine CJ.seq ?_
  refine CJ.region ?_
  refine OJ.pures tU_ok 1 rfl ?_
  refine OJ.nil (EJ.next ?_)
  obtain ⟨j4, H, K4⟩ := pbind H
  refine CJ.cut1 (fun F w1 => ∃ (y3 : List Int) , (some y3 : Option (List Int)) = some j4 ∧ F = [(3, .slice A2 y3.length ((a0.length : Int).toNat))] ∧ St w no w1 [rowC (ci .u16) A2 ((a0.length : Int).toNat) 51 y3] [roC (ci .u16) Aa0 ca0 a0]) ?_ ?_
  · skip
    refine CJ.block ?_
    refine CJ.loop (fun k F w1 => ∃ (y4 : List Int) (y5 : Int), F = [(0, .slice Aa0 a0.length ca0), (3, .slice A2 y4.length ((a0.length : Int).toNat)), (4, .int .i64 y5)] ∧ St w no w1 [rowC (ci .u16) A2 ((a0.length : Int).toNat) 51 y4] [roC (ci .u16) Aa0 ca0 a0] ∧ laws_toUint16S.l1 a0 k y4 y5 = some j4) k (F' := [(0, .slice Aa0 a0.length ca0), (3, .slice A2 (List.replicate ((a0.length : Int).toNat) 0 : List Int).length ((a0.length : Int).toNat)), (4, .int .i64 0)]) ⟨rfl, rfl, rfl, trivial⟩ ⟨(List.replicate ((a0.length : Int).toNat) 0 : List Int), 0, rfl, hS.pick [0] [0] rfl, H⟩ ?_
    rintro k F w1 ⟨y4, y5, rfl, hS, H⟩
    cases k with
    | zero => rw [laws_toUint16S.l1] at H; cases H
    | succ k =>
      rw [laws_toUint16S.l1] at H
      refine CJ.seq ?_
      refine CJ.seq ?_
      refine CJ.region ?_
      refine OJ.pures tU_ok 4 rfl ?_
      refine OJ.nil (EJ.next ?_)
      refine CJ.cond rfl (fun hb => ?_) (fun hb => ?_)
      · replace H := pif_t (of_decide_eq_true hb) H
        refine CJ.skip (EJ.next ?_)
        refine CJ.seq ?_
        refine CJ.block ?_
        refine CJ.region ?_
        refine OJ.pures tU_ok 4 rfl ?_
        obtain ⟨t6, ht6, H⟩ := pbind H
        obtain ⟨ad6, e6⟩ := (hS.rd' (i := 0) rfl).some' ht6
        refine OJ.st rfl rfl rfl (SR.idxS tU_ok tI_ok rfl rfl rfl rfl e6 rfl (getI_some ht6).1) ?_
        refine OJ.st rfl rfl rfl (SR.load rfl rfl (fun w' hx => ld1 tU_ok rfl rfl (CA.ext ((hS.rd' (i := 0) rfl).at_ e6 ht6) hx) rfl)) ?_
        obtain ⟨t7, ht7, H⟩ := pbind H
        obtain ⟨ad7, e7⟩ := (hS.rd (i := 0) rfl).some' ht7
        refine OJ.st rfl rfl rfl (SR.idxS tU_ok tI_ok rfl rfl rfl rfl e7 rfl (getI_some ht7).1) ?_
        refine OJ.es rfl rfl (Es.storeR tI_ok hS (i := 0) (off := 0) rfl rfl ht7 e7 rfl rfl rfl rfl (vs := (ci .u16).enc t6) rfl rfl (one1 rfl) (Nat.le_of_ble_eq_true rfl) t6 rfl) ?_
        intro w1 hS
        refine OJ.as (t := 3) rfl (show _ = (.slice A2 (y4.set y5.toNat t6).length ((a0.length : Int).toNat) : Value) by simp only [List.length_set]) ?_
        refine OJ.as (t := 14) rfl (show _ = (.slice A2 (y4.set y5.toNat t6).length ((a0.length : Int).toNat) : Value) by simp only [List.length_set]) ?_
        refine OJ.nil (EJ.blk (EJ.next ?_))
        refine CJ.region ?_
        refine OJ.pures tU_ok 3 rfl ?_
        refine OJ.nil ?_
        exact EJ.round k (F' := [(0, .slice Aa0 a0.length ca0), (3, .slice A2 (y4.set y5.toNat t6).length ((a0.length : Int).toNat)), (4, .int .i64 (IntKind.i64.wrap (y5 + 1)))]) ⟨rfl, rfl, rfl, trivial⟩ (Nat.lt_succ_self _) ⟨(y4.set y5.toNat t6), (IntKind.i64.wrap (y5 + 1)), rfl, hS.pick [0] [0] rfl, H⟩
      · replace H := pif_f (of_decide_eq_false hb) H
        refine CJ.exit (EJ.skE (EJ.skE (EJ.hit (?_))))
        exact EJ.meet (F' := [(3, .slice A2 y4.length ((a0.length : Int).toNat))]) ⟨rfl, trivial⟩ ⟨y4, H, rfl, hS.pick [0] [0] rfl⟩
  · rintro F w1 ⟨y3, he, rfl, hS⟩
    obtain rfl := Option.some.inj he
    have H := K4
    refine EJ.next ?_
    refine CJ.seq ?_
    refine CJ.region ?_
    refine OJ.pures tU_ok 2 rfl ?_
    refine OJ.nil (EJ.next ?_)
    refine CJ.ret (?_)
    obtain rfl := Option.some.inj H
    exact EJ.fin rfl (.tmp rfl .nil) ⟨A2, ((a0.length : Int).toNat), rfl, hS.pick [0] [] rfl⟩

def laws_toHerd.f (k : Nat) (a0 : Herd) : Option Herd := (laws_toStringS.f k a0.Names).bind fun t4 => (laws_toInt16S.f k a0.Eats).bind fun t7 => (laws_toUint16S.f k a0.Foes).bind fun t10 => some (⟨t4, t7, t10⟩ : Herd)
theorem laws_toHerd.c (k : Nat) (w : World) (Aa0_0 : Option Addr) (ca0_0 : Nat) (Aa0_1 : Option Addr) (ca0_1 : Nat) (Aa0_2 : Option Addr) (ca0_2 : Nat) (a0 : Herd) (hr0_0 : Rd G.cs w Aa0_0 a0.Names) (hc0_0 : a0.Names.length ≤ ca0_0) (hr0_1 : Rd (ci .i16) w Aa0_1 a0.Eats) (hc0_1 : a0.Eats.length ≤ ca0_1) (hr0_2 : Rd (ci .u16) w Aa0_2 a0.Foes) (hc0_2 : a0.Foes.length ≤ ca0_2) (r : Herd) (H : laws_toHerd.f k a0 = some r) :
    CV Tryd.prog 9 [.agg [.slice Aa0_0 a0.Names.length ca0_0, .slice Aa0_1 a0.Eats.length ca0_1, .slice Aa0_2 a0.Foes.length ca0_2].toArray].toArray w fun v w' => ∃ (A0_0 : Option Addr) (c0_0 : Nat) (A0_1 : Option Addr) (c0_1 : Nat) (A0_2 : Option Addr) (c0_2 : Nat), v = .agg [.slice A0_0 r.Names.length c0_0, .slice A0_1 r.Eats.length c0_1, .slice A0_2 r.Foes.length c0_2].toArray ∧ St w no w' [rowC G.cs A0_0 c0_0 9 r.Names, rowC (ci .i16) A0_1 c0_1 50 r.Eats, rowC (ci .u16) A0_2 c0_2 51 r.Foes] [] := by
  have hS := ((((St.init w no).param G.cs Aa0_0 ca0_0 a0.Names hr0_0 hc0_0).param (ci .i16) Aa0_1 ca0_1 a0.Eats hr0_1 hc0_1).param (ci .u16) Aa0_2 ca0_2 a0.Foes hr0_2 hc0_2)
  unfold laws_toHerd.f at H
  refine CV.body Tryd.func9 rfl Tryd.ntmps9 rfl ?_
  refine CJ.seq ?_
  refine CJ.region ?_
  refine OJ.ef rfl rfl rfl (Ef.box hS rfl rfl ([.slice Aa0_0 a0.Names.length ca0_0, .slice Aa0_1 a0.Eats.length ca0_1, .slice Aa0_2 a0.Foes.length ca0_2]) rfl) ?_
  rintro _ w1 ⟨b1, rfl, hS⟩
  refine OJ.ef rfl rfl rfl (Ef.alloc hS tI_ok rfl rfl ([.slice none 0 0, .slice none 0 0, .slice none 0 0]) rfl) ?_
  rintro _ w1 ⟨b2, rfl, hS⟩
  refine OJ.nil (EJ.next ?_)
  refine CJ.seq ?_
  refine CJ.region ?_
  refine OJ.ef rfl rfl rfl (Ef.alloc hS tI_ok rfl rfl ([.slice none 0 0, .slice none 0 0, .slice none 0 0]) rfl) ?_
  rintro _ w1 ⟨b3, rfl, hS⟩
  refine OJ.nil (EJ.next ?_)
  refine CJ.seq ?_
  refine CJ.region ?_
  refine OJ.st rfl rfl rfl (SR.fieldAddr tU_ok tI_ok rfl rfl rfl rfl rfl rfl) ?_
  refine OJ.st rfl rfl rfl (SR.load rfl rfl (fun w' hx => ld1 tU_ok rfl rfl (CA.ext (CA.sub (hS.cells (i := 0) rfl) 0) hx) rfl)) ?_
  obtain ⟨t4, ht4, H⟩ := pbind H
  refine OJ.callF rfl rfl rfl rfl rfl hb30 rfl (laws_toStringS.c k _ Aa0_0 ca0_0 a0.Names (hS.rd' (i := 0) rfl) (hS.le' (i := 0) rfl) _ ht4) ?_
  rintro _ w1 ⟨A5, c6, rfl, hs⟩
  replace hS := hS.addN hs
  refine OJ.st rfl rfl rfl (SR.fieldAddr tU_ok tI_ok rfl rfl rfl rfl rfl rfl) ?_
  refine OJ.es rfl rfl (Es.store tI_ok hS (i := 2) (vs := [.slice A5 t4.length c6]) rfl rfl rfl (ad1 _ _) rfl rfl rfl rfl (one1 rfl) (Nat.le_of_ble_eq_true rfl) ([.slice A5 t4.length c6, .slice none 0 0, .slice none 0 0]) rfl) ?_
  intro w1 hS
  refine OJ.nil (EJ.next ?_)
  refine CJ.seq ?_
  refine CJ.region ?_
  refine OJ.st rfl rfl rfl (SR.fieldAddr tU_ok tI_ok rfl rfl rfl rfl rfl rfl) ?_
  refine OJ.st rfl rfl rfl (SR.load rfl rfl (fun w' hx => ld1 tU_ok rfl rfl (CA.ext (CA.sub (hS.cells (i := 0) rfl) 1) hx) rfl)) ?_
  obtain ⟨t7, ht7, H⟩ := pbind H
  refine OJ.callF rfl rfl rfl rfl rfl hb31 rfl (laws_toInt16S.c k _ Aa0_1 ca0_1 a0.Eats (hS.rd' (i := 1) rfl) (hS.le' (i := 1) rfl) _ ht7) ?_
  rintro _ w1 ⟨A8, c9, rfl, hs⟩
  replace hS := hS.addN hs
  refine OJ.st rfl rfl rfl (SR.fieldAddr tU_ok tI_ok rfl rfl rfl rfl rfl rfl) ?_
  refine OJ.es rfl rfl (Es.store tI_ok hS (i := 2) (vs := [.slice A8 t7.length c9]) rfl rfl rfl (ad1 _ _) rfl rfl rfl rfl (one1 rfl) (Nat.le_of_ble_eq_true rfl) ([.slice A5 t4.length c6, .slice A8 t7.length c9, .slice none 0 0]) rfl) ?_
  intro w1 hS
  refine OJ.nil (EJ.next ?_)
  refine CJ.seq ?_
  refine CJ.region ?_
  refine OJ.st rfl rfl rfl (SR.fieldAddr tU_ok tI_ok rfl rfl rfl rfl rfl rfl) ?_
  refine OJ.st rfl rfl rfl (SR.load rfl rfl (fun w' hx => ld1 tU_ok rfl rfl (CA.ext (CA.sub (hS.cells (i := 0) rfl) 2) hx) rfl)) ?_
  obtain ⟨t10, ht10, H⟩ := pbind H
  refine OJ.callF rfl rfl rfl rfl rfl hb32 rfl (laws_toUint16S.c k _ Aa0_2 ca0_2 a0.Foes (hS.rd' (i := 2) rfl) (hS.le' (i := 2) rfl) _ ht10) ?_
  rintro _ w1 ⟨A11, c12, rfl, hs⟩
  replace hS := hS.addN hs
  have hS : St w no w1 [box b1 ([.slice Aa0_0 a0.Names.length ca0_0, .slice Aa0_1 a0.Eats.length ca0_1, .slice Aa0_2 a0.Foes.length ca0_2]) 26, box b2 ([.slice none 0 0, .slice none 0 0, .slice none 0 0]) 29, box b3 ([.slice A5 t4.length c6, .slice A8 t7.length c9, .slice none 0 0]) 29, rowC G.cs A5 c6 9 t4, rowC (ci .i16) A8 c9 50 t7, rowC (ci .u16) A11 c12 51 t10] [roC G.cs Aa0_0 ca0_0 a0.Names, roC (ci .i16) Aa0_1 ca0_1 a0.Eats, roC (ci .u16) Aa0_2 ca0_2 a0.Foes] := hS
  refine OJ.st rfl rfl rfl (SR.fieldAddr tU_ok tI_ok rfl rfl rfl rfl rfl rfl) ?_
  refine OJ.es rfl rfl (Es.store tI_ok hS (i := 2) (vs := [.slice A11 t10.length c12]) rfl rfl rfl (ad1 _ _) rfl rfl rfl rfl (one1 rfl) (Nat.le_of_ble_eq_true rfl) ([.slice A5 t4.length c6, .slice A8 t7.length c9, .slice A11 t10.length c12]) rfl) ?_
  intro w1 hS
  refine OJ.nil (EJ.next ?_)
  refine CJ.seq ?_
  refine CJ.region ?_
  refine OJ.st rfl rfl rfl (SR.load rfl rfl (fun w' hx => ldN tU_ok tI_ok rfl rfl rfl (CA.ext (hS.cells (i := 2) rfl) hx) (ds := [.slice A5 t4.length c6, .slice A8 t7.length c9, .slice A11 t10.length c12]) rfl rfl)) ?_
  refine OJ.es rfl rfl (Es.store tI_ok hS (i := 1) (vs := [.slice A5 t4.length c6, .slice A8 t7.length c9, .slice A11 t10.length c12]) rfl rfl rfl rfl rfl rfl rfl rfl (by intro u hu; simp only [List.mem_cons, List.not_mem_nil, or_false] at hu; rcases hu with rfl | rfl | rfl <;> rfl) (Nat.le_of_ble_eq_true rfl) ([.slice A5 t4.length c6, .slice A8 t7.length c9, .slice A11 t10.length c12]) rfl) ?_
  intro w1 hS
  refine OJ.nil (EJ.next ?_)
  refine CJ.ret (?_)
  obtain rfl := Option.some.inj H
  exact EJ.fin rfl (.cell rfl (ldN tU_ok tI_ok rfl rfl rfl (hS.cells (i := 1) rfl) (ds := [.slice A5 t4.length c6, .slice A8 t7.length c9, .slice A11 t10.length c12]) rfl rfl) .nil) ⟨A5, c6, A8, c9, A11, c12, rfl, hS.pick [3, 4, 5] [] rfl⟩

def laws_toInt64S.l1 (a0 : List Int) : Nat → (List Int) → Int → Option (List Int)
  | 0, _, _ => none
  | k + 1, y4, y5 => if y5 < (a0.length : Int) then ((getI a0 y5).bind fun t6 => (getI y4 y5).bind fun t7 => laws_toInt64S.l1 a0 k (y4.set y5.toNat t6) (IntKind.i64.wrap (y5 + 1))) else (some y4)
def laws_toInt64S.f (k : Nat) (a0 : List Int) : Option (List Int) := (chk (0 ≤ (a0.length : Int) ∧ (a0.length : Int) ≤ 4294967296)).bind fun u1 => (laws_toInt64S.l1 a0 k (List.replicate ((a0.length : Int).toNat) 0 : List Int) 0).bind fun y3 => some y3
theorem laws_toInt64S.c (k : Nat) (w : World) (Aa0 : Option Addr) (ca0 : Nat) (a0 : List Int) (hr0 : Rd (ci .i64) w Aa0 a0) (hc0 : a0.length ≤ ca0) (r : List Int) (H : laws_toInt64S.f k a0 = some r) :
    CV Tryd.prog 10 [.slice Aa0 a0.length ca0].toArray w fun v w' => ∃ (A0 : Option Addr) (c0 : Nat), v = .slice A0 r.length c0 ∧ St w no w' [rowC (ci .i64) A0 c0 2 r] [] := by
  have hS := ((St.init w no).param (ci .i64) Aa0 ca0 a0 hr0 hc0)
  unfold laws_toInt64S.f at H
  refine CV.body Tryd.func10 rfl Tryd.ntmps10 rfl ?_
  refine CJ.seq ?_
  refine CJ.region ?_
  refine OJ.pures tU_ok 1 rfl ?_
  refine OJ.nil (EJ.next ?_)
  refine CJ.seq ?_
  refine CJ.region ?_
  refine OJ.pures tU_ok 2 rfl ?_
  obtain ⟨u1, hu1, H⟩ := pbind H
  refine OJ.ef rfl rfl rfl (Ef.make tU_ok tI_ok hS (C := (ci .i64)) rfl rfl rfl rfl rfl rfl rfl rfl (chk_some hu1) 0 rfl) ?_
  rintro _ w1 ⟨A2, rfl, hS⟩
  refine OJ.pures tU_ok 1 rfl ?_
  refine OJ.nil (EJ.next ?_)
  refine CJ.seq ?_
  refine CJ.seq ?_
  refine CJ.region ?_
  refine OJ.pures tU_ok 1 rfl ?_
  refine OJ.nil (EJ.next ?_)
  obtain ⟨j5, H, K5⟩ := pbind H
  refine CJ.cut1 (fun F w1 => ∃ (y3 : List Int) , (some y3 : Option (List Int)) = some j5 ∧ F = [(3, .slice A2 y3.length ((a0.length : Int).toNat))] ∧ St w no w1 [rowC (ci .i64) A2 ((a0.length : Int).toNat) 2 y3] [roC (ci .i64) Aa0 ca0 a0]) ?_ ?_
  · skip
    refine CJ.block ?_
    refine CJ.loop (fun k F w1 => ∃ (y4 : List Int) (y5 : Int), F = [(0, .slice Aa0 a0.length ca0), (3, .slice A2 y4.length ((a0.length : Int).toNat)), (4, .int .i64 y5)] ∧ St w no w1 [rowC (ci .i64) A2 ((a0.length : Int).toNat) 2 y4] [roC (ci .i64) Aa0 ca0 a0] ∧ laws_toInt64S.l1 a0 k y4 y5 = some j5) k (F' := [(0, .slice Aa0 a0.length ca0), (3, .slice A2 (List.replicate ((a0.length : Int).toNat) 0 : List Int).length ((a0.length : Int).toNat)), (4, .int .i64 0)]) ⟨rfl, rfl, rfl, trivial⟩ ⟨(List.replicate ((a0.length : Int).toNat) 0 : List Int), 0, rfl, hS.pick [0] [0] rfl, H⟩ ?_
    rintro k F w1 ⟨y4, y5, rfl, hS, H⟩
    cases k with
    | zero => rw [laws_toInt64S.l1] at H; cases H
    | succ k =>
      rw [laws_toInt64S.l1] at H
      refine CJ.seq ?_
      refine CJ.seq ?_
      refine CJ.region ?_
      refine OJ.pures tU_ok 4 rfl ?_
      refine OJ.nil (EJ.next ?_)
      refine CJ.cond rfl (fun hb => ?_) (fun hb => ?_)
      · replace H := pif_t (of_decide_eq_true hb) H
        refine CJ.skip (EJ.next ?_)
        refine CJ.seq ?_
        refine CJ.block ?_
        refine CJ.region ?_
        refine OJ.pures tU_ok 4 rfl ?_
        obtain ⟨t6, ht6, H⟩ := pbind H
        obtain ⟨ad6, e6⟩ := (hS.rd' (i := 0) rfl).some' ht6
        refine OJ.st rfl rfl rfl (SR.idxS tU_ok tI_ok rfl rfl rfl rfl e6 rfl (getI_some ht6).1) ?_
        refine OJ.st rfl rfl rfl (SR.load rfl rfl (fun w' hx => ld1 tU_ok rfl rfl (CA.ext ((hS.rd' (i := 0) rfl).at_ e6 ht6) hx) rfl)) ?_
        obtain ⟨t7, ht7, H⟩ := pbind H
        obtain ⟨ad7, e7⟩ := (hS.rd (i := 0) rfl).some' ht7
        refine OJ.st rfl rfl rfl (SR.idxS tU_ok tI_ok rfl rfl rfl rfl e7 rfl (getI_some ht7).1) ?_
        refine OJ.es rfl rfl (Es.storeR tI_ok hS (i := 0) (off := 0) rfl rfl ht7 e7 rfl rfl rfl rfl (vs := (ci .i64).enc t6) rfl rfl (one1 rfl) (Nat.le_of_ble_eq_true rfl) t6 rfl) ?_
        intro w1 hS
        refine OJ.as (t := 3) rfl (show _ = (.slice A2 (y4.set y5.toNat t6).length ((a0.length : Int).toNat) : Value) by simp only [List.length_set]) ?_
        refine OJ.as (t := 14) rfl (show _ = (.slice A2 (y4.set y5.toNat t6).length ((a0.length : Int).toNat) : Value) by simp only [List.length_set]) ?_
        refine OJ.nil (EJ.blk (EJ.next ?_))
        refine CJ.region ?_
        refine OJ.pures tU_ok 3 rfl ?_
        refine OJ.nil ?_
        exact EJ.round k (F' := [(0, .slice Aa0 a0.length ca0), (3, .slice A2 (y4.set y5.toNat t6).length ((a0.length : Int).toNat)), (4, .int .i64 (IntKind.i64.wrap (y5 + 1)))]) ⟨rfl, rfl, rfl, trivial⟩ (Nat.lt_succ_self _) ⟨(y4.set y5.toNat t6), (IntKind.i64.wrap (y5 + 1)), rfl, hS.pick [0] [0] rfl, H⟩
      · replace H := pif_f (of_decide_eq_false hb) H
        refine CJ.exit (EJ.skE (EJ.skE (EJ.hit (?_))))
        exact EJ.meet (F' := [(3, .slice A2 y4.length ((a0.length : Int).toNat))]) ⟨rfl, trivial⟩ ⟨y4, H, rfl, hS.pick [0] [0] rfl⟩
  · rintro F w1 ⟨y3, he, rfl, hS⟩
    obtain rfl := Option.some.inj he
    have H := K5
    refine EJ.next ?_
    refine CJ.seq ?_
    refine CJ.region ?_
    refine OJ.pures tU_ok 2 rfl ?_
    refine OJ.nil (EJ.next ?_)
    refine CJ.ret (?_)
    obtain rfl := Option.some.inj H
    exact EJ.fin rfl (.tmp rfl .nil) ⟨A2, ((a0.length : Int).toNat), rfl, hS.pick [0] [] rfl⟩

def spec_l00In.f (a0 : Int) (a1 : Int) (a2 : Int) : Option Bool := if a1 ≤ a0 then (some (decide (a0 ≤ a2))) else (some false)
theorem spec_l00In.c (w : World) (a0 : Int) (a1 : Int) (a2 : Int) (r : Bool) (H : spec_l00In.f a0 a1 a2 = some r) :
    CV Tryd.prog 49 [.int .i64 a0, .int .i64 a1, .int .i64 a2].toArray w fun v w' => v = .bool r ∧ Ext w w' := by
  have hS := (St.init w no)
  unfold spec_l00In.f at H
  refine CV.body Tryd.func49 rfl Tryd.ntmps49 rfl ?_
  refine CJ.seq ?_
  refine CJ.region ?_
  refine OJ.pures tU_ok 1 rfl ?_
  refine OJ.nil (EJ.next ?_)
  refine CJ.seq ?_
  refine CJ.region ?_
  refine OJ.pures tU_ok 4 rfl ?_
  refine OJ.split (t := 10) rfl (fun hb => ?_) (fun hb => ?_)
  · replace H := pif_t (of_decide_eq_true hb) H
    refine OJ.pures tU_ok 5 rfl ?_
    refine OJ.nil (EJ.next ?_)
    refine CJ.ret (?_)
    obtain rfl := Option.some.inj H
    exact EJ.fin rfl (.tmp rfl .nil) ⟨rfl, hS.ext⟩
  · replace H := pif_f (of_decide_eq_false hb) H
    refine OJ.pures tU_ok 5 rfl ?_
    refine OJ.nil (EJ.next ?_)
    refine CJ.ret (?_)
    obtain rfl := Option.some.inj H
    exact EJ.fin rfl (.tmp rfl .nil) ⟨rfl, hS.ext⟩

def spec_l06Name.l1 (a0 : ByteArray) : Nat → Int → Option (Bool ⊕ Unit)
  | 0, _ => none
  | k + 1, y1 => if y1 < (a0.size : Int) then ((getB a0 y1).bind fun t2 => if t2 < 97 then (some (Sum.inl false)) else ((getB a0 y1).bind fun t3 => if 122 < t3 then (some (Sum.inl false)) else (spec_l06Name.l1 a0 k (IntKind.i64.wrap (y1 + 1))))) else (some (Sum.inr ()))
def spec_l06Name.f (k : Nat) (a0 : ByteArray) : Option Bool := (spec_l06Name.l1 a0 k 0).bind fun s10 => match s10 with | .inl r => some r | .inr _ => (spec_l00In.f (a0.size : Int) 1 8).bind fun t4 => some t4
theorem spec_l06Name.c (k : Nat) (w : World) (a0 : ByteArray) (r : Bool) (H : spec_l06Name.f k a0 = some r) :
    CV Tryd.prog 77 [.string a0].toArray w fun v w' => v = .bool r ∧ Ext w w' := by
  have hS := (St.init w no)
  unfold spec_l06Name.f at H
  refine CV.body Tryd.func77 rfl Tryd.ntmps77 rfl ?_
  refine CJ.seq ?_
  refine CJ.region ?_
  refine OJ.pures tU_ok 1 rfl ?_
  refine OJ.nil (EJ.next ?_)
  refine CJ.seq ?_
  refine CJ.seq ?_
  refine CJ.region ?_
  refine OJ.pures tU_ok 1 rfl ?_
  refine OJ.nil (EJ.next ?_)
  obtain ⟨j10, H, K10⟩ := pbind H
  refine CJ.cut1 (fun F w1 => (some (Sum.inr ()) : Option (Bool ⊕ Unit)) = some j10 ∧ F = [(0, .string a0)] ∧ St w no w1 [] []) ?_ ?_
  · skip
    refine CJ.block ?_
    refine CJ.loop (fun k F w1 => ∃ (y1 : Int), F = [(0, .string a0), (3, .int .i64 y1)] ∧ St w no w1 [] [] ∧ spec_l06Name.l1 a0 k y1 = some j10) k (F' := [(0, .string a0), (3, .int .i64 0)]) ⟨rfl, rfl, trivial⟩ ⟨0, rfl, hS.pick [] [] rfl, H⟩ ?_
    rintro k F w1 ⟨y1, rfl, hS, H⟩
    cases k with
    | zero => rw [spec_l06Name.l1] at H; cases H
    | succ k =>
      rw [spec_l06Name.l1] at H
      refine CJ.seq ?_
      refine CJ.seq ?_
      refine CJ.region ?_
      refine OJ.pures tU_ok 4 rfl ?_
      refine OJ.nil (EJ.next ?_)
      refine CJ.cond rfl (fun hb => ?_) (fun hb => ?_)
      · replace H := pif_t (of_decide_eq_true hb) H
        refine CJ.skip (EJ.next ?_)
        refine CJ.seq ?_
        refine CJ.block ?_
        refine CJ.seq ?_
        refine CJ.region ?_
        refine OJ.pures tU_ok 2 rfl ?_
        obtain ⟨t2, ht2, H⟩ := pbind H
        refine OJ.st rfl rfl rfl (SR.idxStr tU_ok rfl rfl rfl rfl ht2) ?_
        refine OJ.pures tU_ok 2 rfl ?_
        refine OJ.split (t := 14) rfl (fun hb => ?_) (fun hb => ?_)
        · replace H := pif_t (of_decide_eq_true hb) H
          refine OJ.pures tU_ok 5 rfl ?_
          refine OJ.nil (EJ.next ?_)
          refine CJ.condT rfl ?_
          refine CJ.seq ?_
          refine CJ.region ?_
          refine OJ.pures tU_ok 1 rfl ?_
          refine OJ.nil (EJ.next ?_)
          refine CJ.ret (EJ.bkR (EJ.skR (EJ.skR (EJ.bkR (EJ.skR (EJ.skR (?_)))))))
          first | (obtain rfl := Option.some.inj H; have H := K10) | (obtain ⟨q10, H2, e10⟩ := pbind H; obtain rfl := Option.some.inj e10; obtain rfl := Option.some.inj K10; have H := H2)
          obtain rfl := Option.some.inj H
          exact EJ.fin rfl (.tmp rfl .nil) ⟨rfl, hS.ext⟩
        · replace H := pif_f (of_decide_eq_false hb) H
          refine OJ.pures tU_ok 2 rfl ?_
          obtain ⟨t3, ht3, H⟩ := pbind H
          refine OJ.st rfl rfl rfl (SR.idxStr tU_ok rfl rfl rfl rfl ht3) ?_
          refine OJ.pures tU_ok 2 rfl ?_
          refine OJ.nil (EJ.next ?_)
          refine CJ.cond rfl (fun hb => ?_) (fun hb => ?_)
          · replace H := pif_t (of_decide_eq_true hb) H
            refine CJ.seq ?_
            refine CJ.region ?_
            refine OJ.pures tU_ok 1 rfl ?_
            refine OJ.nil (EJ.next ?_)
            refine CJ.ret (EJ.bkR (EJ.skR (EJ.skR (EJ.bkR (EJ.skR (EJ.skR (?_)))))))
            first | (obtain rfl := Option.some.inj H; have H := K10) | (obtain ⟨q10, H2, e10⟩ := pbind H; obtain rfl := Option.some.inj e10; obtain rfl := Option.some.inj K10; have H := H2)
            obtain rfl := Option.some.inj H
            exact EJ.fin rfl (.tmp rfl .nil) ⟨rfl, hS.ext⟩
          · replace H := pif_f (of_decide_eq_false hb) H
            refine CJ.skip (EJ.blk (EJ.next ?_))
            refine CJ.region ?_
            refine OJ.pures tU_ok 3 rfl ?_
            refine OJ.nil ?_
            exact EJ.round k (F' := [(0, .string a0), (3, .int .i64 (IntKind.i64.wrap (y1 + 1)))]) ⟨rfl, rfl, trivial⟩ (Nat.lt_succ_self _) ⟨(IntKind.i64.wrap (y1 + 1)), rfl, hS.pick [] [] rfl, H⟩
      · replace H := pif_f (of_decide_eq_false hb) H
        refine CJ.exit (EJ.skE (EJ.skE (EJ.hit (?_))))
        exact EJ.meet (F' := [(0, .string a0)]) ⟨rfl, trivial⟩ ⟨H, rfl, hS.pick [] [] rfl⟩
  · rintro F w1 ⟨he, rfl, hS⟩
    obtain rfl := Option.some.inj he
    have H := K10
    refine EJ.next ?_
    refine CJ.seq ?_
    refine CJ.region ?_
    refine OJ.pures tU_ok 2 rfl ?_
    obtain ⟨t4, ht4, H⟩ := pbind H
    refine OJ.callF rfl rfl rfl rfl rfl hb49 rfl (spec_l00In.c _ (a0.size : Int) 1 8 _ ht4) ?_
    rintro _ w1 ⟨rfl, hs⟩
    replace hS := hS.grow hs
    refine OJ.pures tU_ok 1 rfl ?_
    refine OJ.nil (EJ.next ?_)
    refine CJ.ret (?_)
    obtain rfl := Option.some.inj H
    exact EJ.fin rfl (.tmp rfl .nil) ⟨rfl, hS.ext⟩

def spec_l06Are.f (a0 : Herd) (a1 : Int) (a2 : Int) : Option Bool := (getI a0.Foes a1).bind fun t1 => (chk (0 ≤ (IntKind.u64.wrap a2))).bind fun u2 => some (decide ((Int.tmod (shrI .u16 t1 (IntKind.u64.wrap a2)) 2) = 1))
theorem spec_l06Are.c (w : World) (Aa0_0 : Option Addr) (ca0_0 : Nat) (Aa0_1 : Option Addr) (ca0_1 : Nat) (Aa0_2 : Option Addr) (ca0_2 : Nat) (a0 : Herd) (hr0_0 : Rd G.cs w Aa0_0 a0.Names) (hc0_0 : a0.Names.length ≤ ca0_0) (hr0_1 : Rd (ci .i16) w Aa0_1 a0.Eats) (hc0_1 : a0.Eats.length ≤ ca0_1) (hr0_2 : Rd (ci .u16) w Aa0_2 a0.Foes) (hc0_2 : a0.Foes.length ≤ ca0_2) (pa0 : Addr) (hp0 : CA w pa0 ([.slice Aa0_0 a0.Names.length ca0_0, .slice Aa0_1 a0.Eats.length ca0_1, .slice Aa0_2 a0.Foes.length ca0_2])) (a1 : Int) (a2 : Int) (r : Bool) (H : spec_l06Are.f a0 a1 a2 = some r) :
    CV Tryd.prog 29 [.pointer (some pa0), .int .i64 a1, .int .i64 a2].toArray w fun v w' => v = .bool r ∧ Ext w w' := by
  have hS := (((((St.init w no).param G.cs Aa0_0 ca0_0 a0.Names hr0_0 hc0_0).param (ci .i16) Aa0_1 ca0_1 a0.Eats hr0_1 hc0_1).param (ci .u16) Aa0_2 ca0_2 a0.Foes hr0_2 hc0_2).paramP pa0 ([.slice Aa0_0 a0.Names.length ca0_0, .slice Aa0_1 a0.Eats.length ca0_1, .slice Aa0_2 a0.Foes.length ca0_2]) hp0)
  unfold spec_l06Are.f at H
  refine CV.body Tryd.func29 rfl Tryd.ntmps29 rfl ?_
  refine CJ.seq ?_
  refine CJ.region ?_
  refine OJ.pures tU_ok 1 rfl ?_
  refine OJ.nil (EJ.next ?_)
  refine CJ.seq ?_
  refine CJ.region ?_
  refine OJ.pures tU_ok 2 rfl ?_
  refine OJ.st rfl rfl rfl (SR.fieldAddr tU_ok tI_ok rfl rfl rfl rfl rfl rfl) ?_
  refine OJ.st rfl rfl rfl (SR.load rfl rfl (fun w' hx => ld1 tU_ok rfl rfl (CA.ext (CA.sub (hS.ca (i := 3) rfl) 2) hx) rfl)) ?_
  refine OJ.pures tU_ok 1 rfl ?_
  obtain ⟨t1, ht1, H⟩ := pbind H
  obtain ⟨ad1, e1⟩ := (hS.rd' (i := 2) rfl).some' ht1
  refine OJ.st rfl rfl rfl (SR.idxS tU_ok tI_ok rfl rfl rfl rfl e1 rfl (getI_some ht1).1) ?_
  refine OJ.st rfl rfl rfl (SR.load rfl rfl (fun w' hx => ld1 tU_ok rfl rfl (CA.ext ((hS.rd' (i := 2) rfl).at_ e1 ht1) hx) rfl)) ?_
  refine OJ.pures tU_ok 2 rfl ?_
  obtain ⟨u2, hu2, H⟩ := pbind H
  refine OJ.st rfl rfl rfl (SR.shr rfl rfl rfl (chk_some hu2)) ?_
  refine OJ.st rfl rfl rfl (SR.rem rfl rfl rfl (by decide)) ?_
  refine OJ.pures tU_ok 2 rfl ?_
  refine OJ.nil (EJ.next ?_)
  refine CJ.ret (?_)
  obtain rfl := Option.some.inj H
  exact EJ.fin rfl (.tmp rfl .nil) ⟨rfl, hS.ext⟩

def spec_l06Ok.l2 (a0 : Herd) (y2 : Int) : Nat → Int → Option (((Bool ⊕ Unit) ⊕ Unit) ⊕ Unit)
  | 0, _ => none
  | k + 1, y11 => if y11 < y2 then ((getI a0.Names y11).bind fun t12 => (getI a0.Names y2).bind fun t13 => if t12 = t13 then (some (Sum.inl (Sum.inl (Sum.inl false)))) else ((spec_l06Are.f a0 y2 y11).bind fun t14 => (spec_l06Are.f a0 y11 y2).bind fun t15 => if t14 ≠ t15 then (some (Sum.inl (Sum.inl (Sum.inl false)))) else (spec_l06Ok.l2 a0 y2 k (IntKind.i64.wrap (y11 + 1))))) else (some (Sum.inr ()))
def spec_l06Ok.l1 (a0 : Herd) : Nat → Int → Option (Bool ⊕ Unit)
  | 0, _ => none
  | k + 1, y2 => if y2 < (a0.Names.length : Int) then ((((getI a0.Names y2).bind fun t4 => (spec_l06Name.f k t4).bind fun t5 => if (!t5) = true then (some true) else ((getI a0.Eats y2).bind fun t6 => (spec_l00In.f (IntKind.i64.wrap t6) 0 100).bind fun t7 => if (!t7) = true then (some true) else ((getI a0.Foes y2).bind fun t8 => (chk (0 ≤ (IntKind.u64.wrap (a0.Names.length : Int)))).bind fun u9 => if (shrI .u16 t8 (IntKind.u64.wrap (a0.Names.length : Int))) ≠ 0 then (some true) else ((spec_l06Are.f a0 y2 y2).bind fun t10 => some t10)))).bind fun y3 => if y3 = true then (some (Sum.inl (Sum.inl false))) else ((spec_l06Ok.l2 a0 y2 k 0).bind fun s23 => match s23 with | .inl r => some r | .inr _ => some (Sum.inr ()))).bind fun s19 => match s19 with | .inl r => some r | .inr _ => spec_l06Ok.l1 a0 k (IntKind.i64.wrap (y2 + 1))) else (some (Sum.inr ()))
def spec_l06Ok.f (k : Nat) (a0 : Herd) : Option Bool := (if 14 < (a0.Names.length : Int) then (some true) else (if (a0.Eats.length : Int) ≠ (a0.Names.length : Int) then (some true) else (some (decide ((a0.Foes.length : Int) ≠ (a0.Names.length : Int)))))).bind fun y1 => if y1 = true then (some false) else ((spec_l06Ok.l1 a0 k 0).bind fun s7 => match s7 with | .inl r => some r | .inr _ => some true)
theorem spec_l06Ok.c (k : Nat) (w : World) (Aa0_0 : Option Addr) (ca0_0 : Nat) (Aa0_1 : Option Addr) (ca0_1 : Nat) (Aa0_2 : Option Addr) (ca0_2 : Nat) (a0 : Herd) (hr0_0 : Rd G.cs w Aa0_0 a0.Names) (hc0_0 : a0.Names.length ≤ ca0_0) (hr0_1 : Rd (ci .i16) w Aa0_1 a0.Eats) (hc0_1 : a0.Eats.length ≤ ca0_1) (hr0_2 : Rd (ci .u16) w Aa0_2 a0.Foes) (hc0_2 : a0.Foes.length ≤ ca0_2) (pa0 : Addr) (hp0 : CA w pa0 ([.slice Aa0_0 a0.Names.length ca0_0, .slice Aa0_1 a0.Eats.length ca0_1, .slice Aa0_2 a0.Foes.length ca0_2])) (r : Bool) (H : spec_l06Ok.f k a0 = some r) :
    CV Tryd.prog 48 [.pointer (some pa0)].toArray w fun v w' => v = .bool r ∧ Ext w w' := by
  have hS := (((((St.init w no).param G.cs Aa0_0 ca0_0 a0.Names hr0_0 hc0_0).param (ci .i16) Aa0_1 ca0_1 a0.Eats hr0_1 hc0_1).param (ci .u16) Aa0_2 ca0_2 a0.Foes hr0_2 hc0_2).paramP pa0 ([.slice Aa0_0 a0.Names.length ca0_0, .slice Aa0_1 a0.Eats.length ca0_1, .slice Aa0_2 a0.Foes.length ca0_2]) hp0)
  unfold spec_l06Ok.f at H
  refine CV.body Tryd.func48 rfl Tryd.ntmps48 rfl ?_
  refine CJ.seq ?_
  refine CJ.region ?_
  refine OJ.pures tU_ok 1 rfl ?_
  refine OJ.nil (EJ.next ?_)
  refine CJ.seq ?_
  refine CJ.region ?_
  refine OJ.pures tU_ok 2 rfl ?_
  refine OJ.st rfl rfl rfl (SR.fieldAddr tU_ok tI_ok rfl rfl rfl rfl rfl rfl) ?_
  refine OJ.st rfl rfl rfl (SR.load rfl rfl (fun w' hx => ld1 tU_ok rfl rfl (CA.ext (CA.sub (hS.ca (i := 3) rfl) 0) hx) rfl)) ?_
  refine OJ.pures tU_ok 2 rfl ?_
  refine OJ.nil (EJ.next ?_)
  refine CJ.seq ?_
  obtain ⟨j6, H, K6⟩ := pbind H
  refine CJ.cut (fun F w1 => ∃ (y1 : Bool) , (some y1 : Option Bool) = some j6 ∧ F = [(0, .pointer (some pa0)), (3, .int .i64 (a0.Names.length : Int)), (30, .bool y1)] ∧ St w no w1 [] [roC G.cs Aa0_0 ca0_0 a0.Names, roC (ci .i16) Aa0_1 ca0_1 a0.Eats, roC (ci .u16) Aa0_2 ca0_2 a0.Foes, roP pa0 ([.slice Aa0_0 a0.Names.length ca0_0, .slice Aa0_1 a0.Eats.length ca0_1, .slice Aa0_2 a0.Foes.length ca0_2])]) ?_ ?_
  · skip
    refine CJ.region ?_
    refine OJ.pures tU_ok 3 rfl ?_
    refine OJ.split (t := 13) rfl (fun hb => ?_) (fun hb => ?_)
    · replace H := pif_t (of_decide_eq_true hb) H
      refine OJ.pures tU_ok 17 rfl ?_
      refine OJ.nil ?_
      exact EJ.meet (F' := [(0, .pointer (some pa0)), (3, .int .i64 (a0.Names.length : Int)), (30, .bool true)]) ⟨rfl, rfl, rfl, trivial⟩ ⟨true, H, rfl, hS.pick [] [0, 1, 2, 3] rfl⟩
    · replace H := pif_f (of_decide_eq_false hb) H
      refine OJ.pures tU_ok 2 rfl ?_
      refine OJ.st rfl rfl rfl (SR.fieldAddr tU_ok tI_ok rfl rfl rfl rfl rfl rfl) ?_
      refine OJ.st rfl rfl rfl (SR.load rfl rfl (fun w' hx => ld1 tU_ok rfl rfl (CA.ext (CA.sub (hS.ca (i := 3) rfl) 1) hx) rfl)) ?_
      refine OJ.pures tU_ok 5 rfl ?_
      refine OJ.split (t := 22) rfl (fun hb => ?_) (fun hb => ?_)
      · replace H := pif_t (of_decide_eq_true hb) H
        refine OJ.pures tU_ok 8 rfl ?_
        refine OJ.nil ?_
        exact EJ.meet (F' := [(0, .pointer (some pa0)), (3, .int .i64 (a0.Names.length : Int)), (30, .bool true)]) ⟨rfl, rfl, rfl, trivial⟩ ⟨true, H, rfl, hS.pick [] [0, 1, 2, 3] rfl⟩
      · replace H := pif_f (of_decide_eq_false hb) H
        refine OJ.pures tU_ok 2 rfl ?_
        refine OJ.st rfl rfl rfl (SR.fieldAddr tU_ok tI_ok rfl rfl rfl rfl rfl rfl) ?_
        refine OJ.st rfl rfl rfl (SR.load rfl rfl (fun w' hx => ld1 tU_ok rfl rfl (CA.ext (CA.sub (hS.ca (i := 3) rfl) 2) hx) rfl)) ?_
        refine OJ.pures tU_ok 4 rfl ?_
        refine OJ.nil ?_
        exact EJ.meet (F' := [(0, .pointer (some pa0)), (3, .int .i64 (a0.Names.length : Int)), (30, .bool (decide ((a0.Foes.length : Int) ≠ (a0.Names.length : Int))))]) ⟨rfl, rfl, rfl, trivial⟩ ⟨(decide ((a0.Foes.length : Int) ≠ (a0.Names.length : Int))), H, rfl, hS.pick [] [0, 1, 2, 3] rfl⟩
  · rintro F w1 ⟨y1, he, rfl, hS⟩
    obtain rfl := Option.some.inj he
    have H := K6
    refine CJ.cond rfl (fun hb => ?_) (fun hb => ?_)
    · replace H := pif_t hb H
      refine CJ.seq ?_
      refine CJ.region ?_
      refine OJ.pures tU_ok 1 rfl ?_
      refine OJ.nil (EJ.next ?_)
      refine CJ.ret (EJ.skR (?_))
      obtain rfl := Option.some.inj H
      exact EJ.fin rfl (.tmp rfl .nil) ⟨rfl, hS.ext⟩
    · replace H := pifb_f hb H
      refine CJ.skip (EJ.next ?_)
      refine CJ.seq ?_
      refine CJ.seq ?_
      refine CJ.region ?_
      refine OJ.pures tU_ok 1 rfl ?_
      refine OJ.nil (EJ.next ?_)
      obtain ⟨j7, H, K7⟩ := pbind H
      refine CJ.cut1 (fun F w1 => (some (Sum.inr ()) : Option (Bool ⊕ Unit)) = some j7 ∧ F = [] ∧ St w no w1 [] [roC G.cs Aa0_0 ca0_0 a0.Names, roC (ci .i16) Aa0_1 ca0_1 a0.Eats, roC (ci .u16) Aa0_2 ca0_2 a0.Foes, roP pa0 ([.slice Aa0_0 a0.Names.length ca0_0, .slice Aa0_1 a0.Eats.length ca0_1, .slice Aa0_2 a0.Foes.length ca0_2])]) ?_ ?_
      · skip
        refine CJ.block ?_
        refine CJ.loop (fun k F w1 => ∃ (y2 : Int), F = [(0, .pointer (some pa0)), (3, .int .i64 (a0.Names.length : Int)), (4, .int .i64 y2)] ∧ St w no w1 [] [roC G.cs Aa0_0 ca0_0 a0.Names, roC (ci .i16) Aa0_1 ca0_1 a0.Eats, roC (ci .u16) Aa0_2 ca0_2 a0.Foes, roP pa0 ([.slice Aa0_0 a0.Names.length ca0_0, .slice Aa0_1 a0.Eats.length ca0_1, .slice Aa0_2 a0.Foes.length ca0_2])] ∧ spec_l06Ok.l1 a0 k y2 = some j7) k (F' := [(0, .pointer (some pa0)), (3, .int .i64 (a0.Names.length : Int)), (4, .int .i64 0)]) ⟨rfl, rfl, rfl, trivial⟩ ⟨0, rfl, hS.pick [] [0, 1, 2, 3] rfl, H⟩ ?_
        rintro k F w1 ⟨y2, rfl, hS, H⟩
        cases k with
        | zero => rw [spec_l06Ok.l1] at H; cases H
        | succ k =>
          rw [spec_l06Ok.l1] at H
          refine CJ.seq ?_
          refine CJ.seq ?_
          refine CJ.region ?_
          refine OJ.pures tU_ok 3 rfl ?_
          refine OJ.nil (EJ.next ?_)
          refine CJ.cond rfl (fun hb => ?_) (fun hb => ?_)
          · replace H := pif_t (of_decide_eq_true hb) H
            refine CJ.skip (EJ.next ?_)
            obtain ⟨j19, H, K19⟩ := pbind H
            refine CJ.cut (fun F w1 => (some (Sum.inr ()) : Option ((Bool ⊕ Unit) ⊕ Unit)) = some j19 ∧ F = [(0, .pointer (some pa0)), (3, .int .i64 (a0.Names.length : Int)), (4, .int .i64 y2)] ∧ St w no w1 [] [roC G.cs Aa0_0 ca0_0 a0.Names, roC (ci .i16) Aa0_1 ca0_1 a0.Eats, roC (ci .u16) Aa0_2 ca0_2 a0.Foes, roP pa0 ([.slice Aa0_0 a0.Names.length ca0_0, .slice Aa0_1 a0.Eats.length ca0_1, .slice Aa0_2 a0.Foes.length ca0_2])]) ?_ ?_
            · skip
              refine CJ.block ?_
              refine CJ.seq ?_
              obtain ⟨j22, H, K22⟩ := pbind H
              refine CJ.cut (fun F w1 => ∃ (y3 : Bool) , (some y3 : Option Bool) = some j22 ∧ F = [(0, .pointer (some pa0)), (3, .int .i64 (a0.Names.length : Int)), (4, .int .i64 y2), (75, .bool y3)] ∧ St w no w1 [] [roC G.cs Aa0_0 ca0_0 a0.Names, roC (ci .i16) Aa0_1 ca0_1 a0.Eats, roC (ci .u16) Aa0_2 ca0_2 a0.Foes, roP pa0 ([.slice Aa0_0 a0.Names.length ca0_0, .slice Aa0_1 a0.Eats.length ca0_1, .slice Aa0_2 a0.Foes.length ca0_2])]) ?_ ?_
              · skip
                refine CJ.region ?_
                refine OJ.pures tU_ok 2 rfl ?_
                refine OJ.st rfl rfl rfl (SR.fieldAddr tU_ok tI_ok rfl rfl rfl rfl rfl rfl) ?_
                refine OJ.st rfl rfl rfl (SR.load rfl rfl (fun w' hx => ld1 tU_ok rfl rfl (CA.ext (CA.sub (hS.ca (i := 3) rfl) 0) hx) rfl)) ?_
                refine OJ.pures tU_ok 1 rfl ?_
                obtain ⟨t4, ht4, H⟩ := pbind H
                obtain ⟨ad4, e4⟩ := (hS.rd' (i := 0) rfl).some' ht4
                refine OJ.st rfl rfl rfl (SR.idxS tU_ok tI_ok rfl rfl rfl rfl e4 rfl (getI_some ht4).1) ?_
                refine OJ.st rfl rfl rfl (SR.load rfl rfl (fun w' hx => ld1 tU_ok rfl rfl (CA.ext ((hS.rd' (i := 0) rfl).at_ e4 ht4) hx) rfl)) ?_
                obtain ⟨t5, ht5, H⟩ := pbind H
                refine OJ.callF rfl rfl rfl rfl rfl hb77 rfl (spec_l06Name.c k _ t4 _ ht5) ?_
                rintro _ w1 ⟨rfl, hs⟩
                replace hS := hS.grow hs
                refine OJ.pures tU_ok 2 rfl ?_
                refine OJ.split (t := 45) rfl (fun hb => ?_) (fun hb => ?_)
                · replace H := pif_t hb H
                  refine OJ.pures tU_ok 30 rfl ?_
                  refine OJ.nil ?_
                  exact EJ.meet (F' := [(0, .pointer (some pa0)), (3, .int .i64 (a0.Names.length : Int)), (4, .int .i64 y2), (75, .bool true)]) ⟨rfl, rfl, rfl, rfl, trivial⟩ ⟨true, H, rfl, hS.pick [] [0, 1, 2, 3] rfl⟩
                · replace H := pifb_f hb H
                  refine OJ.pures tU_ok 2 rfl ?_
                  refine OJ.st rfl rfl rfl (SR.fieldAddr tU_ok tI_ok rfl rfl rfl rfl rfl rfl) ?_
                  refine OJ.st rfl rfl rfl (SR.load rfl rfl (fun w' hx => ld1 tU_ok rfl rfl (CA.ext (CA.sub (hS.ca (i := 3) rfl) 1) hx) rfl)) ?_
                  refine OJ.pures tU_ok 1 rfl ?_
                  obtain ⟨t6, ht6, H⟩ := pbind H
                  obtain ⟨ad6, e6⟩ := (hS.rd' (i := 1) rfl).some' ht6
                  refine OJ.st rfl rfl rfl (SR.idxS tU_ok tI_ok rfl rfl rfl rfl e6 rfl (getI_some ht6).1) ?_
                  refine OJ.st rfl rfl rfl (SR.load rfl rfl (fun w' hx => ld1 tU_ok rfl rfl (CA.ext ((hS.rd' (i := 1) rfl).at_ e6 ht6) hx) rfl)) ?_
                  refine OJ.pures tU_ok 1 rfl ?_
                  obtain ⟨t7, ht7, H⟩ := pbind H
                  refine OJ.callF rfl rfl rfl rfl rfl hb49 rfl (spec_l00In.c _ (IntKind.i64.wrap t6) 0 100 _ ht7) ?_
                  rintro _ w1 ⟨rfl, hs⟩
                  replace hS := hS.grow hs
                  refine OJ.pures tU_ok 3 rfl ?_
                  refine OJ.split (t := 57) rfl (fun hb => ?_) (fun hb => ?_)
                  · replace H := pif_t hb H
                    refine OJ.pures tU_ok 18 rfl ?_
                    refine OJ.nil ?_
                    exact EJ.meet (F' := [(0, .pointer (some pa0)), (3, .int .i64 (a0.Names.length : Int)), (4, .int .i64 y2), (75, .bool true)]) ⟨rfl, rfl, rfl, rfl, trivial⟩ ⟨true, H, rfl, hS.pick [] [0, 1, 2, 3] rfl⟩
                  · replace H := pifb_f hb H
                    refine OJ.pures tU_ok 2 rfl ?_
                    refine OJ.st rfl rfl rfl (SR.fieldAddr tU_ok tI_ok rfl rfl rfl rfl rfl rfl) ?_
                    refine OJ.st rfl rfl rfl (SR.load rfl rfl (fun w' hx => ld1 tU_ok rfl rfl (CA.ext (CA.sub (hS.ca (i := 3) rfl) 2) hx) rfl)) ?_
                    refine OJ.pures tU_ok 1 rfl ?_
                    obtain ⟨t8, ht8, H⟩ := pbind H
                    obtain ⟨ad8, e8⟩ := (hS.rd' (i := 2) rfl).some' ht8
                    refine OJ.st rfl rfl rfl (SR.idxS tU_ok tI_ok rfl rfl rfl rfl e8 rfl (getI_some ht8).1) ?_
                    refine OJ.st rfl rfl rfl (SR.load rfl rfl (fun w' hx => ld1 tU_ok rfl rfl (CA.ext ((hS.rd' (i := 2) rfl).at_ e8 ht8) hx) rfl)) ?_
                    refine OJ.pures tU_ok 2 rfl ?_
                    obtain ⟨u9, hu9, H⟩ := pbind H
                    refine OJ.st rfl rfl rfl (SR.shr rfl rfl rfl (chk_some hu9)) ?_
                    refine OJ.pures tU_ok 3 rfl ?_
                    refine OJ.split (t := 70) rfl (fun hb => ?_) (fun hb => ?_)
                    · replace H := pif_t (of_decide_eq_true hb) H
                      refine OJ.pures tU_ok 5 rfl ?_
                      refine OJ.nil ?_
                      exact EJ.meet (F' := [(0, .pointer (some pa0)), (3, .int .i64 (a0.Names.length : Int)), (4, .int .i64 y2), (75, .bool true)]) ⟨rfl, rfl, rfl, rfl, trivial⟩ ⟨true, H, rfl, hS.pick [] [0, 1, 2, 3] rfl⟩
                    · replace H := pif_f (of_decide_eq_false hb) H
                      refine OJ.pures tU_ok 3 rfl ?_
                      obtain ⟨t10, ht10, H⟩ := pbind H
                      refine OJ.callF rfl rfl rfl rfl rfl hb29 rfl (spec_l06Are.c _ Aa0_0 ca0_0 Aa0_1 ca0_1 Aa0_2 ca0_2 a0 (hS.rd' (i := 0) rfl) (hS.le' (i := 0) rfl) (hS.rd' (i := 1) rfl) (hS.le' (i := 1) rfl) (hS.rd' (i := 2) rfl) (hS.le' (i := 2) rfl) pa0 (hS.ca (i := 3) rfl) y2 y2 _ ht10) ?_
                      rintro _ w1 ⟨rfl, hs⟩
                      replace hS := hS.grow hs
                      refine OJ.pures tU_ok 1 rfl ?_
                      refine OJ.nil ?_
                      exact EJ.meet (F' := [(0, .pointer (some pa0)), (3, .int .i64 (a0.Names.length : Int)), (4, .int .i64 y2), (75, .bool t10)]) ⟨rfl, rfl, rfl, rfl, trivial⟩ ⟨t10, H, rfl, hS.pick [] [0, 1, 2, 3] rfl⟩
              · rintro F w1 ⟨y3, he, rfl, hS⟩
                obtain rfl := Option.some.inj he
                have H := K22
                refine CJ.cond rfl (fun hb => ?_) (fun hb => ?_)
                · replace H := pif_t hb H
                  refine CJ.seq ?_
                  refine CJ.region ?_
                  refine OJ.pures tU_ok 1 rfl ?_
                  refine OJ.nil (EJ.next ?_)
                  refine CJ.ret (EJ.skR (EJ.bkR (EJ.skR (EJ.skR (EJ.bkR (EJ.skR (EJ.skR (?_))))))))
                  first | (obtain rfl := Option.some.inj H; have H := K19) | (obtain ⟨q19, H2, e19⟩ := pbind H; obtain rfl := Option.some.inj e19; obtain rfl := Option.some.inj K19; have H := H2)
                  first | (obtain rfl := Option.some.inj H; have H := K7) | (obtain ⟨q7, H2, e7⟩ := pbind H; obtain rfl := Option.some.inj e7; obtain rfl := Option.some.inj K7; have H := H2)
                  obtain rfl := Option.some.inj H
                  exact EJ.fin rfl (.tmp rfl .nil) ⟨rfl, hS.ext⟩
                · replace H := pifb_f hb H
                  refine CJ.skip (EJ.next ?_)
                  refine CJ.seq ?_
                  refine CJ.region ?_
                  refine OJ.pures tU_ok 1 rfl ?_
                  refine OJ.nil (EJ.next ?_)
                  obtain ⟨j23, H, K23⟩ := pbind H
                  refine CJ.cut1 (fun F w1 => (some (Sum.inr ()) : Option (((Bool ⊕ Unit) ⊕ Unit) ⊕ Unit)) = some j23 ∧ F = [(0, .pointer (some pa0)), (3, .int .i64 (a0.Names.length : Int)), (4, .int .i64 y2)] ∧ St w no w1 [] [roC G.cs Aa0_0 ca0_0 a0.Names, roC (ci .i16) Aa0_1 ca0_1 a0.Eats, roC (ci .u16) Aa0_2 ca0_2 a0.Foes, roP pa0 ([.slice Aa0_0 a0.Names.length ca0_0, .slice Aa0_1 a0.Eats.length ca0_1, .slice Aa0_2 a0.Foes.length ca0_2])]) ?_ ?_
                  · skip
                    refine CJ.block ?_
                    refine CJ.loop (fun k F w1 => ∃ (y11 : Int), F = [(0, .pointer (some pa0)), (3, .int .i64 (a0.Names.length : Int)), (4, .int .i64 y2), (5, .int .i64 y11)] ∧ St w no w1 [] [roC G.cs Aa0_0 ca0_0 a0.Names, roC (ci .i16) Aa0_1 ca0_1 a0.Eats, roC (ci .u16) Aa0_2 ca0_2 a0.Foes, roP pa0 ([.slice Aa0_0 a0.Names.length ca0_0, .slice Aa0_1 a0.Eats.length ca0_1, .slice Aa0_2 a0.Foes.length ca0_2])] ∧ spec_l06Ok.l2 a0 y2 k y11 = some j23) k (F' := [(0, .pointer (some pa0)), (3, .int .i64 (a0.Names.length : Int)), (4, .int .i64 y2), (5, .int .i64 0)]) ⟨rfl, rfl, rfl, rfl, trivial⟩ ⟨0, rfl, hS.pick [] [0, 1, 2, 3] rfl, H⟩ ?_
                    rintro k F w1 ⟨y11, rfl, hS, H⟩
                    cases k with
                    | zero => rw [spec_l06Ok.l2] at H; cases H
                    | succ k =>
                      rw [spec_l06Ok.l2] at H
                      refine CJ.seq ?_
                      refine CJ.seq ?_
                      refine CJ.region ?_
                      refine OJ.pures tU_ok 3 rfl ?_
                      refine OJ.nil (EJ.next ?_)
                      refine CJ.cond rfl (fun hb => ?_) (fun hb => ?_)
                      · replace H := pif_t (of_decide_eq_true hb) H
                        refine CJ.skip (EJ.next ?_)
                        refine CJ.seq ?_
                        refine CJ.block ?_
                        refine CJ.seq ?_
                        refine CJ.draw [] [0, 1, 2, 3, 4, 5, 6, 7, 8, 9, 10, 11, 12, 13, 14, 15, 16, 17, 18, 20, 21, 22, 19, 23, 24, 25] mixed (by kernel_rfl) hS fun w1 hS => ?_
                        refine DJ.pures tU_ok 2 rfl ?_
                        refine DJ.st rfl rfl rfl rfl rfl (SR.fieldAddr tU_ok tI_ok rfl rfl rfl rfl rfl rfl) ?_
                        refine DJ.st rfl rfl rfl rfl rfl (SR.load rfl rfl (fun w' hx => ld1 tU_ok rfl rfl (CA.ext (CA.sub (hS.ca (i := 3) rfl) 0) hx) rfl)) ?_
                        refine DJ.pures tU_ok 1 rfl ?_
                        obtain ⟨t12, ht12, H⟩ := pbind H
                        obtain ⟨ad12, e12⟩ := (hS.rd' (i := 0) rfl).some' ht12
                        refine DJ.st rfl rfl rfl rfl rfl (SR.idxS tU_ok tI_ok rfl rfl rfl rfl e12 rfl (getI_some ht12).1) ?_
                        refine DJ.st rfl rfl rfl rfl rfl (SR.load rfl rfl (fun w' hx => ld1 tU_ok rfl rfl (CA.ext ((hS.rd' (i := 0) rfl).at_ e12 ht12) hx) rfl)) ?_
                        refine DJ.pures tU_ok 2 rfl ?_
                        refine DJ.st rfl rfl rfl rfl rfl (SR.fieldAddr tU_ok tI_ok rfl rfl rfl rfl rfl rfl) ?_
                        refine DJ.st rfl rfl rfl rfl rfl (SR.load rfl rfl (fun w' hx => ld1 tU_ok rfl rfl (CA.ext (CA.sub (hS.ca (i := 3) rfl) 0) hx) rfl)) ?_
                        refine DJ.pures tU_ok 1 rfl ?_
                        obtain ⟨t13, ht13, H⟩ := pbind H
                        obtain ⟨ad13, e13⟩ := (hS.rd' (i := 0) rfl).some' ht13
                        refine DJ.st rfl rfl rfl rfl rfl (SR.idxS tU_ok tI_ok rfl rfl rfl rfl e13 rfl (getI_some ht13).1) ?_
                        refine DJ.st rfl rfl rfl rfl rfl (SR.load rfl rfl (fun w' hx => ld1 tU_ok rfl rfl (CA.ext ((hS.rd' (i := 0) rfl).at_ e13 ht13) hx) rfl)) ?_
                        refine DJ.pures tU_ok 2 rfl ?_
                        refine DJ.split (t := 96) rfl (fun hb => ?_) (fun hb => ?_)
                        · replace H := pif_t (of_decide_eq_true hb) H
                          refine DJ.pures tU_ok 10 rfl ?_
                          refine DJ.nil (EJ.next ?_)
                          refine CJ.condT rfl ?_
                          refine CJ.seq ?_
                          refine CJ.region ?_
                          refine OJ.pures tU_ok 1 rfl ?_
                          refine OJ.nil (EJ.next ?_)
                          refine CJ.ret (EJ.bkR (EJ.skR (EJ.skR (EJ.bkR (EJ.skR (EJ.bkR (EJ.skR (EJ.skR (EJ.bkR (EJ.skR (EJ.skR (?_))))))))))))
                          first | (obtain rfl := Option.some.inj H; have H := K23) | (obtain ⟨q23, H2, e23⟩ := pbind H; obtain rfl := Option.some.inj e23; obtain rfl := Option.some.inj K23; have H := H2)
                          first | (obtain rfl := Option.some.inj H; have H := K19) | (obtain ⟨q19, H2, e19⟩ := pbind H; obtain rfl := Option.some.inj e19; obtain rfl := Option.some.inj K19; have H := H2)
                          first | (obtain rfl := Option.some.inj H; have H := K7) | (obtain ⟨q7, H2, e7⟩ := pbind H; obtain rfl := Option.some.inj e7; obtain rfl := Option.some.inj K7; have H := H2)
                          obtain rfl := Option.some.inj H
                          exact EJ.fin rfl (.tmp rfl .nil) ⟨rfl, hS.ext⟩
                        · replace H := pif_f (of_decide_eq_false hb) H
                          refine DJ.pures tU_ok 6 rfl ?_
                          obtain ⟨t14, ht14, H⟩ := pbind H
                          refine DJ.callF rfl rfl rfl rfl rfl rfl rfl hb29 rfl (spec_l06Are.c _ Aa0_0 ca0_0 Aa0_1 ca0_1 Aa0_2 ca0_2 a0 (hS.rd' (i := 0) rfl) (hS.le' (i := 0) rfl) (hS.rd' (i := 1) rfl) (hS.le' (i := 1) rfl) (hS.rd' (i := 2) rfl) (hS.le' (i := 2) rfl) pa0 (hS.ca (i := 3) rfl) y2 y11 _ ht14) (by rintro v w' ⟨rfl, hs⟩; exact hs) ?_
                          rintro _ w1 ⟨rfl, hs⟩
                          replace hS := hS.grow hs
                          obtain ⟨t15, ht15, H⟩ := pbind H
                          refine DJ.callF rfl rfl rfl rfl rfl rfl rfl hb29 rfl (spec_l06Are.c _ Aa0_0 ca0_0 Aa0_1 ca0_1 Aa0_2 ca0_2 a0 (hS.rd' (i := 0) rfl) (hS.le' (i := 0) rfl) (hS.rd' (i := 1) rfl) (hS.le' (i := 1) rfl) (hS.rd' (i := 2) rfl) (hS.le' (i := 2) rfl) pa0 (hS.ca (i := 3) rfl) y11 y2 _ ht15) (by rintro v w' ⟨rfl, hs⟩; exact hs) ?_
                          rintro _ w1 ⟨rfl, hs⟩
                          replace hS := hS.grow hs
                          refine DJ.st rfl rfl rfl rfl rfl (SR.neB tU_ok rfl rfl rfl rfl) ?_
                          refine DJ.pures tU_ok 1 rfl ?_
                          refine DJ.nil (EJ.next ?_)
                          refine CJ.cond rfl (fun hb => ?_) (fun hb => ?_)
                          · replace H := pif_t (of_decide_eq_true hb) H
                            refine CJ.seq ?_
                            refine CJ.region ?_
                            refine OJ.pures tU_ok 1 rfl ?_
                            refine OJ.nil (EJ.next ?_)
                            refine CJ.ret (EJ.bkR (EJ.skR (EJ.skR (EJ.bkR (EJ.skR (EJ.bkR (EJ.skR (EJ.skR (EJ.bkR (EJ.skR (EJ.skR (?_))))))))))))
                            first | (obtain rfl := Option.some.inj H; have H := K23) | (obtain ⟨q23, H2, e23⟩ := pbind H; obtain rfl := Option.some.inj e23; obtain rfl := Option.some.inj K23; have H := H2)
                            first | (obtain rfl := Option.some.inj H; have H := K19) | (obtain ⟨q19, H2, e19⟩ := pbind H; obtain rfl := Option.some.inj e19; obtain rfl := Option.some.inj K19; have H := H2)
                            first | (obtain rfl := Option.some.inj H; have H := K7) | (obtain ⟨q7, H2, e7⟩ := pbind H; obtain rfl := Option.some.inj e7; obtain rfl := Option.some.inj K7; have H := H2)
                            obtain rfl := Option.some.inj H
                            exact EJ.fin rfl (.tmp rfl .nil) ⟨rfl, hS.ext⟩
                          · replace H := pif_f (of_decide_eq_false hb) H
                            refine CJ.skip (EJ.blk (EJ.next ?_))
                            refine CJ.region ?_
                            refine OJ.pures tU_ok 3 rfl ?_
                            refine OJ.nil ?_
                            exact EJ.round k (F' := [(0, .pointer (some pa0)), (3, .int .i64 (a0.Names.length : Int)), (4, .int .i64 y2), (5, .int .i64 (IntKind.i64.wrap (y11 + 1)))]) ⟨rfl, rfl, rfl, rfl, trivial⟩ (Nat.lt_succ_self _) ⟨(IntKind.i64.wrap (y11 + 1)), rfl, hS.pick [] [0, 1, 2, 3] rfl, H⟩
                      · replace H := pif_f (of_decide_eq_false hb) H
                        refine CJ.exit (EJ.skE (EJ.skE (EJ.hit (?_))))
                        exact EJ.meet (F' := [(0, .pointer (some pa0)), (3, .int .i64 (a0.Names.length : Int)), (4, .int .i64 y2)]) ⟨rfl, rfl, rfl, trivial⟩ ⟨H, rfl, hS.pick [] [0, 1, 2, 3] rfl⟩
                  · rintro F w1 ⟨he, rfl, hS⟩
                    obtain rfl := Option.some.inj he
                    have H := K23
                    refine EJ.blk (?_)
                    exact EJ.meet (F' := [(0, .pointer (some pa0)), (3, .int .i64 (a0.Names.length : Int)), (4, .int .i64 y2)]) ⟨rfl, rfl, rfl, trivial⟩ ⟨H, rfl, hS.pick [] [0, 1, 2, 3] rfl⟩
            · rintro F w1 ⟨he, rfl, hS⟩
              obtain rfl := Option.some.inj he
              have H := K19
              refine CJ.region ?_
              refine OJ.pures tU_ok 3 rfl ?_
              refine OJ.nil ?_
              exact EJ.round k (F' := [(0, .pointer (some pa0)), (3, .int .i64 (a0.Names.length : Int)), (4, .int .i64 (IntKind.i64.wrap (y2 + 1)))]) ⟨rfl, rfl, rfl, trivial⟩ (Nat.lt_succ_self _) ⟨(IntKind.i64.wrap (y2 + 1)), rfl, hS.pick [] [0, 1, 2, 3] rfl, H⟩
          · replace H := pif_f (of_decide_eq_false hb) H
            refine CJ.exit (EJ.skE (EJ.skE (EJ.hit (?_))))
            exact EJ.meet (F' := []) trivial ⟨H, rfl, hS.pick [] [0, 1, 2, 3] rfl⟩
      · rintro F w1 ⟨he, rfl, hS⟩
        obtain rfl := Option.some.inj he
        have H := K7
        refine EJ.next ?_
        refine CJ.seq ?_
        refine CJ.region ?_
        refine OJ.pures tU_ok 1 rfl ?_
        refine OJ.nil (EJ.next ?_)
        refine CJ.ret (?_)
        obtain rfl := Option.some.inj H
        exact EJ.fin rfl (.tmp rfl .nil) ⟨rfl, hS.ext⟩

def spec_l06Least.l2 (a0 : Herd) (a1 : List Int) (a2 : Int) (y1 : Int) : Nat → Bool → Int → Option Bool
  | 0, _, _ => none
  | k + 1, y3, y4 => if y4 < (a1.length : Int) then (if y3 = true then ((getI a1 y4).bind fun t5 => if t5 = y1 then ((spec_l06Are.f a0 a2 y4).bind fun t6 => spec_l06Least.l2 a0 a1 a2 y1 k (!t6) (IntKind.i64.wrap (y4 + 1))) else (spec_l06Least.l2 a0 a1 a2 y1 k true (IntKind.i64.wrap (y4 + 1)))) else (spec_l06Least.l2 a0 a1 a2 y1 k false (IntKind.i64.wrap (y4 + 1)))) else (some y3)
def spec_l06Least.l1 (a0 : Herd) (a1 : List Int) (a2 : Int) : Nat → Int → Option (Int ⊕ Unit)
  | 0, _ => none
  | k + 1, y1 => ((spec_l06Least.l2 a0 a1 a2 y1 k true 0).bind fun y2 => if y2 = true then (some (Sum.inl (Sum.inl y1))) else (some (Sum.inr ()))).bind fun s34 => match s34 with | .inl r => some r | .inr _ => spec_l06Least.l1 a0 a1 a2 k (IntKind.i64.wrap (y1 + 1))
def spec_l06Least.f (k : Nat) (a0 : Herd) (a1 : List Int) (a2 : Int) : Option Int := (spec_l06Least.l1 a0 a1 a2 k 0).bind fun s27 => match s27 with | .inl r => some r | .inr _ => none
theorem spec_l06Least.c (k : Nat) (w : World) (Aa0_0 : Option Addr) (ca0_0 : Nat) (Aa0_1 : Option Addr) (ca0_1 : Nat) (Aa0_2 : Option Addr) (ca0_2 : Nat) (a0 : Herd) (hr0_0 : Rd G.cs w Aa0_0 a0.Names) (hc0_0 : a0.Names.length ≤ ca0_0) (hr0_1 : Rd (ci .i16) w Aa0_1 a0.Eats) (hc0_1 : a0.Eats.length ≤ ca0_1) (hr0_2 : Rd (ci .u16) w Aa0_2 a0.Foes) (hc0_2 : a0.Foes.length ≤ ca0_2) (pa0 : Addr) (hp0 : CA w pa0 ([.slice Aa0_0 a0.Names.length ca0_0, .slice Aa0_1 a0.Eats.length ca0_1, .slice Aa0_2 a0.Foes.length ca0_2])) (Aa1 : Option Addr) (ca1 : Nat) (a1 : List Int) (hr1 : Rd (ci .i64) w Aa1 a1) (hc1 : a1.length ≤ ca1) (a2 : Int) (r : Int) (H : spec_l06Least.f k a0 a1 a2 = some r) :
    CV Tryd.prog 50 [.pointer (some pa0), .slice Aa1 a1.length ca1, .int .i64 a2].toArray w fun v w' => v = .int .i64 r ∧ Ext w w' := by
  have hS := ((((((St.init w no).param G.cs Aa0_0 ca0_0 a0.Names hr0_0 hc0_0).param (ci .i16) Aa0_1 ca0_1 a0.Eats hr0_1 hc0_1).param (ci .u16) Aa0_2 ca0_2 a0.Foes hr0_2 hc0_2).paramP pa0 ([.slice Aa0_0 a0.Names.length ca0_0, .slice Aa0_1 a0.Eats.length ca0_1, .slice Aa0_2 a0.Foes.length ca0_2]) hp0).param (ci .i64) Aa1 ca1 a1 hr1 hc1)
  unfold spec_l06Least.f at H
  refine CV.body Tryd.func50 rfl Tryd.ntmps50 rfl ?_
  refine CJ.seq ?_
  refine CJ.region ?_
  refine OJ.pures tU_ok 1 rfl ?_
  refine OJ.nil (EJ.next ?_)
  refine CJ.seq ?_
  refine CJ.region ?_
  refine OJ.pures tU_ok 1 rfl ?_
  refine OJ.nil (EJ.next ?_)
  obtain ⟨j27, H, K27⟩ := pbind H
  refine CJ.cut1 (fun _ _ => False) ?_ ?_
  · skip
    refine CJ.block ?_
    refine CJ.loop (fun k F w1 => ∃ (y1 : Int), F = [(0, .pointer (some pa0)), (1, .slice Aa1 a1.length ca1), (2, .int .i64 a2), (6, .int .i64 0), (7, .int .i64 y1)] ∧ St w no w1 [] [roC G.cs Aa0_0 ca0_0 a0.Names, roC (ci .i16) Aa0_1 ca0_1 a0.Eats, roC (ci .u16) Aa0_2 ca0_2 a0.Foes, roP pa0 ([.slice Aa0_0 a0.Names.length ca0_0, .slice Aa0_1 a0.Eats.length ca0_1, .slice Aa0_2 a0.Foes.length ca0_2]), roC (ci .i64) Aa1 ca1 a1] ∧ spec_l06Least.l1 a0 a1 a2 k y1 = some j27) k (F' := [(0, .pointer (some pa0)), (1, .slice Aa1 a1.length ca1), (2, .int .i64 a2), (6, .int .i64 0), (7, .int .i64 0)]) ⟨rfl, rfl, rfl, rfl, rfl, trivial⟩ ⟨0, rfl, hS.pick [] [0, 1, 2, 3, 4] rfl, H⟩ ?_
    rintro k F w1 ⟨y1, rfl, hS, H⟩
    cases k with
    | zero => rw [spec_l06Least.l1] at H; cases H
    | succ k =>
      rw [spec_l06Least.l1] at H
      obtain ⟨j34, H, K34⟩ := pbind H
      refine CJ.cut (fun F w1 => (some (Sum.inr ()) : Option ((Int ⊕ Unit) ⊕ Unit)) = some j34 ∧ F = [(0, .pointer (some pa0)), (1, .slice Aa1 a1.length ca1), (2, .int .i64 a2), (6, .int .i64 0), (7, .int .i64 y1)] ∧ St w no w1 [] [roC G.cs Aa0_0 ca0_0 a0.Names, roC (ci .i16) Aa0_1 ca0_1 a0.Eats, roC (ci .u16) Aa0_2 ca0_2 a0.Foes, roP pa0 ([.slice Aa0_0 a0.Names.length ca0_0, .slice Aa0_1 a0.Eats.length ca0_1, .slice Aa0_2 a0.Foes.length ca0_2]), roC (ci .i64) Aa1 ca1 a1]) ?_ ?_
      · skip
        refine CJ.block ?_
        refine CJ.seq ?_
        refine CJ.region ?_
        refine OJ.pures tU_ok 1 rfl ?_
        refine OJ.nil (EJ.next ?_)
        refine CJ.seq ?_
        refine CJ.seq ?_
        refine CJ.region ?_
        refine OJ.pures tU_ok 1 rfl ?_
        refine OJ.nil (EJ.next ?_)
        obtain ⟨j36, H, K36⟩ := pbind H
        refine CJ.cut1 (fun F w1 => ∃ (y2 : Bool) , (some y2 : Option Bool) = some j36 ∧ F = [(0, .pointer (some pa0)), (1, .slice Aa1 a1.length ca1), (2, .int .i64 a2), (6, .int .i64 0), (7, .int .i64 y1), (8, .bool y2)] ∧ St w no w1 [] [roC G.cs Aa0_0 ca0_0 a0.Names, roC (ci .i16) Aa0_1 ca0_1 a0.Eats, roC (ci .u16) Aa0_2 ca0_2 a0.Foes, roP pa0 ([.slice Aa0_0 a0.Names.length ca0_0, .slice Aa0_1 a0.Eats.length ca0_1, .slice Aa0_2 a0.Foes.length ca0_2]), roC (ci .i64) Aa1 ca1 a1]) ?_ ?_
        · skip
          refine CJ.block ?_
          refine CJ.loop (fun k F w1 => ∃ (y3 : Bool) (y4 : Int), F = [(0, .pointer (some pa0)), (1, .slice Aa1 a1.length ca1), (2, .int .i64 a2), (6, .int .i64 0), (7, .int .i64 y1), (8, .bool y3), (9, .int .i64 y4)] ∧ St w no w1 [] [roC G.cs Aa0_0 ca0_0 a0.Names, roC (ci .i16) Aa0_1 ca0_1 a0.Eats, roC (ci .u16) Aa0_2 ca0_2 a0.Foes, roP pa0 ([.slice Aa0_0 a0.Names.length ca0_0, .slice Aa0_1 a0.Eats.length ca0_1, .slice Aa0_2 a0.Foes.length ca0_2]), roC (ci .i64) Aa1 ca1 a1] ∧ spec_l06Least.l2 a0 a1 a2 y1 k y3 y4 = some j36) k (F' := [(0, .pointer (some pa0)), (1, .slice Aa1 a1.length ca1), (2, .int .i64 a2), (6, .int .i64 0), (7, .int .i64 y1), (8, .bool true), (9, .int .i64 0)]) ⟨rfl, rfl, rfl, rfl, rfl, rfl, rfl, trivial⟩ ⟨true, 0, rfl, hS.pick [] [0, 1, 2, 3, 4] rfl, H⟩ ?_
          rintro k F w1 ⟨y3, y4, rfl, hS, H⟩
          cases k with
          | zero => rw [spec_l06Least.l2] at H; cases H
          | succ k =>
            rw [spec_l06Least.l2] at H
            refine CJ.seq ?_
            refine CJ.seq ?_
            refine CJ.region ?_
            refine OJ.pures tU_ok 4 rfl ?_
            refine OJ.nil (EJ.next ?_)
            refine CJ.cond rfl (fun hb => ?_) (fun hb => ?_)
            · replace H := pif_t (of_decide_eq_true hb) H
              refine CJ.skip (EJ.next ?_)
              refine CJ.seq ?_
              refine CJ.block ?_
              refine CJ.region ?_
              refine OJ.pures tU_ok 2 rfl ?_
              refine OJ.split (t := 19) rfl (fun hb => ?_) (fun hb => ?_)
              · replace H := pif_t hb H
                refine OJ.pures tU_ok 2 rfl ?_
                obtain ⟨t5, ht5, H⟩ := pbind H
                obtain ⟨ad5, e5⟩ := (hS.rd' (i := 4) rfl).some' ht5
                refine OJ.st rfl rfl rfl (SR.idxS tU_ok tI_ok rfl rfl rfl rfl e5 rfl (getI_some ht5).1) ?_
                refine OJ.st rfl rfl rfl (SR.load rfl rfl (fun w' hx => ld1 tU_ok rfl rfl (CA.ext ((hS.rd' (i := 4) rfl).at_ e5 ht5) hx) rfl)) ?_
                refine OJ.pures tU_ok 3 rfl ?_
                refine OJ.split (t := 26) rfl (fun hb => ?_) (fun hb => ?_)
                · replace H := pif_t (of_decide_eq_true hb) H
                  refine OJ.pures tU_ok 3 rfl ?_
                  obtain ⟨t6, ht6, H⟩ := pbind H
                  refine OJ.callF rfl rfl rfl rfl rfl hb29 rfl (spec_l06Are.c _ Aa0_0 ca0_0 Aa0_1 ca0_1 Aa0_2 ca0_2 a0 (hS.rd' (i := 0) rfl) (hS.le' (i := 0) rfl) (hS.rd' (i := 1) rfl) (hS.le' (i := 1) rfl) (hS.rd' (i := 2) rfl) (hS.le' (i := 2) rfl) pa0 (hS.ca (i := 3) rfl) a2 y4 _ ht6) ?_
                  rintro _ w1 ⟨rfl, hs⟩
                  replace hS := hS.grow hs
                  refine OJ.pures tU_ok 4 rfl ?_
                  refine OJ.nil (EJ.blk (EJ.next ?_))
                  refine CJ.region ?_
                  refine OJ.pures tU_ok 3 rfl ?_
                  refine OJ.nil ?_
                  exact EJ.round k (F' := [(0, .pointer (some pa0)), (1, .slice Aa1 a1.length ca1), (2, .int .i64 a2), (6, .int .i64 0), (7, .int .i64 y1), (8, .bool (!t6)), (9, .int .i64 (IntKind.i64.wrap (y4 + 1)))]) ⟨rfl, rfl, rfl, rfl, rfl, rfl, rfl, trivial⟩ (Nat.lt_succ_self _) ⟨(!t6), (IntKind.i64.wrap (y4 + 1)), rfl, hS.pick [] [0, 1, 2, 3, 4] rfl, H⟩
                · replace H := pif_f (of_decide_eq_false hb) H
                  refine OJ.pures tU_ok 8 rfl ?_
                  refine OJ.nil (EJ.blk (EJ.next ?_))
                  refine CJ.region ?_
                  refine OJ.pures tU_ok 3 rfl ?_
                  refine OJ.nil ?_
                  exact EJ.round k (F' := [(0, .pointer (some pa0)), (1, .slice Aa1 a1.length ca1), (2, .int .i64 a2), (6, .int .i64 0), (7, .int .i64 y1), (8, .bool true), (9, .int .i64 (IntKind.i64.wrap (y4 + 1)))]) ⟨rfl, rfl, rfl, rfl, rfl, rfl, rfl, trivial⟩ (Nat.lt_succ_self _) ⟨true, (IntKind.i64.wrap (y4 + 1)), rfl, hS.pick [] [0, 1, 2, 3, 4] rfl, H⟩
              · replace H := pifb_f hb H
                refine OJ.pures tU_ok 15 rfl ?_
                refine OJ.nil (EJ.blk (EJ.next ?_))
                refine CJ.region ?_
                refine OJ.pures tU_ok 3 rfl ?_
                refine OJ.nil ?_
                exact EJ.round k (F' := [(0, .pointer (some pa0)), (1, .slice Aa1 a1.length ca1), (2, .int .i64 a2), (6, .int .i64 0), (7, .int .i64 y1), (8, .bool false), (9, .int .i64 (IntKind.i64.wrap (y4 + 1)))]) ⟨rfl, rfl, rfl, rfl, rfl, rfl, rfl, trivial⟩ (Nat.lt_succ_self _) ⟨false, (IntKind.i64.wrap (y4 + 1)), rfl, hS.pick [] [0, 1, 2, 3, 4] rfl, H⟩
            · replace H := pif_f (of_decide_eq_false hb) H
              refine CJ.exit (EJ.skE (EJ.skE (EJ.hit (?_))))
              exact EJ.meet (F' := [(0, .pointer (some pa0)), (1, .slice Aa1 a1.length ca1), (2, .int .i64 a2), (6, .int .i64 0), (7, .int .i64 y1), (8, .bool y3)]) ⟨rfl, rfl, rfl, rfl, rfl, rfl, trivial⟩ ⟨y3, H, rfl, hS.pick [] [0, 1, 2, 3, 4] rfl⟩
        · rintro F w1 ⟨y2, he, rfl, hS⟩
          obtain rfl := Option.some.inj he
          have H := K36
          refine EJ.next ?_
          refine CJ.seq ?_
          refine CJ.region ?_
          refine OJ.pures tU_ok 1 rfl ?_
          refine OJ.nil (EJ.next ?_)
          refine CJ.cond rfl (fun hb => ?_) (fun hb => ?_)
          · replace H := pif_t hb H
            refine CJ.seq ?_
            refine CJ.region ?_
            refine OJ.pures tU_ok 2 rfl ?_
            refine OJ.nil (EJ.next ?_)
            refine CJ.ret (EJ.bkR (EJ.skR (EJ.skR (EJ.bkR (EJ.skR (?_))))))
            first | (obtain rfl := Option.some.inj H; have H := K34) | (obtain ⟨q34, H2, e34⟩ := pbind H; obtain rfl := Option.some.inj e34; obtain rfl := Option.some.inj K34; have H := H2)
            first | (obtain rfl := Option.some.inj H; have H := K27) | (obtain ⟨q27, H2, e27⟩ := pbind H; obtain rfl := Option.some.inj e27; obtain rfl := Option.some.inj K27; have H := H2)
            obtain rfl := Option.some.inj H
            exact EJ.fin rfl (.tmp rfl .nil) ⟨rfl, hS.ext⟩
          · replace H := pifb_f hb H
            refine CJ.skip (EJ.blk (?_))
            exact EJ.meet (F' := [(0, .pointer (some pa0)), (1, .slice Aa1 a1.length ca1), (2, .int .i64 a2), (6, .int .i64 0), (7, .int .i64 y1)]) ⟨rfl, rfl, rfl, rfl, rfl, trivial⟩ ⟨H, rfl, hS.pick [] [0, 1, 2, 3, 4] rfl⟩
      · rintro F w1 ⟨he, rfl, hS⟩
        obtain rfl := Option.some.inj he
        have H := K34
        refine CJ.region ?_
        refine OJ.pures tU_ok 3 rfl ?_
        refine OJ.nil ?_
        exact EJ.round k (F' := [(0, .pointer (some pa0)), (1, .slice Aa1 a1.length ca1), (2, .int .i64 a2), (6, .int .i64 0), (7, .int .i64 (IntKind.i64.wrap (y1 + 1)))]) ⟨rfl, rfl, rfl, rfl, rfl, trivial⟩ (Nat.lt_succ_self _) ⟨(IntKind.i64.wrap (y1 + 1)), rfl, hS.pick [] [0, 1, 2, 3, 4] rfl, H⟩
  · rintro F w1 h
    exact h.elim

def spec_GreedyGroups.l1 : Nat → (List Int) → Int → Option (List Int)
  | 0, _, _ => none
  | k + 1, y8, y9 => if y9 < (y8.length : Int) then ((getI y8 y9).bind fun t10 => spec_GreedyGroups.l1 k (y8.set y9.toNat (-1)) (IntKind.i64.wrap (y9 + 1))) else (some y8)
def spec_GreedyGroups.l2 (a0 : Herd) (a1 : List Int) : Nat → (List Int) → Int → Option ((List Int × Int) ⊕ (List Int))
  | 0, _, _ => none
  | k + 1, y12, y13 => if y13 < (a1.length : Int) then (((getI a1 y13).bind fun t15 => (spec_l00In.f t15 0 (IntKind.i64.wrap ((a1.length : Int) - 1))).bind fun t16 => if (!t16) = true then (some true) else ((getI a1 y13).bind fun t17 => (getI y12 t17).bind fun t18 => some (decide (0 ≤ t18)))).bind fun y14 => if y14 = true then (some (Sum.inl (([] : List Int), 4))) else ((getI a1 y13).bind fun t20 => (getI a1 y13).bind fun t21 => (spec_l06Least.f k a0 y12 t21).bind fun t22 => (getI y12 t20).bind fun t23 => spec_GreedyGroups.l2 a0 a1 k (y12.set t20.toNat t22) (IntKind.i64.wrap (y13 + 1)))) else (some (Sum.inr y12))
def spec_GreedyGroups.f (k : Nat) (a0 : Herd) (a1 : List Int) : Option (List Int × Int) := (spec_l06Ok.f k a0).bind fun t2 => if (!t2) = true then (some (([] : List Int), 1)) else (if (a1.length : Int) ≠ (a0.Names.length : Int) then (some (([] : List Int), 4)) else ((chk (0 ≤ (a1.length : Int) ∧ (a1.length : Int) ≤ 4294967296)).bind fun u5 => (spec_GreedyGroups.l1 k (List.replicate ((a1.length : Int).toNat) 0 : List Int) 0).bind fun y7 => (spec_GreedyGroups.l2 a0 a1 k y7 0).bind fun s25 => match s25 with | .inl r => some r | .inr y11 => some (y11, 0)))
theorem spec_GreedyGroups.c (k : Nat) (w : World) (Aa0_0 : Option Addr) (ca0_0 : Nat) (Aa0_1 : Option Addr) (ca0_1 : Nat) (Aa0_2 : Option Addr) (ca0_2 : Nat) (a0 : Herd) (hr0_0 : Rd G.cs w Aa0_0 a0.Names) (hc0_0 : a0.Names.length ≤ ca0_0) (hr0_1 : Rd (ci .i16) w Aa0_1 a0.Eats) (hc0_1 : a0.Eats.length ≤ ca0_1) (hr0_2 : Rd (ci .u16) w Aa0_2 a0.Foes) (hc0_2 : a0.Foes.length ≤ ca0_2) (Aa1 : Option Addr) (ca1 : Nat) (a1 : List Int) (hr1 : Rd (ci .i64) w Aa1 a1) (hc1 : a1.length ≤ ca1) (r : List Int × Int) (H : spec_GreedyGroups.f k a0 a1 = some r) :
    CV Tryd.prog 17 [.agg [.slice Aa0_0 a0.Names.length ca0_0, .slice Aa0_1 a0.Eats.length ca0_1, .slice Aa0_2 a0.Foes.length ca0_2].toArray, .slice Aa1 a1.length ca1].toArray w fun v w' => ∃ (A0 : Option Addr) (c0 : Nat), v = .tuple #[.slice A0 r.1.length c0, .int .i64 r.2] ∧ St w no w' [rowC (ci .i64) A0 c0 2 r.1] [] := by
  have hS := (((((St.init w no).param G.cs Aa0_0 ca0_0 a0.Names hr0_0 hc0_0).param (ci .i16) Aa0_1 ca0_1 a0.Eats hr0_1 hc0_1).param (ci .u16) Aa0_2 ca0_2 a0.Foes hr0_2 hc0_2).param (ci .i64) Aa1 ca1 a1 hr1 hc1)
  unfold spec_GreedyGroups.f at H
  refine CV.body Tryd.func17 rfl Tryd.ntmps17 rfl ?_
  refine CJ.seq ?_
  refine CJ.region ?_
  refine OJ.ef rfl rfl rfl (Ef.box hS rfl rfl ([.slice Aa0_0 a0.Names.length ca0_0, .slice Aa0_1 a0.Eats.length ca0_1, .slice Aa0_2 a0.Foes.length ca0_2]) rfl) ?_
  rintro _ w1 ⟨b1, rfl, hS⟩
  refine OJ.pures tU_ok 2 rfl ?_
  refine OJ.nil (EJ.next ?_)
  refine CJ.seq ?_
  refine CJ.seq ?_
  refine CJ.region ?_
  obtain ⟨t2, ht2, H⟩ := pbind H
  refine OJ.callF rfl rfl rfl rfl rfl hb48 rfl (spec_l06Ok.c k _ Aa0_0 ca0_0 Aa0_1 ca0_1 Aa0_2 ca0_2 a0 (hS.rd' (i := 0) rfl) (hS.le' (i := 0) rfl) (hS.rd' (i := 1) rfl) (hS.le' (i := 1) rfl) (hS.rd' (i := 2) rfl) (hS.le' (i := 2) rfl) ⟨b1, 0, none⟩ (hS.cells (i := 0) rfl) _ ht2) ?_
  rintro _ w1 ⟨rfl, hs⟩
  replace hS := hS.grow hs
  refine OJ.pures tU_ok 1 rfl ?_
  refine OJ.nil (EJ.next ?_)
  refine CJ.cond rfl (fun hb => ?_) (fun hb => ?_)
  · replace H := pif_t hb H
    refine CJ.seq ?_
    refine CJ.region ?_
    refine OJ.ef rfl rfl rfl (Ef.lit tU_ok tI_ok hS (C := (ci .i64)) rfl rfl rfl rfl rfl rfl ([] : List Int) rfl rfl rfl rfl) ?_
    rintro _ w1 ⟨A3, rfl, hS⟩
    refine OJ.pures tU_ok 2 rfl ?_
    refine OJ.nil (EJ.next ?_)
    refine CJ.ret (EJ.skR (?_))
    obtain rfl := Option.some.inj H
    exact EJ.fin rfl (.tmp rfl (.tmp rfl .nil)) ⟨A3, (([] : List Int).length), rfl, hS.pick [1] [] rfl⟩
  · replace H := pifb_f hb H
    refine CJ.skip (EJ.next ?_)
    refine CJ.seq ?_
    refine CJ.seq ?_
    refine CJ.region ?_
    refine OJ.pures tU_ok 2 rfl ?_
    refine OJ.st rfl rfl rfl (SR.fieldAddr tU_ok tI_ok rfl rfl rfl rfl rfl rfl) ?_
    refine OJ.st rfl rfl rfl (SR.load rfl rfl (fun w' hx => ld1 tU_ok rfl rfl (CA.ext (CA.sub (hS.cells (i := 0) rfl) 0) hx) rfl)) ?_
    refine OJ.pures tU_ok 2 rfl ?_
    refine OJ.nil (EJ.next ?_)
    refine CJ.cond rfl (fun hb => ?_) (fun hb => ?_)
    · replace H := pif_t (of_decide_eq_true hb) H
      refine CJ.seq ?_
      refine CJ.region ?_
      refine OJ.ef rfl rfl rfl (Ef.lit tU_ok tI_ok hS (C := (ci .i64)) rfl rfl rfl rfl rfl rfl ([] : List Int) rfl rfl rfl rfl) ?_
      rintro _ w1 ⟨A4, rfl, hS⟩
      refine OJ.pures tU_ok 2 rfl ?_
      refine OJ.nil (EJ.next ?_)
      refine CJ.ret (EJ.skR (?_))
      obtain rfl := Option.some.inj H
      exact EJ.fin rfl (.tmp rfl (.tmp rfl .nil)) ⟨A4, (([] : List Int).length), rfl, hS.pick [1] [] rfl⟩
    · replace H := pif_f (of_decide_eq_false hb) H
      refine CJ.skip (EJ.next ?_)
      refine CJ.seq ?_
      refine CJ.region ?_
      refine OJ.pures tU_ok 2 rfl ?_
      obtain ⟨u5, hu5, H⟩ := pbind H
      refine OJ.ef rfl rfl rfl (Ef.make tU_ok tI_ok hS (C := (ci .i64)) rfl rfl rfl rfl rfl rfl rfl rfl (chk_some hu5) 0 rfl) ?_
      rintro _ w1 ⟨A6, rfl, hS⟩
      refine OJ.pures tU_ok 1 rfl ?_
      refine OJ.nil (EJ.next ?_)
      refine CJ.seq ?_
      refine CJ.seq ?_
      refine CJ.region ?_
      refine OJ.pures tU_ok 1 rfl ?_
      refine OJ.nil (EJ.next ?_)
      obtain ⟨j24, H, K24⟩ := pbind H
      refine CJ.cut1 (fun F w1 => ∃ (y7 : List Int) , (some y7 : Option (List Int)) = some j24 ∧ F = [(1, .slice Aa1 a1.length ca1), (2, .pointer (some ⟨b1, 0, none⟩)), (6, .slice A6 y7.length ((a1.length : Int).toNat))] ∧ St w no w1 [box b1 ([.slice Aa0_0 a0.Names.length ca0_0, .slice Aa0_1 a0.Eats.length ca0_1, .slice Aa0_2 a0.Foes.length ca0_2]) 29, rowC (ci .i64) A6 ((a1.length : Int).toNat) 2 y7] [roC G.cs Aa0_0 ca0_0 a0.Names, roC (ci .i16) Aa0_1 ca0_1 a0.Eats, roC (ci .u16) Aa0_2 ca0_2 a0.Foes, roC (ci .i64) Aa1 ca1 a1]) ?_ ?_
      · skip
        refine CJ.block ?_
        refine CJ.loop (fun k F w1 => ∃ (y8 : List Int) (y9 : Int), F = [(1, .slice Aa1 a1.length ca1), (2, .pointer (some ⟨b1, 0, none⟩)), (6, .slice A6 y8.length ((a1.length : Int).toNat)), (7, .int .i64 y9)] ∧ St w no w1 [box b1 ([.slice Aa0_0 a0.Names.length ca0_0, .slice Aa0_1 a0.Eats.length ca0_1, .slice Aa0_2 a0.Foes.length ca0_2]) 29, rowC (ci .i64) A6 ((a1.length : Int).toNat) 2 y8] [roC G.cs Aa0_0 ca0_0 a0.Names, roC (ci .i16) Aa0_1 ca0_1 a0.Eats, roC (ci .u16) Aa0_2 ca0_2 a0.Foes, roC (ci .i64) Aa1 ca1 a1] ∧ spec_GreedyGroups.l1 k y8 y9 = some j24) k (F' := [(1, .slice Aa1 a1.length ca1), (2, .pointer (some ⟨b1, 0, none⟩)), (6, .slice A6 (List.replicate ((a1.length : Int).toNat) 0 : List Int).length ((a1.length : Int).toNat)), (7, .int .i64 0)]) ⟨rfl, rfl, rfl, rfl, trivial⟩ ⟨(List.replicate ((a1.length : Int).toNat) 0 : List Int), 0, rfl, hS.pick [0, 1] [0, 1, 2, 3] rfl, H⟩ ?_
        rintro k F w1 ⟨y8, y9, rfl, hS, H⟩
        cases k with
        | zero => rw [spec_GreedyGroups.l1] at H; cases H
        | succ k =>
          rw [spec_GreedyGroups.l1] at H
          refine CJ.seq ?_
          refine CJ.seq ?_
          refine CJ.region ?_
          refine OJ.pures tU_ok 4 rfl ?_
          refine OJ.nil (EJ.next ?_)
          refine CJ.cond rfl (fun hb => ?_) (fun hb => ?_)
          · replace H := pif_t (of_decide_eq_true hb) H
            refine CJ.skip (EJ.next ?_)
            refine CJ.seq ?_
            refine CJ.block ?_
            refine CJ.region ?_
            refine OJ.pures tU_ok 2 rfl ?_
            obtain ⟨t10, ht10, H⟩ := pbind H
            obtain ⟨ad10, e10⟩ := (hS.rd (i := 1) rfl).some' ht10
            refine OJ.st rfl rfl rfl (SR.idxS tU_ok tI_ok rfl rfl rfl rfl e10 rfl (getI_some ht10).1) ?_
            refine OJ.es rfl rfl (Es.storeR tI_ok hS (i := 1) (off := 0) rfl rfl ht10 e10 rfl rfl rfl rfl (vs := (ci .i64).enc (-1)) rfl rfl (one1 rfl) (Nat.le_of_ble_eq_true rfl) (-1) rfl) ?_
            intro w1 hS
            refine OJ.as (t := 6) rfl (show _ = (.slice A6 (y8.set y9.toNat (-1)).length ((a1.length : Int).toNat) : Value) by simp only [List.length_set]) ?_
            refine OJ.as (t := 23) rfl (show _ = (.slice A6 (y8.set y9.toNat (-1)).length ((a1.length : Int).toNat) : Value) by simp only [List.length_set]) ?_
            refine OJ.as (t := 28) rfl (show _ = (.slice A6 (y8.set y9.toNat (-1)).length ((a1.length : Int).toNat) : Value) by simp only [List.length_set]) ?_
            refine OJ.nil (EJ.blk (EJ.next ?_))
            refine CJ.region ?_
            refine OJ.pures tU_ok 3 rfl ?_
            refine OJ.nil ?_
            exact EJ.round k (F' := [(1, .slice Aa1 a1.length ca1), (2, .pointer (some ⟨b1, 0, none⟩)), (6, .slice A6 (y8.set y9.toNat (-1)).length ((a1.length : Int).toNat)), (7, .int .i64 (IntKind.i64.wrap (y9 + 1)))]) ⟨rfl, rfl, rfl, rfl, trivial⟩ (Nat.lt_succ_self _) ⟨(y8.set y9.toNat (-1)), (IntKind.i64.wrap (y9 + 1)), rfl, hS.pick [0, 1] [0, 1, 2, 3] rfl, H⟩
          · replace H := pif_f (of_decide_eq_false hb) H
            refine CJ.exit (EJ.skE (EJ.skE (EJ.hit (?_))))
            exact EJ.meet (F' := [(1, .slice Aa1 a1.length ca1), (2, .pointer (some ⟨b1, 0, none⟩)), (6, .slice A6 y8.length ((a1.length : Int).toNat))]) ⟨rfl, rfl, rfl, trivial⟩ ⟨y8, H, rfl, hS.pick [0, 1] [0, 1, 2, 3] rfl⟩
      · rintro F w1 ⟨y7, he, rfl, hS⟩
        obtain rfl := Option.some.inj he
        have H := K24
        refine EJ.next ?_
        refine CJ.seq ?_
        refine CJ.seq ?_
        refine CJ.region ?_
        refine OJ.pures tU_ok 1 rfl ?_
        refine OJ.nil (EJ.next ?_)
        obtain ⟨j25, H, K25⟩ := pbind H
        refine CJ.cut1 (fun F w1 => ∃ (y11 : List Int) , (some (Sum.inr y11) : Option ((List Int × Int) ⊕ (List Int))) = some j25 ∧ F = [(6, .slice A6 y11.length ((a1.length : Int).toNat))] ∧ St w no w1 [rowC (ci .i64) A6 ((a1.length : Int).toNat) 2 y11] [roC G.cs Aa0_0 ca0_0 a0.Names, roC (ci .i16) Aa0_1 ca0_1 a0.Eats, roC (ci .u16) Aa0_2 ca0_2 a0.Foes, roC (ci .i64) Aa1 ca1 a1]) ?_ ?_
        · skip
          refine CJ.block ?_
          refine CJ.loop (fun k F w1 => ∃ (y12 : List Int) (y13 : Int), F = [(1, .slice Aa1 a1.length ca1), (2, .pointer (some ⟨b1, 0, none⟩)), (6, .slice A6 y12.length ((a1.length : Int).toNat)), (8, .int .i64 y13)] ∧ St w no w1 [box b1 ([.slice Aa0_0 a0.Names.length ca0_0, .slice Aa0_1 a0.Eats.length ca0_1, .slice Aa0_2 a0.Foes.length ca0_2]) 29, rowC (ci .i64) A6 ((a1.length : Int).toNat) 2 y12] [roC G.cs Aa0_0 ca0_0 a0.Names, roC (ci .i16) Aa0_1 ca0_1 a0.Eats, roC (ci .u16) Aa0_2 ca0_2 a0.Foes, roC (ci .i64) Aa1 ca1 a1] ∧ spec_GreedyGroups.l2 a0 a1 k y12 y13 = some j25) k (F' := [(1, .slice Aa1 a1.length ca1), (2, .pointer (some ⟨b1, 0, none⟩)), (6, .slice A6 y7.length ((a1.length : Int).toNat)), (8, .int .i64 0)]) ⟨rfl, rfl, rfl, rfl, trivial⟩ ⟨y7, 0, rfl, hS.pick [0, 1] [0, 1, 2, 3] rfl, H⟩ ?_
          rintro k F w1 ⟨y12, y13, rfl, hS, H⟩
          cases k with
          | zero => rw [spec_GreedyGroups.l2] at H; cases H
          | succ k =>
            rw [spec_GreedyGroups.l2] at H
            refine CJ.seq ?_
            refine CJ.seq ?_
            refine CJ.region ?_
            refine OJ.pures tU_ok 4 rfl ?_
            refine OJ.nil (EJ.next ?_)
            refine CJ.cond rfl (fun hb => ?_) (fun hb => ?_)
            · replace H := pif_t (of_decide_eq_true hb) H
              refine CJ.skip (EJ.next ?_)
              refine CJ.seq ?_
              refine CJ.block ?_
              refine CJ.seq ?_
              obtain ⟨j38, H, K38⟩ := pbind H
              refine CJ.cut (fun F w1 => ∃ (y14 : Bool) , (some y14 : Option Bool) = some j38 ∧ F = [(1, .slice Aa1 a1.length ca1), (2, .pointer (some ⟨b1, 0, none⟩)), (6, .slice A6 y12.length ((a1.length : Int).toNat)), (8, .int .i64 y13), (55, .bool y14)] ∧ St w no w1 [box b1 ([.slice Aa0_0 a0.Names.length ca0_0, .slice Aa0_1 a0.Eats.length ca0_1, .slice Aa0_2 a0.Foes.length ca0_2]) 29, rowC (ci .i64) A6 ((a1.length : Int).toNat) 2 y12] [roC G.cs Aa0_0 ca0_0 a0.Names, roC (ci .i16) Aa0_1 ca0_1 a0.Eats, roC (ci .u16) Aa0_2 ca0_2 a0.Foes, roC (ci .i64) Aa1 ca1 a1]) ?_ ?_
              · skip
                refine CJ.region ?_
                refine OJ.pures tU_ok 2 rfl ?_
                obtain ⟨t15, ht15, H⟩ := pbind H
                obtain ⟨ad15, e15⟩ := (hS.rd' (i := 3) rfl).some' ht15
                refine OJ.st rfl rfl rfl (SR.idxS tU_ok tI_ok rfl rfl rfl rfl e15 rfl (getI_some ht15).1) ?_
                refine OJ.st rfl rfl rfl (SR.load rfl rfl (fun w' hx => ld1 tU_ok rfl rfl (CA.ext ((hS.rd' (i := 3) rfl).at_ e15 ht15) hx) rfl)) ?_
                refine OJ.pures tU_ok 3 rfl ?_
                obtain ⟨t16, ht16, H⟩ := pbind H
                refine OJ.callF rfl rfl rfl rfl rfl hb49 rfl (spec_l00In.c _ t15 0 (IntKind.i64.wrap ((a1.length : Int) - 1)) _ ht16) ?_
                rintro _ w1 ⟨rfl, hs⟩
                replace hS := hS.grow hs
                refine OJ.pures tU_ok 2 rfl ?_
                refine OJ.split (t := 46) rfl (fun hb => ?_) (fun hb => ?_)
                · replace H := pif_t hb H
                  refine OJ.pures tU_ok 9 rfl ?_
                  refine OJ.nil ?_
                  exact EJ.meet (F' := [(1, .slice Aa1 a1.length ca1), (2, .pointer (some ⟨b1, 0, none⟩)), (6, .slice A6 y12.length ((a1.length : Int).toNat)), (8, .int .i64 y13), (55, .bool true)]) ⟨rfl, rfl, rfl, rfl, rfl, trivial⟩ ⟨true, H, rfl, hS.pick [0, 1] [0, 1, 2, 3] rfl⟩
                · replace H := pifb_f hb H
                  refine OJ.pures tU_ok 3 rfl ?_
                  obtain ⟨t17, ht17, H⟩ := pbind H
                  obtain ⟨ad17, e17⟩ := (hS.rd' (i := 3) rfl).some' ht17
                  refine OJ.st rfl rfl rfl (SR.idxS tU_ok tI_ok rfl rfl rfl rfl e17 rfl (getI_some ht17).1) ?_
                  refine OJ.st rfl rfl rfl (SR.load rfl rfl (fun w' hx => ld1 tU_ok rfl rfl (CA.ext ((hS.rd' (i := 3) rfl).at_ e17 ht17) hx) rfl)) ?_
                  obtain ⟨t18, ht18, H⟩ := pbind H
                  obtain ⟨ad18, e18⟩ := (hS.rd (i := 1) rfl).some' ht18
                  refine OJ.st rfl rfl rfl (SR.idxS tU_ok tI_ok rfl rfl rfl rfl e18 rfl (getI_some ht18).1) ?_
                  refine OJ.st rfl rfl rfl (SR.load rfl rfl (fun w' hx => ld1 tU_ok rfl rfl (CA.ext ((hS.rd (i := 1) rfl).at_ e18 ht18) hx) rfl)) ?_
                  refine OJ.pures tU_ok 2 rfl ?_
                  refine OJ.nil ?_
                  exact EJ.meet (F' := [(1, .slice Aa1 a1.length ca1), (2, .pointer (some ⟨b1, 0, none⟩)), (6, .slice A6 y12.length ((a1.length : Int).toNat)), (8, .int .i64 y13), (55, .bool (decide (0 ≤ t18)))]) ⟨rfl, rfl, rfl, rfl, rfl, trivial⟩ ⟨(decide (0 ≤ t18)), H, rfl, hS.pick [0, 1] [0, 1, 2, 3] rfl⟩
              · rintro F w1 ⟨y14, he, rfl, hS⟩
                obtain rfl := Option.some.inj he
                have H := K38
                refine CJ.cond rfl (fun hb => ?_) (fun hb => ?_)
                · replace H := pif_t hb H
                  refine CJ.seq ?_
                  refine CJ.region ?_
                  refine OJ.ef rfl rfl rfl (Ef.lit tU_ok tI_ok hS (C := (ci .i64)) rfl rfl rfl rfl rfl rfl ([] : List Int) rfl rfl rfl rfl) ?_
                  rintro _ w1 ⟨A19, rfl, hS⟩
                  refine OJ.pures tU_ok 2 rfl ?_
                  refine OJ.nil (EJ.next ?_)
                  refine CJ.ret (EJ.skR (EJ.bkR (EJ.skR (EJ.skR (EJ.bkR (EJ.skR (EJ.skR (?_))))))))
                  first | (obtain rfl := Option.some.inj H; have H := K25) | (obtain ⟨q25, H2, e25⟩ := pbind H; obtain rfl := Option.some.inj e25; obtain rfl := Option.some.inj K25; have H := H2)
                  obtain rfl := Option.some.inj H
                  exact EJ.fin rfl (.tmp rfl (.tmp rfl .nil)) ⟨A19, (([] : List Int).length), rfl, hS.pick [2] [] rfl⟩
                · replace H := pifb_f hb H
                  refine CJ.skip (EJ.next ?_)
                  refine CJ.draw [] [0, 1, 2, 3, 4, 5, 6, 7, 8, 9, 10, 11, 12] mixed (by kernel_rfl) hS fun w1 hS => ?_
                  refine DJ.pures tU_ok 3 rfl ?_
                  obtain ⟨t20, ht20, H⟩ := pbind H
                  obtain ⟨ad20, e20⟩ := (hS.rd' (i := 3) rfl).some' ht20
                  refine DJ.st rfl rfl rfl rfl rfl (SR.idxS tU_ok tI_ok rfl rfl rfl rfl e20 rfl (getI_some ht20).1) ?_
                  refine DJ.st rfl rfl rfl rfl rfl (SR.load rfl rfl (fun w' hx => ld1 tU_ok rfl rfl (CA.ext ((hS.rd' (i := 3) rfl).at_ e20 ht20) hx) rfl)) ?_
                  refine DJ.pures tU_ok 3 rfl ?_
                  obtain ⟨t21, ht21, H⟩ := pbind H
                  obtain ⟨ad21, e21⟩ := (hS.rd' (i := 3) rfl).some' ht21
                  refine DJ.st rfl rfl rfl rfl rfl (SR.idxS tU_ok tI_ok rfl rfl rfl rfl e21 rfl (getI_some ht21).1) ?_
                  refine DJ.st rfl rfl rfl rfl rfl (SR.load rfl rfl (fun w' hx => ld1 tU_ok rfl rfl (CA.ext ((hS.rd' (i := 3) rfl).at_ e21 ht21) hx) rfl)) ?_
                  obtain ⟨t22, ht22, H⟩ := pbind H
                  refine DJ.callF rfl rfl rfl rfl rfl rfl rfl hb50 rfl (spec_l06Least.c k _ Aa0_0 ca0_0 Aa0_1 ca0_1 Aa0_2 ca0_2 a0 (hS.rd' (i := 0) rfl) (hS.le' (i := 0) rfl) (hS.rd' (i := 1) rfl) (hS.le' (i := 1) rfl) (hS.rd' (i := 2) rfl) (hS.le' (i := 2) rfl) ⟨b1, 0, none⟩ (hS.cells (i := 0) rfl) A6 ((a1.length : Int).toNat) y12 (hS.rd (i := 1) rfl) (hS.le (i := 1) rfl) t21 _ ht22) (by rintro v w' ⟨rfl, hs⟩; exact hs) ?_
                  rintro _ w1 ⟨rfl, hs⟩
                  replace hS := hS.grow hs
                  obtain ⟨t23, ht23, H⟩ := pbind H
                  obtain ⟨ad23, e23⟩ := (hS.rd (i := 1) rfl).some' ht23
                  refine DJ.st rfl rfl rfl rfl rfl (SR.idxS tU_ok tI_ok rfl rfl rfl rfl e23 rfl (getI_some ht23).1) ?_
                  refine DJ.es rfl rfl rfl rfl (Es.storeR tI_ok hS (i := 1) (off := 0) rfl rfl ht23 e23 rfl rfl rfl rfl (vs := (ci .i64).enc t22) rfl rfl (one1 rfl) (Nat.le_of_ble_eq_true rfl) t22 rfl) ?_
                  intro w1 hS
                  refine DJ.as (t := 6) rfl (show _ = (.slice A6 (y12.set t20.toNat t22).length ((a1.length : Int).toNat) : Value) by simp only [List.length_set]) ?_
                  refine DJ.as (t := 57) rfl (show _ = (.slice A6 (y12.set t20.toNat t22).length ((a1.length : Int).toNat) : Value) by simp only [List.length_set]) ?_
                  refine DJ.as (t := 62) rfl (show _ = (.slice A6 (y12.set t20.toNat t22).length ((a1.length : Int).toNat) : Value) by simp only [List.length_set]) ?_
                  refine DJ.nil (EJ.blk (EJ.next ?_))
                  refine CJ.region ?_
                  refine OJ.pures tU_ok 3 rfl ?_
                  refine OJ.nil ?_
                  exact EJ.round k (F' := [(1, .slice Aa1 a1.length ca1), (2, .pointer (some ⟨b1, 0, none⟩)), (6, .slice A6 (y12.set t20.toNat t22).length ((a1.length : Int).toNat)), (8, .int .i64 (IntKind.i64.wrap (y13 + 1)))]) ⟨rfl, rfl, rfl, rfl, trivial⟩ (Nat.lt_succ_self _) ⟨(y12.set t20.toNat t22), (IntKind.i64.wrap (y13 + 1)), rfl, hS.pick [0, 1] [0, 1, 2, 3] rfl, H⟩
            · replace H := pif_f (of_decide_eq_false hb) H
              refine CJ.exit (EJ.skE (EJ.skE (EJ.hit (?_))))
              exact EJ.meet (F' := [(6, .slice A6 y12.length ((a1.length : Int).toNat))]) ⟨rfl, trivial⟩ ⟨y12, H, rfl, hS.pick [1] [0, 1, 2, 3] rfl⟩
        · rintro F w1 ⟨y11, he, rfl, hS⟩
          obtain rfl := Option.some.inj he
          have H := K25
          refine EJ.next ?_
          refine CJ.seq ?_
          refine CJ.region ?_
          refine OJ.pures tU_ok 3 rfl ?_
          refine OJ.nil (EJ.next ?_)
          refine CJ.ret (?_)
          obtain rfl := Option.some.inj H
          exact EJ.fin rfl (.tmp rfl (.tmp rfl .nil)) ⟨A6, ((a1.length : Int).toNat), rfl, hS.pick [0] [] rfl⟩

def impl_within.f (a0 : Int) (a1 : Int) (a2 : Int) : Option Bool := if a1 ≤ a0 then (some (decide (a0 ≤ a2))) else (some false)
theorem impl_within.c (w : World) (a0 : Int) (a1 : Int) (a2 : Int) (r : Bool) (H : impl_within.f a0 a1 a2 = some r) :
    CV Tryd.prog 63 [.int .i64 a0, .int .i64 a1, .int .i64 a2].toArray w fun v w' => v = .bool r ∧ Ext w w' := by
  have hS := (St.init w no)
  unfold impl_within.f at H
  refine CV.body Tryd.func63 rfl Tryd.ntmps63 rfl ?_
  refine CJ.seq ?_
  refine CJ.region ?_
  refine OJ.pures tU_ok 1 rfl ?_
  refine OJ.nil (EJ.next ?_)
  refine CJ.seq ?_
  refine CJ.region ?_
  refine OJ.pures tU_ok 4 rfl ?_
  refine OJ.split (t := 10) rfl (fun hb => ?_) (fun hb => ?_)
  · replace H := pif_t (of_decide_eq_true hb) H
    refine OJ.pures tU_ok 5 rfl ?_
    refine OJ.nil (EJ.next ?_)
    refine CJ.ret (?_)
    obtain rfl := Option.some.inj H
    exact EJ.fin rfl (.tmp rfl .nil) ⟨rfl, hS.ext⟩
  · replace H := pif_f (of_decide_eq_false hb) H
    refine OJ.pures tU_ok 5 rfl ?_
    refine OJ.nil (EJ.next ?_)
    refine CJ.ret (?_)
    obtain rfl := Option.some.inj H
    exact EJ.fin rfl (.tmp rfl .nil) ⟨rfl, hS.ext⟩

def strings_trimRightByte.l1 (a1 : Int) : Nat → ByteArray → Option ByteArray
  | 0, _ => none
  | k + 1, y2 => if 0 < (y2.size : Int) then ((getB y2 (IntKind.i64.wrap ((y2.size : Int) - 1))).bind fun t3 => if t3 = a1 then ((chk ((0 : Int) ≤ 0 ∧ 0 ≤ (IntKind.i64.wrap ((y2.size : Int) - 1)) ∧ (IntKind.i64.wrap ((y2.size : Int) - 1)) ≤ (y2.size : Int))).bind fun u4 => strings_trimRightByte.l1 a1 k (y2.extract 0 ((IntKind.i64.wrap ((y2.size : Int) - 1)).toNat))) else (some y2)) else (some y2)
def strings_trimRightByte.f (k : Nat) (a0 : ByteArray) (a1 : Int) : Option ByteArray := (strings_trimRightByte.l1 a1 k a0).bind fun y1 => some y1
theorem strings_trimRightByte.c (k : Nat) (w : World) (a0 : ByteArray) (a1 : Int) (r : ByteArray) (H : strings_trimRightByte.f k a0 a1 = some r) :
    CV Tryd.prog 114 [.string a0, .int .u8 a1].toArray w fun v w' => v = .string r ∧ Ext w w' := by
  have hS := (St.init w no)
  unfold strings_trimRightByte.f at H
  refine CV.body Tryd.func114 rfl Tryd.ntmps114 rfl ?_
  refine CJ.seq ?_
  refine CJ.region ?_
  refine OJ.pures tU_ok 1 rfl ?_
  refine OJ.nil (EJ.next ?_)
  obtain ⟨j45, H, K45⟩ := pbind H
  refine CJ.cut (fun F w1 => ∃ (y1 : ByteArray) , (some y1 : Option ByteArray) = some j45 ∧ F = [(0, .string y1)] ∧ St w no w1 [] []) ?_ ?_
  · skip
    refine CJ.block ?_
    refine CJ.loop (fun k F w1 => ∃ (y2 : ByteArray), F = [(0, .string y2), (1, .int .u8 a1)] ∧ St w no w1 [] [] ∧ strings_trimRightByte.l1 a1 k y2 = some j45) k (F' := [(0, .string a0), (1, .int .u8 a1)]) ⟨rfl, rfl, trivial⟩ ⟨a0, rfl, hS.pick [] [] rfl, H⟩ ?_
    rintro k F w1 ⟨y2, rfl, hS, H⟩
    cases k with
    | zero => rw [strings_trimRightByte.l1] at H; cases H
    | succ k =>
      rw [strings_trimRightByte.l1] at H
      refine CJ.seq ?_
      refine CJ.seq ?_
      refine CJ.region ?_
      refine OJ.pures tU_ok 4 rfl ?_
      refine OJ.split (t := 8) rfl (fun hb => ?_) (fun hb => ?_)
      · replace H := pif_t (of_decide_eq_true hb) H
        refine OJ.pures tU_ok 4 rfl ?_
        obtain ⟨t3, ht3, H⟩ := pbind H
        refine OJ.st rfl rfl rfl (SR.idxStr tU_ok rfl rfl rfl rfl ht3) ?_
        refine OJ.pures tU_ok 3 rfl ?_
        refine OJ.nil (EJ.next ?_)
        refine CJ.cond rfl (fun hb => ?_) (fun hb => ?_)
        · replace H := pif_t (of_decide_eq_true hb) H
          refine CJ.skip (EJ.next ?_)
          refine CJ.block ?_
          refine CJ.region ?_
          refine OJ.pures tU_ok 4 rfl ?_
          obtain ⟨u4, hu4, H⟩ := pbind H
          refine OJ.st rfl rfl rfl (SR.cutStr tU_ok (0) ((IntKind.i64.wrap ((y2.size : Int) - 1)).toNat) rfl rfl rfl rfl rfl (.inl ⟨rfl, rfl⟩) (.inr ⟨_, _, rfl, (by have := (chk_some hu4); omega), rfl⟩) (by have := (chk_some hu4); omega) (by have := (chk_some hu4); omega)) ?_
          refine OJ.pures tU_ok 1 rfl ?_
          refine OJ.nil (EJ.blk (?_))
          exact EJ.round k (F' := [(0, .string (y2.extract 0 ((IntKind.i64.wrap ((y2.size : Int) - 1)).toNat))), (1, .int .u8 a1)]) ⟨rfl, rfl, trivial⟩ (Nat.lt_succ_self _) ⟨(y2.extract 0 ((IntKind.i64.wrap ((y2.size : Int) - 1)).toNat)), rfl, hS.pick [] [] rfl, H⟩
        · replace H := pif_f (of_decide_eq_false hb) H
          refine CJ.exit (EJ.skE (EJ.skE (EJ.hit (?_))))
          exact EJ.meet (F' := [(0, .string y2)]) ⟨rfl, trivial⟩ ⟨y2, H, rfl, hS.pick [] [] rfl⟩
      · replace H := pif_f (of_decide_eq_false hb) H
        refine OJ.pures tU_ok 8 rfl ?_
        refine OJ.nil (EJ.next ?_)
        refine CJ.condF rfl ?_
        refine CJ.exit (EJ.skE (EJ.skE (EJ.hit (?_))))
        exact EJ.meet (F' := [(0, .string y2)]) ⟨rfl, trivial⟩ ⟨y2, H, rfl, hS.pick [] [] rfl⟩
  · rintro F w1 ⟨y1, he, rfl, hS⟩
    obtain rfl := Option.some.inj he
    have H := K45
    refine CJ.seq ?_
    refine CJ.region ?_
    refine OJ.pures tU_ok 2 rfl ?_
    refine OJ.nil (EJ.next ?_)
    refine CJ.ret (?_)
    obtain rfl := Option.some.inj H
    exact EJ.fin rfl (.tmp rfl .nil) ⟨rfl, hS.ext⟩

def strings_trimLeftByte.l1 (a1 : Int) : Nat → ByteArray → Option ByteArray
  | 0, _ => none
  | k + 1, y2 => if 0 < (y2.size : Int) then ((getB y2 0).bind fun t3 => if t3 = a1 then ((chk ((0 : Int) ≤ 1 ∧ 1 ≤ (y2.size : Int) ∧ (y2.size : Int) ≤ (y2.size : Int))).bind fun u4 => strings_trimLeftByte.l1 a1 k (y2.extract ((1 : Int).toNat) y2.size)) else (some y2)) else (some y2)
def strings_trimLeftByte.f (k : Nat) (a0 : ByteArray) (a1 : Int) : Option ByteArray := (strings_trimLeftByte.l1 a1 k a0).bind fun y1 => some y1
theorem strings_trimLeftByte.c (k : Nat) (w : World) (a0 : ByteArray) (a1 : Int) (r : ByteArray) (H : strings_trimLeftByte.f k a0 a1 = some r) :
    CV Tryd.prog 113 [.string a0, .int .u8 a1].toArray w fun v w' => v = .string r ∧ Ext w w' := by
  have hS := (St.init w no)
  unfold strings_trimLeftByte.f at H
  refine CV.body Tryd.func113 rfl Tryd.ntmps113 rfl ?_
  refine CJ.seq ?_
  refine CJ.region ?_
  refine OJ.pures tU_ok 1 rfl ?_
  refine OJ.nil (EJ.next ?_)
  obtain ⟨j46, H, K46⟩ := pbind H
  refine CJ.cut (fun F w1 => ∃ (y1 : ByteArray) , (some y1 : Option ByteArray) = some j46 ∧ F = [(0, .string y1)] ∧ St w no w1 [] []) ?_ ?_
  · skip
    refine CJ.block ?_
    refine CJ.loop (fun k F w1 => ∃ (y2 : ByteArray), F = [(0, .string y2), (1, .int .u8 a1)] ∧ St w no w1 [] [] ∧ strings_trimLeftByte.l1 a1 k y2 = some j46) k (F' := [(0, .string a0), (1, .int .u8 a1)]) ⟨rfl, rfl, trivial⟩ ⟨a0, rfl, hS.pick [] [] rfl, H⟩ ?_
    rintro k F w1 ⟨y2, rfl, hS, H⟩
    cases k with
    | zero => rw [strings_trimLeftByte.l1] at H; cases H
    | succ k =>
      rw [strings_trimLeftByte.l1] at H
      refine CJ.seq ?_
      refine CJ.seq ?_
      refine CJ.region ?_
      refine OJ.pures tU_ok 4 rfl ?_
      refine OJ.split (t := 8) rfl (fun hb => ?_) (fun hb => ?_)
      · replace H := pif_t (of_decide_eq_true hb) H
        refine OJ.pures tU_ok 1 rfl ?_
        obtain ⟨t3, ht3, H⟩ := pbind H
        refine OJ.st rfl rfl rfl (SR.idxStr tU_ok rfl rfl rfl rfl ht3) ?_
        refine OJ.pures tU_ok 3 rfl ?_
        refine OJ.nil (EJ.next ?_)
        refine CJ.cond rfl (fun hb => ?_) (fun hb => ?_)
        · replace H := pif_t (of_decide_eq_true hb) H
          refine CJ.skip (EJ.next ?_)
          refine CJ.block ?_
          refine CJ.region ?_
          refine OJ.pures tU_ok 1 rfl ?_
          obtain ⟨u4, hu4, H⟩ := pbind H
          refine OJ.st rfl rfl rfl (SR.cutStr tU_ok ((1 : Int).toNat) (y2.size) rfl rfl rfl rfl rfl (.inr ⟨_, _, rfl, (chk_some hu4).1, rfl⟩) (.inl ⟨rfl, rfl⟩) (by have := (chk_some hu4); omega) (by have := (chk_some hu4); omega)) ?_
          refine OJ.pures tU_ok 1 rfl ?_
          refine OJ.nil (EJ.blk (?_))
          exact EJ.round k (F' := [(0, .string (y2.extract ((1 : Int).toNat) y2.size)), (1, .int .u8 a1)]) ⟨rfl, rfl, trivial⟩ (Nat.lt_succ_self _) ⟨(y2.extract ((1 : Int).toNat) y2.size), rfl, hS.pick [] [] rfl, H⟩
        · replace H := pif_f (of_decide_eq_false hb) H
          refine CJ.exit (EJ.skE (EJ.skE (EJ.hit (?_))))
          exact EJ.meet (F' := [(0, .string y2)]) ⟨rfl, trivial⟩ ⟨y2, H, rfl, hS.pick [] [] rfl⟩
      · replace H := pif_f (of_decide_eq_false hb) H
        refine OJ.pures tU_ok 5 rfl ?_
        refine OJ.nil (EJ.next ?_)
        refine CJ.condF rfl ?_
        refine CJ.exit (EJ.skE (EJ.skE (EJ.hit (?_))))
        exact EJ.meet (F' := [(0, .string y2)]) ⟨rfl, trivial⟩ ⟨y2, H, rfl, hS.pick [] [] rfl⟩
  · rintro F w1 ⟨y1, he, rfl, hS⟩
    obtain rfl := Option.some.inj he
    have H := K46
    refine CJ.seq ?_
    refine CJ.region ?_
    refine OJ.pures tU_ok 2 rfl ?_
    refine OJ.nil (EJ.next ?_)
    refine CJ.ret (?_)
    obtain rfl := Option.some.inj H
    exact EJ.fin rfl (.tmp rfl .nil) ⟨rfl, hS.ext⟩

def strings_makeASCIISet.l1 (a0 : ByteArray) : Nat → (Arr 256 Bool) → Int → Option ((Arr 256 Bool × Bool) ⊕ (Arr 256 Bool))
  | 0, _, _ => none
  | k + 1, y3, y4 => if y4 < (a0.size : Int) then ((getB a0 y4).bind fun t5 => if 128 ≤ t5 then (some (Sum.inl (y3, false))) else ((getI y3.l t5).bind fun t6 => strings_makeASCIISet.l1 a0 k (aset y3 t5.toNat true) (IntKind.i64.wrap (y4 + 1)))) else (some (Sum.inr y3))
def strings_makeASCIISet.f (k : Nat) (a0 : ByteArray) : Option (Arr 256 Bool × Bool) := (strings_makeASCIISet.l1 a0 k (Arr.mk' false : Arr 256 Bool) 0).bind fun s47 => match s47 with | .inl r => some r | .inr y2 => some (y2, true)
theorem strings_makeASCIISet.c (k : Nat) (w : World) (a0 : ByteArray) (r : Arr 256 Bool × Bool) (H : strings_makeASCIISet.f k a0 = some r) :
    CV Tryd.prog 115 [.string a0].toArray w fun v w' => v = .tuple #[.agg ((carr 256 cb).enc r.1).toArray, .bool r.2] ∧ Ext w w' := by
  have hS := (St.init w no)
  unfold strings_makeASCIISet.f at H
  refine CV.body Tryd.func115 rfl Tryd.ntmps115 rfl ?_
  refine CJ.seq ?_
  refine CJ.region ?_
  refine OJ.ef rfl rfl rfl (Ef.alloc hS tI_ok rfl rfl ((carr 256 cb).enc (Arr.mk' false : Arr 256 Bool)) (by kernel_rfl)) ?_
  rintro _ w1 ⟨b1, rfl, hS⟩
  refine OJ.pures tU_ok 1 rfl ?_
  refine OJ.nil (EJ.next ?_)
  refine CJ.seq ?_
  refine CJ.seq ?_
  refine CJ.region ?_
  refine OJ.pures tU_ok 1 rfl ?_
  refine OJ.nil (EJ.next ?_)
  obtain ⟨j47, H, K47⟩ := pbind H
  refine CJ.cut1 (fun F w1 => ∃ (y2 : Arr 256 Bool) , (some (Sum.inr y2) : Option ((Arr 256 Bool × Bool) ⊕ (Arr 256 Bool))) = some j47 ∧ F = [(2, .pointer (some ⟨b1, 0, none⟩))] ∧ St w no w1 [box b1 ((carr 256 cb).enc y2) 132] []) ?_ ?_
  · skip
    refine CJ.block ?_
    refine CJ.loop (fun k F w1 => ∃ (y3 : Arr 256 Bool) (y4 : Int), F = [(0, .string a0), (2, .pointer (some ⟨b1, 0, none⟩)), (4, .int .i64 y4)] ∧ St w no w1 [box b1 ((carr 256 cb).enc y3) 132] [] ∧ strings_makeASCIISet.l1 a0 k y3 y4 = some j47) k (F' := [(0, .string a0), (2, .pointer (some ⟨b1, 0, none⟩)), (4, .int .i64 0)]) ⟨rfl, rfl, rfl, trivial⟩ ⟨(Arr.mk' false : Arr 256 Bool), 0, rfl, hS.pick [0] [] rfl, H⟩ ?_
    rintro k F w1 ⟨y3, y4, rfl, hS, H⟩
    cases k with
    | zero => rw [strings_makeASCIISet.l1] at H; cases H
    | succ k =>
      rw [strings_makeASCIISet.l1] at H
      refine CJ.seq ?_
      refine CJ.seq ?_
      refine CJ.region ?_
      refine OJ.pures tU_ok 4 rfl ?_
      refine OJ.nil (EJ.next ?_)
      refine CJ.cond rfl (fun hb => ?_) (fun hb => ?_)
      · replace H := pif_t (of_decide_eq_true hb) H
        refine CJ.skip (EJ.next ?_)
        refine CJ.seq ?_
        refine CJ.block ?_
        refine CJ.seq ?_
        refine CJ.region ?_
        refine OJ.pures tU_ok 2 rfl ?_
        obtain ⟨t5, ht5, H⟩ := pbind H
        refine OJ.st rfl rfl rfl (SR.idxStr tU_ok rfl rfl rfl rfl ht5) ?_
        refine OJ.pures tU_ok 1 rfl ?_
        refine OJ.nil (EJ.next ?_)
        refine CJ.seq ?_
        refine CJ.seq ?_
        refine CJ.region ?_
        refine OJ.pures tU_ok 2 rfl ?_
        refine OJ.nil (EJ.next ?_)
        refine CJ.cond rfl (fun hb => ?_) (fun hb => ?_)
        · replace H := pif_t (of_decide_eq_true hb) H
          refine CJ.seq ?_
          refine CJ.region ?_
          refine OJ.st rfl rfl rfl (SR.load rfl rfl (fun w' hx => ldE tU_ok tI_ok rfl rfl rfl (CA.ext (hS.cells (i := 0) rfl) hx) rfl)) ?_
          refine OJ.es rfl rfl (Es.put tI_ok hS (i := 0) rfl rfl rfl rfl rfl (vs := (carr 256 cb).enc y3) rfl ((carr 256 cb).len _) ((carr 256 cb).one _) (Put.all (carr 256 cb) y3 y3) (by (try simp only [add_lit, Nat.add_assoc, Nat.zero_add, Nat.add_zero]) <;> rfl)) ?_
          intro w1 hS
          refine OJ.pures tU_ok 1 rfl ?_
          refine OJ.nil (EJ.next ?_)
          refine CJ.ret (EJ.skR (EJ.bkR (EJ.skR (EJ.skR (EJ.bkR (EJ.skR (EJ.skR (?_))))))))
          first | (obtain rfl := Option.some.inj H; have H := K47) | (obtain ⟨q47, H2, e47⟩ := pbind H; obtain rfl := Option.some.inj e47; obtain rfl := Option.some.inj K47; have H := H2)
          obtain rfl := Option.some.inj H
          exact EJ.fin rfl (.cell rfl (ldE tU_ok tI_ok rfl rfl rfl (hS.cells (i := 0) rfl) rfl) (.tmp rfl .nil)) ⟨rfl, hS.ext⟩
        · replace H := pif_f (of_decide_eq_false hb) H
          refine CJ.skip (EJ.next ?_)
          refine CJ.region ?_
          refine OJ.pures tU_ok 1 rfl ?_
          obtain ⟨t6, ht6, H⟩ := pbind H
          refine OJ.st rfl rfl rfl (SR.idxA tU_ok tI_ok rfl rfl rfl rfl rfl (Arr.lt ht6)) ?_
          refine OJ.es rfl rfl (Es.put tI_ok hS (i := 0) rfl rfl rfl rfl rfl (vs := cb.enc true) rfl rfl (one1 rfl) (Put.idx (Put.all cb t6 true) ht6) (by (try simp only [add_lit, Nat.add_assoc, Nat.zero_add, Nat.add_zero]) <;> rfl)) ?_
          intro w1 hS
          refine OJ.nil (EJ.blk (EJ.next ?_))
          refine CJ.region ?_
          refine OJ.pures tU_ok 3 rfl ?_
          refine OJ.nil ?_
          exact EJ.round k (F' := [(0, .string a0), (2, .pointer (some ⟨b1, 0, none⟩)), (4, .int .i64 (IntKind.i64.wrap (y4 + 1)))]) ⟨rfl, rfl, rfl, trivial⟩ (Nat.lt_succ_self _) ⟨(aset y3 t5.toNat true), (IntKind.i64.wrap (y4 + 1)), rfl, hS.pick [0] [] rfl, H⟩
      · replace H := pif_f (of_decide_eq_false hb) H
        refine CJ.exit (EJ.skE (EJ.skE (EJ.hit (?_))))
        exact EJ.meet (F' := [(2, .pointer (some ⟨b1, 0, none⟩))]) ⟨rfl, trivial⟩ ⟨y3, H, rfl, hS.pick [0] [] rfl⟩
  · rintro F w1 ⟨y2, he, rfl, hS⟩
    obtain rfl := Option.some.inj he
    have H := K47
    refine EJ.next ?_
    refine CJ.seq ?_
    refine CJ.region ?_
    refine OJ.st rfl rfl rfl (SR.load rfl rfl (fun w' hx => ldE tU_ok tI_ok rfl rfl rfl (CA.ext (hS.cells (i := 0) rfl) hx) rfl)) ?_
    refine OJ.es rfl rfl (Es.put tI_ok hS (i := 0) rfl rfl rfl rfl rfl (vs := (carr 256 cb).enc y2) rfl ((carr 256 cb).len _) ((carr 256 cb).one _) (Put.all (carr 256 cb) y2 y2) (by (try simp only [add_lit, Nat.add_assoc, Nat.zero_add, Nat.add_zero]) <;> rfl)) ?_
    intro w1 hS
    refine OJ.pures tU_ok 1 rfl ?_
    refine OJ.nil (EJ.next ?_)
    refine CJ.ret (?_)
    obtain rfl := Option.some.inj H
    exact EJ.fin rfl (.cell rfl (ldE tU_ok tI_ok rfl rfl rfl (hS.cells (i := 0) rfl) rfl) (.tmp rfl .nil)) ⟨rfl, hS.ext⟩

def strings_asciiSet_contains.f (a0 : Arr 256 Bool) (a1 : Int) : Option Bool := (getI a0.l a1).bind fun t1 => some t1
theorem strings_asciiSet_contains.c (w : World) (pa0 : Addr) (a0 : Arr 256 Bool) (hp0 : CA w pa0 ((carr 256 cb).enc a0)) (a1 : Int) (r : Bool) (H : strings_asciiSet_contains.f a0 a1 = some r) :
    CV Tryd.prog 131 [.pointer (some pa0), .int .u8 a1].toArray w fun v w' => v = .bool r ∧ Ext w w' := by
  have hS := ((St.init w no).paramP pa0 ((carr 256 cb).enc a0) hp0)
  unfold strings_asciiSet_contains.f at H
  refine CV.body Tryd.func131 rfl Tryd.ntmps131 rfl ?_
  refine CJ.seq ?_
  refine CJ.region ?_
  refine OJ.pures tU_ok 1 rfl ?_
  refine OJ.nil (EJ.next ?_)
  refine CJ.seq ?_
  refine CJ.region ?_
  refine OJ.pures tU_ok 3 rfl ?_
  obtain ⟨t1, ht1, H⟩ := pbind H
  refine OJ.st rfl rfl rfl (SR.idxA tU_ok tI_ok rfl rfl rfl rfl rfl (Arr.lt ht1)) ?_
  refine OJ.st rfl rfl rfl (SR.load rfl rfl (fun w' hx => ld1 tU_ok rfl rfl (CA.ext (CA.idx (hS.ca (i := 0) rfl) ht1) hx) rfl)) ?_
  refine OJ.pures tU_ok 1 rfl ?_
  refine OJ.nil (EJ.next ?_)
  refine CJ.ret (?_)
  obtain rfl := Option.some.inj H
  exact EJ.fin rfl (.tmp rfl .nil) ⟨rfl, hS.ext⟩

def strings_trimRightASCII.l1 (a1 : Arr 256 Bool) : Nat → ByteArray → Option ByteArray
  | 0, _ => none
  | k + 1, y2 => if 0 < (y2.size : Int) then ((getB y2 (IntKind.i64.wrap ((y2.size : Int) - 1))).bind fun t3 => (strings_asciiSet_contains.f a1 t3).bind fun t4 => if (!t4) = true then (some y2) else ((chk ((0 : Int) ≤ 0 ∧ 0 ≤ (IntKind.i64.wrap ((y2.size : Int) - 1)) ∧ (IntKind.i64.wrap ((y2.size : Int) - 1)) ≤ (y2.size : Int))).bind fun u5 => strings_trimRightASCII.l1 a1 k (y2.extract 0 ((IntKind.i64.wrap ((y2.size : Int) - 1)).toNat)))) else (some y2)
def strings_trimRightASCII.f (k : Nat) (a0 : ByteArray) (a1 : Arr 256 Bool) : Option ByteArray := (strings_trimRightASCII.l1 a1 k a0).bind fun y1 => some y1
theorem strings_trimRightASCII.c (k : Nat) (w : World) (a0 : ByteArray) (pa1 : Addr) (a1 : Arr 256 Bool) (hp1 : CA w pa1 ((carr 256 cb).enc a1)) (r : ByteArray) (H : strings_trimRightASCII.f k a0 a1 = some r) :
    CV Tryd.prog 117 [.string a0, .pointer (some pa1)].toArray w fun v w' => v = .string r ∧ Ext w w' := by
  have hS := ((St.init w no).paramP pa1 ((carr 256 cb).enc a1) hp1)
  unfold strings_trimRightASCII.f at H
  refine CV.body Tryd.func117 rfl Tryd.ntmps117 rfl ?_
  refine CJ.seq ?_
  refine CJ.region ?_
  refine OJ.pures tU_ok 1 rfl ?_
  refine OJ.nil (EJ.next ?_)
  obtain ⟨j48, H, K48⟩ := pbind H
  refine CJ.cut (fun F w1 => ∃ (y1 : ByteArray) , (some y1 : Option ByteArray) = some j48 ∧ F = [(0, .string y1)] ∧ St w no w1 [] [roP pa1 ((carr 256 cb).enc a1)]) ?_ ?_
  · skip
    refine CJ.block ?_
    refine CJ.loop (fun k F w1 => ∃ (y2 : ByteArray), F = [(0, .string y2), (1, .pointer (some pa1))] ∧ St w no w1 [] [roP pa1 ((carr 256 cb).enc a1)] ∧ strings_trimRightASCII.l1 a1 k y2 = some j48) k (F' := [(0, .string a0), (1, .pointer (some pa1))]) ⟨rfl, rfl, trivial⟩ ⟨a0, rfl, hS.pick [] [0] rfl, H⟩ ?_
    rintro k F w1 ⟨y2, rfl, hS, H⟩
    cases k with
    | zero => rw [strings_trimRightASCII.l1] at H; cases H
    | succ k =>
      rw [strings_trimRightASCII.l1] at H
      refine CJ.seq ?_
      refine CJ.seq ?_
      refine CJ.region ?_
      refine OJ.pures tU_ok 3 rfl ?_
      refine OJ.nil (EJ.next ?_)
      refine CJ.cond rfl (fun hb => ?_) (fun hb => ?_)
      · replace H := pif_t (of_decide_eq_true hb) H
        refine CJ.skip (EJ.next ?_)
        refine CJ.block ?_
        refine CJ.seq ?_
        refine CJ.seq ?_
        refine CJ.region ?_
        refine OJ.pures tU_ok 5 rfl ?_
        obtain ⟨t3, ht3, H⟩ := pbind H
        refine OJ.st rfl rfl rfl (SR.idxStr tU_ok rfl rfl rfl rfl ht3) ?_
        obtain ⟨t4, ht4, H⟩ := pbind H
        refine OJ.callF rfl rfl rfl rfl rfl hb131 rfl (strings_asciiSet_contains.c _ _ a1 (hS.ca (i := 0) rfl) t3 _ ht4) ?_
        rintro _ w1 ⟨rfl, hs⟩
        replace hS := hS.grow hs
        refine OJ.pures tU_ok 1 rfl ?_
        refine OJ.nil (EJ.next ?_)
        refine CJ.cond rfl (fun hb => ?_) (fun hb => ?_)
        · replace H := pif_t hb H
          refine CJ.exit (EJ.skE (EJ.bkE rfl (EJ.skE (EJ.hit (?_)))))
          exact EJ.meet (F' := [(0, .string y2)]) ⟨rfl, trivial⟩ ⟨y2, H, rfl, hS.pick [] [0] rfl⟩
        · replace H := pifb_f hb H
          refine CJ.skip (EJ.next ?_)
          refine CJ.region ?_
          refine OJ.pures tU_ok 4 rfl ?_
          obtain ⟨u5, hu5, H⟩ := pbind H
          refine OJ.st rfl rfl rfl (SR.cutStr tU_ok (0) ((IntKind.i64.wrap ((y2.size : Int) - 1)).toNat) rfl rfl rfl rfl rfl (.inl ⟨rfl, rfl⟩) (.inr ⟨_, _, rfl, (by have := (chk_some hu5); omega), rfl⟩) (by have := (chk_some hu5); omega) (by have := (chk_some hu5); omega)) ?_
          refine OJ.pures tU_ok 1 rfl ?_
          refine OJ.nil (EJ.blk (?_))
          exact EJ.round k (F' := [(0, .string (y2.extract 0 ((IntKind.i64.wrap ((y2.size : Int) - 1)).toNat))), (1, .pointer (some pa1))]) ⟨rfl, rfl, trivial⟩ (Nat.lt_succ_self _) ⟨(y2.extract 0 ((IntKind.i64.wrap ((y2.size : Int) - 1)).toNat)), rfl, hS.pick [] [0] rfl, H⟩
      · replace H := pif_f (of_decide_eq_false hb) H
        refine CJ.exit (EJ.skE (EJ.skE (EJ.hit (?_))))
        exact EJ.meet (F' := [(0, .string y2)]) ⟨rfl, trivial⟩ ⟨y2, H, rfl, hS.pick [] [0] rfl⟩
  · rintro F w1 ⟨y1, he, rfl, hS⟩
    obtain rfl := Option.some.inj he
    have H := K48
    refine CJ.seq ?_
    refine CJ.region ?_
    refine OJ.pures tU_ok 2 rfl ?_
    refine OJ.nil (EJ.next ?_)
    refine CJ.ret (?_)
    obtain rfl := Option.some.inj H
    exact EJ.fin rfl (.tmp rfl .nil) ⟨rfl, hS.ext⟩

def strings_trimLeftASCII.l1 (a1 : Arr 256 Bool) : Nat → ByteArray → Option ByteArray
  | 0, _ => none
  | k + 1, y2 => if 0 < (y2.size : Int) then ((getB y2 0).bind fun t3 => (strings_asciiSet_contains.f a1 t3).bind fun t4 => if (!t4) = true then (some y2) else ((chk ((0 : Int) ≤ 1 ∧ 1 ≤ (y2.size : Int) ∧ (y2.size : Int) ≤ (y2.size : Int))).bind fun u5 => strings_trimLeftASCII.l1 a1 k (y2.extract ((1 : Int).toNat) y2.size))) else (some y2)
def strings_trimLeftASCII.f (k : Nat) (a0 : ByteArray) (a1 : Arr 256 Bool) : Option ByteArray := (strings_trimLeftASCII.l1 a1 k a0).bind fun y1 => some y1
theorem strings_trimLeftASCII.c (k : Nat) (w : World) (a0 : ByteArray) (pa1 : Addr) (a1 : Arr 256 Bool) (hp1 : CA w pa1 ((carr 256 cb).enc a1)) (r : ByteArray) (H : strings_trimLeftASCII.f k a0 a1 = some r) :
    CV Tryd.prog 116 [.string a0, .pointer (some pa1)].toArray w fun v w' => v = .string r ∧ Ext w w' := by
  have hS := ((St.init w no).paramP pa1 ((carr 256 cb).enc a1) hp1)
  unfold strings_trimLeftASCII.f at H
  refine CV.body Tryd.func116 rfl Tryd.ntmps116 rfl ?_
  refine CJ.seq ?_
  refine CJ.region ?_
  refine OJ.pures tU_ok 1 rfl ?_
  refine OJ.nil (EJ.next ?_)
  obtain ⟨j49, H, K49⟩ := pbind H
  refine CJ.cut (fun F w1 => ∃ (y1 : ByteArray) , (some y1 : Option ByteArray) = some j49 ∧ F = [(0, .string y1)] ∧ St w no w1 [] [roP pa1 ((carr 256 cb).enc a1)]) ?_ ?_
  · skip
    refine CJ.block ?_
    refine CJ.loop (fun k F w1 => ∃ (y2 : ByteArray), F = [(0, .string y2), (1, .pointer (some pa1))] ∧ St w no w1 [] [roP pa1 ((carr 256 cb).enc a1)] ∧ strings_trimLeftASCII.l1 a1 k y2 = some j49) k (F' := [(0, .string a0), (1, .pointer (some pa1))]) ⟨rfl, rfl, trivial⟩ ⟨a0, rfl, hS.pick [] [0] rfl, H⟩ ?_
    rintro k F w1 ⟨y2, rfl, hS, H⟩
    cases k with
    | zero => rw [strings_trimLeftASCII.l1] at H; cases H
    | succ k =>
      rw [strings_trimLeftASCII.l1] at H
      refine CJ.seq ?_
      refine CJ.seq ?_
      refine CJ.region ?_
      refine OJ.pures tU_ok 3 rfl ?_
      refine OJ.nil (EJ.next ?_)
      refine CJ.cond rfl (fun hb => ?_) (fun hb => ?_)
      · replace H := pif_t (of_decide_eq_true hb) H
        refine CJ.skip (EJ.next ?_)
        refine CJ.block ?_
        refine CJ.seq ?_
        refine CJ.seq ?_
        refine CJ.region ?_
        refine OJ.pures tU_ok 2 rfl ?_
        obtain ⟨t3, ht3, H⟩ := pbind H
        refine OJ.st rfl rfl rfl (SR.idxStr tU_ok rfl rfl rfl rfl ht3) ?_
        obtain ⟨t4, ht4, H⟩ := pbind H
        refine OJ.callF rfl rfl rfl rfl rfl hb131 rfl (strings_asciiSet_contains.c _ _ a1 (hS.ca (i := 0) rfl) t3 _ ht4) ?_
        rintro _ w1 ⟨rfl, hs⟩
        replace hS := hS.grow hs
        refine OJ.pures tU_ok 1 rfl ?_
        refine OJ.nil (EJ.next ?_)
        refine CJ.cond rfl (fun hb => ?_) (fun hb => ?_)
        · replace H := pif_t hb H
          refine CJ.exit (EJ.skE (EJ.bkE rfl (EJ.skE (EJ.hit (?_)))))
          exact EJ.meet (F' := [(0, .string y2)]) ⟨rfl, trivial⟩ ⟨y2, H, rfl, hS.pick [] [0] rfl⟩
        · replace H := pifb_f hb H
          refine CJ.skip (EJ.next ?_)
          refine CJ.region ?_
          refine OJ.pures tU_ok 1 rfl ?_
          obtain ⟨u5, hu5, H⟩ := pbind H
          refine OJ.st rfl rfl rfl (SR.cutStr tU_ok ((1 : Int).toNat) (y2.size) rfl rfl rfl rfl rfl (.inr ⟨_, _, rfl, (chk_some hu5).1, rfl⟩) (.inl ⟨rfl, rfl⟩) (by have := (chk_some hu5); omega) (by have := (chk_some hu5); omega)) ?_
          refine OJ.pures tU_ok 1 rfl ?_
          refine OJ.nil (EJ.blk (?_))
          exact EJ.round k (F' := [(0, .string (y2.extract ((1 : Int).toNat) y2.size)), (1, .pointer (some pa1))]) ⟨rfl, rfl, trivial⟩ (Nat.lt_succ_self _) ⟨(y2.extract ((1 : Int).toNat) y2.size), rfl, hS.pick [] [0] rfl, H⟩
      · replace H := pif_f (of_decide_eq_false hb) H
        refine CJ.exit (EJ.skE (EJ.skE (EJ.hit (?_))))
        exact EJ.meet (F' := [(0, .string y2)]) ⟨rfl, trivial⟩ ⟨y2, H, rfl, hS.pick [] [0] rfl⟩
  · rintro F w1 ⟨y1, he, rfl, hS⟩
    obtain rfl := Option.some.inj he
    have H := K49
    refine CJ.seq ?_
    refine CJ.region ?_
    refine OJ.pures tU_ok 2 rfl ?_
    refine OJ.nil (EJ.next ?_)
    refine CJ.ret (?_)
    obtain rfl := Option.some.inj H
    exact EJ.fin rfl (.tmp rfl .nil) ⟨rfl, hS.ext⟩

def unicode_utf8_RuneStart.f (a0 : Int) : Option Bool := some (decide ((andI .u8 a0 192) ≠ 128))
theorem unicode_utf8_RuneStart.c (w : World) (a0 : Int) (r : Bool) (H : unicode_utf8_RuneStart.f a0 = some r) :
    CV Tryd.prog 142 [.int .u8 a0].toArray w fun v w' => v = .bool r ∧ Ext w w' := by
  have hS := (St.init w no)
  unfold unicode_utf8_RuneStart.f at H
  refine CV.body Tryd.func142 rfl Tryd.ntmps142 rfl ?_
  refine CJ.seq ?_
  refine CJ.region ?_
  refine OJ.pures tU_ok 1 rfl ?_
  refine OJ.nil (EJ.next ?_)
  refine CJ.seq ?_
  refine CJ.region ?_
  refine OJ.pures tU_ok 4 rfl ?_
  refine OJ.nil (EJ.next ?_)
  refine CJ.ret (?_)
  obtain rfl := Option.some.inj H
  exact EJ.fin rfl (.tmp rfl .nil) ⟨rfl, hS.ext⟩

def unicode_utf8_decodeRuneInStringSlow.f (a0 : ByteArray) : Option (Int × Int) := if (a0.size : Int) < 1 then (some (65533, 0)) else none
theorem unicode_utf8_decodeRuneInStringSlow.c (w : World) (a0 : ByteArray) (r : Int × Int) (H : unicode_utf8_decodeRuneInStringSlow.f a0 = some r) :
    CV Tryd.prog 140 [.string a0].toArray w fun v w' => v = .tuple #[.int .i32 r.1, .int .i64 r.2] ∧ Ext w w' := by
  have hS := (St.init w no)
  unfold unicode_utf8_decodeRuneInStringSlow.f at H
  refine CV.body Tryd.func140 rfl Tryd.ntmps140 rfl ?_
  refine CJ.seq ?_
  refine CJ.region ?_
  refine OJ.pures tU_ok 2 rfl ?_
  refine OJ.nil (EJ.next ?_)
  refine CJ.seq ?_
  refine CJ.region ?_
  refine OJ.pures tU_ok 3 rfl ?_
  refine OJ.nil (EJ.next ?_)
  refine CJ.seq ?_
  refine CJ.seq ?_
  refine CJ.region ?_
  refine OJ.pures tU_ok 2 rfl ?_
  refine OJ.nil (EJ.next ?_)
  refine CJ.cond rfl (fun hb => ?_) (fun hb => ?_)
  · replace H := pif_t (of_decide_eq_true hb) H
    refine CJ.seq ?_
    refine CJ.region ?_
    refine OJ.pures tU_ok 2 rfl ?_
    refine OJ.nil (EJ.next ?_)
    refine CJ.ret (EJ.skR (?_))
    obtain rfl := Option.some.inj H
    exact EJ.fin rfl (.tmp rfl (.tmp rfl .nil)) ⟨rfl, hS.ext⟩
  · replace H := pif_f (of_decide_eq_false hb) H
    cases H

def unicode_utf8_DecodeRuneInString.f (a0 : ByteArray) : Option (Int × Int) := (if a0 ≠ ByteArray.empty then ((getB a0 0).bind fun t2 => some (decide (t2 < 128))) else (some false)).bind fun y1 => if y1 = true then ((getB a0 0).bind fun t3 => some (IntKind.i32.wrap t3, 1)) else ((unicode_utf8_decodeRuneInStringSlow.f a0).bind fun t4 => some (t4.1, t4.2))
theorem unicode_utf8_DecodeRuneInString.c (w : World) (a0 : ByteArray) (r : Int × Int) (H : unicode_utf8_DecodeRuneInString.f a0 = some r) :
    CV Tryd.prog 132 [.string a0].toArray w fun v w' => v = .tuple #[.int .i32 r.1, .int .i64 r.2] ∧ Ext w w' := by
  have hS := (St.init w no)
  unfold unicode_utf8_DecodeRuneInString.f at H
  refine CV.body Tryd.func132 rfl Tryd.ntmps132 rfl ?_
  refine CJ.seq ?_
  refine CJ.region ?_
  refine OJ.pures tU_ok 2 rfl ?_
  refine OJ.nil (EJ.next ?_)
  refine CJ.seq ?_
  obtain ⟨j52, H, K52⟩ := pbind H
  refine CJ.cut (fun F w1 => ∃ (y1 : Bool) , (some y1 : Option Bool) = some j52 ∧ F = [(0, .string a0), (10, .bool y1)] ∧ St w no w1 [] []) ?_ ?_
  · skip
    refine CJ.region ?_
    refine OJ.pures tU_ok 3 rfl ?_
    refine OJ.split (t := 6) rfl (fun hb => ?_) (fun hb => ?_)
    · replace H := pif_t (of_decide_eq_true hb) H
      refine OJ.pures tU_ok 1 rfl ?_
      obtain ⟨t2, ht2, H⟩ := pbind H
      refine OJ.st rfl rfl rfl (SR.idxStr tU_ok rfl rfl rfl rfl ht2) ?_
      refine OJ.pures tU_ok 2 rfl ?_
      refine OJ.nil ?_
      exact EJ.meet (F' := [(0, .string a0), (10, .bool (decide (t2 < 128)))]) ⟨rfl, rfl, trivial⟩ ⟨(decide (t2 < 128)), H, rfl, hS.pick [] [] rfl⟩
    · replace H := pif_f (of_decide_eq_false hb) H
      refine OJ.pures tU_ok 4 rfl ?_
      refine OJ.nil ?_
      exact EJ.meet (F' := [(0, .string a0), (10, .bool false)]) ⟨rfl, rfl, trivial⟩ ⟨false, H, rfl, hS.pick [] [] rfl⟩
  · rintro F w1 ⟨y1, he, rfl, hS⟩
    obtain rfl := Option.some.inj he
    have H := K52
    refine CJ.cond rfl (fun hb => ?_) (fun hb => ?_)
    · replace H := pif_t hb H
      refine CJ.seq ?_
      refine CJ.region ?_
      refine OJ.pures tU_ok 1 rfl ?_
      obtain ⟨t3, ht3, H⟩ := pbind H
      refine OJ.st rfl rfl rfl (SR.idxStr tU_ok rfl rfl rfl rfl ht3) ?_
      refine OJ.pures tU_ok 3 rfl ?_
      refine OJ.nil (EJ.next ?_)
      refine CJ.ret (EJ.skR (?_))
      obtain rfl := Option.some.inj H
      exact EJ.fin rfl (.tmp rfl (.tmp rfl .nil)) ⟨rfl, hS.ext⟩
    · replace H := pifb_f hb H
      refine CJ.region ?_
      refine OJ.pures tU_ok 1 rfl ?_
      obtain ⟨t4, ht4, H⟩ := pbind H
      refine OJ.callF rfl rfl rfl rfl rfl hb140 rfl (unicode_utf8_decodeRuneInStringSlow.c _ a0 _ ht4) ?_
      rintro _ w1 ⟨rfl, hs⟩
      replace hS := hS.grow hs
      refine OJ.pures tU_ok 5 rfl ?_
      refine OJ.nil (EJ.next ?_)
      refine CJ.ret (?_)
      obtain rfl := Option.some.inj H
      exact EJ.fin rfl (.tmp rfl (.tmp rfl .nil)) ⟨rfl, hS.ext⟩

def unicode_utf8_DecodeLastRuneInString.l1 (a0 : ByteArray) : Nat → Int → Option Int
  | 0, _ => none
  | k + 1, y3 => if (if (IntKind.i64.wrap ((a0.size : Int) - 4)) < 0 then 0 else (IntKind.i64.wrap ((a0.size : Int) - 4))) ≤ y3 then ((getB a0 y3).bind fun t4 => (unicode_utf8_RuneStart.f t4).bind fun t5 => if t5 = true then (some y3) else (unicode_utf8_DecodeLastRuneInString.l1 a0 k (IntKind.i64.wrap (y3 - 1)))) else (some y3)
def unicode_utf8_DecodeLastRuneInString.f (k : Nat) (a0 : ByteArray) : Option (Int × Int) := if (a0.size : Int) = 0 then (some (65533, 0)) else ((getB a0 (IntKind.i64.wrap ((a0.size : Int) - 1))).bind fun t1 => if (IntKind.i32.wrap t1) < 128 then (some (IntKind.i32.wrap t1, 1)) else ((unicode_utf8_DecodeLastRuneInString.l1 a0 k (IntKind.i64.wrap ((IntKind.i64.wrap ((a0.size : Int) - 1)) - 1))).bind fun y2 => if y2 < 0 then ((chk ((0 : Int) ≤ 0 ∧ 0 ≤ (a0.size : Int) ∧ (a0.size : Int) ≤ (a0.size : Int))).bind fun u6 => (unicode_utf8_DecodeRuneInString.f (a0.extract ((0 : Int).toNat) ((a0.size : Int).toNat))).bind fun t7 => if (IntKind.i64.wrap (0 + t7.2)) ≠ (a0.size : Int) then (some (65533, 1)) else (some (t7.1, t7.2))) else ((chk ((0 : Int) ≤ y2 ∧ y2 ≤ (a0.size : Int) ∧ (a0.size : Int) ≤ (a0.size : Int))).bind fun u8 => (unicode_utf8_DecodeRuneInString.f (a0.extract y2.toNat ((a0.size : Int).toNat))).bind fun t9 => if (IntKind.i64.wrap (y2 + t9.2)) ≠ (a0.size : Int) then (some (65533, 1)) else (some (t9.1, t9.2)))))
theorem unicode_utf8_DecodeLastRuneInString.c (k : Nat) (w : World) (a0 : ByteArray) (r : Int × Int) (H : unicode_utf8_DecodeLastRuneInString.f k a0 = some r) :
    CV Tryd.prog 134 [.string a0].toArray w fun v w' => v = .tuple #[.int .i32 r.1, .int .i64 r.2] ∧ Ext w w' := by
  have hS := (St.init w no)
  unfold unicode_utf8_DecodeLastRuneInString.f at H
  refine CV.body Tryd.func134 rfl Tryd.ntmps134 rfl ?_
  refine CJ.seq ?_
  refine CJ.region ?_
  refine OJ.pures tU_ok 2 rfl ?_
  refine OJ.nil (EJ.next ?_)
  refine CJ.seq ?_
  refine CJ.region ?_
  refine OJ.pures tU_ok 3 rfl ?_
  refine OJ.nil (EJ.next ?_)
  refine CJ.seq ?_
  refine CJ.seq ?_
  refine CJ.region ?_
  refine OJ.pures tU_ok 2 rfl ?_
  refine OJ.nil (EJ.next ?_)
  refine CJ.cond rfl (fun hb => ?_) (fun hb => ?_)
  · replace H := pif_t (of_decide_eq_true hb) H
    refine CJ.seq ?_
    refine CJ.region ?_
    refine OJ.pures tU_ok 2 rfl ?_
    refine OJ.nil (EJ.next ?_)
    refine CJ.ret (EJ.skR (?_))
    obtain rfl := Option.some.inj H
    exact EJ.fin rfl (.tmp rfl (.tmp rfl .nil)) ⟨rfl, hS.ext⟩
  · replace H := pif_f (of_decide_eq_false hb) H
    refine CJ.skip (EJ.next ?_)
    refine CJ.seq ?_
    refine CJ.region ?_
    refine OJ.pures tU_ok 3 rfl ?_
    refine OJ.nil (EJ.next ?_)
    refine CJ.seq ?_
    refine CJ.region ?_
    refine OJ.pures tU_ok 2 rfl ?_
    obtain ⟨t1, ht1, H⟩ := pbind H
    refine OJ.st rfl rfl rfl (SR.idxStr tU_ok rfl rfl rfl rfl ht1) ?_
    refine OJ.pures tU_ok 2 rfl ?_
    refine OJ.nil (EJ.next ?_)
    refine CJ.seq ?_
    refine CJ.seq ?_
    refine CJ.region ?_
    refine OJ.pures tU_ok 2 rfl ?_
    refine OJ.nil (EJ.next ?_)
    refine CJ.cond rfl (fun hb => ?_) (fun hb => ?_)
    · replace H := pif_t (of_decide_eq_true hb) H
      refine CJ.seq ?_
      refine CJ.region ?_
      refine OJ.pures tU_ok 3 rfl ?_
      refine OJ.nil (EJ.next ?_)
      refine CJ.ret (EJ.skR (?_))
      obtain rfl := Option.some.inj H
      exact EJ.fin rfl (.tmp rfl (.tmp rfl .nil)) ⟨rfl, hS.ext⟩
    · replace H := pif_f (of_decide_eq_false hb) H
      refine CJ.skip (EJ.next ?_)
      refine CJ.seq ?_
      refine CJ.region ?_
      refine OJ.pures tU_ok 4 rfl ?_
      refine OJ.nil (EJ.next ?_)
      refine CJ.seq ?_
      refine CJ.seq ?_
      refine CJ.region ?_
      refine OJ.pures tU_ok 3 rfl ?_
      refine OJ.nil (EJ.next ?_)
      obtain ⟨j51, H, K51⟩ := pbind H
      refine CJ.cut1 (fun F w1 => ∃ (y2 : Int) , (some y2 : Option Int) = some j51 ∧ F = [(0, .string a0), (4, .int .i64 (a0.size : Int)), (5, .int .i64 y2)] ∧ St w no w1 [] []) ?_ ?_
      · skip
        refine CJ.block ?_
        refine CJ.loop (fun k F w1 => ∃ (y3 : Int), F = [(0, .string a0), (4, .int .i64 (a0.size : Int)), (5, .int .i64 y3), (6, .int .i64 (if (IntKind.i64.wrap ((a0.size : Int) - 4)) < 0 then 0 else (IntKind.i64.wrap ((a0.size : Int) - 4))))] ∧ St w no w1 [] [] ∧ unicode_utf8_DecodeLastRuneInString.l1 a0 k y3 = some j51) k (F' := [(0, .string a0), (4, .int .i64 (a0.size : Int)), (5, .int .i64 (IntKind.i64.wrap ((IntKind.i64.wrap ((a0.size : Int) - 1)) - 1))), (6, .int .i64 (if (IntKind.i64.wrap ((a0.size : Int) - 4)) < 0 then 0 else (IntKind.i64.wrap ((a0.size : Int) - 4))))]) ⟨rfl, rfl, rfl, rfl, trivial⟩ ⟨(IntKind.i64.wrap ((IntKind.i64.wrap ((a0.size : Int) - 1)) - 1)), rfl, hS.pick [] [] rfl, H⟩ ?_
        rintro k F w1 ⟨y3, rfl, hS, H⟩
        cases k with
        | zero => rw [unicode_utf8_DecodeLastRuneInString.l1] at H; cases H
        | succ k =>
          rw [unicode_utf8_DecodeLastRuneInString.l1] at H
          refine CJ.seq ?_
          refine CJ.seq ?_
          refine CJ.region ?_
          refine OJ.pures tU_ok 3 rfl ?_
          refine OJ.nil (EJ.next ?_)
          refine CJ.cond rfl (fun hb => ?_) (fun hb => ?_)
          · replace H := pif_t (of_decide_eq_true hb) H
            refine CJ.skip (EJ.next ?_)
            refine CJ.seq ?_
            refine CJ.block ?_
            refine CJ.seq ?_
            refine CJ.region ?_
            refine OJ.pures tU_ok 2 rfl ?_
            obtain ⟨t4, ht4, H⟩ := pbind H
            refine OJ.st rfl rfl rfl (SR.idxStr tU_ok rfl rfl rfl rfl ht4) ?_
            obtain ⟨t5, ht5, H⟩ := pbind H
            refine OJ.callF rfl rfl rfl rfl rfl hb142 rfl (unicode_utf8_RuneStart.c _ t4 _ ht5) ?_
            rintro _ w1 ⟨rfl, hs⟩
            replace hS := hS.grow hs
            refine OJ.nil (EJ.next ?_)
            refine CJ.cond rfl (fun hb => ?_) (fun hb => ?_)
            · replace H := pif_t hb H
              refine CJ.exit (EJ.bkE rfl (EJ.skE (EJ.skE (EJ.hit (?_)))))
              exact EJ.meet (F' := [(0, .string a0), (4, .int .i64 (a0.size : Int)), (5, .int .i64 y3)]) ⟨rfl, rfl, rfl, trivial⟩ ⟨y3, H, rfl, hS.pick [] [] rfl⟩
            · replace H := pifb_f hb H
              refine CJ.skip (EJ.blk (EJ.next ?_))
              refine CJ.region ?_
              refine OJ.pures tU_ok 3 rfl ?_
              refine OJ.nil ?_
              exact EJ.round k (F' := [(0, .string a0), (4, .int .i64 (a0.size : Int)), (5, .int .i64 (IntKind.i64.wrap (y3 - 1))), (6, .int .i64 (if (IntKind.i64.wrap ((a0.size : Int) - 4)) < 0 then 0 else (IntKind.i64.wrap ((a0.size : Int) - 4))))]) ⟨rfl, rfl, rfl, rfl, trivial⟩ (Nat.lt_succ_self _) ⟨(IntKind.i64.wrap (y3 - 1)), rfl, hS.pick [] [] rfl, H⟩
          · replace H := pif_f (of_decide_eq_false hb) H
            refine CJ.exit (EJ.skE (EJ.skE (EJ.hit (?_))))
            exact EJ.meet (F' := [(0, .string a0), (4, .int .i64 (a0.size : Int)), (5, .int .i64 y3)]) ⟨rfl, rfl, rfl, trivial⟩ ⟨y3, H, rfl, hS.pick [] [] rfl⟩
      · rintro F w1 ⟨y2, he, rfl, hS⟩
        obtain rfl := Option.some.inj he
        have H := K51
        refine EJ.next ?_
        refine CJ.seq ?_
        refine CJ.seq ?_
        refine CJ.region ?_
        refine OJ.pures tU_ok 2 rfl ?_
        refine OJ.nil (EJ.next ?_)
        refine CJ.cond rfl (fun hb => ?_) (fun hb => ?_)
        · replace H := pif_t (of_decide_eq_true hb) H
          refine CJ.region ?_
          refine OJ.pures tU_ok 1 rfl ?_
          refine OJ.nil (EJ.next ?_)
          refine CJ.seq ?_
          refine CJ.region ?_
          refine OJ.pures tU_ok 3 rfl ?_
          obtain ⟨u6, hu6, H⟩ := pbind H
          refine OJ.st rfl rfl rfl (SR.cutStr tU_ok ((0 : Int).toNat) ((a0.size : Int).toNat) rfl rfl rfl rfl rfl (.inr ⟨_, _, rfl, (chk_some hu6).1, rfl⟩) (.inr ⟨_, _, rfl, (by have := (chk_some hu6); omega), rfl⟩) (by have := (chk_some hu6); omega) (by have := (chk_some hu6); omega)) ?_
          obtain ⟨t7, ht7, H⟩ := pbind H
          refine OJ.callF rfl rfl rfl rfl rfl hb132 rfl (unicode_utf8_DecodeRuneInString.c _ (a0.extract ((0 : Int).toNat) ((a0.size : Int).toNat)) _ ht7) ?_
          rintro _ w1 ⟨rfl, hs⟩
          replace hS := hS.grow hs
          refine OJ.pures tU_ok 5 rfl ?_
          refine OJ.nil (EJ.next ?_)
          refine CJ.seq ?_
          refine CJ.seq ?_
          refine CJ.region ?_
          refine OJ.pures tU_ok 5 rfl ?_
          refine OJ.nil (EJ.next ?_)
          refine CJ.cond rfl (fun hb => ?_) (fun hb => ?_)
          · replace H := pif_t (of_decide_eq_true hb) H
            refine CJ.seq ?_
            refine CJ.region ?_
            refine OJ.pures tU_ok 2 rfl ?_
            refine OJ.nil (EJ.next ?_)
            refine CJ.ret (EJ.skR (?_))
            obtain rfl := Option.some.inj H
            exact EJ.fin rfl (.tmp rfl (.tmp rfl .nil)) ⟨rfl, hS.ext⟩
          · replace H := pif_f (of_decide_eq_false hb) H
            refine CJ.skip (EJ.next ?_)
            refine CJ.seq ?_
            refine CJ.region ?_
            refine OJ.pures tU_ok 4 rfl ?_
            refine OJ.nil (EJ.next ?_)
            refine CJ.ret (?_)
            obtain rfl := Option.some.inj H
            exact EJ.fin rfl (.tmp rfl (.tmp rfl .nil)) ⟨rfl, hS.ext⟩
        · replace H := pif_f (of_decide_eq_false hb) H
          refine CJ.skip (EJ.next ?_)
          refine CJ.seq ?_
          refine CJ.region ?_
          refine OJ.pures tU_ok 3 rfl ?_
          obtain ⟨u8, hu8, H⟩ := pbind H
          refine OJ.st rfl rfl rfl (SR.cutStr tU_ok (y2.toNat) ((a0.size : Int).toNat) rfl rfl rfl rfl rfl (.inr ⟨_, _, rfl, (chk_some hu8).1, rfl⟩) (.inr ⟨_, _, rfl, (by have := (chk_some hu8); omega), rfl⟩) (by have := (chk_some hu8); omega) (by have := (chk_some hu8); omega)) ?_
          obtain ⟨t9, ht9, H⟩ := pbind H
          refine OJ.callF rfl rfl rfl rfl rfl hb132 rfl (unicode_utf8_DecodeRuneInString.c _ (a0.extract y2.toNat ((a0.size : Int).toNat)) _ ht9) ?_
          rintro _ w1 ⟨rfl, hs⟩
          replace hS := hS.grow hs
          refine OJ.pures tU_ok 5 rfl ?_
          refine OJ.nil (EJ.next ?_)
          refine CJ.seq ?_
          refine CJ.seq ?_
          refine CJ.region ?_
          refine OJ.pures tU_ok 5 rfl ?_
          refine OJ.nil (EJ.next ?_)
          refine CJ.cond rfl (fun hb => ?_) (fun hb => ?_)
          · replace H := pif_t (of_decide_eq_true hb) H
            refine CJ.seq ?_
            refine CJ.region ?_
            refine OJ.pures tU_ok 2 rfl ?_
            refine OJ.nil (EJ.next ?_)
            refine CJ.ret (EJ.skR (?_))
            obtain rfl := Option.some.inj H
            exact EJ.fin rfl (.tmp rfl (.tmp rfl .nil)) ⟨rfl, hS.ext⟩
          · replace H := pif_f (of_decide_eq_false hb) H
            refine CJ.skip (EJ.next ?_)
            refine CJ.seq ?_
            refine CJ.region ?_
            refine OJ.pures tU_ok 4 rfl ?_
            refine OJ.nil (EJ.next ?_)
            refine CJ.ret (?_)
            obtain rfl := Option.some.inj H
            exact EJ.fin rfl (.tmp rfl (.tmp rfl .nil)) ⟨rfl, hS.ext⟩

def unicode_utf8_ValidRune.f (a0 : Int) : Option Bool := (if 0 ≤ a0 then (some (decide (a0 < 55296))) else (some false)).bind fun y1 => if y1 = true then (some true) else (if 57343 < a0 then (if a0 ≤ 1114111 then (some true) else (some false)) else (some false))
theorem unicode_utf8_ValidRune.c (w : World) (a0 : Int) (r : Bool) (H : unicode_utf8_ValidRune.f a0 = some r) :
    CV Tryd.prog 146 [.int .i32 a0].toArray w fun v w' => v = .bool r ∧ Ext w w' := by
  have hS := (St.init w no)
  unfold unicode_utf8_ValidRune.f at H
  refine CV.body Tryd.func146 rfl Tryd.ntmps146 rfl ?_
  refine CJ.seq ?_
  refine CJ.region ?_
  refine OJ.pures tU_ok 1 rfl ?_
  refine OJ.nil (EJ.next ?_)
  refine CJ.seq ?_
  refine CJ.block ?_
  obtain ⟨j54, H, K54⟩ := pbind H
  refine CJ.cut (fun F w1 => ∃ (y1 : Bool) , (some y1 : Option Bool) = some j54 ∧ F = [(0, .int .i32 a0), (3, .bool y1)] ∧ St w no w1 [] []) ?_ ?_
  · skip
    refine CJ.region ?_
    refine OJ.pures tU_ok 3 rfl ?_
    refine OJ.split (t := 6) rfl (fun hb => ?_) (fun hb => ?_)
    · replace H := pif_t (of_decide_eq_true hb) H
      refine OJ.pures tU_ok 4 rfl ?_
      refine OJ.nil ?_
      exact EJ.meet (F' := [(0, .int .i32 a0), (3, .bool (decide (a0 < 55296)))]) ⟨rfl, rfl, trivial⟩ ⟨(decide (a0 < 55296)), H, rfl, hS.pick [] [] rfl⟩
    · replace H := pif_f (of_decide_eq_false hb) H
      refine OJ.pures tU_ok 4 rfl ?_
      refine OJ.nil ?_
      exact EJ.meet (F' := [(0, .int .i32 a0), (3, .bool false)]) ⟨rfl, rfl, trivial⟩ ⟨false, H, rfl, hS.pick [] [] rfl⟩
  · rintro F w1 ⟨y1, he, rfl, hS⟩
    obtain rfl := Option.some.inj he
    have H := K54
    refine CJ.cond rfl (fun hb => ?_) (fun hb => ?_)
    · replace H := pif_t hb H
      refine CJ.seq ?_
      refine CJ.region ?_
      refine OJ.pures tU_ok 1 rfl ?_
      refine OJ.nil (EJ.next ?_)
      refine CJ.ret (EJ.bkR (EJ.skR (?_)))
      obtain rfl := Option.some.inj H
      exact EJ.fin rfl (.tmp rfl .nil) ⟨rfl, hS.ext⟩
    · replace H := pifb_f hb H
      refine CJ.seq ?_
      refine CJ.region ?_
      refine OJ.pures tU_ok 3 rfl ?_
      refine OJ.split (t := 13) rfl (fun hb => ?_) (fun hb => ?_)
      · replace H := pif_t (of_decide_eq_true hb) H
        refine OJ.pures tU_ok 4 rfl ?_
        refine OJ.nil (EJ.next ?_)
        refine CJ.cond rfl (fun hb => ?_) (fun hb => ?_)
        · replace H := pif_t (of_decide_eq_true hb) H
          refine CJ.seq ?_
          refine CJ.region ?_
          refine OJ.pures tU_ok 1 rfl ?_
          refine OJ.nil (EJ.next ?_)
          refine CJ.ret (EJ.bkR (EJ.skR (?_)))
          obtain rfl := Option.some.inj H
          exact EJ.fin rfl (.tmp rfl .nil) ⟨rfl, hS.ext⟩
        · replace H := pif_f (of_decide_eq_false hb) H
          refine CJ.skip (EJ.blk (EJ.next ?_))
          refine CJ.seq ?_
          refine CJ.region ?_
          refine OJ.pures tU_ok 1 rfl ?_
          refine OJ.nil (EJ.next ?_)
          refine CJ.ret (?_)
          obtain rfl := Option.some.inj H
          exact EJ.fin rfl (.tmp rfl .nil) ⟨rfl, hS.ext⟩
      · replace H := pif_f (of_decide_eq_false hb) H
        refine OJ.pures tU_ok 4 rfl ?_
        refine OJ.nil (EJ.next ?_)
        refine CJ.condF rfl ?_
        refine CJ.skip (EJ.blk (EJ.next ?_))
        refine CJ.seq ?_
        refine CJ.region ?_
        refine OJ.pures tU_ok 1 rfl ?_
        refine OJ.nil (EJ.next ?_)
        refine CJ.ret (?_)
        obtain rfl := Option.some.inj H
        exact EJ.fin rfl (.tmp rfl .nil) ⟨rfl, hS.ext⟩

def strings_IndexRune.f (a0 : ByteArray) (a1 : Int) : Option Int := (if 0 ≤ a1 then (some (decide (a1 < 128))) else (some false)).bind fun y1 => if y1 = true then none else (if a1 = 65533 then none else ((unicode_utf8_ValidRune.f a1).bind fun t2 => if (!t2) = true then (some (-1)) else none))
theorem strings_IndexRune.c (w : World) (a0 : ByteArray) (a1 : Int) (r : Int) (H : strings_IndexRune.f a0 a1 = some r) :
    CV Tryd.prog 141 [.string a0, .int .i32 a1].toArray w fun v w' => v = .int .i64 r ∧ Ext w w' := by
  have hS := (St.init w no)
  unfold strings_IndexRune.f at H
  refine CV.body Tryd.func141 rfl Tryd.ntmps141 rfl ?_
  refine CJ.seq ?_
  refine CJ.region ?_
  refine OJ.pures tU_ok 1 rfl ?_
  refine OJ.nil (EJ.next ?_)
  refine CJ.block ?_
  obtain ⟨j53, H, K53⟩ := pbind H
  refine CJ.cut (fun F w1 => ∃ (y1 : Bool) , (some y1 : Option Bool) = some j53 ∧ F = [(0, .string a0), (1, .int .i32 a1), (160, .bool y1)] ∧ St w no w1 [] []) ?_ ?_
  · skip
    refine CJ.region ?_
    refine OJ.pures tU_ok 3 rfl ?_
    refine OJ.split (t := 163) rfl (fun hb => ?_) (fun hb => ?_)
    · replace H := pif_t (of_decide_eq_true hb) H
      refine OJ.pures tU_ok 4 rfl ?_
      refine OJ.nil ?_
      exact EJ.meet (F' := [(0, .string a0), (1, .int .i32 a1), (160, .bool (decide (a1 < 128)))]) ⟨rfl, rfl, rfl, trivial⟩ ⟨(decide (a1 < 128)), H, rfl, hS.pick [] [] rfl⟩
    · replace H := pif_f (of_decide_eq_false hb) H
      refine OJ.pures tU_ok 4 rfl ?_
      refine OJ.nil ?_
      exact EJ.meet (F' := [(0, .string a0), (1, .int .i32 a1), (160, .bool false)]) ⟨rfl, rfl, rfl, trivial⟩ ⟨false, H, rfl, hS.pick [] [] rfl⟩
  · rintro F w1 ⟨y1, he, rfl, hS⟩
    obtain rfl := Option.some.inj he
    have H := K53
    refine CJ.cond rfl (fun hb => ?_) (fun hb => ?_)
    · replace H := pif_t hb H
      cases H
    · replace H := pifb_f hb H
      refine CJ.seq ?_
      refine CJ.region ?_
      refine OJ.pures tU_ok 3 rfl ?_
      refine OJ.nil (EJ.next ?_)
      refine CJ.cond rfl (fun hb => ?_) (fun hb => ?_)
      · replace H := pif_t (of_decide_eq_true hb) H
        cases H
      · replace H := pif_f (of_decide_eq_false hb) H
        refine CJ.seq ?_
        refine CJ.region ?_
        refine OJ.pures tU_ok 1 rfl ?_
        obtain ⟨t2, ht2, H⟩ := pbind H
        refine OJ.callF rfl rfl rfl rfl rfl hb146 rfl (unicode_utf8_ValidRune.c _ a1 _ ht2) ?_
        rintro _ w1 ⟨rfl, hs⟩
        replace hS := hS.grow hs
        refine OJ.pures tU_ok 2 rfl ?_
        refine OJ.nil (EJ.next ?_)
        refine CJ.cond rfl (fun hb => ?_) (fun hb => ?_)
        · replace H := pif_t hb H
          refine CJ.seq ?_
          refine CJ.region ?_
          refine OJ.pures tU_ok 1 rfl ?_
          refine OJ.nil (EJ.next ?_)
          refine CJ.ret (EJ.bkR (?_))
          obtain rfl := Option.some.inj H
          exact EJ.fin rfl (.tmp rfl .nil) ⟨rfl, hS.ext⟩
        · replace H := pifb_f hb H
          cases H

def strings_ContainsRune.f (a0 : ByteArray) (a1 : Int) : Option Bool := (strings_IndexRune.f a0 a1).bind fun t1 => some (decide (0 ≤ t1))
theorem strings_ContainsRune.c (w : World) (a0 : ByteArray) (a1 : Int) (r : Bool) (H : strings_ContainsRune.f a0 a1 = some r) :
    CV Tryd.prog 133 [.string a0, .int .i32 a1].toArray w fun v w' => v = .bool r ∧ Ext w w' := by
  have hS := (St.init w no)
  unfold strings_ContainsRune.f at H
  refine CV.body Tryd.func133 rfl Tryd.ntmps133 rfl ?_
  refine CJ.seq ?_
  refine CJ.region ?_
  refine OJ.pures tU_ok 1 rfl ?_
  refine OJ.nil (EJ.next ?_)
  refine CJ.seq ?_
  refine CJ.region ?_
  refine OJ.pures tU_ok 2 rfl ?_
  obtain ⟨t1, ht1, H⟩ := pbind H
  refine OJ.callF rfl rfl rfl rfl rfl hb141 rfl (strings_IndexRune.c _ a0 a1 _ ht1) ?_
  rintro _ w1 ⟨rfl, hs⟩
  replace hS := hS.grow hs
  refine OJ.pures tU_ok 2 rfl ?_
  refine OJ.nil (EJ.next ?_)
  refine CJ.ret (?_)
  obtain rfl := Option.some.inj H
  exact EJ.fin rfl (.tmp rfl .nil) ⟨rfl, hS.ext⟩

def strings_trimRightUnicode.l1 (a1 : ByteArray) : Nat → ByteArray → Option ByteArray
  | 0, _ => none
  | k + 1, y2 => if 0 < (y2.size : Int) then ((getB y2 (IntKind.i64.wrap ((y2.size : Int) - 1))).bind fun t3 => if 128 ≤ (IntKind.i32.wrap t3) then ((unicode_utf8_DecodeLastRuneInString.f k y2).bind fun t4 => (strings_ContainsRune.f a1 t4.1).bind fun t5 => if (!t5) = true then (some y2) else ((chk ((0 : Int) ≤ 0 ∧ 0 ≤ (IntKind.i64.wrap ((y2.size : Int) - t4.2)) ∧ (IntKind.i64.wrap ((y2.size : Int) - t4.2)) ≤ (y2.size : Int))).bind fun u6 => strings_trimRightUnicode.l1 a1 k (y2.extract 0 ((IntKind.i64.wrap ((y2.size : Int) - t4.2)).toNat)))) else ((strings_ContainsRune.f a1 (IntKind.i32.wrap t3)).bind fun t7 => if (!t7) = true then (some y2) else ((chk ((0 : Int) ≤ 0 ∧ 0 ≤ (IntKind.i64.wrap ((y2.size : Int) - 1)) ∧ (IntKind.i64.wrap ((y2.size : Int) - 1)) ≤ (y2.size : Int))).bind fun u8 => strings_trimRightUnicode.l1 a1 k (y2.extract 0 ((IntKind.i64.wrap ((y2.size : Int) - 1)).toNat))))) else (some y2)
def strings_trimRightUnicode.f (k : Nat) (a0 : ByteArray) (a1 : ByteArray) : Option ByteArray := (strings_trimRightUnicode.l1 a1 k a0).bind fun y1 => some y1
theorem strings_trimRightUnicode.c (k : Nat) (w : World) (a0 : ByteArray) (a1 : ByteArray) (r : ByteArray) (H : strings_trimRightUnicode.f k a0 a1 = some r) :
    CV Tryd.prog 119 [.string a0, .string a1].toArray w fun v w' => v = .string r ∧ Ext w w' := by
  have hS := (St.init w no)
  unfold strings_trimRightUnicode.f at H
  refine CV.body Tryd.func119 rfl Tryd.ntmps119 rfl ?_
  refine CJ.seq ?_
  refine CJ.region ?_
  refine OJ.pures tU_ok 1 rfl ?_
  refine OJ.nil (EJ.next ?_)
  obtain ⟨j50, H, K50⟩ := pbind H
  refine CJ.cut (fun F w1 => ∃ (y1 : ByteArray) , (some y1 : Option ByteArray) = some j50 ∧ F = [(0, .string y1)] ∧ St w no w1 [] []) ?_ ?_
  · skip
    refine CJ.block ?_
    refine CJ.loop (fun k F w1 => ∃ (y2 : ByteArray), F = [(0, .string y2), (1, .string a1)] ∧ St w no w1 [] [] ∧ strings_trimRightUnicode.l1 a1 k y2 = some j50) k (F' := [(0, .string a0), (1, .string a1)]) ⟨rfl, rfl, trivial⟩ ⟨a0, rfl, hS.pick [] [] rfl, H⟩ ?_
    rintro k F w1 ⟨y2, rfl, hS, H⟩
    cases k with
    | zero => rw [strings_trimRightUnicode.l1] at H; cases H
    | succ k =>
      rw [strings_trimRightUnicode.l1] at H
      refine CJ.seq ?_
      refine CJ.seq ?_
      refine CJ.region ?_
      refine OJ.pures tU_ok 3 rfl ?_
      refine OJ.nil (EJ.next ?_)
      refine CJ.cond rfl (fun hb => ?_) (fun hb => ?_)
      · replace H := pif_t (of_decide_eq_true hb) H
        refine CJ.skip (EJ.next ?_)
        refine CJ.block ?_
        refine CJ.seq ?_
        refine CJ.region ?_
        refine OJ.pures tU_ok 4 rfl ?_
        obtain ⟨t3, ht3, H⟩ := pbind H
        refine OJ.st rfl rfl rfl (SR.idxStr tU_ok rfl rfl rfl rfl ht3) ?_
        refine OJ.pures tU_ok 3 rfl ?_
        refine OJ.nil (EJ.next ?_)
        refine CJ.seq ?_
        refine CJ.seq ?_
        refine CJ.region ?_
        refine OJ.pures tU_ok 2 rfl ?_
        refine OJ.nil (EJ.next ?_)
        refine CJ.cond rfl (fun hb => ?_) (fun hb => ?_)
        · replace H := pif_t (of_decide_eq_true hb) H
          refine CJ.region ?_
          refine OJ.pures tU_ok 1 rfl ?_
          obtain ⟨t4, ht4, H⟩ := pbind H
          refine OJ.callF rfl rfl rfl rfl rfl hb134 rfl (unicode_utf8_DecodeLastRuneInString.c k _ y2 _ ht4) ?_
          rintro _ w1 ⟨rfl, hs⟩
          replace hS := hS.grow hs
          refine OJ.pures tU_ok 5 rfl ?_
          refine OJ.nil (EJ.next ?_)
          refine CJ.seq ?_
          refine CJ.seq ?_
          refine CJ.region ?_
          refine OJ.pures tU_ok 2 rfl ?_
          obtain ⟨t5, ht5, H⟩ := pbind H
          refine OJ.callF rfl rfl rfl rfl rfl hb133 rfl (strings_ContainsRune.c _ a1 t4.1 _ ht5) ?_
          rintro _ w1 ⟨rfl, hs⟩
          replace hS := hS.grow hs
          refine OJ.pures tU_ok 1 rfl ?_
          refine OJ.nil (EJ.next ?_)
          refine CJ.cond rfl (fun hb => ?_) (fun hb => ?_)
          · replace H := pif_t hb H
            refine CJ.exit (EJ.skE (EJ.bkE rfl (EJ.skE (EJ.hit (?_)))))
            exact EJ.meet (F' := [(0, .string y2)]) ⟨rfl, trivial⟩ ⟨y2, H, rfl, hS.pick [] [] rfl⟩
          · replace H := pifb_f hb H
            refine CJ.skip (EJ.next ?_)
            refine CJ.region ?_
            refine OJ.pures tU_ok 5 rfl ?_
            obtain ⟨u6, hu6, H⟩ := pbind H
            refine OJ.st rfl rfl rfl (SR.cutStr tU_ok (0) ((IntKind.i64.wrap ((y2.size : Int) - t4.2)).toNat) rfl rfl rfl rfl rfl (.inl ⟨rfl, rfl⟩) (.inr ⟨_, _, rfl, (by have := (chk_some hu6); omega), rfl⟩) (by have := (chk_some hu6); omega) (by have := (chk_some hu6); omega)) ?_
            refine OJ.pures tU_ok 1 rfl ?_
            refine OJ.nil (EJ.blk (?_))
            exact EJ.round k (F' := [(0, .string (y2.extract 0 ((IntKind.i64.wrap ((y2.size : Int) - t4.2)).toNat))), (1, .string a1)]) ⟨rfl, rfl, trivial⟩ (Nat.lt_succ_self _) ⟨(y2.extract 0 ((IntKind.i64.wrap ((y2.size : Int) - t4.2)).toNat)), rfl, hS.pick [] [] rfl, H⟩
        · replace H := pif_f (of_decide_eq_false hb) H
          refine CJ.skip (EJ.next ?_)
          refine CJ.seq ?_
          refine CJ.seq ?_
          refine CJ.region ?_
          refine OJ.pures tU_ok 2 rfl ?_
          obtain ⟨t7, ht7, H⟩ := pbind H
          refine OJ.callF rfl rfl rfl rfl rfl hb133 rfl (strings_ContainsRune.c _ a1 (IntKind.i32.wrap t3) _ ht7) ?_
          rintro _ w1 ⟨rfl, hs⟩
          replace hS := hS.grow hs
          refine OJ.pures tU_ok 1 rfl ?_
          refine OJ.nil (EJ.next ?_)
          refine CJ.cond rfl (fun hb => ?_) (fun hb => ?_)
          · replace H := pif_t hb H
            refine CJ.exit (EJ.skE (EJ.bkE rfl (EJ.skE (EJ.hit (?_)))))
            exact EJ.meet (F' := [(0, .string y2)]) ⟨rfl, trivial⟩ ⟨y2, H, rfl, hS.pick [] [] rfl⟩
          · replace H := pifb_f hb H
            refine CJ.skip (EJ.next ?_)
            refine CJ.region ?_
            refine OJ.pures tU_ok 5 rfl ?_
            obtain ⟨u8, hu8, H⟩ := pbind H
            refine OJ.st rfl rfl rfl (SR.cutStr tU_ok (0) ((IntKind.i64.wrap ((y2.size : Int) - 1)).toNat) rfl rfl rfl rfl rfl (.inl ⟨rfl, rfl⟩) (.inr ⟨_, _, rfl, (by have := (chk_some hu8); omega), rfl⟩) (by have := (chk_some hu8); omega) (by have := (chk_some hu8); omega)) ?_
            refine OJ.pures tU_ok 1 rfl ?_
            refine OJ.nil (EJ.blk (?_))
            exact EJ.round k (F' := [(0, .string (y2.extract 0 ((IntKind.i64.wrap ((y2.size : Int) - 1)).toNat))), (1, .string a1)]) ⟨rfl, rfl, trivial⟩ (Nat.lt_succ_self _) ⟨(y2.extract 0 ((IntKind.i64.wrap ((y2.size : Int) - 1)).toNat)), rfl, hS.pick [] [] rfl, H⟩
      · replace H := pif_f (of_decide_eq_false hb) H
        refine CJ.exit (EJ.skE (EJ.skE (EJ.hit (?_))))
        exact EJ.meet (F' := [(0, .string y2)]) ⟨rfl, trivial⟩ ⟨y2, H, rfl, hS.pick [] [] rfl⟩
  · rintro F w1 ⟨y1, he, rfl, hS⟩
    obtain rfl := Option.some.inj he
    have H := K50
    refine CJ.seq ?_
    refine CJ.region ?_
    refine OJ.pures tU_ok 2 rfl ?_
    refine OJ.nil (EJ.next ?_)
    refine CJ.ret (?_)
    obtain rfl := Option.some.inj H
    exact EJ.fin rfl (.tmp rfl .nil) ⟨rfl, hS.ext⟩

def strings_trimLeftUnicode.l1 (a1 : ByteArray) : Nat → ByteArray → Option ByteArray
  | 0, _ => none
  | k + 1, y2 => if 0 < (y2.size : Int) then ((unicode_utf8_DecodeRuneInString.f y2).bind fun t3 => (strings_ContainsRune.f a1 t3.1).bind fun t4 => if (!t4) = true then (some y2) else ((chk ((0 : Int) ≤ t3.2 ∧ t3.2 ≤ (y2.size : Int) ∧ (y2.size : Int) ≤ (y2.size : Int))).bind fun u5 => strings_trimLeftUnicode.l1 a1 k (y2.extract t3.2.toNat y2.size))) else (some y2)
def strings_trimLeftUnicode.f (k : Nat) (a0 : ByteArray) (a1 : ByteArray) : Option ByteArray := (strings_trimLeftUnicode.l1 a1 k a0).bind fun y1 => some y1
theorem strings_trimLeftUnicode.c (k : Nat) (w : World) (a0 : ByteArray) (a1 : ByteArray) (r : ByteArray) (H : strings_trimLeftUnicode.f k a0 a1 = some r) :
    CV Tryd.prog 118 [.string a0, .string a1].toArray w fun v w' => v = .string r ∧ Ext w w' := by
  have hS := (St.init w no)
  unfold strings_trimLeftUnicode.f at H
  refine CV.body Tryd.func118 rfl Tryd.ntmps118 rfl ?_
  refine CJ.seq ?_
  refine CJ.region ?_
  refine OJ.pures tU_ok 1 rfl ?_
  refine OJ.nil (EJ.next ?_)
  obtain ⟨j55, H, K55⟩ := pbind H
  refine CJ.cut (fun F w1 => ∃ (y1 : ByteArray) , (some y1 : Option ByteArray) = some j55 ∧ F = [(0, .string y1)] ∧ St w no w1 [] []) ?_ ?_
  · skip
    refine CJ.block ?_
    refine CJ.loop (fun k F w1 => ∃ (y2 : ByteArray), F = [(0, .string y2), (1, .string a1)] ∧ St w no w1 [] [] ∧ strings_trimLeftUnicode.l1 a1 k y2 = some j55) k (F' := [(0, .string a0), (1, .string a1)]) ⟨rfl, rfl, trivial⟩ ⟨a0, rfl, hS.pick [] [] rfl, H⟩ ?_
    rintro k F w1 ⟨y2, rfl, hS, H⟩
    cases k with
    | zero => rw [strings_trimLeftUnicode.l1] at H; cases H
    | succ k =>
      rw [strings_trimLeftUnicode.l1] at H
      refine CJ.seq ?_
      refine CJ.seq ?_
      refine CJ.region ?_
      refine OJ.pures tU_ok 3 rfl ?_
      refine OJ.nil (EJ.next ?_)
      refine CJ.cond rfl (fun hb => ?_) (fun hb => ?_)
      · replace H := pif_t (of_decide_eq_true hb) H
        refine CJ.skip (EJ.next ?_)
        refine CJ.block ?_
        refine CJ.seq ?_
        refine CJ.region ?_
        refine OJ.pures tU_ok 1 rfl ?_
        obtain ⟨t3, ht3, H⟩ := pbind H
        refine OJ.callF rfl rfl rfl rfl rfl hb132 rfl (unicode_utf8_DecodeRuneInString.c _ y2 _ ht3) ?_
        rintro _ w1 ⟨rfl, hs⟩
        replace hS := hS.grow hs
        refine OJ.pures tU_ok 5 rfl ?_
        refine OJ.nil (EJ.next ?_)
        refine CJ.seq ?_
        refine CJ.seq ?_
        refine CJ.region ?_
        refine OJ.pures tU_ok 2 rfl ?_
        obtain ⟨t4, ht4, H⟩ := pbind H
        refine OJ.callF rfl rfl rfl rfl rfl hb133 rfl (strings_ContainsRune.c _ a1 t3.1 _ ht4) ?_
        rintro _ w1 ⟨rfl, hs⟩
        replace hS := hS.grow hs
        refine OJ.pures tU_ok 1 rfl ?_
        refine OJ.nil (EJ.next ?_)
        refine CJ.cond rfl (fun hb => ?_) (fun hb => ?_)
        · replace H := pif_t hb H
          refine CJ.exit (EJ.skE (EJ.bkE rfl (EJ.skE (EJ.hit (?_)))))
          exact EJ.meet (F' := [(0, .string y2)]) ⟨rfl, trivial⟩ ⟨y2, H, rfl, hS.pick [] [] rfl⟩
        · replace H := pifb_f hb H
          refine CJ.skip (EJ.next ?_)
          refine CJ.region ?_
          refine OJ.pures tU_ok 2 rfl ?_
          obtain ⟨u5, hu5, H⟩ := pbind H
          refine OJ.st rfl rfl rfl (SR.cutStr tU_ok (t3.2.toNat) (y2.size) rfl rfl rfl rfl rfl (.inr ⟨_, _, rfl, (chk_some hu5).1, rfl⟩) (.inl ⟨rfl, rfl⟩) (by have := (chk_some hu5); omega) (by have := (chk_some hu5); omega)) ?_
          refine OJ.pures tU_ok 1 rfl ?_
          refine OJ.nil (EJ.blk (?_))
          exact EJ.round k (F' := [(0, .string (y2.extract t3.2.toNat y2.size)), (1, .string a1)]) ⟨rfl, rfl, trivial⟩ (Nat.lt_succ_self _) ⟨(y2.extract t3.2.toNat y2.size), rfl, hS.pick [] [] rfl, H⟩
      · replace H := pif_f (of_decide_eq_false hb) H
        refine CJ.exit (EJ.skE (EJ.skE (EJ.hit (?_))))
        exact EJ.meet (F' := [(0, .string y2)]) ⟨rfl, trivial⟩ ⟨y2, H, rfl, hS.pick [] [] rfl⟩
  · rintro F w1 ⟨y1, he, rfl, hS⟩
    obtain rfl := Option.some.inj he
    have H := K55
    refine CJ.seq ?_
    refine CJ.region ?_
    refine OJ.pures tU_ok 2 rfl ?_
    refine OJ.nil (EJ.next ?_)
    refine CJ.ret (?_)
    obtain rfl := Option.some.inj H
    exact EJ.fin rfl (.tmp rfl .nil) ⟨rfl, hS.ext⟩

def strings_Trim.f (k : Nat) (a0 : ByteArray) (a1 : ByteArray) : Option ByteArray := (if a0 = ByteArray.empty then (some true) else (some (decide (a1 = ByteArray.empty)))).bind fun y1 => if y1 = true then (some a0) else ((if (a1.size : Int) = 1 then ((getB a1 0).bind fun t3 => some (decide (t3 < 128))) else (some false)).bind fun y2 => if y2 = true then ((getB a1 0).bind fun t4 => (getB a1 0).bind fun t5 => (strings_trimRightByte.f k a0 t4).bind fun t6 => (strings_trimLeftByte.f k t6 t5).bind fun t7 => some t7) else ((strings_makeASCIISet.f k a1).bind fun t8 => if t8.2 = true then ((strings_trimRightASCII.f k a0 t8.1).bind fun t10 => (strings_trimLeftASCII.f k t10 t8.1).bind fun t11 => some t11) else ((strings_trimRightUnicode.f k a0 a1).bind fun t12 => (strings_trimLeftUnicode.f k t12 a1).bind fun t13 => some t13)))
theorem strings_Trim.c (k : Nat) (w : World) (a0 : ByteArray) (a1 : ByteArray) (r : ByteArray) (H : strings_Trim.f k a0 a1 = some r) :
    CV Tryd.prog 94 [.string a0, .string a1].toArray w fun v w' => v = .string r ∧ Ext w w' := by
  have hS := (St.init w no)
  unfold strings_Trim.f at H
  refine CV.body Tryd.func94 rfl Tryd.ntmps94 rfl ?_
  refine CJ.seq ?_
  refine CJ.region ?_
  refine OJ.pures tU_ok 1 rfl ?_
  refine OJ.nil (EJ.next ?_)
  refine CJ.seq ?_
  obtain ⟨j43, H, K43⟩ := pbind H
  refine CJ.cut (fun F w1 => ∃ (y1 : Bool) , (some y1 : Option Bool) = some j43 ∧ F = [(0, .string a0), (1, .string a1), (12, .bool y1)] ∧ St w no w1 [] []) ?_ ?_
  · skip
    refine CJ.region ?_
    refine OJ.pures tU_ok 3 rfl ?_
    refine OJ.split (t := 9) rfl (fun hb => ?_) (fun hb => ?_)
    · replace H := pif_t (of_decide_eq_true hb) H
      refine OJ.pures tU_ok 3 rfl ?_
      refine OJ.nil ?_
      exact EJ.meet (F' := [(0, .string a0), (1, .string a1), (12, .bool true)]) ⟨rfl, rfl, rfl, trivial⟩ ⟨true, H, rfl, hS.pick [] [] rfl⟩
    · replace H := pif_f (of_decide_eq_false hb) H
      refine OJ.pures tU_ok 3 rfl ?_
      refine OJ.nil ?_
      exact EJ.meet (F' := [(0, .string a0), (1, .string a1), (12, .bool (decide (a1 = ByteArray.empty)))]) ⟨rfl, rfl, rfl, trivial⟩ ⟨(decide (a1 = ByteArray.empty)), H, rfl, hS.pick [] [] rfl⟩
  · rintro F w1 ⟨y1, he, rfl, hS⟩
    obtain rfl := Option.some.inj he
    have H := K43
    refine CJ.cond rfl (fun hb => ?_) (fun hb => ?_)
    · replace H := pif_t hb H
      refine CJ.seq ?_
      refine CJ.region ?_
      refine OJ.pures tU_ok 2 rfl ?_
      refine OJ.nil (EJ.next ?_)
      refine CJ.ret (EJ.skR (?_))
      obtain rfl := Option.some.inj H
      exact EJ.fin rfl (.tmp rfl .nil) ⟨rfl, hS.ext⟩
    · replace H := pifb_f hb H
      refine CJ.skip (EJ.next ?_)
      refine CJ.seq ?_
      obtain ⟨j44, H, K44⟩ := pbind H
      refine CJ.cut (fun F w1 => ∃ (y2 : Bool) , (some y2 : Option Bool) = some j44 ∧ F = [(0, .string a0), (1, .string a1), (21, .bool y2)] ∧ St w no w1 [] []) ?_ ?_
      · skip
        refine CJ.region ?_
        refine OJ.pures tU_ok 4 rfl ?_
        refine OJ.split (t := 17) rfl (fun hb => ?_) (fun hb => ?_)
        · replace H := pif_t (of_decide_eq_true hb) H
          refine OJ.pures tU_ok 1 rfl ?_
          obtain ⟨t3, ht3, H⟩ := pbind H
          refine OJ.st rfl rfl rfl (SR.idxStr tU_ok rfl rfl rfl rfl ht3) ?_
          refine OJ.pures tU_ok 2 rfl ?_
          refine OJ.nil ?_
          exact EJ.meet (F' := [(0, .string a0), (1, .string a1), (21, .bool (decide (t3 < 128)))]) ⟨rfl, rfl, rfl, trivial⟩ ⟨(decide (t3 < 128)), H, rfl, hS.pick [] [] rfl⟩
        · replace H := pif_f (of_decide_eq_false hb) H
          refine OJ.pures tU_ok 4 rfl ?_
          refine OJ.nil ?_
          exact EJ.meet (F' := [(0, .string a0), (1, .string a1), (21, .bool false)]) ⟨rfl, rfl, rfl, trivial⟩ ⟨false, H, rfl, hS.pick [] [] rfl⟩
      · rintro F w1 ⟨y2, he, rfl, hS⟩
        obtain rfl := Option.some.inj he
        have H := K44
        refine CJ.cond rfl (fun hb => ?_) (fun hb => ?_)
        · replace H := pif_t hb H
          refine CJ.seq ?_
          refine CJ.draw [] [0, 1, 2, 4, 5, 3, 6, 7] mixed (by kernel_rfl) hS fun w1 hS => ?_
          refine DJ.pures tU_ok 2 rfl ?_
          obtain ⟨t4, ht4, H⟩ := pbind H
          refine DJ.st rfl rfl rfl rfl rfl (SR.idxStr tU_ok rfl rfl rfl rfl ht4) ?_
          refine DJ.pures tU_ok 1 rfl ?_
          obtain ⟨t5, ht5, H⟩ := pbind H
          refine DJ.st rfl rfl rfl rfl rfl (SR.idxStr tU_ok rfl rfl rfl rfl ht5) ?_
          obtain ⟨t6, ht6, H⟩ := pbind H
          refine DJ.callF rfl rfl rfl rfl rfl rfl rfl hb114 rfl (strings_trimRightByte.c k _ a0 t4 _ ht6) (by rintro v w' ⟨rfl, hs⟩; exact hs) ?_
          rintro _ w1 ⟨rfl, hs⟩
          replace hS := hS.grow hs
          obtain ⟨t7, ht7, H⟩ := pbind H
          refine DJ.callF rfl rfl rfl rfl rfl rfl rfl hb113 rfl (strings_trimLeftByte.c k _ t6 t5 _ ht7) (by rintro v w' ⟨rfl, hs⟩; exact hs) ?_
          rintro _ w1 ⟨rfl, hs⟩
          replace hS := hS.grow hs
          refine DJ.pures tU_ok 1 rfl ?_
          refine DJ.nil (EJ.next ?_)
          refine CJ.ret (EJ.skR (?_))
          obtain rfl := Option.some.inj H
          exact EJ.fin rfl (.tmp rfl .nil) ⟨rfl, hS.ext⟩
        · replace H := pifb_f hb H
          refine CJ.skip (EJ.next ?_)
          refine CJ.seq ?_
          refine CJ.seq ?_
          refine CJ.region ?_
          refine OJ.pures tU_ok 1 rfl ?_
          obtain ⟨t8, ht8, H⟩ := pbind H
          refine OJ.callF rfl rfl rfl rfl rfl hb115 rfl (strings_makeASCIISet.c k _ a1 _ ht8) ?_
          rintro _ w1 ⟨rfl, hs⟩
          replace hS := hS.grow hs
          refine OJ.pures tU_ok 3 rfl ?_
          refine OJ.ef rfl rfl rfl (Ef.alloc hS tI_ok rfl rfl ((carr 256 cb).enc (Arr.mk' false : Arr 256 Bool)) (by kernel_rfl)) ?_
          rintro _ w1 ⟨b9, rfl, hS⟩
          refine OJ.es rfl rfl (Es.put tI_ok hS (i := 0) rfl rfl rfl rfl rfl (vs := (carr 256 cb).enc t8.1) rfl ((carr 256 cb).len _) ((carr 256 cb).one _) (Put.all (carr 256 cb) (Arr.mk' false : Arr 256 Bool) t8.1) (by (try simp only [add_lit, Nat.add_assoc, Nat.zero_add, Nat.add_zero]) <;> rfl)) ?_
          intro w1 hS
          refine OJ.pures tU_ok 1 rfl ?_
          refine OJ.nil (EJ.next ?_)
          refine CJ.seq ?_
          refine CJ.region ?_
          refine OJ.pures tU_ok 1 rfl ?_
          refine OJ.nil (EJ.next ?_)
          refine CJ.cond rfl (fun hb => ?_) (fun hb => ?_)
          · replace H := pif_t hb H
            refine CJ.seq ?_
            refine CJ.region ?_
            refine OJ.pures tU_ok 1 rfl ?_
            obtain ⟨t10, ht10, H⟩ := pbind H
            refine OJ.callF rfl rfl rfl rfl rfl hb117 rfl (strings_trimRightASCII.c k _ a0 _ t8.1 (hS.cells (i := 0) rfl) _ ht10) ?_
            rintro _ w1 ⟨rfl, hs⟩
            replace hS := hS.grow hs
            obtain ⟨t11, ht11, H⟩ := pbind H
            refine OJ.callF rfl rfl rfl rfl rfl hb116 rfl (strings_trimLeftASCII.c k _ t10 _ t8.1 (hS.cells (i := 0) rfl) _ ht11) ?_
            rintro _ w1 ⟨rfl, hs⟩
            replace hS := hS.grow hs
            refine OJ.pures tU_ok 1 rfl ?_
            refine OJ.nil (EJ.next ?_)
            refine CJ.ret (EJ.skR (?_))
            obtain rfl := Option.some.inj H
            exact EJ.fin rfl (.tmp rfl .nil) ⟨rfl, hS.ext⟩
          · replace H := pifb_f hb H
            refine CJ.skip (EJ.next ?_)
            refine CJ.seq ?_
            refine CJ.region ?_
            refine OJ.pures tU_ok 2 rfl ?_
            obtain ⟨t12, ht12, H⟩ := pbind H
            refine OJ.callF rfl rfl rfl rfl rfl hb119 rfl (strings_trimRightUnicode.c k _ a0 a1 _ ht12) ?_
            rintro _ w1 ⟨rfl, hs⟩
            replace hS := hS.grow hs
            refine OJ.pures tU_ok 1 rfl ?_
            obtain ⟨t13, ht13, H⟩ := pbind H
            refine OJ.callF rfl rfl rfl rfl rfl hb118 rfl (strings_trimLeftUnicode.c k _ t12 a1 _ ht13) ?_
            rintro _ w1 ⟨rfl, hs⟩
            replace hS := hS.grow hs
            refine OJ.pures tU_ok 1 rfl ?_
            refine OJ.nil (EJ.next ?_)
            refine CJ.ret (?_)
            obtain rfl := Option.some.inj H
            exact EJ.fin rfl (.tmp rfl .nil) ⟨rfl, hS.ext⟩

def impl_isName.f (k : Nat) (a0 : ByteArray) : Option Bool := (impl_within.f (a0.size : Int) 1 8).bind fun t1 => if t1 = true then ((strings_Trim.f k a0 (⟨#[97, 98, 99, 100, 101, 102, 103, 104, 105, 106, 107, 108, 109, 110, 111, 112, 113, 114, 115, 116, 117, 118, 119, 120, 121, 122]⟩ : ByteArray)).bind fun t2 => some (decide (t2 = ByteArray.empty))) else (some false)
theorem impl_isName.c (k : Nat) (w : World) (a0 : ByteArray) (r : Bool) (H : impl_isName.f k a0 = some r) :
    CV Tryd.prog 78 [.string a0].toArray w fun v w' => v = .bool r ∧ Ext w w' := by
  have hS := (St.init w no)
  unfold impl_isName.f at H
  refine CV.body Tryd.func78 rfl Tryd.ntmps78 rfl ?_
  refine CJ.seq ?_
  refine CJ.region ?_
  refine OJ.pures tU_ok 1 rfl ?_
  refine OJ.nil (EJ.next ?_)
  refine CJ.seq ?_
  refine CJ.region ?_
  refine OJ.pures tU_ok 2 rfl ?_
  obtain ⟨t1, ht1, H⟩ := pbind H
  refine OJ.callF rfl rfl rfl rfl rfl hb63 rfl (impl_within.c _ (a0.size : Int) 1 8 _ ht1) ?_
  rintro _ w1 ⟨rfl, hs⟩
  replace hS := hS.grow hs
  refine OJ.pures tU_ok 1 rfl ?_
  refine OJ.split (t := 6) rfl (fun hb => ?_) (fun hb => ?_)
  · replace H := pif_t hb H
    refine OJ.pures tU_ok 1 rfl ?_
    obtain ⟨t2, ht2, H⟩ := pbind H
    refine OJ.callF rfl rfl rfl rfl rfl hb94 rfl (strings_Trim.c k _ a0 (⟨#[97, 98, 99, 100, 101, 102, 103, 104, 105, 106, 107, 108, 109, 110, 111, 112, 113, 114, 115, 116, 117, 118, 119, 120, 121, 122]⟩ : ByteArray) _ ht2) ?_
    rintro _ w1 ⟨rfl, hs⟩
    replace hS := hS.grow hs
    refine OJ.pures tU_ok 3 rfl ?_
    refine OJ.nil (EJ.next ?_)
    refine CJ.ret (?_)
    obtain rfl := Option.some.inj H
    exact EJ.fin rfl (.tmp rfl .nil) ⟨rfl, hS.ext⟩
  · replace H := pifb_f hb H
    refine OJ.pures tU_ok 5 rfl ?_
    refine OJ.nil (EJ.next ?_)
    refine CJ.ret (?_)
    obtain rfl := Option.some.inj H
    exact EJ.fin rfl (.tmp rfl .nil) ⟨rfl, hS.ext⟩

def slices_Index_string_string.l1 (a0 : List ByteArray) (a1 : ByteArray) : Nat → Int → Option (Int ⊕ Unit)
  | 0, _ => none
  | k + 1, y1 => if y1 < (a0.length : Int) then ((getI a0 y1).bind fun t2 => if a1 = t2 then (some (Sum.inl y1)) else (slices_Index_string_string.l1 a0 a1 k (IntKind.i64.wrap (y1 + 1)))) else (some (Sum.inr ()))
def slices_Index_string_string.f (k : Nat) (a0 : List ByteArray) (a1 : ByteArray) : Option Int := (slices_Index_string_string.l1 a0 a1 k 0).bind fun s56 => match s56 with | .inl r => some r | .inr _ => some (-1)
theorem slices_Index_string_string.c (k : Nat) (w : World) (Aa0 : Option Addr) (ca0 : Nat) (a0 : List ByteArray) (hr0 : Rd G.cs w Aa0 a0) (hc0 : a0.length ≤ ca0) (a1 : ByteArray) (r : Int) (H : slices_Index_string_string.f k a0 a1 = some r) :
    CV Tryd.prog 95 [.slice Aa0 a0.length ca0, .string a1].toArray w fun v w' => v = .int .i64 r ∧ Ext w w' := by
  have hS := ((St.init w no).param G.cs Aa0 ca0 a0 hr0 hc0)
  unfold slices_Index_string_string.f at H
  refine CV.body Tryd.func95 rfl Tryd.ntmps95 rfl ?_
  refine CJ.seq ?_
  refine CJ.region ?_
  refine OJ.pures tU_ok 1 rfl ?_
  refine OJ.nil (EJ.next ?_)
  refine CJ.seq ?_
  refine CJ.seq ?_
  refine CJ.region ?_
  refine OJ.pures tU_ok 3 rfl ?_
  refine OJ.nil (EJ.next ?_)
  obtain ⟨j56, H, K56⟩ := pbind H
  refine CJ.cut1 (fun F w1 => (some (Sum.inr ()) : Option (Int ⊕ Unit)) = some j56 ∧ F = [] ∧ St w no w1 [] [roC G.cs Aa0 ca0 a0]) ?_ ?_
  · skip
    refine CJ.block ?_
    refine CJ.loop (fun k F w1 => ∃ (y1 : Int), F = [(0, .slice Aa0 a0.length ca0), (1, .string a1), (7, .int .i64 (a0.length : Int)), (8, .int .i64 y1)] ∧ St w no w1 [] [roC G.cs Aa0 ca0 a0] ∧ slices_Index_string_string.l1 a0 a1 k y1 = some j56) k (F' := [(0, .slice Aa0 a0.length ca0), (1, .string a1), (7, .int .i64 (a0.length : Int)), (8, .int .i64 0)]) ⟨rfl, rfl, rfl, rfl, trivial⟩ ⟨0, rfl, hS.pick [] [0] rfl, H⟩ ?_
    rintro k F w1 ⟨y1, rfl, hS, H⟩
    cases k with
    | zero => rw [slices_Index_string_string.l1] at H; cases H
    | succ k =>
      rw [slices_Index_string_string.l1] at H
      refine CJ.seq ?_
      refine CJ.region ?_
      refine OJ.pures tU_ok 1 rfl ?_
      refine OJ.nil (EJ.next ?_)
      refine CJ.seq ?_
      refine CJ.cond rfl (fun hb => ?_) (fun hb => ?_)
      · replace H := pif_t (of_decide_eq_true hb) H
        refine CJ.skip (EJ.next ?_)
        refine CJ.seq ?_
        refine CJ.block ?_
        refine CJ.seq ?_
        refine CJ.region ?_
        refine OJ.pures tU_ok 2 rfl ?_
        refine OJ.nil (EJ.next ?_)
        refine CJ.seq ?_
        refine CJ.region ?_
        refine OJ.pures tU_ok 3 rfl ?_
        obtain ⟨t2, ht2, H⟩ := pbind H
        obtain ⟨ad2, e2⟩ := (hS.rd' (i := 0) rfl).some' ht2
        refine OJ.st rfl rfl rfl (SR.idxS tU_ok tI_ok rfl rfl rfl rfl e2 rfl (getI_some ht2).1) ?_
        refine OJ.st rfl rfl rfl (SR.load rfl rfl (fun w' hx => ld1 tU_ok rfl rfl (CA.ext ((hS.rd' (i := 0) rfl).at_ e2 ht2) hx) rfl)) ?_
        refine OJ.pures tU_ok 1 rfl ?_
        refine OJ.nil (EJ.next ?_)
        refine CJ.cond rfl (fun hb => ?_) (fun hb => ?_)
        · replace H := pif_t (of_decide_eq_true hb) H
          refine CJ.seq ?_
          refine CJ.region ?_
          refine OJ.pures tU_ok 2 rfl ?_
          refine OJ.nil (EJ.next ?_)
          refine CJ.ret (EJ.bkR (EJ.skR (EJ.skR (EJ.bkR (EJ.skR (EJ.skR (?_)))))))
          first | (obtain rfl := Option.some.inj H; have H := K56) | (obtain ⟨q56, H2, e56⟩ := pbind H; obtain rfl := Option.some.inj e56; obtain rfl := Option.some.inj K56; have H := H2)
          obtain rfl := Option.some.inj H
          exact EJ.fin rfl (.tmp rfl .nil) ⟨rfl, hS.ext⟩
        · replace H := pif_f (of_decide_eq_false hb) H
          refine CJ.skip (EJ.blk (EJ.next ?_))
          refine CJ.region ?_
          refine OJ.pures tU_ok 2 rfl ?_
          refine OJ.nil ?_
          exact EJ.round k (F' := [(0, .slice Aa0 a0.length ca0), (1, .string a1), (7, .int .i64 (a0.length : Int)), (8, .int .i64 (IntKind.i64.wrap (y1 + 1)))]) ⟨rfl, rfl, rfl, rfl, trivial⟩ (Nat.lt_succ_self _) ⟨(IntKind.i64.wrap (y1 + 1)), rfl, hS.pick [] [0] rfl, H⟩
      · replace H := pif_f (of_decide_eq_false hb) H
        refine CJ.exit (EJ.skE (EJ.skE (EJ.hit (?_))))
        exact EJ.meet (F' := []) trivial ⟨H, rfl, hS.pick [] [0] rfl⟩
  · rintro F w1 ⟨he, rfl, hS⟩
    obtain rfl := Option.some.inj he
    have H := K56
    refine EJ.next ?_
    refine CJ.seq ?_
    refine CJ.region ?_
    refine OJ.pures tU_ok 1 rfl ?_
    refine OJ.nil (EJ.next ?_)
    refine CJ.ret (?_)
    obtain rfl := Option.some.inj H
    exact EJ.fin rfl (.tmp rfl .nil) ⟨rfl, hS.ext⟩

def slices_Contains_string_string.f (k : Nat) (a0 : List ByteArray) (a1 : ByteArray) : Option Bool := (slices_Index_string_string.f k a0 a1).bind fun t1 => some (decide (0 ≤ t1))
theorem slices_Contains_string_string.c (k : Nat) (w : World) (Aa0 : Option Addr) (ca0 : Nat) (a0 : List ByteArray) (hr0 : Rd G.cs w Aa0 a0) (hc0 : a0.length ≤ ca0) (a1 : ByteArray) (r : Bool) (H : slices_Contains_string_string.f k a0 a1 = some r) :
    CV Tryd.prog 79 [.slice Aa0 a0.length ca0, .string a1].toArray w fun v w' => v = .bool r ∧ Ext w w' := by
  have hS := ((St.init w no).param G.cs Aa0 ca0 a0 hr0 hc0)
  unfold slices_Contains_string_string.f at H
  refine CV.body Tryd.func79 rfl Tryd.ntmps79 rfl ?_
  refine CJ.seq ?_
  refine CJ.region ?_
  refine OJ.pures tU_ok 1 rfl ?_
  refine OJ.nil (EJ.next ?_)
  refine CJ.seq ?_
  refine CJ.region ?_
  refine OJ.pures tU_ok 2 rfl ?_
  obtain ⟨t1, ht1, H⟩ := pbind H
  refine OJ.callF rfl rfl rfl rfl rfl hb95 rfl (slices_Index_string_string.c k _ Aa0 ca0 a0 (hS.rd' (i := 0) rfl) (hS.le' (i := 0) rfl) a1 _ ht1) ?_
  rintro _ w1 ⟨rfl, hs⟩
  replace hS := hS.grow hs
  refine OJ.pures tU_ok 2 rfl ?_
  refine OJ.nil (EJ.next ?_)
  refine CJ.ret (?_)
  obtain rfl := Option.some.inj H
  exact EJ.fin rfl (.tmp rfl .nil) ⟨rfl, hS.ext⟩

def impl_Herd_areFoes.f (a0 : Herd) (a1 : Int) (a2 : Int) : Option Bool := (getI a0.Foes a1).bind fun t2 => (chk (0 ≤ a2)).bind fun u3 => some (decide ((andI .u16 (shrI .u16 t2 a2) 1) = 1))
theorem impl_Herd_areFoes.c (w : World) (Aa0_0 : Option Addr) (ca0_0 : Nat) (Aa0_1 : Option Addr) (ca0_1 : Nat) (Aa0_2 : Option Addr) (ca0_2 : Nat) (a0 : Herd) (hr0_0 : Rd G.cs w Aa0_0 a0.Names) (hc0_0 : a0.Names.length ≤ ca0_0) (hr0_1 : Rd (ci .i16) w Aa0_1 a0.Eats) (hc0_1 : a0.Eats.length ≤ ca0_1) (hr0_2 : Rd (ci .u16) w Aa0_2 a0.Foes) (hc0_2 : a0.Foes.length ≤ ca0_2) (a1 : Int) (a2 : Int) (r : Bool) (H : impl_Herd_areFoes.f a0 a1 a2 = some r) :
    CV Tryd.prog 38 [.agg [.slice Aa0_0 a0.Names.length ca0_0, .slice Aa0_1 a0.Eats.length ca0_1, .slice Aa0_2 a0.Foes.length ca0_2].toArray, .int .i64 a1, .int .i64 a2].toArray w fun v w' => v = .bool r ∧ Ext w w' := by
  have hS := ((((St.init w no).param G.cs Aa0_0 ca0_0 a0.Names hr0_0 hc0_0).param (ci .i16) Aa0_1 ca0_1 a0.Eats hr0_1 hc0_1).param (ci .u16) Aa0_2 ca0_2 a0.Foes hr0_2 hc0_2)
  unfold impl_Herd_areFoes.f at H
  refine CV.body Tryd.func38 rfl Tryd.ntmps38 rfl ?_
  refine CJ.seq ?_
  refine CJ.region ?_
  refine OJ.ef rfl rfl rfl (Ef.box hS rfl rfl ([.slice Aa0_0 a0.Names.length ca0_0, .slice Aa0_1 a0.Eats.length ca0_1, .slice Aa0_2 a0.Foes.length ca0_2]) rfl) ?_
  rintro _ w1 ⟨b1, rfl, hS⟩
  refine OJ.pures tU_ok 1 rfl ?_
  refine OJ.nil (EJ.next ?_)
  refine CJ.seq ?_
  refine CJ.region ?_
  refine OJ.st rfl rfl rfl (SR.fieldAddr tU_ok tI_ok rfl rfl rfl rfl rfl rfl) ?_
  refine OJ.st rfl rfl rfl (SR.load rfl rfl (fun w' hx => ld1 tU_ok rfl rfl (CA.ext (CA.sub (hS.cells (i := 0) rfl) 2) hx) rfl)) ?_
  refine OJ.pures tU_ok 1 rfl ?_
  obtain ⟨t2, ht2, H⟩ := pbind H
  obtain ⟨ad2, e2⟩ := (hS.rd' (i := 2) rfl).some' ht2
  refine OJ.st rfl rfl rfl (SR.idxS tU_ok tI_ok rfl rfl rfl rfl e2 rfl (getI_some ht2).1) ?_
  refine OJ.st rfl rfl rfl (SR.load rfl rfl (fun w' hx => ld1 tU_ok rfl rfl (CA.ext ((hS.rd' (i := 2) rfl).at_ e2 ht2) hx) rfl)) ?_
  refine OJ.pures tU_ok 1 rfl ?_
  obtain ⟨u3, hu3, H⟩ := pbind H
  refine OJ.st rfl rfl rfl (SR.shr rfl rfl rfl (chk_some hu3)) ?_
  refine OJ.pures tU_ok 3 rfl ?_
  refine OJ.nil (EJ.next ?_)
  refine CJ.ret (?_)
  obtain rfl := Option.some.inj H
  exact EJ.fin rfl (.tmp rfl .nil) ⟨rfl, hS.ext⟩

def impl_ValidHerd.l2 (a0 : Herd) (y3 : Int) : Nat → Int → Option (((Bool ⊕ Unit) ⊕ Unit) ⊕ Unit)
  | 0, _ => none
  | k + 1, y14 => if y14 < y3 then ((impl_Herd_areFoes.f a0 y3 y14).bind fun t15 => (impl_Herd_areFoes.f a0 y14 y3).bind fun t16 => if t15 ≠ t16 then (some (Sum.inl (Sum.inl (Sum.inl false)))) else (impl_ValidHerd.l2 a0 y3 k (IntKind.i64.wrap (y14 + 1)))) else (some (Sum.inr ()))
def impl_ValidHerd.l1 (a0 : Herd) : Nat → Int → Option (Bool ⊕ Unit)
  | 0, _ => none
  | k + 1, y3 => if y3 < (a0.Names.length : Int) then (((getI a0.Names y3).bind fun t4 => ((impl_isName.f k t4).bind fun t6 => if (!t6) = true then (some true) else ((chk ((0 : Int) ≤ 0 ∧ 0 ≤ y3 ∧ y3 ≤ (a0.Names.length : Int))).bind fun u7 => (slices_Contains_string_string.f k ((a0.Names.drop 0).take (y3.toNat - 0)) t4).bind fun t8 => if t8 = true then (some true) else ((getI a0.Eats y3).bind fun t9 => (impl_within.f (IntKind.i64.wrap t9) 0 100).bind fun t10 => if (!t10) = true then (some true) else ((getI a0.Foes y3).bind fun t11 => (chk (0 ≤ (a0.Names.length : Int))).bind fun u12 => if (shrI .u16 t11 (a0.Names.length : Int)) ≠ 0 then (some true) else ((impl_Herd_areFoes.f a0 y3 y3).bind fun t13 => some t13))))).bind fun y5 => if y5 = true then (some (Sum.inl (Sum.inl false))) else ((impl_ValidHerd.l2 a0 y3 k 0).bind fun s69 => match s69 with | .inl r => some r | .inr _ => some (Sum.inr ()))).bind fun s65 => match s65 with | .inl r => some r | .inr _ => impl_ValidHerd.l1 a0 k (IntKind.i64.wrap (y3 + 1))) else (some (Sum.inr ()))
def impl_ValidHerd.f (k : Nat) (a0 : Herd) : Option Bool := (if 14 < (a0.Names.length : Int) then (some true) else (if (a0.Eats.length : Int) ≠ (a0.Names.length : Int) then (some true) else (some (decide ((a0.Foes.length : Int) ≠ (a0.Names.length : Int)))))).bind fun y2 => if y2 = true then (some false) else ((impl_ValidHerd.l1 a0 k 0).bind fun s40 => match s40 with | .inl r => some r | .inr _ => some true)
theorem impl_ValidHerd.c (k : Nat) (w : World) (Aa0_0 : Option Addr) (ca0_0 : Nat) (Aa0_1 : Option Addr) (ca0_1 : Nat) (Aa0_2 : Option Addr) (ca0_2 : Nat) (a0 : Herd) (hr0_0 : Rd G.cs w Aa0_0 a0.Names) (hc0_0 : a0.Names.length ≤ ca0_0) (hr0_1 : Rd (ci .i16) w Aa0_1 a0.Eats) (hc0_1 : a0.Eats.length ≤ ca0_1) (hr0_2 : Rd (ci .u16) w Aa0_2 a0.Foes) (hc0_2 : a0.Foes.length ≤ ca0_2) (r : Bool) (H : impl_ValidHerd.f k a0 = some r) :
    CV Tryd.prog 51 [.agg [.slice Aa0_0 a0.Names.length ca0_0, .slice Aa0_1 a0.Eats.length ca0_1, .slice Aa0_2 a0.Foes.length ca0_2].toArray].toArray w fun v w' => v = .bool r ∧ Ext w w' := by
  have hS := ((((St.init w no).param G.cs Aa0_0 ca0_0 a0.Names hr0_0 hc0_0).param (ci .i16) Aa0_1 ca0_1 a0.Eats hr0_1 hc0_1).param (ci .u16) Aa0_2 ca0_2 a0.Foes hr0_2 hc0_2)
  unfold impl_ValidHerd.f at H
  refine CV.body Tryd.func51 rfl Tryd.ntmps51 rfl ?_
  refine CJ.seq ?_
  refine CJ.region ?_
  refine OJ.ef rfl rfl rfl (Ef.box hS rfl rfl ([.slice Aa0_0 a0.Names.length ca0_0, .slice Aa0_1 a0.Eats.length ca0_1, .slice Aa0_2 a0.Foes.length ca0_2]) rfl) ?_
  rintro _ w1 ⟨b1, rfl, hS⟩
  refine OJ.pures tU_ok 1 rfl ?_
  refine OJ.nil (EJ.next ?_)
  refine CJ.seq ?_
  refine CJ.region ?_
  refine OJ.st rfl rfl rfl (SR.fieldAddr tU_ok tI_ok rfl rfl rfl rfl rfl rfl) ?_
  refine OJ.st rfl rfl rfl (SR.load rfl rfl (fun w' hx => ld1 tU_ok rfl rfl (CA.ext (CA.sub (hS.cells (i := 0) rfl) 0) hx) rfl)) ?_
  refine OJ.pures tU_ok 2 rfl ?_
  refine OJ.nil (EJ.next ?_)
  refine CJ.seq ?_
  obtain ⟨j39, H, K39⟩ := pbind H
  refine CJ.cut (fun F w1 => ∃ (y2 : Bool) , (some y2 : Option Bool) = some j39 ∧ F = [(1, .pointer (some ⟨b1, 0, none⟩)), (3, .int .i64 (a0.Names.length : Int)), (25, .bool y2)] ∧ St w no w1 [box b1 ([.slice Aa0_0 a0.Names.length ca0_0, .slice Aa0_1 a0.Eats.length ca0_1, .slice Aa0_2 a0.Foes.length ca0_2]) 29] [roC G.cs Aa0_0 ca0_0 a0.Names, roC (ci .i16) Aa0_1 ca0_1 a0.Eats, roC (ci .u16) Aa0_2 ca0_2 a0.Foes]) ?_ ?_
  · skip
    refine CJ.region ?_
    refine OJ.pures tU_ok 3 rfl ?_
    refine OJ.split (t := 12) rfl (fun hb => ?_) (fun hb => ?_)
    · replace H := pif_t (of_decide_eq_true hb) H
      refine OJ.pures tU_ok 13 rfl ?_
      refine OJ.nil ?_
      exact EJ.meet (F' := [(1, .pointer (some ⟨b1, 0, none⟩)), (3, .int .i64 (a0.Names.length : Int)), (25, .bool true)]) ⟨rfl, rfl, rfl, trivial⟩ ⟨true, H, rfl, hS.pick [0] [0, 1, 2] rfl⟩
    · replace H := pif_f (of_decide_eq_false hb) H
      refine OJ.st rfl rfl rfl (SR.fieldAddr tU_ok tI_ok rfl rfl rfl rfl rfl rfl) ?_
      refine OJ.st rfl rfl rfl (SR.load rfl rfl (fun w' hx => ld1 tU_ok rfl rfl (CA.ext (CA.sub (hS.cells (i := 0) rfl) 1) hx) rfl)) ?_
      refine OJ.pures tU_ok 5 rfl ?_
      refine OJ.split (t := 19) rfl (fun hb => ?_) (fun hb => ?_)
      · replace H := pif_t (of_decide_eq_true hb) H
        refine OJ.pures tU_ok 6 rfl ?_
        refine OJ.nil ?_
        exact EJ.meet (F' := [(1, .pointer (some ⟨b1, 0, none⟩)), (3, .int .i64 (a0.Names.length : Int)), (25, .bool true)]) ⟨rfl, rfl, rfl, trivial⟩ ⟨true, H, rfl, hS.pick [0] [0, 1, 2] rfl⟩
      · replace H := pif_f (of_decide_eq_false hb) H
        refine OJ.st rfl rfl rfl (SR.fieldAddr tU_ok tI_ok rfl rfl rfl rfl rfl rfl) ?_
        refine OJ.st rfl rfl rfl (SR.load rfl rfl (fun w' hx => ld1 tU_ok rfl rfl (CA.ext (CA.sub (hS.cells (i := 0) rfl) 2) hx) rfl)) ?_
        refine OJ.pures tU_ok 4 rfl ?_
        refine OJ.nil ?_
        exact EJ.meet (F' := [(1, .pointer (some ⟨b1, 0, none⟩)), (3, .int .i64 (a0.Names.length : Int)), (25, .bool (decide ((a0.Foes.length : Int) ≠ (a0.Names.length : Int))))]) ⟨rfl, rfl, rfl, trivial⟩ ⟨(decide ((a0.Foes.length : Int) ≠ (a0.Names.length : Int))), H, rfl, hS.pick [0] [0, 1, 2] rfl⟩
  · rintro F w1 ⟨y2, he, rfl, hS⟩
    obtain rfl := Option.some.inj he
    have H := K39
    refine CJ.cond rfl (fun hb => ?_) (fun hb => ?_)
    · replace H := pif_t hb H
      refine CJ.seq ?_
      refine CJ.region ?_
      refine OJ.pures tU_ok 1 rfl ?_
      refine OJ.nil (EJ.next ?_)
      refine CJ.ret (EJ.skR (?_))
      obtain rfl := Option.some.inj H
      exact EJ.fin rfl (.tmp rfl .nil) ⟨rfl, hS.ext⟩
    · replace H := pifb_f hb H
      refine CJ.skip (EJ.next ?_)
      refine CJ.seq ?_
      refine CJ.seq ?_
      refine CJ.region ?_
      refine OJ.st rfl rfl rfl (SR.fieldAddr tU_ok tI_ok rfl rfl rfl rfl rfl rfl) ?_
      refine OJ.st rfl rfl rfl (SR.load rfl rfl (fun w' hx => ld1 tU_ok rfl rfl (CA.ext (CA.sub (hS.cells (i := 0) rfl) 0) hx) rfl)) ?_
      refine OJ.pures tU_ok 2 rfl ?_
      refine OJ.nil (EJ.next ?_)
      obtain ⟨j40, H, K40⟩ := pbind H
      refine CJ.cut1 (fun F w1 => (some (Sum.inr ()) : Option (Bool ⊕ Unit)) = some j40 ∧ F = [] ∧ St w no w1 [] [roC G.cs Aa0_0 ca0_0 a0.Names, roC (ci .i16) Aa0_1 ca0_1 a0.Eats, roC (ci .u16) Aa0_2 ca0_2 a0.Foes]) ?_ ?_
      · skip
        refine CJ.block ?_
        refine CJ.loop (fun k F w1 => ∃ (y3 : Int), F = [(1, .pointer (some ⟨b1, 0, none⟩)), (3, .int .i64 (a0.Names.length : Int)), (27, .slice Aa0_0 a0.Names.length ca0_0), (28, .int .i64 (a0.Names.length : Int)), (29, .int .i64 y3)] ∧ St w no w1 [box b1 ([.slice Aa0_0 a0.Names.length ca0_0, .slice Aa0_1 a0.Eats.length ca0_1, .slice Aa0_2 a0.Foes.length ca0_2]) 29] [roC G.cs Aa0_0 ca0_0 a0.Names, roC (ci .i16) Aa0_1 ca0_1 a0.Eats, roC (ci .u16) Aa0_2 ca0_2 a0.Foes] ∧ impl_ValidHerd.l1 a0 k y3 = some j40) k (F' := [(1, .pointer (some ⟨b1, 0, none⟩)), (3, .int .i64 (a0.Names.length : Int)), (27, .slice Aa0_0 a0.Names.length ca0_0), (28, .int .i64 (a0.Names.length : Int)), (29, .int .i64 0)]) ⟨rfl, rfl, rfl, rfl, rfl, trivial⟩ ⟨0, rfl, hS.pick [0] [0, 1, 2] rfl, H⟩ ?_
        rintro k F w1 ⟨y3, rfl, hS, H⟩
        cases k with
        | zero => rw [impl_ValidHerd.l1] at H; cases H
        | succ k =>
          rw [impl_ValidHerd.l1] at H
          refine CJ.seq ?_
          refine CJ.region ?_
          refine OJ.pures tU_ok 1 rfl ?_
          refine OJ.nil (EJ.next ?_)
          refine CJ.seq ?_
          refine CJ.cond rfl (fun hb => ?_) (fun hb => ?_)
          · replace H := pif_t (of_decide_eq_true hb) H
            refine CJ.skip (EJ.next ?_)
            obtain ⟨j65, H, K65⟩ := pbind H
            refine CJ.cut (fun F w1 => (some (Sum.inr ()) : Option ((Bool ⊕ Unit) ⊕ Unit)) = some j65 ∧ F = [(1, .pointer (some ⟨b1, 0, none⟩)), (3, .int .i64 (a0.Names.length : Int)), (27, .slice Aa0_0 a0.Names.length ca0_0), (28, .int .i64 (a0.Names.length : Int)), (29, .int .i64 y3)] ∧ St w no w1 [box b1 ([.slice Aa0_0 a0.Names.length ca0_0, .slice Aa0_1 a0.Eats.length ca0_1, .slice Aa0_2 a0.Foes.length ca0_2]) 29] [roC G.cs Aa0_0 ca0_0 a0.Names, roC (ci .i16) Aa0_1 ca0_1 a0.Eats, roC (ci .u16) Aa0_2 ca0_2 a0.Foes]) ?_ ?_
            · skip
              refine CJ.block ?_
              refine CJ.seq ?_
              refine CJ.region ?_
              refine OJ.pures tU_ok 1 rfl ?_
              obtain ⟨t4, ht4, H⟩ := pbind H
              obtain ⟨ad4, e4⟩ := (hS.rd' (i := 0) rfl).some' ht4
              refine OJ.st rfl rfl rfl (SR.idxS tU_ok tI_ok rfl rfl rfl rfl e4 rfl (getI_some ht4).1) ?_
              refine OJ.st rfl rfl rfl (SR.load rfl rfl (fun w' hx => ld1 tU_ok rfl rfl (CA.ext ((hS.rd' (i := 0) rfl).at_ e4 ht4) hx) rfl)) ?_
              refine OJ.pures tU_ok 2 rfl ?_
              refine OJ.nil (EJ.next ?_)
              refine CJ.seq ?_
              obtain ⟨j68, H, K68⟩ := pbind H
              refine CJ.cut (fun F w1 => ∃ (y5 : Bool) , (some y5 : Option Bool) = some j68 ∧ F = [(1, .pointer (some ⟨b1, 0, none⟩)), (3, .int .i64 (a0.Names.length : Int)), (4, .int .i64 y3), (27, .slice Aa0_0 a0.Names.length ca0_0), (28, .int .i64 (a0.Names.length : Int)), (29, .int .i64 y3), (70, .bool y5)] ∧ St w no w1 [box b1 ([.slice Aa0_0 a0.Names.length ca0_0, .slice Aa0_1 a0.Eats.length ca0_1, .slice Aa0_2 a0.Foes.length ca0_2]) 29] [roC G.cs Aa0_0 ca0_0 a0.Names, roC (ci .i16) Aa0_1 ca0_1 a0.Eats, roC (ci .u16) Aa0_2 ca0_2 a0.Foes]) ?_ ?_
              · skip
                refine CJ.region ?_
                refine OJ.pures tU_ok 1 rfl ?_
                obtain ⟨t6, ht6, H⟩ := pbind H
                refine OJ.callF rfl rfl rfl rfl rfl hb78 rfl (impl_isName.c k _ t4 _ ht6) ?_
                rintro _ w1 ⟨rfl, hs⟩
                replace hS := hS.grow hs
                refine OJ.pures tU_ok 2 rfl ?_
                refine OJ.split (t := 37) rfl (fun hb => ?_) (fun hb => ?_)
                · replace H := pif_t hb H
                  refine OJ.pures tU_ok 33 rfl ?_
                  refine OJ.nil ?_
                  exact EJ.meet (F' := [(1, .pointer (some ⟨b1, 0, none⟩)), (3, .int .i64 (a0.Names.length : Int)), (4, .int .i64 y3), (27, .slice Aa0_0 a0.Names.length ca0_0), (28, .int .i64 (a0.Names.length : Int)), (29, .int .i64 y3), (70, .bool true)]) ⟨rfl, rfl, rfl, rfl, rfl, rfl, rfl, trivial⟩ ⟨true, H, rfl, hS.pick [0] [0, 1, 2] rfl⟩
                · replace H := pifb_f hb H
                  refine OJ.st rfl rfl rfl (SR.fieldAddr tU_ok tI_ok rfl rfl rfl rfl rfl rfl) ?_
                  refine OJ.st rfl rfl rfl (SR.load rfl rfl (fun w' hx => ld1 tU_ok rfl rfl (CA.ext (CA.sub (hS.cells (i := 0) rfl) 0) hx) rfl)) ?_
                  refine OJ.pures tU_ok 1 rfl ?_
                  obtain ⟨u7, hu7, H⟩ := pbind H
                  refine OJ.st rfl rfl rfl (SR.cutS tU_ok tI_ok (0) (y3.toNat) rfl rfl rfl rfl rfl rfl (.inl ⟨rfl, rfl⟩) (.inr ⟨_, _, rfl, (by have := (chk_some hu7); omega), rfl⟩) (by have := (chk_some hu7); omega) (by have := (chk_some hu7); have := (hS.le' (i := 0) rfl : a0.Names.length ≤ ca0_0); omega)) ?_
                  replace hS := hS.cutR (i := 0) (lo := 0) (hi := y3.toNat) rfl (by have := (chk_some hu7); omega) (by have := (chk_some hu7); omega)
                  refine OJ.as (t := 41) rfl (show _ = (.slice (cutA Aa0_0 ca0_0 0 G.cs.sz) ((a0.Names.drop 0).take (y3.toNat - 0)).length (ca0_0 - 0) : Value) by rw [cutLen (by have := (chk_some hu7); omega) (by have := (chk_some hu7); omega)]; rfl) ?_
                  refine OJ.pures tU_ok 1 rfl ?_
                  obtain ⟨t8, ht8, H⟩ := pbind H
                  refine OJ.callF rfl rfl rfl rfl rfl hb79 rfl (slices_Contains_string_string.c k _ (cutA Aa0_0 ca0_0 0 G.cs.sz) (ca0_0 - 0) ((a0.Names.drop 0).take (y3.toNat - 0)) (hS.rd' (i := 3) rfl) (hS.le' (i := 3) rfl) t4 _ ht8) ?_
                  rintro _ w1 ⟨rfl, hs⟩
                  replace hS := hS.grow hs
                  refine OJ.pures tU_ok 2 rfl ?_
                  refine OJ.split (t := 45) rfl (fun hb => ?_) (fun hb => ?_)
                  · replace H := pif_t hb H
                    refine OJ.pures tU_ok 25 rfl ?_
                    refine OJ.nil ?_
                    exact EJ.meet (F' := [(1, .pointer (some ⟨b1, 0, none⟩)), (3, .int .i64 (a0.Names.length : Int)), (4, .int .i64 y3), (27, .slice Aa0_0 a0.Names.length ca0_0), (28, .int .i64 (a0.Names.length : Int)), (29, .int .i64 y3), (70, .bool true)]) ⟨rfl, rfl, rfl, rfl, rfl, rfl, rfl, trivial⟩ ⟨true, H, rfl, hS.pick [0] [0, 1, 2] rfl⟩
                  · replace H := pifb_f hb H
                    refine OJ.st rfl rfl rfl (SR.fieldAddr tU_ok tI_ok rfl rfl rfl rfl rfl rfl) ?_
                    refine OJ.st rfl rfl rfl (SR.load rfl rfl (fun w' hx => ld1 tU_ok rfl rfl (CA.ext (CA.sub (hS.cells (i := 0) rfl) 1) hx) rfl)) ?_
                    refine OJ.pures tU_ok 1 rfl ?_
                    obtain ⟨t9, ht9, H⟩ := pbind H
                    obtain ⟨ad9, e9⟩ := (hS.rd' (i := 1) rfl).some' ht9
                    refine OJ.st rfl rfl rfl (SR.idxS tU_ok tI_ok rfl rfl rfl rfl e9 rfl (getI_some ht9).1) ?_
                    refine OJ.st rfl rfl rfl (SR.load rfl rfl (fun w' hx => ld1 tU_ok rfl rfl (CA.ext ((hS.rd' (i := 1) rfl).at_ e9 ht9) hx) rfl)) ?_
                    refine OJ.pures tU_ok 1 rfl ?_
                    obtain ⟨t10, ht10, H⟩ := pbind H
                    refine OJ.callF rfl rfl rfl rfl rfl hb63 rfl (impl_within.c _ (IntKind.i64.wrap t9) 0 100 _ ht10) ?_
                    rintro _ w1 ⟨rfl, hs⟩
                    replace hS := hS.grow hs
                    refine OJ.pures tU_ok 3 rfl ?_
                    refine OJ.split (t := 55) rfl (fun hb => ?_) (fun hb => ?_)
                    · replace H := pif_t hb H
                      refine OJ.pures tU_ok 15 rfl ?_
                      refine OJ.nil ?_
                      exact EJ.meet (F' := [(1, .pointer (some ⟨b1, 0, none⟩)), (3, .int .i64 (a0.Names.length : Int)), (4, .int .i64 y3), (27, .slice Aa0_0 a0.Names.length ca0_0), (28, .int .i64 (a0.Names.length : Int)), (29, .int .i64 y3), (70, .bool true)]) ⟨rfl, rfl, rfl, rfl, rfl, rfl, rfl, trivial⟩ ⟨true, H, rfl, hS.pick [0] [0, 1, 2] rfl⟩
                    · replace H := pifb_f hb H
                      refine OJ.st rfl rfl rfl (SR.fieldAddr tU_ok tI_ok rfl rfl rfl rfl rfl rfl) ?_
                      refine OJ.st rfl rfl rfl (SR.load rfl rfl (fun w' hx => ld1 tU_ok rfl rfl (CA.ext (CA.sub (hS.cells (i := 0) rfl) 2) hx) rfl)) ?_
                      refine OJ.pures tU_ok 1 rfl ?_
                      obtain ⟨t11, ht11, H⟩ := pbind H
                      obtain ⟨ad11, e11⟩ := (hS.rd' (i := 2) rfl).some' ht11
                      refine OJ.st rfl rfl rfl (SR.idxS tU_ok tI_ok rfl rfl rfl rfl e11 rfl (getI_some ht11).1) ?_
                      refine OJ.st rfl rfl rfl (SR.load rfl rfl (fun w' hx => ld1 tU_ok rfl rfl (CA.ext ((hS.rd' (i := 2) rfl).at_ e11 ht11) hx) rfl)) ?_
                      refine OJ.pures tU_ok 1 rfl ?_
                      obtain ⟨u12, hu12, H⟩ := pbind H
                      refine OJ.st rfl rfl rfl (SR.shr rfl rfl rfl (chk_some hu12)) ?_
                      refine OJ.pures tU_ok 3 rfl ?_
                      refine OJ.split (t := 65) rfl (fun hb => ?_) (fun hb => ?_)
                      · replace H := pif_t (of_decide_eq_true hb) H
                        refine OJ.pures tU_ok 5 rfl ?_
                        refine OJ.nil ?_
                        exact EJ.meet (F' := [(1, .pointer (some ⟨b1, 0, none⟩)), (3, .int .i64 (a0.Names.length : Int)), (4, .int .i64 y3), (27, .slice Aa0_0 a0.Names.length ca0_0), (28, .int .i64 (a0.Names.length : Int)), (29, .int .i64 y3), (70, .bool true)]) ⟨rfl, rfl, rfl, rfl, rfl, rfl, rfl, trivial⟩ ⟨true, H, rfl, hS.pick [0] [0, 1, 2] rfl⟩
                      · replace H := pif_f (of_decide_eq_false hb) H
                        refine OJ.st rfl rfl rfl (SR.load rfl rfl (fun w' hx => ldN tU_ok tI_ok rfl rfl rfl (CA.ext (hS.cells (i := 0) rfl) hx) (ds := [.slice Aa0_0 a0.Names.length ca0_0, .slice Aa0_1 a0.Eats.length ca0_1, .slice Aa0_2 a0.Foes.length ca0_2]) rfl rfl)) ?_
                        refine OJ.pures tU_ok 2 rfl ?_
                        obtain ⟨t13, ht13, H⟩ := pbind H
                        refine OJ.callF rfl rfl rfl rfl rfl hb38 rfl (impl_Herd_areFoes.c _ Aa0_0 ca0_0 Aa0_1 ca0_1 Aa0_2 ca0_2 a0 (hS.rd' (i := 0) rfl) (hS.le' (i := 0) rfl) (hS.rd' (i := 1) rfl) (hS.le' (i := 1) rfl) (hS.rd' (i := 2) rfl) (hS.le' (i := 2) rfl) y3 y3 _ ht13) ?_
                        rintro _ w1 ⟨rfl, hs⟩
                        replace hS := hS.grow hs
                        refine OJ.pures tU_ok 1 rfl ?_
                        refine OJ.nil ?_
                        exact EJ.meet (F' := [(1, .pointer (some ⟨b1, 0, none⟩)), (3, .int .i64 (a0.Names.length : Int)), (4, .int .i64 y3), (27, .slice Aa0_0 a0.Names.length ca0_0), (28, .int .i64 (a0.Names.length : Int)), (29, .int .i64 y3), (70, .bool t13)]) ⟨rfl, rfl, rfl, rfl, rfl, rfl, rfl, trivial⟩ ⟨t13, H, rfl, hS.pick [0] [0, 1, 2] rfl⟩
              · rintro F w1 ⟨y5, he, rfl, hS⟩
                obtain rfl := Option.some.inj he
                have H := K68
                refine CJ.cond rfl (fun hb => ?_) (fun hb => ?_)
                · replace H := pif_t hb H
                  refine CJ.seq ?_
                  refine CJ.region ?_
                  refine OJ.pures tU_ok 1 rfl ?_
                  refine OJ.nil (EJ.next ?_)
                  refine CJ.ret (EJ.skR (EJ.bkR (EJ.skR (EJ.skR (EJ.bkR (EJ.skR (EJ.skR (?_))))))))
                  first | (obtain rfl := Option.some.inj H; have H := K65) | (obtain ⟨q65, H2, e65⟩ := pbind H; obtain rfl := Option.some.inj e65; obtain rfl := Option.some.inj K65; have H := H2)
                  first | (obtain rfl := Option.some.inj H; have H := K40) | (obtain ⟨q40, H2, e40⟩ := pbind H; obtain rfl := Option.some.inj e40; obtain rfl := Option.some.inj K40; have H := H2)
                  obtain rfl := Option.some.inj H
                  exact EJ.fin rfl (.tmp rfl .nil) ⟨rfl, hS.ext⟩
                · replace H := pifb_f hb H
                  refine CJ.skip (EJ.next ?_)
                  refine CJ.seq ?_
                  refine CJ.region ?_
                  refine OJ.pures tU_ok 2 rfl ?_
                  refine OJ.nil (EJ.next ?_)
                  obtain ⟨j69, H, K69⟩ := pbind H
                  refine CJ.cut1 (fun F w1 => (some (Sum.inr ()) : Option (((Bool ⊕ Unit) ⊕ Unit) ⊕ Unit)) = some j69 ∧ F = [(1, .pointer (some ⟨b1, 0, none⟩)), (3, .int .i64 (a0.Names.length : Int)), (27, .slice Aa0_0 a0.Names.length ca0_0), (28, .int .i64 (a0.Names.length : Int)), (29, .int .i64 y3)] ∧ St w no w1 [box b1 ([.slice Aa0_0 a0.Names.length ca0_0, .slice Aa0_1 a0.Eats.length ca0_1, .slice Aa0_2 a0.Foes.length ca0_2]) 29] [roC G.cs Aa0_0 ca0_0 a0.Names, roC (ci .i16) Aa0_1 ca0_1 a0.Eats, roC (ci .u16) Aa0_2 ca0_2 a0.Foes]) ?_ ?_
                  · skip
                    refine CJ.block ?_
                    refine CJ.loop (fun k F w1 => ∃ (y14 : Int), F = [(1, .pointer (some ⟨b1, 0, none⟩)), (3, .int .i64 (a0.Names.length : Int)), (4, .int .i64 y3), (27, .slice Aa0_0 a0.Names.length ca0_0), (28, .int .i64 (a0.Names.length : Int)), (29, .int .i64 y3), (71, .int .i64 y3), (72, .int .i64 y14)] ∧ St w no w1 [box b1 ([.slice Aa0_0 a0.Names.length ca0_0, .slice Aa0_1 a0.Eats.length ca0_1, .slice Aa0_2 a0.Foes.length ca0_2]) 29] [roC G.cs Aa0_0 ca0_0 a0.Names, roC (ci .i16) Aa0_1 ca0_1 a0.Eats, roC (ci .u16) Aa0_2 ca0_2 a0.Foes] ∧ impl_ValidHerd.l2 a0 y3 k y14 = some j69) k (F' := [(1, .pointer (some ⟨b1, 0, none⟩)), (3, .int .i64 (a0.Names.length : Int)), (4, .int .i64 y3), (27, .slice Aa0_0 a0.Names.length ca0_0), (28, .int .i64 (a0.Names.length : Int)), (29, .int .i64 y3), (71, .int .i64 y3), (72, .int .i64 0)]) ⟨rfl, rfl, rfl, rfl, rfl, rfl, rfl, rfl, trivial⟩ ⟨0, rfl, hS.pick [0] [0, 1, 2] rfl, H⟩ ?_
                    rintro k F w1 ⟨y14, rfl, hS, H⟩
                    cases k with
                    | zero => rw [impl_ValidHerd.l2] at H; cases H
                    | succ k =>
                      rw [impl_ValidHerd.l2] at H
                      refine CJ.seq ?_
                      refine CJ.region ?_
                      refine OJ.pures tU_ok 1 rfl ?_
                      refine OJ.nil (EJ.next ?_)
                      refine CJ.seq ?_
                      refine CJ.cond rfl (fun hb => ?_) (fun hb => ?_)
                      · replace H := pif_t (of_decide_eq_true hb) H
                        refine CJ.skip (EJ.next ?_)
                        refine CJ.seq ?_
                        refine CJ.block ?_
                        refine CJ.seq ?_
                        refine CJ.region ?_
                        refine OJ.pures tU_ok 2 rfl ?_
                        refine OJ.nil (EJ.next ?_)
                        refine CJ.seq ?_
                        refine CJ.draw [] [0, 1, 2, 4, 5, 6, 3, 7, 8] mixed (by kernel_rfl) hS fun w1 hS => ?_
                        refine DJ.st rfl rfl rfl rfl rfl (SR.load rfl rfl (fun w' hx => ldN tU_ok tI_ok rfl rfl rfl (CA.ext (hS.cells (i := 0) rfl) hx) (ds := [.slice Aa0_0 a0.Names.length ca0_0, .slice Aa0_1 a0.Eats.length ca0_1, .slice Aa0_2 a0.Foes.length ca0_2]) rfl rfl)) ?_
                        refine DJ.pures tU_ok 2 rfl ?_
                        refine DJ.st rfl rfl rfl rfl rfl (SR.load rfl rfl (fun w' hx => ldN tU_ok tI_ok rfl rfl rfl (CA.ext (hS.cells (i := 0) rfl) hx) (ds := [.slice Aa0_0 a0.Names.length ca0_0, .slice Aa0_1 a0.Eats.length ca0_1, .slice Aa0_2 a0.Foes.length ca0_2]) rfl rfl)) ?_
                        refine DJ.pures tU_ok 2 rfl ?_
                        obtain ⟨t15, ht15, H⟩ := pbind H
                        refine DJ.callF rfl rfl rfl rfl rfl rfl rfl hb38 rfl (impl_Herd_areFoes.c _ Aa0_0 ca0_0 Aa0_1 ca0_1 Aa0_2 ca0_2 a0 (hS.rd' (i := 0) rfl) (hS.le' (i := 0) rfl) (hS.rd' (i := 1) rfl) (hS.le' (i := 1) rfl) (hS.rd' (i := 2) rfl) (hS.le' (i := 2) rfl) y3 y14 _ ht15) (by rintro v w' ⟨rfl, hs⟩; exact hs) ?_
                        rintro _ w1 ⟨rfl, hs⟩
                        replace hS := hS.grow hs
                        obtain ⟨t16, ht16, H⟩ := pbind H
                        refine DJ.callF rfl rfl rfl rfl rfl rfl rfl hb38 rfl (impl_Herd_areFoes.c _ Aa0_0 ca0_0 Aa0_1 ca0_1 Aa0_2 ca0_2 a0 (hS.rd' (i := 0) rfl) (hS.le' (i := 0) rfl) (hS.rd' (i := 1) rfl) (hS.le' (i := 1) rfl) (hS.rd' (i := 2) rfl) (hS.le' (i := 2) rfl) y14 y3 _ ht16) (by rintro v w' ⟨rfl, hs⟩; exact hs) ?_
                        rintro _ w1 ⟨rfl, hs⟩
                        replace hS := hS.grow hs
                        refine DJ.st rfl rfl rfl rfl rfl (SR.neB tU_ok rfl rfl rfl rfl) ?_
                        refine DJ.nil (EJ.next ?_)
                        refine CJ.cond rfl (fun hb => ?_) (fun hb => ?_)
                        · replace H := pif_t (of_decide_eq_true hb) H
                          refine CJ.seq ?_
                          refine CJ.region ?_
                          refine OJ.pures tU_ok 1 rfl ?_
                          refine OJ.nil (EJ.next ?_)
                          refine CJ.ret (EJ.bkR (EJ.skR (EJ.skR (EJ.bkR (EJ.skR (EJ.bkR (EJ.skR (EJ.skR (EJ.bkR (EJ.skR (EJ.skR (?_))))))))))))
                          first | (obtain rfl := Option.some.inj H; have H := K69) | (obtain ⟨q69, H2, e69⟩ := pbind H; obtain rfl := Option.some.inj e69; obtain rfl := Option.some.inj K69; have H := H2)
                          first | (obtain rfl := Option.some.inj H; have H := K65) | (obtain ⟨q65, H2, e65⟩ := pbind H; obtain rfl := Option.some.inj e65; obtain rfl := Option.some.inj K65; have H := H2)
                          first | (obtain rfl := Option.some.inj H; have H := K40) | (obtain ⟨q40, H2, e40⟩ := pbind H; obtain rfl := Option.some.inj e40; obtain rfl := Option.some.inj K40; have H := H2)
                          obtain rfl := Option.some.inj H
                          exact EJ.fin rfl (.tmp rfl .nil) ⟨rfl, hS.ext⟩
                        · replace H := pif_f (of_decide_eq_false hb) H
                          refine CJ.skip (EJ.blk (EJ.next ?_))
                          refine CJ.region ?_
                          refine OJ.pures tU_ok 2 rfl ?_
                          refine OJ.nil ?_
                          exact EJ.round k (F' := [(1, .pointer (some ⟨b1, 0, none⟩)), (3, .int .i64 (a0.Names.length : Int)), (4, .int .i64 y3), (27, .slice Aa0_0 a0.Names.length ca0_0), (28, .int .i64 (a0.Names.length : Int)), (29, .int .i64 y3), (71, .int .i64 y3), (72, .int .i64 (IntKind.i64.wrap (y14 + 1)))]) ⟨rfl, rfl, rfl, rfl, rfl, rfl, rfl, rfl, trivial⟩ (Nat.lt_succ_self _) ⟨(IntKind.i64.wrap (y14 + 1)), rfl, hS.pick [0] [0, 1, 2] rfl, H⟩
                      · replace H := pif_f (of_decide_eq_false hb) H
                        refine CJ.exit (EJ.skE (EJ.skE (EJ.hit (?_))))
                        exact EJ.meet (F' := [(1, .pointer (some ⟨b1, 0, none⟩)), (3, .int .i64 (a0.Names.length : Int)), (27, .slice Aa0_0 a0.Names.length ca0_0), (28, .int .i64 (a0.Names.length : Int)), (29, .int .i64 y3)]) ⟨rfl, rfl, rfl, rfl, rfl, trivial⟩ ⟨H, rfl, hS.pick [0] [0, 1, 2] rfl⟩
                  · rintro F w1 ⟨he, rfl, hS⟩
                    obtain rfl := Option.some.inj he
                    have H := K69
                    refine EJ.blk (?_)
                    exact EJ.meet (F' := [(1, .pointer (some ⟨b1, 0, none⟩)), (3, .int .i64 (a0.Names.length : Int)), (27, .slice Aa0_0 a0.Names.length ca0_0), (28, .int .i64 (a0.Names.length : Int)), (29, .int .i64 y3)]) ⟨rfl, rfl, rfl, rfl, rfl, trivial⟩ ⟨H, rfl, hS.pick [0] [0, 1, 2] rfl⟩
            · rintro F w1 ⟨he, rfl, hS⟩
              obtain rfl := Option.some.inj he
              have H := K65
              refine CJ.region ?_
              refine OJ.pures tU_ok 2 rfl ?_
              refine OJ.nil ?_
              exact EJ.round k (F' := [(1, .pointer (some ⟨b1, 0, none⟩)), (3, .int .i64 (a0.Names.length : Int)), (27, .slice Aa0_0 a0.Names.length ca0_0), (28, .int .i64 (a0.Names.length : Int)), (29, .int .i64 (IntKind.i64.wrap (y3 + 1)))]) ⟨rfl, rfl, rfl, rfl, rfl, trivial⟩ (Nat.lt_succ_self _) ⟨(IntKind.i64.wrap (y3 + 1)), rfl, hS.pick [0] [0, 1, 2] rfl, H⟩
          · replace H := pif_f (of_decide_eq_false hb) H
            refine CJ.exit (EJ.skE (EJ.skE (EJ.hit (?_))))
            exact EJ.meet (F' := []) trivial ⟨H, rfl, hS.pick [] [0, 1, 2] rfl⟩
      · rintro F w1 ⟨he, rfl, hS⟩
        obtain rfl := Option.some.inj he
        have H := K40
        refine EJ.next ?_
        refine CJ.seq ?_
        refine CJ.region ?_
        refine OJ.pures tU_ok 1 rfl ?_
        refine OJ.nil (EJ.next ?_)
        refine CJ.ret (?_)
        obtain rfl := Option.some.inj H
        exact EJ.fin rfl (.tmp rfl .nil) ⟨rfl, hS.ext⟩

def impl_size_int64.f (a0 : List Int) : Option Int := some (a0.length : Int)
theorem impl_size_int64.c (w : World) (Aa0 : Option Addr) (ca0 : Nat) (a0 : List Int) (hr0 : Rd (ci .i64) w Aa0 a0) (hc0 : a0.length ≤ ca0) (r : Int) (H : impl_size_int64.f a0 = some r) :
    CV Tryd.prog 52 [.slice Aa0 a0.length ca0].toArray w fun v w' => v = .int .i64 r ∧ Ext w w' := by
  have hS := ((St.init w no).param (ci .i64) Aa0 ca0 a0 hr0 hc0)
  unfold impl_size_int64.f at H
  refine CV.body Tryd.func52 rfl Tryd.ntmps52 rfl ?_
  refine CJ.seq ?_
  refine CJ.region ?_
  refine OJ.pures tU_ok 1 rfl ?_
  refine OJ.nil (EJ.next ?_)
  refine CJ.seq ?_
  refine CJ.region ?_
  refine OJ.pures tU_ok 3 rfl ?_
  refine OJ.nil (EJ.next ?_)
  refine CJ.ret (?_)
  obtain rfl := Option.some.inj H
  exact EJ.fin rfl (.tmp rfl .nil) ⟨rfl, hS.ext⟩

def impl_size_string.f (a0 : List ByteArray) : Option Int := some (a0.length : Int)
theorem impl_size_string.c (w : World) (Aa0 : Option Addr) (ca0 : Nat) (a0 : List ByteArray) (hr0 : Rd G.cs w Aa0 a0) (hc0 : a0.length ≤ ca0) (r : Int) (H : impl_size_string.f a0 = some r) :
    CV Tryd.prog 80 [.slice Aa0 a0.length ca0].toArray w fun v w' => v = .int .i64 r ∧ Ext w w' := by
  have hS := ((St.init w no).param G.cs Aa0 ca0 a0 hr0 hc0)
  unfold impl_size_string.f at H
  refine CV.body Tryd.func80 rfl Tryd.ntmps80 rfl ?_
  refine CJ.seq ?_
  refine CJ.region ?_
  refine OJ.pures tU_ok 1 rfl ?_
  refine OJ.nil (EJ.next ?_)
  refine CJ.seq ?_
  refine CJ.region ?_
  refine OJ.pures tU_ok 3 rfl ?_
  refine OJ.nil (EJ.next ?_)
  refine CJ.ret (?_)
  obtain rfl := Option.some.inj H
  exact EJ.fin rfl (.tmp rfl .nil) ⟨rfl, hS.ext⟩

def impl_Herd_many.f (a0 : Herd) : Option Int := (impl_size_string.f a0.Names).bind fun t2 => some t2
theorem impl_Herd_many.c (w : World) (Aa0_0 : Option Addr) (ca0_0 : Nat) (Aa0_1 : Option Addr) (ca0_1 : Nat) (Aa0_2 : Option Addr) (ca0_2 : Nat) (a0 : Herd) (hr0_0 : Rd G.cs w Aa0_0 a0.Names) (hc0_0 : a0.Names.length ≤ ca0_0) (hr0_1 : Rd (ci .i16) w Aa0_1 a0.Eats) (hc0_1 : a0.Eats.length ≤ ca0_1) (hr0_2 : Rd (ci .u16) w Aa0_2 a0.Foes) (hc0_2 : a0.Foes.length ≤ ca0_2) (r : Int) (H : impl_Herd_many.f a0 = some r) :
    CV Tryd.prog 53 [.agg [.slice Aa0_0 a0.Names.length ca0_0, .slice Aa0_1 a0.Eats.length ca0_1, .slice Aa0_2 a0.Foes.length ca0_2].toArray].toArray w fun v w' => v = .int .i64 r ∧ Ext w w' := by
  have hS := ((((St.init w no).param G.cs Aa0_0 ca0_0 a0.Names hr0_0 hc0_0).param (ci .i16) Aa0_1 ca0_1 a0.Eats hr0_1 hc0_1).param (ci .u16) Aa0_2 ca0_2 a0.Foes hr0_2 hc0_2)
  unfold impl_Herd_many.f at H
  refine CV.body Tryd.func53 rfl Tryd.ntmps53 rfl ?_
  refine CJ.seq ?_
  refine CJ.region ?_
  refine OJ.ef rfl rfl rfl (Ef.box hS rfl rfl ([.slice Aa0_0 a0.Names.length ca0_0, .slice Aa0_1 a0.Eats.length ca0_1, .slice Aa0_2 a0.Foes.length ca0_2]) rfl) ?_
  rintro _ w1 ⟨b1, rfl, hS⟩
  refine OJ.pures tU_ok 1 rfl ?_
  refine OJ.nil (EJ.next ?_)
  refine CJ.seq ?_
  refine CJ.region ?_
  refine OJ.st rfl rfl rfl (SR.fieldAddr tU_ok tI_ok rfl rfl rfl rfl rfl rfl) ?_
  refine OJ.st rfl rfl rfl (SR.load rfl rfl (fun w' hx => ld1 tU_ok rfl rfl (CA.ext (CA.sub (hS.cells (i := 0) rfl) 0) hx) rfl)) ?_
  obtain ⟨t2, ht2, H⟩ := pbind H
  refine OJ.callF rfl rfl rfl rfl rfl hb80 rfl (impl_size_string.c _ Aa0_0 ca0_0 a0.Names (hS.rd' (i := 0) rfl) (hS.le' (i := 0) rfl) _ ht2) ?_
  rintro _ w1 ⟨rfl, hs⟩
  replace hS := hS.grow hs
  refine OJ.pures tU_ok 1 rfl ?_
  refine OJ.nil (EJ.next ?_)
  refine CJ.ret (?_)
  obtain rfl := Option.some.inj H
  exact EJ.fin rfl (.tmp rfl .nil) ⟨rfl, hS.ext⟩

def slices_Clone_int64_int64.f (a0 : List Int) : Option (List Int) := (chk (([] : List Int).length + a0.length ≤ 4294967296)).bind fun _ => some a0
theorem slices_Clone_int64_int64.c (w : World) (A : Option Addr) (c : Nat) (a0 : List Int) (hr0 : Rd (ci .i64) w A a0) (hc0 : a0.length ≤ c) (r : List Int) (H : slices_Clone_int64_int64.f a0 = some r) :
    CV Tryd.prog 72 [.slice A a0.length c].toArray w fun v w' => ∃ (A0 : Option Addr) (c0 : Nat), v = .slice A0 r.length c0 ∧ St w no w' [rowC (ci .i64) A0 c0 2 r] [] := by
  have hS := ((St.init w no).param (ci .i64) A c a0 hr0 hc0)
  obtain ⟨u, hu, H⟩ := pbind H
  obtain rfl := Option.some.inj H
  refine CV.body Tryd.func72 rfl Tryd.ntmps72 rfl ?_
  refine CJ.seq ?_
  refine CJ.region ?_
  refine OJ.pures tU_ok 1 rfl ?_
  refine OJ.nil (EJ.next ?_)
  refine CJ.seq ?_
  refine CJ.seq ?_
  refine CJ.region ?_
  refine OJ.pures tU_ok 1 rfl ?_
  refine OJ.st rfl rfl rfl (SR.eqNil tU_ok rfl rfl rfl rfl) ?_
  refine OJ.nil (EJ.next ?_)
  refine CJ.cond rfl (fun hb => ?_) (fun hb => ?_)
  · obtain rfl := hr0.isNone hb
    refine CJ.seq ?_
    refine CJ.region ?_
    refine OJ.pures tU_ok 1 rfl ?_
    refine OJ.nil (EJ.next ?_)
    refine CJ.ret (EJ.skR ?_)
    replace hS := hS.addNil (ci .i64) 2 none
    exact EJ.fin rfl (.tmp rfl .nil) ⟨none, 0, rfl, hS.pick [0] [] rfl⟩
  · refine CJ.skip (EJ.next ?_)
    refine CJ.seq ?_
    refine CJ.region ?_
    refine OJ.ef rfl rfl rfl (Ef.lit tU_ok tI_ok hS (C := (ci .i64)) rfl rfl rfl rfl rfl rfl ([] : List Int) rfl rfl rfl rfl) ?_
    rintro _ w1 ⟨A1, rfl, hS⟩
    refine OJ.pures tU_ok 1 rfl ?_
    refine OJ.ew rfl rfl rfl (Ew.append tU_ok tI_ok (C := (ci .i64)) (xs := ([] : List Int)) (ys := a0) hS (i := 0) rfl rfl rfl rfl rfl rfl rfl rfl rfl rfl rfl rfl rfl (hS.rd' (i := 0) rfl) (chk_some hu)) ?_
    rintro _ w1 ⟨A2, c2, rfl, hS⟩
    refine OJ.pures tU_ok 1 rfl ?_
    refine OJ.nil (EJ.next ?_)
    exact CJ.ret (EJ.fin rfl (.tmp rfl .nil) ⟨A2, c2, rfl, hS.pick [0] [] rfl⟩)

def slices_Sort_int64_int64.f (a0 : List Int) : Option (List Int) := (chk (a0.length ≤ 4294967296)).bind fun _ => some (sortI a0)
theorem slices_Sort_int64_int64.c (w : World) (Aa0 : Option Addr) (ca0 : Nat) (a0 : List Int) (hin : St w (fpU [rowC (ci .i64) Aa0 ca0 2 a0]) w [rowC (ci .i64) Aa0 ca0 2 a0] []) (r : List Int) (H : slices_Sort_int64_int64.f a0 = some r) :
    CV Tryd.prog 73 [.slice Aa0 a0.length ca0].toArray w fun v w' => v = .tuple #[] ∧ St w (fpU [rowC (ci .i64) Aa0 ca0 2 a0]) w' [rowC (ci .i64) Aa0 ca0 2 r] [] ∧ r.length = a0.length := by
  unfold slices_Sort_int64_int64.f at H
  obtain ⟨u, hu, H⟩ := pbind H
  obtain rfl := Option.some.inj H
  exact sort_cv hin (fun blk off cap zs w h1 h2 h3 => AnyM.slices_Sort_int laySort blk off cap zs w h1 h2 h3) (fun p cap w => AnyM.slices_Sort_int_none laySort p cap w) (chk_some hu)

def slices_Compact_int64_int64.f (a0 : List Int) : Option (List Int) := (chk (a0.length ≤ 4294967296)).bind fun _ => some (cmpI a0)
theorem slices_Compact_int64_int64.c (w : World) (Aa0 : Option Addr) (ca0 : Nat) (a0 : List Int) (hin : St w (fpU [rowC (ci .i64) Aa0 ca0 2 a0]) w [rowC (ci .i64) Aa0 ca0 2 a0] []) (r : List Int) (H : slices_Compact_int64_int64.f a0 = some r) :
    CV Tryd.prog 74 [.slice Aa0 a0.length ca0].toArray w fun v w' => ∃ (A0 : Option Addr) (c0 : Nat), v = .slice A0 r.length c0 ∧ St w (fpU [rowC (ci .i64) Aa0 ca0 2 a0]) w' [rowC (ci .i64) A0 c0 2 r] [] := by
  unfold slices_Compact_int64_int64.f at H
  obtain ⟨u, hu, H⟩ := pbind H
  obtain rfl := Option.some.inj H
  exact compact_cv hin (fun blk off cap zs w h1 h2 h3 => AnyG.slices_Compact_int layCompact blk off cap zs w h1 h2 h3) (fun p cap w => AnyG.slices_Compact_int_empty layCompact p cap w) (chk_some hu)

def impl_isEach.f (a0 : List Int) : Option Bool := (slices_Clone_int64_int64.f a0).bind fun t1 => (slices_Sort_int64_int64.f t1).bind fun t4 => (slices_Compact_int64_int64.f t4).bind fun t5 => some (decide ((t5.length : Int) = (a0.length : Int)))
theorem impl_isEach.c (w : World) (Aa0 : Option Addr) (ca0 : Nat) (a0 : List Int) (hr0 : Rd (ci .i64) w Aa0 a0) (hc0 : a0.length ≤ ca0) (r : Bool) (H : impl_isEach.f a0 = some r) :
    CV Tryd.prog 36 [.slice Aa0 a0.length ca0].toArray w fun v w' => v = .bool r ∧ Ext w w' := by
  have hS := ((St.init w no).param (ci .i64) Aa0 ca0 a0 hr0 hc0)
  unfold impl_isEach.f at H
  refine CV.body Tryd.func36 rfl Tryd.ntmps36 rfl ?_
  refine CJ.seq ?_
  refine CJ.region ?_
  refine OJ.pures tU_ok 1 rfl ?_
  refine OJ.nil (EJ.next ?_)
  refine CJ.seq ?_
  refine CJ.region ?_
  refine OJ.pures tU_ok 1 rfl ?_
  obtain ⟨t1, ht1, H⟩ := pbind H
  refine OJ.callF rfl rfl rfl rfl rfl hb72 rfl (slices_Clone_int64_int64.c _ Aa0 ca0 a0 (hS.rd' (i := 0) rfl) (hS.le' (i := 0) rfl) _ ht1) ?_
  rintro _ w1 ⟨A2, c3, rfl, hs⟩
  replace hS := hS.addN hs
  refine OJ.pures tU_ok 1 rfl ?_
  refine OJ.nil (EJ.next ?_)
  refine CJ.seq ?_
  refine CJ.region ?_
  refine OJ.pures tU_ok 1 rfl ?_
  obtain ⟨t4, ht4, H⟩ := pbind H
  refine OJ.callF rfl rfl rfl rfl rfl hb73 rfl (slices_Sort_int64_int64.c _ A2 c3 t1 ((hS.subs [0] [] [] rfl).pick [0] [] rfl) _ ht4) ?_
  rintro _ w1 ⟨rfl, hs, hlc0⟩
  replace hS := hS.back [0] rfl rfl [rowC (ci .i64) A2 c3 2 t4] [] hs ⟨fun _ => Iff.rfl, trivial⟩
  refine OJ.as (t := 5) rfl (show _ = (.slice A2 t4.length c3 : Value) by simp only [hlc0]) ?_
  refine OJ.as (t := 3) rfl (show _ = (.slice A2 t4.length c3 : Value) by simp only [hlc0]) ?_
  refine OJ.as (t := 6) rfl (show _ = (.slice A2 t4.length c3 : Value) by simp only [hlc0]) ?_
  refine OJ.nil (EJ.next ?_)
  refine CJ.seq ?_
  refine CJ.region ?_
  refine OJ.pures tU_ok 1 rfl ?_
  obtain ⟨t5, ht5, H⟩ := pbind H
  refine OJ.callF rfl rfl rfl rfl rfl hb74 rfl (slices_Compact_int64_int64.c _ A2 c3 t4 ((hS.subs [0] [] [] rfl).pick [0] [] rfl) _ ht5) ?_
  rintro _ w1 ⟨A6, c7, rfl, hs⟩
  replace hS := hS.back' [] [0] rfl rfl [] [rowC (ci .i64) A6 c7 2 t5] [] hs trivial (fun _ h => by cases h) (.inr rfl)
  refine OJ.pures tU_ok 5 rfl ?_
  refine OJ.nil (EJ.next ?_)
  refine CJ.ret (?_)
  obtain rfl := Option.some.inj H
  exact EJ.fin rfl (.tmp rfl .nil) ⟨rfl, hS.ext⟩

def slices_IndexFunc_int64_int64.l1 (a0 : List Int) (a1 : Int → Option Bool) : Nat → Int → Option (Int ⊕ Unit)
  | 0, _ => none
  | k + 1, y1 => if y1 < (a0.length : Int) then ((getI a0 y1).bind fun t2 => (a1 t2).bind fun t3 => if t3 = true then (some (Sum.inl y1)) else (slices_IndexFunc_int64_int64.l1 a0 a1 k (IntKind.i64.wrap (y1 + 1)))) else (some (Sum.inr ()))
def slices_IndexFunc_int64_int64.f (k : Nat) (a0 : List Int) (a1 : Int → Option Bool) : Option Int := (slices_IndexFunc_int64_int64.l1 a0 a1 k 0).bind fun s71 => match s71 with | .inl r => some r | .inr _ => some (-1)
theorem slices_IndexFunc_int64_int64.c (k : Nat) (w : World) (Aa0 : Option Addr) (ca0 : Nat) (a0 : List Int) (hr0 : Rd (ci .i64) w Aa0 a0) (hc0 : a0.length ≤ ca0) (na1 : Nat) (fsa1 capa1 : Array Value) (hb1 : hasBody Tryd.prog na1) (a1 : Int → Option Bool) (hf1 : ∀ (z0 : Int) (r : Bool), a1 z0 = some r → ∀ w', Chg no w w' → CV Tryd.prog na1 (fsa1 ++ [.int .i64 z0].toArray ++ capa1) w' fun v w'' => v = .bool r ∧ Ext w' w'') (r : Int) (H : slices_IndexFunc_int64_int64.f k a0 a1 = some r) :
    CV Tryd.prog 82 [.slice Aa0 a0.length ca0, .func (.func na1) fsa1 capa1].toArray w fun v w' => v = .int .i64 r ∧ Ext w w' := by
  have hS := ((St.init w no).param (ci .i64) Aa0 ca0 a0 hr0 hc0)
  unfold slices_IndexFunc_int64_int64.f at H
  refine CV.body Tryd.func82 rfl Tryd.ntmps82 rfl ?_
  refine CJ.seq ?_
  refine CJ.region ?_
  refine OJ.pures tU_ok 1 rfl ?_
  refine OJ.nil (EJ.next ?_)
  refine CJ.seq ?_
  refine CJ.seq ?_
  refine CJ.region ?_
  refine OJ.pures tU_ok 3 rfl ?_
  refine OJ.nil (EJ.next ?_)
  obtain ⟨j71, H, K71⟩ := pbind H
  refine CJ.cut1 (fun F w1 => (some (Sum.inr ()) : Option (Int ⊕ Unit)) = some j71 ∧ F = [] ∧ St w no w1 [] [roC (ci .i64) Aa0 ca0 a0]) ?_ ?_
  · skip
    refine CJ.block ?_
    refine CJ.loop (fun k F w1 => ∃ (y1 : Int), F = [(0, .slice Aa0 a0.length ca0), (1, .func (.func na1) fsa1 capa1), (7, .int .i64 (a0.length : Int)), (8, .int .i64 y1)] ∧ St w no w1 [] [roC (ci .i64) Aa0 ca0 a0] ∧ slices_IndexFunc_int64_int64.l1 a0 a1 k y1 = some j71) k (F' := [(0, .slice Aa0 a0.length ca0), (1, .func (.func na1) fsa1 capa1), (7, .int .i64 (a0.length : Int)), (8, .int .i64 0)]) ⟨rfl, rfl, rfl, rfl, trivial⟩ ⟨0, rfl, hS.pick [] [0] rfl, H⟩ ?_
    rintro k F w1 ⟨y1, rfl, hS, H⟩
    cases k with
    | zero => rw [slices_IndexFunc_int64_int64.l1] at H; cases H
    | succ k =>
      rw [slices_IndexFunc_int64_int64.l1] at H
      refine CJ.seq ?_
      refine CJ.region ?_
      refine OJ.pures tU_ok 1 rfl ?_
      refine OJ.nil (EJ.next ?_)
      refine CJ.seq ?_
      refine CJ.cond rfl (fun hb => ?_) (fun hb => ?_)
      · replace H := pif_t (of_decide_eq_true hb) H
        refine CJ.skip (EJ.next ?_)
        refine CJ.seq ?_
        refine CJ.block ?_
        refine CJ.seq ?_
        refine CJ.region ?_
        refine OJ.pures tU_ok 2 rfl ?_
        refine OJ.nil (EJ.next ?_)
        refine CJ.seq ?_
        refine CJ.region ?_
        refine OJ.pures tU_ok 3 rfl ?_
        obtain ⟨t2, ht2, H⟩ := pbind H
        obtain ⟨ad2, e2⟩ := (hS.rd' (i := 0) rfl).some' ht2
        refine OJ.st rfl rfl rfl (SR.idxS tU_ok tI_ok rfl rfl rfl rfl e2 rfl (getI_some ht2).1) ?_
        refine OJ.st rfl rfl rfl (SR.load rfl rfl (fun w' hx => ld1 tU_ok rfl rfl (CA.ext ((hS.rd' (i := 0) rfl).at_ e2 ht2) hx) rfl)) ?_
        obtain ⟨t3, ht3, H⟩ := pbind H
        refine OJ.call rfl rfl (Nat.le_of_ble_eq_true rfl) rfl rfl rfl hb1 rfl (hf1 t2 _ ht3 _ hS.chg) ?_
        rintro _ w1 ⟨rfl, hs⟩
        replace hS := hS.grow hs
        refine OJ.nil (EJ.next ?_)
        refine CJ.cond rfl (fun hb => ?_) (fun hb => ?_)
        · replace H := pif_t hb H
          refine CJ.seq ?_
          refine CJ.region ?_
          refine OJ.pures tU_ok 2 rfl ?_
          refine OJ.nil (EJ.next ?_)
          refine CJ.ret (EJ.bkR (EJ.skR (EJ.skR (EJ.bkR (EJ.skR (EJ.skR (?_)))))))
          first | (obtain rfl := Option.some.inj H; have H := K71) | (obtain ⟨q71, H2, e71⟩ := pbind H; obtain rfl := Option.some.inj e71; obtain rfl := Option.some.inj K71; have H := H2)
          obtain rfl := Option.some.inj H
          exact EJ.fin rfl (.tmp rfl .nil) ⟨rfl, hS.ext⟩
        · replace H := pifb_f hb H
          refine CJ.skip (EJ.blk (EJ.next ?_))
          refine CJ.region ?_
          refine OJ.pures tU_ok 2 rfl ?_
          refine OJ.nil ?_
          exact EJ.round k (F' := [(0, .slice Aa0 a0.length ca0), (1, .func (.func na1) fsa1 capa1), (7, .int .i64 (a0.length : Int)), (8, .int .i64 (IntKind.i64.wrap (y1 + 1)))]) ⟨rfl, rfl, rfl, rfl, trivial⟩ (Nat.lt_succ_self _) ⟨(IntKind.i64.wrap (y1 + 1)), rfl, hS.pick [] [0] rfl, H⟩
      · replace H := pif_f (of_decide_eq_false hb) H
        refine CJ.exit (EJ.skE (EJ.skE (EJ.hit (?_))))
        exact EJ.meet (F' := []) trivial ⟨H, rfl, hS.pick [] [0] rfl⟩
  · rintro F w1 ⟨he, rfl, hS⟩
    obtain rfl := Option.some.inj he
    have H := K71
    refine EJ.next ?_
    refine CJ.seq ?_
    refine CJ.region ?_
    refine OJ.pures tU_ok 1 rfl ?_
    refine OJ.nil (EJ.next ?_)
    refine CJ.ret (?_)
    obtain rfl := Option.some.inj H
    exact EJ.fin rfl (.tmp rfl .nil) ⟨rfl, hS.ext⟩

def slices_ContainsFunc_int64_int64.f (k : Nat) (a0 : List Int) (a1 : Int → Option Bool) : Option Bool := (slices_IndexFunc_int64_int64.f k a0 a1).bind fun t1 => some (decide (0 ≤ t1))
theorem slices_ContainsFunc_int64_int64.c (k : Nat) (w : World) (Aa0 : Option Addr) (ca0 : Nat) (a0 : List Int) (hr0 : Rd (ci .i64) w Aa0 a0) (hc0 : a0.length ≤ ca0) (na1 : Nat) (fsa1 capa1 : Array Value) (hb1 : hasBody Tryd.prog na1) (a1 : Int → Option Bool) (hf1 : ∀ (z0 : Int) (r : Bool), a1 z0 = some r → ∀ w', Chg no w w' → CV Tryd.prog na1 (fsa1 ++ [.int .i64 z0].toArray ++ capa1) w' fun v w'' => v = .bool r ∧ Ext w' w'') (r : Bool) (H : slices_ContainsFunc_int64_int64.f k a0 a1 = some r) :
    CV Tryd.prog 55 [.slice Aa0 a0.length ca0, .func (.func na1) fsa1 capa1].toArray w fun v w' => v = .bool r ∧ Ext w w' := by
  have hS := ((St.init w no).param (ci .i64) Aa0 ca0 a0 hr0 hc0)
  unfold slices_ContainsFunc_int64_int64.f at H
  refine CV.body Tryd.func55 rfl Tryd.ntmps55 rfl ?_
  refine CJ.seq ?_
  refine CJ.region ?_
  refine OJ.pures tU_ok 1 rfl ?_
  refine OJ.nil (EJ.next ?_)
  refine CJ.seq ?_
  refine CJ.region ?_
  refine OJ.pures tU_ok 2 rfl ?_
  obtain ⟨t1, ht1, H⟩ := pbind H
  refine OJ.callF rfl rfl rfl rfl rfl hb82 rfl (slices_IndexFunc_int64_int64.c k _ Aa0 ca0 a0 (hS.rd' (i := 0) rfl) (hS.le' (i := 0) rfl) na1 fsa1 capa1 hb1 a1 (fun z0 r h w' hx => hf1 z0 r h w' (hS.chg.then hx (fun _ _ e => e.elim))) _ ht1) ?_
  rintro _ w1 ⟨rfl, hs⟩
  replace hS := hS.grow hs
  refine OJ.pures tU_ok 2 rfl ?_
  refine OJ.nil (EJ.next ?_)
  refine CJ.ret (?_)
  obtain rfl := Option.some.inj H
  exact EJ.fin rfl (.tmp rfl .nil) ⟨rfl, hS.ext⟩

def impl_herdCode_1.f (a1 : Herd) (a0 : Int) : Option Bool := (impl_Herd_many.f a1).bind fun t1 => (impl_within.f a0 0 (IntKind.i64.wrap (t1 - 1))).bind fun t2 => some (!t2)
theorem impl_herdCode_1.c (w : World) (Aa1_0 : Option Addr) (ca1_0 : Nat) (Aa1_1 : Option Addr) (ca1_1 : Nat) (Aa1_2 : Option Addr) (ca1_2 : Nat) (a1 : Herd) (hr1_0 : Rd G.cs w Aa1_0 a1.Names) (hc1_0 : a1.Names.length ≤ ca1_0) (hr1_1 : Rd (ci .i16) w Aa1_1 a1.Eats) (hc1_1 : a1.Eats.length ≤ ca1_1) (hr1_2 : Rd (ci .u16) w Aa1_2 a1.Foes) (hc1_2 : a1.Foes.length ≤ ca1_2) (pa1 : Addr) (hp1 : CA w pa1 ([.slice Aa1_0 a1.Names.length ca1_0, .slice Aa1_1 a1.Eats.length ca1_1, .slice Aa1_2 a1.Foes.length ca1_2])) (a0 : Int) (r : Bool) (H : impl_herdCode_1.f a1 a0 = some r) :
    CV Tryd.prog 71 [.int .i64 a0, .pointer (some pa1)].toArray w fun v w' => v = .bool r ∧ Ext w w' := by
  have hS := (((((St.init w no).param G.cs Aa1_0 ca1_0 a1.Names hr1_0 hc1_0).param (ci .i16) Aa1_1 ca1_1 a1.Eats hr1_1 hc1_1).param (ci .u16) Aa1_2 ca1_2 a1.Foes hr1_2 hc1_2).paramP pa1 ([.slice Aa1_0 a1.Names.length ca1_0, .slice Aa1_1 a1.Eats.length ca1_1, .slice Aa1_2 a1.Foes.length ca1_2]) hp1)
  unfold impl_herdCode_1.f at H
  refine CV.body Tryd.func71 rfl Tryd.ntmps71 rfl ?_
  refine CJ.seq ?_
  refine CJ.region ?_
  refine OJ.pures tU_ok 1 rfl ?_
  refine OJ.nil (EJ.next ?_)
  refine CJ.seq ?_
  refine CJ.region ?_
  refine OJ.pures tU_ok 1 rfl ?_
  refine OJ.st rfl rfl rfl (SR.load rfl rfl (fun w' hx => ldN tU_ok tI_ok rfl rfl rfl (CA.ext (hS.ca (i := 3) rfl) hx) (ds := [.slice Aa1_0 a1.Names.length ca1_0, .slice Aa1_1 a1.Eats.length ca1_1, .slice Aa1_2 a1.Foes.length ca1_2]) rfl rfl)) ?_
  obtain ⟨t1, ht1, H⟩ := pbind H
  refine OJ.callF rfl rfl rfl rfl rfl hb53 rfl (impl_Herd_many.c _ Aa1_0 ca1_0 Aa1_1 ca1_1 Aa1_2 ca1_2 a1 (hS.rd' (i := 0) rfl) (hS.le' (i := 0) rfl) (hS.rd' (i := 1) rfl) (hS.le' (i := 1) rfl) (hS.rd' (i := 2) rfl) (hS.le' (i := 2) rfl) _ ht1) ?_
  rintro _ w1 ⟨rfl, hs⟩
  replace hS := hS.grow hs
  refine OJ.pures tU_ok 1 rfl ?_
  obtain ⟨t2, ht2, H⟩ := pbind H
  refine OJ.callF rfl rfl rfl rfl rfl hb63 rfl (impl_within.c _ a0 0 (IntKind.i64.wrap (t1 - 1)) _ ht2) ?_
  rintro _ w1 ⟨rfl, hs⟩
  replace hS := hS.grow hs
  refine OJ.pures tU_ok 2 rfl ?_
  refine OJ.nil (EJ.next ?_)
  refine CJ.ret (?_)
  obtain rfl := Option.some.inj H
  exact EJ.fin rfl (.tmp rfl .nil) ⟨rfl, hS.ext⟩

def impl_unless.f (a0 : Bool) (a1 : Int) : Option Int := if a0 = true then (some 0) else (some a1)
theorem impl_unless.c (w : World) (a0 : Bool) (a1 : Int) (r : Int) (H : impl_unless.f a0 a1 = some r) :
    CV Tryd.prog 35 [.bool a0, .int .i64 a1].toArray w fun v w' => v = .int .i64 r ∧ Ext w w' := by
  have hS := (St.init w no)
  unfold impl_unless.f at H
  refine CV.body Tryd.func35 rfl Tryd.ntmps35 rfl ?_
  refine CJ.seq ?_
  refine CJ.region ?_
  refine OJ.pures tU_ok 1 rfl ?_
  refine OJ.nil (EJ.next ?_)
  refine CJ.seq ?_
  refine CJ.seq ?_
  refine CJ.region ?_
  refine OJ.pures tU_ok 1 rfl ?_
  refine OJ.nil (EJ.next ?_)
  refine CJ.cond rfl (fun hb => ?_) (fun hb => ?_)
  · replace H := pif_t hb H
    refine CJ.seq ?_
    refine CJ.region ?_
    refine OJ.pures tU_ok 1 rfl ?_
    refine OJ.nil (EJ.next ?_)
    refine CJ.ret (EJ.skR (?_))
    obtain rfl := Option.some.inj H
    exact EJ.fin rfl (.tmp rfl .nil) ⟨rfl, hS.ext⟩
  · replace H := pifb_f hb H
    refine CJ.skip (EJ.next ?_)
    refine CJ.seq ?_
    refine CJ.region ?_
    refine OJ.pures tU_ok 2 rfl ?_
    refine OJ.nil (EJ.next ?_)
    refine CJ.ret (?_)
    obtain rfl := Option.some.inj H
    exact EJ.fin rfl (.tmp rfl .nil) ⟨rfl, hS.ext⟩

def impl_herdCode.f (k : Nat) (a0 : Herd) (a1 : List Int) : Option Int := (impl_ValidHerd.f k a0).bind fun t2 => if (!t2) = true then (some 1) else ((slices_ContainsFunc_int64_int64.f k a1 (impl_herdCode_1.f a0)).bind fun t3 => (impl_unless.f (!t3) 2).bind fun t4 => some t4)
theorem impl_herdCode.c (k : Nat) (w : World) (Aa0_0 : Option Addr) (ca0_0 : Nat) (Aa0_1 : Option Addr) (ca0_1 : Nat) (Aa0_2 : Option Addr) (ca0_2 : Nat) (a0 : Herd) (hr0_0 : Rd G.cs w Aa0_0 a0.Names) (hc0_0 : a0.Names.length ≤ ca0_0) (hr0_1 : Rd (ci .i16) w Aa0_1 a0.Eats) (hc0_1 : a0.Eats.length ≤ ca0_1) (hr0_2 : Rd (ci .u16) w Aa0_2 a0.Foes) (hc0_2 : a0.Foes.length ≤ ca0_2) (Aa1 : Option Addr) (ca1 : Nat) (a1 : List Int) (hr1 : Rd (ci .i64) w Aa1 a1) (hc1 : a1.length ≤ ca1) (r : Int) (H : impl_herdCode.f k a0 a1 = some r) :
    CV Tryd.prog 34 [.agg [.slice Aa0_0 a0.Names.length ca0_0, .slice Aa0_1 a0.Eats.length ca0_1, .slice Aa0_2 a0.Foes.length ca0_2].toArray, .slice Aa1 a1.length ca1].toArray w fun v w' => v = .int .i64 r ∧ Ext w w' := by
  have hS := (((((St.init w no).param G.cs Aa0_0 ca0_0 a0.Names hr0_0 hc0_0).param (ci .i16) Aa0_1 ca0_1 a0.Eats hr0_1 hc0_1).param (ci .u16) Aa0_2 ca0_2 a0.Foes hr0_2 hc0_2).param (ci .i64) Aa1 ca1 a1 hr1 hc1)
  unfold impl_herdCode.f at H
  refine CV.body Tryd.func34 rfl Tryd.ntmps34 rfl ?_
  refine CJ.seq ?_
  refine CJ.region ?_
  refine OJ.ef rfl rfl rfl (Ef.box hS rfl rfl ([.slice Aa0_0 a0.Names.length ca0_0, .slice Aa0_1 a0.Eats.length ca0_1, .slice Aa0_2 a0.Foes.length ca0_2]) rfl) ?_
  rintro _ w1 ⟨b1, rfl, hS⟩
  refine OJ.pures tU_ok 1 rfl ?_
  refine OJ.nil (EJ.next ?_)
  refine CJ.seq ?_
  refine CJ.seq ?_
  refine CJ.region ?_
  refine OJ.st rfl rfl rfl (SR.load rfl rfl (fun w' hx => ldN tU_ok tI_ok rfl rfl rfl (CA.ext (hS.cells (i := 0) rfl) hx) (ds := [.slice Aa0_0 a0.Names.length ca0_0, .slice Aa0_1 a0.Eats.length ca0_1, .slice Aa0_2 a0.Foes.length ca0_2]) rfl rfl)) ?_
  obtain ⟨t2, ht2, H⟩ := pbind H
  refine OJ.callF rfl rfl rfl rfl rfl hb51 rfl (impl_ValidHerd.c k _ Aa0_0 ca0_0 Aa0_1 ca0_1 Aa0_2 ca0_2 a0 (hS.rd' (i := 0) rfl) (hS.le' (i := 0) rfl) (hS.rd' (i := 1) rfl) (hS.le' (i := 1) rfl) (hS.rd' (i := 2) rfl) (hS.le' (i := 2) rfl) _ ht2) ?_
  rintro _ w1 ⟨rfl, hs⟩
  replace hS := hS.grow hs
  refine OJ.pures tU_ok 1 rfl ?_
  refine OJ.nil (EJ.next ?_)
  refine CJ.cond rfl (fun hb => ?_) (fun hb => ?_)
  · replace H := pif_t hb H
    refine CJ.seq ?_
    refine CJ.region ?_
    refine OJ.pures tU_ok 1 rfl ?_
    refine OJ.nil (EJ.next ?_)
    refine CJ.ret (EJ.skR (?_))
    obtain rfl := Option.some.inj H
    exact EJ.fin rfl (.tmp rfl .nil) ⟨rfl, hS.ext⟩
  · replace H := pifb_f hb H
    refine CJ.skip (EJ.next ?_)
    refine CJ.seq ?_
    refine CJ.region ?_
    refine OJ.pures tU_ok 2 rfl ?_
    obtain ⟨t3, ht3, H⟩ := pbind H
    refine OJ.callF rfl rfl rfl rfl rfl hb55 rfl (slices_ContainsFunc_int64_int64.c k _ Aa1 ca1 a1 (hS.rd' (i := 3) rfl) (hS.le' (i := 3) rfl) 71 #[] #[.pointer (some ⟨b1, 0, none⟩)] hb71 (impl_herdCode_1.f a0) (fun z0 r h w' hx => CV.cast (impl_herdCode_1.c w' Aa0_0 ca0_0 Aa0_1 ca0_1 Aa0_2 ca0_2 a0 ((hS.rd' (i := 0) rfl).ext hx) (hS.le' (i := 0) rfl) ((hS.rd' (i := 1) rfl).ext hx) (hS.le' (i := 1) rfl) ((hS.rd' (i := 2) rfl).ext hx) (hS.le' (i := 2) rfl) ⟨b1, 0, none⟩ (CA.ext (hS.cells (i := 0) rfl) hx)  z0 r h) (by simp)) _ ht3) ?_
    rintro _ w1 ⟨rfl, hs⟩
    replace hS := hS.grow hs
    refine OJ.pures tU_ok 1 rfl ?_
    obtain ⟨t4, ht4, H⟩ := pbind H
    refine OJ.callF rfl rfl rfl rfl rfl hb35 rfl (impl_unless.c _ (!t3) 2 _ ht4) ?_
    rintro _ w1 ⟨rfl, hs⟩
    replace hS := hS.grow hs
    refine OJ.pures tU_ok 1 rfl ?_
    refine OJ.nil (EJ.next ?_)
    refine CJ.ret (?_)
    obtain rfl := Option.some.inj H
    exact EJ.fin rfl (.tmp rfl .nil) ⟨rfl, hS.ext⟩

def math_bits_Mul64.f (a0 : Int) (a1 : Int) : Option (Int × Int) := some (IntKind.u64.wrap ((IntKind.u64.wrap ((IntKind.u64.wrap ((shrI .u64 a0 32) * (shrI .u64 a1 32))) + (shrI .u64 (IntKind.u64.wrap ((IntKind.u64.wrap ((shrI .u64 a0 32) * (andI .u64 a1 4294967295))) + (shrI .u64 (IntKind.u64.wrap ((andI .u64 a0 4294967295) * (andI .u64 a1 4294967295))) 32))) 32))) + (shrI .u64 (IntKind.u64.wrap ((andI .u64 (IntKind.u64.wrap ((IntKind.u64.wrap ((shrI .u64 a0 32) * (andI .u64 a1 4294967295))) + (shrI .u64 (IntKind.u64.wrap ((andI .u64 a0 4294967295) * (andI .u64 a1 4294967295))) 32))) 4294967295) + (IntKind.u64.wrap ((andI .u64 a0 4294967295) * (shrI .u64 a1 32))))) 32)), IntKind.u64.wrap (a0 * a1))
theorem math_bits_Mul64.c (w : World) (a0 : Int) (a1 : Int) (r : Int × Int) (H : math_bits_Mul64.f a0 a1 = some r) :
    CV Tryd.prog 97 [.int .u64 a0, .int .u64 a1].toArray w fun v w' => v = .tuple #[.int .u64 r.1, .int .u64 r.2] ∧ Ext w w' := by
  have hS := (St.init w no)
  unfold math_bits_Mul64.f at H
  refine CV.body Tryd.func97 rfl Tryd.ntmps97 rfl ?_
  refine CJ.seq ?_
  refine CJ.region ?_
  refine OJ.pures tU_ok 2 rfl ?_
  refine OJ.nil (EJ.next ?_)
  refine CJ.seq ?_
  refine CJ.region ?_
  refine OJ.pures tU_ok 3 rfl ?_
  refine OJ.nil (EJ.next ?_)
  refine CJ.seq ?_
  refine CJ.region ?_
  refine OJ.pures tU_ok 1 rfl ?_
  refine OJ.st rfl rfl rfl (SR.shr rfl rfl rfl (by decide)) ?_
  refine OJ.pures tU_ok 1 rfl ?_
  refine OJ.nil (EJ.next ?_)
  refine CJ.seq ?_
  refine CJ.region ?_
  refine OJ.pures tU_ok 3 rfl ?_
  refine OJ.nil (EJ.next ?_)
  refine CJ.seq ?_
  refine CJ.region ?_
  refine OJ.pures tU_ok 1 rfl ?_
  refine OJ.st rfl rfl rfl (SR.shr rfl rfl rfl (by decide)) ?_
  refine OJ.pures tU_ok 1 rfl ?_
  refine OJ.nil (EJ.next ?_)
  refine CJ.seq ?_
  refine CJ.region ?_
  refine OJ.pures tU_ok 4 rfl ?_
  refine OJ.nil (EJ.next ?_)
  refine CJ.seq ?_
  refine CJ.region ?_
  refine OJ.pures tU_ok 4 rfl ?_
  refine OJ.st rfl rfl rfl (SR.shr rfl rfl rfl (by decide)) ?_
  refine OJ.pures tU_ok 2 rfl ?_
  refine OJ.nil (EJ.next ?_)
  refine CJ.seq ?_
  refine CJ.region ?_
  refine OJ.pures tU_ok 3 rfl ?_
  refine OJ.nil (EJ.next ?_)
  refine CJ.seq ?_
  refine CJ.region ?_
  refine OJ.pures tU_ok 1 rfl ?_
  refine OJ.st rfl rfl rfl (SR.shr rfl rfl rfl (by decide)) ?_
  refine OJ.pures tU_ok 1 rfl ?_
  refine OJ.nil (EJ.next ?_)
  refine CJ.seq ?_
  refine CJ.region ?_
  refine OJ.pures tU_ok 6 rfl ?_
  refine OJ.nil (EJ.next ?_)
  refine CJ.seq ?_
  refine CJ.region ?_
  refine OJ.pures tU_ok 6 rfl ?_
  refine OJ.st rfl rfl rfl (SR.shr rfl rfl rfl (by decide)) ?_
  refine OJ.pures tU_ok 2 rfl ?_
  refine OJ.nil (EJ.next ?_)
  refine CJ.seq ?_
  refine CJ.region ?_
  refine OJ.pures tU_ok 4 rfl ?_
  refine OJ.nil (EJ.next ?_)
  refine CJ.ret (?_)
  obtain rfl := Option.some.inj H
  exact EJ.fin rfl (.tmp rfl (.tmp rfl .nil)) ⟨rfl, hS.ext⟩

def math_bits_Mul.f (a0 : Int) (a1 : Int) : Option (Int × Int) := (math_bits_Mul64.f a0 a1).bind fun t1 => some (t1.1, t1.2)
theorem math_bits_Mul.c (w : World) (a0 : Int) (a1 : Int) (r : Int × Int) (H : math_bits_Mul.f a0 a1 = some r) :
    CV Tryd.prog 81 [.int .u64 a0, .int .u64 a1].toArray w fun v w' => v = .tuple #[.int .u64 r.1, .int .u64 r.2] ∧ Ext w w' := by
  have hS := (St.init w no)
  unfold math_bits_Mul.f at H
  refine CV.body Tryd.func81 rfl Tryd.ntmps81 rfl ?_
  refine CJ.seq ?_
  refine CJ.region ?_
  refine OJ.pures tU_ok 2 rfl ?_
  refine OJ.nil (EJ.next ?_)
  refine CJ.seq ?_
  refine CJ.condF rfl ?_
  refine CJ.skip (EJ.next ?_)
  refine CJ.seq ?_
  refine CJ.region ?_
  refine OJ.pures tU_ok 2 rfl ?_
  obtain ⟨t1, ht1, H⟩ := pbind H
  refine OJ.callF rfl rfl rfl rfl rfl hb97 rfl (math_bits_Mul64.c _ a0 a1 _ ht1) ?_
  rintro _ w1 ⟨rfl, hs⟩
  replace hS := hS.grow hs
  refine OJ.pures tU_ok 5 rfl ?_
  refine OJ.nil (EJ.next ?_)
  refine CJ.seq ?_
  refine CJ.region ?_
  refine OJ.pures tU_ok 4 rfl ?_
  refine OJ.nil (EJ.next ?_)
  refine CJ.ret (?_)
  obtain rfl := Option.some.inj H
  exact EJ.fin rfl (.tmp rfl (.tmp rfl .nil)) ⟨rfl, hS.ext⟩

def slices_Repeat_int64_int64.l1 : Nat → (List Int) → Int → Option (List Int)
  | 0, _, _ => none
  | k + 1, y6, y7 => if y7 < (y6.length : Int) then ((chk ((0 : Int) ≤ y7 ∧ y7 ≤ (y6.length : Int) ∧ (y6.length : Int) ≤ (y6.length : Int))).bind fun u8 => (chk ((0 : Int) ≤ 0 ∧ 0 ≤ y7 ∧ y7 ≤ (y6.length : Int))).bind fun u9 => slices_Repeat_int64_int64.l1 k (cpy y6 y7.toNat (y6.length - y7.toNat) (y6.take y7.toNat)) (IntKind.i64.wrap (y7 + (cpyN (y6.length - y7.toNat) (y6.take y7.toNat) : Nat)))) else (some y6)
def slices_Repeat_int64_int64.f (k : Nat) (a0 : List Int) (a1 : Int) : Option (List Int) := if a1 < 0 then none else ((math_bits_Mul.f (IntKind.u64.wrap (a0.length : Int)) (IntKind.u64.wrap a1)).bind fun t1 => (if 0 < t1.1 then (some true) else (some (decide (9223372036854775807 < t1.2)))).bind fun y2 => if y2 = true then none else ((chk (0 ≤ (IntKind.i64.wrap t1.2) ∧ (IntKind.i64.wrap t1.2) ≤ 4294967296)).bind fun u3 => (slices_Repeat_int64_int64.l1 k (cpy (List.replicate ((IntKind.i64.wrap t1.2).toNat) 0 : List Int) 0 ((List.replicate ((IntKind.i64.wrap t1.2).toNat) 0 : List Int).length) a0) (cpyN ((List.replicate ((IntKind.i64.wrap t1.2).toNat) 0 : List Int).length) a0 : Nat)).bind fun y5 => some y5))
theorem slices_Repeat_int64_int64.c (k : Nat) (w : World) (Aa0 : Option Addr) (ca0 : Nat) (a0 : List Int) (hr0 : Rd (ci .i64) w Aa0 a0) (hc0 : a0.length ≤ ca0) (a1 : Int) (r : List Int) (H : slices_Repeat_int64_int64.f k a0 a1 = some r) :
    CV Tryd.prog 54 [.slice Aa0 a0.length ca0, .int .i64 a1].toArray w fun v w' => ∃ (A0 : Option Addr) (c0 : Nat), v = .slice A0 r.length c0 ∧ St w no w' [rowC (ci .i64) A0 c0 2 r] [] := by
  have hS := ((St.init w no).param (ci .i64) Aa0 ca0 a0 hr0 hc0)
  unfold slices_Repeat_int64_int64.f at H
  refine CV.body Tryd.func54 rfl Tryd.ntmps54 rfl ?_
  refine CJ.seq ?_
  refine CJ.region ?_
  refine OJ.pures tU_ok 1 rfl ?_
  refine OJ.nil (EJ.next ?_)
  refine CJ.seq ?_
  refine CJ.seq ?_
  refine CJ.region ?_
  refine OJ.pures tU_ok 2 rfl ?_
  refine OJ.nil (EJ.next ?_)
  refine CJ.cond rfl (fun hb => ?_) (fun hb => ?_)
  · replace H := pif_t (of_decide_eq_true hb) H
    cases H
  · replace H := pif_f (of_decide_eq_false hb) H
    refine CJ.skip (EJ.next ?_)
    refine CJ.seq ?_
    refine CJ.region ?_
    refine OJ.pures tU_ok 5 rfl ?_
    obtain ⟨t1, ht1, H⟩ := pbind H
    refine OJ.callF rfl rfl rfl rfl rfl hb81 rfl (math_bits_Mul.c _ (IntKind.u64.wrap (a0.length : Int)) (IntKind.u64.wrap a1) _ ht1) ?_
    rintro _ w1 ⟨rfl, hs⟩
    replace hS := hS.grow hs
    refine OJ.pures tU_ok 5 rfl ?_
    refine OJ.nil (EJ.next ?_)
    refine CJ.seq ?_
    obtain ⟨j72, H, K72⟩ := pbind H
    refine CJ.cut (fun F w1 => ∃ (y2 : Bool) , (some y2 : Option Bool) = some j72 ∧ F = [(0, .slice Aa0 a0.length ca0), (6, .int .u64 t1.2), (26, .bool y2)] ∧ St w no w1 [] [roC (ci .i64) Aa0 ca0 a0]) ?_ ?_
    · skip
      refine CJ.region ?_
      refine OJ.pures tU_ok 3 rfl ?_
      refine OJ.split (t := 23) rfl (fun hb => ?_) (fun hb => ?_)
      · replace H := pif_t (of_decide_eq_true hb) H
        refine OJ.pures tU_ok 3 rfl ?_
        refine OJ.nil ?_
        exact EJ.meet (F' := [(0, .slice Aa0 a0.length ca0), (6, .int .u64 t1.2), (26, .bool true)]) ⟨rfl, rfl, rfl, trivial⟩ ⟨true, H, rfl, hS.pick [] [0] rfl⟩
      · replace H := pif_f (of_decide_eq_false hb) H
        refine OJ.pures tU_ok 3 rfl ?_
        refine OJ.nil ?_
        exact EJ.meet (F' := [(0, .slice Aa0 a0.length ca0), (6, .int .u64 t1.2), (26, .bool (decide (9223372036854775807 < t1.2)))]) ⟨rfl, rfl, rfl, trivial⟩ ⟨(decide (9223372036854775807 < t1.2)), H, rfl, hS.pick [] [0] rfl⟩
    · rintro F w1 ⟨y2, he, rfl, hS⟩
      obtain rfl := Option.some.inj he
      have H := K72
      refine CJ.cond rfl (fun hb => ?_) (fun hb => ?_)
      · replace H := pif_t hb H
        cases H
      · replace H := pifb_f hb H
        refine CJ.skip (EJ.next ?_)
        refine CJ.seq ?_
        refine CJ.region ?_
        refine OJ.pures tU_ok 2 rfl ?_
        obtain ⟨u3, hu3, H⟩ := pbind H
        refine OJ.ef rfl rfl rfl (Ef.make tU_ok tI_ok hS (C := (ci .i64)) rfl rfl rfl rfl rfl rfl rfl rfl (chk_some hu3) 0 rfl) ?_
        rintro _ w1 ⟨A4, rfl, hS⟩
        refine OJ.pures tU_ok 1 rfl ?_
        refine OJ.nil (EJ.next ?_)
        refine CJ.seq ?_
        refine CJ.region ?_
        refine OJ.pures tU_ok 2 rfl ?_
        refine OJ.ew rfl rfl rfl (Ew.copy tU_ok tI_ok (C := (ci .i64)) (lo := 0) (n1 := (List.replicate ((IntKind.i64.wrap t1.2).toNat) 0 : List Int).length) (ys := a0) hS (i := 0) rfl rfl rfl rfl rfl rfl rfl rfl rfl rfl (by omega) (fun g h0 hA => hA) rfl rfl (hS.rd' (i := 0) rfl)) ?_
        rintro _ w1 ⟨rfl, hS⟩
        refine OJ.as (t := 30) rfl (show _ = (.slice A4 (cpy (List.replicate ((IntKind.i64.wrap t1.2).toNat) 0 : List Int) 0 ((List.replicate ((IntKind.i64.wrap t1.2).toNat) 0 : List Int).length) a0).length ((IntKind.i64.wrap t1.2).toNat) : Value) by rw [cpy_len (by omega)]) ?_
        refine OJ.as (t := 7) rfl (show _ = (.slice A4 (cpy (List.replicate ((IntKind.i64.wrap t1.2).toNat) 0 : List Int) 0 ((List.replicate ((IntKind.i64.wrap t1.2).toNat) 0 : List Int).length) a0).length ((IntKind.i64.wrap t1.2).toNat) : Value) by rw [cpy_len (by omega)]) ?_
        refine OJ.as (t := 31) rfl (show _ = (.slice A4 (cpy (List.replicate ((IntKind.i64.wrap t1.2).toNat) 0 : List Int) 0 ((List.replicate ((IntKind.i64.wrap t1.2).toNat) 0 : List Int).length) a0).length ((IntKind.i64.wrap t1.2).toNat) : Value) by rw [cpy_len (by omega)]) ?_
        refine OJ.pures tU_ok 1 rfl ?_
        refine OJ.nil (EJ.next ?_)
        obtain ⟨j73, H, K73⟩ := pbind H
        refine CJ.cut (fun F w1 => ∃ (y5 : List Int) , (some y5 : Option (List Int)) = some j73 ∧ F = [(7, .slice A4 y5.length ((IntKind.i64.wrap t1.2).toNat))] ∧ St w no w1 [rowC (ci .i64) A4 ((IntKind.i64.wrap t1.2).toNat) 2 y5] [roC (ci .i64) Aa0 ca0 a0]) ?_ ?_
        · skip
          refine CJ.block ?_
          refine CJ.loop (fun k F w1 => ∃ (y6 : List Int) (y7 : Int), F = [(7, .slice A4 y6.length ((IntKind.i64.wrap t1.2).toNat)), (8, .int .i64 y7)] ∧ St w no w1 [rowC (ci .i64) A4 ((IntKind.i64.wrap t1.2).toNat) 2 y6] [roC (ci .i64) Aa0 ca0 a0] ∧ slices_Repeat_int64_int64.l1 k y6 y7 = some j73) k (F' := [(7, .slice A4 (cpy (List.replicate ((IntKind.i64.wrap t1.2).toNat) 0 : List Int) 0 ((List.replicate ((IntKind.i64.wrap t1.2).toNat) 0 : List Int).length) a0).length ((IntKind.i64.wrap t1.2).toNat)), (8, .int .i64 (cpyN ((List.replicate ((IntKind.i64.wrap t1.2).toNat) 0 : List Int).length) a0 : Nat))]) ⟨rfl, rfl, trivial⟩ ⟨(cpy (List.replicate ((IntKind.i64.wrap t1.2).toNat) 0 : List Int) 0 ((List.replicate ((IntKind.i64.wrap t1.2).toNat) 0 : List Int).length) a0), (cpyN ((List.replicate ((IntKind.i64.wrap t1.2).toNat) 0 : List Int).length) a0 : Nat), rfl, hS.pick [0] [0] rfl, H⟩ ?_
          rintro k F w1 ⟨y6, y7, rfl, hS, H⟩
          cases k with
          | zero => rw [slices_Repeat_int64_int64.l1] at H; cases H
          | succ k =>
            rw [slices_Repeat_int64_int64.l1] at H
            refine CJ.seq ?_
            refine CJ.seq ?_
            refine CJ.region ?_
            refine OJ.pures tU_ok 4 rfl ?_
            refine OJ.nil (EJ.next ?_)
            refine CJ.cond rfl (fun hb => ?_) (fun hb => ?_)
            · replace H := pif_t (of_decide_eq_true hb) H
              refine CJ.skip (EJ.next ?_)
              refine CJ.block ?_
              obtain ⟨u8, hu8, H⟩ := pbind H
              obtain ⟨u9, hu9, H⟩ := pbind H
              refine CJ.cut1 (fun F w1 => F = [(7, .slice A4 (cpy y6 y7.toNat (y6.length - y7.toNat) (y6.take y7.toNat)).length ((IntKind.i64.wrap t1.2).toNat)), (8, .int .i64 (IntKind.i64.wrap (y7 + (cpyN (y6.length - y7.toNat) (y6.take y7.toNat) : Nat))))] ∧ St w no w1 [rowC (ci .i64) A4 ((IntKind.i64.wrap t1.2).toNat) 2 (cpy y6 y7.toNat (y6.length - y7.toNat) (y6.take y7.toNat))] [roC (ci .i64) Aa0 ca0 a0]) ?_ ?_
              · skip
                refine CJ.drawT [] [3, 6, 7] (.one 0 (.one 1 (.one 2 (.one 4 (.one 5 (.br (.alt 3 (.one 6 (.one 7 (.one 8 (.one 9 (.fin))))) (.alt 6 (.one 3 (.one 7 (.one 8 (.one 9 (.fin))))) (.stop))))))))) mixed (by kernel_rfl) hS [] fun w1 hS hY hV => ?_
                refine TJ.pures tU_ok 5 rfl ?_
                refine TJ.br ?_
                refine TJ.alt ?_ ?_
                · skip
                  refine TJ.se hY rfl rfl rfl rfl rfl (SR.cutS tU_ok tI_ok (y7.toNat) (y6.length) rfl rfl rfl rfl rfl rfl (.inr ⟨_, _, rfl, (chk_some hu8).1, rfl⟩) (.inl ⟨rfl, rfl⟩) (by have := (chk_some hu8); omega) (by have := (chk_some hu8); have := (hS.le (i := 0) rfl : y6.length ≤ ((IntKind.i64.wrap t1.2).toNat)); omega)) ?_
                  refine TJ.se hY rfl rfl rfl rfl rfl (SR.cut0 tU_ok tI_ok rfl rfl rfl rfl rfl (by have := (chk_some hu9); omega) (by have := (chk_some hu9); have := (hS.le (i := 0) rfl : y6.length ≤ ((IntKind.i64.wrap t1.2).toNat)); omega)) ?_
                  have hO := hS
                  refine TJ.ew rfl rfl rfl rfl rfl (Ew.copy tU_ok tI_ok (C := (ci .i64)) (lo := y7.toNat) (n1 := (y6.length - y7.toNat)) (ys := (y6.take y7.toNat)) (hS.inn []) (i := 0) rfl rfl rfl rfl rfl rfl rfl rfl rfl rfl (by have := (by have := (chk_some hu8); omega); omega) (fun g h0 hA => cutA_at (hS.le (i := 0) rfl) h0 hA) rfl (by rw [List.length_take]; have := (by have := (chk_some hu9); omega); omega) ((hS.rd (i := 0) rfl).take y7.toNat)) (by rintro _ w1 ⟨rfl, hS⟩; exact hY.wr (hO.inY [] 1 rfl rfl) hS.chg) ?_
                  rintro _ w1 hY ⟨rfl, hS⟩
                  refine TJ.as (t := 7) rfl (show _ = (.slice A4 (cpy y6 y7.toNat (y6.length - y7.toNat) (y6.take y7.toNat)).length ((IntKind.i64.wrap t1.2).toNat) : Value) by rw [cpy_len (by have := (by have := (chk_some hu8); omega); omega)]) ?_
                  refine TJ.as (t := 35) rfl (show _ = (.slice A4 (cpy y6 y7.toNat (y6.length - y7.toNat) (y6.take y7.toNat)).length ((IntKind.i64.wrap t1.2).toNat) : Value) by rw [cpy_len (by have := (by have := (chk_some hu8); omega); omega)]) ?_
                  refine TJ.as (t := 39) rfl (show _ = (.slice A4 (cpy y6 y7.toNat (y6.length - y7.toNat) (y6.take y7.toNat)).length ((IntKind.i64.wrap t1.2).toNat) : Value) by rw [cpy_len (by have := (by have := (chk_some hu8); omega); omega)]) ?_
                  refine TJ.as (t := 42) rfl (show _ = (.slice A4 (cpy y6 y7.toNat (y6.length - y7.toNat) (y6.take y7.toNat)).length ((IntKind.i64.wrap t1.2).toNat) : Value) by rw [cpy_len (by have := (by have := (chk_some hu8); omega); omega)]) ?_
                  have hS : St w no w1 [rowC (ci .i64) A4 ((IntKind.i64.wrap t1.2).toNat) 2 (cpy y6 y7.toNat (y6.length - y7.toNat) (y6.take y7.toNat))] [roC (ci .i64) Aa0 ca0 a0] := hO.out [] hS
                  refine TJ.pures tU_ok 2 rfl ?_
                  refine TJ.nil ?_
                  exact EJ.meet (F' := [(7, .slice A4 (cpy y6 y7.toNat (y6.length - y7.toNat) (y6.take y7.toNat)).length ((IntKind.i64.wrap t1.2).toNat)), (8, .int .i64 (IntKind.i64.wrap (y7 + (cpyN (y6.length - y7.toNat) (y6.take y7.toNat) : Nat))))]) ⟨rfl, rfl, trivial⟩ ⟨rfl, hS.pick [0] [0] rfl⟩
                refine TJ.alt ?_ ?_
                · skip
                  refine TJ.se hY rfl rfl rfl rfl rfl (SR.cut0 tU_ok tI_ok rfl rfl rfl rfl rfl (by have := (chk_some hu9); omega) (by have := (chk_some hu9); have := (hS.le (i := 0) rfl : y6.length ≤ ((IntKind.i64.wrap t1.2).toNat)); omega)) ?_
                  refine TJ.se hY rfl rfl rfl rfl rfl (SR.cutS tU_ok tI_ok (y7.toNat) (y6.length) rfl rfl rfl rfl rfl rfl (.inr ⟨_, _, rfl, (chk_some hu8).1, rfl⟩) (.inl ⟨rfl, rfl⟩) (by have := (chk_some hu8); omega) (by have := (chk_some hu8); have := (hS.le (i := 0) rfl : y6.length ≤ ((IntKind.i64.wrap t1.2).toNat)); omega)) ?_
                  have hO := hS
                  refine TJ.ew rfl rfl rfl rfl rfl (Ew.copy tU_ok tI_ok (C := (ci .i64)) (lo := y7.toNat) (n1 := (y6.length - y7.toNat)) (ys := (y6.take y7.toNat)) (hS.inn []) (i := 0) rfl rfl rfl rfl rfl rfl rfl rfl rfl rfl (by have := (by have := (chk_some hu8); omega); omega) (fun g h0 hA => cutA_at (hS.le (i := 0) rfl) h0 hA) rfl (by rw [List.length_take]; have := (by have := (chk_some hu9); omega); omega) ((hS.rd (i := 0) rfl).take y7.toNat)) (by rintro _ w1 ⟨rfl, hS⟩; exact hY.wr (hO.inY [] 1 rfl rfl) hS.chg) ?_
                  rintro _ w1 hY ⟨rfl, hS⟩
                  refine TJ.as (t := 7) rfl (show _ = (.slice A4 (cpy y6 y7.toNat (y6.length - y7.toNat) (y6.take y7.toNat)).length ((IntKind.i64.wrap t1.2).toNat) : Value) by rw [cpy_len (by have := (by have := (chk_some hu8); omega); omega)]) ?_
                  refine TJ.as (t := 35) rfl (show _ = (.slice A4 (cpy y6 y7.toNat (y6.length - y7.toNat) (y6.take y7.toNat)).length ((IntKind.i64.wrap t1.2).toNat) : Value) by rw [cpy_len (by have := (by have := (chk_some hu8); omega); omega)]) ?_
                  refine TJ.as (t := 39) rfl (show _ = (.slice A4 (cpy y6 y7.toNat (y6.length - y7.toNat) (y6.take y7.toNat)).length ((IntKind.i64.wrap t1.2).toNat) : Value) by rw [cpy_len (by have := (by have := (chk_some hu8); omega); omega)]) ?_
                  refine TJ.as (t := 42) rfl (show _ = (.slice A4 (cpy y6 y7.toNat (y6.length - y7.toNat) (y6.take y7.toNat)).length ((IntKind.i64.wrap t1.2).toNat) : Value) by rw [cpy_len (by have := (by have := (chk_some hu8); omega); omega)]) ?_
                  have hS : St w no w1 [rowC (ci .i64) A4 ((IntKind.i64.wrap t1.2).toNat) 2 (cpy y6 y7.toNat (y6.length - y7.toNat) (y6.take y7.toNat))] [roC (ci .i64) Aa0 ca0 a0] := hO.out [] hS
                  refine TJ.pures tU_ok 2 rfl ?_
                  refine TJ.nil ?_
                  exact EJ.meet (F' := [(7, .slice A4 (cpy y6 y7.toNat (y6.length - y7.toNat) (y6.take y7.toNat)).length ((IntKind.i64.wrap t1.2).toNat)), (8, .int .i64 (IntKind.i64.wrap (y7 + (cpyN (y6.length - y7.toNat) (y6.take y7.toNat) : Nat))))]) ⟨rfl, rfl, trivial⟩ ⟨rfl, hS.pick [0] [0] rfl⟩
                exact TJ.stop
              · rintro F w1 ⟨rfl, hS⟩
                refine EJ.blk (?_)
                exact EJ.round k (F' := [(7, .slice A4 (cpy y6 y7.toNat (y6.length - y7.toNat) (y6.take y7.toNat)).length ((IntKind.i64.wrap t1.2).toNat)), (8, .int .i64 (IntKind.i64.wrap (y7 + (cpyN (y6.length - y7.toNat) (y6.take y7.toNat) : Nat))))]) ⟨rfl, rfl, trivial⟩ (Nat.lt_succ_self _) ⟨(cpy y6 y7.toNat (y6.length - y7.toNat) (y6.take y7.toNat)), (IntKind.i64.wrap (y7 + (cpyN (y6.length - y7.toNat) (y6.take y7.toNat) : Nat))), rfl, hS.pick [0] [0] rfl, H⟩
            · replace H := pif_f (of_decide_eq_false hb) H
              refine CJ.exit (EJ.skE (EJ.skE (EJ.hit (?_))))
              exact EJ.meet (F' := [(7, .slice A4 y6.length ((IntKind.i64.wrap t1.2).toNat))]) ⟨rfl, trivial⟩ ⟨y6, H, rfl, hS.pick [0] [0] rfl⟩
        · rintro F w1 ⟨y5, he, rfl, hS⟩
          obtain rfl := Option.some.inj he
          have H := K73
          refine CJ.seq ?_
          refine CJ.region ?_
          refine OJ.pures tU_ok 2 rfl ?_
          refine OJ.nil (EJ.next ?_)
          refine CJ.ret (?_)
          obtain rfl := Option.some.inj H
          exact EJ.fin rfl (.tmp rfl .nil) ⟨A4, ((IntKind.i64.wrap t1.2).toNat), rfl, hS.pick [0] [] rfl⟩

def impl_listed.l1 (a0 : Int) : Nat → (List Int) → Int → Option (List Int)
  | 0, _, _ => none
  | k + 1, y5, y8 => if y8 < 16 then ((chk (0 ≤ y8)).bind fun u9 => if (andI .u16 (shrI .u16 a0 y8) 1) = 1 then ((chk (y5.length + ([y8] : List Int).length ≤ 4294967296)).bind fun u11 => impl_listed.l1 a0 k (y5 ++ ([y8] : List Int)) (IntKind.i64.wrap (y8 + 1))) else (impl_listed.l1 a0 k y5 (IntKind.i64.wrap (y8 + 1)))) else (some y5)
def impl_listed.f (k : Nat) (a0 : Int) : Option (List Int) := (impl_listed.l1 a0 k ([] : List Int) 0).bind fun y2 => some y2
theorem impl_listed.c (k : Nat) (w : World) (a0 : Int) (r : List Int) (H : impl_listed.f k a0 = some r) :
    CV Tryd.prog 56 [.int .u16 a0].toArray w fun v w' => ∃ (A0 : Option Addr) (c0 : Nat), v = .slice A0 r.length c0 ∧ St w no w' [rowC (ci .i64) A0 c0 2 r] [] := by
  have hS := (St.init w no)
  unfold impl_listed.f at H
  refine CV.body Tryd.func56 rfl Tryd.ntmps56 rfl ?_
  refine CJ.seq ?_
  refine CJ.region ?_
  refine OJ.pures tU_ok 1 rfl ?_
  refine OJ.nil (EJ.next ?_)
  refine CJ.seq ?_
  refine CJ.region ?_
  refine OJ.ef rfl rfl rfl (Ef.lit tU_ok tI_ok hS (C := (ci .i64)) rfl rfl rfl rfl rfl rfl ([] : List Int) rfl rfl rfl rfl) ?_
  rintro _ w1 ⟨A1, rfl, hS⟩
  refine OJ.pures tU_ok 1 rfl ?_
  refine OJ.nil (EJ.next ?_)
  refine CJ.seq ?_
  refine CJ.seq ?_
  refine CJ.region ?_
  refine OJ.pures tU_ok 1 rfl ?_
  refine OJ.nil (EJ.next ?_)
  obtain ⟨j77, H, K77⟩ := pbind H
  refine CJ.cut1 (fun F w1 => ∃ (y2 : List Int) (A3 : Option Addr) (c4 : Nat), (some y2 : Option (List Int)) = some j77 ∧ F = [(3, .slice A3 y2.length c4)] ∧ St w no w1 [rowC (ci .i64) A3 c4 2 y2] []) ?_ ?_
  · skip
    refine CJ.block ?_
    refine CJ.loop (fun k F w1 => ∃ (y5 : List Int) (y8 : Int) (A6 : Option Addr) (c7 : Nat), F = [(0, .int .u16 a0), (3, .slice A6 y5.length c7), (6, .int .i64 y8)] ∧ St w no w1 [rowC (ci .i64) A6 c7 2 y5] [] ∧ impl_listed.l1 a0 k y5 y8 = some j77) k (F' := [(0, .int .u16 a0), (3, .slice A1 ([] : List Int).length (([] : List Int).length)), (6, .int .i64 0)]) ⟨rfl, rfl, rfl, trivial⟩ ⟨([] : List Int), 0, A1, (([] : List Int).length), rfl, hS.pick [0] [] rfl, H⟩ ?_
    rintro k F w1 ⟨y5, y8, A6, c7, rfl, hS, H⟩
    cases k with
    | zero => rw [impl_listed.l1] at H; cases H
    | succ k =>
      rw [impl_listed.l1] at H
      refine CJ.seq ?_
      refine CJ.region ?_
      refine OJ.pures tU_ok 1 rfl ?_
      refine OJ.nil (EJ.next ?_)
      refine CJ.seq ?_
      refine CJ.cond rfl (fun hb => ?_) (fun hb => ?_)
      · replace H := pif_t (of_decide_eq_true hb) H
        refine CJ.skip (EJ.next ?_)
        refine CJ.seq ?_
        refine CJ.block ?_
        refine CJ.seq ?_
        refine CJ.region ?_
        refine OJ.pures tU_ok 2 rfl ?_
        refine OJ.nil (EJ.next ?_)
        refine CJ.seq ?_
        refine CJ.region ?_
        refine OJ.pures tU_ok 2 rfl ?_
        obtain ⟨u9, hu9, H⟩ := pbind H
        refine OJ.st rfl rfl rfl (SR.shr rfl rfl rfl (chk_some hu9)) ?_
        refine OJ.pures tU_ok 2 rfl ?_
        refine OJ.nil (EJ.next ?_)
        refine CJ.cond rfl (fun hb => ?_) (fun hb => ?_)
        · replace H := pif_t (of_decide_eq_true hb) H
          refine CJ.region ?_
          refine OJ.pures tU_ok 2 rfl ?_
          refine OJ.ef rfl rfl rfl (Ef.lit tU_ok tI_ok hS (C := (ci .i64)) rfl rfl rfl rfl rfl rfl ([y8] : List Int) rfl rfl rfl rfl) ?_
          rintro _ w1 ⟨A10, rfl, hS⟩
          obtain ⟨u11, hu11, H⟩ := pbind H
          refine OJ.ew rfl rfl rfl (Ew.append tU_ok tI_ok (C := (ci .i64)) (xs := y5) (ys := ([y8] : List Int)) hS (i := 0) rfl rfl rfl rfl rfl rfl rfl rfl rfl rfl rfl rfl rfl (hS.rd (i := 1) rfl) (chk_some hu11)) ?_
          rintro _ w1 ⟨A12, c13, rfl, hS⟩
          refine OJ.pures tU_ok 1 rfl ?_
          refine OJ.nil (EJ.blk (EJ.next ?_))
          refine CJ.region ?_
          refine OJ.pures tU_ok 2 rfl ?_
          refine OJ.nil ?_
          exact EJ.round k (F' := [(0, .int .u16 a0), (3, .slice A12 (y5 ++ ([y8] : List Int)).length c13), (6, .int .i64 (IntKind.i64.wrap (y8 + 1)))]) ⟨rfl, rfl, rfl, trivial⟩ (Nat.lt_succ_self _) ⟨(y5 ++ ([y8] : List Int)), (IntKind.i64.wrap (y8 + 1)), A12, c13, rfl, hS.pick [0] [] rfl, H⟩
        · replace H := pif_f (of_decide_eq_false hb) H
          refine CJ.skip (EJ.blk (EJ.next ?_))
          refine CJ.region ?_
          refine OJ.pures tU_ok 2 rfl ?_
          refine OJ.nil ?_
          exact EJ.round k (F' := [(0, .int .u16 a0), (3, .slice A6 y5.length c7), (6, .int .i64 (IntKind.i64.wrap (y8 + 1)))]) ⟨rfl, rfl, rfl, trivial⟩ (Nat.lt_succ_self _) ⟨y5, (IntKind.i64.wrap (y8 + 1)), A6, c7, rfl, hS.pick [0] [] rfl, H⟩
      · replace H := pif_f (of_decide_eq_false hb) H
        refine CJ.exit (EJ.skE (EJ.skE (EJ.hit (?_))))
        exact EJ.meet (F' := [(3, .slice A6 y5.length c7)]) ⟨rfl, trivial⟩ ⟨y5, A6, c7, H, rfl, hS.pick [0] [] rfl⟩
  · rintro F w1 ⟨y2, A3, c4, he, rfl, hS⟩
    obtain rfl := Option.some.inj he
    have H := K77
    refine EJ.next ?_
    refine CJ.seq ?_
    refine CJ.region ?_
    refine OJ.pures tU_ok 2 rfl ?_
    refine OJ.nil (EJ.next ?_)
    refine CJ.ret (?_)
    obtain rfl := Option.some.inj H
    exact EJ.fin rfl (.tmp rfl .nil) ⟨A3, c4, rfl, hS.pick [0] [] rfl⟩

def impl_GreedyGroups_1.f (a1 : List Int) (a2 : Int) (a0 : Int) : Option Bool := (getI a1 a0).bind fun t1 => some (decide (t1 = a2))
theorem impl_GreedyGroups_1.c (w : World) (Aa1 : Option Addr) (ca1 : Nat) (a1 : List Int) (hr1 : Rd (ci .i64) w Aa1 a1) (hc1 : a1.length ≤ ca1) (pa1 : Addr) (hp1 : CA w pa1 [.slice Aa1 a1.length ca1]) (pa2 : Addr) (a2 : Int) (hp2 : CA w pa2 ((ci .i64).enc a2)) (a0 : Int) (r : Bool) (H : impl_GreedyGroups_1.f a1 a2 a0 = some r) :
    CV Tryd.prog 57 [.int .i64 a0, .pointer (some pa1), .pointer (some pa2)].toArray w fun v w' => v = .bool r ∧ Ext w w' := by
  have hS := ((((St.init w no).param (ci .i64) Aa1 ca1 a1 hr1 hc1).paramP pa1 [.slice Aa1 a1.length ca1] hp1).paramP pa2 ((ci .i64).enc a2) hp2)
  unfold impl_GreedyGroups_1.f at H
  refine CV.body Tryd.func57 rfl Tryd.ntmps57 rfl ?_
  refine CJ.seq ?_
  refine CJ.region ?_
  refine OJ.pures tU_ok 1 rfl ?_
  refine OJ.nil (EJ.next ?_)
  refine CJ.seq ?_
  refine CJ.draw [] [0, 1, 2, 3, 4, 5, 6] mixed (by kernel_rfl) hS fun w1 hS => ?_
  refine DJ.st rfl rfl rfl rfl rfl (SR.load rfl rfl (fun w' hx => ld1 tU_ok rfl rfl (CA.ext (hS.ca (i := 1) rfl) hx) rfl)) ?_
  refine DJ.pures tU_ok 1 rfl ?_
  obtain ⟨t1, ht1, H⟩ := pbind H
  obtain ⟨ad1, e1⟩ := (hS.rd' (i := 0) rfl).some' ht1
  refine DJ.st rfl rfl rfl rfl rfl (SR.idxS tU_ok tI_ok rfl rfl rfl rfl e1 rfl (getI_some ht1).1) ?_
  refine DJ.st rfl rfl rfl rfl rfl (SR.load rfl rfl (fun w' hx => ld1 tU_ok rfl rfl (CA.ext ((hS.rd' (i := 0) rfl).at_ e1 ht1) hx) rfl)) ?_
  refine DJ.st rfl rfl rfl rfl rfl (SR.load rfl rfl (fun w' hx => ld1 tU_ok rfl rfl (CA.ext (hS.ca (i := 2) rfl) hx) rfl)) ?_
  refine DJ.pures tU_ok 2 rfl ?_
  refine DJ.nil (EJ.next ?_)
  refine CJ.ret (?_)
  obtain rfl := Option.some.inj H
  exact EJ.fin rfl (.tmp rfl .nil) ⟨rfl, hS.ext⟩
end Go.Proofs.YtbpjhagilkeilaaDoor
