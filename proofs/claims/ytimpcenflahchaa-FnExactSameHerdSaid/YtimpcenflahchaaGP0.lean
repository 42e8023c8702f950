/-
  What the functions come to.
-/
import Derived.Test.YtimpcenflahchaaGT
namespace Go.Proofs.Ytimpcenflahchaa
open G
set_option linter.unusedVariables false
set_option maxRecDepth 100000
set_option maxHeartbeats 1000000
def laws_szStringS.l1 (a0 : List ByteArray) : Nat → Int → Int → Option (Int ⊕ Int)
  | 0, _, _ => none
  | k + 1, y2, y3 => if y3 < (a0.length : Int) then ((getI a0 y3).bind fun t4 => if (IntKind.i64.wrap (y2 - (t4.size : Int))) < 0 then (some (Sum.inl (-1))) else (laws_szStringS.l1 a0 k (IntKind.i64.wrap (y2 - (t4.size : Int))) (IntKind.i64.wrap (y3 + 1)))) else (some (Sum.inr y2))
def laws_szStringS.f (k : Nat) (a0 : List ByteArray) (a1 : Int) : Option Int := if (IntKind.i64.wrap (a1 - (a0.length : Int))) < 0 then (some (-1)) else ((laws_szStringS.l1 a0 k (IntKind.i64.wrap (a1 - (a0.length : Int))) 0).bind fun s1 => match s1 with | .inl r => some r | .inr y1 => some y1)
theorem laws_szStringS.c (k : Nat) (w : World) (Aa0 : Option Addr) (ca0 : Nat) (a0 : List ByteArray) (hr0 : Rd G.cs w Aa0 a0) (hc0 : a0.length ≤ ca0) (a1 : Int) (r : Int) (H : laws_szStringS.f k a0 a1 = some r) :
    CV Try.prog 9 [.slice Aa0 a0.length ca0, .int .i64 a1].toArray w fun v w' => v = .int .i64 r ∧ Ext w w' := by
  have hS := ((St.init w no).param G.cs Aa0 ca0 a0 hr0 hc0)
  unfold laws_szStringS.f at H
  refine CV.body Try.func9 rfl Try.ntmps9 rfl ?_
  refine CJ.seq ?_
  refine CJ.region ?_
  refine OJ.pures tU_ok 1 rfl ?_
  refine OJ.nil (EJ.next ?_)
  refine CJ.seq ?_
  refine CJ.region ?_
  refine OJ.pures tU_ok 5 rfl ?_
  refine OJ.nil (EJ.next ?_)
  refine CJ.seq ?_
  refine CJ.seq ?_
  refine CJ.region ?_
  refine OJ.pures tU_ok 2 rfl ?_
  refine OJ.nil (EJ.next ?_)
  refine CJ.cond rfl (fun hb => ?_) (fun hb => ?_)
  · replace H := pif_t (of_decide_eq_true hb) H
    refine CJ.seq ?_
    refine CJ.region ?_
    refine OJ.pures tU_ok 1 rfl ?_
    refine OJ.nil (EJ.next ?_)
    refine CJ.ret (EJ.skR (?_))
    obtain rfl := Option.some.inj H
    exact EJ.fin rfl (.tmp rfl .nil) ⟨rfl, hS.ext⟩
  · replace H := pif_f (of_decide_eq_false hb) H
    refine CJ.skip (EJ.next ?_)
    refine CJ.seq ?_
    refine CJ.seq ?_
    refine CJ.region ?_
    refine OJ.pures tU_ok 1 rfl ?_
    refine OJ.nil (EJ.next ?_)
    obtain ⟨j1, H, K1⟩ := pbind H
    refine CJ.cut1 (fun F w1 => ∃ (y1 : Int) , (some (Sum.inr y1) : Option (Int ⊕ Int)) = some j1 ∧ F = [(1, .int .i64 y1)] ∧ St w no w1 [] [roC G.cs Aa0 ca0 a0]) ?_ ?_
    · skip
      refine CJ.block ?_
      refine CJ.loop (fun k F w1 => ∃ (y2 : Int) (y3 : Int), F = [(0, .slice Aa0 a0.length ca0), (1, .int .i64 y2), (5, .int .i64 y3)] ∧ St w no w1 [] [roC G.cs Aa0 ca0 a0] ∧ laws_szStringS.l1 a0 k y2 y3 = some j1) k (F' := [(0, .slice Aa0 a0.length ca0), (1, .int .i64 (IntKind.i64.wrap (a1 - (a0.length : Int)))), (5, .int .i64 0)]) ⟨rfl, rfl, rfl, trivial⟩ ⟨(IntKind.i64.wrap (a1 - (a0.length : Int))), 0, rfl, hS.pick [] [0] rfl, H⟩ ?_
      rintro k F w1 ⟨y2, y3, rfl, hS, H⟩
      cases k with
      | zero => rw [laws_szStringS.l1] at H; cases H
      | succ k =>
        rw [laws_szStringS.l1] at H
        refine CJ.seq ?_
        refine CJ.seq ?_
        refine CJ.region ?_
        refine OJ.pures tU_ok 4 rfl ?_
        refine OJ.nil (EJ.next ?_)
        refine CJ.cond rfl (fun hb => ?_) (fun hb => ?_)
        · replace H := pif_t (of_decide_eq_true hb) H
          refine CJ.skip (EJ.next ?_)
          refine CJ.seq ?_
          refine CJ.block ?_
          refine CJ.seq ?_
          refine CJ.region ?_
          refine OJ.pures tU_ok 3 rfl ?_
          obtain ⟨t4, ht4, H⟩ := pbind H
          obtain ⟨ad4, e4⟩ := (hS.rd' (i := 0) rfl).some' ht4
          refine OJ.st rfl rfl rfl (SR.idxS tU_ok tI_ok rfl rfl rfl rfl e4 rfl (getI_some ht4).1) ?_
          refine OJ.st rfl rfl rfl (SR.load rfl rfl (fun w' hx => ld1 tU_ok rfl rfl (CA.ext ((hS.rd' (i := 0) rfl).at_ e4 ht4) hx) rfl)) ?_
          refine OJ.pures tU_ok 3 rfl ?_
          refine OJ.nil (EJ.next ?_)
          refine CJ.seq ?_
          refine CJ.region ?_
          refine OJ.pures tU_ok 2 rfl ?_
          refine OJ.nil (EJ.next ?_)
          refine CJ.cond rfl (fun hb => ?_) (fun hb => ?_)
          · replace H := pif_t (of_decide_eq_true hb) H
            refine CJ.seq ?_
            refine CJ.region ?_
            refine OJ.pures tU_ok 1 rfl ?_
            refine OJ.nil (EJ.next ?_)
            refine CJ.ret (EJ.bkR (EJ.skR (EJ.skR (EJ.bkR (EJ.skR (EJ.skR (?_)))))))
            first | (obtain rfl := Option.some.inj H; have H := K1) | (obtain ⟨q1, H2, e1⟩ := pbind H; obtain rfl := Option.some.inj e1; obtain rfl := Option.some.inj K1; have H := H2)
            obtain rfl := Option.some.inj H
            exact EJ.fin rfl (.tmp rfl .nil) ⟨rfl, hS.ext⟩
          · replace H := pif_f (of_decide_eq_false hb) H
            refine CJ.skip (EJ.blk (EJ.next ?_))
            refine CJ.region ?_
            refine OJ.pures tU_ok 3 rfl ?_
            refine OJ.nil ?_
            exact EJ.round k (F' := [(0, .slice Aa0 a0.length ca0), (1, .int .i64 (IntKind.i64.wrap (y2 - (t4.size : Int)))), (5, .int .i64 (IntKind.i64.wrap (y3 + 1)))]) ⟨rfl, rfl, rfl, trivial⟩ (Nat.lt_succ_self _) ⟨(IntKind.i64.wrap (y2 - (t4.size : Int))), (IntKind.i64.wrap (y3 + 1)), rfl, hS.pick [] [0] rfl, H⟩
        · replace H := pif_f (of_decide_eq_false hb) H
          refine CJ.exit (EJ.skE (EJ.skE (EJ.hit (?_))))
          exact EJ.meet (F' := [(1, .int .i64 y2)]) ⟨rfl, trivial⟩ ⟨y2, H, rfl, hS.pick [] [0] rfl⟩
    · rintro F w1 ⟨y1, he, rfl, hS⟩
      obtain rfl := Option.some.inj he
      have H := K1
      refine EJ.next ?_
      refine CJ.seq ?_
      refine CJ.region ?_
      refine OJ.pures tU_ok 2 rfl ?_
      refine OJ.nil (EJ.next ?_)
      refine CJ.ret (?_)
      obtain rfl := Option.some.inj H
      exact EJ.fin rfl (.tmp rfl .nil) ⟨rfl, hS.ext⟩

def laws_szInt16S.f (a0 : List Int) (a1 : Int) : Option Int := if (IntKind.i64.wrap (a1 - (a0.length : Int))) < 0 then (some (-1)) else (some (IntKind.i64.wrap (a1 - (a0.length : Int))))
theorem laws_szInt16S.c (w : World) (Aa0 : Option Addr) (ca0 : Nat) (a0 : List Int) (hr0 : Rd (ci .i16) w Aa0 a0) (hc0 : a0.length ≤ ca0) (a1 : Int) (r : Int) (H : laws_szInt16S.f a0 a1 = some r) :
    CV Try.prog 10 [.slice Aa0 a0.length ca0, .int .i64 a1].toArray w fun v w' => v = .int .i64 r ∧ Ext w w' := by
  have hS := ((St.init w no).param (ci .i16) Aa0 ca0 a0 hr0 hc0)
  unfold laws_szInt16S.f at H
  refine CV.body Try.func10 rfl Try.ntmps10 rfl ?_
  refine CJ.seq ?_
  refine CJ.region ?_
  refine OJ.pures tU_ok 1 rfl ?_
  refine OJ.nil (EJ.next ?_)
  refine CJ.seq ?_
  refine CJ.region ?_
  refine OJ.pures tU_ok 5 rfl ?_
  refine OJ.nil (EJ.next ?_)
  refine CJ.seq ?_
  refine CJ.seq ?_
  refine CJ.region ?_
  refine OJ.pures tU_ok 2 rfl ?_
  refine OJ.nil (EJ.next ?_)
  refine CJ.cond rfl (fun hb => ?_) (fun hb => ?_)
  · replace H := pif_t (of_decide_eq_true hb) H
    refine CJ.seq ?_
    refine CJ.region ?_
    refine OJ.pures tU_ok 1 rfl ?_
    refine OJ.nil (EJ.next ?_)
    refine CJ.ret (EJ.skR (?_))
    obtain rfl := Option.some.inj H
    exact EJ.fin rfl (.tmp rfl .nil) ⟨rfl, hS.ext⟩
  · replace H := pif_f (of_decide_eq_false hb) H
    refine CJ.skip (EJ.next ?_)
    refine CJ.seq ?_
    refine CJ.region ?_
    refine OJ.pures tU_ok 2 rfl ?_
    refine OJ.nil (EJ.next ?_)
    refine CJ.ret (?_)
    obtain rfl := Option.some.inj H
    exact EJ.fin rfl (.tmp rfl .nil) ⟨rfl, hS.ext⟩

def laws_szUint16S.f (a0 : List Int) (a1 : Int) : Option Int := if (IntKind.i64.wrap (a1 - (a0.length : Int))) < 0 then (some (-1)) else (some (IntKind.i64.wrap (a1 - (a0.length : Int))))
theorem laws_szUint16S.c (w : World) (Aa0 : Option Addr) (ca0 : Nat) (a0 : List Int) (hr0 : Rd (ci .u16) w Aa0 a0) (hc0 : a0.length ≤ ca0) (a1 : Int) (r : Int) (H : laws_szUint16S.f a0 a1 = some r) :
    CV Try.prog 11 [.slice Aa0 a0.length ca0, .int .i64 a1].toArray w fun v w' => v = .int .i64 r ∧ Ext w w' := by
  have hS := ((St.init w no).param (ci .u16) Aa0 ca0 a0 hr0 hc0)
  unfold laws_szUint16S.f at H
  refine CV.body Try.func11 rfl Try.ntmps11 rfl ?_
  refine CJ.seq ?_
  refine CJ.region ?_
  refine OJ.pures tU_ok 1 rfl ?_
  refine OJ.nil (EJ.next ?_)
  refine CJ.seq ?_
  refine CJ.region ?_
  refine OJ.pures tU_ok 5 rfl ?_
  refine OJ.nil (EJ.next ?_)
  refine CJ.seq ?_
  refine CJ.seq ?_
  refine CJ.region ?_
  refine OJ.pures tU_ok 2 rfl ?_
  refine OJ.nil (EJ.next ?_)
  refine CJ.cond rfl (fun hb => ?_) (fun hb => ?_)
  · replace H := pif_t (of_decide_eq_true hb) H
    refine CJ.seq ?_
    refine CJ.region ?_
    refine OJ.pures tU_ok 1 rfl ?_
    refine OJ.nil (EJ.next ?_)
    refine CJ.ret (EJ.skR (?_))
    obtain rfl := Option.some.inj H
    exact EJ.fin rfl (.tmp rfl .nil) ⟨rfl, hS.ext⟩
  · replace H := pif_f (of_decide_eq_false hb) H
    refine CJ.skip (EJ.next ?_)
    refine CJ.seq ?_
    refine CJ.region ?_
    refine OJ.pures tU_ok 2 rfl ?_
    refine OJ.nil (EJ.next ?_)
    refine CJ.ret (?_)
    obtain rfl := Option.some.inj H
    exact EJ.fin rfl (.tmp rfl .nil) ⟨rfl, hS.ext⟩

def laws_szHerd.f (k : Nat) (a0 : Herd) (a1 : Int) : Option Int := (laws_szStringS.f k a0.Names a1).bind fun t2 => if t2 < 0 then (some (-1)) else ((laws_szInt16S.f a0.Eats t2).bind fun t3 => if t3 < 0 then (some (-1)) else ((laws_szUint16S.f a0.Foes t3).bind fun t4 => if t4 < 0 then (some (-1)) else (some t4)))
theorem laws_szHerd.c (k : Nat) (w : World) (Aa0_0 : Option Addr) (ca0_0 : Nat) (Aa0_1 : Option Addr) (ca0_1 : Nat) (Aa0_2 : Option Addr) (ca0_2 : Nat) (a0 : Herd) (hr0_0 : Rd G.cs w Aa0_0 a0.Names) (hc0_0 : a0.Names.length ≤ ca0_0) (hr0_1 : Rd (ci .i16) w Aa0_1 a0.Eats) (hc0_1 : a0.Eats.length ≤ ca0_1) (hr0_2 : Rd (ci .u16) w Aa0_2 a0.Foes) (hc0_2 : a0.Foes.length ≤ ca0_2) (a1 : Int) (r : Int) (H : laws_szHerd.f k a0 a1 = some r) :
    CV Try.prog 4 [.agg [.slice Aa0_0 a0.Names.length ca0_0, .slice Aa0_1 a0.Eats.length ca0_1, .slice Aa0_2 a0.Foes.length ca0_2].toArray, .int .i64 a1].toArray w fun v w' => v = .int .i64 r ∧ Ext w w' := by
  have hS := ((((St.init w no).param G.cs Aa0_0 ca0_0 a0.Names hr0_0 hc0_0).param (ci .i16) Aa0_1 ca0_1 a0.Eats hr0_1 hc0_1).param (ci .u16) Aa0_2 ca0_2 a0.Foes hr0_2 hc0_2)
  unfold laws_szHerd.f at H
  refine CV.body Try.func4 rfl Try.ntmps4 rfl ?_
  refine CJ.seq ?_
  refine CJ.region ?_
  refine OJ.ef rfl rfl rfl (Ef.box hS rfl rfl ([.slice Aa0_0 a0.Names.length ca0_0, .slice Aa0_1 a0.Eats.length ca0_1, .slice Aa0_2 a0.Foes.length ca0_2]) rfl) ?_
  rintro _ w1 ⟨b1, rfl, hS⟩
  refine OJ.pures tU_ok 1 rfl ?_
  refine OJ.nil (EJ.next ?_)
  refine CJ.seq ?_
  refine CJ.region ?_
  refine OJ.st rfl rfl rfl (SR.fieldAddr tU_ok tI_ok rfl rfl rfl rfl rfl rfl) ?_
  refine OJ.st rfl rfl rfl (SR.load rfl rfl (fun w' hx => ld1 tU_ok rfl rfl (CA.ext (CA.sub (hS.cells (i := 0) rfl) 0) hx) rfl)) ?_
  refine OJ.pures tU_ok 1 rfl ?_
  obtain ⟨t2, ht2, H⟩ := pbind H
  refine OJ.callF rfl rfl rfl rfl rfl hb9 rfl (laws_szStringS.c k _ Aa0_0 ca0_0 a0.Names (hS.rd' (i := 0) rfl) (hS.le' (i := 0) rfl) a1 _ ht2) ?_
  rintro _ w1 ⟨rfl, hs⟩
  replace hS := hS.grow hs
  refine OJ.pures tU_ok 1 rfl ?_
  refine OJ.nil (EJ.next ?_)
  refine CJ.seq ?_
  refine CJ.seq ?_
  refine CJ.region ?_
  refine OJ.pures tU_ok 2 rfl ?_
  refine OJ.nil (EJ.next ?_)
  refine CJ.cond rfl (fun hb => ?_) (fun hb => ?_)
  · replace H := pif_t (of_decide_eq_true hb) H
    refine CJ.seq ?_
    refine CJ.region ?_
    refine OJ.pures tU_ok 1 rfl ?_
    refine OJ.nil (EJ.next ?_)
    refine CJ.ret (EJ.skR (?_))
    obtain rfl := Option.some.inj H
    exact EJ.fin rfl (.tmp rfl .nil) ⟨rfl, hS.ext⟩
  · replace H := pif_f (of_decide_eq_false hb) H
    refine CJ.skip (EJ.next ?_)
    refine CJ.seq ?_
    refine CJ.region ?_
    refine OJ.st rfl rfl rfl (SR.fieldAddr tU_ok tI_ok rfl rfl rfl rfl rfl rfl) ?_
    refine OJ.st rfl rfl rfl (SR.load rfl rfl (fun w' hx => ld1 tU_ok rfl rfl (CA.ext (CA.sub (hS.cells (i := 0) rfl) 1) hx) rfl)) ?_
    refine OJ.pures tU_ok 1 rfl ?_
    obtain ⟨t3, ht3, H⟩ := pbind H
    refine OJ.callF rfl rfl rfl rfl rfl hb10 rfl (laws_szInt16S.c _ Aa0_1 ca0_1 a0.Eats (hS.rd' (i := 1) rfl) (hS.le' (i := 1) rfl) t2 _ ht3) ?_
    rintro _ w1 ⟨rfl, hs⟩
    replace hS := hS.grow hs
    refine OJ.pures tU_ok 1 rfl ?_
    refine OJ.nil (EJ.next ?_)
    refine CJ.seq ?_
    refine CJ.seq ?_
    refine CJ.region ?_
    refine OJ.pures tU_ok 2 rfl ?_
    refine OJ.nil (EJ.next ?_)
    refine CJ.cond rfl (fun hb => ?_) (fun hb => ?_)
    · replace H := pif_t (of_decide_eq_true hb) H
      refine CJ.seq ?_
      refine CJ.region ?_
      refine OJ.pures tU_ok 1 rfl ?_
      refine OJ.nil (EJ.next ?_)
      refine CJ.ret (EJ.skR (?_))
      obtain rfl := Option.some.inj H
      exact EJ.fin rfl (.tmp rfl .nil) ⟨rfl, hS.ext⟩
    · replace H := pif_f (of_decide_eq_false hb) H
      refine CJ.skip (EJ.next ?_)
      refine CJ.seq ?_
      refine CJ.region ?_
      refine OJ.st rfl rfl rfl (SR.fieldAddr tU_ok tI_ok rfl rfl rfl rfl rfl rfl) ?_
      refine OJ.st rfl rfl rfl (SR.load rfl rfl (fun w' hx => ld1 tU_ok rfl rfl (CA.ext (CA.sub (hS.cells (i := 0) rfl) 2) hx) rfl)) ?_
      refine OJ.pures tU_ok 1 rfl ?_
      obtain ⟨t4, ht4, H⟩ := pbind H
      refine OJ.callF rfl rfl rfl rfl rfl hb11 rfl (laws_szUint16S.c _ Aa0_2 ca0_2 a0.Foes (hS.rd' (i := 2) rfl) (hS.le' (i := 2) rfl) t3 _ ht4) ?_
      rintro _ w1 ⟨rfl, hs⟩
      replace hS := hS.grow hs
      refine OJ.pures tU_ok 1 rfl ?_
      refine OJ.nil (EJ.next ?_)
      refine CJ.seq ?_
      refine CJ.seq ?_
      refine CJ.region ?_
      refine OJ.pures tU_ok 2 rfl ?_
      refine OJ.nil (EJ.next ?_)
      refine CJ.cond rfl (fun hb => ?_) (fun hb => ?_)
      · replace H := pif_t (of_decide_eq_true hb) H
        refine CJ.seq ?_
        refine CJ.region ?_
        refine OJ.pures tU_ok 1 rfl ?_
        refine OJ.nil (EJ.next ?_)
        refine CJ.ret (EJ.skR (?_))
        obtain rfl := Option.some.inj H
        exact EJ.fin rfl (.tmp rfl .nil) ⟨rfl, hS.ext⟩
      · replace H := pif_f (of_decide_eq_false hb) H
        refine CJ.skip (EJ.next ?_)
        refine CJ.seq ?_
        refine CJ.region ?_
        refine OJ.pures tU_ok 2 rfl ?_
        refine OJ.nil (EJ.next ?_)
        refine CJ.ret (?_)
        obtain rfl := Option.some.inj H
        exact EJ.fin rfl (.tmp rfl .nil) ⟨rfl, hS.ext⟩

def laws_toStringS.l1 (a0 : List ByteArray) : Nat → (List ByteArray) → Int → Option (List ByteArray)
  | 0, _, _ => none
  | k + 1, y4, y5 => if y5 < (a0.length : Int) then ((getI a0 y5).bind fun t6 => (getI y4 y5).bind fun t7 => laws_toStringS.l1 a0 k (y4.set y5.toNat t6) (IntKind.i64.wrap (y5 + 1))) else (some y4)
def laws_toStringS.f (k : Nat) (a0 : List ByteArray) : Option (List ByteArray) := (chk (0 ≤ (a0.length : Int) ∧ (a0.length : Int) ≤ 4294967296)).bind fun u1 => (laws_toStringS.l1 a0 k (List.replicate (a0.length : Int).toNat ByteArray.empty) 0).bind fun y3 => some y3
theorem laws_toStringS.c (k : Nat) (w : World) (Aa0 : Option Addr) (ca0 : Nat) (a0 : List ByteArray) (hr0 : Rd G.cs w Aa0 a0) (hc0 : a0.length ≤ ca0) (r : List ByteArray) (H : laws_toStringS.f k a0 = some r) :
    CV Try.prog 12 [.slice Aa0 a0.length ca0].toArray w fun v w' => ∃ (A0 : Option Addr) (c0 : Nat), v = .slice A0 r.length c0 ∧ St w no w' [rowC G.cs A0 c0 9 r] [] := by
  have hS := ((St.init w no).param G.cs Aa0 ca0 a0 hr0 hc0)
  unfold laws_toStringS.f at H
  refine CV.body Try.func12 rfl Try.ntmps12 rfl ?_
  refine CJ.seq ?_
  refine CJ.region ?_
  refine OJ.pures tU_ok 1 rfl ?_
  refine OJ.nil (EJ.next ?_)
  refine CJ.seq ?_
  refine CJ.region ?_
  refine OJ.pures tU_ok 2 rfl ?_
  obtain ⟨u1, hu1, H⟩ := pbind H
  refine OJ.ef rfl rfl rfl (Ef.make tU_ok tI_ok hS (C := G.cs) rfl rfl rfl rfl rfl rfl rfl rfl (chk_some hu1) ByteArray.empty rfl) ?_
  rintro _ w1 ⟨A2, rfl, hS⟩
  refine OJ.pures tU_ok 1 rfl ?_
  refine OJ.nil (EJ.next ?_)
  refine CJ.seq ?_
  refine CJ.seq ?_
  refine CJ.region ?_
  refine OJ.pures tU_ok 1 rfl ?_
  refine OJ.nil (EJ.next ?_)
  obtain ⟨j2, H, K2⟩ := pbind H
  refine CJ.cut1 (fun F w1 => ∃ (y3 : List ByteArray) , (some y3 : Option (List ByteArray)) = some j2 ∧ F = [(3, .slice A2 y3.length ((a0.length : Int).toNat))] ∧ St w no w1 [rowC G.cs A2 ((a0.length : Int).toNat) 9 y3] [roC G.cs Aa0 ca0 a0]) ?_ ?_
  · skip
    refine CJ.block ?_
    refine CJ.loop (fun k F w1 => ∃ (y4 : List ByteArray) (y5 : Int), F = [(0, .slice Aa0 a0.length ca0), (3, .slice A2 y4.length ((a0.length : Int).toNat)), (4, .int .i64 y5)] ∧ St w no w1 [rowC G.cs A2 ((a0.length : Int).toNat) 9 y4] [roC G.cs Aa0 ca0 a0] ∧ laws_toStringS.l1 a0 k y4 y5 = some j2) k (F' := [(0, .slice Aa0 a0.length ca0), (3, .slice A2 (List.replicate (a0.length : Int).toNat ByteArray.empty).length ((a0.length : Int).toNat)), (4, .int .i64 0)]) ⟨rfl, rfl, rfl, trivial⟩ ⟨(List.replicate (a0.length : Int).toNat ByteArray.empty), 0, rfl, hS.pick [0] [0] rfl, H⟩ ?_
    rintro k F w1 ⟨y4, y5, rfl, hS, H⟩
    cases k with
    | zero => rw [laws_toStringS.l1] at H; cases H
    | succ k =>
      rw [laws_toStringS.l1] at H
      refine CJ.seq ?_
      refine CJ.seq ?_
      refine CJ.region ?_
      refine OJ.pures tU_ok 4 rfl ?_
      refine OJ.nil (EJ.next ?_)
      refine CJ.cond rfl (fun hb => ?_) (fun hb => ?_)
      · replace H := pif_t (of_decide_eq_true hb) H
        refine CJ.skip (EJ.next ?_)
        refine CJ.seq ?_
        refine CJ.block ?_
        refine CJ.region ?_
        refine OJ.pures tU_ok 4 rfl ?_
        obtain ⟨t6, ht6, H⟩ := pbind H
        obtain ⟨ad6, e6⟩ := (hS.rd' (i := 0) rfl).some' ht6
        refine OJ.st rfl rfl rfl (SR.idxS tU_ok tI_ok rfl rfl rfl rfl e6 rfl (getI_some ht6).1) ?_
        refine OJ.st rfl rfl rfl (SR.load rfl rfl (fun w' hx => ld1 tU_ok rfl rfl (CA.ext ((hS.rd' (i := 0) rfl).at_ e6 ht6) hx) rfl)) ?_
        obtain ⟨t7, ht7, H⟩ := pbind H
        obtain ⟨ad7, e7⟩ := (hS.rd (i := 0) rfl).some' ht7
        refine OJ.st rfl rfl rfl (SR.idxS tU_ok tI_ok rfl rfl rfl rfl e7 rfl (getI_some ht7).1) ?_
        refine OJ.es rfl rfl (Es.storeR tI_ok hS (i := 0) (off := 0) rfl rfl ht7 e7 rfl rfl rfl rfl (vs := G.cs.enc t6) rfl rfl (one1 rfl) (Nat.le_of_ble_eq_true rfl) t6 rfl) ?_
        intro w1 hS
        refine OJ.as (t := 3) rfl (show _ = (.slice A2 (y4.set y5.toNat t6).length ((a0.length : Int).toNat) : Value) by simp only [List.length_set]) ?_
        refine OJ.as (t := 14) rfl (show _ = (.slice A2 (y4.set y5.toNat t6).length ((a0.length : Int).toNat) : Value) by simp only [List.length_set]) ?_
        refine OJ.nil (EJ.blk (EJ.next ?_))
        refine CJ.region ?_
        refine OJ.pures tU_ok 3 rfl ?_
        refine OJ.nil ?_
        exact EJ.round k (F' := [(0, .slice Aa0 a0.length ca0), (3, .slice A2 (y4.set y5.toNat t6).length ((a0.length : Int).toNat)), (4, .int .i64 (IntKind.i64.wrap (y5 + 1)))]) ⟨rfl, rfl, rfl, trivial⟩ (Nat.lt_succ_self _) ⟨(y4.set y5.toNat t6), (IntKind.i64.wrap (y5 + 1)), rfl, hS.pick [0] [0] rfl, H⟩
      · replace H := pif_f (of_decide_eq_false hb) H
        refine CJ.exit (EJ.skE (EJ.skE (EJ.hit (?_))))
        exact EJ.meet (F' := [(3, .slice A2 y4.length ((a0.length : Int).toNat))]) ⟨rfl, trivial⟩ ⟨y4, H, rfl, hS.pick [0] [0] rfl⟩
  · rintro F w1 ⟨y3, he, rfl, hS⟩
    obtain rfl := Option.some.inj he
    have H := K2
    refine EJ.next ?_
    refine CJ.seq ?_
    refine CJ.region ?_
    refine OJ.pures tU_ok 2 rfl ?_
    refine OJ.nil (EJ.next ?_)
    refine CJ.ret (?_)
    obtain rfl := Option.some.inj H
    exact EJ.fin rfl (.tmp rfl .nil) ⟨A2, ((a0.length : Int).toNat), rfl, hS.pick [0] [] rfl⟩

def laws_toInt16S.l1 (a0 : List Int) : Nat → (List Int) → Int → Option (List Int)
  | 0, _, _ => none
  | k + 1, y4, y5 => if y5 < (a0.length : Int) then ((getI a0 y5).bind fun t6 => (getI y4 y5).bind fun t7 => laws_toInt16S.l1 a0 k (y4.set y5.toNat t6) (IntKind.i64.wrap (y5 + 1))) else (some y4)
def laws_toInt16S.f (k : Nat) (a0 : List Int) : Option (List Int) := (chk (0 ≤ (a0.length : Int) ∧ (a0.length : Int) ≤ 4294967296)).bind fun u1 => (laws_toInt16S.l1 a0 k (List.replicate (a0.length : Int).toNat 0) 0).bind fun y3 => some y3
theorem laws_toInt16S.c (k : Nat) (w : World) (Aa0 : Option Addr) (ca0 : Nat) (a0 : List Int) (hr0 : Rd (ci .i16) w Aa0 a0) (hc0 : a0.length ≤ ca0) (r : List Int) (H : laws_toInt16S.f k a0 = some r) :
    CV Try.prog 13 [.slice Aa0 a0.length ca0].toArray w fun v w' => ∃ (A0 : Option Addr) (c0 : Nat), v = .slice A0 r.length c0 ∧ St w no w' [rowC (ci .i16) A0 c0 35 r] [] := by
  have hS := ((St.init w no).param (ci .i16) Aa0 ca0 a0 hr0 hc0)
  unfold laws_toInt16S.f at H
  refine CV.body Try.func13 rfl Try.ntmps13 rfl ?_
  refine CJ.seq ?_
  refine CJ.region ?_
  refine OJ.pures tU_ok 1 rfl ?_
  refine OJ.nil (EJ.next ?_)
  refine CJ.seq ?_
  refine CJ.region ?_
  refine OJ.pures tU_ok 2 rfl ?_
  obtain ⟨u1, hu1, H⟩ := pbind H
  refine OJ.ef rfl rfl rfl (Ef.make tU_ok tI_ok hS (C := (ci .i16)) rfl rfl rfl rfl rfl rfl rfl rfl (chk_some hu1) 0 rfl) ?_
  rintro _ w1 ⟨A2, rfl, hS⟩
  refine OJ.pures tU_ok 1 rfl ?_
  refine OJ.nil (EJ.next ?_)
  refine CJ.seq ?_
  refine CJ.seq ?_
  refine CJ.region ?_
  refine OJ.pures tU_ok 1 rfl ?_
  refine OJ.nil (EJ.next ?_)
  obtain ⟨j3, H, K3⟩ := pbind H
  refine CJ.cut1 (fun F w1 => ∃ (y3 : List Int) , (some y3 : Option (List Int)) = some j3 ∧ F = [(3, .slice A2 y3.length ((a0.length : Int).toNat))] ∧ St w no w1 [rowC (ci .i16) A2 ((a0.length : Int).toNat) 35 y3] [roC (ci .i16) Aa0 ca0 a0]) ?_ ?_
  · skip
    refine CJ.block ?_
    refine CJ.loop (fun k F w1 => ∃ (y4 : List Int) (y5 : Int), F = [(0, .slice Aa0 a0.length ca0), (3, .slice A2 y4.length ((a0.length : Int).toNat)), (4, .int .i64 y5)] ∧ St w no w1 [rowC (ci .i16) A2 ((a0.length : Int).toNat) 35 y4] [roC (ci .i16) Aa0 ca0 a0] ∧ laws_toInt16S.l1 a0 k y4 y5 = some j3) k (F' := [(0, .slice Aa0 a0.length ca0), (3, .slice A2 (List.replicate (a0.length : Int).toNat 0).length ((a0.length : Int).toNat)), (4, .int .i64 0)]) ⟨rfl, rfl, rfl, trivial⟩ ⟨(List.replicate (a0.length : Int).toNat 0), 0, rfl, hS.pick [0] [0] rfl, H⟩ ?_
    rintro k F w1 ⟨y4, y5, rfl, hS, H⟩
    cases k with
    | zero => rw [laws_toInt16S.l1] at H; cases H
    | succ k =>
      rw [laws_toInt16S.l1] at H
      refine CJ.seq ?_
      refine CJ.seq ?_
      refine CJ.region ?_
      refine OJ.pures tU_ok 4 rfl ?_
      refine OJ.nil (EJ.next ?_)
      refine CJ.cond rfl (fun hb => ?_) (fun hb => ?_)
      · replace H := pif_t (of_decide_eq_true hb) H
        refine CJ.skip (EJ.next ?_)
        refine CJ.seq ?_
        refine CJ.block ?_
        refine CJ.region ?_
        refine OJ.pures tU_ok 4 rfl ?_
        obtain ⟨t6, ht6, H⟩ := pbind H
        obtain ⟨ad6, e6⟩ := (hS.rd' (i := 0) rfl).some' ht6
        refine OJ.st rfl rfl rfl (SR.idxS tU_ok tI_ok rfl rfl rfl rfl e6 rfl (getI_some ht6).1) ?_
        refine OJ.st rfl rfl rfl (SR.load rfl rfl (fun w' hx => ld1 tU_ok rfl rfl (CA.ext ((hS.rd' (i := 0) rfl).at_ e6 ht6) hx) rfl)) ?_
        obtain ⟨t7, ht7, H⟩ := pbind H
        obtain ⟨ad7, e7⟩ := (hS.rd (i := 0) rfl).some' ht7
        refine OJ.st rfl rfl rfl (SR.idxS tU_ok tI_ok rfl rfl rfl rfl e7 rfl (getI_some ht7).1) ?_
        refine OJ.es rfl rfl (Es.storeR tI_ok hS (i := 0) (off := 0) rfl rfl ht7 e7 rfl rfl rfl rfl (vs := (ci .i16).enc t6) rfl rfl (one1 rfl) (Nat.le_of_ble_eq_true rfl) t6 rfl) ?_
        intro w1 hS
        refine OJ.as (t := 3) rfl (show _ = (.slice A2 (y4.set y5.toNat t6).length ((a0.length : Int).toNat) : Value) by simp only [List.length_set]) ?_
        refine OJ.as (t := 14) rfl (show _ = (.slice A2 (y4.set y5.toNat t6).length ((a0.length : Int).toNat) : Value) by simp only [List.length_set]) ?_
        refine OJ.nil (EJ.blk (EJ.next ?_))
        refine CJ.region ?_
        refine OJ.pures tU_ok 3 rfl ?_
        refine OJ.nil ?_
        exact EJ.round k (F' := [(0, .slice Aa0 a0.length ca0), (3, .slice A2 (y4.set y5.toNat t6).length ((a0.length : Int).toNat)), (4, .int .i64 (IntKind.i64.wrap (y5 + 1)))]) ⟨rfl, rfl, rfl, trivial⟩ (Nat.lt_succ_self _) ⟨(y4.set y5.toNat t6), (IntKind.i64.wrap (y5 + 1)), rfl, hS.pick [0] [0] rfl, H⟩
      · replace H := pif_f (of_decide_eq_false hb) H
        refine CJ.exit (EJ.skE (EJ.skE (EJ.hit (?_))))
        exact EJ.meet (F' := [(3, .slice A2 y4.length ((a0.length : Int).toNat))]) ⟨rfl, trivial⟩ ⟨y4, H, rfl, hS.pick [0] [0] rfl⟩
  · rintro F w1 ⟨y3, he, rfl, hS⟩
    obtain rfl := Option.some.inj he
    have H := K3
    refine EJ.next ?_
    refine CJ.seq ?_
    refine CJ.region ?_
    refine OJ.pures tU_ok 2 rfl ?_
    refine OJ.nil (EJ.next ?_)
    refine CJ.ret (?_)
    obtain rfl := Option.some.inj H
    exact EJ.fin rfl (.tmp rfl .nil) ⟨A2, ((a0.length : Int).toNat), rfl, hS.pick [0] [] rfl⟩

def laws_toUint16S.l1 (a0 : List Int) : Nat → (List Int) → Int → Option (List Int)
  | 0, _, _ => none
  | k + 1, y4, y5 => if y5 < (a0.length : Int) then ((getI a0 y5).bind fun t6 => (getI y4 y5).bind fun t7 => laws_toUint16S.l1 a0 k (y4.set y5.toNat t6) (IntKind.i64.wrap (y5 + 1))) else (some y4)
def laws_toUint16S.f (k : Nat) (a0 : List Int) : Option (List Int) := (chk (0 ≤ (a0.length : Int) ∧ (a0.length : Int) ≤ 4294967296)).bind fun u1 => (laws_toUint16S.l1 a0 k (List.replicate (a0.length : Int).toNat 0) 0).bind fun y3 => some y3
theorem laws_toUint16S.c (k : Nat) (w : World) (Aa0 : Option Addr) (ca0 : Nat) (a0 : List Int) (hr0 : Rd (ci .u16) w Aa0 a0) (hc0 : a0.length ≤ ca0) (r : List Int) (H : laws_toUint16S.f k a0 = some r) :
    CV Try.prog 14 [.slice Aa0 a0.length ca0].toArray w fun v w' => ∃ (A0 : Option Addr) (c0 : Nat), v = .slice A0 r.length c0 ∧ St w no w' [rowC (ci .u16) A0 c0 36 r] [] := by
  have hS := ((St.init w no).param (ci .u16) Aa0 ca0 a0 hr0 hc0)
  unfold laws_toUint16S.f at H
  refine CV.body Try.func14 rfl Try.ntmps14 rfl ?_
  refine CJ.seq ?_
  refine CJ.region ?_
  refine OJ.pures tU_ok 1 rfl ?_
  refine OJ.nil (EJ.next ?_)
  refine CJ.seq ?_
  refine CJ.region ?_
  refine OJ.pures tU_ok 2 rfl ?_
  obtain ⟨u1, hu1, H⟩ := pbind H
  refine OJ.ef rfl rfl rfl (Ef.make tU_ok tI_ok hS (C := (ci .u16)) rfl rfl rfl rfl rfl rfl rfl rfl (chk_some hu1) 0 rfl) ?_
  rintro _ w1 ⟨A2, rfl, hS⟩
  refine OJ.pures tU_ok 1 rfl ?_
  refine OJ.nil (EJ.next ?_)
  refine CJ.seq ?_
  refine CJ.seq ?_
  refine CJ.region ?_
  refine OJ.pures tU_ok 1 rfl ?_
  refine OJ.nil (EJ.next ?_)
  obtain ⟨j4, H, K4⟩ := pbind H
  refine CJ.cut1 (fun F w1 => ∃ (y3 : List Int) , (some y3 : Option (List Int)) = some j4 ∧ F = [(3, .slice A2 y3.length ((a0.length : Int).toNat))] ∧ St w no w1 [rowC (ci .u16) A2 ((a0.length : Int).toNat) 36 y3] [roC (ci .u16) Aa0 ca0 a0]) ?_ ?_
  · skip
    refine CJ.block ?_
    refine CJ.loop (fun k F w1 => ∃ (y4 : List Int) (y5 : Int), F = [(0, .slice Aa0 a0.length ca0), (3, .slice A2 y4.length ((a0.length : Int).toNat)), (4, .int .i64 y5)] ∧ St w no w1 [rowC (ci .u16) A2 ((a0.length : Int).toNat) 36 y4] [roC (ci .u16) Aa0 ca0 a0] ∧ laws_toUint16S.l1 a0 k y4 y5 = some j4) k (F' := [(0, .slice Aa0 a0.length ca0), (3, .slice A2 (List.replicate (a0.length : Int).toNat 0).length ((a0.length : Int).toNat)), (4, .int .i64 0)]) ⟨rfl, rfl, rfl, trivial⟩ ⟨(List.replicate (a0.length : Int).toNat 0), 0, rfl, hS.pick [0] [0] rfl, H⟩ ?_
    rintro k F w1 ⟨y4, y5, rfl, hS, H⟩
    cases k with
    | zero => rw [laws_toUint16S.l1] at H; cases H
    | succ k =>
      rw [laws_toUint16S.l1] at H
      refine CJ.seq ?_
      refine CJ.seq ?_
      refine CJ.region ?_
      refine OJ.pures tU_ok 4 rfl ?_
      refine OJ.nil (EJ.next ?_)
      refine CJ.cond rfl (fun hb => ?_) (fun hb => ?_)
      · replace H := pif_t (of_decide_eq_true hb) H
        refine CJ.skip (EJ.next ?_)
        refine CJ.seq ?_
        refine CJ.block ?_
        refine CJ.region ?_
        refine OJ.pures tU_ok 4 rfl ?_
        obtain ⟨t6, ht6, H⟩ := pbind H
        obtain ⟨ad6, e6⟩ := (hS.rd' (i := 0) rfl).some' ht6
        refine OJ.st rfl rfl rfl (SR.idxS tU_ok tI_ok rfl rfl rfl rfl e6 rfl (getI_some ht6).1) ?_
        refine OJ.st rfl rfl rfl (SR.load rfl rfl (fun w' hx => ld1 tU_ok rfl rfl (CA.ext ((hS.rd' (i := 0) rfl).at_ e6 ht6) hx) rfl)) ?_
        obtain ⟨t7, ht7, H⟩ := pbind H
        obtain ⟨ad7, e7⟩ := (hS.rd (i := 0) rfl).some' ht7
        refine OJ.st rfl rfl rfl (SR.idxS tU_ok tI_ok rfl rfl rfl rfl e7 rfl (getI_some ht7).1) ?_
        refine OJ.es rfl rfl (Es.storeR tI_ok hS (i := 0) (off := 0) rfl rfl ht7 e7 rfl rfl rfl rfl (vs := (ci .u16).enc t6) rfl rfl (one1 rfl) (Nat.le_of_ble_eq_true rfl) t6 rfl) ?_
        intro w1 hS
        refine OJ.as (t := 3) rfl (show _ = (.slice A2 (y4.set y5.toNat t6).length ((a0.length : Int).toNat) : Value) by simp only [List.length_set]) ?_
        refine OJ.as (t := 14) rfl (show _ = (.slice A2 (y4.set y5.toNat t6).length ((a0.length : Int).toNat) : Value) by simp only [List.length_set]) ?_
        refine OJ.nil (EJ.blk (EJ.next ?_))
        refine CJ.region ?_
        refine OJ.pures tU_ok 3 rfl ?_
        refine OJ.nil ?_
        exact EJ.round k (F' := [(0, .slice Aa0 a0.length ca0), (3, .slice A2 (y4.set y5.toNat t6).length ((a0.length : Int).toNat)), (4, .int .i64 (IntKind.i64.wrap (y5 + 1)))]) ⟨rfl, rfl, rfl, trivial⟩ (Nat.lt_succ_self _) ⟨(y4.set y5.toNat t6), (IntKind.i64.wrap (y5 + 1)), rfl, hS.pick [0] [0] rfl, H⟩
      · replace H := pif_f (of_decide_eq_false hb) H
        refine CJ.exit (EJ.skE (EJ.skE (EJ.hit (?_))))
        exact EJ.meet (F' := [(3, .slice A2 y4.length ((a0.length : Int).toNat))]) ⟨rfl, trivial⟩ ⟨y4, H, rfl, hS.pick [0] [0] rfl⟩
  · rintro F w1 ⟨y3, he, rfl, hS⟩
    obtain rfl := Option.some.inj he
    have H := K4
    refine EJ.next ?_
    refine CJ.seq ?_
    refine CJ.region ?_
    refine OJ.pures tU_ok 2 rfl ?_
    refine OJ.nil (EJ.next ?_)
    refine CJ.ret (?_)
    obtain rfl := Option.some.inj H
    exact EJ.fin rfl (.tmp rfl .nil) ⟨A2, ((a0.length : Int).toNat), rfl, hS.pick [0] [] rfl⟩

def laws_toHerd.f (k : Nat) (a0 : Herd) : Option Herd := (laws_toStringS.f k a0.Names).bind fun t4 => (laws_toInt16S.f k a0.Eats).bind fun t7 => (laws_toUint16S.f k a0.Foes).bind fun t10 => some (⟨t4, t7, t10⟩ : Herd)
theorem laws_toHerd.c (k : Nat) (w : World) (Aa0_0 : Option Addr) (ca0_0 : Nat) (Aa0_1 : Option Addr) (ca0_1 : Nat) (Aa0_2 : Option Addr) (ca0_2 : Nat) (a0 : Herd) (hr0_0 : Rd G.cs w Aa0_0 a0.Names) (hc0_0 : a0.Names.length ≤ ca0_0) (hr0_1 : Rd (ci .i16) w Aa0_1 a0.Eats) (hc0_1 : a0.Eats.length ≤ ca0_1) (hr0_2 : Rd (ci .u16) w Aa0_2 a0.Foes) (hc0_2 : a0.Foes.length ≤ ca0_2) (r : Herd) (H : laws_toHerd.f k a0 = some r) :
    CV Try.prog 6 [.agg [.slice Aa0_0 a0.Names.length ca0_0, .slice Aa0_1 a0.Eats.length ca0_1, .slice Aa0_2 a0.Foes.length ca0_2].toArray].toArray w fun v w' => ∃ (A0_0 : Option Addr) (c0_0 : Nat) (A0_1 : Option Addr) (c0_1 : Nat) (A0_2 : Option Addr) (c0_2 : Nat), v = .agg [.slice A0_0 r.Names.length c0_0, .slice A0_1 r.Eats.length c0_1, .slice A0_2 r.Foes.length c0_2].toArray ∧ St w no w' [rowC G.cs A0_0 c0_0 9 r.Names, rowC (ci .i16) A0_1 c0_1 35 r.Eats, rowC (ci .u16) A0_2 c0_2 36 r.Foes] [] := by
  have hS := ((((St.init w no).param G.cs Aa0_0 ca0_0 a0.Names hr0_0 hc0_0).param (ci .i16) Aa0_1 ca0_1 a0.Eats hr0_1 hc0_1).param (ci .u16) Aa0_2 ca0_2 a0.Foes hr0_2 hc0_2)
  unfold laws_toHerd.f at H
  refine CV.body Try.func6 rfl Try.ntmps6 rfl ?_
  refine CJ.seq ?_
  refine CJ.region ?_
  refine OJ.ef rfl rfl rfl (Ef.box hS rfl rfl ([.slice Aa0_0 a0.Names.length ca0_0, .slice Aa0_1 a0.Eats.length ca0_1, .slice Aa0_2 a0.Foes.length ca0_2]) rfl) ?_
  rintro _ w1 ⟨b1, rfl, hS⟩
  refine OJ.ef rfl rfl rfl (Ef.alloc hS tI_ok rfl rfl ([.slice none 0 0, .slice none 0 0, .slice none 0 0]) rfl) ?_
  rintro _ w1 ⟨b2, rfl, hS⟩
  refine OJ.nil (EJ.next ?_)
  refine CJ.seq ?_
  refine CJ.region ?_
  refine OJ.ef rfl rfl rfl (Ef.alloc hS tI_ok rfl rfl ([.slice none 0 0, .slice none 0 0, .slice none 0 0]) rfl) ?_
  rintro _ w1 ⟨b3, rfl, hS⟩
  refine OJ.nil (EJ.next ?_)
  refine CJ.seq ?_
  refine CJ.region ?_
  refine OJ.st rfl rfl rfl (SR.fieldAddr tU_ok tI_ok rfl rfl rfl rfl rfl rfl) ?_
  refine OJ.st rfl rfl rfl (SR.load rfl rfl (fun w' hx => ld1 tU_ok rfl rfl (CA.ext (CA.sub (hS.cells (i := 0) rfl) 0) hx) rfl)) ?_
  obtain ⟨t4, ht4, H⟩ := pbind H
  refine OJ.callF rfl rfl rfl rfl rfl hb12 rfl (laws_toStringS.c k _ Aa0_0 ca0_0 a0.Names (hS.rd' (i := 0) rfl) (hS.le' (i := 0) rfl) _ ht4) ?_
  rintro _ w1 ⟨A5, c6, rfl, hs⟩
  replace hS := hS.addN hs
  refine OJ.st rfl rfl rfl (SR.fieldAddr tU_ok tI_ok rfl rfl rfl rfl rfl rfl) ?_
  refine OJ.es rfl rfl (Es.store tI_ok hS (i := 2) (vs := [.slice A5 t4.length c6]) rfl rfl rfl (ad1 _ _) rfl rfl rfl rfl (one1 rfl) (Nat.le_of_ble_eq_true rfl) ([.slice A5 t4.length c6, .slice none 0 0, .slice none 0 0]) rfl) ?_
  intro w1 hS
  refine OJ.nil (EJ.next ?_)
  refine CJ.seq ?_
  refine CJ.region ?_
  refine OJ.st rfl rfl rfl (SR.fieldAddr tU_ok tI_ok rfl rfl rfl rfl rfl rfl) ?_
  refine OJ.st rfl rfl rfl (SR.load rfl rfl (fun w' hx => ld1 tU_ok rfl rfl (CA.ext (CA.sub (hS.cells (i := 0) rfl) 1) hx) rfl)) ?_
  obtain ⟨t7, ht7, H⟩ := pbind H
  refine OJ.callF rfl rfl rfl rfl rfl hb13 rfl (laws_toInt16S.c k _ Aa0_1 ca0_1 a0.Eats (hS.rd' (i := 1) rfl) (hS.le' (i := 1) rfl) _ ht7) ?_
  rintro _ w1 ⟨A8, c9, rfl, hs⟩
  replace hS := hS.addN hs
  refine OJ.st rfl rfl rfl (SR.fieldAddr tU_ok tI_ok rfl rfl rfl rfl rfl rfl) ?_
  refine OJ.es rfl rfl (Es.store tI_ok hS (i := 2) (vs := [.slice A8 t7.length c9]) rfl rfl rfl (ad1 _ _) rfl rfl rfl rfl (one1 rfl) (Nat.le_of_ble_eq_true rfl) ([.slice A5 t4.length c6, .slice A8 t7.length c9, .slice none 0 0]) rfl) ?_
  intro w1 hS
  refine OJ.nil (EJ.next ?_)
  refine CJ.seq ?_
  refine CJ.region ?_
  refine OJ.st rfl rfl rfl (SR.fieldAddr tU_ok tI_ok rfl rfl rfl rfl rfl rfl) ?_
  refine OJ.st rfl rfl rfl (SR.load rfl rfl (fun w' hx => ld1 tU_ok rfl rfl (CA.ext (CA.sub (hS.cells (i := 0) rfl) 2) hx) rfl)) ?_
  obtain ⟨t10, ht10, H⟩ := pbind H
  refine OJ.callF rfl rfl rfl rfl rfl hb14 rfl (laws_toUint16S.c k _ Aa0_2 ca0_2 a0.Foes (hS.rd' (i := 2) rfl) (hS.le' (i := 2) rfl) _ ht10) ?_
  rintro _ w1 ⟨A11, c12, rfl, hs⟩
  replace hS := hS.addN hs
  refine OJ.st rfl rfl rfl (SR.fieldAddr tU_ok tI_ok rfl rfl rfl rfl rfl rfl) ?_
  refine OJ.es rfl rfl (Es.store tI_ok hS (i := 2) (vs := [.slice A11 t10.length c12]) rfl rfl rfl (ad1 _ _) rfl rfl rfl rfl (one1 rfl) (Nat.le_of_ble_eq_true rfl) ([.slice A5 t4.length c6, .slice A8 t7.length c9, .slice A11 t10.length c12]) rfl) ?_
  intro w1 hS
  refine OJ.nil (EJ.next ?_)
  refine CJ.seq ?_
  refine CJ.region ?_
  refine OJ.st rfl rfl rfl (SR.load rfl rfl (fun w' hx => ldN tU_ok tI_ok rfl rfl rfl (CA.ext (hS.cells (i := 2) rfl) hx) (ds := [.slice A5 t4.length c6, .slice A8 t7.length c9, .slice A11 t10.length c12]) rfl rfl)) ?_
  refine OJ.es rfl rfl (Es.store tI_ok hS (i := 1) (vs := [.slice A5 t4.length c6, .slice A8 t7.length c9, .slice A11 t10.length c12]) rfl rfl rfl rfl rfl rfl rfl rfl (by intro u hu; simp only [List.mem_cons, List.not_mem_nil, or_false] at hu; rcases hu with rfl | rfl | rfl <;> rfl) (Nat.le_of_ble_eq_true rfl) ([.slice A5 t4.length c6, .slice A8 t7.length c9, .slice A11 t10.length c12]) rfl) ?_
  intro w1 hS
  refine OJ.nil (EJ.next ?_)
  refine CJ.ret (?_)
  obtain rfl := Option.some.inj H
  exact EJ.fin rfl (.cell rfl (ldN tU_ok tI_ok rfl rfl rfl (hS.cells (i := 1) rfl) (ds := [.slice A5 t4.length c6, .slice A8 t7.length c9, .slice A11 t10.length c12]) rfl rfl) .nil) ⟨A5, c6, A8, c9, A11, c12, rfl, hS.pick [3, 4, 5] [] rfl⟩

def spec_SameHerd.l1 (a0 : Herd) (a1 : Herd) : Nat → Int → Option (Bool ⊕ Unit)
  | 0, _ => none
  | k + 1, y4 => if y4 < (a0.Names.length : Int) then ((getI a0.Names y4).bind fun t5 => (getI a1.Names y4).bind fun t6 => if t5 ≠ t6 then (some (Sum.inl false)) else (spec_SameHerd.l1 a0 a1 k (IntKind.i64.wrap (y4 + 1)))) else (some (Sum.inr ()))
def spec_SameHerd.l2 (a0 : Herd) (a1 : Herd) : Nat → Int → Option (Bool ⊕ Unit)
  | 0, _ => none
  | k + 1, y7 => if y7 < (a0.Eats.length : Int) then ((getI a0.Eats y7).bind fun t8 => (getI a1.Eats y7).bind fun t9 => if t8 ≠ t9 then (some (Sum.inl false)) else (spec_SameHerd.l2 a0 a1 k (IntKind.i64.wrap (y7 + 1)))) else (some (Sum.inr ()))
def spec_SameHerd.l3 (a0 : Herd) (a1 : Herd) : Nat → Int → Option (Bool ⊕ Unit)
  | 0, _ => none
  | k + 1, y10 => if y10 < (a0.Foes.length : Int) then ((getI a0.Foes y10).bind fun t11 => (getI a1.Foes y10).bind fun t12 => if t11 ≠ t12 then (some (Sum.inl false)) else (spec_SameHerd.l3 a0 a1 k (IntKind.i64.wrap (y10 + 1)))) else (some (Sum.inr ()))
def spec_SameHerd.f (k : Nat) (a0 : Herd) (a1 : Herd) : Option Bool := (if (a0.Names.length : Int) ≠ (a1.Names.length : Int) then (some true) else (if (a0.Eats.length : Int) ≠ (a1.Eats.length : Int) then (some true) else (some (decide ((a0.Foes.length : Int) ≠ (a1.Foes.length : Int)))))).bind fun y3 => if y3 = true then (some false) else ((spec_SameHerd.l1 a0 a1 k 0).bind fun s6 => match s6 with | .inl r => some r | .inr _ => (spec_SameHerd.l2 a0 a1 k 0).bind fun s7 => match s7 with | .inl r => some r | .inr _ => (spec_SameHerd.l3 a0 a1 k 0).bind fun s8 => match s8 with | .inl r => some r | .inr _ => some true)
theorem spec_SameHerd.c (k : Nat) (w : World) (Aa0_0 : Option Addr) (ca0_0 : Nat) (Aa0_1 : Option Addr) (ca0_1 : Nat) (Aa0_2 : Option Addr) (ca0_2 : Nat) (a0 : Herd) (hr0_0 : Rd G.cs w Aa0_0 a0.Names) (hc0_0 : a0.Names.length ≤ ca0_0) (hr0_1 : Rd (ci .i16) w Aa0_1 a0.Eats) (hc0_1 : a0.Eats.length ≤ ca0_1) (hr0_2 : Rd (ci .u16) w Aa0_2 a0.Foes) (hc0_2 : a0.Foes.length ≤ ca0_2) (Aa1_0 : Option Addr) (ca1_0 : Nat) (Aa1_1 : Option Addr) (ca1_1 : Nat) (Aa1_2 : Option Addr) (ca1_2 : Nat) (a1 : Herd) (hr1_0 : Rd G.cs w Aa1_0 a1.Names) (hc1_0 : a1.Names.length ≤ ca1_0) (hr1_1 : Rd (ci .i16) w Aa1_1 a1.Eats) (hc1_1 : a1.Eats.length ≤ ca1_1) (hr1_2 : Rd (ci .u16) w Aa1_2 a1.Foes) (hc1_2 : a1.Foes.length ≤ ca1_2) (r : Bool) (H : spec_SameHerd.f k a0 a1 = some r) :
    CV Try.prog 5 [.agg [.slice Aa0_0 a0.Names.length ca0_0, .slice Aa0_1 a0.Eats.length ca0_1, .slice Aa0_2 a0.Foes.length ca0_2].toArray, .agg [.slice Aa1_0 a1.Names.length ca1_0, .slice Aa1_1 a1.Eats.length ca1_1, .slice Aa1_2 a1.Foes.length ca1_2].toArray].toArray w fun v w' => v = .bool r ∧ Ext w w' := by
  have hS := (((((((St.init w no).param G.cs Aa0_0 ca0_0 a0.Names hr0_0 hc0_0).param (ci .i16) Aa0_1 ca0_1 a0.Eats hr0_1 hc0_1).param (ci .u16) Aa0_2 ca0_2 a0.Foes hr0_2 hc0_2).param G.cs Aa1_0 ca1_0 a1.Names hr1_0 hc1_0).param (ci .i16) Aa1_1 ca1_1 a1.Eats hr1_1 hc1_1).param (ci .u16) Aa1_2 ca1_2 a1.Foes hr1_2 hc1_2)
  unfold spec_SameHerd.f at H
  refine CV.body Try.func5 rfl Try.ntmps5 rfl ?_
  refine CJ.seq ?_
  refine CJ.region ?_
  refine OJ.ef rfl rfl rfl (Ef.box hS rfl rfl ([.slice Aa0_0 a0.Names.length ca0_0, .slice Aa0_1 a0.Eats.length ca0_1, .slice Aa0_2 a0.Foes.length ca0_2]) rfl) ?_
  rintro _ w1 ⟨b1, rfl, hS⟩
  refine OJ.ef rfl rfl rfl (Ef.box hS rfl rfl ([.slice Aa1_0 a1.Names.length ca1_0, .slice Aa1_1 a1.Eats.length ca1_1, .slice Aa1_2 a1.Foes.length ca1_2]) rfl) ?_
  rintro _ w1 ⟨b2, rfl, hS⟩
  refine OJ.pures tU_ok 1 rfl ?_
  refine OJ.nil (EJ.next ?_)
  refine CJ.seq ?_
  obtain ⟨j5, H, K5⟩ := pbind H
  refine CJ.cut (fun F w1 => ∃ (y3 : Bool) , (some y3 : Option Bool) = some j5 ∧ F = [(2, .pointer (some ⟨b1, 0, none⟩)), (3, .pointer (some ⟨b2, 0, none⟩)), (32, .bool y3)] ∧ St w no w1 [box b1 ([.slice Aa0_0 a0.Names.length ca0_0, .slice Aa0_1 a0.Eats.length ca0_1, .slice Aa0_2 a0.Foes.length ca0_2]) 29, box b2 ([.slice Aa1_0 a1.Names.length ca1_0, .slice Aa1_1 a1.Eats.length ca1_1, .slice Aa1_2 a1.Foes.length ca1_2]) 29] [roC G.cs Aa0_0 ca0_0 a0.Names, roC (ci .i16) Aa0_1 ca0_1 a0.Eats, roC (ci .u16) Aa0_2 ca0_2 a0.Foes, roC G.cs Aa1_0 ca1_0 a1.Names, roC (ci .i16) Aa1_1 ca1_1 a1.Eats, roC (ci .u16) Aa1_2 ca1_2 a1.Foes]) ?_ ?_
  · skip
    refine CJ.region ?_
    refine OJ.st rfl rfl rfl (SR.fieldAddr tU_ok tI_ok rfl rfl rfl rfl rfl rfl) ?_
    refine OJ.st rfl rfl rfl (SR.load rfl rfl (fun w' hx => ld1 tU_ok rfl rfl (CA.ext (CA.sub (hS.cells (i := 0) rfl) 0) hx) rfl)) ?_
    refine OJ.pures tU_ok 1 rfl ?_
    refine OJ.st rfl rfl rfl (SR.fieldAddr tU_ok tI_ok rfl rfl rfl rfl rfl rfl) ?_
    refine OJ.st rfl rfl rfl (SR.load rfl rfl (fun w' hx => ld1 tU_ok rfl rfl (CA.ext (CA.sub (hS.cells (i := 1) rfl) 0) hx) rfl)) ?_
    refine OJ.pures tU_ok 3 rfl ?_
    refine OJ.split (t := 15) rfl (fun hb => ?_) (fun hb => ?_)
    · replace H := pif_t (of_decide_eq_true hb) H
      refine OJ.pures tU_ok 17 rfl ?_
      refine OJ.nil ?_
      exact EJ.meet (F' := [(2, .pointer (some ⟨b1, 0, none⟩)), (3, .pointer (some ⟨b2, 0, none⟩)), (32, .bool true)]) ⟨rfl, rfl, rfl, trivial⟩ ⟨true, H, rfl, hS.pick [0, 1] [0, 1, 2, 3, 4, 5] rfl⟩
    · replace H := pif_f (of_decide_eq_false hb) H
      refine OJ.st rfl rfl rfl (SR.fieldAddr tU_ok tI_ok rfl rfl rfl rfl rfl rfl) ?_
      refine OJ.st rfl rfl rfl (SR.load rfl rfl (fun w' hx => ld1 tU_ok rfl rfl (CA.ext (CA.sub (hS.cells (i := 0) rfl) 1) hx) rfl)) ?_
      refine OJ.pures tU_ok 1 rfl ?_
      refine OJ.st rfl rfl rfl (SR.fieldAddr tU_ok tI_ok rfl rfl rfl rfl rfl rfl) ?_
      refine OJ.st rfl rfl rfl (SR.load rfl rfl (fun w' hx => ld1 tU_ok rfl rfl (CA.ext (CA.sub (hS.cells (i := 1) rfl) 1) hx) rfl)) ?_
      refine OJ.pures tU_ok 4 rfl ?_
      refine OJ.split (t := 24) rfl (fun hb => ?_) (fun hb => ?_)
      · replace H := pif_t (of_decide_eq_true hb) H
        refine OJ.pures tU_ok 8 rfl ?_
        refine OJ.nil ?_
        exact EJ.meet (F' := [(2, .pointer (some ⟨b1, 0, none⟩)), (3, .pointer (some ⟨b2, 0, none⟩)), (32, .bool true)]) ⟨rfl, rfl, rfl, trivial⟩ ⟨true, H, rfl, hS.pick [0, 1] [0, 1, 2, 3, 4, 5] rfl⟩
      · replace H := pif_f (of_decide_eq_false hb) H
        refine OJ.st rfl rfl rfl (SR.fieldAddr tU_ok tI_ok rfl rfl rfl rfl rfl rfl) ?_
        refine OJ.st rfl rfl rfl (SR.load rfl rfl (fun w' hx => ld1 tU_ok rfl rfl (CA.ext (CA.sub (hS.cells (i := 0) rfl) 2) hx) rfl)) ?_
        refine OJ.pures tU_ok 1 rfl ?_
        refine OJ.st rfl rfl rfl (SR.fieldAddr tU_ok tI_ok rfl rfl rfl rfl rfl rfl) ?_
        refine OJ.st rfl rfl rfl (SR.load rfl rfl (fun w' hx => ld1 tU_ok rfl rfl (CA.ext (CA.sub (hS.cells (i := 1) rfl) 2) hx) rfl)) ?_
        refine OJ.pures tU_ok 3 rfl ?_
        refine OJ.nil ?_
        exact EJ.meet (F' := [(2, .pointer (some ⟨b1, 0, none⟩)), (3, .pointer (some ⟨b2, 0, none⟩)), (32, .bool (decide ((a0.Foes.length : Int) ≠ (a1.Foes.length : Int))))]) ⟨rfl, rfl, rfl, trivial⟩ ⟨(decide ((a0.Foes.length : Int) ≠ (a1.Foes.length : Int))), H, rfl, hS.pick [0, 1] [0, 1, 2, 3, 4, 5] rfl⟩
  · rintro F w1 ⟨y3, he, rfl, hS⟩
    obtain rfl := Option.some.inj he
    have H := K5
    refine CJ.cond rfl (fun hb => ?_) (fun hb => ?_)
    · replace H := pif_t hb H
      refine CJ.seq ?_
      refine CJ.region ?_
      refine OJ.pures tU_ok 1 rfl ?_
      refine OJ.nil (EJ.next ?_)
      refine CJ.ret (EJ.skR (?_))
      obtain rfl := Option.some.inj H
      exact EJ.fin rfl (.tmp rfl .nil) ⟨rfl, hS.ext⟩
    · replace H := pifb_f hb H
      refine CJ.skip (EJ.next ?_)
      refine CJ.seq ?_
      refine CJ.seq ?_
      refine CJ.region ?_
      refine OJ.pures tU_ok 1 rfl ?_
      refine OJ.nil (EJ.next ?_)
      obtain ⟨j6, H, K6⟩ := pbind H
      refine CJ.cut1 (fun F w1 => (some (Sum.inr ()) : Option (Bool ⊕ Unit)) = some j6 ∧ F = [(2, .pointer (some ⟨b1, 0, none⟩)), (3, .pointer (some ⟨b2, 0, none⟩))] ∧ St w no w1 [box b1 ([.slice Aa0_0 a0.Names.length ca0_0, .slice Aa0_1 a0.Eats.length ca0_1, .slice Aa0_2 a0.Foes.length ca0_2]) 29, box b2 ([.slice Aa1_0 a1.Names.length ca1_0, .slice Aa1_1 a1.Eats.length ca1_1, .slice Aa1_2 a1.Foes.length ca1_2]) 29] [roC G.cs Aa0_0 ca0_0 a0.Names, roC (ci .i16) Aa0_1 ca0_1 a0.Eats, roC (ci .u16) Aa0_2 ca0_2 a0.Foes, roC G.cs Aa1_0 ca1_0 a1.Names, roC (ci .i16) Aa1_1 ca1_1 a1.Eats, roC (ci .u16) Aa1_2 ca1_2 a1.Foes]) ?_ ?_
      · skip
        refine CJ.block ?_
        refine CJ.loop (fun k F w1 => ∃ (y4 : Int), F = [(2, .pointer (some ⟨b1, 0, none⟩)), (3, .pointer (some ⟨b2, 0, none⟩)), (5, .int .i64 y4)] ∧ St w no w1 [box b1 ([.slice Aa0_0 a0.Names.length ca0_0, .slice Aa0_1 a0.Eats.length ca0_1, .slice Aa0_2 a0.Foes.length ca0_2]) 29, box b2 ([.slice Aa1_0 a1.Names.length ca1_0, .slice Aa1_1 a1.Eats.length ca1_1, .slice Aa1_2 a1.Foes.length ca1_2]) 29] [roC G.cs Aa0_0 ca0_0 a0.Names, roC (ci .i16) Aa0_1 ca0_1 a0.Eats, roC (ci .u16) Aa0_2 ca0_2 a0.Foes, roC G.cs Aa1_0 ca1_0 a1.Names, roC (ci .i16) Aa1_1 ca1_1 a1.Eats, roC (ci .u16) Aa1_2 ca1_2 a1.Foes] ∧ spec_SameHerd.l1 a0 a1 k y4 = some j6) k (F' := [(2, .pointer (some ⟨b1, 0, none⟩)), (3, .pointer (some ⟨b2, 0, none⟩)), (5, .int .i64 0)]) ⟨rfl, rfl, rfl, trivial⟩ ⟨0, rfl, hS.pick [0, 1] [0, 1, 2, 3, 4, 5] rfl, H⟩ ?_
        rintro k F w1 ⟨y4, rfl, hS, H⟩
        cases k with
        | zero => rw [spec_SameHerd.l1] at H; cases H
        | succ k =>
          rw [spec_SameHerd.l1] at H
          refine CJ.seq ?_
          refine CJ.seq ?_
          refine CJ.region ?_
          refine OJ.pures tU_ok 1 rfl ?_
          refine OJ.st rfl rfl rfl (SR.fieldAddr tU_ok tI_ok rfl rfl rfl rfl rfl rfl) ?_
          refine OJ.st rfl rfl rfl (SR.load rfl rfl (fun w' hx => ld1 tU_ok rfl rfl (CA.ext (CA.sub (hS.cells (i := 0) rfl) 0) hx) rfl)) ?_
          refine OJ.pures tU_ok 2 rfl ?_
          refine OJ.nil (EJ.next ?_)
          refine CJ.cond rfl (fun hb => ?_) (fun hb => ?_)
          · replace H := pif_t (of_decide_eq_true hb) H
            refine CJ.skip (EJ.next ?_)
            refine CJ.seq ?_
            refine CJ.block ?_
            refine CJ.seq ?_
            refine CJ.draw [] [0, 1, 2, 3, 4, 5, 6, 7, 8, 9, 10] mixed (by kernel_rfl) hS fun w1 hS => ?_
            refine DJ.st rfl rfl rfl rfl rfl (SR.fieldAddr tU_ok tI_ok rfl rfl rfl rfl rfl rfl) ?_
            refine DJ.st rfl rfl rfl rfl rfl (SR.load rfl rfl (fun w' hx => ld1 tU_ok rfl rfl (CA.ext (CA.sub (hS.cells (i := 0) rfl) 0) hx) rfl)) ?_
            refine DJ.pures tU_ok 1 rfl ?_
            obtain ⟨t5, ht5, H⟩ := pbind H
            obtain ⟨ad5, e5⟩ := (hS.rd' (i := 0) rfl).some' ht5
            refine DJ.st rfl rfl rfl rfl rfl (SR.idxS tU_ok tI_ok rfl rfl rfl rfl e5 rfl (getI_some ht5).1) ?_
            refine DJ.st rfl rfl rfl rfl rfl (SR.load rfl rfl (fun w' hx => ld1 tU_ok rfl rfl (CA.ext ((hS.rd' (i := 0) rfl).at_ e5 ht5) hx) rfl)) ?_
            refine DJ.st rfl rfl rfl rfl rfl (SR.fieldAddr tU_ok tI_ok rfl rfl rfl rfl rfl rfl) ?_
            refine DJ.st rfl rfl rfl rfl rfl (SR.load rfl rfl (fun w' hx => ld1 tU_ok rfl rfl (CA.ext (CA.sub (hS.cells (i := 1) rfl) 0) hx) rfl)) ?_
            refine DJ.pures tU_ok 1 rfl ?_
            obtain ⟨t6, ht6, H⟩ := pbind H
            obtain ⟨ad6, e6⟩ := (hS.rd' (i := 3) rfl).some' ht6
            refine DJ.st rfl rfl rfl rfl rfl (SR.idxS tU_ok tI_ok rfl rfl rfl rfl e6 rfl (getI_some ht6).1) ?_
            refine DJ.st rfl rfl rfl rfl rfl (SR.load rfl rfl (fun w' hx => ld1 tU_ok rfl rfl (CA.ext ((hS.rd' (i := 3) rfl).at_ e6 ht6) hx) rfl)) ?_
            refine DJ.pures tU_ok 1 rfl ?_
            refine DJ.nil (EJ.next ?_)
            refine CJ.cond rfl (fun hb => ?_) (fun hb => ?_)
            · replace H := pif_t (of_decide_eq_true hb) H
              refine CJ.seq ?_
              refine CJ.region ?_
              refine OJ.pures tU_ok 1 rfl ?_
              refine OJ.nil (EJ.next ?_)
              refine CJ.ret (EJ.bkR (EJ.skR (EJ.skR (EJ.bkR (EJ.skR (EJ.skR (?_)))))))
              first | (obtain rfl := Option.some.inj H; have H := K6) | (obtain ⟨q6, H2, e6⟩ := pbind H; obtain rfl := Option.some.inj e6; obtain rfl := Option.some.inj K6; have H := H2)
              obtain rfl := Option.some.inj H
              exact EJ.fin rfl (.tmp rfl .nil) ⟨rfl, hS.ext⟩
            · replace H := pif_f (of_decide_eq_false hb) H
              refine CJ.skip (EJ.blk (EJ.next ?_))
              refine CJ.region ?_
              refine OJ.pures tU_ok 3 rfl ?_
              refine OJ.nil ?_
              exact EJ.round k (F' := [(2, .pointer (some ⟨b1, 0, none⟩)), (3, .pointer (some ⟨b2, 0, none⟩)), (5, .int .i64 (IntKind.i64.wrap (y4 + 1)))]) ⟨rfl, rfl, rfl, trivial⟩ (Nat.lt_succ_self _) ⟨(IntKind.i64.wrap (y4 + 1)), rfl, hS.pick [0, 1] [0, 1, 2, 3, 4, 5] rfl, H⟩
          · replace H := pif_f (of_decide_eq_false hb) H
            refine CJ.exit (EJ.skE (EJ.skE (EJ.hit (?_))))
            exact EJ.meet (F' := [(2, .pointer (some ⟨b1, 0, none⟩)), (3, .pointer (some ⟨b2, 0, none⟩))]) ⟨rfl, rfl, trivial⟩ ⟨H, rfl, hS.pick [0, 1] [0, 1, 2, 3, 4, 5] rfl⟩
      · rintro F w1 ⟨he, rfl, hS⟩
        obtain rfl := Option.some.inj he
        have H := K6
        refine EJ.next ?_
        refine CJ.seq ?_
        refine CJ.seq ?_
        refine CJ.region ?_
        refine OJ.pures tU_ok 1 rfl ?_
        refine OJ.nil (EJ.next ?_)
        obtain ⟨j7, H, K7⟩ := pbind H
        refine CJ.cut1 (fun F w1 => (some (Sum.inr ()) : Option (Bool ⊕ Unit)) = some j7 ∧ F = [(2, .pointer (some ⟨b1, 0, none⟩)), (3, .pointer (some ⟨b2, 0, none⟩))] ∧ St w no w1 [box b1 ([.slice Aa0_0 a0.Names.length ca0_0, .slice Aa0_1 a0.Eats.length ca0_1, .slice Aa0_2 a0.Foes.length ca0_2]) 29, box b2 ([.slice Aa1_0 a1.Names.length ca1_0, .slice Aa1_1 a1.Eats.length ca1_1, .slice Aa1_2 a1.Foes.length ca1_2]) 29] [roC G.cs Aa0_0 ca0_0 a0.Names, roC (ci .i16) Aa0_1 ca0_1 a0.Eats, roC (ci .u16) Aa0_2 ca0_2 a0.Foes, roC G.cs Aa1_0 ca1_0 a1.Names, roC (ci .i16) Aa1_1 ca1_1 a1.Eats, roC (ci .u16) Aa1_2 ca1_2 a1.Foes]) ?_ ?_
        · skip
          refine CJ.block ?_
          refine CJ.loop (fun k F w1 => ∃ (y7 : Int), F = [(2, .pointer (some ⟨b1, 0, none⟩)), (3, .pointer (some ⟨b2, 0, none⟩)), (6, .int .i64 y7)] ∧ St w no w1 [box b1 ([.slice Aa0_0 a0.Names.length ca0_0, .slice Aa0_1 a0.Eats.length ca0_1, .slice Aa0_2 a0.Foes.length ca0_2]) 29, box b2 ([.slice Aa1_0 a1.Names.length ca1_0, .slice Aa1_1 a1.Eats.length ca1_1, .slice Aa1_2 a1.Foes.length ca1_2]) 29] [roC G.cs Aa0_0 ca0_0 a0.Names, roC (ci .i16) Aa0_1 ca0_1 a0.Eats, roC (ci .u16) Aa0_2 ca0_2 a0.Foes, roC G.cs Aa1_0 ca1_0 a1.Names, roC (ci .i16) Aa1_1 ca1_1 a1.Eats, roC (ci .u16) Aa1_2 ca1_2 a1.Foes] ∧ spec_SameHerd.l2 a0 a1 k y7 = some j7) k (F' := [(2, .pointer (some ⟨b1, 0, none⟩)), (3, .pointer (some ⟨b2, 0, none⟩)), (6, .int .i64 0)]) ⟨rfl, rfl, rfl, trivial⟩ ⟨0, rfl, hS.pick [0, 1] [0, 1, 2, 3, 4, 5] rfl, H⟩ ?_
          rintro k F w1 ⟨y7, rfl, hS, H⟩
          cases k with
          | zero => rw [spec_SameHerd.l2] at H; cases H
          | succ k =>
            rw [spec_SameHerd.l2] at H
            refine CJ.seq ?_
            refine CJ.seq ?_
            refine CJ.region ?_
            refine OJ.pures tU_ok 1 rfl ?_
            refine OJ.st rfl rfl rfl (SR.fieldAddr tU_ok tI_ok rfl rfl rfl rfl rfl rfl) ?_
            refine OJ.st rfl rfl rfl (SR.load rfl rfl (fun w' hx => ld1 tU_ok rfl rfl (CA.ext (CA.sub (hS.cells (i := 0) rfl) 1) hx) rfl)) ?_
            refine OJ.pures tU_ok 2 rfl ?_
            refine OJ.nil (EJ.next ?_)
            refine CJ.cond rfl (fun hb => ?_) (fun hb => ?_)
            · replace H := pif_t (of_decide_eq_true hb) H
              refine CJ.skip (EJ.next ?_)
              refine CJ.seq ?_
              refine CJ.block ?_
              refine CJ.seq ?_
              refine CJ.draw [] [0, 1, 2, 3, 4, 5, 6, 7, 8, 9, 10] mixed (by kernel_rfl) hS fun w1 hS => ?_
              refine DJ.st rfl rfl rfl rfl rfl (SR.fieldAddr tU_ok tI_ok rfl rfl rfl rfl rfl rfl) ?_
              refine DJ.st rfl rfl rfl rfl rfl (SR.load rfl rfl (fun w' hx => ld1 tU_ok rfl rfl (CA.ext (CA.sub (hS.cells (i := 0) rfl) 1) hx) rfl)) ?_
              refine DJ.pures tU_ok 1 rfl ?_
              obtain ⟨t8, ht8, H⟩ := pbind H
              obtain ⟨ad8, e8⟩ := (hS.rd' (i := 1) rfl).some' ht8
              refine DJ.st rfl rfl rfl rfl rfl (SR.idxS tU_ok tI_ok rfl rfl rfl rfl e8 rfl (getI_some ht8).1) ?_
              refine DJ.st rfl rfl rfl rfl rfl (SR.load rfl rfl (fun w' hx => ld1 tU_ok rfl rfl (CA.ext ((hS.rd' (i := 1) rfl).at_ e8 ht8) hx) rfl)) ?_
              refine DJ.st rfl rfl rfl rfl rfl (SR.fieldAddr tU_ok tI_ok rfl rfl rfl rfl rfl rfl) ?_
              refine DJ.st rfl rfl rfl rfl rfl (SR.load rfl rfl (fun w' hx => ld1 tU_ok rfl rfl (CA.ext (CA.sub (hS.cells (i := 1) rfl) 1) hx) rfl)) ?_
              refine DJ.pures tU_ok 1 rfl ?_
              obtain ⟨t9, ht9, H⟩ := pbind H
              obtain ⟨ad9, e9⟩ := (hS.rd' (i := 4) rfl).some' ht9
              refine DJ.st rfl rfl rfl rfl rfl (SR.idxS tU_ok tI_ok rfl rfl rfl rfl e9 rfl (getI_some ht9).1) ?_
              refine DJ.st rfl rfl rfl rfl rfl (SR.load rfl rfl (fun w' hx => ld1 tU_ok rfl rfl (CA.ext ((hS.rd' (i := 4) rfl).at_ e9 ht9) hx) rfl)) ?_
              refine DJ.pures tU_ok 1 rfl ?_
              refine DJ.nil (EJ.next ?_)
              refine CJ.cond rfl (fun hb => ?_) (fun hb => ?_)
              · replace H := pif_t (of_decide_eq_true hb) H
                refine CJ.seq ?_
                refine CJ.region ?_
                refine OJ.pures tU_ok 1 rfl ?_
                refine OJ.nil (EJ.next ?_)
                refine CJ.ret (EJ.bkR (EJ.skR (EJ.skR (EJ.bkR (EJ.skR (EJ.skR (?_)))))))
                first | (obtain rfl := Option.some.inj H; have H := K7) | (obtain ⟨q7, H2, e7⟩ := pbind H; obtain rfl := Option.some.inj e7; obtain rfl := Option.some.inj K7; have H := H2)
                obtain rfl := Option.some.inj H
                exact EJ.fin rfl (.tmp rfl .nil) ⟨rfl, hS.ext⟩
              · replace H := pif_f (of_decide_eq_false hb) H
                refine CJ.skip (EJ.blk (EJ.next ?_))
                refine CJ.region ?_
                refine OJ.pures tU_ok 3 rfl ?_
                refine OJ.nil ?_
                exact EJ.round k (F' := [(2, .pointer (some ⟨b1, 0, none⟩)), (3, .pointer (some ⟨b2, 0, none⟩)), (6, .int .i64 (IntKind.i64.wrap (y7 + 1)))]) ⟨rfl, rfl, rfl, trivial⟩ (Nat.lt_succ_self _) ⟨(IntKind.i64.wrap (y7 + 1)), rfl, hS.pick [0, 1] [0, 1, 2, 3, 4, 5] rfl, H⟩
            · replace H := pif_f (of_decide_eq_false hb) H
              refine CJ.exit (EJ.skE (EJ.skE (EJ.hit (?_))))
              exact EJ.meet (F' := [(2, .pointer (some ⟨b1, 0, none⟩)), (3, .pointer (some ⟨b2, 0, none⟩))]) ⟨rfl, rfl, trivial⟩ ⟨H, rfl, hS.pick [0, 1] [0, 1, 2, 3, 4, 5] rfl⟩
        · rintro F w1 ⟨he, rfl, hS⟩
          obtain rfl := Option.some.inj he
          have H := K7
          refine EJ.next ?_
          refine CJ.seq ?_
          refine CJ.seq ?_
          refine CJ.region ?_
          refine OJ.pures tU_ok 1 rfl ?_
          refine OJ.nil (EJ.next ?_)
          obtain ⟨j8, H, K8⟩ := pbind H
          refine CJ.cut1 (fun F w1 => (some (Sum.inr ()) : Option (Bool ⊕ Unit)) = some j8 ∧ F = [] ∧ St w no w1 [] [roC G.cs Aa0_0 ca0_0 a0.Names, roC (ci .i16) Aa0_1 ca0_1 a0.Eats, roC (ci .u16) Aa0_2 ca0_2 a0.Foes, roC G.cs Aa1_0 ca1_0 a1.Names, roC (ci .i16) Aa1_1 ca1_1 a1.Eats, roC (ci .u16) Aa1_2 ca1_2 a1.Foes]) ?_ ?_
          · skip
            refine CJ.block ?_
            refine CJ.loop (fun k F w1 => ∃ (y10 : Int), F = [(2, .pointer (some ⟨b1, 0, none⟩)), (3, .pointer (some ⟨b2, 0, none⟩)), (7, .int .i64 y10)] ∧ St w no w1 [box b1 ([.slice Aa0_0 a0.Names.length ca0_0, .slice Aa0_1 a0.Eats.length ca0_1, .slice Aa0_2 a0.Foes.length ca0_2]) 29, box b2 ([.slice Aa1_0 a1.Names.length ca1_0, .slice Aa1_1 a1.Eats.length ca1_1, .slice Aa1_2 a1.Foes.length ca1_2]) 29] [roC G.cs Aa0_0 ca0_0 a0.Names, roC (ci .i16) Aa0_1 ca0_1 a0.Eats, roC (ci .u16) Aa0_2 ca0_2 a0.Foes, roC G.cs Aa1_0 ca1_0 a1.Names, roC (ci .i16) Aa1_1 ca1_1 a1.Eats, roC (ci .u16) Aa1_2 ca1_2 a1.Foes] ∧ spec_SameHerd.l3 a0 a1 k y10 = some j8) k (F' := [(2, .pointer (some ⟨b1, 0, none⟩)), (3, .pointer (some ⟨b2, 0, none⟩)), (7, .int .i64 0)]) ⟨rfl, rfl, rfl, trivial⟩ ⟨0, rfl, hS.pick [0, 1] [0, 1, 2, 3, 4, 5] rfl, H⟩ ?_
            rintro k F w1 ⟨y10, rfl, hS, H⟩
            cases k with
            | zero => rw [spec_SameHerd.l3] at H; cases H
            | succ k =>
              rw [spec_SameHerd.l3] at H
              refine CJ.seq ?_
              refine CJ.seq ?_
              refine CJ.region ?_
              refine OJ.pures tU_ok 1 rfl ?_
              refine OJ.st rfl rfl rfl (SR.fieldAddr tU_ok tI_ok rfl rfl rfl rfl rfl rfl) ?_
              refine OJ.st rfl rfl rfl (SR.load rfl rfl (fun w' hx => ld1 tU_ok rfl rfl (CA.ext (CA.sub (hS.cells (i := 0) rfl) 2) hx) rfl)) ?_
              refine OJ.pures tU_ok 2 rfl ?_
              refine OJ.nil (EJ.next ?_)
              refine CJ.cond rfl (fun hb => ?_) (fun hb => ?_)
              · replace H := pif_t (of_decide_eq_true hb) H
                refine CJ.skip (EJ.next ?_)
                refine CJ.seq ?_
                refine CJ.block ?_
                refine CJ.seq ?_
                refine CJ.draw [] [0, 1, 2, 3, 4, 5, 6, 7, 8, 9, 10] mixed (by kernel_rfl) hS fun w1 hS => ?_
                refine DJ.st rfl rfl rfl rfl rfl (SR.fieldAddr tU_ok tI_ok rfl rfl rfl rfl rfl rfl) ?_
                refine DJ.st rfl rfl rfl rfl rfl (SR.load rfl rfl (fun w' hx => ld1 tU_ok rfl rfl (CA.ext (CA.sub (hS.cells (i := 0) rfl) 2) hx) rfl)) ?_
                refine DJ.pures tU_ok 1 rfl ?_
                obtain ⟨t11, ht11, H⟩ := pbind H
                obtain ⟨ad11, e11⟩ := (hS.rd' (i := 2) rfl).some' ht11
                refine DJ.st rfl rfl rfl rfl rfl (SR.idxS tU_ok tI_ok rfl rfl rfl rfl e11 rfl (getI_some ht11).1) ?_
                refine DJ.st rfl rfl rfl rfl rfl (SR.load rfl rfl (fun w' hx => ld1 tU_ok rfl rfl (CA.ext ((hS.rd' (i := 2) rfl).at_ e11 ht11) hx) rfl)) ?_
                refine DJ.st rfl rfl rfl rfl rfl (SR.fieldAddr tU_ok tI_ok rfl rfl rfl rfl rfl rfl) ?_
                refine DJ.st rfl rfl rfl rfl rfl (SR.load rfl rfl (fun w' hx => ld1 tU_ok rfl rfl (CA.ext (CA.sub (hS.cells (i := 1) rfl) 2) hx) rfl)) ?_
                refine DJ.pures tU_ok 1 rfl ?_
                obtain ⟨t12, ht12, H⟩ := pbind H
                obtain ⟨ad12, e12⟩ := (hS.rd' (i := 5) rfl).some' ht12
                refine DJ.st rfl rfl rfl rfl rfl (SR.idxS tU_ok tI_ok rfl rfl rfl rfl e12 rfl (getI_some ht12).1) ?_
                refine DJ.st rfl rfl rfl rfl rfl (SR.load rfl rfl (fun w' hx => ld1 tU_ok rfl rfl (CA.ext ((hS.rd' (i := 5) rfl).at_ e12 ht12) hx) rfl)) ?_
                refine DJ.pures tU_ok 1 rfl ?_
                refine DJ.nil (EJ.next ?_)
                refine CJ.cond rfl (fun hb => ?_) (fun hb => ?_)
                · replace H := pif_t (of_decide_eq_true hb) H
                  refine CJ.seq ?_
                  refine CJ.region ?_
                  refine OJ.pures tU_ok 1 rfl ?_
                  refine OJ.nil (EJ.next ?_)
                  refine CJ.ret (EJ.bkR (EJ.skR (EJ.skR (EJ.bkR (EJ.skR (EJ.skR (?_)))))))
                  first | (obtain rfl := Option.some.inj H; have H := K8) | (obtain ⟨q8, H2, e8⟩ := pbind H; obtain rfl := Option.some.inj e8; obtain rfl := Option.some.inj K8; have H := H2)
                  obtain rfl := Option.some.inj H
                  exact EJ.fin rfl (.tmp rfl .nil) ⟨rfl, hS.ext⟩
                · replace H := pif_f (of_decide_eq_false hb) H
                  refine CJ.skip (EJ.blk (EJ.next ?_))
                  refine CJ.region ?_
                  refine OJ.pures tU_ok 3 rfl ?_
                  refine OJ.nil ?_
                  exact EJ.round k (F' := [(2, .pointer (some ⟨b1, 0, none⟩)), (3, .pointer (some ⟨b2, 0, none⟩)), (7, .int .i64 (IntKind.i64.wrap (y10 + 1)))]) ⟨rfl, rfl, rfl, trivial⟩ (Nat.lt_succ_self _) ⟨(IntKind.i64.wrap (y10 + 1)), rfl, hS.pick [0, 1] [0, 1, 2, 3, 4, 5] rfl, H⟩
              · replace H := pif_f (of_decide_eq_false hb) H
                refine CJ.exit (EJ.skE (EJ.skE (EJ.hit (?_))))
                exact EJ.meet (F' := []) trivial ⟨H, rfl, hS.pick [] [0, 1, 2, 3, 4, 5] rfl⟩
          · rintro F w1 ⟨he, rfl, hS⟩
            obtain rfl := Option.some.inj he
            have H := K8
            refine EJ.next ?_
            refine CJ.seq ?_
            refine CJ.region ?_
            refine OJ.pures tU_ok 1 rfl ?_
            refine OJ.nil (EJ.next ?_)
            refine CJ.ret (?_)
            obtain rfl := Option.some.inj H
            exact EJ.fin rfl (.tmp rfl .nil) ⟨rfl, hS.ext⟩

def slices_Equal_string_string.l1 (a0 : List ByteArray) (a1 : List ByteArray) : Nat → Int → Option (Bool ⊕ Unit)
  | 0, _ => none
  | k + 1, y1 => if y1 < (a0.length : Int) then ((getI a0 y1).bind fun t2 => (getI a1 y1).bind fun t3 => if t2 ≠ t3 then (some (Sum.inl false)) else (slices_Equal_string_string.l1 a0 a1 k (IntKind.i64.wrap (y1 + 1)))) else (some (Sum.inr ()))
def slices_Equal_string_string.f (k : Nat) (a0 : List ByteArray) (a1 : List ByteArray) : Option Bool := if (a0.length : Int) ≠ (a1.length : Int) then (some false) else ((slices_Equal_string_string.l1 a0 a1 k 0).bind fun s9 => match s9 with | .inl r => some r | .inr _ => some true)
theorem slices_Equal_string_string.c (k : Nat) (w : World) (Aa0 : Option Addr) (ca0 : Nat) (a0 : List ByteArray) (hr0 : Rd G.cs w Aa0 a0) (hc0 : a0.length ≤ ca0) (Aa1 : Option Addr) (ca1 : Nat) (a1 : List ByteArray) (hr1 : Rd G.cs w Aa1 a1) (hc1 : a1.length ≤ ca1) (r : Bool) (H : slices_Equal_string_string.f k a0 a1 = some r) :
    CV Try.prog 15 [.slice Aa0 a0.length ca0, .slice Aa1 a1.length ca1].toArray w fun v w' => v = .bool r ∧ Ext w w' := by
  have hS := (((St.init w no).param G.cs Aa0 ca0 a0 hr0 hc0).param G.cs Aa1 ca1 a1 hr1 hc1)
  unfold slices_Equal_string_string.f at H
  refine CV.body Try.func15 rfl Try.ntmps15 rfl ?_
  refine CJ.seq ?_
  refine CJ.region ?_
  refine OJ.pures tU_ok 1 rfl ?_
  refine OJ.nil (EJ.next ?_)
  refine CJ.seq ?_
  refine CJ.seq ?_
  refine CJ.region ?_
  refine OJ.pures tU_ok 5 rfl ?_
  refine OJ.nil (EJ.next ?_)
  refine CJ.cond rfl (fun hb => ?_) (fun hb => ?_)
  · replace H := pif_t (of_decide_eq_true hb) H
    refine CJ.seq ?_
    refine CJ.region ?_
    refine OJ.pures tU_ok 1 rfl ?_
    refine OJ.nil (EJ.next ?_)
    refine CJ.ret (EJ.skR (?_))
    obtain rfl := Option.some.inj H
    exact EJ.fin rfl (.tmp rfl .nil) ⟨rfl, hS.ext⟩
  · replace H := pif_f (of_decide_eq_false hb) H
    refine CJ.skip (EJ.next ?_)
    refine CJ.seq ?_
    refine CJ.seq ?_
    refine CJ.region ?_
    refine OJ.pures tU_ok 3 rfl ?_
    refine OJ.nil (EJ.next ?_)
    obtain ⟨j9, H, K9⟩ := pbind H
    refine CJ.cut1 (fun F w1 => (some (Sum.inr ()) : Option (Bool ⊕ Unit)) = some j9 ∧ F = [] ∧ St w no w1 [] [roC G.cs Aa0 ca0 a0, roC G.cs Aa1 ca1 a1]) ?_ ?_
    · skip
      refine CJ.block ?_
      refine CJ.loop (fun k F w1 => ∃ (y1 : Int), F = [(0, .slice Aa0 a0.length ca0), (1, .slice Aa1 a1.length ca1), (12, .int .i64 (a0.length : Int)), (13, .int .i64 y1)] ∧ St w no w1 [] [roC G.cs Aa0 ca0 a0, roC G.cs Aa1 ca1 a1] ∧ slices_Equal_string_string.l1 a0 a1 k y1 = some j9) k (F' := [(0, .slice Aa0 a0.length ca0), (1, .slice Aa1 a1.length ca1), (12, .int .i64 (a0.length : Int)), (13, .int .i64 0)]) ⟨rfl, rfl, rfl, rfl, trivial⟩ ⟨0, rfl, hS.pick [] [0, 1] rfl, H⟩ ?_
      rintro k F w1 ⟨y1, rfl, hS, H⟩
      cases k with
      | zero => rw [slices_Equal_string_string.l1] at H; cases H
      | succ k =>
        rw [slices_Equal_string_string.l1] at H
        refine CJ.seq ?_
        refine CJ.region ?_
        refine OJ.pures tU_ok 1 rfl ?_
        refine OJ.nil (EJ.next ?_)
        refine CJ.seq ?_
        refine CJ.cond rfl (fun hb => ?_) (fun hb => ?_)
        · replace H := pif_t (of_decide_eq_true hb) H
          refine CJ.skip (EJ.next ?_)
          refine CJ.seq ?_
          refine CJ.block ?_
          refine CJ.seq ?_
          refine CJ.region ?_
          refine OJ.pures tU_ok 2 rfl ?_
          refine OJ.nil (EJ.next ?_)
          refine CJ.seq ?_
          refine CJ.draw [] [0, 1, 2, 3, 4, 5, 6, 7, 8] mixed (by kernel_rfl) hS fun w1 hS => ?_
          refine DJ.pures tU_ok 2 rfl ?_
          obtain ⟨t2, ht2, H⟩ := pbind H
          obtain ⟨ad2, e2⟩ := (hS.rd' (i := 0) rfl).some' ht2
          refine DJ.st rfl rfl rfl rfl rfl (SR.idxS tU_ok tI_ok rfl rfl rfl rfl e2 rfl (getI_some ht2).1) ?_
          refine DJ.st rfl rfl rfl rfl rfl (SR.load rfl rfl (fun w' hx => ld1 tU_ok rfl rfl (CA.ext ((hS.rd' (i := 0) rfl).at_ e2 ht2) hx) rfl)) ?_
          refine DJ.pures tU_ok 2 rfl ?_
          obtain ⟨t3, ht3, H⟩ := pbind H
          obtain ⟨ad3, e3⟩ := (hS.rd' (i := 1) rfl).some' ht3
          refine DJ.st rfl rfl rfl rfl rfl (SR.idxS tU_ok tI_ok rfl rfl rfl rfl e3 rfl (getI_some ht3).1) ?_
          refine DJ.st rfl rfl rfl rfl rfl (SR.load rfl rfl (fun w' hx => ld1 tU_ok rfl rfl (CA.ext ((hS.rd' (i := 1) rfl).at_ e3 ht3) hx) rfl)) ?_
          refine DJ.pures tU_ok 1 rfl ?_
          refine DJ.nil (EJ.next ?_)
          refine CJ.cond rfl (fun hb => ?_) (fun hb => ?_)
          · replace H := pif_t (of_decide_eq_true hb) H
            refine CJ.seq ?_
            refine CJ.region ?_
            refine OJ.pures tU_ok 1 rfl ?_
            refine OJ.nil (EJ.next ?_)
            refine CJ.ret (EJ.bkR (EJ.skR (EJ.skR (EJ.bkR (EJ.skR (EJ.skR (?_)))))))
            first | (obtain rfl := Option.some.inj H; have H := K9) | (obtain ⟨q9, H2, e9⟩ := pbind H; obtain rfl := Option.some.inj e9; obtain rfl := Option.some.inj K9; have H := H2)
            obtain rfl := Option.some.inj H
            exact EJ.fin rfl (.tmp rfl .nil) ⟨rfl, hS.ext⟩
          · replace H := pif_f (of_decide_eq_false hb) H
            refine CJ.skip (EJ.blk (EJ.next ?_))
            refine CJ.region ?_
            refine OJ.pures tU_ok 2 rfl ?_
            refine OJ.nil ?_
            exact EJ.round k (F' := [(0, .slice Aa0 a0.length ca0), (1, .slice Aa1 a1.length ca1), (12, .int .i64 (a0.length : Int)), (13, .int .i64 (IntKind.i64.wrap (y1 + 1)))]) ⟨rfl, rfl, rfl, rfl, trivial⟩ (Nat.lt_succ_self _) ⟨(IntKind.i64.wrap (y1 + 1)), rfl, hS.pick [] [0, 1] rfl, H⟩
        · replace H := pif_f (of_decide_eq_false hb) H
          refine CJ.exit (EJ.skE (EJ.skE (EJ.hit (?_))))
          exact EJ.meet (F' := []) trivial ⟨H, rfl, hS.pick [] [0, 1] rfl⟩
    · rintro F w1 ⟨he, rfl, hS⟩
      obtain rfl := Option.some.inj he
      have H := K9
      refine EJ.next ?_
      refine CJ.seq ?_
      refine CJ.region ?_
      refine OJ.pures tU_ok 1 rfl ?_
      refine OJ.nil (EJ.next ?_)
      refine CJ.ret (?_)
      obtain rfl := Option.some.inj H
      exact EJ.fin rfl (.tmp rfl .nil) ⟨rfl, hS.ext⟩

def slices_Equal_int16_int16.l1 (a0 : List Int) (a1 : List Int) : Nat → Int → Option (Bool ⊕ Unit)
  | 0, _ => none
  | k + 1, y1 => if y1 < (a0.length : Int) then ((getI a0 y1).bind fun t2 => (getI a1 y1).bind fun t3 => if t2 ≠ t3 then (some (Sum.inl false)) else (slices_Equal_int16_int16.l1 a0 a1 k (IntKind.i64.wrap (y1 + 1)))) else (some (Sum.inr ()))
def slices_Equal_int16_int16.f (k : Nat) (a0 : List Int) (a1 : List Int) : Option Bool := if (a0.length : Int) ≠ (a1.length : Int) then (some false) else ((slices_Equal_int16_int16.l1 a0 a1 k 0).bind fun s10 => match s10 with | .inl r => some r | .inr _ => some true)
theorem slices_Equal_int16_int16.c (k : Nat) (w : World) (Aa0 : Option Addr) (ca0 : Nat) (a0 : List Int) (hr0 : Rd (ci .i16) w Aa0 a0) (hc0 : a0.length ≤ ca0) (Aa1 : Option Addr) (ca1 : Nat) (a1 : List Int) (hr1 : Rd (ci .i16) w Aa1 a1) (hc1 : a1.length ≤ ca1) (r : Bool) (H : slices_Equal_int16_int16.f k a0 a1 = some r) :
    CV Try.prog 16 [.slice Aa0 a0.length ca0, .slice Aa1 a1.length ca1].toArray w fun v w' => v = .bool r ∧ Ext w w' := by
  have hS := (((St.init w no).param (ci .i16) Aa0 ca0 a0 hr0 hc0).param (ci .i16) Aa1 ca1 a1 hr1 hc1)
  unfold slices_Equal_int16_int16.f at H
  refine CV.body Try.func16 rfl Try.ntmps16 rfl ?_
  refine CJ.seq ?_
  refine CJ.region ?_
  refine OJ.pures tU_ok 1 rfl ?_
  refine OJ.nil (EJ.next ?_)
  refine CJ.seq ?_
  refine CJ.seq ?_
  refine CJ.region ?_
  refine OJ.pures tU_ok 5 rfl ?_
  refine OJ.nil (EJ.next ?_)
  refine CJ.cond rfl (fun hb => ?_) (fun hb => ?_)
  · replace H := pif_t (of_decide_eq_true hb) H
    refine CJ.seq ?_
    refine CJ.region ?_
    refine OJ.pures tU_ok 1 rfl ?_
    refine OJ.nil (EJ.next ?_)
    refine CJ.ret (EJ.skR (?_))
    obtain rfl := Option.some.inj H
    exact EJ.fin rfl (.tmp rfl .nil) ⟨rfl, hS.ext⟩
  · replace H := pif_f (of_decide_eq_false hb) H
    refine CJ.skip (EJ.next ?_)
    refine CJ.seq ?_
    refine CJ.seq ?_
    refine CJ.region ?_
    refine OJ.pures tU_ok 3 rfl ?_
    refine OJ.nil (EJ.next ?_)
    obtain ⟨j10, H, K10⟩ := pbind H
    refine CJ.cut1 (fun F w1 => (some (Sum.inr ()) : Option (Bool ⊕ Unit)) = some j10 ∧ F = [] ∧ St w no w1 [] [roC (ci .i16) Aa0 ca0 a0, roC (ci .i16) Aa1 ca1 a1]) ?_ ?_
    · skip
      refine CJ.block ?_
      refine CJ.loop (fun k F w1 => ∃ (y1 : Int), F = [(0, .slice Aa0 a0.length ca0), (1, .slice Aa1 a1.length ca1), (12, .int .i64 (a0.length : Int)), (13, .int .i64 y1)] ∧ St w no w1 [] [roC (ci .i16) Aa0 ca0 a0, roC (ci .i16) Aa1 ca1 a1] ∧ slices_Equal_int16_int16.l1 a0 a1 k y1 = some j10) k (F' := [(0, .slice Aa0 a0.length ca0), (1, .slice Aa1 a1.length ca1), (12, .int .i64 (a0.length : Int)), (13, .int .i64 0)]) ⟨rfl, rfl, rfl, rfl, trivial⟩ ⟨0, rfl, hS.pick [] [0, 1] rfl, H⟩ ?_
      rintro k F w1 ⟨y1, rfl, hS, H⟩
      cases k with
      | zero => rw [slices_Equal_int16_int16.l1] at H; cases H
      | succ k =>
        rw [slices_Equal_int16_int16.l1] at H
        refine CJ.seq ?_
        refine CJ.region ?_
        refine OJ.pures tU_ok 1 rfl ?_
        refine OJ.nil (EJ.next ?_)
        refine CJ.seq ?_
        refine CJ.cond rfl (fun hb => ?_) (fun hb => ?_)
        · replace H := pif_t (of_decide_eq_true hb) H
          refine CJ.skip (EJ.next ?_)
          refine CJ.seq ?_
          refine CJ.block ?_
          refine CJ.seq ?_
          refine CJ.region ?_
          refine OJ.pures tU_ok 2 rfl ?_
          refine OJ.nil (EJ.next ?_)
          refine CJ.seq ?_
          refine CJ.draw [] [0, 1, 2, 3, 4, 5, 6, 7, 8] mixed (by kernel_rfl) hS fun w1 hS => ?_
          refine DJ.pures tU_ok 2 rfl ?_
          obtain ⟨t2, ht2, H⟩ := pbind H
          obtain ⟨ad2, e2⟩ := (hS.rd' (i := 0) rfl).some' ht2
          refine DJ.st rfl rfl rfl rfl rfl (SR.idxS tU_ok tI_ok rfl rfl rfl rfl e2 rfl (getI_some ht2).1) ?_
          refine DJ.st rfl rfl rfl rfl rfl (SR.load rfl rfl (fun w' hx => ld1 tU_ok rfl rfl (CA.ext ((hS.rd' (i := 0) rfl).at_ e2 ht2) hx) rfl)) ?_
          refine DJ.pures tU_ok 2 rfl ?_
          obtain ⟨t3, ht3, H⟩ := pbind H
          obtain ⟨ad3, e3⟩ := (hS.rd' (i := 1) rfl).some' ht3
          refine DJ.st rfl rfl rfl rfl rfl (SR.idxS tU_ok tI_ok rfl rfl rfl rfl e3 rfl (getI_some ht3).1) ?_
          refine DJ.st rfl rfl rfl rfl rfl (SR.load rfl rfl (fun w' hx => ld1 tU_ok rfl rfl (CA.ext ((hS.rd' (i := 1) rfl).at_ e3 ht3) hx) rfl)) ?_
          refine DJ.pures tU_ok 1 rfl ?_
          refine DJ.nil (EJ.next ?_)
          refine CJ.cond rfl (fun hb => ?_) (fun hb => ?_)
          · replace H := pif_t (of_decide_eq_true hb) H
            refine CJ.seq ?_
            refine CJ.region ?_
            refine OJ.pures tU_ok 1 rfl ?_
            refine OJ.nil (EJ.next ?_)
            refine CJ.ret (EJ.bkR (EJ.skR (EJ.skR (EJ.bkR (EJ.skR (EJ.skR (?_)))))))
            first | (obtain rfl := Option.some.inj H; have H := K10) | (obtain ⟨q10, H2, e10⟩ := pbind H; obtain rfl := Option.some.inj e10; obtain rfl := Option.some.inj K10; have H := H2)
            obtain rfl := Option.some.inj H
            exact EJ.fin rfl (.tmp rfl .nil) ⟨rfl, hS.ext⟩
          · replace H := pif_f (of_decide_eq_false hb) H
            refine CJ.skip (EJ.blk (EJ.next ?_))
            refine CJ.region ?_
            refine OJ.pures tU_ok 2 rfl ?_
            refine OJ.nil ?_
            exact EJ.round k (F' := [(0, .slice Aa0 a0.length ca0), (1, .slice Aa1 a1.length ca1), (12, .int .i64 (a0.length : Int)), (13, .int .i64 (IntKind.i64.wrap (y1 + 1)))]) ⟨rfl, rfl, rfl, rfl, trivial⟩ (Nat.lt_succ_self _) ⟨(IntKind.i64.wrap (y1 + 1)), rfl, hS.pick [] [0, 1] rfl, H⟩
        · replace H := pif_f (of_decide_eq_false hb) H
          refine CJ.exit (EJ.skE (EJ.skE (EJ.hit (?_))))
          exact EJ.meet (F' := []) trivial ⟨H, rfl, hS.pick [] [0, 1] rfl⟩
    · rintro F w1 ⟨he, rfl, hS⟩
      obtain rfl := Option.some.inj he
      have H := K10
      refine EJ.next ?_
      refine CJ.seq ?_
      refine CJ.region ?_
      refine OJ.pures tU_ok 1 rfl ?_
      refine OJ.nil (EJ.next ?_)
      refine CJ.ret (?_)
      obtain rfl := Option.some.inj H
      exact EJ.fin rfl (.tmp rfl .nil) ⟨rfl, hS.ext⟩

def slices_Equal_uint16_uint16.l1 (a0 : List Int) (a1 : List Int) : Nat → Int → Option (Bool ⊕ Unit)
  | 0, _ => none
  | k + 1, y1 => if y1 < (a0.length : Int) then ((getI a0 y1).bind fun t2 => (getI a1 y1).bind fun t3 => if t2 ≠ t3 then (some (Sum.inl false)) else (slices_Equal_uint16_uint16.l1 a0 a1 k (IntKind.i64.wrap (y1 + 1)))) else (some (Sum.inr ()))
def slices_Equal_uint16_uint16.f (k : Nat) (a0 : List Int) (a1 : List Int) : Option Bool := if (a0.length : Int) ≠ (a1.length : Int) then (some false) else ((slices_Equal_uint16_uint16.l1 a0 a1 k 0).bind fun s11 => match s11 with | .inl r => some r | .inr _ => some true)
theorem slices_Equal_uint16_uint16.c (k : Nat) (w : World) (Aa0 : Option Addr) (ca0 : Nat) (a0 : List Int) (hr0 : Rd (ci .u16) w Aa0 a0) (hc0 : a0.length ≤ ca0) (Aa1 : Option Addr) (ca1 : Nat) (a1 : List Int) (hr1 : Rd (ci .u16) w Aa1 a1) (hc1 : a1.length ≤ ca1) (r : Bool) (H : slices_Equal_uint16_uint16.f k a0 a1 = some r) :
    CV Try.prog 17 [.slice Aa0 a0.length ca0, .slice Aa1 a1.length ca1].toArray w fun v w' => v = .bool r ∧ Ext w w' := by
  have hS := (((St.init w no).param (ci .u16) Aa0 ca0 a0 hr0 hc0).param (ci .u16) Aa1 ca1 a1 hr1 hc1)
  unfold slices_Equal_uint16_uint16.f at H
  refine CV.body Try.func17 rfl Try.ntmps17 rfl ?_
  refine CJ.seq ?_
  refine CJ.region ?_
  refine OJ.pures tU_ok 1 rfl ?_
  refine OJ.nil (EJ.next ?_)
  refine CJ.seq ?_
  refine CJ.seq ?_
  refine CJ.region ?_
  refine OJ.pures tU_ok 5 rfl ?_
  refine OJ.nil (EJ.next ?_)
  refine CJ.cond rfl (fun hb => ?_) (fun hb => ?_)
  · replace H := pif_t (of_decide_eq_true hb) H
    refine CJ.seq ?_
    refine CJ.region ?_
    refine OJ.pures tU_ok 1 rfl ?_
    refine OJ.nil (EJ.next ?_)
    refine CJ.ret (EJ.skR (?_))
    obtain rfl := Option.some.inj H
    exact EJ.fin rfl (.tmp rfl .nil) ⟨rfl, hS.ext⟩
  · replace H := pif_f (of_decide_eq_false hb) H
    refine CJ.skip (EJ.next ?_)
    refine CJ.seq ?_
    refine CJ.seq ?_
    refine CJ.region ?_
    refine OJ.pures tU_ok 3 rfl ?_
    refine OJ.nil (EJ.next ?_)
    obtain ⟨j11, H, K11⟩ := pbind H
    refine CJ.cut1 (fun F w1 => (some (Sum.inr ()) : Option (Bool ⊕ Unit)) = some j11 ∧ F = [] ∧ St w no w1 [] [roC (ci .u16) Aa0 ca0 a0, roC (ci .u16) Aa1 ca1 a1]) ?_ ?_
    · skip
      refine CJ.block ?_
      refine CJ.loop (fun k F w1 => ∃ (y1 : Int), F = [(0, .slice Aa0 a0.length ca0), (1, .slice Aa1 a1.length ca1), (12, .int .i64 (a0.length : Int)), (13, .int .i64 y1)] ∧ St w no w1 [] [roC (ci .u16) Aa0 ca0 a0, roC (ci .u16) Aa1 ca1 a1] ∧ slices_Equal_uint16_uint16.l1 a0 a1 k y1 = some j11) k (F' := [(0, .slice Aa0 a0.length ca0), (1, .slice Aa1 a1.length ca1), (12, .int .i64 (a0.length : Int)), (13, .int .i64 0)]) ⟨rfl, rfl, rfl, rfl, trivial⟩ ⟨0, rfl, hS.pick [] [0, 1] rfl, H⟩ ?_
      rintro k F w1 ⟨y1, rfl, hS, H⟩
      cases k with
      | zero => rw [slices_Equal_uint16_uint16.l1] at H; cases H
      | succ k =>
        rw [slices_Equal_uint16_uint16.l1] at H
        refine CJ.seq ?_
        refine CJ.region ?_
        refine OJ.pures tU_ok 1 rfl ?_
        refine OJ.nil (EJ.next ?_)
        refine CJ.seq ?_
        refine CJ.cond rfl (fun hb => ?_) (fun hb => ?_)
        · replace H := pif_t (of_decide_eq_true hb) H
          refine CJ.skip (EJ.next ?_)
          refine CJ.seq ?_
          refine CJ.block ?_
          refine CJ.seq ?_
          refine CJ.region ?_
          refine OJ.pures tU_ok 2 rfl ?_
          refine OJ.nil (EJ.next ?_)
          refine CJ.seq ?_
          refine CJ.draw [] [0, 1, 2, 3, 4, 5, 6, 7, 8] mixed (by kernel_rfl) hS fun w1 hS => ?_
          refine DJ.pures tU_ok 2 rfl ?_
          obtain ⟨t2, ht2, H⟩ := pbind H
          obtain ⟨ad2, e2⟩ := (hS.rd' (i := 0) rfl).some' ht2
          refine DJ.st rfl rfl rfl rfl rfl (SR.idxS tU_ok tI_ok rfl rfl rfl rfl e2 rfl (getI_some ht2).1) ?_
          refine DJ.st rfl rfl rfl rfl rfl (SR.load rfl rfl (fun w' hx => ld1 tU_ok rfl rfl (CA.ext ((hS.rd' (i := 0) rfl).at_ e2 ht2) hx) rfl)) ?_
          refine DJ.pures tU_ok 2 rfl ?_
          obtain ⟨t3, ht3, H⟩ := pbind H
          obtain ⟨ad3, e3⟩ := (hS.rd' (i := 1) rfl).some' ht3
          refine DJ.st rfl rfl rfl rfl rfl (SR.idxS tU_ok tI_ok rfl rfl rfl rfl e3 rfl (getI_some ht3).1) ?_
          refine DJ.st rfl rfl rfl rfl rfl (SR.load rfl rfl (fun w' hx => ld1 tU_ok rfl rfl (CA.ext ((hS.rd' (i := 1) rfl).at_ e3 ht3) hx) rfl)) ?_
          refine DJ.pures tU_ok 1 rfl ?_
          refine DJ.nil (EJ.next ?_)
          refine CJ.cond rfl (fun hb => ?_) (fun hb => ?_)
          · replace H := pif_t (of_decide_eq_true hb) H
            refine CJ.seq ?_
            refine CJ.region ?_
            refine OJ.pures tU_ok 1 rfl ?_
            refine OJ.nil (EJ.next ?_)
            refine CJ.ret (EJ.bkR (EJ.skR (EJ.skR (EJ.bkR (EJ.skR (EJ.skR (?_)))))))
            first | (obtain rfl := Option.some.inj H; have H := K11) | (obtain ⟨q11, H2, e11⟩ := pbind H; obtain rfl := Option.some.inj e11; obtain rfl := Option.some.inj K11; have H := H2)
            obtain rfl := Option.some.inj H
            exact EJ.fin rfl (.tmp rfl .nil) ⟨rfl, hS.ext⟩
          · replace H := pif_f (of_decide_eq_false hb) H
            refine CJ.skip (EJ.blk (EJ.next ?_))
            refine CJ.region ?_
            refine OJ.pures tU_ok 2 rfl ?_
            refine OJ.nil ?_
            exact EJ.round k (F' := [(0, .slice Aa0 a0.length ca0), (1, .slice Aa1 a1.length ca1), (12, .int .i64 (a0.length : Int)), (13, .int .i64 (IntKind.i64.wrap (y1 + 1)))]) ⟨rfl, rfl, rfl, rfl, trivial⟩ (Nat.lt_succ_self _) ⟨(IntKind.i64.wrap (y1 + 1)), rfl, hS.pick [] [0, 1] rfl, H⟩
        · replace H := pif_f (of_decide_eq_false hb) H
          refine CJ.exit (EJ.skE (EJ.skE (EJ.hit (?_))))
          exact EJ.meet (F' := []) trivial ⟨H, rfl, hS.pick [] [0, 1] rfl⟩
    · rintro F w1 ⟨he, rfl, hS⟩
      obtain rfl := Option.some.inj he
      have H := K11
      refine EJ.next ?_
      refine CJ.seq ?_
      refine CJ.region ?_
      refine OJ.pures tU_ok 1 rfl ?_
      refine OJ.nil (EJ.next ?_)
      refine CJ.ret (?_)
      obtain rfl := Option.some.inj H
      exact EJ.fin rfl (.tmp rfl .nil) ⟨rfl, hS.ext⟩

def impl_SameHerd.f (k : Nat) (a0 : Herd) (a1 : Herd) : Option Bool := (slices_Equal_string_string.f k a0.Names a1.Names).bind fun t3 => if t3 = true then ((slices_Equal_int16_int16.f k a0.Eats a1.Eats).bind fun t4 => if t4 = true then ((slices_Equal_uint16_uint16.f k a0.Foes a1.Foes).bind fun t5 => some t5) else (some false)) else (some false)
theorem impl_SameHerd.c (k : Nat) (w : World) (Aa0_0 : Option Addr) (ca0_0 : Nat) (Aa0_1 : Option Addr) (ca0_1 : Nat) (Aa0_2 : Option Addr) (ca0_2 : Nat) (a0 : Herd) (hr0_0 : Rd G.cs w Aa0_0 a0.Names) (hc0_0 : a0.Names.length ≤ ca0_0) (hr0_1 : Rd (ci .i16) w Aa0_1 a0.Eats) (hc0_1 : a0.Eats.length ≤ ca0_1) (hr0_2 : Rd (ci .u16) w Aa0_2 a0.Foes) (hc0_2 : a0.Foes.length ≤ ca0_2) (Aa1_0 : Option Addr) (ca1_0 : Nat) (Aa1_1 : Option Addr) (ca1_1 : Nat) (Aa1_2 : Option Addr) (ca1_2 : Nat) (a1 : Herd) (hr1_0 : Rd G.cs w Aa1_0 a1.Names) (hc1_0 : a1.Names.length ≤ ca1_0) (hr1_1 : Rd (ci .i16) w Aa1_1 a1.Eats) (hc1_1 : a1.Eats.length ≤ ca1_1) (hr1_2 : Rd (ci .u16) w Aa1_2 a1.Foes) (hc1_2 : a1.Foes.length ≤ ca1_2) (r : Bool) (H : impl_SameHerd.f k a0 a1 = some r) :
    CV Try.prog 7 [.agg [.slice Aa0_0 a0.Names.length ca0_0, .slice Aa0_1 a0.Eats.length ca0_1, .slice Aa0_2 a0.Foes.length ca0_2].toArray, .agg [.slice Aa1_0 a1.Names.length ca1_0, .slice Aa1_1 a1.Eats.length ca1_1, .slice Aa1_2 a1.Foes.length ca1_2].toArray].toArray w fun v w' => v = .bool r ∧ Ext w w' := by
  have hS := (((((((St.init w no).param G.cs Aa0_0 ca0_0 a0.Names hr0_0 hc0_0).param (ci .i16) Aa0_1 ca0_1 a0.Eats hr0_1 hc0_1).param (ci .u16) Aa0_2 ca0_2 a0.Foes hr0_2 hc0_2).param G.cs Aa1_0 ca1_0 a1.Names hr1_0 hc1_0).param (ci .i16) Aa1_1 ca1_1 a1.Eats hr1_1 hc1_1).param (ci .u16) Aa1_2 ca1_2 a1.Foes hr1_2 hc1_2)
  unfold impl_SameHerd.f at H
  refine CV.body Try.func7 rfl Try.ntmps7 rfl ?_
  refine CJ.seq ?_
  refine CJ.region ?_
  refine OJ.ef rfl rfl rfl (Ef.box hS rfl rfl ([.slice Aa0_0 a0.Names.length ca0_0, .slice Aa0_1 a0.Eats.length ca0_1, .slice Aa0_2 a0.Foes.length ca0_2]) rfl) ?_
  rintro _ w1 ⟨b1, rfl, hS⟩
  refine OJ.ef rfl rfl rfl (Ef.box hS rfl rfl ([.slice Aa1_0 a1.Names.length ca1_0, .slice Aa1_1 a1.Eats.length ca1_1, .slice Aa1_2 a1.Foes.length ca1_2]) rfl) ?_
  rintro _ w1 ⟨b2, rfl, hS⟩
  refine OJ.pures tU_ok 1 rfl ?_
  refine OJ.nil (EJ.next ?_)
  refine CJ.seq ?_
  refine CJ.region ?_
  refine OJ.st rfl rfl rfl (SR.fieldAddr tU_ok tI_ok rfl rfl rfl rfl rfl rfl) ?_
  refine OJ.st rfl rfl rfl (SR.load rfl rfl (fun w' hx => ld1 tU_ok rfl rfl (CA.ext (CA.sub (hS.cells (i := 0) rfl) 0) hx) rfl)) ?_
  refine OJ.st rfl rfl rfl (SR.fieldAddr tU_ok tI_ok rfl rfl rfl rfl rfl rfl) ?_
  refine OJ.st rfl rfl rfl (SR.load rfl rfl (fun w' hx => ld1 tU_ok rfl rfl (CA.ext (CA.sub (hS.cells (i := 1) rfl) 0) hx) rfl)) ?_
  obtain ⟨t3, ht3, H⟩ := pbind H
  refine OJ.callF rfl rfl rfl rfl rfl hb15 rfl (slices_Equal_string_string.c k _ Aa0_0 ca0_0 a0.Names (hS.rd' (i := 0) rfl) (hS.le' (i := 0) rfl) Aa1_0 ca1_0 a1.Names (hS.rd' (i := 3) rfl) (hS.le' (i := 3) rfl) _ ht3) ?_
  rintro _ w1 ⟨rfl, hs⟩
  replace hS := hS.grow hs
  refine OJ.pures tU_ok 1 rfl ?_
  refine OJ.split (t := 10) rfl (fun hb => ?_) (fun hb => ?_)
  · replace H := pif_t hb H
    refine OJ.st rfl rfl rfl (SR.fieldAddr tU_ok tI_ok rfl rfl rfl rfl rfl rfl) ?_
    refine OJ.st rfl rfl rfl (SR.load rfl rfl (fun w' hx => ld1 tU_ok rfl rfl (CA.ext (CA.sub (hS.cells (i := 0) rfl) 1) hx) rfl)) ?_
    refine OJ.st rfl rfl rfl (SR.fieldAddr tU_ok tI_ok rfl rfl rfl rfl rfl rfl) ?_
    refine OJ.st rfl rfl rfl (SR.load rfl rfl (fun w' hx => ld1 tU_ok rfl rfl (CA.ext (CA.sub (hS.cells (i := 1) rfl) 1) hx) rfl)) ?_
    obtain ⟨t4, ht4, H⟩ := pbind H
    refine OJ.callF rfl rfl rfl rfl rfl hb16 rfl (slices_Equal_int16_int16.c k _ Aa0_1 ca0_1 a0.Eats (hS.rd' (i := 1) rfl) (hS.le' (i := 1) rfl) Aa1_1 ca1_1 a1.Eats (hS.rd' (i := 4) rfl) (hS.le' (i := 4) rfl) _ ht4) ?_
    rintro _ w1 ⟨rfl, hs⟩
    replace hS := hS.grow hs
    refine OJ.pures tU_ok 2 rfl ?_
    refine OJ.split (t := 17) rfl (fun hb => ?_) (fun hb => ?_)
    · replace H := pif_t hb H
      refine OJ.st rfl rfl rfl (SR.fieldAddr tU_ok tI_ok rfl rfl rfl rfl rfl rfl) ?_
      refine OJ.st rfl rfl rfl (SR.load rfl rfl (fun w' hx => ld1 tU_ok rfl rfl (CA.ext (CA.sub (hS.cells (i := 0) rfl) 2) hx) rfl)) ?_
      refine OJ.st rfl rfl rfl (SR.fieldAddr tU_ok tI_ok rfl rfl rfl rfl rfl rfl) ?_
      refine OJ.st rfl rfl rfl (SR.load rfl rfl (fun w' hx => ld1 tU_ok rfl rfl (CA.ext (CA.sub (hS.cells (i := 1) rfl) 2) hx) rfl)) ?_
      obtain ⟨t5, ht5, H⟩ := pbind H
      refine OJ.callF rfl rfl rfl rfl rfl hb17 rfl (slices_Equal_uint16_uint16.c k _ Aa0_2 ca0_2 a0.Foes (hS.rd' (i := 2) rfl) (hS.le' (i := 2) rfl) Aa1_2 ca1_2 a1.Foes (hS.rd' (i := 5) rfl) (hS.le' (i := 5) rfl) _ ht5) ?_
      rintro _ w1 ⟨rfl, hs⟩
      replace hS := hS.grow hs
      refine OJ.pures tU_ok 2 rfl ?_
      refine OJ.nil (EJ.next ?_)
      refine CJ.ret (?_)
      obtain rfl := Option.some.inj H
      exact EJ.fin rfl (.tmp rfl .nil) ⟨rfl, hS.ext⟩
    · replace H := pifb_f hb H
      refine OJ.pures tU_ok 7 rfl ?_
      refine OJ.nil (EJ.next ?_)
      refine CJ.ret (?_)
      obtain rfl := Option.some.inj H
      exact EJ.fin rfl (.tmp rfl .nil) ⟨rfl, hS.ext⟩
  · replace H := pifb_f hb H
    refine OJ.pures tU_ok 14 rfl ?_
    refine OJ.nil (EJ.next ?_)
    refine CJ.ret (?_)
    obtain rfl := Option.some.inj H
    exact EJ.fin rfl (.tmp rfl .nil) ⟨rfl, hS.ext⟩

def laws_eqStringS.l1 (a0 : List ByteArray) (a1 : List ByteArray) : Nat → Int → Option (Bool ⊕ Unit)
  | 0, _ => none
  | k + 1, y1 => if y1 < (a0.length : Int) then ((getI a0 y1).bind fun t2 => (getI a1 y1).bind fun t3 => if t2 ≠ t3 then (some (Sum.inl false)) else (laws_eqStringS.l1 a0 a1 k (IntKind.i64.wrap (y1 + 1)))) else (some (Sum.inr ()))
def laws_eqStringS.f (k : Nat) (a0 : List ByteArray) (a1 : List ByteArray) : Option Bool := if (a0.length : Int) ≠ (a1.length : Int) then (some false) else ((laws_eqStringS.l1 a0 a1 k 0).bind fun s12 => match s12 with | .inl r => some r | .inr _ => some true)
theorem laws_eqStringS.c (k : Nat) (w : World) (Aa0 : Option Addr) (ca0 : Nat) (a0 : List ByteArray) (hr0 : Rd G.cs w Aa0 a0) (hc0 : a0.length ≤ ca0) (Aa1 : Option Addr) (ca1 : Nat) (a1 : List ByteArray) (hr1 : Rd G.cs w Aa1 a1) (hc1 : a1.length ≤ ca1) (r : Bool) (H : laws_eqStringS.f k a0 a1 = some r) :
    CV Try.prog 18 [.slice Aa0 a0.length ca0, .slice Aa1 a1.length ca1].toArray w fun v w' => v = .bool r ∧ Ext w w' := by
  have hS := (((St.init w no).param G.cs Aa0 ca0 a0 hr0 hc0).param G.cs Aa1 ca1 a1 hr1 hc1)
  unfold laws_eqStringS.f at H
  refine CV.body Try.func18 rfl Try.ntmps18 rfl ?_
  refine CJ.seq ?_
  refine CJ.region ?_
  refine OJ.pures tU_ok 1 rfl ?_
  refine OJ.nil (EJ.next ?_)
  refine CJ.seq ?_
  refine CJ.seq ?_
  refine CJ.region ?_
  refine OJ.pures tU_ok 5 rfl ?_
  refine OJ.nil (EJ.next ?_)
  refine CJ.cond rfl (fun hb => ?_) (fun hb => ?_)
  · replace H := pif_t (of_decide_eq_true hb) H
    refine CJ.seq ?_
    refine CJ.region ?_
    refine OJ.pures tU_ok 1 rfl ?_
    refine OJ.nil (EJ.next ?_)
    refine CJ.ret (EJ.skR (?_))
    obtain rfl := Option.some.inj H
    exact EJ.fin rfl (.tmp rfl .nil) ⟨rfl, hS.ext⟩
  · replace H := pif_f (of_decide_eq_false hb) H
    refine CJ.skip (EJ.next ?_)
    refine CJ.seq ?_
    refine CJ.seq ?_
    refine CJ.region ?_
    refine OJ.pures tU_ok 1 rfl ?_
    refine OJ.nil (EJ.next ?_)
    obtain ⟨j12, H, K12⟩ := pbind H
    refine CJ.cut1 (fun F w1 => (some (Sum.inr ()) : Option (Bool ⊕ Unit)) = some j12 ∧ F = [] ∧ St w no w1 [] [roC G.cs Aa0 ca0 a0, roC G.cs Aa1 ca1 a1]) ?_ ?_
    · skip
      refine CJ.block ?_
      refine CJ.loop (fun k F w1 => ∃ (y1 : Int), F = [(0, .slice Aa0 a0.length ca0), (1, .slice Aa1 a1.length ca1), (5, .int .i64 y1)] ∧ St w no w1 [] [roC G.cs Aa0 ca0 a0, roC G.cs Aa1 ca1 a1] ∧ laws_eqStringS.l1 a0 a1 k y1 = some j12) k (F' := [(0, .slice Aa0 a0.length ca0), (1, .slice Aa1 a1.length ca1), (5, .int .i64 0)]) ⟨rfl, rfl, rfl, trivial⟩ ⟨0, rfl, hS.pick [] [0, 1] rfl, H⟩ ?_
      rintro k F w1 ⟨y1, rfl, hS, H⟩
      cases k with
      | zero => rw [laws_eqStringS.l1] at H; cases H
      | succ k =>
        rw [laws_eqStringS.l1] at H
        refine CJ.seq ?_
        refine CJ.seq ?_
        refine CJ.region ?_
        refine OJ.pures tU_ok 4 rfl ?_
        refine OJ.nil (EJ.next ?_)
        refine CJ.cond rfl (fun hb => ?_) (fun hb => ?_)
        · replace H := pif_t (of_decide_eq_true hb) H
          refine CJ.skip (EJ.next ?_)
          refine CJ.seq ?_
          refine CJ.block ?_
          refine CJ.seq ?_
          refine CJ.draw [] [0, 1, 2, 3, 4, 5, 6, 7, 8] mixed (by kernel_rfl) hS fun w1 hS => ?_
          refine DJ.pures tU_ok 2 rfl ?_
          obtain ⟨t2, ht2, H⟩ := pbind H
          obtain ⟨ad2, e2⟩ := (hS.rd' (i := 0) rfl).some' ht2
          refine DJ.st rfl rfl rfl rfl rfl (SR.idxS tU_ok tI_ok rfl rfl rfl rfl e2 rfl (getI_some ht2).1) ?_
          refine DJ.st rfl rfl rfl rfl rfl (SR.load rfl rfl (fun w' hx => ld1 tU_ok rfl rfl (CA.ext ((hS.rd' (i := 0) rfl).at_ e2 ht2) hx) rfl)) ?_
          refine DJ.pures tU_ok 2 rfl ?_
          obtain ⟨t3, ht3, H⟩ := pbind H
          obtain ⟨ad3, e3⟩ := (hS.rd' (i := 1) rfl).some' ht3
          refine DJ.st rfl rfl rfl rfl rfl (SR.idxS tU_ok tI_ok rfl rfl rfl rfl e3 rfl (getI_some ht3).1) ?_
          refine DJ.st rfl rfl rfl rfl rfl (SR.load rfl rfl (fun w' hx => ld1 tU_ok rfl rfl (CA.ext ((hS.rd' (i := 1) rfl).at_ e3 ht3) hx) rfl)) ?_
          refine DJ.pures tU_ok 1 rfl ?_
          refine DJ.nil (EJ.next ?_)
          refine CJ.cond rfl (fun hb => ?_) (fun hb => ?_)
          · replace H := pif_t (of_decide_eq_true hb) H
            refine CJ.seq ?_
            refine CJ.region ?_
            refine OJ.pures tU_ok 1 rfl ?_
            refine OJ.nil (EJ.next ?_)
            refine CJ.ret (EJ.bkR (EJ.skR (EJ.skR (EJ.bkR (EJ.skR (EJ.skR (?_)))))))
            first | (obtain rfl := Option.some.inj H; have H := K12) | (obtain ⟨q12, H2, e12⟩ := pbind H; obtain rfl := Option.some.inj e12; obtain rfl := Option.some.inj K12; have H := H2)
            obtain rfl := Option.some.inj H
            exact EJ.fin rfl (.tmp rfl .nil) ⟨rfl, hS.ext⟩
          · replace H := pif_f (of_decide_eq_false hb) H
            refine CJ.skip (EJ.blk (EJ.next ?_))
            refine CJ.region ?_
            refine OJ.pures tU_ok 3 rfl ?_
            refine OJ.nil ?_
            exact EJ.round k (F' := [(0, .slice Aa0 a0.length ca0), (1, .slice Aa1 a1.length ca1), (5, .int .i64 (IntKind.i64.wrap (y1 + 1)))]) ⟨rfl, rfl, rfl, trivial⟩ (Nat.lt_succ_self _) ⟨(IntKind.i64.wrap (y1 + 1)), rfl, hS.pick [] [0, 1] rfl, H⟩
        · replace H := pif_f (of_decide_eq_false hb) H
          refine CJ.exit (EJ.skE (EJ.skE (EJ.hit (?_))))
          exact EJ.meet (F' := []) trivial ⟨H, rfl, hS.pick [] [0, 1] rfl⟩
    · rintro F w1 ⟨he, rfl, hS⟩
      obtain rfl := Option.some.inj he
      have H := K12
      refine EJ.next ?_
      refine CJ.seq ?_
      refine CJ.region ?_
      refine OJ.pures tU_ok 1 rfl ?_
      refine OJ.nil (EJ.next ?_)
      refine CJ.ret (?_)
      obtain rfl := Option.some.inj H
      exact EJ.fin rfl (.tmp rfl .nil) ⟨rfl, hS.ext⟩

def laws_eqInt16S.l1 (a0 : List Int) (a1 : List Int) : Nat → Int → Option (Bool ⊕ Unit)
  | 0, _ => none
  | k + 1, y1 => if y1 < (a0.length : Int) then ((getI a0 y1).bind fun t2 => (getI a1 y1).bind fun t3 => if t2 ≠ t3 then (some (Sum.inl false)) else (laws_eqInt16S.l1 a0 a1 k (IntKind.i64.wrap (y1 + 1)))) else (some (Sum.inr ()))
def laws_eqInt16S.f (k : Nat) (a0 : List Int) (a1 : List Int) : Option Bool := if (a0.length : Int) ≠ (a1.length : Int) then (some false) else ((laws_eqInt16S.l1 a0 a1 k 0).bind fun s13 => match s13 with | .inl r => some r | .inr _ => some true)
theorem laws_eqInt16S.c (k : Nat) (w : World) (Aa0 : Option Addr) (ca0 : Nat) (a0 : List Int) (hr0 : Rd (ci .i16) w Aa0 a0) (hc0 : a0.length ≤ ca0) (Aa1 : Option Addr) (ca1 : Nat) (a1 : List Int) (hr1 : Rd (ci .i16) w Aa1 a1) (hc1 : a1.length ≤ ca1) (r : Bool) (H : laws_eqInt16S.f k a0 a1 = some r) :
    CV Try.prog 19 [.slice Aa0 a0.length ca0, .slice Aa1 a1.length ca1].toArray w fun v w' => v = .bool r ∧ Ext w w' := by
  have hS := (((St.init w no).param (ci .i16) Aa0 ca0 a0 hr0 hc0).param (ci .i16) Aa1 ca1 a1 hr1 hc1)
  unfold laws_eqInt16S.f at H
  refine CV.body Try.func19 rfl Try.ntmps19 rfl ?_
  refine CJ.seq ?_
  refine CJ.region ?_
  refine OJ.pures tU_ok 1 rfl ?_
  refine OJ.nil (EJ.next ?_)
  refine CJ.seq ?_
  refine CJ.seq ?_
  refine CJ.region ?_
  refine OJ.pures tU_ok 5 rfl ?_
  refine OJ.nil (EJ.next ?_)
  refine CJ.cond rfl (fun hb => ?_) (fun hb => ?_)
  · replace H := pif_t (of_decide_eq_true hb) H
    refine CJ.seq ?_
    refine CJ.region ?_
    refine OJ.pures tU_ok 1 rfl ?_
    refine OJ.nil (EJ.next ?_)
    refine CJ.ret (EJ.skR (?_))
    obtain rfl := Option.some.inj H
    exact EJ.fin rfl (.tmp rfl .nil) ⟨rfl, hS.ext⟩
  · replace H := pif_f (of_decide_eq_false hb) H
    refine CJ.skip (EJ.next ?_)
    refine CJ.seq ?_
    refine CJ.seq ?_
    refine CJ.region ?_
    refine OJ.pures tU_ok 1 rfl ?_
    refine OJ.nil (EJ.next ?_)
    obtain ⟨j13, H, K13⟩ := pbind H
    refine CJ.cut1 (fun F w1 => (some (Sum.inr ()) : Option (Bool ⊕ Unit)) = some j13 ∧ F = [] ∧ St w no w1 [] [roC (ci .i16) Aa0 ca0 a0, roC (ci .i16) Aa1 ca1 a1]) ?_ ?_
    · skip
      refine CJ.block ?_
      refine CJ.loop (fun k F w1 => ∃ (y1 : Int), F = [(0, .slice Aa0 a0.length ca0), (1, .slice Aa1 a1.length ca1), (5, .int .i64 y1)] ∧ St w no w1 [] [roC (ci .i16) Aa0 ca0 a0, roC (ci .i16) Aa1 ca1 a1] ∧ laws_eqInt16S.l1 a0 a1 k y1 = some j13) k (F' := [(0, .slice Aa0 a0.length ca0), (1, .slice Aa1 a1.length ca1), (5, .int .i64 0)]) ⟨rfl, rfl, rfl, trivial⟩ ⟨0, rfl, hS.pick [] [0, 1] rfl, H⟩ ?_
      rintro k F w1 ⟨y1, rfl, hS, H⟩
      cases k with
      | zero => rw [laws_eqInt16S.l1] at H; cases H
      | succ k =>
        rw [laws_eqInt16S.l1] at H
        refine CJ.seq ?_
        refine CJ.seq ?_
        refine CJ.region ?_
        refine OJ.pures tU_ok 4 rfl ?_
        refine OJ.nil (EJ.next ?_)
        refine CJ.cond rfl (fun hb => ?_) (fun hb => ?_)
        · replace H := pif_t (of_decide_eq_true hb) H
          refine CJ.skip (EJ.next ?_)
          refine CJ.seq ?_
          refine CJ.block ?_
          refine CJ.seq ?_
          refine CJ.draw [] [0, 1, 2, 3, 4, 5, 6, 7, 8] mixed (by kernel_rfl) hS fun w1 hS => ?_
          refine DJ.pures tU_ok 2 rfl ?_
          obtain ⟨t2, ht2, H⟩ := pbind H
          obtain ⟨ad2, e2⟩ := (hS.rd' (i := 0) rfl).some' ht2
          refine DJ.st rfl rfl rfl rfl rfl (SR.idxS tU_ok tI_ok rfl rfl rfl rfl e2 rfl (getI_some ht2).1) ?_
          refine DJ.st rfl rfl rfl rfl rfl (SR.load rfl rfl (fun w' hx => ld1 tU_ok rfl rfl (CA.ext ((hS.rd' (i := 0) rfl).at_ e2 ht2) hx) rfl)) ?_
          refine DJ.pures tU_ok 2 rfl ?_
          obtain ⟨t3, ht3, H⟩ := pbind H
          obtain ⟨ad3, e3⟩ := (hS.rd' (i := 1) rfl).some' ht3
          refine DJ.st rfl rfl rfl rfl rfl (SR.idxS tU_ok tI_ok rfl rfl rfl rfl e3 rfl (getI_some ht3).1) ?_
          refine DJ.st rfl rfl rfl rfl rfl (SR.load rfl rfl (fun w' hx => ld1 tU_ok rfl rfl (CA.ext ((hS.rd' (i := 1) rfl).at_ e3 ht3) hx) rfl)) ?_
          refine DJ.pures tU_ok 1 rfl ?_
          refine DJ.nil (EJ.next ?_)
          refine CJ.cond rfl (fun hb => ?_) (fun hb => ?_)
          · replace H := pif_t (of_decide_eq_true hb) H
            refine CJ.seq ?_
            refine CJ.region ?_
            refine OJ.pures tU_ok 1 rfl ?_
            refine OJ.nil (EJ.next ?_)
            refine CJ.ret (EJ.bkR (EJ.skR (EJ.skR (EJ.bkR (EJ.skR (EJ.skR (?_)))))))
            first | (obtain rfl := Option.some.inj H; have H := K13) | (obtain ⟨q13, H2, e13⟩ := pbind H; obtain rfl := Option.some.inj e13; obtain rfl := Option.some.inj K13; have H := H2)
            obtain rfl := Option.some.inj H
            exact EJ.fin rfl (.tmp rfl .nil) ⟨rfl, hS.ext⟩
          · replace H := pif_f (of_decide_eq_false hb) H
            refine CJ.skip (EJ.blk (EJ.next ?_))
            refine CJ.region ?_
            refine OJ.pures tU_ok 3 rfl ?_
            refine OJ.nil ?_
            exact EJ.round k (F' := [(0, .slice Aa0 a0.length ca0), (1, .slice Aa1 a1.length ca1), (5, .int .i64 (IntKind.i64.wrap (y1 + 1)))]) ⟨rfl, rfl, rfl, trivial⟩ (Nat.lt_succ_self _) ⟨(IntKind.i64.wrap (y1 + 1)), rfl, hS.pick [] [0, 1] rfl, H⟩
        · replace H := pif_f (of_decide_eq_false hb) H
          refine CJ.exit (EJ.skE (EJ.skE (EJ.hit (?_))))
          exact EJ.meet (F' := []) trivial ⟨H, rfl, hS.pick [] [0, 1] rfl⟩
    · rintro F w1 ⟨he, rfl, hS⟩
      obtain rfl := Option.some.inj he
      have H := K13
      refine EJ.next ?_
      refine CJ.seq ?_
      refine CJ.region ?_
      refine OJ.pures tU_ok 1 rfl ?_
      refine OJ.nil (EJ.next ?_)
      refine CJ.ret (?_)
      obtain rfl := Option.some.inj H
      exact EJ.fin rfl (.tmp rfl .nil) ⟨rfl, hS.ext⟩

def laws_eqUint16S.l1 (a0 : List Int) (a1 : List Int) : Nat → Int → Option (Bool ⊕ Unit)
  | 0, _ => none
  | k + 1, y1 => if y1 < (a0.length : Int) then ((getI a0 y1).bind fun t2 => (getI a1 y1).bind fun t3 => if t2 ≠ t3 then (some (Sum.inl false)) else (laws_eqUint16S.l1 a0 a1 k (IntKind.i64.wrap (y1 + 1)))) else (some (Sum.inr ()))
def laws_eqUint16S.f (k : Nat) (a0 : List Int) (a1 : List Int) : Option Bool := if (a0.length : Int) ≠ (a1.length : Int) then (some false) else ((laws_eqUint16S.l1 a0 a1 k 0).bind fun s14 => match s14 with | .inl r => some r | .inr _ => some true)
theorem laws_eqUint16S.c (k : Nat) (w : World) (Aa0 : Option Addr) (ca0 : Nat) (a0 : List Int) (hr0 : Rd (ci .u16) w Aa0 a0) (hc0 : a0.length ≤ ca0) (Aa1 : Option Addr) (ca1 : Nat) (a1 : List Int) (hr1 : Rd (ci .u16) w Aa1 a1) (hc1 : a1.length ≤ ca1) (r : Bool) (H : laws_eqUint16S.f k a0 a1 = some r) :
    CV Try.prog 20 [.slice Aa0 a0.length ca0, .slice Aa1 a1.length ca1].toArray w fun v w' => v = .bool r ∧ Ext w w' := by
  have hS := (((St.init w no).param (ci .u16) Aa0 ca0 a0 hr0 hc0).param (ci .u16) Aa1 ca1 a1 hr1 hc1)
  unfold laws_eqUint16S.f at H
  refine CV.body Try.func20 rfl Try.ntmps20 rfl ?_
  refine CJ.seq ?_
  refine CJ.region ?_
  refine OJ.pures tU_ok 1 rfl ?_
  refine OJ.nil (EJ.next ?_)
  refine CJ.seq ?_
  refine CJ.seq ?_
  refine CJ.region ?_
  refine OJ.pures tU_ok 5 rfl ?_
  refine OJ.nil (EJ.next ?_)
  refine CJ.cond rfl (fun hb => ?_) (fun hb => ?_)
  · replace H := pif_t (of_decide_eq_true hb) H
    refine CJ.seq ?_
    refine CJ.region ?_
    refine OJ.pures tU_ok 1 rfl ?_
    refine OJ.nil (EJ.next ?_)
    refine CJ.ret (EJ.skR (?_))
    obtain rfl := Option.some.inj H
    exact EJ.fin rfl (.tmp rfl .nil) ⟨rfl, hS.ext⟩
  · replace H := pif_f (of_decide_eq_false hb) H
    refine CJ.skip (EJ.next ?_)
    refine CJ.seq ?_
    refine CJ.seq ?_
    refine CJ.region ?_
    refine OJ.pures tU_ok 1 rfl ?_
    refine OJ.nil (EJ.next ?_)
    obtain ⟨j14, H, K14⟩ := pbind H
    refine CJ.cut1 (fun F w1 => (some (Sum.inr ()) : Option (Bool ⊕ Unit)) = some j14 ∧ F = [] ∧ St w no w1 [] [roC (ci .u16) Aa0 ca0 a0, roC (ci .u16) Aa1 ca1 a1]) ?_ ?_
    · skip
      refine CJ.block ?_
      refine CJ.loop (fun k F w1 => ∃ (y1 : Int), F = [(0, .slice Aa0 a0.length ca0), (1, .slice Aa1 a1.length ca1), (5, .int .i64 y1)] ∧ St w no w1 [] [roC (ci .u16) Aa0 ca0 a0, roC (ci .u16) Aa1 ca1 a1] ∧ laws_eqUint16S.l1 a0 a1 k y1 = some j14) k (F' := [(0, .slice Aa0 a0.length ca0), (1, .slice Aa1 a1.length ca1), (5, .int .i64 0)]) ⟨rfl, rfl, rfl, trivial⟩ ⟨0, rfl, hS.pick [] [0, 1] rfl, H⟩ ?_
      rintro k F w1 ⟨y1, rfl, hS, H⟩
      cases k with
      | zero => rw [laws_eqUint16S.l1] at H; cases H
      | succ k =>
        rw [laws_eqUint16S.l1] at H
        refine CJ.seq ?_
        refine CJ.seq ?_
        refine CJ.region ?_
        refine OJ.pures tU_ok 4 rfl ?_
        refine OJ.nil (EJ.next ?_)
        refine CJ.cond rfl (fun hb => ?_) (fun hb => ?_)
        · replace H := pif_t (of_decide_eq_true hb) H
          refine CJ.skip (EJ.next ?_)
          refine CJ.seq ?_
          refine CJ.block ?_
          refine CJ.seq ?_
          refine CJ.draw [] [0, 1, 2, 3, 4, 5, 6, 7, 8] mixed (by kernel_rfl) hS fun w1 hS => ?_
          refine DJ.pures tU_ok 2 rfl ?_
          obtain ⟨t2, ht2, H⟩ := pbind H
          obtain ⟨ad2, e2⟩ := (hS.rd' (i := 0) rfl).some' ht2
          refine DJ.st rfl rfl rfl rfl rfl (SR.idxS tU_ok tI_ok rfl rfl rfl rfl e2 rfl (getI_some ht2).1) ?_
          refine DJ.st rfl rfl rfl rfl rfl (SR.load rfl rfl (fun w' hx => ld1 tU_ok rfl rfl (CA.ext ((hS.rd' (i := 0) rfl).at_ e2 ht2) hx) rfl)) ?_
          refine DJ.pures tU_ok 2 rfl ?_
          obtain ⟨t3, ht3, H⟩ := pbind H
          obtain ⟨ad3, e3⟩ := (hS.rd' (i := 1) rfl).some' ht3
          refine DJ.st rfl rfl rfl rfl rfl (SR.idxS tU_ok tI_ok rfl rfl rfl rfl e3 rfl (getI_some ht3).1) ?_
          refine DJ.st rfl rfl rfl rfl rfl (SR.load rfl rfl (fun w' hx => ld1 tU_ok rfl rfl (CA.ext ((hS.rd' (i := 1) rfl).at_ e3 ht3) hx) rfl)) ?_
          refine DJ.pures tU_ok 1 rfl ?_
          refine DJ.nil (EJ.next ?_)
          refine CJ.cond rfl (fun hb => ?_) (fun hb => ?_)
          · replace H := pif_t (of_decide_eq_true hb) H
            refine CJ.seq ?_
            refine CJ.region ?_
            refine OJ.pures tU_ok 1 rfl ?_
            refine OJ.nil (EJ.next ?_)
            refine CJ.ret (EJ.bkR (EJ.skR (EJ.skR (EJ.bkR (EJ.skR (EJ.skR (?_)))))))
            first | (obtain rfl := Option.some.inj H; have H := K14) | (obtain ⟨q14, H2, e14⟩ := pbind H; obtain rfl := Option.some.inj e14; obtain rfl := Option.some.inj K14; have H := H2)
            obtain rfl := Option.some.inj H
            exact EJ.fin rfl (.tmp rfl .nil) ⟨rfl, hS.ext⟩
          · replace H := pif_f (of_decide_eq_false hb) H
            refine CJ.skip (EJ.blk (EJ.next ?_))
            refine CJ.region ?_
            refine OJ.pures tU_ok 3 rfl ?_
            refine OJ.nil ?_
            exact EJ.round k (F' := [(0, .slice Aa0 a0.length ca0), (1, .slice Aa1 a1.length ca1), (5, .int .i64 (IntKind.i64.wrap (y1 + 1)))]) ⟨rfl, rfl, rfl, trivial⟩ (Nat.lt_succ_self _) ⟨(IntKind.i64.wrap (y1 + 1)), rfl, hS.pick [] [0, 1] rfl, H⟩
        · replace H := pif_f (of_decide_eq_false hb) H
          refine CJ.exit (EJ.skE (EJ.skE (EJ.hit (?_))))
          exact EJ.meet (F' := []) trivial ⟨H, rfl, hS.pick [] [0, 1] rfl⟩
    · rintro F w1 ⟨he, rfl, hS⟩
      obtain rfl := Option.some.inj he
      have H := K14
      refine EJ.next ?_
      refine CJ.seq ?_
      refine CJ.region ?_
      refine OJ.pures tU_ok 1 rfl ?_
      refine OJ.nil (EJ.next ?_)
      refine CJ.ret (?_)
      obtain rfl := Option.some.inj H
      exact EJ.fin rfl (.tmp rfl .nil) ⟨rfl, hS.ext⟩

def laws_eqHerd.f (k : Nat) (a0 : Herd) (a1 : Herd) : Option Bool := (laws_eqStringS.f k a0.Names a1.Names).bind fun t3 => if (!t3) = true then (some false) else ((laws_eqInt16S.f k a0.Eats a1.Eats).bind fun t4 => if (!t4) = true then (some false) else ((laws_eqUint16S.f k a0.Foes a1.Foes).bind fun t5 => if (!t5) = true then (some false) else (some true)))
theorem laws_eqHerd.c (k : Nat) (w : World) (Aa0_0 : Option Addr) (ca0_0 : Nat) (Aa0_1 : Option Addr) (ca0_1 : Nat) (Aa0_2 : Option Addr) (ca0_2 : Nat) (a0 : Herd) (hr0_0 : Rd G.cs w Aa0_0 a0.Names) (hc0_0 : a0.Names.length ≤ ca0_0) (hr0_1 : Rd (ci .i16) w Aa0_1 a0.Eats) (hc0_1 : a0.Eats.length ≤ ca0_1) (hr0_2 : Rd (ci .u16) w Aa0_2 a0.Foes) (hc0_2 : a0.Foes.length ≤ ca0_2) (Aa1_0 : Option Addr) (ca1_0 : Nat) (Aa1_1 : Option Addr) (ca1_1 : Nat) (Aa1_2 : Option Addr) (ca1_2 : Nat) (a1 : Herd) (hr1_0 : Rd G.cs w Aa1_0 a1.Names) (hc1_0 : a1.Names.length ≤ ca1_0) (hr1_1 : Rd (ci .i16) w Aa1_1 a1.Eats) (hc1_1 : a1.Eats.length ≤ ca1_1) (hr1_2 : Rd (ci .u16) w Aa1_2 a1.Foes) (hc1_2 : a1.Foes.length ≤ ca1_2) (r : Bool) (H : laws_eqHerd.f k a0 a1 = some r) :
    CV Try.prog 8 [.agg [.slice Aa0_0 a0.Names.length ca0_0, .slice Aa0_1 a0.Eats.length ca0_1, .slice Aa0_2 a0.Foes.length ca0_2].toArray, .agg [.slice Aa1_0 a1.Names.length ca1_0, .slice Aa1_1 a1.Eats.length ca1_1, .slice Aa1_2 a1.Foes.length ca1_2].toArray].toArray w fun v w' => v = .bool r ∧ Ext w w' := by
  have hS := (((((((St.init w no).param G.cs Aa0_0 ca0_0 a0.Names hr0_0 hc0_0).param (ci .i16) Aa0_1 ca0_1 a0.Eats hr0_1 hc0_1).param (ci .u16) Aa0_2 ca0_2 a0.Foes hr0_2 hc0_2).param G.cs Aa1_0 ca1_0 a1.Names hr1_0 hc1_0).param (ci .i16) Aa1_1 ca1_1 a1.Eats hr1_1 hc1_1).param (ci .u16) Aa1_2 ca1_2 a1.Foes hr1_2 hc1_2)
  unfold laws_eqHerd.f at H
  refine CV.body Try.func8 rfl Try.ntmps8 rfl ?_
  refine CJ.seq ?_
  refine CJ.region ?_
  refine OJ.ef rfl rfl rfl (Ef.box hS rfl rfl ([.slice Aa0_0 a0.Names.length ca0_0, .slice Aa0_1 a0.Eats.length ca0_1, .slice Aa0_2 a0.Foes.length ca0_2]) rfl) ?_
  rintro _ w1 ⟨b1, rfl, hS⟩
  refine OJ.ef rfl rfl rfl (Ef.box hS rfl rfl ([.slice Aa1_0 a1.Names.length ca1_0, .slice Aa1_1 a1.Eats.length ca1_1, .slice Aa1_2 a1.Foes.length ca1_2]) rfl) ?_
  rintro _ w1 ⟨b2, rfl, hS⟩
  refine OJ.pures tU_ok 1 rfl ?_
  refine OJ.nil (EJ.next ?_)
  refine CJ.seq ?_
  refine CJ.seq ?_
  refine CJ.region ?_
  refine OJ.st rfl rfl rfl (SR.fieldAddr tU_ok tI_ok rfl rfl rfl rfl rfl rfl) ?_
  refine OJ.st rfl rfl rfl (SR.load rfl rfl (fun w' hx => ld1 tU_ok rfl rfl (CA.ext (CA.sub (hS.cells (i := 0) rfl) 0) hx) rfl)) ?_
  refine OJ.st rfl rfl rfl (SR.fieldAddr tU_ok tI_ok rfl rfl rfl rfl rfl rfl) ?_
  refine OJ.st rfl rfl rfl (SR.load rfl rfl (fun w' hx => ld1 tU_ok rfl rfl (CA.ext (CA.sub (hS.cells (i := 1) rfl) 0) hx) rfl)) ?_
  obtain ⟨t3, ht3, H⟩ := pbind H
  refine OJ.callF rfl rfl rfl rfl rfl hb18 rfl (laws_eqStringS.c k _ Aa0_0 ca0_0 a0.Names (hS.rd' (i := 0) rfl) (hS.le' (i := 0) rfl) Aa1_0 ca1_0 a1.Names (hS.rd' (i := 3) rfl) (hS.le' (i := 3) rfl) _ ht3) ?_
  rintro _ w1 ⟨rfl, hs⟩
  replace hS := hS.grow hs
  refine OJ.pures tU_ok 1 rfl ?_
  refine OJ.nil (EJ.next ?_)
  refine CJ.cond rfl (fun hb => ?_) (fun hb => ?_)
  · replace H := pif_t hb H
    refine CJ.seq ?_
    refine CJ.region ?_
    refine OJ.pures tU_ok 1 rfl ?_
    refine OJ.nil (EJ.next ?_)
    refine CJ.ret (EJ.skR (?_))
    obtain rfl := Option.some.inj H
    exact EJ.fin rfl (.tmp rfl .nil) ⟨rfl, hS.ext⟩
  · replace H := pifb_f hb H
    refine CJ.skip (EJ.next ?_)
    refine CJ.seq ?_
    refine CJ.seq ?_
    refine CJ.region ?_
    refine OJ.st rfl rfl rfl (SR.fieldAddr tU_ok tI_ok rfl rfl rfl rfl rfl rfl) ?_
    refine OJ.st rfl rfl rfl (SR.load rfl rfl (fun w' hx => ld1 tU_ok rfl rfl (CA.ext (CA.sub (hS.cells (i := 0) rfl) 1) hx) rfl)) ?_
    refine OJ.st rfl rfl rfl (SR.fieldAddr tU_ok tI_ok rfl rfl rfl rfl rfl rfl) ?_
    refine OJ.st rfl rfl rfl (SR.load rfl rfl (fun w' hx => ld1 tU_ok rfl rfl (CA.ext (CA.sub (hS.cells (i := 1) rfl) 1) hx) rfl)) ?_
    obtain ⟨t4, ht4, H⟩ := pbind H
    refine OJ.callF rfl rfl rfl rfl rfl hb19 rfl (laws_eqInt16S.c k _ Aa0_1 ca0_1 a0.Eats (hS.rd' (i := 1) rfl) (hS.le' (i := 1) rfl) Aa1_1 ca1_1 a1.Eats (hS.rd' (i := 4) rfl) (hS.le' (i := 4) rfl) _ ht4) ?_
    rintro _ w1 ⟨rfl, hs⟩
    replace hS := hS.grow hs
    refine OJ.pures tU_ok 1 rfl ?_
    refine OJ.nil (EJ.next ?_)
    refine CJ.cond rfl (fun hb => ?_) (fun hb => ?_)
    · replace H := pif_t hb H
      refine CJ.seq ?_
      refine CJ.region ?_
      refine OJ.pures tU_ok 1 rfl ?_
      refine OJ.nil (EJ.next ?_)
      refine CJ.ret (EJ.skR (?_))
      obtain rfl := Option.some.inj H
      exact EJ.fin rfl (.tmp rfl .nil) ⟨rfl, hS.ext⟩
    · replace H := pifb_f hb H
      refine CJ.skip (EJ.next ?_)
      refine CJ.seq ?_
      refine CJ.seq ?_
      refine CJ.region ?_
      refine OJ.st rfl rfl rfl (SR.fieldAddr tU_ok tI_ok rfl rfl rfl rfl rfl rfl) ?_
      refine OJ.st rfl rfl rfl (SR.load rfl rfl (fun w' hx => ld1 tU_ok rfl rfl (CA.ext (CA.sub (hS.cells (i := 0) rfl) 2) hx) rfl)) ?_
      refine OJ.st rfl rfl rfl (SR.fieldAddr tU_ok tI_ok rfl rfl rfl rfl rfl rfl) ?_
      refine OJ.st rfl rfl rfl (SR.load rfl rfl (fun w' hx => ld1 tU_ok rfl rfl (CA.ext (CA.sub (hS.cells (i := 1) rfl) 2) hx) rfl)) ?_
      obtain ⟨t5, ht5, H⟩ := pbind H
      refine OJ.callF rfl rfl rfl rfl rfl hb20 rfl (laws_eqUint16S.c k _ Aa0_2 ca0_2 a0.Foes (hS.rd' (i := 2) rfl) (hS.le' (i := 2) rfl) Aa1_2 ca1_2 a1.Foes (hS.rd' (i := 5) rfl) (hS.le' (i := 5) rfl) _ ht5) ?_
      rintro _ w1 ⟨rfl, hs⟩
      replace hS := hS.grow hs
      refine OJ.pures tU_ok 1 rfl ?_
      refine OJ.nil (EJ.next ?_)
      refine CJ.cond rfl (fun hb => ?_) (fun hb => ?_)
      · replace H := pif_t hb H
        refine CJ.seq ?_
        refine CJ.region ?_
        refine OJ.pures tU_ok 1 rfl ?_
        refine OJ.nil (EJ.next ?_)
        refine CJ.ret (EJ.skR (?_))
        obtain rfl := Option.some.inj H
        exact EJ.fin rfl (.tmp rfl .nil) ⟨rfl, hS.ext⟩
      · replace H := pifb_f hb H
        refine CJ.skip (EJ.next ?_)
        refine CJ.seq ?_
        refine CJ.region ?_
        refine OJ.pures tU_ok 1 rfl ?_
        refine OJ.nil (EJ.next ?_)
        refine CJ.ret (?_)
        obtain rfl := Option.some.inj H
        exact EJ.fin rfl (.tmp rfl .nil) ⟨rfl, hS.ext⟩

def laws_FnExactSameHerd.f (k : Nat) (a0 : Herd) (a1 : Herd) : Option Bool := (laws_szHerd.f k a0 1048576).bind fun t3 => if t3 < 0 then (some true) else ((laws_szHerd.f k a1 t3).bind fun t4 => if t4 < 0 then (some true) else ((laws_toHerd.f k a0).bind fun t5 => (laws_toHerd.f k a1).bind fun t12 => (spec_SameHerd.f k t5 t12).bind fun t19 => (laws_toHerd.f k a0).bind fun t20 => (laws_toHerd.f k a1).bind fun t28 => (impl_SameHerd.f k t20 t28).bind fun t36 => if t36 ≠ t19 then (some false) else ((laws_toHerd.f k a0).bind fun t37 => (laws_eqHerd.f k t20 t37).bind fun t44 => if (!t44) = true then (some false) else ((laws_toHerd.f k a1).bind fun t45 => (laws_eqHerd.f k t28 t45).bind fun t52 => if (!t52) = true then (some false) else (some true)))))
theorem laws_FnExactSameHerd.c (k : Nat) (w : World) (Aa0_0 : Option Addr) (ca0_0 : Nat) (Aa0_1 : Option Addr) (ca0_1 : Nat) (Aa0_2 : Option Addr) (ca0_2 : Nat) (a0 : Herd) (hr0_0 : Rd G.cs w Aa0_0 a0.Names) (hc0_0 : a0.Names.length ≤ ca0_0) (hr0_1 : Rd (ci .i16) w Aa0_1 a0.Eats) (hc0_1 : a0.Eats.length ≤ ca0_1) (hr0_2 : Rd (ci .u16) w Aa0_2 a0.Foes) (hc0_2 : a0.Foes.length ≤ ca0_2) (Aa1_0 : Option Addr) (ca1_0 : Nat) (Aa1_1 : Option Addr) (ca1_1 : Nat) (Aa1_2 : Option Addr) (ca1_2 : Nat) (a1 : Herd) (hr1_0 : Rd G.cs w Aa1_0 a1.Names) (hc1_0 : a1.Names.length ≤ ca1_0) (hr1_1 : Rd (ci .i16) w Aa1_1 a1.Eats) (hc1_1 : a1.Eats.length ≤ ca1_1) (hr1_2 : Rd (ci .u16) w Aa1_2 a1.Foes) (hc1_2 : a1.Foes.length ≤ ca1_2) (r : Bool) (H : laws_FnExactSameHerd.f k a0 a1 = some r) :
    CV Try.prog 3 [.agg [.slice Aa0_0 a0.Names.length ca0_0, .slice Aa0_1 a0.Eats.length ca0_1, .slice Aa0_2 a0.Foes.length ca0_2].toArray, .agg [.slice Aa1_0 a1.Names.length ca1_0, .slice Aa1_1 a1.Eats.length ca1_1, .slice Aa1_2 a1.Foes.length ca1_2].toArray].toArray w fun v w' => v = .bool r ∧ Ext w w' := by
  have hS := (((((((St.init w no).param G.cs Aa0_0 ca0_0 a0.Names hr0_0 hc0_0).param (ci .i16) Aa0_1 ca0_1 a0.Eats hr0_1 hc0_1).param (ci .u16) Aa0_2 ca0_2 a0.Foes hr0_2 hc0_2).param G.cs Aa1_0 ca1_0 a1.Names hr1_0 hc1_0).param (ci .i16) Aa1_1 ca1_1 a1.Eats hr1_1 hc1_1).param (ci .u16) Aa1_2 ca1_2 a1.Foes hr1_2 hc1_2)
  unfold laws_FnExactSameHerd.f at H
  refine CV.body Try.func3 rfl Try.ntmps3 rfl ?_
  refine CJ.seq ?_
  refine CJ.region ?_
  refine OJ.ef rfl rfl rfl (Ef.box hS rfl rfl ([.slice Aa0_0 a0.Names.length ca0_0, .slice Aa0_1 a0.Eats.length ca0_1, .slice Aa0_2 a0.Foes.length ca0_2]) rfl) ?_
  rintro _ w1 ⟨b1, rfl, hS⟩
  refine OJ.ef rfl rfl rfl (Ef.box hS rfl rfl ([.slice Aa1_0 a1.Names.length ca1_0, .slice Aa1_1 a1.Eats.length ca1_1, .slice Aa1_2 a1.Foes.length ca1_2]) rfl) ?_
  rintro _ w1 ⟨b2, rfl, hS⟩
  refine OJ.pures tU_ok 1 rfl ?_
  refine OJ.nil (EJ.next ?_)
  refine CJ.seq ?_
  refine CJ.region ?_
  refine OJ.pures tU_ok 1 rfl ?_
  refine OJ.nil (EJ.next ?_)
  refine CJ.seq ?_
  refine CJ.region ?_
  refine OJ.st rfl rfl rfl (SR.load rfl rfl (fun w' hx => ldN tU_ok tI_ok rfl rfl rfl (CA.ext (hS.cells (i := 0) rfl) hx) (ds := [.slice Aa0_0 a0.Names.length ca0_0, .slice Aa0_1 a0.Eats.length ca0_1, .slice Aa0_2 a0.Foes.length ca0_2]) rfl rfl)) ?_
  refine OJ.pures tU_ok 1 rfl ?_
  obtain ⟨t3, ht3, H⟩ := pbind H
  refine OJ.callF rfl rfl rfl rfl rfl hb4 rfl (laws_szHerd.c k _ Aa0_0 ca0_0 Aa0_1 ca0_1 Aa0_2 ca0_2 a0 (hS.rd' (i := 0) rfl) (hS.le' (i := 0) rfl) (hS.rd' (i := 1) rfl) (hS.le' (i := 1) rfl) (hS.rd' (i := 2) rfl) (hS.le' (i := 2) rfl) 1048576 _ ht3) ?_
  rintro _ w1 ⟨rfl, hs⟩
  replace hS := hS.grow hs
  refine OJ.pures tU_ok 1 rfl ?_
  refine OJ.nil (EJ.next ?_)
  refine CJ.seq ?_
  refine CJ.seq ?_
  refine CJ.region ?_
  refine OJ.pures tU_ok 2 rfl ?_
  refine OJ.nil (EJ.next ?_)
  refine CJ.cond rfl (fun hb => ?_) (fun hb => ?_)
  · replace H := pif_t (of_decide_eq_true hb) H
    refine CJ.seq ?_
    refine CJ.region ?_
    refine OJ.pures tU_ok 1 rfl ?_
    refine OJ.nil (EJ.next ?_)
    refine CJ.ret (EJ.skR (?_))
    obtain rfl := Option.some.inj H
    exact EJ.fin rfl (.tmp rfl .nil) ⟨rfl, hS.ext⟩
  · replace H := pif_f (of_decide_eq_false hb) H
    refine CJ.skip (EJ.next ?_)
    refine CJ.seq ?_
    refine CJ.region ?_
    refine OJ.st rfl rfl rfl (SR.load rfl rfl (fun w' hx => ldN tU_ok tI_ok rfl rfl rfl (CA.ext (hS.cells (i := 1) rfl) hx) (ds := [.slice Aa1_0 a1.Names.length ca1_0, .slice Aa1_1 a1.Eats.length ca1_1, .slice Aa1_2 a1.Foes.length ca1_2]) rfl rfl)) ?_
    refine OJ.pures tU_ok 1 rfl ?_
    obtain ⟨t4, ht4, H⟩ := pbind H
    refine OJ.callF rfl rfl rfl rfl rfl hb4 rfl (laws_szHerd.c k _ Aa1_0 ca1_0 Aa1_1 ca1_1 Aa1_2 ca1_2 a1 (hS.rd' (i := 3) rfl) (hS.le' (i := 3) rfl) (hS.rd' (i := 4) rfl) (hS.le' (i := 4) rfl) (hS.rd' (i := 5) rfl) (hS.le' (i := 5) rfl) t3 _ ht4) ?_
    rintro _ w1 ⟨rfl, hs⟩
    replace hS := hS.grow hs
    refine OJ.pures tU_ok 1 rfl ?_
    refine OJ.nil (EJ.next ?_)
    refine CJ.seq ?_
    refine CJ.seq ?_
    refine CJ.region ?_
    refine OJ.pures tU_ok 2 rfl ?_
    refine OJ.nil (EJ.next ?_)
    refine CJ.cond rfl (fun hb => ?_) (fun hb => ?_)
    · replace H := pif_t (of_decide_eq_true hb) H
      refine CJ.seq ?_
      refine CJ.region ?_
      refine OJ.pures tU_ok 1 rfl ?_
      refine OJ.nil (EJ.next ?_)
      refine CJ.ret (EJ.skR (?_))
      obtain rfl := Option.some.inj H
      exact EJ.fin rfl (.tmp rfl .nil) ⟨rfl, hS.ext⟩
    · replace H := pif_f (of_decide_eq_false hb) H
      refine CJ.skip (EJ.next ?_)
      refine CJ.seq ?_
      refine CJ.draw [] [0, 2, 1, 3, 4, 5] mixed (by kernel_rfl) hS fun w1 hS => ?_
      refine DJ.st rfl rfl rfl rfl rfl (SR.load rfl rfl (fun w' hx => ldN tU_ok tI_ok rfl rfl rfl (CA.ext (hS.cells (i := 0) rfl) hx) (ds := [.slice Aa0_0 a0.Names.length ca0_0, .slice Aa0_1 a0.Eats.length ca0_1, .slice Aa0_2 a0.Foes.length ca0_2]) rfl rfl)) ?_
      refine DJ.st rfl rfl rfl rfl rfl (SR.load rfl rfl (fun w' hx => ldN tU_ok tI_ok rfl rfl rfl (CA.ext (hS.cells (i := 1) rfl) hx) (ds := [.slice Aa1_0 a1.Names.length ca1_0, .slice Aa1_1 a1.Eats.length ca1_1, .slice Aa1_2 a1.Foes.length ca1_2]) rfl rfl)) ?_
      obtain ⟨t5, ht5, H⟩ := pbind H
      refine DJ.callF rfl rfl rfl rfl rfl rfl rfl hb6 rfl (laws_toHerd.c k _ Aa0_0 ca0_0 Aa0_1 ca0_1 Aa0_2 ca0_2 a0 (hS.rd' (i := 0) rfl) (hS.le' (i := 0) rfl) (hS.rd' (i := 1) rfl) (hS.le' (i := 1) rfl) (hS.rd' (i := 2) rfl) (hS.le' (i := 2) rfl) _ ht5) (by rintro v w' ⟨A6, c7, A8, c9, A10, c11, rfl, hs⟩; exact hs.ext) ?_
      rintro _ w1 ⟨A6, c7, A8, c9, A10, c11, rfl, hs⟩
      replace hS := hS.addN hs
      obtain ⟨t12, ht12, H⟩ := pbind H
      refine DJ.callF rfl rfl rfl rfl rfl rfl rfl hb6 rfl (laws_toHerd.c k _ Aa1_0 ca1_0 Aa1_1 ca1_1 Aa1_2 ca1_2 a1 (hS.rd' (i := 3) rfl) (hS.le' (i := 3) rfl) (hS.rd' (i := 4) rfl) (hS.le' (i := 4) rfl) (hS.rd' (i := 5) rfl) (hS.le' (i := 5) rfl) _ ht12) (by rintro v w' ⟨A13, c14, A15, c16, A17, c18, rfl, hs⟩; exact hs.ext) ?_
      rintro _ w1 ⟨A13, c14, A15, c16, A17, c18, rfl, hs⟩
      replace hS := hS.addN hs
      obtain ⟨t19, ht19, H⟩ := pbind H
      refine DJ.callF rfl rfl rfl rfl rfl rfl rfl hb5 rfl (spec_SameHerd.c k _ A6 c7 A8 c9 A10 c11 t5 (hS.rd (i := 2) rfl) (hS.le (i := 2) rfl) (hS.rd (i := 3) rfl) (hS.le (i := 3) rfl) (hS.rd (i := 4) rfl) (hS.le (i := 4) rfl) A13 c14 A15 c16 A17 c18 t12 (hS.rd (i := 5) rfl) (hS.le (i := 5) rfl) (hS.rd (i := 6) rfl) (hS.le (i := 6) rfl) (hS.rd (i := 7) rfl) (hS.le (i := 7) rfl) _ ht19) (by rintro v w' ⟨rfl, hs⟩; exact hs) ?_
      rintro _ w1 ⟨rfl, hs⟩
      replace hS := hS.grow hs
      refine DJ.pures tU_ok 1 rfl ?_
      refine DJ.nil (EJ.next ?_)
      refine CJ.seq ?_
      refine CJ.region ?_
      refine OJ.st rfl rfl rfl (SR.load rfl rfl (fun w' hx => ldN tU_ok tI_ok rfl rfl rfl (CA.ext (hS.cells (i := 0) rfl) hx) (ds := [.slice Aa0_0 a0.Names.length ca0_0, .slice Aa0_1 a0.Eats.length ca0_1, .slice Aa0_2 a0.Foes.length ca0_2]) rfl rfl)) ?_
      obtain ⟨t20, ht20, H⟩ := pbind H
      refine OJ.callF rfl rfl rfl rfl rfl hb6 rfl (laws_toHerd.c k _ Aa0_0 ca0_0 Aa0_1 ca0_1 Aa0_2 ca0_2 a0 (hS.rd' (i := 0) rfl) (hS.le' (i := 0) rfl) (hS.rd' (i := 1) rfl) (hS.le' (i := 1) rfl) (hS.rd' (i := 2) rfl) (hS.le' (i := 2) rfl) _ ht20) ?_
      rintro _ w1 ⟨A21, c22, A23, c24, A25, c26, rfl, hs⟩
      replace hS := hS.addN hs
      refine OJ.ef rfl rfl rfl (Ef.alloc hS tI_ok rfl rfl ([.slice none 0 0, .slice none 0 0, .slice none 0 0]) rfl) ?_
      rintro _ w1 ⟨b27, rfl, hS⟩
      refine OJ.es rfl rfl (Es.store tI_ok hS (i := 11) (vs := [.slice A21 t20.Names.length c22, .slice A23 t20.Eats.length c24, .slice A25 t20.Foes.length c26]) rfl rfl rfl rfl rfl rfl rfl rfl (by intro u hu; simp only [List.mem_cons, List.not_mem_nil, or_false] at hu; rcases hu with rfl | rfl | rfl <;> rfl) (Nat.le_of_ble_eq_true rfl) ([.slice A21 t20.Names.length c22, .slice A23 t20.Eats.length c24, .slice A25 t20.Foes.length c26]) rfl) ?_
      intro w1 hS
      refine OJ.nil (EJ.next ?_)
      refine CJ.seq ?_
      refine CJ.region ?_
      refine OJ.st rfl rfl rfl (SR.load rfl rfl (fun w' hx => ldN tU_ok tI_ok rfl rfl rfl (CA.ext (hS.cells (i := 1) rfl) hx) (ds := [.slice Aa1_0 a1.Names.length ca1_0, .slice Aa1_1 a1.Eats.length ca1_1, .slice Aa1_2 a1.Foes.length ca1_2]) rfl rfl)) ?_
      obtain ⟨t28, ht28, H⟩ := pbind H
      refine OJ.callF rfl rfl rfl rfl rfl hb6 rfl (laws_toHerd.c k _ Aa1_0 ca1_0 Aa1_1 ca1_1 Aa1_2 ca1_2 a1 (hS.rd' (i := 3) rfl) (hS.le' (i := 3) rfl) (hS.rd' (i := 4) rfl) (hS.le' (i := 4) rfl) (hS.rd' (i := 5) rfl) (hS.le' (i := 5) rfl) _ ht28) ?_
      rintro _ w1 ⟨A29, c30, A31, c32, A33, c34, rfl, hs⟩
      replace hS := hS.addN hs
      refine OJ.ef rfl rfl rfl (Ef.alloc hS tI_ok rfl rfl ([.slice none 0 0, .slice none 0 0, .slice none 0 0]) rfl) ?_
      rintro _ w1 ⟨b35, rfl, hS⟩
      refine OJ.es rfl rfl (Es.store tI_ok hS (i := 15) (vs := [.slice A29 t28.Names.length c30, .slice A31 t28.Eats.length c32, .slice A33 t28.Foes.length c34]) rfl rfl rfl rfl rfl rfl rfl rfl (by intro u hu; simp only [List.mem_cons, List.not_mem_nil, or_false] at hu; rcases hu with rfl | rfl | rfl <;> rfl) (Nat.le_of_ble_eq_true rfl) ([.slice A29 t28.Names.length c30, .slice A31 t28.Eats.length c32, .slice A33 t28.Foes.length c34]) rfl) ?_
      intro w1 hS
      refine OJ.nil (EJ.next ?_)
      refine CJ.seq ?_
      refine CJ.region ?_
      refine OJ.st rfl rfl rfl (SR.load rfl rfl (fun w' hx => ldN tU_ok tI_ok rfl rfl rfl (CA.ext (hS.cells (i := 11) rfl) hx) (ds := [.slice A21 t20.Names.length c22, .slice A23 t20.Eats.length c24, .slice A25 t20.Foes.length c26]) rfl rfl)) ?_
      refine OJ.st rfl rfl rfl (SR.load rfl rfl (fun w' hx => ldN tU_ok tI_ok rfl rfl rfl (CA.ext (hS.cells (i := 15) rfl) hx) (ds := [.slice A29 t28.Names.length c30, .slice A31 t28.Eats.length c32, .slice A33 t28.Foes.length c34]) rfl rfl)) ?_
      obtain ⟨t36, ht36, H⟩ := pbind H
      refine OJ.callF rfl rfl rfl rfl rfl hb7 rfl (impl_SameHerd.c k _ A21 c22 A23 c24 A25 c26 t20 (hS.rd (i := 8) rfl) (hS.le (i := 8) rfl) (hS.rd (i := 9) rfl) (hS.le (i := 9) rfl) (hS.rd (i := 10) rfl) (hS.le (i := 10) rfl) A29 c30 A31 c32 A33 c34 t28 (hS.rd (i := 12) rfl) (hS.le (i := 12) rfl) (hS.rd (i := 13) rfl) (hS.le (i := 13) rfl) (hS.rd (i := 14) rfl) (hS.le (i := 14) rfl) _ ht36) ?_
      rintro _ w1 ⟨rfl, hs⟩
      replace hS := hS.grow hs
      refine OJ.pures tU_ok 1 rfl ?_
      refine OJ.nil (EJ.next ?_)
      refine CJ.seq ?_
      refine CJ.seq ?_
      refine CJ.region ?_
      refine OJ.pures tU_ok 2 rfl ?_
      refine OJ.st rfl rfl rfl (SR.neB tU_ok rfl rfl rfl rfl) ?_
      refine OJ.nil (EJ.next ?_)
      refine CJ.cond rfl (fun hb => ?_) (fun hb => ?_)
      · replace H := pif_t (of_decide_eq_true hb) H
        refine CJ.seq ?_
        refine CJ.region ?_
        refine OJ.pures tU_ok 1 rfl ?_
        refine OJ.nil (EJ.next ?_)
        refine CJ.ret (EJ.skR (?_))
        obtain rfl := Option.some.inj H
        exact EJ.fin rfl (.tmp rfl .nil) ⟨rfl, hS.ext⟩
      · replace H := pif_f (of_decide_eq_false hb) H
        refine CJ.skip (EJ.next ?_)
        refine CJ.seq ?_
        refine CJ.seq ?_
        refine CJ.draw [] [0, 1, 2, 3, 4] mixed (by kernel_rfl) hS fun w1 hS => ?_
        refine DJ.st rfl rfl rfl rfl rfl (SR.load rfl rfl (fun w' hx => ldN tU_ok tI_ok rfl rfl rfl (CA.ext (hS.cells (i := 11) rfl) hx) (ds := [.slice A21 t20.Names.length c22, .slice A23 t20.Eats.length c24, .slice A25 t20.Foes.length c26]) rfl rfl)) ?_
        refine DJ.st rfl rfl rfl rfl rfl (SR.load rfl rfl (fun w' hx => ldN tU_ok tI_ok rfl rfl rfl (CA.ext (hS.cells (i := 0) rfl) hx) (ds := [.slice Aa0_0 a0.Names.length ca0_0, .slice Aa0_1 a0.Eats.length ca0_1, .slice Aa0_2 a0.Foes.length ca0_2]) rfl rfl)) ?_
        obtain ⟨t37, ht37, H⟩ := pbind H
        refine DJ.callF rfl rfl rfl rfl rfl rfl rfl hb6 rfl (laws_toHerd.c k _ Aa0_0 ca0_0 Aa0_1 ca0_1 Aa0_2 ca0_2 a0 (hS.rd' (i := 0) rfl) (hS.le' (i := 0) rfl) (hS.rd' (i := 1) rfl) (hS.le' (i := 1) rfl) (hS.rd' (i := 2) rfl) (hS.le' (i := 2) rfl) _ ht37) (by rintro v w' ⟨A38, c39, A40, c41, A42, c43, rfl, hs⟩; exact hs.ext) ?_
        rintro _ w1 ⟨A38, c39, A40, c41, A42, c43, rfl, hs⟩
        replace hS := hS.addN hs
        obtain ⟨t44, ht44, H⟩ := pbind H
        refine DJ.callF rfl rfl rfl rfl rfl rfl rfl hb8 rfl (laws_eqHerd.c k _ A21 c22 A23 c24 A25 c26 t20 (hS.rd (i := 8) rfl) (hS.le (i := 8) rfl) (hS.rd (i := 9) rfl) (hS.le (i := 9) rfl) (hS.rd (i := 10) rfl) (hS.le (i := 10) rfl) A38 c39 A40 c41 A42 c43 t37 (hS.rd (i := 16) rfl) (hS.le (i := 16) rfl) (hS.rd (i := 17) rfl) (hS.le (i := 17) rfl) (hS.rd (i := 18) rfl) (hS.le (i := 18) rfl) _ ht44) (by rintro v w' ⟨rfl, hs⟩; exact hs) ?_
        rintro _ w1 ⟨rfl, hs⟩
        replace hS := hS.grow hs
        refine DJ.pures tU_ok 1 rfl ?_
        refine DJ.nil (EJ.next ?_)
        refine CJ.cond rfl (fun hb => ?_) (fun hb => ?_)
        · replace H := pif_t hb H
          refine CJ.seq ?_
          refine CJ.region ?_
          refine OJ.pures tU_ok 1 rfl ?_
          refine OJ.nil (EJ.next ?_)
          refine CJ.ret (EJ.skR (?_))
          obtain rfl := Option.some.inj H
          exact EJ.fin rfl (.tmp rfl .nil) ⟨rfl, hS.ext⟩
        · replace H := pifb_f hb H
          refine CJ.skip (EJ.next ?_)
          refine CJ.seq ?_
          refine CJ.seq ?_
          refine CJ.draw [] [0, 1, 2, 3, 4] mixed (by kernel_rfl) hS fun w1 hS => ?_
          refine DJ.st rfl rfl rfl rfl rfl (SR.load rfl rfl (fun w' hx => ldN tU_ok tI_ok rfl rfl rfl (CA.ext (hS.cells (i := 15) rfl) hx) (ds := [.slice A29 t28.Names.length c30, .slice A31 t28.Eats.length c32, .slice A33 t28.Foes.length c34]) rfl rfl)) ?_
          refine DJ.st rfl rfl rfl rfl rfl (SR.load rfl rfl (fun w' hx => ldN tU_ok tI_ok rfl rfl rfl (CA.ext (hS.cells (i := 1) rfl) hx) (ds := [.slice Aa1_0 a1.Names.length ca1_0, .slice Aa1_1 a1.Eats.length ca1_1, .slice Aa1_2 a1.Foes.length ca1_2]) rfl rfl)) ?_
          obtain ⟨t45, ht45, H⟩ := pbind H
          refine DJ.callF rfl rfl rfl rfl rfl rfl rfl hb6 rfl (laws_toHerd.c k _ Aa1_0 ca1_0 Aa1_1 ca1_1 Aa1_2 ca1_2 a1 (hS.rd' (i := 3) rfl) (hS.le' (i := 3) rfl) (hS.rd' (i := 4) rfl) (hS.le' (i := 4) rfl) (hS.rd' (i := 5) rfl) (hS.le' (i := 5) rfl) _ ht45) (by rintro v w' ⟨A46, c47, A48, c49, A50, c51, rfl, hs⟩; exact hs.ext) ?_
          rintro _ w1 ⟨A46, c47, A48, c49, A50, c51, rfl, hs⟩
          replace hS := hS.addN hs
          obtain ⟨t52, ht52, H⟩ := pbind H
          refine DJ.callF rfl rfl rfl rfl rfl rfl rfl hb8 rfl (laws_eqHerd.c k _ A29 c30 A31 c32 A33 c34 t28 (hS.rd (i := 12) rfl) (hS.le (i := 12) rfl) (hS.rd (i := 13) rfl) (hS.le (i := 13) rfl) (hS.rd (i := 14) rfl) (hS.le (i := 14) rfl) A46 c47 A48 c49 A50 c51 t45 (hS.rd (i := 19) rfl) (hS.le (i := 19) rfl) (hS.rd (i := 20) rfl) (hS.le (i := 20) rfl) (hS.rd (i := 21) rfl) (hS.le (i := 21) rfl) _ ht52) (by rintro v w' ⟨rfl, hs⟩; exact hs) ?_
          rintro _ w1 ⟨rfl, hs⟩
          replace hS := hS.grow hs
          refine DJ.pures tU_ok 1 rfl ?_
          refine DJ.nil (EJ.next ?_)
          refine CJ.cond rfl (fun hb => ?_) (fun hb => ?_)
          · replace H := pif_t hb H
            refine CJ.seq ?_
            refine CJ.region ?_
            refine OJ.pures tU_ok 1 rfl ?_
            refine OJ.nil (EJ.next ?_)
            refine CJ.ret (EJ.skR (?_))
            obtain rfl := Option.some.inj H
            exact EJ.fin rfl (.tmp rfl .nil) ⟨rfl, hS.ext⟩
          · replace H := pifb_f hb H
            refine CJ.skip (EJ.next ?_)
            refine CJ.seq ?_
            refine CJ.region ?_
            refine OJ.pures tU_ok 1 rfl ?_
            refine OJ.nil (EJ.next ?_)
            refine CJ.ret (?_)
            obtain rfl := Option.some.inj H
            exact EJ.fin rfl (.tmp rfl .nil) ⟨rfl, hS.ext⟩
end Go.Proofs.Ytimpcenflahchaa
