/-
  What the functions come to.
-/
import Derived.Test.YtpaciifeklccfaaGP0
namespace Go.Proofs.Ytpaciifeklccfaa
open G
set_option linter.unusedVariables false
set_option linter.unusedSimpArgs false
set_option maxRecDepth 100000
set_option maxHeartbeats 1000000
def spec_l07Search_from.l1 (self : l07Search → (List Meadow) → (List Int) → Option (List Int × Bool × l07Search)) (a1 : List Meadow) (a2 : List Int) : Nat → l07Search → Int → Option ((List Int × Bool × l07Search) ⊕ l07Search)
  | 0, _, _ => none
  | k + 1, y2, y3 => if y3 < (a1.length : Int) then ((getI a1 y3).bind fun t4 => if (IntKind.i64.wrap t4.Grass) < y2.need then (spec_l07Search_from.l1 self a1 a2 k y2 (IntKind.i64.wrap (y3 + 1))) else (if y2.tries = y2.budget then (some (Sum.inl (a2, false, (⟨y2.need, y2.days, y2.budget, y2.tries, true⟩ : l07Search)))) else ((spec_l07Day.f k a1 y2.need y3).bind fun t5 => (chk (([] : List Int).length + a2.length ≤ 4294967296)).bind fun u9 => (chk ((([] : List Int) ++ a2).length + ([y3] : List Int).length ≤ 4294967296)).bind fun u13 => (self (⟨y2.need, y2.days, y2.budget, IntKind.i64.wrap (y2.tries + 1), y2.over_⟩ : l07Search) t5 ((([] : List Int) ++ a2) ++ ([y3] : List Int))).bind fun t16 => if t16.2.1 = true then (some (Sum.inl (t16.1, t16.2.1, t16.2.2))) else (if t16.2.2.over_ = true then (some (Sum.inl (t16.1, t16.2.1, t16.2.2))) else (spec_l07Search_from.l1 self a1 a2 k t16.2.2 (IntKind.i64.wrap (y3 + 1))))))) else (some (Sum.inr y2))
def spec_l07Search_from.f : Nat → l07Search → (List Meadow) → (List Int) → Option (List Int × Bool × l07Search)
  | 0, _, _, _ => none
  | k + 1, a0, a1, a2 => if (a2.length : Int) = a0.days then (some (a2, true, a0)) else ((spec_l07Search_from.l1 (spec_l07Search_from.f k) a1 a2 k a0 0).bind fun s75 => match s75 with | .inl r => some r | .inr y1 => some (a2, false, y1))
theorem spec_l07Search_from.c : ∀ (k : Nat) (w : World) (ba0 : Nat) (a0 : l07Search) (Aa1 : Option Addr) (ca1 : Nat) (a1 : List Meadow) (Aa2 : Option Addr) (ca2 : Nat) (a2 : List Int) (hin : St w (fpU [box ba0 (cl07Search.enc a0) 174, rowC (ci .i64) Aa2 ca2 2 a2]) w [box ba0 (cl07Search.enc a0) 174, rowC (ci .i64) Aa2 ca2 2 a2] [roC cMeadow Aa1 ca1 a1]) (r : List Int × Bool × l07Search) (H : spec_l07Search_from.f k a0 a1 a2 = some r),
    CV Try.prog 142 [.pointer (some ⟨ba0, 0, none⟩), .slice Aa1 a1.length ca1, .slice Aa2 a2.length ca2].toArray w fun v w' => ∃ (A0 : Option Addr) (c0 : Nat), v = .tuple #[.slice A0 r.1.length c0, .bool r.2.1] ∧ St w (fpU [box ba0 (cl07Search.enc a0) 174, rowC (ci .i64) Aa2 ca2 2 a2]) w' [box ba0 (cl07Search.enc r.2.2) 174, rowC (ci .i64) A0 c0 2 r.1] [] := by
  intro k
  induction k
  · intro w ba0 a0 Aa1 ca1 a1 Aa2 ca2 a2 hin r H; rw [spec_l07Search_from.f] at H; cases H
  rename_i k ih
  intro w ba0 a0 Aa1 ca1 a1 Aa2 ca2 a2 hin r H
  have hS := hin
  rw [spec_l07Search_from.f] at H
  generalize spec_l07Search_from.f k = self at H ih
  refine CV.body Try.func142 rfl Try.ntmps142 rfl ?_
  refine CJ.seq ?_
  refine CJ.region ?_
  refine OJ.pures tU_ok 2 rfl ?_
  refine OJ.nil (EJ.next ?_)
  refine CJ.seq ?_
  refine CJ.seq ?_
  refine CJ.region ?_
  refine OJ.pures tU_ok 4 rfl ?_
  refine OJ.st rfl rfl rfl (SR.fieldAddr tU_ok tI_ok rfl rfl rfl rfl rfl rfl) ?_
  refine OJ.st rfl rfl rfl (SR.load rfl rfl (fun w' hx => ld1 tU_ok rfl rfl (CA.ext (CA.sub (hS.cells (i := 0) rfl) 1) hx) rfl)) ?_
  refine OJ.pures tU_ok 1 rfl ?_
  refine OJ.nil (EJ.next ?_)
  refine CJ.cond rfl (fun hb => ?_) (fun hb => ?_)
  · replace H := pif_t (of_decide_eq_true hb) H
    refine CJ.seq ?_
    refine CJ.region ?_
    refine OJ.pures tU_ok 3 rfl ?_
    refine OJ.nil (EJ.next ?_)
    refine CJ.ret (EJ.skR (?_))
    obtain rfl := Option.some.inj H
    exact EJ.fin rfl (.tmp rfl (.tmp rfl .nil)) ⟨Aa2, ca2, rfl, hS.pick [0, 1] [] rfl⟩
  · replace H := pif_f (of_decide_eq_false hb) H
    refine CJ.skip (EJ.next ?_)
    refine CJ.seq ?_
    refine CJ.seq ?_
    refine CJ.region ?_
    refine OJ.pures tU_ok 1 rfl ?_
    refine OJ.nil (EJ.next ?_)
    obtain ⟨j75, H, K75⟩ := pbind H
    refine CJ.cut1 (fun F w1 => ∃ (y1 : l07Search) , (some (Sum.inr y1) : Option ((List Int × Bool × l07Search) ⊕ l07Search)) = some j75 ∧ F = [(2, .slice Aa2 a2.length ca2)] ∧ St w (fpU [box ba0 (cl07Search.enc a0) 174, rowC (ci .i64) Aa2 ca2 2 a2]) w1 [box ba0 (cl07Search.enc y1) 174, rowC (ci .i64) Aa2 ca2 2 a2] [roC cMeadow Aa1 ca1 a1]) ?_ ?_
    · skip
      refine CJ.block ?_
      refine CJ.loop (fun k F w1 => ∃ (y2 : l07Search) (y3 : Int), F = [(0, .pointer (some ⟨ba0, 0, none⟩)), (1, .slice Aa1 a1.length ca1), (2, .slice Aa2 a2.length ca2), (8, .int .i64 y3)] ∧ St w (fpU [box ba0 (cl07Search.enc a0) 174, rowC (ci .i64) Aa2 ca2 2 a2]) w1 [box ba0 (cl07Search.enc y2) 174, rowC (ci .i64) Aa2 ca2 2 a2] [roC cMeadow Aa1 ca1 a1] ∧ spec_l07Search_from.l1 self a1 a2 k y2 y3 = some j75) k (F' := [(0, .pointer (some ⟨ba0, 0, none⟩)), (1, .slice Aa1 a1.length ca1), (2, .slice Aa2 a2.length ca2), (8, .int .i64 0)]) ⟨rfl, rfl, rfl, rfl, trivial⟩ ⟨a0, 0, rfl, hS.pick [0, 1] [0] rfl, H⟩ ?_
      rintro k F w1 ⟨y2, y3, rfl, hS, H⟩
      cases k with
      | zero => rw [spec_l07Search_from.l1] at H; cases H
      | succ k =>
        rw [spec_l07Search_from.l1] at H
        refine CJ.seq ?_
        refine CJ.seq ?_
        refine CJ.region ?_
        refine OJ.pures tU_ok 4 rfl ?_
        refine OJ.nil (EJ.next ?_)
        refine CJ.cond rfl (fun hb => ?_) (fun hb => ?_)
        · replace H := pif_t (of_decide_eq_true hb) H
          refine CJ.skip (EJ.next ?_)
          refine CJ.seq ?_
          refine CJ.block ?_
          refine CJ.seq ?_
          refine CJ.seq ?_
          refine CJ.draw [] [0, 1, 2, 3, 4, 5, 6, 7, 8, 9, 10] mixed (by kernel_rfl) hS fun w1 hS => ?_
          refine DJ.pures tU_ok 2 rfl ?_
          obtain ⟨t4, ht4, H⟩ := pbind H
          obtain ⟨ad4, e4⟩ := (hS.rd' (i := 0) rfl).some' ht4
          refine DJ.st rfl rfl rfl rfl rfl (SR.idxS tU_ok tI_ok rfl rfl rfl rfl e4 rfl (getI_some ht4).1) ?_
          refine DJ.st rfl rfl rfl rfl rfl (SR.fieldAddr tU_ok tI_ok rfl rfl rfl rfl rfl rfl) ?_
          refine DJ.st rfl rfl rfl rfl rfl (SR.load rfl rfl (fun w' hx => ld1 tU_ok rfl rfl (CA.ext (CA.sub ((hS.rd' (i := 0) rfl).at_ e4 ht4) 0) hx) rfl)) ?_
          refine DJ.pures tU_ok 3 rfl ?_
          refine DJ.st rfl rfl rfl rfl rfl (SR.fieldAddr tU_ok tI_ok rfl rfl rfl rfl rfl rfl) ?_
          refine DJ.st rfl rfl rfl rfl rfl (SR.load rfl rfl (fun w' hx => ld1 tU_ok rfl rfl (CA.ext (CA.sub (hS.cells (i := 0) rfl) 0) hx) rfl)) ?_
          refine DJ.pures tU_ok 1 rfl ?_
          refine DJ.nil (EJ.next ?_)
          refine CJ.cond rfl (fun hb => ?_) (fun hb => ?_)
          · replace H := pif_t (of_decide_eq_true hb) H
            refine CJ.exit (EJ.skE (EJ.hit (EJ.next ?_)))
            refine CJ.region ?_
            refine OJ.pures tU_ok 3 rfl ?_
            refine OJ.nil ?_
            exact EJ.round k (F' := [(0, .pointer (some ⟨ba0, 0, none⟩)), (1, .slice Aa1 a1.length ca1), (2, .slice Aa2 a2.length ca2), (8, .int .i64 (IntKind.i64.wrap (y3 + 1)))]) ⟨rfl, rfl, rfl, rfl, trivial⟩ (Nat.lt_succ_self _) ⟨y2, (IntKind.i64.wrap (y3 + 1)), rfl, hS.pick [0, 1] [0] rfl, H⟩
          · replace H := pif_f (of_decide_eq_false hb) H
            refine CJ.skip (EJ.next ?_)
            refine CJ.seq ?_
            refine CJ.seq ?_
            refine CJ.draw [] [0, 1, 2, 3, 4, 5, 6, 7, 8] mixed (by kernel_rfl) hS fun w1 hS => ?_
            refine DJ.pures tU_ok 2 rfl ?_
            refine DJ.st rfl rfl rfl rfl rfl (SR.fieldAddr tU_ok tI_ok rfl rfl rfl rfl rfl rfl) ?_
            refine DJ.st rfl rfl rfl rfl rfl (SR.load rfl rfl (fun w' hx => ld1 tU_ok rfl rfl (CA.ext (CA.sub (hS.cells (i := 0) rfl) 3) hx) rfl)) ?_
            refine DJ.pures tU_ok 2 rfl ?_
            refine DJ.st rfl rfl rfl rfl rfl (SR.fieldAddr tU_ok tI_ok rfl rfl rfl rfl rfl rfl) ?_
            refine DJ.st rfl rfl rfl rfl rfl (SR.load rfl rfl (fun w' hx => ld1 tU_ok rfl rfl (CA.ext (CA.sub (hS.cells (i := 0) rfl) 2) hx) rfl)) ?_
            refine DJ.pures tU_ok 1 rfl ?_
            refine DJ.nil (EJ.next ?_)
            refine CJ.cond rfl (fun hb => ?_) (fun hb => ?_)
            · replace H := pif_t (of_decide_eq_true hb) H
              refine CJ.seq ?_
              refine CJ.region ?_
              refine OJ.pures tU_ok 2 rfl ?_
              refine OJ.st rfl rfl rfl (SR.fieldAddr tU_ok tI_ok rfl rfl rfl rfl rfl rfl) ?_
              refine OJ.es rfl rfl (Es.store tI_ok hS (i := 0) rfl rfl rfl (ad1 _ _) rfl rfl (vs := cb.enc true) rfl rfl (one1 rfl) (Nat.le_of_ble_eq_true rfl) (cl07Search.enc (⟨y2.need, y2.days, y2.budget, y2.tries, true⟩ : l07Search)) rfl) ?_
              intro w1 hS
              refine OJ.nil (EJ.next ?_)
              refine CJ.seq ?_
              refine CJ.region ?_
              refine OJ.pures tU_ok 3 rfl ?_
              refine OJ.nil (EJ.next ?_)
              refine CJ.ret (EJ.skR (EJ.bkR (EJ.skR (EJ.skR (EJ.bkR (EJ.skR (EJ.skR (?_))))))))
              first | (obtain rfl := Option.some.inj H; have H := K75) | (obtain ⟨q75, H2, e75⟩ := pbind H; obtain rfl := Option.some.inj e75; obtain rfl := Option.some.inj K75; have H := H2)
              obtain rfl := Option.some.inj H
              exact EJ.fin rfl (.tmp rfl (.tmp rfl .nil)) ⟨Aa2, ca2, rfl, hS.pick [0, 1] [] rfl⟩
            · replace H := pif_f (of_decide_eq_false hb) H
              refine CJ.skip (EJ.next ?_)
              refine CJ.seq ?_
              refine CJ.region ?_
              refine OJ.pures tU_ok 2 rfl ?_
              refine OJ.st rfl rfl rfl (SR.fieldAddr tU_ok tI_ok rfl rfl rfl rfl rfl rfl) ?_
              refine OJ.st rfl rfl rfl (SR.load rfl rfl (fun w' hx => ld1 tU_ok rfl rfl (CA.ext (CA.sub (hS.cells (i := 0) rfl) 3) hx) rfl)) ?_
              refine OJ.pures tU_ok 2 rfl ?_
              refine OJ.st rfl rfl rfl (SR.fieldAddr tU_ok tI_ok rfl rfl rfl rfl rfl rfl) ?_
              refine OJ.es rfl rfl (Es.store tI_ok hS (i := 0) rfl rfl rfl (ad1 _ _) rfl rfl (vs := (ci .i64).enc (IntKind.i64.wrap (y2.tries + 1))) rfl rfl (one1 rfl) (Nat.le_of_ble_eq_true rfl) (cl07Search.enc (⟨y2.need, y2.days, y2.budget, IntKind.i64.wrap (y2.tries + 1), y2.over_⟩ : l07Search)) rfl) ?_
              intro w1 hS
              refine OJ.nil (EJ.next ?_)
              refine CJ.seq ?_
              refine CJ.region ?_
              refine OJ.pures tU_ok 4 rfl ?_
              refine OJ.st rfl rfl rfl (SR.fieldAddr tU_ok tI_ok rfl rfl rfl rfl rfl rfl) ?_
              refine OJ.st rfl rfl rfl (SR.load rfl rfl (fun w' hx => ld1 tU_ok rfl rfl (CA.ext (CA.sub (hS.cells (i := 0) rfl) 0) hx) rfl)) ?_
              refine OJ.pures tU_ok 1 rfl ?_
              obtain ⟨t5, ht5, H⟩ := pbind H
              refine OJ.callF rfl rfl rfl rfl rfl hb124 rfl (spec_l07Day.c k _ Aa1 ca1 a1 (hS.rd' (i := 0) rfl) (hS.le' (i := 0) rfl) y2.need y3 _ ht5) ?_
              rintro _ w1 ⟨A6, c7, rfl, hs⟩
              replace hS := hS.addN hs
              refine OJ.ef rfl rfl rfl (Ef.lit tU_ok tI_ok hS (C := (ci .i64)) rfl rfl rfl rfl rfl rfl ([] : List Int) rfl rfl rfl rfl) ?_
              rintro _ w1 ⟨A8, rfl, hS⟩
              refine OJ.pures tU_ok 1 rfl ?_
              obtain ⟨u9, hu9, H⟩ := pbind H
              refine OJ.ew rfl rfl rfl (Ew.append tU_ok tI_ok (C := (ci .i64)) (xs := ([] : List Int)) (ys := a2) hS (i := 3) rfl rfl rfl rfl rfl rfl rfl rfl rfl rfl rfl rfl rfl (hS.rd (i := 1) rfl) (chk_some hu9)) ?_
              rintro _ w1 ⟨A10, c11, rfl, hS⟩
              refine OJ.pures tU_ok 1 rfl ?_
              refine OJ.ef rfl rfl rfl (Ef.lit tU_ok tI_ok hS (C := (ci .i64)) rfl rfl rfl rfl rfl rfl ([y3] : List Int) rfl rfl rfl rfl) ?_
              rintro _ w1 ⟨A12, rfl, hS⟩
              obtain ⟨u13, hu13, H⟩ := pbind H
              refine OJ.ew rfl rfl rfl (Ew.append tU_ok tI_ok (C := (ci .i64)) (xs := (([] : List Int) ++ a2)) (ys := ([y3] : List Int)) hS (i := 3) rfl rfl rfl rfl rfl rfl rfl rfl rfl rfl rfl rfl rfl (hS.rd (i := 4) rfl) (chk_some hu13)) ?_
              rintro _ w1 ⟨A14, c15, rfl, hS⟩
              obtain ⟨t16, ht16, H⟩ := pbind H
              refine OJ.callF rfl rfl rfl rfl rfl hb142 rfl (ih _ ba0 (⟨y2.need, y2.days, y2.budget, IntKind.i64.wrap (y2.tries + 1), y2.over_⟩ : l07Search) A6 c7 t5 A14 c15 ((([] : List Int) ++ a2) ++ ([y3] : List Int)) (((hS.subs [0, 3] [] [2] rfl).rToRo (i := 0) rfl).pick [0, 1] [0] rfl) _ ht16) ?_
              rintro _ w1 ⟨A17, c18, rfl, hs⟩
              replace hS := hS.back' [0] [3] rfl rfl [box ba0 (cl07Search.enc t16.2.2) 174] [rowC (ci .i64) A17 c18 2 t16.1] [] hs ⟨fun _ => Iff.rfl, trivial⟩ (fun _ h => by cases h) (.inr rfl)
              refine OJ.pures tU_ok 5 rfl ?_
              refine OJ.nil (EJ.next ?_)
              refine CJ.seq ?_
              refine CJ.region ?_
              refine OJ.pures tU_ok 2 rfl ?_
              refine OJ.split (t := 75) rfl (fun hb => ?_) (fun hb => ?_)
              · replace H := pif_t hb H
                refine OJ.pures tU_ok 5 rfl ?_
                refine OJ.nil (EJ.next ?_)
                refine CJ.condT rfl ?_
                refine CJ.seq ?_
                refine CJ.region ?_
                refine OJ.pures tU_ok 4 rfl ?_
                refine OJ.nil (EJ.next ?_)
                refine CJ.ret (EJ.bkR (EJ.skR (EJ.skR (EJ.bkR (EJ.skR (EJ.skR (?_)))))))
                first | (obtain rfl := Option.some.inj H; have H := K75) | (obtain ⟨q75, H2, e75⟩ := pbind H; obtain rfl := Option.some.inj e75; obtain rfl := Option.some.inj K75; have H := H2)
                obtain rfl := Option.some.inj H
                exact EJ.fin rfl (.tmp rfl (.tmp rfl .nil)) ⟨A17, c18, rfl, hS.pick [0, 5] [] rfl⟩
              · replace H := pifb_f hb H
                refine OJ.pures tU_ok 2 rfl ?_
                refine OJ.st rfl rfl rfl (SR.fieldAddr tU_ok tI_ok rfl rfl rfl rfl rfl rfl) ?_
                refine OJ.st rfl rfl rfl (SR.load rfl rfl (fun w' hx => ld1 tU_ok rfl rfl (CA.ext (CA.sub (hS.cells (i := 0) rfl) 4) hx) rfl)) ?_
                refine OJ.pures tU_ok 1 rfl ?_
                refine OJ.nil (EJ.next ?_)
                refine CJ.cond rfl (fun hb => ?_) (fun hb => ?_)
                · replace H := pif_t hb H
                  refine CJ.seq ?_
                  refine CJ.region ?_
                  refine OJ.pures tU_ok 4 rfl ?_
                  refine OJ.nil (EJ.next ?_)
                  refine CJ.ret (EJ.bkR (EJ.skR (EJ.skR (EJ.bkR (EJ.skR (EJ.skR (?_)))))))
                  first | (obtain rfl := Option.some.inj H; have H := K75) | (obtain ⟨q75, H2, e75⟩ := pbind H; obtain rfl := Option.some.inj e75; obtain rfl := Option.some.inj K75; have H := H2)
                  obtain rfl := Option.some.inj H
                  exact EJ.fin rfl (.tmp rfl (.tmp rfl .nil)) ⟨A17, c18, rfl, hS.pick [0, 5] [] rfl⟩
                · replace H := pifb_f hb H
                  refine CJ.skip (EJ.blk (EJ.next ?_))
                  refine CJ.region ?_
                  refine OJ.pures tU_ok 3 rfl ?_
                  refine OJ.nil ?_
                  exact EJ.round k (F' := [(0, .pointer (some ⟨ba0, 0, none⟩)), (1, .slice Aa1 a1.length ca1), (2, .slice Aa2 a2.length ca2), (8, .int .i64 (IntKind.i64.wrap (y3 + 1)))]) ⟨rfl, rfl, rfl, rfl, trivial⟩ (Nat.lt_succ_self _) ⟨t16.2.2, (IntKind.i64.wrap (y3 + 1)), rfl, hS.pick [0, 1] [0] rfl, H⟩
        · replace H := pif_f (of_decide_eq_false hb) H
          refine CJ.exit (EJ.skE (EJ.skE (EJ.hit (?_))))
          exact EJ.meet (F' := [(2, .slice Aa2 a2.length ca2)]) ⟨rfl, trivial⟩ ⟨y2, H, rfl, hS.pick [0, 1] [0] rfl⟩
    · rintro F w1 ⟨y1, he, rfl, hS⟩
      obtain rfl := Option.some.inj he
      have H := K75
      refine EJ.next ?_
      refine CJ.seq ?_
      refine CJ.region ?_
      refine OJ.pures tU_ok 3 rfl ?_
      refine OJ.nil (EJ.next ?_)
      refine CJ.ret (?_)
      obtain rfl := Option.some.inj H
      exact EJ.fin rfl (.tmp rfl (.tmp rfl .nil)) ⟨Aa2, ca2, rfl, hS.pick [0, 1] [] rfl⟩

def spec_l07Found.f (k : Nat) (a0 : List Meadow) (a1 : Int) (a2 : Int) (a3 : Int) : Option (List Int × Int × Int) := (spec_l07Search_from.f k (⟨a1, a2, a3, 0, false⟩ : l07Search) a0 ([] : List Int)).bind fun t3 => if t3.2.2.over_ = true then (some (([] : List Int), 0, 7)) else (if (!t3.2.1) = true then (some (([] : List Int), 0, 6)) else (some (t3.1, t3.2.2.tries, 0)))
theorem spec_l07Found.c (k : Nat) (w : World) (Aa0 : Option Addr) (ca0 : Nat) (a0 : List Meadow) (hr0 : Rd cMeadow w Aa0 a0) (hc0 : a0.length ≤ ca0) (a1 : Int) (a2 : Int) (a3 : Int) (r : List Int × Int × Int) (H : spec_l07Found.f k a0 a1 a2 a3 = some r) :
    CV Try.prog 85 [.slice Aa0 a0.length ca0, .int .i64 a1, .int .i64 a2, .int .i64 a3].toArray w fun v w' => ∃ (A0 : Option Addr) (c0 : Nat), v = .tuple #[.slice A0 r.1.length c0, .int .i64 r.2.1, .int .i64 r.2.2] ∧ St w no w' [rowC (ci .i64) A0 c0 2 r.1] [] := by
  have hS := ((St.init w no).param cMeadow Aa0 ca0 a0 hr0 hc0)
  unfold spec_l07Found.f at H
  refine CV.body Try.func85 rfl Try.ntmps85 rfl ?_
  refine CJ.seq ?_
  refine CJ.region ?_
  refine OJ.pures tU_ok 3 rfl ?_
  refine OJ.nil (EJ.next ?_)
  refine CJ.seq ?_
  refine CJ.region ?_
  refine OJ.pures tU_ok 3 rfl ?_
  refine OJ.st rfl rfl rfl (SR.build (C := cl07Search) tU_ok tI_ok rfl rfl rfl (zs := [.int .i64 0, .int .i64 0, .int .i64 0, .int .i64 0, .bool false]) rfl rfl rfl (⟨a1, a2, a3, 0, false⟩ : l07Search) rfl) ?_
  refine OJ.ef rfl rfl rfl (Ef.box hS rfl rfl (cl07Search.enc (⟨a1, a2, a3, 0, false⟩ : l07Search)) rfl) ?_
  rintro _ w1 ⟨b1, rfl, hS⟩
  refine OJ.pures tU_ok 1 rfl ?_
  refine OJ.nil (EJ.next ?_)
  refine CJ.seq ?_
  refine CJ.region ?_
  refine OJ.pures tU_ok 2 rfl ?_
  refine OJ.ef rfl rfl rfl (Ef.lit tU_ok tI_ok hS (C := (ci .i64)) rfl rfl rfl rfl rfl rfl ([] : List Int) rfl rfl rfl rfl) ?_
  rintro _ w1 ⟨A2, rfl, hS⟩
  obtain ⟨t3, ht3, H⟩ := pbind H
  refine OJ.callF rfl rfl rfl rfl rfl hb142 rfl (spec_l07Search_from.c k _ b1 (⟨a1, a2, a3, 0, false⟩ : l07Search) Aa0 ca0 a0 A2 (([] : List Int).length) ([] : List Int) ((hS.subs [0, 1] [0] [] rfl).pick [0, 1] [0] rfl) _ ht3) ?_
  rintro _ w1 ⟨A4, c5, rfl, hs⟩
  replace hS := hS.back' [0] [1] rfl rfl [box b1 (cl07Search.enc t3.2.2) 174] [rowC (ci .i64) A4 c5 2 t3.1] [] hs ⟨fun _ => Iff.rfl, trivial⟩ (fun _ h => by cases h) (.inr rfl)
  refine OJ.pures tU_ok 5 rfl ?_
  refine OJ.nil (EJ.next ?_)
  refine CJ.seq ?_
  refine CJ.block ?_
  refine CJ.seq ?_
  refine CJ.region ?_
  refine OJ.pures tU_ok 2 rfl ?_
  refine OJ.st rfl rfl rfl (SR.fieldAddr tU_ok tI_ok rfl rfl rfl rfl rfl rfl) ?_
  refine OJ.st rfl rfl rfl (SR.load rfl rfl (fun w' hx => ld1 tU_ok rfl rfl (CA.ext (CA.sub (hS.cells (i := 0) rfl) 4) hx) rfl)) ?_
  refine OJ.pures tU_ok 1 rfl ?_
  refine OJ.nil (EJ.next ?_)
  refine CJ.cond rfl (fun hb => ?_) (fun hb => ?_)
  · replace H := pif_t hb H
    refine CJ.seq ?_
    refine CJ.region ?_
    refine OJ.ef rfl rfl rfl (Ef.lit tU_ok tI_ok hS (C := (ci .i64)) rfl rfl rfl rfl rfl rfl ([] : List Int) rfl rfl rfl rfl) ?_
    rintro _ w1 ⟨A6, rfl, hS⟩
    refine OJ.pures tU_ok 3 rfl ?_
    refine OJ.nil (EJ.next ?_)
    refine CJ.ret (EJ.bkR (EJ.skR (?_)))
    obtain rfl := Option.some.inj H
    exact EJ.fin rfl (.tmp rfl (.tmp rfl (.tmp rfl .nil))) ⟨A6, (([] : List Int).length), rfl, hS.pick [3] [] rfl⟩
  · replace H := pifb_f hb H
    refine CJ.seq ?_
    refine CJ.region ?_
    refine OJ.pures tU_ok 3 rfl ?_
    refine OJ.nil (EJ.next ?_)
    refine CJ.cond rfl (fun hb => ?_) (fun hb => ?_)
    · replace H := pif_t hb H
      refine CJ.seq ?_
      refine CJ.region ?_
      refine OJ.ef rfl rfl rfl (Ef.lit tU_ok tI_ok hS (C := (ci .i64)) rfl rfl rfl rfl rfl rfl ([] : List Int) rfl rfl rfl rfl) ?_
      rintro _ w1 ⟨A7, rfl, hS⟩
      refine OJ.pures tU_ok 3 rfl ?_
      refine OJ.nil (EJ.next ?_)
      refine CJ.ret (EJ.bkR (EJ.skR (?_)))
      obtain rfl := Option.some.inj H
      exact EJ.fin rfl (.tmp rfl (.tmp rfl (.tmp rfl .nil))) ⟨A7, (([] : List Int).length), rfl, hS.pick [3] [] rfl⟩
    · replace H := pifb_f hb H
      refine CJ.skip (EJ.blk (EJ.next ?_))
      refine CJ.seq ?_
      refine CJ.draw [] [0, 1, 2, 3, 4, 5, 6, 7] mixed (by kernel_rfl) hS fun w1 hS => ?_
      refine DJ.pures tU_ok 3 rfl ?_
      refine DJ.st rfl rfl rfl rfl rfl (SR.fieldAddr tU_ok tI_ok rfl rfl rfl rfl rfl rfl) ?_
      refine DJ.st rfl rfl rfl rfl rfl (SR.load rfl rfl (fun w' hx => ld1 tU_ok rfl rfl (CA.ext (CA.sub (hS.cells (i := 0) rfl) 3) hx) rfl)) ?_
      refine DJ.pures tU_ok 3 rfl ?_
      refine DJ.nil (EJ.next ?_)
      refine CJ.ret (?_)
      obtain rfl := Option.some.inj H
      exact EJ.fin rfl (.tmp rfl (.tmp rfl (.tmp rfl .nil))) ⟨A4, c5, rfl, hS.pick [2] [] rfl⟩

def spec_GreatestNeed.l1 (a0 : List Meadow) (a1 : Int) (a2 : Int) : Nat → Int → Option ((Int × Int) ⊕ Int)
  | 0, _ => none
  | k + 1, y6 => if y6 < 1000 then ((spec_l07Found.f k a0 (IntKind.i64.wrap (y6 + 1)) a1 a2).bind fun t7 => if t7.2.2 = 7 then (some (Sum.inl (0, 7))) else (if t7.2.2 ≠ 0 then (some (Sum.inr y6)) else (spec_GreatestNeed.l1 a0 a1 a2 k (IntKind.i64.wrap (y6 + 1))))) else (some (Sum.inr y6))
def spec_GreatestNeed.f (k : Nat) (a0 : List Meadow) (a1 : Int) (a2 : Int) : Option (Int × Int) := ((spec_l00In.f a1 1 30).bind fun t2 => if t2 = true then ((spec_l07Budget.f a2).bind fun t3 => some t3) else (some false)).bind fun y1 => (spec_l07Asked.f k a0 1 y1).bind fun t4 => if t4 ≠ 0 then (some (0, t4)) else ((spec_GreatestNeed.l1 a0 a1 a2 k 0).bind fun s71 => match s71 with | .inl r => some r | .inr y5 => if y5 = 0 then (some (0, 6)) else (some (y5, 0)))
theorem spec_GreatestNeed.c (k : Nat) (w : World) (Aa0 : Option Addr) (ca0 : Nat) (a0 : List Meadow) (hr0 : Rd cMeadow w Aa0 a0) (hc0 : a0.length ≤ ca0) (a1 : Int) (a2 : Int) (r : Int × Int) (H : spec_GreatestNeed.f k a0 a1 a2 = some r) :
    CV Try.prog 21 [.slice Aa0 a0.length ca0, .int .i64 a1, .int .i64 a2].toArray w fun v w' => v = .tuple #[.int .i64 r.1, .int .i64 r.2] ∧ Ext w w' := by
  have hS := ((St.init w no).param cMeadow Aa0 ca0 a0 hr0 hc0)
  unfold spec_GreatestNeed.f at H
  refine CV.body Try.func21 rfl Try.ntmps21 rfl ?_
  refine CJ.seq ?_
  refine CJ.region ?_
  refine OJ.pures tU_ok 2 rfl ?_
  refine OJ.nil (EJ.next ?_)
  obtain ⟨j69, H, K69⟩ := pbind H
  refine CJ.cut (fun F w1 => ∃ (y1 : Bool) , (some y1 : Option Bool) = some j69 ∧ F = [(0, .slice Aa0 a0.length ca0), (1, .int .i64 a1), (2, .int .i64 a2), (8, .bool y1)] ∧ St w no w1 [] [roC cMeadow Aa0 ca0 a0]) ?_ ?_
  · skip
    refine CJ.region ?_
    refine OJ.pures tU_ok 1 rfl ?_
    obtain ⟨t2, ht2, H⟩ := pbind H
    refine OJ.callF rfl rfl rfl rfl rfl hb68 rfl (spec_l00In.c _ a1 1 30 _ ht2) ?_
    rintro _ w1 ⟨rfl, hs⟩
    replace hS := hS.grow hs
    refine OJ.pures tU_ok 1 rfl ?_
    refine OJ.split (t := 16) rfl (fun hb => ?_) (fun hb => ?_)
    · replace H := pif_t hb H
      refine OJ.pures tU_ok 1 rfl ?_
      obtain ⟨t3, ht3, H⟩ := pbind H
      refine OJ.callF rfl rfl rfl rfl rfl hb83 rfl (spec_l07Budget.c _ a2 _ ht3) ?_
      rintro _ w1 ⟨rfl, hs⟩
      replace hS := hS.grow hs
      refine OJ.pures tU_ok 2 rfl ?_
      refine OJ.nil ?_
      exact EJ.meet (F' := [(0, .slice Aa0 a0.length ca0), (1, .int .i64 a1), (2, .int .i64 a2), (8, .bool t3)]) ⟨rfl, rfl, rfl, rfl, trivial⟩ ⟨t3, H, rfl, hS.pick [] [0] rfl⟩
    · replace H := pifb_f hb H
      refine OJ.pures tU_ok 4 rfl ?_
      refine OJ.nil ?_
      exact EJ.meet (F' := [(0, .slice Aa0 a0.length ca0), (1, .int .i64 a1), (2, .int .i64 a2), (8, .bool false)]) ⟨rfl, rfl, rfl, rfl, trivial⟩ ⟨false, H, rfl, hS.pick [] [0] rfl⟩
  · rintro F w1 ⟨y1, he, rfl, hS⟩
    obtain rfl := Option.some.inj he
    have H := K69
    refine CJ.seq ?_
    refine CJ.seq ?_
    refine CJ.region ?_
    refine OJ.pures tU_ok 2 rfl ?_
    obtain ⟨t4, ht4, H⟩ := pbind H
    refine OJ.callF rfl rfl rfl rfl rfl hb84 rfl (spec_l07Asked.c k _ Aa0 ca0 a0 (hS.rd' (i := 0) rfl) (hS.le' (i := 0) rfl) 1 y1 _ ht4) ?_
    rintro _ w1 ⟨rfl, hs⟩
    replace hS := hS.grow hs
    refine OJ.pures tU_ok 1 rfl ?_
    refine OJ.nil (EJ.next ?_)
    refine CJ.seq ?_
    refine CJ.region ?_
    refine OJ.pures tU_ok 2 rfl ?_
    refine OJ.nil (EJ.next ?_)
    refine CJ.cond rfl (fun hb => ?_) (fun hb => ?_)
    · replace H := pif_t (of_decide_eq_true hb) H
      refine CJ.seq ?_
      refine CJ.region ?_
      refine OJ.pures tU_ok 3 rfl ?_
      refine OJ.nil (EJ.next ?_)
      refine CJ.ret (EJ.skR (?_))
      obtain rfl := Option.some.inj H
      exact EJ.fin rfl (.tmp rfl (.tmp rfl .nil)) ⟨rfl, hS.ext⟩
    · replace H := pif_f (of_decide_eq_false hb) H
      refine CJ.skip (EJ.next ?_)
      refine CJ.seq ?_
      refine CJ.region ?_
      refine OJ.pures tU_ok 1 rfl ?_
      refine OJ.nil (EJ.next ?_)
      obtain ⟨j71, H, K71⟩ := pbind H
      refine CJ.cut (fun F w1 => ∃ (y5 : Int) , (some (Sum.inr y5) : Option ((Int × Int) ⊕ Int)) = some j71 ∧ F = [(10, .int .i64 y5)] ∧ St w no w1 [] [roC cMeadow Aa0 ca0 a0]) ?_ ?_
      · skip
        refine CJ.block ?_
        refine CJ.loop (fun k F w1 => ∃ (y6 : Int), F = [(0, .slice Aa0 a0.length ca0), (1, .int .i64 a1), (2, .int .i64 a2), (10, .int .i64 y6)] ∧ St w no w1 [] [roC cMeadow Aa0 ca0 a0] ∧ spec_GreatestNeed.l1 a0 a1 a2 k y6 = some j71) k (F' := [(0, .slice Aa0 a0.length ca0), (1, .int .i64 a1), (2, .int .i64 a2), (10, .int .i64 0)]) ⟨rfl, rfl, rfl, rfl, trivial⟩ ⟨0, rfl, hS.pick [] [0] rfl, H⟩ ?_
        rintro k F w1 ⟨y6, rfl, hS, H⟩
        cases k with
        | zero => rw [spec_GreatestNeed.l1] at H; cases H
        | succ k =>
          rw [spec_GreatestNeed.l1] at H
          refine CJ.seq ?_
          refine CJ.seq ?_
          refine CJ.region ?_
          refine OJ.pures tU_ok 2 rfl ?_
          refine OJ.nil (EJ.next ?_)
          refine CJ.cond rfl (fun hb => ?_) (fun hb => ?_)
          · replace H := pif_t (of_decide_eq_true hb) H
            refine CJ.skip (EJ.next ?_)
            refine CJ.block ?_
            refine CJ.seq ?_
            refine CJ.region ?_
            refine OJ.pures tU_ok 5 rfl ?_
            obtain ⟨t7, ht7, H⟩ := pbind H
            refine OJ.callF rfl rfl rfl rfl rfl hb85 rfl (spec_l07Found.c k _ Aa0 ca0 a0 (hS.rd' (i := 0) rfl) (hS.le' (i := 0) rfl) (IntKind.i64.wrap (y6 + 1)) a1 a2 _ ht7) ?_
            rintro _ w1 ⟨A8, c9, rfl, hs⟩
            replace hS := hS.addN hs
            refine OJ.pures tU_ok 7 rfl ?_
            refine OJ.nil (EJ.next ?_)
            refine CJ.seq ?_
            refine CJ.seq ?_
            refine CJ.region ?_
            refine OJ.pures tU_ok 2 rfl ?_
            refine OJ.nil (EJ.next ?_)
            refine CJ.cond rfl (fun hb => ?_) (fun hb => ?_)
            · replace H := pif_t (of_decide_eq_true hb) H
              refine CJ.seq ?_
              refine CJ.region ?_
              refine OJ.pures tU_ok 2 rfl ?_
              refine OJ.nil (EJ.next ?_)
              refine CJ.ret (EJ.skR (EJ.bkR (EJ.skR (EJ.bkR (EJ.skR (?_))))))
              first | (obtain rfl := Option.some.inj H; have H := K71) | (obtain ⟨q71, H2, e71⟩ := pbind H; obtain rfl := Option.some.inj e71; obtain rfl := Option.some.inj K71; have H := H2)
              obtain rfl := Option.some.inj H
              exact EJ.fin rfl (.tmp rfl (.tmp rfl .nil)) ⟨rfl, hS.ext⟩
            · replace H := pif_f (of_decide_eq_false hb) H
              refine CJ.skip (EJ.next ?_)
              refine CJ.seq ?_
              refine CJ.seq ?_
              refine CJ.region ?_
              refine OJ.pures tU_ok 2 rfl ?_
              refine OJ.nil (EJ.next ?_)
              refine CJ.cond rfl (fun hb => ?_) (fun hb => ?_)
              · replace H := pif_t (of_decide_eq_true hb) H
                refine CJ.exit (EJ.skE (EJ.bkE rfl (EJ.skE (EJ.hit (?_)))))
                exact EJ.meet (F' := [(10, .int .i64 y6)]) ⟨rfl, trivial⟩ ⟨y6, H, rfl, hS.pick [] [0] rfl⟩
              · replace H := pif_f (of_decide_eq_false hb) H
                refine CJ.skip (EJ.next ?_)
                refine CJ.region ?_
                refine OJ.pures tU_ok 3 rfl ?_
                refine OJ.nil (EJ.blk (?_))
                exact EJ.round k (F' := [(0, .slice Aa0 a0.length ca0), (1, .int .i64 a1), (2, .int .i64 a2), (10, .int .i64 (IntKind.i64.wrap (y6 + 1)))]) ⟨rfl, rfl, rfl, rfl, trivial⟩ (Nat.lt_succ_self _) ⟨(IntKind.i64.wrap (y6 + 1)), rfl, hS.pick [] [0] rfl, H⟩
          · replace H := pif_f (of_decide_eq_false hb) H
            refine CJ.exit (EJ.skE (EJ.skE (EJ.hit (?_))))
            exact EJ.meet (F' := [(10, .int .i64 y6)]) ⟨rfl, trivial⟩ ⟨y6, H, rfl, hS.pick [] [0] rfl⟩
      · rintro F w1 ⟨y5, he, rfl, hS⟩
        obtain rfl := Option.some.inj he
        have H := K71
        refine CJ.seq ?_
        refine CJ.seq ?_
        refine CJ.region ?_
        refine OJ.pures tU_ok 2 rfl ?_
        refine OJ.nil (EJ.next ?_)
        refine CJ.cond rfl (fun hb => ?_) (fun hb => ?_)
        · replace H := pif_t (of_decide_eq_true hb) H
          refine CJ.seq ?_
          refine CJ.region ?_
          refine OJ.pures tU_ok 2 rfl ?_
          refine OJ.nil (EJ.next ?_)
          refine CJ.ret (EJ.skR (?_))
          obtain rfl := Option.some.inj H
          exact EJ.fin rfl (.tmp rfl (.tmp rfl .nil)) ⟨rfl, hS.ext⟩
        · replace H := pif_f (of_decide_eq_false hb) H
          refine CJ.skip (EJ.next ?_)
          refine CJ.seq ?_
          refine CJ.region ?_
          refine OJ.pures tU_ok 3 rfl ?_
          refine OJ.nil (EJ.next ?_)
          refine CJ.ret (?_)
          obtain rfl := Option.some.inj H
          exact EJ.fin rfl (.tmp rfl (.tmp rfl .nil)) ⟨rfl, hS.ext⟩

def impl_size_impl_Meadow.f (a0 : List Meadow) : Option Int := some (a0.length : Int)
theorem impl_size_impl_Meadow.c (w : World) (Aa0 : Option Addr) (ca0 : Nat) (a0 : List Meadow) (hr0 : Rd cMeadow w Aa0 a0) (hc0 : a0.length ≤ ca0) (r : Int) (H : impl_size_impl_Meadow.f a0 = some r) :
    CV Try.prog 117 [.slice Aa0 a0.length ca0].toArray w fun v w' => v = .int .i64 r ∧ Ext w w' := by
  have hS := ((St.init w no).param cMeadow Aa0 ca0 a0 hr0 hc0)
  unfold impl_size_impl_Meadow.f at H
  refine CV.body Try.func117 rfl Try.ntmps117 rfl ?_
  refine CJ.seq ?_
  refine CJ.region ?_
  refine OJ.pures tU_ok 1 rfl ?_
  refine OJ.nil (EJ.next ?_)
  refine CJ.seq ?_
  refine CJ.region ?_
  refine OJ.pures tU_ok 3 rfl ?_
  refine OJ.nil (EJ.next ?_)
  refine CJ.ret (?_)
  obtain rfl := Option.some.inj H
  exact EJ.fin rfl (.tmp rfl .nil) ⟨rfl, hS.ext⟩

def slices_IndexFunc_impl_Meadow_impl_Meadow.l1 (a0 : List Meadow) (a1 : Meadow → Option Bool) : Nat → Int → Option (Int ⊕ Unit)
  | 0, _ => none
  | k + 1, y1 => if y1 < (a0.length : Int) then ((getI a0 y1).bind fun t2 => (a1 t2).bind fun t3 => if t3 = true then (some (Sum.inl y1)) else (slices_IndexFunc_impl_Meadow_impl_Meadow.l1 a0 a1 k (IntKind.i64.wrap (y1 + 1)))) else (some (Sum.inr ()))
def slices_IndexFunc_impl_Meadow_impl_Meadow.f (k : Nat) (a0 : List Meadow) (a1 : Meadow → Option Bool) : Option Int := (slices_IndexFunc_impl_Meadow_impl_Meadow.l1 a0 a1 k 0).bind fun s76 => match s76 with | .inl r => some r | .inr _ => some (-1)
theorem slices_IndexFunc_impl_Meadow_impl_Meadow.c (k : Nat) (w : World) (Aa0 : Option Addr) (ca0 : Nat) (a0 : List Meadow) (hr0 : Rd cMeadow w Aa0 a0) (hc0 : a0.length ≤ ca0) (na1 : Nat) (fsa1 capa1 : Array Value) (hb1 : hasBody Try.prog na1) (a1 : Meadow → Option Bool) (hf1 : ∀ (z0 : Meadow) (r : Bool), a1 z0 = some r → ∀ w', Chg no w w' → CV Try.prog na1 (fsa1 ++ [.agg (cMeadow.enc z0).toArray].toArray ++ capa1) w' fun v w'' => v = .bool r ∧ Ext w' w'') (r : Int) (H : slices_IndexFunc_impl_Meadow_impl_Meadow.f k a0 a1 = some r) :
    CV Try.prog 159 [.slice Aa0 a0.length ca0, .func (.func na1) fsa1 capa1].toArray w fun v w' => v = .int .i64 r ∧ Ext w w' := by
  have hS := ((St.init w no).param cMeadow Aa0 ca0 a0 hr0 hc0)
  unfold slices_IndexFunc_impl_Meadow_impl_Meadow.f at H
  refine CV.body Try.func159 rfl Try.ntmps159 rfl ?_
  refine CJ.seq ?_
  refine CJ.region ?_
  refine OJ.pures tU_ok 1 rfl ?_
  refine OJ.nil (EJ.next ?_)
  refine CJ.seq ?_
  refine CJ.seq ?_
  refine CJ.region ?_
  refine OJ.pures tU_ok 3 rfl ?_
  refine OJ.nil (EJ.next ?_)
  obtain ⟨j76, H, K76⟩ := pbind H
  refine CJ.cut1 (fun F w1 => (some (Sum.inr ()) : Option (Int ⊕ Unit)) = some j76 ∧ F = [] ∧ St w no w1 [] [roC cMeadow Aa0 ca0 a0]) ?_ ?_
  · skip
    refine CJ.block ?_
    refine CJ.loop (fun k F w1 => ∃ (y1 : Int), F = [(0, .slice Aa0 a0.length ca0), (1, .func (.func na1) fsa1 capa1), (7, .int .i64 (a0.length : Int)), (8, .int .i64 y1)] ∧ St w no w1 [] [roC cMeadow Aa0 ca0 a0] ∧ slices_IndexFunc_impl_Meadow_impl_Meadow.l1 a0 a1 k y1 = some j76) k (F' := [(0, .slice Aa0 a0.length ca0), (1, .func (.func na1) fsa1 capa1), (7, .int .i64 (a0.length : Int)), (8, .int .i64 0)]) ⟨rfl, rfl, rfl, rfl, trivial⟩ ⟨0, rfl, hS.pick [] [0] rfl, H⟩ ?_
    rintro k F w1 ⟨y1, rfl, hS, H⟩
    cases k with
    | zero => rw [slices_IndexFunc_impl_Meadow_impl_Meadow.l1] at H; cases H
    | succ k =>
      rw [slices_IndexFunc_impl_Meadow_impl_Meadow.l1] at H
      refine CJ.seq ?_
      refine CJ.region ?_
      refine OJ.pures tU_ok 1 rfl ?_
      refine OJ.nil (EJ.next ?_)
      refine CJ.seq ?_
      refine CJ.cond rfl (fun hb => ?_) (fun hb => ?_)
      · replace H := pif_t (of_decide_eq_true hb) H
        refine CJ.skip (EJ.next ?_)
        refine CJ.seq ?_
        refine CJ.block ?_
        refine CJ.seq ?_
        refine CJ.region ?_
        refine OJ.pures tU_ok 2 rfl ?_
        refine OJ.nil (EJ.next ?_)
        refine CJ.seq ?_
        refine CJ.region ?_
        refine OJ.pures tU_ok 3 rfl ?_
        obtain ⟨t2, ht2, H⟩ := pbind H
        obtain ⟨ad2, e2⟩ := (hS.rd' (i := 0) rfl).some' ht2
        refine OJ.st rfl rfl rfl (SR.idxS tU_ok tI_ok rfl rfl rfl rfl e2 rfl (getI_some ht2).1) ?_
        refine OJ.st rfl rfl rfl (SR.load rfl rfl (fun w' hx => ldE tU_ok tI_ok rfl rfl rfl (CA.ext ((hS.rd' (i := 0) rfl).at_ e2 ht2) hx) rfl)) ?_
        obtain ⟨t3, ht3, H⟩ := pbind H
        refine OJ.call rfl rfl (Nat.le_of_ble_eq_true rfl) rfl rfl rfl hb1 rfl (hf1 t2 _ ht3 _ hS.chg) ?_
        rintro _ w1 ⟨rfl, hs⟩
        replace hS := hS.grow hs
        refine OJ.nil (EJ.next ?_)
        refine CJ.cond rfl (fun hb => ?_) (fun hb => ?_)
        · replace H := pif_t hb H
          refine CJ.seq ?_
          refine CJ.region ?_
          refine OJ.pures tU_ok 2 rfl ?_
          refine OJ.nil (EJ.next ?_)
          refine CJ.ret (EJ.bkR (EJ.skR (EJ.skR (EJ.bkR (EJ.skR (EJ.skR (?_)))))))
          first | (obtain rfl := Option.some.inj H; have H := K76) | (obtain ⟨q76, H2, e76⟩ := pbind H; obtain rfl := Option.some.inj e76; obtain rfl := Option.some.inj K76; have H := H2)
          obtain rfl := Option.some.inj H
          exact EJ.fin rfl (.tmp rfl .nil) ⟨rfl, hS.ext⟩
        · replace H := pifb_f hb H
          refine CJ.skip (EJ.blk (EJ.next ?_))
          refine CJ.region ?_
          refine OJ.pures tU_ok 2 rfl ?_
          refine OJ.nil ?_
          exact EJ.round k (F' := [(0, .slice Aa0 a0.length ca0), (1, .func (.func na1) fsa1 capa1), (7, .int .i64 (a0.length : Int)), (8, .int .i64 (IntKind.i64.wrap (y1 + 1)))]) ⟨rfl, rfl, rfl, rfl, trivial⟩ (Nat.lt_succ_self _) ⟨(IntKind.i64.wrap (y1 + 1)), rfl, hS.pick [] [0] rfl, H⟩
      · replace H := pif_f (of_decide_eq_false hb) H
        refine CJ.exit (EJ.skE (EJ.skE (EJ.hit (?_))))
        exact EJ.meet (F' := []) trivial ⟨H, rfl, hS.pick [] [0] rfl⟩
  · rintro F w1 ⟨he, rfl, hS⟩
    obtain rfl := Option.some.inj he
    have H := K76
    refine EJ.next ?_
    refine CJ.seq ?_
    refine CJ.region ?_
    refine OJ.pures tU_ok 1 rfl ?_
    refine OJ.nil (EJ.next ?_)
    refine CJ.ret (?_)
    obtain rfl := Option.some.inj H
    exact EJ.fin rfl (.tmp rfl .nil) ⟨rfl, hS.ext⟩

def slices_ContainsFunc_impl_Meadow_impl_Meadow.f (k : Nat) (a0 : List Meadow) (a1 : Meadow → Option Bool) : Option Bool := (slices_IndexFunc_impl_Meadow_impl_Meadow.f k a0 a1).bind fun t1 => some (decide (0 ≤ t1))
theorem slices_ContainsFunc_impl_Meadow_impl_Meadow.c (k : Nat) (w : World) (Aa0 : Option Addr) (ca0 : Nat) (a0 : List Meadow) (hr0 : Rd cMeadow w Aa0 a0) (hc0 : a0.length ≤ ca0) (na1 : Nat) (fsa1 capa1 : Array Value) (hb1 : hasBody Try.prog na1) (a1 : Meadow → Option Bool) (hf1 : ∀ (z0 : Meadow) (r : Bool), a1 z0 = some r → ∀ w', Chg no w w' → CV Try.prog na1 (fsa1 ++ [.agg (cMeadow.enc z0).toArray].toArray ++ capa1) w' fun v w'' => v = .bool r ∧ Ext w' w'') (r : Bool) (H : slices_ContainsFunc_impl_Meadow_impl_Meadow.f k a0 a1 = some r) :
    CV Try.prog 118 [.slice Aa0 a0.length ca0, .func (.func na1) fsa1 capa1].toArray w fun v w' => v = .bool r ∧ Ext w w' := by
  have hS := ((St.init w no).param cMeadow Aa0 ca0 a0 hr0 hc0)
  unfold slices_ContainsFunc_impl_Meadow_impl_Meadow.f at H
  refine CV.body Try.func118 rfl Try.ntmps118 rfl ?_
  refine CJ.seq ?_
  refine CJ.region ?_
  refine OJ.pures tU_ok 1 rfl ?_
  refine OJ.nil (EJ.next ?_)
  refine CJ.seq ?_
  refine CJ.region ?_
  refine OJ.pures tU_ok 2 rfl ?_
  obtain ⟨t1, ht1, H⟩ := pbind H
  refine OJ.callF rfl rfl rfl rfl rfl hb159 rfl (slices_IndexFunc_impl_Meadow_impl_Meadow.c k _ Aa0 ca0 a0 (hS.rd' (i := 0) rfl) (hS.le' (i := 0) rfl) na1 fsa1 capa1 hb1 a1 (fun z0 r h w' hx => hf1 z0 r h w' (hS.chg.then hx (fun _ _ e => e.elim))) _ ht1) ?_
  rintro _ w1 ⟨rfl, hs⟩
  replace hS := hS.grow hs
  refine OJ.pures tU_ok 2 rfl ?_
  refine OJ.nil (EJ.next ?_)
  refine CJ.ret (?_)
  obtain rfl := Option.some.inj H
  exact EJ.fin rfl (.tmp rfl .nil) ⟨rfl, hS.ext⟩

def impl_ValidMeadows_1.f (a0 : Meadow) : Option Bool := (impl_within.f (IntKind.i64.wrap a0.Most) 0 1000).bind fun t2 => if (!t2) = true then (some true) else ((impl_within.f (IntKind.i64.wrap a0.Grass) 0 (IntKind.i64.wrap a0.Most)).bind fun t3 => if (!t3) = true then (some true) else ((impl_within.f (IntKind.i64.wrap a0.Grows) 0 (IntKind.i64.wrap a0.Most)).bind fun t4 => some (!t4)))
theorem impl_ValidMeadows_1.c (w : World) (a0 : Meadow) (r : Bool) (H : impl_ValidMeadows_1.f a0 = some r) :
    CV Try.prog 119 [.agg (cMeadow.enc a0).toArray].toArray w fun v w' => v = .bool r ∧ Ext w w' := by
  have hS := (St.init w no)
  unfold impl_ValidMeadows_1.f at H
  refine CV.body Try.func119 rfl Try.ntmps119 rfl ?_
  refine CJ.seq ?_
  refine CJ.region ?_
  refine OJ.ef rfl rfl rfl (Ef.box hS rfl rfl (cMeadow.enc a0) rfl) ?_
  rintro _ w1 ⟨b1, rfl, hS⟩
  refine OJ.pures tU_ok 1 rfl ?_
  refine OJ.nil (EJ.next ?_)
  refine CJ.seq ?_
  refine CJ.region ?_
  refine OJ.st rfl rfl rfl (SR.fieldAddr tU_ok tI_ok rfl rfl rfl rfl rfl rfl) ?_
  refine OJ.st rfl rfl rfl (SR.load rfl rfl (fun w' hx => ld1 tU_ok rfl rfl (CA.ext (CA.sub (hS.cells (i := 0) rfl) 2) hx) rfl)) ?_
  refine OJ.pures tU_ok 1 rfl ?_
  obtain ⟨t2, ht2, H⟩ := pbind H
  refine OJ.callF rfl rfl rfl rfl rfl hb74 rfl (impl_within.c _ (IntKind.i64.wrap a0.Most) 0 1000 _ ht2) ?_
  rintro _ w1 ⟨rfl, hs⟩
  replace hS := hS.grow hs
  refine OJ.pures tU_ok 2 rfl ?_
  refine OJ.split (t := 8) rfl (fun hb => ?_) (fun hb => ?_)
  · replace H := pif_t hb H
    refine OJ.pures tU_ok 20 rfl ?_
    refine OJ.nil (EJ.next ?_)
    refine CJ.ret (?_)
    obtain rfl := Option.some.inj H
    exact EJ.fin rfl (.tmp rfl .nil) ⟨rfl, hS.ext⟩
  · replace H := pifb_f hb H
    refine OJ.st rfl rfl rfl (SR.fieldAddr tU_ok tI_ok rfl rfl rfl rfl rfl rfl) ?_
    refine OJ.st rfl rfl rfl (SR.load rfl rfl (fun w' hx => ld1 tU_ok rfl rfl (CA.ext (CA.sub (hS.cells (i := 0) rfl) 0) hx) rfl)) ?_
    refine OJ.pures tU_ok 1 rfl ?_
    refine OJ.st rfl rfl rfl (SR.fieldAddr tU_ok tI_ok rfl rfl rfl rfl rfl rfl) ?_
    refine OJ.st rfl rfl rfl (SR.load rfl rfl (fun w' hx => ld1 tU_ok rfl rfl (CA.ext (CA.sub (hS.cells (i := 0) rfl) 2) hx) rfl)) ?_
    refine OJ.pures tU_ok 1 rfl ?_
    obtain ⟨t3, ht3, H⟩ := pbind H
    refine OJ.callF rfl rfl rfl rfl rfl hb74 rfl (impl_within.c _ (IntKind.i64.wrap a0.Grass) 0 (IntKind.i64.wrap a0.Most) _ ht3) ?_
    rintro _ w1 ⟨rfl, hs⟩
    replace hS := hS.grow hs
    refine OJ.pures tU_ok 3 rfl ?_
    refine OJ.split (t := 18) rfl (fun hb => ?_) (fun hb => ?_)
    · replace H := pif_t hb H
      refine OJ.pures tU_ok 10 rfl ?_
      refine OJ.nil (EJ.next ?_)
      refine CJ.ret (?_)
      obtain rfl := Option.some.inj H
      exact EJ.fin rfl (.tmp rfl .nil) ⟨rfl, hS.ext⟩
    · replace H := pifb_f hb H
      refine OJ.st rfl rfl rfl (SR.fieldAddr tU_ok tI_ok rfl rfl rfl rfl rfl rfl) ?_
      refine OJ.st rfl rfl rfl (SR.load rfl rfl (fun w' hx => ld1 tU_ok rfl rfl (CA.ext (CA.sub (hS.cells (i := 0) rfl) 1) hx) rfl)) ?_
      refine OJ.pures tU_ok 1 rfl ?_
      refine OJ.st rfl rfl rfl (SR.fieldAddr tU_ok tI_ok rfl rfl rfl rfl rfl rfl) ?_
      refine OJ.st rfl rfl rfl (SR.load rfl rfl (fun w' hx => ld1 tU_ok rfl rfl (CA.ext (CA.sub (hS.cells (i := 0) rfl) 2) hx) rfl)) ?_
      refine OJ.pures tU_ok 1 rfl ?_
      obtain ⟨t4, ht4, H⟩ := pbind H
      refine OJ.callF rfl rfl rfl rfl rfl hb74 rfl (impl_within.c _ (IntKind.i64.wrap a0.Grows) 0 (IntKind.i64.wrap a0.Most) _ ht4) ?_
      rintro _ w1 ⟨rfl, hs⟩
      replace hS := hS.grow hs
      refine OJ.pures tU_ok 3 rfl ?_
      refine OJ.nil (EJ.next ?_)
      refine CJ.ret (?_)
      obtain rfl := Option.some.inj H
      exact EJ.fin rfl (.tmp rfl .nil) ⟨rfl, hS.ext⟩

def impl_ValidMeadows.f (k : Nat) (a0 : List Meadow) : Option Bool := (impl_size_impl_Meadow.f a0).bind fun t1 => (impl_within.f t1 1 6).bind fun t2 => if t2 = true then ((slices_ContainsFunc_impl_Meadow_impl_Meadow.f k a0 impl_ValidMeadows_1.f).bind fun t3 => some (!t3)) else (some false)
theorem impl_ValidMeadows.c (k : Nat) (w : World) (Aa0 : Option Addr) (ca0 : Nat) (a0 : List Meadow) (hr0 : Rd cMeadow w Aa0 a0) (hc0 : a0.length ≤ ca0) (r : Bool) (H : impl_ValidMeadows.f k a0 = some r) :
    CV Try.prog 51 [.slice Aa0 a0.length ca0].toArray w fun v w' => v = .bool r ∧ Ext w w' := by
  have hS := ((St.init w no).param cMeadow Aa0 ca0 a0 hr0 hc0)
  unfold impl_ValidMeadows.f at H
  refine CV.body Try.func51 rfl Try.ntmps51 rfl ?_
  refine CJ.seq ?_
  refine CJ.region ?_
  refine OJ.pures tU_ok 1 rfl ?_
  refine OJ.nil (EJ.next ?_)
  refine CJ.seq ?_
  refine CJ.region ?_
  refine OJ.pures tU_ok 1 rfl ?_
  obtain ⟨t1, ht1, H⟩ := pbind H
  refine OJ.callF rfl rfl rfl rfl rfl hb117 rfl (impl_size_impl_Meadow.c _ Aa0 ca0 a0 (hS.rd' (i := 0) rfl) (hS.le' (i := 0) rfl) _ ht1) ?_
  rintro _ w1 ⟨rfl, hs⟩
  replace hS := hS.grow hs
  obtain ⟨t2, ht2, H⟩ := pbind H
  refine OJ.callF rfl rfl rfl rfl rfl hb74 rfl (impl_within.c _ t1 1 6 _ ht2) ?_
  rintro _ w1 ⟨rfl, hs⟩
  replace hS := hS.grow hs
  refine OJ.pures tU_ok 1 rfl ?_
  refine OJ.split (t := 6) rfl (fun hb => ?_) (fun hb => ?_)
  · replace H := pif_t hb H
    refine OJ.pures tU_ok 1 rfl ?_
    obtain ⟨t3, ht3, H⟩ := pbind H
    refine OJ.callF rfl rfl rfl rfl rfl hb118 rfl (slices_ContainsFunc_impl_Meadow_impl_Meadow.c k _ Aa0 ca0 a0 (hS.rd' (i := 0) rfl) (hS.le' (i := 0) rfl) 119 #[] #[] hb119 impl_ValidMeadows_1.f (fun z0 r h w' hx => CV.cast (impl_ValidMeadows_1.c w'   z0 r h) (by simp)) _ ht3) ?_
    rintro _ w1 ⟨rfl, hs⟩
    replace hS := hS.grow hs
    refine OJ.pures tU_ok 3 rfl ?_
    refine OJ.nil (EJ.next ?_)
    refine CJ.ret (?_)
    obtain rfl := Option.some.inj H
    exact EJ.fin rfl (.tmp rfl .nil) ⟨rfl, hS.ext⟩
  · replace H := pifb_f hb H
    refine OJ.pures tU_ok 5 rfl ?_
    refine OJ.nil (EJ.next ?_)
    refine CJ.ret (?_)
    obtain rfl := Option.some.inj H
    exact EJ.fin rfl (.tmp rfl .nil) ⟨rfl, hS.ext⟩

def slices_IndexFunc_int64_int64.l1 (a0 : List Int) (a1 : Int → Option Bool) : Nat → Int → Option (Int ⊕ Unit)
  | 0, _ => none
  | k + 1, y1 => if y1 < (a0.length : Int) then ((getI a0 y1).bind fun t2 => (a1 t2).bind fun t3 => if t3 = true then (some (Sum.inl y1)) else (slices_IndexFunc_int64_int64.l1 a0 a1 k (IntKind.i64.wrap (y1 + 1)))) else (some (Sum.inr ()))
def slices_IndexFunc_int64_int64.f (k : Nat) (a0 : List Int) (a1 : Int → Option Bool) : Option Int := (slices_IndexFunc_int64_int64.l1 a0 a1 k 0).bind fun s77 => match s77 with | .inl r => some r | .inr _ => some (-1)
theorem slices_IndexFunc_int64_int64.c (k : Nat) (w : World) (Aa0 : Option Addr) (ca0 : Nat) (a0 : List Int) (hr0 : Rd (ci .i64) w Aa0 a0) (hc0 : a0.length ≤ ca0) (na1 : Nat) (fsa1 capa1 : Array Value) (hb1 : hasBody Try.prog na1) (a1 : Int → Option Bool) (hf1 : ∀ (z0 : Int) (r : Bool), a1 z0 = some r → ∀ w', Chg no w w' → CV Try.prog na1 (fsa1 ++ [.int .i64 z0].toArray ++ capa1) w' fun v w'' => v = .bool r ∧ Ext w' w'') (r : Int) (H : slices_IndexFunc_int64_int64.f k a0 a1 = some r) :
    CV Try.prog 175 [.slice Aa0 a0.length ca0, .func (.func na1) fsa1 capa1].toArray w fun v w' => v = .int .i64 r ∧ Ext w w' := by
  have hS := ((St.init w no).param (ci .i64) Aa0 ca0 a0 hr0 hc0)
  unfold slices_IndexFunc_int64_int64.f at H
  refine CV.body Try.func175 rfl Try.ntmps175 rfl ?_
  refine CJ.seq ?_
  refine CJ.region ?_
  refine OJ.pures tU_ok 1 rfl ?_
  refine OJ.nil (EJ.next ?_)
  refine CJ.seq ?_
  refine CJ.seq ?_
  refine CJ.region ?_
  refine OJ.pures tU_ok 3 rfl ?_
  refine OJ.nil (EJ.next ?_)
  obtain ⟨j77, H, K77⟩ := pbind H
  refine CJ.cut1 (fun F w1 => (some (Sum.inr ()) : Option (Int ⊕ Unit)) = some j77 ∧ F = [] ∧ St w no w1 [] [roC (ci .i64) Aa0 ca0 a0]) ?_ ?_
  · skip
    refine CJ.block ?_
    refine CJ.loop (fun k F w1 => ∃ (y1 : Int), F = [(0, .slice Aa0 a0.length ca0), (1, .func (.func na1) fsa1 capa1), (7, .int .i64 (a0.length : Int)), (8, .int .i64 y1)] ∧ St w no w1 [] [roC (ci .i64) Aa0 ca0 a0] ∧ slices_IndexFunc_int64_int64.l1 a0 a1 k y1 = some j77) k (F' := [(0, .slice Aa0 a0.length ca0), (1, .func (.func na1) fsa1 capa1), (7, .int .i64 (a0.length : Int)), (8, .int .i64 0)]) ⟨rfl, rfl, rfl, rfl, trivial⟩ ⟨0, rfl, hS.pick [] [0] rfl, H⟩ ?_
    rintro k F w1 ⟨y1, rfl, hS, H⟩
    cases k with
    | zero => rw [slices_IndexFunc_int64_int64.l1] at H; cases H
    | succ k =>
      rw [slices_IndexFunc_int64_int64.l1] at H
      refine CJ.seq ?_
      refine CJ.region ?_
      refine OJ.pures tU_ok 1 rfl ?_
      refine OJ.nil (EJ.next ?_)
      refine CJ.seq ?_
      refine CJ.cond rfl (fun hb => ?_) (fun hb => ?_)
      · replace H := pif_t (of_decide_eq_true hb) H
        refine CJ.skip (EJ.next ?_)
        refine CJ.seq ?_
        refine CJ.block ?_
        refine CJ.seq ?_
        refine CJ.region ?_
        refine OJ.pures tU_ok 2 rfl ?_
        refine OJ.nil (EJ.next ?_)
        refine CJ.seq ?_
        refine CJ.region ?_
        refine OJ.pures tU_ok 3 rfl ?_
        obtain ⟨t2, ht2, H⟩ := pbind H
        obtain ⟨ad2, e2⟩ := (hS.rd' (i := 0) rfl).some' ht2
        refine OJ.st rfl rfl rfl (SR.idxS tU_ok tI_ok rfl rfl rfl rfl e2 rfl (getI_some ht2).1) ?_
        refine OJ.st rfl rfl rfl (SR.load rfl rfl (fun w' hx => ld1 tU_ok rfl rfl (CA.ext ((hS.rd' (i := 0) rfl).at_ e2 ht2) hx) rfl)) ?_
        obtain ⟨t3, ht3, H⟩ := pbind H
        refine OJ.call rfl rfl (Nat.le_of_ble_eq_true rfl) rfl rfl rfl hb1 rfl (hf1 t2 _ ht3 _ hS.chg) ?_
        rintro _ w1 ⟨rfl, hs⟩
        replace hS := hS.grow hs
        refine OJ.nil (EJ.next ?_)
        refine CJ.cond rfl (fun hb => ?_) (fun hb => ?_)
        · replace H := pif_t hb H
          refine CJ.seq ?_
          refine CJ.region ?_
          refine OJ.pures tU_ok 2 rfl ?_
          refine OJ.nil (EJ.next ?_)
          refine CJ.ret (EJ.bkR (EJ.skR (EJ.skR (EJ.bkR (EJ.skR (EJ.skR (?_)))))))
          first | (obtain rfl := Option.some.inj H; have H := K77) | (obtain ⟨q77, H2, e77⟩ := pbind H; obtain rfl := Option.some.inj e77; obtain rfl := Option.some.inj K77; have H := H2)
          obtain rfl := Option.some.inj H
          exact EJ.fin rfl (.tmp rfl .nil) ⟨rfl, hS.ext⟩
        · replace H := pifb_f hb H
          refine CJ.skip (EJ.blk (EJ.next ?_))
          refine CJ.region ?_
          refine OJ.pures tU_ok 2 rfl ?_
          refine OJ.nil ?_
          exact EJ.round k (F' := [(0, .slice Aa0 a0.length ca0), (1, .func (.func na1) fsa1 capa1), (7, .int .i64 (a0.length : Int)), (8, .int .i64 (IntKind.i64.wrap (y1 + 1)))]) ⟨rfl, rfl, rfl, rfl, trivial⟩ (Nat.lt_succ_self _) ⟨(IntKind.i64.wrap (y1 + 1)), rfl, hS.pick [] [0] rfl, H⟩
      · replace H := pif_f (of_decide_eq_false hb) H
        refine CJ.exit (EJ.skE (EJ.skE (EJ.hit (?_))))
        exact EJ.meet (F' := []) trivial ⟨H, rfl, hS.pick [] [0] rfl⟩
  · rintro F w1 ⟨he, rfl, hS⟩
    obtain rfl := Option.some.inj he
    have H := K77
    refine EJ.next ?_
    refine CJ.seq ?_
    refine CJ.region ?_
    refine OJ.pures tU_ok 1 rfl ?_
    refine OJ.nil (EJ.next ?_)
    refine CJ.ret (?_)
    obtain rfl := Option.some.inj H
    exact EJ.fin rfl (.tmp rfl .nil) ⟨rfl, hS.ext⟩

def slices_ContainsFunc_int64_int64.f (k : Nat) (a0 : List Int) (a1 : Int → Option Bool) : Option Bool := (slices_IndexFunc_int64_int64.f k a0 a1).bind fun t1 => some (decide (0 ≤ t1))
theorem slices_ContainsFunc_int64_int64.c (k : Nat) (w : World) (Aa0 : Option Addr) (ca0 : Nat) (a0 : List Int) (hr0 : Rd (ci .i64) w Aa0 a0) (hc0 : a0.length ≤ ca0) (na1 : Nat) (fsa1 capa1 : Array Value) (hb1 : hasBody Try.prog na1) (a1 : Int → Option Bool) (hf1 : ∀ (z0 : Int) (r : Bool), a1 z0 = some r → ∀ w', Chg no w w' → CV Try.prog na1 (fsa1 ++ [.int .i64 z0].toArray ++ capa1) w' fun v w'' => v = .bool r ∧ Ext w' w'') (r : Bool) (H : slices_ContainsFunc_int64_int64.f k a0 a1 = some r) :
    CV Try.prog 157 [.slice Aa0 a0.length ca0, .func (.func na1) fsa1 capa1].toArray w fun v w' => v = .bool r ∧ Ext w w' := by
  have hS := ((St.init w no).param (ci .i64) Aa0 ca0 a0 hr0 hc0)
  unfold slices_ContainsFunc_int64_int64.f at H
  refine CV.body Try.func157 rfl Try.ntmps157 rfl ?_
  refine CJ.seq ?_
  refine CJ.region ?_
  refine OJ.pures tU_ok 1 rfl ?_
  refine OJ.nil (EJ.next ?_)
  refine CJ.seq ?_
  refine CJ.region ?_
  refine OJ.pures tU_ok 2 rfl ?_
  obtain ⟨t1, ht1, H⟩ := pbind H
  refine OJ.callF rfl rfl rfl rfl rfl hb175 rfl (slices_IndexFunc_int64_int64.c k _ Aa0 ca0 a0 (hS.rd' (i := 0) rfl) (hS.le' (i := 0) rfl) na1 fsa1 capa1 hb1 a1 (fun z0 r h w' hx => hf1 z0 r h w' (hS.chg.then hx (fun _ _ e => e.elim))) _ ht1) ?_
  rintro _ w1 ⟨rfl, hs⟩
  replace hS := hS.grow hs
  refine OJ.pures tU_ok 2 rfl ?_
  refine OJ.nil (EJ.next ?_)
  refine CJ.ret (?_)
  obtain rfl := Option.some.inj H
  exact EJ.fin rfl (.tmp rfl .nil) ⟨rfl, hS.ext⟩

def impl_meadowCode_1.f (a1 : List Meadow) (a0 : Int) : Option Bool := (impl_size_impl_Meadow.f a1).bind fun t1 => (impl_within.f a0 0 (IntKind.i64.wrap (t1 - 1))).bind fun t2 => some (!t2)
theorem impl_meadowCode_1.c (w : World) (Aa1 : Option Addr) (ca1 : Nat) (a1 : List Meadow) (hr1 : Rd cMeadow w Aa1 a1) (hc1 : a1.length ≤ ca1) (pa1 : Addr) (hp1 : CA w pa1 [.slice Aa1 a1.length ca1]) (a0 : Int) (r : Bool) (H : impl_meadowCode_1.f a1 a0 = some r) :
    CV Try.prog 158 [.int .i64 a0, .pointer (some pa1)].toArray w fun v w' => v = .bool r ∧ Ext w w' := by
  have hS := (((St.init w no).param cMeadow Aa1 ca1 a1 hr1 hc1).paramP pa1 [.slice Aa1 a1.length ca1] hp1)
  unfold impl_meadowCode_1.f at H
  refine CV.body Try.func158 rfl Try.ntmps158 rfl ?_
  refine CJ.seq ?_
  refine CJ.region ?_
  refine OJ.pures tU_ok 1 rfl ?_
  refine OJ.nil (EJ.next ?_)
  refine CJ.seq ?_
  refine CJ.region ?_
  refine OJ.pures tU_ok 1 rfl ?_
  refine OJ.st rfl rfl rfl (SR.load rfl rfl (fun w' hx => ld1 tU_ok rfl rfl (CA.ext (hS.ca (i := 1) rfl) hx) rfl)) ?_
  obtain ⟨t1, ht1, H⟩ := pbind H
  refine OJ.callF rfl rfl rfl rfl rfl hb117 rfl (impl_size_impl_Meadow.c _ Aa1 ca1 a1 (hS.rd' (i := 0) rfl) (hS.le' (i := 0) rfl) _ ht1) ?_
  rintro _ w1 ⟨rfl, hs⟩
  replace hS := hS.grow hs
  refine OJ.pures tU_ok 1 rfl ?_
  obtain ⟨t2, ht2, H⟩ := pbind H
  refine OJ.callF rfl rfl rfl rfl rfl hb74 rfl (impl_within.c _ a0 0 (IntKind.i64.wrap (t1 - 1)) _ ht2) ?_
  rintro _ w1 ⟨rfl, hs⟩
  replace hS := hS.grow hs
  refine OJ.pures tU_ok 2 rfl ?_
  refine OJ.nil (EJ.next ?_)
  refine CJ.ret (?_)
  obtain rfl := Option.some.inj H
  exact EJ.fin rfl (.tmp rfl .nil) ⟨rfl, hS.ext⟩

def impl_unless.f (a0 : Bool) (a1 : Int) : Option Int := if a0 = true then (some 0) else (some a1)
theorem impl_unless.c (w : World) (a0 : Bool) (a1 : Int) (r : Int) (H : impl_unless.f a0 a1 = some r) :
    CV Try.prog 89 [.bool a0, .int .i64 a1].toArray w fun v w' => v = .int .i64 r ∧ Ext w w' := by
  have hS := (St.init w no)
  unfold impl_unless.f at H
  refine CV.body Try.func89 rfl Try.ntmps89 rfl ?_
  refine CJ.seq ?_
  refine CJ.region ?_
  refine OJ.pures tU_ok 1 rfl ?_
  refine OJ.nil (EJ.next ?_)
  refine CJ.seq ?_
  refine CJ.seq ?_
  refine CJ.region ?_
  refine OJ.pures tU_ok 1 rfl ?_
  refine OJ.nil (EJ.next ?_)
  refine CJ.cond rfl (fun hb => ?_) (fun hb => ?_)
  · replace H := pif_t hb H
    refine CJ.seq ?_
    refine CJ.region ?_
    refine OJ.pures tU_ok 1 rfl ?_
    refine OJ.nil (EJ.next ?_)
    refine CJ.ret (EJ.skR (?_))
    obtain rfl := Option.some.inj H
    exact EJ.fin rfl (.tmp rfl .nil) ⟨rfl, hS.ext⟩
  · replace H := pifb_f hb H
    refine CJ.skip (EJ.next ?_)
    refine CJ.seq ?_
    refine CJ.region ?_
    refine OJ.pures tU_ok 2 rfl ?_
    refine OJ.nil (EJ.next ?_)
    refine CJ.ret (?_)
    obtain rfl := Option.some.inj H
    exact EJ.fin rfl (.tmp rfl .nil) ⟨rfl, hS.ext⟩

def impl_meadowCode.f (k : Nat) (a0 : List Meadow) (a1 : Int) (a2 : List Int) : Option Int := (impl_ValidMeadows.f k a0).bind fun t2 => if (!t2) = true then (some 1) else ((slices_ContainsFunc_int64_int64.f k a2 (impl_meadowCode_1.f a0)).bind fun t3 => (impl_within.f a1 1 1000).bind fun t4 => if t4 = true then ((impl_unless.f (!t3) 2).bind fun t5 => some t5) else ((impl_unless.f false 2).bind fun t6 => some t6))
theorem impl_meadowCode.c (k : Nat) (w : World) (Aa0 : Option Addr) (ca0 : Nat) (a0 : List Meadow) (hr0 : Rd cMeadow w Aa0 a0) (hc0 : a0.length ≤ ca0) (a1 : Int) (Aa2 : Option Addr) (ca2 : Nat) (a2 : List Int) (hr2 : Rd (ci .i64) w Aa2 a2) (hc2 : a2.length ≤ ca2) (r : Int) (H : impl_meadowCode.f k a0 a1 a2 = some r) :
    CV Try.prog 115 [.slice Aa0 a0.length ca0, .int .i64 a1, .slice Aa2 a2.length ca2].toArray w fun v w' => v = .int .i64 r ∧ Ext w w' := by
  have hS := (((St.init w no).param cMeadow Aa0 ca0 a0 hr0 hc0).param (ci .i64) Aa2 ca2 a2 hr2 hc2)
  unfold impl_meadowCode.f at H
  refine CV.body Try.func115 rfl Try.ntmps115 rfl ?_
  refine CJ.seq ?_
  refine CJ.region ?_
  refine OJ.ef rfl rfl rfl (Ef.box hS rfl rfl ([.slice Aa0 a0.length ca0]) rfl) ?_
  rintro _ w1 ⟨b1, rfl, hS⟩
  refine OJ.pures tU_ok 1 rfl ?_
  refine OJ.nil (EJ.next ?_)
  refine CJ.seq ?_
  refine CJ.seq ?_
  refine CJ.region ?_
  refine OJ.st rfl rfl rfl (SR.load rfl rfl (fun w' hx => ld1 tU_ok rfl rfl (CA.ext (hS.cells (i := 0) rfl) hx) rfl)) ?_
  obtain ⟨t2, ht2, H⟩ := pbind H
  refine OJ.callF rfl rfl rfl rfl rfl hb51 rfl (impl_ValidMeadows.c k _ Aa0 ca0 a0 (hS.rd' (i := 0) rfl) (hS.le' (i := 0) rfl) _ ht2) ?_
  rintro _ w1 ⟨rfl, hs⟩
  replace hS := hS.grow hs
  refine OJ.pures tU_ok 1 rfl ?_
  refine OJ.nil (EJ.next ?_)
  refine CJ.cond rfl (fun hb => ?_) (fun hb => ?_)
  · replace H := pif_t hb H
    refine CJ.seq ?_
    refine CJ.region ?_
    refine OJ.pures tU_ok 1 rfl ?_
    refine OJ.nil (EJ.next ?_)
    refine CJ.ret (EJ.skR (?_))
    obtain rfl := Option.some.inj H
    exact EJ.fin rfl (.tmp rfl .nil) ⟨rfl, hS.ext⟩
  · replace H := pifb_f hb H
    refine CJ.skip (EJ.next ?_)
    refine CJ.seq ?_
    refine CJ.region ?_
    refine OJ.pures tU_ok 2 rfl ?_
    obtain ⟨t3, ht3, H⟩ := pbind H
    refine OJ.callF rfl rfl rfl rfl rfl hb157 rfl (slices_ContainsFunc_int64_int64.c k _ Aa2 ca2 a2 (hS.rd' (i := 1) rfl) (hS.le' (i := 1) rfl) 158 #[] #[.pointer (some ⟨b1, 0, none⟩)] hb158 (impl_meadowCode_1.f a0) (fun z0 r h w' hx => CV.cast (impl_meadowCode_1.c w' Aa0 ca0 a0 ((hS.rd' (i := 0) rfl).ext hx) (hS.le' (i := 0) rfl) ⟨b1, 0, none⟩ (CA.ext (hS.cells (i := 0) rfl) hx)  z0 r h) (by simp)) _ ht3) ?_
    rintro _ w1 ⟨rfl, hs⟩
    replace hS := hS.grow hs
    refine OJ.pures tU_ok 2 rfl ?_
    refine OJ.nil (EJ.next ?_)
    refine CJ.seq ?_
    refine CJ.region ?_
    refine OJ.pures tU_ok 1 rfl ?_
    obtain ⟨t4, ht4, H⟩ := pbind H
    refine OJ.callF rfl rfl rfl rfl rfl hb74 rfl (impl_within.c _ a1 1 1000 _ ht4) ?_
    rintro _ w1 ⟨rfl, hs⟩
    replace hS := hS.grow hs
    refine OJ.pures tU_ok 1 rfl ?_
    refine OJ.split (t := 17) rfl (fun hb => ?_) (fun hb => ?_)
    · replace H := pif_t hb H
      refine OJ.pures tU_ok 2 rfl ?_
      obtain ⟨t5, ht5, H⟩ := pbind H
      refine OJ.callF rfl rfl rfl rfl rfl hb89 rfl (impl_unless.c _ (!t3) 2 _ ht5) ?_
      rintro _ w1 ⟨rfl, hs⟩
      replace hS := hS.grow hs
      refine OJ.pures tU_ok 1 rfl ?_
      refine OJ.nil (EJ.next ?_)
      refine CJ.ret (?_)
      obtain rfl := Option.some.inj H
      exact EJ.fin rfl (.tmp rfl .nil) ⟨rfl, hS.ext⟩
    · replace H := pifb_f hb H
      refine OJ.pures tU_ok 2 rfl ?_
      obtain ⟨t6, ht6, H⟩ := pbind H
      refine OJ.callF rfl rfl rfl rfl rfl hb89 rfl (impl_unless.c _ false 2 _ ht6) ?_
      rintro _ w1 ⟨rfl, hs⟩
      replace hS := hS.grow hs
      refine OJ.pures tU_ok 1 rfl ?_
      refine OJ.nil (EJ.next ?_)
      refine CJ.ret (?_)
      obtain rfl := Option.some.inj H
      exact EJ.fin rfl (.tmp rfl .nil) ⟨rfl, hS.ext⟩

def impl_firstOf.l1 (a0 : List Int) : Nat → Int → Option (Int ⊕ Unit)
  | 0, _ => none
  | k + 1, y1 => if y1 < (a0.length : Int) then ((getI a0 y1).bind fun t2 => if t2 ≠ 0 then (some (Sum.inl t2)) else (impl_firstOf.l1 a0 k (IntKind.i64.wrap (y1 + 1)))) else (some (Sum.inr ()))
def impl_firstOf.f (k : Nat) (a0 : List Int) : Option Int := (impl_firstOf.l1 a0 k 0).bind fun s78 => match s78 with | .inl r => some r | .inr _ => some 0
theorem impl_firstOf.c (k : Nat) (w : World) (Aa0 : Option Addr) (ca0 : Nat) (a0 : List Int) (hr0 : Rd (ci .i64) w Aa0 a0) (hc0 : a0.length ≤ ca0) (r : Int) (H : impl_firstOf.f k a0 = some r) :
    CV Try.prog 87 [.slice Aa0 a0.length ca0].toArray w fun v w' => v = .int .i64 r ∧ Ext w w' := by
  have hS := ((St.init w no).param (ci .i64) Aa0 ca0 a0 hr0 hc0)
  unfold impl_firstOf.f at H
  refine CV.body Try.func87 rfl Try.ntmps87 rfl ?_
  refine CJ.seq ?_
  refine CJ.region ?_
  refine OJ.pures tU_ok 1 rfl ?_
  refine OJ.nil (EJ.next ?_)
  refine CJ.seq ?_
  refine CJ.seq ?_
  refine CJ.region ?_
  refine OJ.pures tU_ok 3 rfl ?_
  refine OJ.nil (EJ.next ?_)
  obtain ⟨j78, H, K78⟩ := pbind H
  refine CJ.cut1 (fun F w1 => (some (Sum.inr ()) : Option (Int ⊕ Unit)) = some j78 ∧ F = [] ∧ St w no w1 [] [roC (ci .i64) Aa0 ca0 a0]) ?_ ?_
  · skip
    refine CJ.block ?_
    refine CJ.loop (fun k F w1 => ∃ (y1 : Int), F = [(5, .slice Aa0 a0.length ca0), (6, .int .i64 (a0.length : Int)), (7, .int .i64 y1)] ∧ St w no w1 [] [roC (ci .i64) Aa0 ca0 a0] ∧ impl_firstOf.l1 a0 k y1 = some j78) k (F' := [(5, .slice Aa0 a0.length ca0), (6, .int .i64 (a0.length : Int)), (7, .int .i64 0)]) ⟨rfl, rfl, rfl, trivial⟩ ⟨0, rfl, hS.pick [] [0] rfl, H⟩ ?_
    rintro k F w1 ⟨y1, rfl, hS, H⟩
    cases k with
    | zero => rw [impl_firstOf.l1] at H; cases H
    | succ k =>
      rw [impl_firstOf.l1] at H
      refine CJ.seq ?_
      refine CJ.region ?_
      refine OJ.pures tU_ok 1 rfl ?_
      refine OJ.nil (EJ.next ?_)
      refine CJ.seq ?_
      refine CJ.cond rfl (fun hb => ?_) (fun hb => ?_)
      · replace H := pif_t (of_decide_eq_true hb) H
        refine CJ.skip (EJ.next ?_)
        refine CJ.seq ?_
        refine CJ.block ?_
        refine CJ.seq ?_
        refine CJ.region ?_
        obtain ⟨t2, ht2, H⟩ := pbind H
        obtain ⟨ad2, e2⟩ := (hS.rd' (i := 0) rfl).some' ht2
        refine OJ.st rfl rfl rfl (SR.idxS tU_ok tI_ok rfl rfl rfl rfl e2 rfl (getI_some ht2).1) ?_
        refine OJ.st rfl rfl rfl (SR.load rfl rfl (fun w' hx => ld1 tU_ok rfl rfl (CA.ext ((hS.rd' (i := 0) rfl).at_ e2 ht2) hx) rfl)) ?_
        refine OJ.pures tU_ok 1 rfl ?_
        refine OJ.nil (EJ.next ?_)
        refine CJ.seq ?_
        refine CJ.region ?_
        refine OJ.pures tU_ok 2 rfl ?_
        refine OJ.nil (EJ.next ?_)
        refine CJ.cond rfl (fun hb => ?_) (fun hb => ?_)
        · replace H := pif_t (of_decide_eq_true hb) H
          refine CJ.seq ?_
          refine CJ.region ?_
          refine OJ.pures tU_ok 2 rfl ?_
          refine OJ.nil (EJ.next ?_)
          refine CJ.ret (EJ.bkR (EJ.skR (EJ.skR (EJ.bkR (EJ.skR (EJ.skR (?_)))))))
          first | (obtain rfl := Option.some.inj H; have H := K78) | (obtain ⟨q78, H2, e78⟩ := pbind H; obtain rfl := Option.some.inj e78; obtain rfl := Option.some.inj K78; have H := H2)
          obtain rfl := Option.some.inj H
          exact EJ.fin rfl (.tmp rfl .nil) ⟨rfl, hS.ext⟩
        · replace H := pif_f (of_decide_eq_false hb) H
          refine CJ.skip (EJ.blk (EJ.next ?_))
          refine CJ.region ?_
          refine OJ.pures tU_ok 2 rfl ?_
          refine OJ.nil ?_
          exact EJ.round k (F' := [(5, .slice Aa0 a0.length ca0), (6, .int .i64 (a0.length : Int)), (7, .int .i64 (IntKind.i64.wrap (y1 + 1)))]) ⟨rfl, rfl, rfl, trivial⟩ (Nat.lt_succ_self _) ⟨(IntKind.i64.wrap (y1 + 1)), rfl, hS.pick [] [0] rfl, H⟩
      · replace H := pif_f (of_decide_eq_false hb) H
        refine CJ.exit (EJ.skE (EJ.skE (EJ.hit (?_))))
        exact EJ.meet (F' := []) trivial ⟨H, rfl, hS.pick [] [0] rfl⟩
  · rintro F w1 ⟨he, rfl, hS⟩
    obtain rfl := Option.some.inj he
    have H := K78
    refine EJ.next ?_
    refine CJ.seq ?_
    refine CJ.region ?_
    refine OJ.pures tU_ok 1 rfl ?_
    refine OJ.nil (EJ.next ?_)
    refine CJ.ret (?_)
    obtain rfl := Option.some.inj H
    exact EJ.fin rfl (.tmp rfl .nil) ⟨rfl, hS.ext⟩

def impl_spanCode.f (k : Nat) (a0 : List Meadow) (a1 : Int) (a2 : Int) (a3 : Int) : Option Int := (impl_meadowCode.f k a0 a1 []).bind fun t1 => (impl_within.f a2 0 30).bind fun t2 => if t2 = true then ((impl_within.f a3 0 20000).bind fun t3 => (impl_unless.f t3 2).bind fun t4 => (impl_firstOf.f k ([t1, t4] : List Int)).bind fun t6 => some t6) else ((impl_unless.f false 2).bind fun t7 => (impl_firstOf.f k ([t1, t7] : List Int)).bind fun t9 => some t9)
theorem impl_spanCode.c (k : Nat) (w : World) (Aa0 : Option Addr) (ca0 : Nat) (a0 : List Meadow) (hr0 : Rd cMeadow w Aa0 a0) (hc0 : a0.length ≤ ca0) (a1 : Int) (a2 : Int) (a3 : Int) (r : Int) (H : impl_spanCode.f k a0 a1 a2 a3 = some r) :
    CV Try.prog 88 [.slice Aa0 a0.length ca0, .int .i64 a1, .int .i64 a2, .int .i64 a3].toArray w fun v w' => v = .int .i64 r ∧ Ext w w' := by
  have hS := ((St.init w no).param cMeadow Aa0 ca0 a0 hr0 hc0)
  unfold impl_spanCode.f at H
  refine CV.body Try.func88 rfl Try.ntmps88 rfl ?_
  refine CJ.seq ?_
  refine CJ.region ?_
  refine OJ.pures tU_ok 1 rfl ?_
  refine OJ.nil (EJ.next ?_)
  refine CJ.seq ?_
  refine CJ.region ?_
  refine OJ.pures tU_ok 2 rfl ?_
  obtain ⟨t1, ht1, H⟩ := pbind H
  refine OJ.callF rfl rfl rfl rfl rfl hb115 rfl (impl_meadowCode.c k _ Aa0 ca0 a0 (hS.rd' (i := 0) rfl) (hS.le' (i := 0) rfl) a1 none 0 [] (Rd.nil (ci .i64) _ _) (Nat.le_refl _) _ ht1) ?_
  rintro _ w1 ⟨rfl, hs⟩
  replace hS := hS.grow hs
  refine OJ.pures tU_ok 1 rfl ?_
  obtain ⟨t2, ht2, H⟩ := pbind H
  refine OJ.callF rfl rfl rfl rfl rfl hb74 rfl (impl_within.c _ a2 0 30 _ ht2) ?_
  rintro _ w1 ⟨rfl, hs⟩
  replace hS := hS.grow hs
  refine OJ.pures tU_ok 1 rfl ?_
  refine OJ.split (t := 14) rfl (fun hb => ?_) (fun hb => ?_)
  · replace H := pif_t hb H
    refine OJ.pures tU_ok 1 rfl ?_
    obtain ⟨t3, ht3, H⟩ := pbind H
    refine OJ.callF rfl rfl rfl rfl rfl hb74 rfl (impl_within.c _ a3 0 20000 _ ht3) ?_
    rintro _ w1 ⟨rfl, hs⟩
    replace hS := hS.grow hs
    refine OJ.pures tU_ok 1 rfl ?_
    obtain ⟨t4, ht4, H⟩ := pbind H
    refine OJ.callF rfl rfl rfl rfl rfl hb89 rfl (impl_unless.c _ t3 2 _ ht4) ?_
    rintro _ w1 ⟨rfl, hs⟩
    replace hS := hS.grow hs
    refine OJ.ef rfl rfl rfl (Ef.lit tU_ok tI_ok hS (C := (ci .i64)) rfl rfl rfl rfl rfl rfl ([t1, t4] : List Int) rfl rfl rfl rfl) ?_
    rintro _ w1 ⟨A5, rfl, hS⟩
    obtain ⟨t6, ht6, H⟩ := pbind H
    refine OJ.callF rfl rfl rfl rfl rfl hb87 rfl (impl_firstOf.c k _ A5 (([t1, t4] : List Int).length) ([t1, t4] : List Int) (hS.rd (i := 0) rfl) (hS.le (i := 0) rfl) _ ht6) ?_
    rintro _ w1 ⟨rfl, hs⟩
    replace hS := hS.grow hs
    refine OJ.pures tU_ok 1 rfl ?_
    refine OJ.nil (EJ.next ?_)
    refine CJ.ret (?_)
    obtain rfl := Option.some.inj H
    exact EJ.fin rfl (.tmp rfl .nil) ⟨rfl, hS.ext⟩
  · replace H := pifb_f hb H
    refine OJ.pures tU_ok 3 rfl ?_
    obtain ⟨t7, ht7, H⟩ := pbind H
    refine OJ.callF rfl rfl rfl rfl rfl hb89 rfl (impl_unless.c _ false 2 _ ht7) ?_
    rintro _ w1 ⟨rfl, hs⟩
    replace hS := hS.grow hs
    refine OJ.ef rfl rfl rfl (Ef.lit tU_ok tI_ok hS (C := (ci .i64)) rfl rfl rfl rfl rfl rfl ([t1, t7] : List Int) rfl rfl rfl rfl) ?_
    rintro _ w1 ⟨A8, rfl, hS⟩
    obtain ⟨t9, ht9, H⟩ := pbind H
    refine OJ.callF rfl rfl rfl rfl rfl hb87 rfl (impl_firstOf.c k _ A8 (([t1, t7] : List Int).length) ([t1, t7] : List Int) (hS.rd (i := 0) rfl) (hS.le (i := 0) rfl) _ ht9) ?_
    rintro _ w1 ⟨rfl, hs⟩
    replace hS := hS.grow hs
    refine OJ.pures tU_ok 1 rfl ?_
    refine OJ.nil (EJ.next ?_)
    refine CJ.ret (?_)
    obtain rfl := Option.some.inj H
    exact EJ.fin rfl (.tmp rfl .nil) ⟨rfl, hS.ext⟩

def impl_size_int64.f (a0 : List Int) : Option Int := some (a0.length : Int)
theorem impl_size_int64.c (w : World) (Aa0 : Option Addr) (ca0 : Nat) (a0 : List Int) (hr0 : Rd (ci .i64) w Aa0 a0) (hc0 : a0.length ≤ ca0) (r : Int) (H : impl_size_int64.f a0 = some r) :
    CV Try.prog 113 [.slice Aa0 a0.length ca0].toArray w fun v w' => v = .int .i64 r ∧ Ext w w' := by
  have hS := ((St.init w no).param (ci .i64) Aa0 ca0 a0 hr0 hc0)
  unfold impl_size_int64.f at H
  refine CV.body Try.func113 rfl Try.ntmps113 rfl ?_
  refine CJ.seq ?_
  refine CJ.region ?_
  refine OJ.pures tU_ok 1 rfl ?_
  refine OJ.nil (EJ.next ?_)
  refine CJ.seq ?_
  refine CJ.region ?_
  refine OJ.pures tU_ok 3 rfl ?_
  refine OJ.nil (EJ.next ?_)
  refine CJ.ret (?_)
  obtain rfl := Option.some.inj H
  exact EJ.fin rfl (.tmp rfl .nil) ⟨rfl, hS.ext⟩

def slices_Clone_impl_Meadow_impl_Meadow.f (a0 : List Meadow) : Option (List Meadow) := (chk (([] : List Meadow).length + a0.length ≤ 4294967296)).bind fun _ => some a0
theorem slices_Clone_impl_Meadow_impl_Meadow.c (w : World) (A : Option Addr) (c : Nat) (a0 : List Meadow) (hr0 : Rd cMeadow w A a0) (hc0 : a0.length ≤ c) (r : List Meadow) (H : slices_Clone_impl_Meadow_impl_Meadow.f a0 = some r) :
    CV Try.prog 126 [.slice A a0.length c].toArray w fun v w' => ∃ (A0 : Option Addr) (c0 : Nat), v = .slice A0 r.length c0 ∧ St w no w' [rowC cMeadow A0 c0 85 r] [] := by
  have hS := ((St.init w no).param cMeadow A c a0 hr0 hc0)
  obtain ⟨u, hu, H⟩ := pbind H
  obtain rfl := Option.some.inj H
  refine CV.body Try.func126 rfl Try.ntmps126 rfl ?_
  refine CJ.seq ?_
  refine CJ.region ?_
  refine OJ.pures tU_ok 1 rfl ?_
  refine OJ.nil (EJ.next ?_)
  refine CJ.seq ?_
  refine CJ.seq ?_
  refine CJ.region ?_
  refine OJ.pures tU_ok 1 rfl ?_
  refine OJ.st rfl rfl rfl (SR.eqNil tU_ok rfl rfl rfl rfl) ?_
  refine OJ.nil (EJ.next ?_)
  refine CJ.cond rfl (fun hb => ?_) (fun hb => ?_)
  · obtain rfl := hr0.isNone hb
    refine CJ.seq ?_
    refine CJ.region ?_
    refine OJ.pures tU_ok 1 rfl ?_
    refine OJ.nil (EJ.next ?_)
    refine CJ.ret (EJ.skR ?_)
    replace hS := hS.addNil cMeadow 85 none
    exact EJ.fin rfl (.tmp rfl .nil) ⟨none, 0, rfl, hS.pick [0] [] rfl⟩
  · refine CJ.skip (EJ.next ?_)
    refine CJ.seq ?_
    refine CJ.region ?_
    refine OJ.ef rfl rfl rfl (Ef.lit tU_ok tI_ok hS (C := cMeadow) rfl rfl rfl rfl rfl rfl ([] : List Meadow) rfl rfl rfl rfl) ?_
    rintro _ w1 ⟨A1, rfl, hS⟩
    refine OJ.pures tU_ok 1 rfl ?_
    refine OJ.ew rfl rfl rfl (Ew.append tU_ok tI_ok (C := cMeadow) (xs := ([] : List Meadow)) (ys := a0) hS (i := 0) rfl rfl rfl rfl rfl rfl rfl rfl rfl rfl rfl rfl rfl (hS.rd' (i := 0) rfl) (chk_some hu)) ?_
    rintro _ w1 ⟨A2, c2, rfl, hS⟩
    refine OJ.pures tU_ok 1 rfl ?_
    refine OJ.nil (EJ.next ?_)
    exact CJ.ret (EJ.fin rfl (.tmp rfl .nil) ⟨A2, c2, rfl, hS.pick [0] [] rfl⟩)

def impl_behind.l1 (a1 : Int) (a2 : Int) (t2 : List Meadow) (t5 : Meadow) (t6 : Meadow) : Nat → (List Meadow) → Int → Option (List Meadow)
  | 0, _, _ => none
  | k + 1, y8, y9 => if y9 < ((t2.set a2.toNat (⟨IntKind.i16.wrap (t5.Grass - (IntKind.i16.wrap a1)), t6.Grows, t6.Most⟩ : Meadow)).length : Int) then ((getI y8 y9).bind fun t10 => (getI y8 y9).bind fun t12 => impl_behind.l1 a1 a2 t2 t5 t6 k (y8.set y9.toNat (⟨(if t10.Most < (IntKind.i16.wrap (t10.Grass + t10.Grows)) then t10.Most else (IntKind.i16.wrap (t10.Grass + t10.Grows))), t12.Grows, t12.Most⟩ : Meadow)) (IntKind.i64.wrap (y9 + 1))) else (some y8)
def impl_behind.f (k : Nat) (a0 : List Meadow) (a1 : Int) (a2 : Int) : Option (List Meadow × Bool) := (getI a0 a2).bind fun t1 => if (IntKind.i64.wrap t1.Grass) < a1 then (some ([], false)) else ((slices_Clone_impl_Meadow_impl_Meadow.f a0).bind fun t2 => (getI t2 a2).bind fun t5 => (getI t2 a2).bind fun t6 => (impl_behind.l1 a1 a2 t2 t5 t6 k (t2.set a2.toNat (⟨IntKind.i16.wrap (t5.Grass - (IntKind.i16.wrap a1)), t6.Grows, t6.Most⟩ : Meadow)) 0).bind fun y7 => some (y7, true))
theorem impl_behind.c (k : Nat) (w : World) (Aa0 : Option Addr) (ca0 : Nat) (a0 : List Meadow) (hr0 : Rd cMeadow w Aa0 a0) (hc0 : a0.length ≤ ca0) (a1 : Int) (a2 : Int) (r : List Meadow × Bool) (H : impl_behind.f k a0 a1 a2 = some r) :
    CV Try.prog 122 [.slice Aa0 a0.length ca0, .int .i64 a1, .int .i64 a2].toArray w fun v w' => ∃ (A0 : Option Addr) (c0 : Nat), v = .tuple #[.slice A0 r.1.length c0, .bool r.2] ∧ St w no w' [rowC cMeadow A0 c0 85 r.1] [] := by
  have hS := ((St.init w no).param cMeadow Aa0 ca0 a0 hr0 hc0)
  unfold impl_behind.f at H
  refine CV.body Try.func122 rfl Try.ntmps122 rfl ?_
  refine CJ.seq ?_
  refine CJ.region ?_
  refine OJ.pures tU_ok 2 rfl ?_
  refine OJ.nil (EJ.next ?_)
  refine CJ.seq ?_
  refine CJ.seq ?_
  refine CJ.region ?_
  refine OJ.pures tU_ok 2 rfl ?_
  obtain ⟨t1, ht1, H⟩ := pbind H
  obtain ⟨ad1, e1⟩ := (hS.rd' (i := 0) rfl).some' ht1
  refine OJ.st rfl rfl rfl (SR.idxS tU_ok tI_ok rfl rfl rfl rfl e1 rfl (getI_some ht1).1) ?_
  refine OJ.st rfl rfl rfl (SR.fieldAddr tU_ok tI_ok rfl rfl rfl rfl rfl rfl) ?_
  refine OJ.st rfl rfl rfl (SR.load rfl rfl (fun w' hx => ld1 tU_ok rfl rfl (CA.ext (CA.sub ((hS.rd' (i := 0) rfl).at_ e1 ht1) 0) hx) rfl)) ?_
  refine OJ.pures tU_ok 3 rfl ?_
  refine OJ.nil (EJ.next ?_)
  refine CJ.cond rfl (fun hb => ?_) (fun hb => ?_)
  · replace H := pif_t (of_decide_eq_true hb) H
    refine CJ.seq ?_
    refine CJ.region ?_
    refine OJ.pures tU_ok 2 rfl ?_
    refine OJ.nil (EJ.next ?_)
    refine CJ.ret (EJ.skR (?_))
    replace hS := hS.addNil cMeadow 85 none
    obtain rfl := Option.some.inj H
    exact EJ.fin rfl (.tmp rfl (.tmp rfl .nil)) ⟨none, 0, rfl, hS.pick [0] [] rfl⟩
  · replace H := pif_f (of_decide_eq_false hb) H
    refine CJ.skip (EJ.next ?_)
    refine CJ.seq ?_
    refine CJ.region ?_
    refine OJ.pures tU_ok 1 rfl ?_
    obtain ⟨t2, ht2, H⟩ := pbind H
    refine OJ.callF rfl rfl rfl rfl rfl hb126 rfl (slices_Clone_impl_Meadow_impl_Meadow.c _ Aa0 ca0 a0 (hS.rd' (i := 0) rfl) (hS.le' (i := 0) rfl) _ ht2) ?_
    rintro _ w1 ⟨A3, c4, rfl, hs⟩
    replace hS := hS.addN hs
    refine OJ.pures tU_ok 1 rfl ?_
    refine OJ.nil (EJ.next ?_)
    refine CJ.seq ?_
    refine CJ.region ?_
    refine OJ.pures tU_ok 2 rfl ?_
    obtain ⟨t5, ht5, H⟩ := pbind H
    obtain ⟨ad5, e5⟩ := (hS.rd (i := 0) rfl).some' ht5
    refine OJ.st rfl rfl rfl (SR.idxS tU_ok tI_ok rfl rfl rfl rfl e5 rfl (getI_some ht5).1) ?_
    refine OJ.st rfl rfl rfl (SR.fieldAddr tU_ok tI_ok rfl rfl rfl rfl rfl rfl) ?_
    refine OJ.st rfl rfl rfl (SR.load rfl rfl (fun w' hx => ld1 tU_ok rfl rfl (CA.ext (CA.sub ((hS.rd (i := 0) rfl).at_ e5 ht5) 0) hx) rfl)) ?_
    refine OJ.pures tU_ok 3 rfl ?_
    obtain ⟨t6, ht6, H⟩ := pbind H
    obtain ⟨ad6, e6⟩ := (hS.rd (i := 0) rfl).some' ht6
    refine OJ.st rfl rfl rfl (SR.idxS tU_ok tI_ok rfl rfl rfl rfl e6 rfl (getI_some ht6).1) ?_
    refine OJ.st rfl rfl rfl (SR.fieldAddr tU_ok tI_ok rfl rfl rfl rfl rfl rfl) ?_
    refine OJ.es rfl rfl (Es.storeR tI_ok hS (i := 0) (off := 0) rfl rfl ht6 e6 rfl (add_add _ _ _) rfl rfl (vs := (ci .i16).enc (IntKind.i16.wrap (t5.Grass - (IntKind.i16.wrap a1)))) rfl rfl (one1 rfl) (Nat.le_of_ble_eq_true rfl) (⟨IntKind.i16.wrap (t5.Grass - (IntKind.i16.wrap a1)), t6.Grows, t6.Most⟩ : Meadow) rfl) ?_
    intro w1 hS
    refine OJ.as (t := 20) rfl (show _ = (.slice A3 (t2.set a2.toNat (⟨IntKind.i16.wrap (t5.Grass - (IntKind.i16.wrap a1)), t6.Grows, t6.Most⟩ : Meadow)).length c4 : Value) by simp only [List.length_set]) ?_
    refine OJ.as (t := 8) rfl (show _ = (.slice A3 (t2.set a2.toNat (⟨IntKind.i16.wrap (t5.Grass - (IntKind.i16.wrap a1)), t6.Grows, t6.Most⟩ : Meadow)).length c4 : Value) by simp only [List.length_set]) ?_
    refine OJ.as (t := 21) rfl (show _ = (.slice A3 (t2.set a2.toNat (⟨IntKind.i16.wrap (t5.Grass - (IntKind.i16.wrap a1)), t6.Grows, t6.Most⟩ : Meadow)).length c4 : Value) by simp only [List.length_set]) ?_
    refine OJ.nil (EJ.next ?_)
    refine CJ.seq ?_
    refine CJ.seq ?_
    refine CJ.region ?_
    refine OJ.pures tU_ok 3 rfl ?_
    refine OJ.nil (EJ.next ?_)
    obtain ⟨j81, H, K81⟩ := pbind H
    refine CJ.cut1 (fun F w1 => ∃ (y7 : List Meadow) , (some y7 : Option (List Meadow)) = some j81 ∧ F = [(8, .slice A3 y7.length c4)] ∧ St w no w1 [rowC cMeadow A3 c4 85 y7] [roC cMeadow Aa0 ca0 a0]) ?_ ?_
    · skip
      refine CJ.block ?_
      refine CJ.loop (fun k F w1 => ∃ (y8 : List Meadow) (y9 : Int), F = [(8, .slice A3 y8.length c4), (31, .slice A3 y8.length c4), (32, .int .i64 ((t2.set a2.toNat (⟨IntKind.i16.wrap (t5.Grass - (IntKind.i16.wrap a1)), t6.Grows, t6.Most⟩ : Meadow)).length : Int)), (33, .int .i64 y9)] ∧ St w no w1 [rowC cMeadow A3 c4 85 y8] [roC cMeadow Aa0 ca0 a0] ∧ impl_behind.l1 a1 a2 t2 t5 t6 k y8 y9 = some j81) k (F' := [(8, .slice A3 (t2.set a2.toNat (⟨IntKind.i16.wrap (t5.Grass - (IntKind.i16.wrap a1)), t6.Grows, t6.Most⟩ : Meadow)).length c4), (31, .slice A3 (t2.set a2.toNat (⟨IntKind.i16.wrap (t5.Grass - (IntKind.i16.wrap a1)), t6.Grows, t6.Most⟩ : Meadow)).length c4), (32, .int .i64 ((t2.set a2.toNat (⟨IntKind.i16.wrap (t5.Grass - (IntKind.i16.wrap a1)), t6.Grows, t6.Most⟩ : Meadow)).length : Int)), (33, .int .i64 0)]) ⟨rfl, rfl, rfl, rfl, trivial⟩ ⟨(t2.set a2.toNat (⟨IntKind.i16.wrap (t5.Grass - (IntKind.i16.wrap a1)), t6.Grows, t6.Most⟩ : Meadow)), 0, rfl, hS.pick [0] [0] rfl, H⟩ ?_
      rintro k F w1 ⟨y8, y9, rfl, hS, H⟩
      cases k with
      | zero => rw [impl_behind.l1] at H; cases H
      | succ k =>
        rw [impl_behind.l1] at H
        refine CJ.seq ?_
        refine CJ.region ?_
        refine OJ.pures tU_ok 1 rfl ?_
        refine OJ.nil (EJ.next ?_)
        refine CJ.seq ?_
        refine CJ.cond rfl (fun hb => ?_) (fun hb => ?_)
        · replace H := pif_t (of_decide_eq_true hb) H
          refine CJ.skip (EJ.next ?_)
          refine CJ.seq ?_
          refine CJ.block ?_
          refine CJ.seq ?_
          refine CJ.region ?_
          refine OJ.pures tU_ok 1 rfl ?_
          obtain ⟨t10, ht10, H⟩ := pbind H
          obtain ⟨ad10, e10⟩ := (hS.rd (i := 0) rfl).some' ht10
          refine OJ.st rfl rfl rfl (SR.idxS tU_ok tI_ok rfl rfl rfl rfl e10 rfl (getI_some ht10).1) ?_
          refine OJ.st rfl rfl rfl (SR.load rfl rfl (fun w' hx => ldE tU_ok tI_ok rfl rfl rfl (CA.ext ((hS.rd (i := 0) rfl).at_ e10 ht10) hx) rfl)) ?_
          refine OJ.ef rfl rfl rfl (Ef.alloc hS tI_ok rfl rfl (cMeadow.enc (⟨0, 0, 0⟩ : Meadow)) rfl) ?_
          rintro _ w1 ⟨b11, rfl, hS⟩
          refine OJ.pures tU_ok 1 rfl ?_
          refine OJ.es rfl rfl (Es.store tI_ok hS (i := 1) rfl rfl rfl rfl rfl rfl (vs := cMeadow.enc t10) rfl (cMeadow.len _) (cMeadow.one _) (Nat.le_of_ble_eq_true rfl) (cMeadow.enc t10) rfl) ?_
          intro w1 hS
          refine OJ.nil (EJ.next ?_)
          refine CJ.region ?_
          refine OJ.pures tU_ok 2 rfl ?_
          refine OJ.st rfl rfl rfl (SR.fieldAddr tU_ok tI_ok rfl rfl rfl rfl rfl rfl) ?_
          refine OJ.st rfl rfl rfl (SR.load rfl rfl (fun w' hx => ld1 tU_ok rfl rfl (CA.ext (CA.sub (hS.cells (i := 1) rfl) 0) hx) rfl)) ?_
          refine OJ.st rfl rfl rfl (SR.fieldAddr tU_ok tI_ok rfl rfl rfl rfl rfl rfl) ?_
          refine OJ.st rfl rfl rfl (SR.load rfl rfl (fun w' hx => ld1 tU_ok rfl rfl (CA.ext (CA.sub (hS.cells (i := 1) rfl) 1) hx) rfl)) ?_
          refine OJ.pures tU_ok 1 rfl ?_
          refine OJ.st rfl rfl rfl (SR.fieldAddr tU_ok tI_ok rfl rfl rfl rfl rfl rfl) ?_
          refine OJ.st rfl rfl rfl (SR.load rfl rfl (fun w' hx => ld1 tU_ok rfl rfl (CA.ext (CA.sub (hS.cells (i := 1) rfl) 2) hx) rfl)) ?_
          refine OJ.pures tU_ok 1 rfl ?_
          obtain ⟨t12, ht12, H⟩ := pbind H
          obtain ⟨ad12, e12⟩ := (hS.rd (i := 0) rfl).some' ht12
          refine OJ.st rfl rfl rfl (SR.idxS tU_ok tI_ok rfl rfl rfl rfl e12 rfl (getI_some ht12).1) ?_
          refine OJ.st rfl rfl rfl (SR.fieldAddr tU_ok tI_ok rfl rfl rfl rfl rfl rfl) ?_
          refine OJ.es rfl rfl (Es.storeR tI_ok hS (i := 0) (off := 0) rfl rfl ht12 e12 rfl (add_add _ _ _) rfl rfl (vs := (ci .i16).enc (if t10.Most < (IntKind.i16.wrap (t10.Grass + t10.Grows)) then t10.Most else (IntKind.i16.wrap (t10.Grass + t10.Grows)))) rfl rfl (one1 rfl) (Nat.le_of_ble_eq_true rfl) (⟨(if t10.Most < (IntKind.i16.wrap (t10.Grass + t10.Grows)) then t10.Most else (IntKind.i16.wrap (t10.Grass + t10.Grows))), t12.Grows, t12.Most⟩ : Meadow) rfl) ?_
          intro w1 hS
          refine OJ.as (t := 8) rfl (show _ = (.slice A3 (y8.set y9.toNat (⟨(if t10.Most < (IntKind.i16.wrap (t10.Grass + t10.Grows)) then t10.Most else (IntKind.i16.wrap (t10.Grass + t10.Grows))), t12.Grows, t12.Most⟩ : Meadow)).length c4 : Value) by simp only [List.length_set]) ?_
          refine OJ.as (t := 31) rfl (show _ = (.slice A3 (y8.set y9.toNat (⟨(if t10.Most < (IntKind.i16.wrap (t10.Grass + t10.Grows)) then t10.Most else (IntKind.i16.wrap (t10.Grass + t10.Grows))), t12.Grows, t12.Most⟩ : Meadow)).length c4 : Value) by simp only [List.length_set]) ?_
          refine OJ.as (t := 38) rfl (show _ = (.slice A3 (y8.set y9.toNat (⟨(if t10.Most < (IntKind.i16.wrap (t10.Grass + t10.Grows)) then t10.Most else (IntKind.i16.wrap (t10.Grass + t10.Grows))), t12.Grows, t12.Most⟩ : Meadow)).length c4 : Value) by simp only [List.length_set]) ?_
          refine OJ.nil (EJ.blk (EJ.next ?_))
          refine CJ.region ?_
          refine OJ.pures tU_ok 2 rfl ?_
          refine OJ.nil ?_
          exact EJ.round k (F' := [(8, .slice A3 (y8.set y9.toNat (⟨(if t10.Most < (IntKind.i16.wrap (t10.Grass + t10.Grows)) then t10.Most else (IntKind.i16.wrap (t10.Grass + t10.Grows))), t12.Grows, t12.Most⟩ : Meadow)).length c4), (31, .slice A3 (y8.set y9.toNat (⟨(if t10.Most < (IntKind.i16.wrap (t10.Grass + t10.Grows)) then t10.Most else (IntKind.i16.wrap (t10.Grass + t10.Grows))), t12.Grows, t12.Most⟩ : Meadow)).length c4), (32, .int .i64 ((t2.set a2.toNat (⟨IntKind.i16.wrap (t5.Grass - (IntKind.i16.wrap a1)), t6.Grows, t6.Most⟩ : Meadow)).length : Int)), (33, .int .i64 (IntKind.i64.wrap (y9 + 1)))]) ⟨rfl, rfl, rfl, rfl, trivial⟩ (Nat.lt_succ_self _) ⟨(y8.set y9.toNat (⟨(if t10.Most < (IntKind.i16.wrap (t10.Grass + t10.Grows)) then t10.Most else (IntKind.i16.wrap (t10.Grass + t10.Grows))), t12.Grows, t12.Most⟩ : Meadow)), (IntKind.i64.wrap (y9 + 1)), rfl, hS.pick [0] [0] rfl, H⟩
        · replace H := pif_f (of_decide_eq_false hb) H
          refine CJ.exit (EJ.skE (EJ.skE (EJ.hit (?_))))
          exact EJ.meet (F' := [(8, .slice A3 y8.length c4)]) ⟨rfl, trivial⟩ ⟨y8, H, rfl, hS.pick [0] [0] rfl⟩
    · rintro F w1 ⟨y7, he, rfl, hS⟩
      obtain rfl := Option.some.inj he
      have H := K81
      refine EJ.next ?_
      refine CJ.seq ?_
      refine CJ.region ?_
      refine OJ.pures tU_ok 3 rfl ?_
      refine OJ.nil (EJ.next ?_)
      refine CJ.ret (?_)
      obtain rfl := Option.some.inj H
      exact EJ.fin rfl (.tmp rfl (.tmp rfl .nil)) ⟨A3, c4, rfl, hS.pick [0] [] rfl⟩

def slices_Clone_int64_int64.f (a0 : List Int) : Option (List Int) := (chk (([] : List Int).length + a0.length ≤ 4294967296)).bind fun _ => some a0
theorem slices_Clone_int64_int64.c (w : World) (A : Option Addr) (c : Nat) (a0 : List Int) (hr0 : Rd (ci .i64) w A a0) (hc0 : a0.length ≤ c) (r : List Int) (H : slices_Clone_int64_int64.f a0 = some r) :
    CV Try.prog 168 [.slice A a0.length c].toArray w fun v w' => ∃ (A0 : Option Addr) (c0 : Nat), v = .slice A0 r.length c0 ∧ St w no w' [rowC (ci .i64) A0 c0 2 r] [] := by
  have hS := ((St.init w no).param (ci .i64) A c a0 hr0 hc0)
  obtain ⟨u, hu, H⟩ := pbind H
  obtain rfl := Option.some.inj H
  refine CV.body Try.func168 rfl Try.ntmps168 rfl ?_
  refine CJ.seq ?_
  refine CJ.region ?_
  refine OJ.pures tU_ok 1 rfl ?_
  refine OJ.nil (EJ.next ?_)
  refine CJ.seq ?_
  refine CJ.seq ?_
  refine CJ.region ?_
  refine OJ.pures tU_ok 1 rfl ?_
  refine OJ.st rfl rfl rfl (SR.eqNil tU_ok rfl rfl rfl rfl) ?_
  refine OJ.nil (EJ.next ?_)
  refine CJ.cond rfl (fun hb => ?_) (fun hb => ?_)
  · obtain rfl := hr0.isNone hb
    refine CJ.seq ?_
    refine CJ.region ?_
    refine OJ.pures tU_ok 1 rfl ?_
    refine OJ.nil (EJ.next ?_)
    refine CJ.ret (EJ.skR ?_)
    replace hS := hS.addNil (ci .i64) 2 none
    exact EJ.fin rfl (.tmp rfl .nil) ⟨none, 0, rfl, hS.pick [0] [] rfl⟩
  · refine CJ.skip (EJ.next ?_)
    refine CJ.seq ?_
    refine CJ.region ?_
    refine OJ.ef rfl rfl rfl (Ef.lit tU_ok tI_ok hS (C := (ci .i64)) rfl rfl rfl rfl rfl rfl ([] : List Int) rfl rfl rfl rfl) ?_
    rintro _ w1 ⟨A1, rfl, hS⟩
    refine OJ.pures tU_ok 1 rfl ?_
    refine OJ.ew rfl rfl rfl (Ew.append tU_ok tI_ok (C := (ci .i64)) (xs := ([] : List Int)) (ys := a0) hS (i := 0) rfl rfl rfl rfl rfl rfl rfl rfl rfl rfl rfl rfl rfl (hS.rd' (i := 0) rfl) (chk_some hu)) ?_
    rintro _ w1 ⟨A2, c2, rfl, hS⟩
    refine OJ.pures tU_ok 1 rfl ?_
    refine OJ.nil (EJ.next ?_)
    exact CJ.ret (EJ.fin rfl (.tmp rfl .nil) ⟨A2, c2, rfl, hS.pick [0] [] rfl⟩)

def impl_planner_find.l1 (self : planner → (List Meadow) → (List Int) → Option (List Int × Bool × planner)) (a1 : List Meadow) (a2 : List Int) (t2 : Int) : Nat → planner → Int → Option ((List Int × Bool × planner) ⊕ planner)
  | 0, _, _ => none
  | k + 1, y4, y5 => if y5 < t2 then ((impl_behind.f k a1 y4.need y5).bind fun t6 => if (!t6.2) = true then (impl_planner_find.l1 self a1 a2 t2 k y4 (IntKind.i64.wrap (y5 + 1))) else (if y4.tries = y4.budget then (some (Sum.inl ([], false, (⟨y4.need, y4.days, y4.budget, y4.tries, true⟩ : planner)))) else ((slices_Clone_int64_int64.f a2).bind fun t9 => (chk (t9.length + ([y5] : List Int).length ≤ 4294967296)).bind fun u13 => (self (⟨y4.need, y4.days, y4.budget, IntKind.i64.wrap (y4.tries + 1), y4.over_⟩ : planner) t6.1 (t9 ++ ([y5] : List Int))).bind fun t16 => if t16.2.1 = true then (some (Sum.inl (t16.1, t16.2.1, t16.2.2))) else (if t16.2.2.over_ = true then (some (Sum.inl (t16.1, t16.2.1, t16.2.2))) else (impl_planner_find.l1 self a1 a2 t2 k t16.2.2 (IntKind.i64.wrap (y5 + 1))))))) else (some (Sum.inr y4))
def impl_planner_find.f : Nat → planner → (List Meadow) → (List Int) → Option (List Int × Bool × planner)
  | 0, _, _, _ => none
  | k + 1, a0, a1, a2 => (impl_size_int64.f a2).bind fun t1 => if t1 = a0.days then (some (a2, true, a0)) else ((impl_size_impl_Meadow.f a1).bind fun t2 => (impl_planner_find.l1 (impl_planner_find.f k) a1 a2 t2 k a0 0).bind fun s83 => match s83 with | .inl r => some r | .inr y3 => some ([], false, y3))
theorem impl_planner_find.c : ∀ (k : Nat) (w : World) (ba0 : Nat) (a0 : planner) (Aa1 : Option Addr) (ca1 : Nat) (a1 : List Meadow) (Aa2 : Option Addr) (ca2 : Nat) (a2 : List Int) (hin : St w (fpU [box ba0 (cplanner.enc a0) 179, rowC (ci .i64) Aa2 ca2 2 a2]) w [box ba0 (cplanner.enc a0) 179, rowC (ci .i64) Aa2 ca2 2 a2] [roC cMeadow Aa1 ca1 a1]) (r : List Int × Bool × planner) (H : impl_planner_find.f k a0 a1 a2 = some r),
    CV Try.prog 143 [.pointer (some ⟨ba0, 0, none⟩), .slice Aa1 a1.length ca1, .slice Aa2 a2.length ca2].toArray w fun v w' => ∃ (A0 : Option Addr) (c0 : Nat), v = .tuple #[.slice A0 r.1.length c0, .bool r.2.1] ∧ St w (fpU [box ba0 (cplanner.enc a0) 179, rowC (ci .i64) Aa2 ca2 2 a2]) w' [box ba0 (cplanner.enc r.2.2) 179, rowC (ci .i64) A0 c0 2 r.1] [] := by
  intro k
  induction k
  · intro w ba0 a0 Aa1 ca1 a1 Aa2 ca2 a2 hin r H; rw [impl_planner_find.f] at H; cases H
  rename_i k ih
  intro w ba0 a0 Aa1 ca1 a1 Aa2 ca2 a2 hin r H
  have hS := hin
  rw [impl_planner_find.f] at H
  generalize impl_planner_find.f k = self at H ih
  refine CV.body Try.func143 rfl Try.ntmps143 rfl ?_
  refine CJ.seq ?_
  refine CJ.region ?_
  refine OJ.pures tU_ok 2 rfl ?_
  refine OJ.nil (EJ.next ?_)
  refine CJ.seq ?_
  refine CJ.seq ?_
  refine CJ.draw [] [0, 2, 3, 4, 5, 1, 6] mixed (by kernel_rfl) hS fun w1 hS => ?_
  refine DJ.pures tU_ok 3 rfl ?_
  refine DJ.st rfl rfl rfl rfl rfl (SR.fieldAddr tU_ok tI_ok rfl rfl rfl rfl rfl rfl) ?_
  refine DJ.st rfl rfl rfl rfl rfl (SR.load rfl rfl (fun w' hx => ld1 tU_ok rfl rfl (CA.ext (CA.sub (hS.cells (i := 0) rfl) 1) hx) rfl)) ?_
  obtain ⟨t1, ht1, H⟩ := pbind H
  refine DJ.callF rfl rfl rfl rfl rfl rfl rfl hb113 rfl (impl_size_int64.c _ Aa2 ca2 a2 (hS.rd (i := 1) rfl) (hS.le (i := 1) rfl) _ ht1) (by rintro v w' ⟨rfl, hs⟩; exact hs) ?_
  rintro _ w1 ⟨rfl, hs⟩
  replace hS := hS.grow hs
  refine DJ.pures tU_ok 1 rfl ?_
  refine DJ.nil (EJ.next ?_)
  refine CJ.cond rfl (fun hb => ?_) (fun hb => ?_)
  · replace H := pif_t (of_decide_eq_true hb) H
    refine CJ.seq ?_
    refine CJ.region ?_
    refine OJ.pures tU_ok 3 rfl ?_
    refine OJ.nil (EJ.next ?_)
    refine CJ.ret (EJ.skR (?_))
    obtain rfl := Option.some.inj H
    exact EJ.fin rfl (.tmp rfl (.tmp rfl .nil)) ⟨Aa2, ca2, rfl, hS.pick [0, 1] [] rfl⟩
  · replace H := pif_f (of_decide_eq_false hb) H
    refine CJ.skip (EJ.next ?_)
    refine CJ.seq ?_
    refine CJ.seq ?_
    refine CJ.region ?_
    refine OJ.pures tU_ok 1 rfl ?_
    obtain ⟨t2, ht2, H⟩ := pbind H
    refine OJ.callF rfl rfl rfl rfl rfl hb117 rfl (impl_size_impl_Meadow.c _ Aa1 ca1 a1 (hS.rd' (i := 0) rfl) (hS.le' (i := 0) rfl) _ ht2) ?_
    rintro _ w1 ⟨rfl, hs⟩
    replace hS := hS.grow hs
    refine OJ.pures tU_ok 1 rfl ?_
    refine OJ.nil (EJ.next ?_)
    obtain ⟨j83, H, K83⟩ := pbind H
    refine CJ.cut1 (fun F w1 => ∃ (y3 : planner) , (some (Sum.inr y3) : Option ((List Int × Bool × planner) ⊕ planner)) = some j83 ∧ F = [] ∧ St w (fpU [box ba0 (cplanner.enc a0) 179, rowC (ci .i64) Aa2 ca2 2 a2]) w1 [box ba0 (cplanner.enc y3) 179] [roC cMeadow Aa1 ca1 a1]) ?_ ?_
    · skip
      refine CJ.block ?_
      refine CJ.loop (fun k F w1 => ∃ (y4 : planner) (y5 : Int), F = [(0, .pointer (some ⟨ba0, 0, none⟩)), (1, .slice Aa1 a1.length ca1), (2, .slice Aa2 a2.length ca2), (22, .int .i64 t2), (23, .int .i64 y5)] ∧ St w (fpU [box ba0 (cplanner.enc a0) 179, rowC (ci .i64) Aa2 ca2 2 a2]) w1 [box ba0 (cplanner.enc y4) 179, rowC (ci .i64) Aa2 ca2 2 a2] [roC cMeadow Aa1 ca1 a1] ∧ impl_planner_find.l1 self a1 a2 t2 k y4 y5 = some j83) k (F' := [(0, .pointer (some ⟨ba0, 0, none⟩)), (1, .slice Aa1 a1.length ca1), (2, .slice Aa2 a2.length ca2), (22, .int .i64 t2), (23, .int .i64 0)]) ⟨rfl, rfl, rfl, rfl, rfl, trivial⟩ ⟨a0, 0, rfl, hS.pick [0, 1] [0] rfl, H⟩ ?_
      rintro k F w1 ⟨y4, y5, rfl, hS, H⟩
      cases k with
      | zero => rw [impl_planner_find.l1] at H; cases H
      | succ k =>
        rw [impl_planner_find.l1] at H
        refine CJ.seq ?_
        refine CJ.region ?_
        refine OJ.pures tU_ok 1 rfl ?_
        refine OJ.nil (EJ.next ?_)
        refine CJ.seq ?_
        refine CJ.cond rfl (fun hb => ?_) (fun hb => ?_)
        · replace H := pif_t (of_decide_eq_true hb) H
          refine CJ.skip (EJ.next ?_)
          refine CJ.seq ?_
          refine CJ.block ?_
          refine CJ.seq ?_
          refine CJ.region ?_
          refine OJ.pures tU_ok 2 rfl ?_
          refine OJ.nil (EJ.next ?_)
          refine CJ.seq ?_
          refine CJ.region ?_
          refine OJ.pures tU_ok 3 rfl ?_
          refine OJ.st rfl rfl rfl (SR.fieldAddr tU_ok tI_ok rfl rfl rfl rfl rfl rfl) ?_
          refine OJ.st rfl rfl rfl (SR.load rfl rfl (fun w' hx => ld1 tU_ok rfl rfl (CA.ext (CA.sub (hS.cells (i := 0) rfl) 0) hx) rfl)) ?_
          refine OJ.pures tU_ok 1 rfl ?_
          obtain ⟨t6, ht6, H⟩ := pbind H
          refine OJ.callF rfl rfl rfl rfl rfl hb122 rfl (impl_behind.c k _ Aa1 ca1 a1 (hS.rd' (i := 0) rfl) (hS.le' (i := 0) rfl) y4.need y5 _ ht6) ?_
          rintro _ w1 ⟨A7, c8, rfl, hs⟩
          replace hS := hS.addN hs
          refine OJ.pures tU_ok 5 rfl ?_
          refine OJ.nil (EJ.next ?_)
          refine CJ.seq ?_
          refine CJ.seq ?_
          refine CJ.region ?_
          refine OJ.pures tU_ok 2 rfl ?_
          refine OJ.nil (EJ.next ?_)
          refine CJ.cond rfl (fun hb => ?_) (fun hb => ?_)
          · replace H := pif_t hb H
            refine CJ.exit (EJ.skE (EJ.hit (EJ.next ?_)))
            refine CJ.region ?_
            refine OJ.pures tU_ok 2 rfl ?_
            refine OJ.nil ?_
            exact EJ.round k (F' := [(0, .pointer (some ⟨ba0, 0, none⟩)), (1, .slice Aa1 a1.length ca1), (2, .slice Aa2 a2.length ca2), (22, .int .i64 t2), (23, .int .i64 (IntKind.i64.wrap (y5 + 1)))]) ⟨rfl, rfl, rfl, rfl, rfl, trivial⟩ (Nat.lt_succ_self _) ⟨y4, (IntKind.i64.wrap (y5 + 1)), rfl, hS.pick [0, 1] [0] rfl, H⟩
          · replace H := pifb_f hb H
            refine CJ.skip (EJ.next ?_)
            refine CJ.seq ?_
            refine CJ.seq ?_
            refine CJ.draw [] [0, 1, 2, 3, 4, 5, 6, 7, 8] mixed (by kernel_rfl) hS fun w1 hS => ?_
            refine DJ.pures tU_ok 2 rfl ?_
            refine DJ.st rfl rfl rfl rfl rfl (SR.fieldAddr tU_ok tI_ok rfl rfl rfl rfl rfl rfl) ?_
            refine DJ.st rfl rfl rfl rfl rfl (SR.load rfl rfl (fun w' hx => ld1 tU_ok rfl rfl (CA.ext (CA.sub (hS.cells (i := 0) rfl) 3) hx) rfl)) ?_
            refine DJ.pures tU_ok 2 rfl ?_
            refine DJ.st rfl rfl rfl rfl rfl (SR.fieldAddr tU_ok tI_ok rfl rfl rfl rfl rfl rfl) ?_
            refine DJ.st rfl rfl rfl rfl rfl (SR.load rfl rfl (fun w' hx => ld1 tU_ok rfl rfl (CA.ext (CA.sub (hS.cells (i := 0) rfl) 2) hx) rfl)) ?_
            refine DJ.pures tU_ok 1 rfl ?_
            refine DJ.nil (EJ.next ?_)
            refine CJ.cond rfl (fun hb => ?_) (fun hb => ?_)
            · replace H := pif_t (of_decide_eq_true hb) H
              refine CJ.seq ?_
              refine CJ.region ?_
              refine OJ.pures tU_ok 2 rfl ?_
              refine OJ.st rfl rfl rfl (SR.fieldAddr tU_ok tI_ok rfl rfl rfl rfl rfl rfl) ?_
              refine OJ.es rfl rfl (Es.store tI_ok hS (i := 0) rfl rfl rfl (ad1 _ _) rfl rfl (vs := cb.enc true) rfl rfl (one1 rfl) (Nat.le_of_ble_eq_true rfl) (cplanner.enc (⟨y4.need, y4.days, y4.budget, y4.tries, true⟩ : planner)) rfl) ?_
              intro w1 hS
              refine OJ.nil (EJ.next ?_)
              refine CJ.seq ?_
              refine CJ.region ?_
              refine OJ.pures tU_ok 2 rfl ?_
              refine OJ.nil (EJ.next ?_)
              refine CJ.ret (EJ.skR (EJ.bkR (EJ.skR (EJ.skR (EJ.bkR (EJ.skR (EJ.skR (?_))))))))
              first | (obtain rfl := Option.some.inj H; have H := K83) | (obtain ⟨q83, H2, e83⟩ := pbind H; obtain rfl := Option.some.inj e83; obtain rfl := Option.some.inj K83; have H := H2)
              replace hS := hS.addNil (ci .i64) 2 none
              obtain rfl := Option.some.inj H
              exact EJ.fin rfl (.tmp rfl (.tmp rfl .nil)) ⟨none, 0, rfl, hS.pick [0, 3] [] rfl⟩
            · replace H := pif_f (of_decide_eq_false hb) H
              refine CJ.skip (EJ.next ?_)
              refine CJ.seq ?_
              refine CJ.region ?_
              refine OJ.pures tU_ok 2 rfl ?_
              refine OJ.st rfl rfl rfl (SR.fieldAddr tU_ok tI_ok rfl rfl rfl rfl rfl rfl) ?_
              refine OJ.st rfl rfl rfl (SR.load rfl rfl (fun w' hx => ld1 tU_ok rfl rfl (CA.ext (CA.sub (hS.cells (i := 0) rfl) 3) hx) rfl)) ?_
              refine OJ.pures tU_ok 2 rfl ?_
              refine OJ.st rfl rfl rfl (SR.fieldAddr tU_ok tI_ok rfl rfl rfl rfl rfl rfl) ?_
              refine OJ.es rfl rfl (Es.store tI_ok hS (i := 0) rfl rfl rfl (ad1 _ _) rfl rfl (vs := (ci .i64).enc (IntKind.i64.wrap (y4.tries + 1))) rfl rfl (one1 rfl) (Nat.le_of_ble_eq_true rfl) (cplanner.enc (⟨y4.need, y4.days, y4.budget, IntKind.i64.wrap (y4.tries + 1), y4.over_⟩ : planner)) rfl) ?_
              intro w1 hS
              refine OJ.nil (EJ.next ?_)
              refine CJ.seq ?_
              refine CJ.region ?_
              refine OJ.pures tU_ok 3 rfl ?_
              obtain ⟨t9, ht9, H⟩ := pbind H
              refine OJ.callF rfl rfl rfl rfl rfl hb168 rfl (slices_Clone_int64_int64.c _ Aa2 ca2 a2 (hS.rd (i := 1) rfl) (hS.le (i := 1) rfl) _ ht9) ?_
              rintro _ w1 ⟨A10, c11, rfl, hs⟩
              replace hS := hS.addN hs
              refine OJ.pures tU_ok 1 rfl ?_
              refine OJ.ef rfl rfl rfl (Ef.lit tU_ok tI_ok hS (C := (ci .i64)) rfl rfl rfl rfl rfl rfl ([y5] : List Int) rfl rfl rfl rfl) ?_
              rintro _ w1 ⟨A12, rfl, hS⟩
              obtain ⟨u13, hu13, H⟩ := pbind H
              refine OJ.ew rfl rfl rfl (Ew.append tU_ok tI_ok (C := (ci .i64)) (xs := t9) (ys := ([y5] : List Int)) hS (i := 3) rfl rfl rfl rfl rfl rfl rfl rfl rfl rfl rfl rfl rfl (hS.rd (i := 4) rfl) (chk_some hu13)) ?_
              rintro _ w1 ⟨A14, c15, rfl, hS⟩
              obtain ⟨t16, ht16, H⟩ := pbind H
              refine OJ.callF rfl rfl rfl rfl rfl hb143 rfl (ih _ ba0 (⟨y4.need, y4.days, y4.budget, IntKind.i64.wrap (y4.tries + 1), y4.over_⟩ : planner) A7 c8 t6.1 A14 c15 (t9 ++ ([y5] : List Int)) (((hS.subs [0, 3] [] [2] rfl).rToRo (i := 0) rfl).pick [0, 1] [0] rfl) _ ht16) ?_
              rintro _ w1 ⟨A17, c18, rfl, hs⟩
              replace hS := hS.back' [0] [3] rfl rfl [box ba0 (cplanner.enc t16.2.2) 179] [rowC (ci .i64) A17 c18 2 t16.1] [] hs ⟨fun _ => Iff.rfl, trivial⟩ (fun _ h => by cases h) (.inr rfl)
              refine OJ.pures tU_ok 5 rfl ?_
              refine OJ.nil (EJ.next ?_)
              refine CJ.seq ?_
              refine CJ.region ?_
              refine OJ.pures tU_ok 2 rfl ?_
              refine OJ.split (t := 69) rfl (fun hb => ?_) (fun hb => ?_)
              · replace H := pif_t hb H
                refine OJ.pures tU_ok 5 rfl ?_
                refine OJ.nil (EJ.next ?_)
                refine CJ.condT rfl ?_
                refine CJ.seq ?_
                refine CJ.region ?_
                refine OJ.pures tU_ok 4 rfl ?_
                refine OJ.nil (EJ.next ?_)
                refine CJ.ret (EJ.bkR (EJ.skR (EJ.skR (EJ.bkR (EJ.skR (EJ.skR (?_)))))))
                first | (obtain rfl := Option.some.inj H; have H := K83) | (obtain ⟨q83, H2, e83⟩ := pbind H; obtain rfl := Option.some.inj e83; obtain rfl := Option.some.inj K83; have H := H2)
                obtain rfl := Option.some.inj H
                exact EJ.fin rfl (.tmp rfl (.tmp rfl .nil)) ⟨A17, c18, rfl, hS.pick [0, 5] [] rfl⟩
              · replace H := pifb_f hb H
                refine OJ.pures tU_ok 2 rfl ?_
                refine OJ.st rfl rfl rfl (SR.fieldAddr tU_ok tI_ok rfl rfl rfl rfl rfl rfl) ?_
                refine OJ.st rfl rfl rfl (SR.load rfl rfl (fun w' hx => ld1 tU_ok rfl rfl (CA.ext (CA.sub (hS.cells (i := 0) rfl) 4) hx) rfl)) ?_
                refine OJ.pures tU_ok 1 rfl ?_
                refine OJ.nil (EJ.next ?_)
                refine CJ.cond rfl (fun hb => ?_) (fun hb => ?_)
                · replace H := pif_t hb H
                  refine CJ.seq ?_
                  refine CJ.region ?_
                  refine OJ.pures tU_ok 4 rfl ?_
                  refine OJ.nil (EJ.next ?_)
                  refine CJ.ret (EJ.bkR (EJ.skR (EJ.skR (EJ.bkR (EJ.skR (EJ.skR (?_)))))))
                  first | (obtain rfl := Option.some.inj H; have H := K83) | (obtain ⟨q83, H2, e83⟩ := pbind H; obtain rfl := Option.some.inj e83; obtain rfl := Option.some.inj K83; have H := H2)
                  obtain rfl := Option.some.inj H
                  exact EJ.fin rfl (.tmp rfl (.tmp rfl .nil)) ⟨A17, c18, rfl, hS.pick [0, 5] [] rfl⟩
                · replace H := pifb_f hb H
                  refine CJ.skip (EJ.blk (EJ.next ?_))
                  refine CJ.region ?_
                  refine OJ.pures tU_ok 2 rfl ?_
                  refine OJ.nil ?_
                  exact EJ.round k (F' := [(0, .pointer (some ⟨ba0, 0, none⟩)), (1, .slice Aa1 a1.length ca1), (2, .slice Aa2 a2.length ca2), (22, .int .i64 t2), (23, .int .i64 (IntKind.i64.wrap (y5 + 1)))]) ⟨rfl, rfl, rfl, rfl, rfl, trivial⟩ (Nat.lt_succ_self _) ⟨t16.2.2, (IntKind.i64.wrap (y5 + 1)), rfl, hS.pick [0, 1] [0] rfl, H⟩
        · replace H := pif_f (of_decide_eq_false hb) H
          refine CJ.exit (EJ.skE (EJ.skE (EJ.hit (?_))))
          exact EJ.meet (F' := []) trivial ⟨y4, H, rfl, hS.pick [0] [0] rfl⟩
    · rintro F w1 ⟨y3, he, rfl, hS⟩
      obtain rfl := Option.some.inj he
      have H := K83
      refine EJ.next ?_
      refine CJ.seq ?_
      refine CJ.region ?_
      refine OJ.pures tU_ok 2 rfl ?_
      refine OJ.nil (EJ.next ?_)
      refine CJ.ret (?_)
      replace hS := hS.addNil (ci .i64) 2 none
      obtain rfl := Option.some.inj H
      exact EJ.fin rfl (.tmp rfl (.tmp rfl .nil)) ⟨none, 0, rfl, hS.pick [0, 1] [] rfl⟩

def impl_firstPlan.f (k : Nat) (a0 : List Meadow) (a1 : Int) (a2 : Int) (a3 : Int) : Option (List Int × Int × Int) := (impl_planner_find.f k (⟨a1, a2, a3, 0, false⟩ : planner) a0 ([] : List Int)).bind fun t2 => if t2.2.2.over_ = true then (some ([], 0, 7)) else (if (!t2.2.1) = true then (some ([], 0, 6)) else (some (t2.1, t2.2.2.tries, 0)))
theorem impl_firstPlan.c (k : Nat) (w : World) (Aa0 : Option Addr) (ca0 : Nat) (a0 : List Meadow) (hr0 : Rd cMeadow w Aa0 a0) (hc0 : a0.length ≤ ca0) (a1 : Int) (a2 : Int) (a3 : Int) (r : List Int × Int × Int) (H : impl_firstPlan.f k a0 a1 a2 a3 = some r) :
    CV Try.prog 90 [.slice Aa0 a0.length ca0, .int .i64 a1, .int .i64 a2, .int .i64 a3].toArray w fun v w' => ∃ (A0 : Option Addr) (c0 : Nat), v = .tuple #[.slice A0 r.1.length c0, .int .i64 r.2.1, .int .i64 r.2.2] ∧ St w no w' [rowC (ci .i64) A0 c0 2 r.1] [] := by
  have hS := ((St.init w no).param cMeadow Aa0 ca0 a0 hr0 hc0)
  unfold impl_firstPlan.f at H
  refine CV.body Try.func90 rfl Try.ntmps90 rfl ?_
  refine CJ.seq ?_
  refine CJ.region ?_
  refine OJ.pures tU_ok 3 rfl ?_
  refine OJ.nil (EJ.next ?_)
  refine CJ.seq ?_
  refine CJ.region ?_
  refine OJ.pures tU_ok 3 rfl ?_
  refine OJ.st rfl rfl rfl (SR.build (C := cplanner) tU_ok tI_ok rfl rfl rfl (zs := [.int .i64 0, .int .i64 0, .int .i64 0, .int .i64 0, .bool false]) rfl rfl rfl (⟨a1, a2, a3, 0, false⟩ : planner) rfl) ?_
  refine OJ.ef rfl rfl rfl (Ef.box hS rfl rfl (cplanner.enc (⟨a1, a2, a3, 0, false⟩ : planner)) rfl) ?_
  rintro _ w1 ⟨b1, rfl, hS⟩
  refine OJ.pures tU_ok 1 rfl ?_
  refine OJ.nil (EJ.next ?_)
  refine CJ.seq ?_
  refine CJ.region ?_
  refine OJ.pures tU_ok 2 rfl ?_
  replace hS := hS.addNil (ci .i64) 2 none
  obtain ⟨t2, ht2, H⟩ := pbind H
  refine OJ.callF rfl rfl rfl rfl rfl hb143 rfl (impl_planner_find.c k _ b1 (⟨a1, a2, a3, 0, false⟩ : planner) Aa0 ca0 a0 none 0 ([] : List Int) ((hS.subs [0, 1] [0] [] rfl).pick [0, 1] [0] rfl) _ ht2) ?_
  rintro _ w1 ⟨A3, c4, rfl, hs⟩
  replace hS := hS.back' [0] [1] rfl rfl [box b1 (cplanner.enc t2.2.2) 179] [rowC (ci .i64) A3 c4 2 t2.1] [] hs ⟨fun _ => Iff.rfl, trivial⟩ (fun _ h => by cases h) (.inr rfl)
  refine OJ.pures tU_ok 5 rfl ?_
  refine OJ.nil (EJ.next ?_)
  refine CJ.seq ?_
  refine CJ.block ?_
  refine CJ.seq ?_
  refine CJ.region ?_
  refine OJ.pures tU_ok 2 rfl ?_
  refine OJ.st rfl rfl rfl (SR.fieldAddr tU_ok tI_ok rfl rfl rfl rfl rfl rfl) ?_
  refine OJ.st rfl rfl rfl (SR.load rfl rfl (fun w' hx => ld1 tU_ok rfl rfl (CA.ext (CA.sub (hS.cells (i := 0) rfl) 4) hx) rfl)) ?_
  refine OJ.pures tU_ok 1 rfl ?_
  refine OJ.nil (EJ.next ?_)
  refine CJ.cond rfl (fun hb => ?_) (fun hb => ?_)
  · replace H := pif_t hb H
    refine CJ.seq ?_
    refine CJ.region ?_
    refine OJ.pures tU_ok 3 rfl ?_
    refine OJ.nil (EJ.next ?_)
    refine CJ.ret (EJ.bkR (EJ.skR (?_)))
    replace hS := hS.addNil (ci .i64) 2 none
    obtain rfl := Option.some.inj H
    exact EJ.fin rfl (.tmp rfl (.tmp rfl (.tmp rfl .nil))) ⟨none, 0, rfl, hS.pick [3] [] rfl⟩
  · replace H := pifb_f hb H
    refine CJ.seq ?_
    refine CJ.region ?_
    refine OJ.pures tU_ok 3 rfl ?_
    refine OJ.nil (EJ.next ?_)
    refine CJ.cond rfl (fun hb => ?_) (fun hb => ?_)
    · replace H := pif_t hb H
      refine CJ.seq ?_
      refine CJ.region ?_
      refine OJ.pures tU_ok 3 rfl ?_
      refine OJ.nil (EJ.next ?_)
      refine CJ.ret (EJ.bkR (EJ.skR (?_)))
      replace hS := hS.addNil (ci .i64) 2 none
      obtain rfl := Option.some.inj H
      exact EJ.fin rfl (.tmp rfl (.tmp rfl (.tmp rfl .nil))) ⟨none, 0, rfl, hS.pick [3] [] rfl⟩
    · replace H := pifb_f hb H
      refine CJ.skip (EJ.blk (EJ.next ?_))
      refine CJ.seq ?_
      refine CJ.draw [] [0, 1, 2, 3, 4, 5, 6, 7] mixed (by kernel_rfl) hS fun w1 hS => ?_
      refine DJ.pures tU_ok 3 rfl ?_
      refine DJ.st rfl rfl rfl rfl rfl (SR.fieldAddr tU_ok tI_ok rfl rfl rfl rfl rfl rfl) ?_
      refine DJ.st rfl rfl rfl rfl rfl (SR.load rfl rfl (fun w' hx => ld1 tU_ok rfl rfl (CA.ext (CA.sub (hS.cells (i := 0) rfl) 3) hx) rfl)) ?_
      refine DJ.pures tU_ok 3 rfl ?_
      refine DJ.nil (EJ.next ?_)
      refine CJ.ret (?_)
      obtain rfl := Option.some.inj H
      exact EJ.fin rfl (.tmp rfl (.tmp rfl (.tmp rfl .nil))) ⟨A3, c4, rfl, hS.pick [2] [] rfl⟩

def impl_GreatestNeed.l1 (a0 : List Meadow) (a1 : Int) (a2 : Int) : Nat → Int → Option ((Int × Int) ⊕ Int)
  | 0, _ => none
  | k + 1, y6 => if y6 < 1000 then ((impl_firstPlan.f k a0 (IntKind.i64.wrap (y6 + 1)) a1 a2).bind fun t7 => if t7.2.2 = 7 then (some (Sum.inl (0, t7.2.2))) else (if t7.2.2 = 6 then (some (Sum.inr y6)) else (impl_GreatestNeed.l1 a0 a1 a2 k (IntKind.i64.wrap (y6 + 1))))) else (some (Sum.inr y6))
def impl_GreatestNeed.f (k : Nat) (a0 : List Meadow) (a1 : Int) (a2 : Int) : Option (Int × Int) := (impl_spanCode.f k a0 1 a1 a2).bind fun t1 => (impl_unless.f (decide (1 ≤ a1)) 2).bind fun t2 => (impl_firstOf.f k ([t1, t2] : List Int)).bind fun t4 => if t4 ≠ 0 then (some (0, t4)) else ((impl_GreatestNeed.l1 a0 a1 a2 k 0).bind fun s79 => match s79 with | .inl r => some r | .inr y5 => if y5 = 0 then (some (0, 6)) else (some (y5, 0)))
theorem impl_GreatestNeed.c (k : Nat) (w : World) (Aa0 : Option Addr) (ca0 : Nat) (a0 : List Meadow) (hr0 : Rd cMeadow w Aa0 a0) (hc0 : a0.length ≤ ca0) (a1 : Int) (a2 : Int) (r : Int × Int) (H : impl_GreatestNeed.f k a0 a1 a2 = some r) :
    CV Try.prog 23 [.slice Aa0 a0.length ca0, .int .i64 a1, .int .i64 a2].toArray w fun v w' => v = .tuple #[.int .i64 r.1, .int .i64 r.2] ∧ Ext w w' := by
  have hS := ((St.init w no).param cMeadow Aa0 ca0 a0 hr0 hc0)
  unfold impl_GreatestNeed.f at H
  refine CV.body Try.func23 rfl Try.ntmps23 rfl ?_
  refine CJ.seq ?_
  refine CJ.region ?_
  refine OJ.pures tU_ok 2 rfl ?_
  refine OJ.nil (EJ.next ?_)
  refine CJ.seq ?_
  refine CJ.seq ?_
  refine CJ.region ?_
  refine OJ.pures tU_ok 3 rfl ?_
  obtain ⟨t1, ht1, H⟩ := pbind H
  refine OJ.callF rfl rfl rfl rfl rfl hb88 rfl (impl_spanCode.c k _ Aa0 ca0 a0 (hS.rd' (i := 0) rfl) (hS.le' (i := 0) rfl) 1 a1 a2 _ ht1) ?_
  rintro _ w1 ⟨rfl, hs⟩
  replace hS := hS.grow hs
  refine OJ.pures tU_ok 2 rfl ?_
  obtain ⟨t2, ht2, H⟩ := pbind H
  refine OJ.callF rfl rfl rfl rfl rfl hb89 rfl (impl_unless.c _ (decide (1 ≤ a1)) 2 _ ht2) ?_
  rintro _ w1 ⟨rfl, hs⟩
  replace hS := hS.grow hs
  refine OJ.ef rfl rfl rfl (Ef.lit tU_ok tI_ok hS (C := (ci .i64)) rfl rfl rfl rfl rfl rfl ([t1, t2] : List Int) rfl rfl rfl rfl) ?_
  rintro _ w1 ⟨A3, rfl, hS⟩
  obtain ⟨t4, ht4, H⟩ := pbind H
  refine OJ.callF rfl rfl rfl rfl rfl hb87 rfl (impl_firstOf.c k _ A3 (([t1, t2] : List Int).length) ([t1, t2] : List Int) (hS.rd (i := 0) rfl) (hS.le (i := 0) rfl) _ ht4) ?_
  rintro _ w1 ⟨rfl, hs⟩
  replace hS := hS.grow hs
  refine OJ.pures tU_ok 1 rfl ?_
  refine OJ.nil (EJ.next ?_)
  refine CJ.seq ?_
  refine CJ.region ?_
  refine OJ.pures tU_ok 2 rfl ?_
  refine OJ.nil (EJ.next ?_)
  refine CJ.cond rfl (fun hb => ?_) (fun hb => ?_)
  · replace H := pif_t (of_decide_eq_true hb) H
    refine CJ.seq ?_
    refine CJ.region ?_
    refine OJ.pures tU_ok 3 rfl ?_
    refine OJ.nil (EJ.next ?_)
    refine CJ.ret (EJ.skR (?_))
    obtain rfl := Option.some.inj H
    exact EJ.fin rfl (.tmp rfl (.tmp rfl .nil)) ⟨rfl, hS.ext⟩
  · replace H := pif_f (of_decide_eq_false hb) H
    refine CJ.skip (EJ.next ?_)
    refine CJ.seq ?_
    refine CJ.region ?_
    refine OJ.pures tU_ok 1 rfl ?_
    refine OJ.nil (EJ.next ?_)
    obtain ⟨j79, H, K79⟩ := pbind H
    refine CJ.cut (fun F w1 => ∃ (y5 : Int) , (some (Sum.inr y5) : Option ((Int × Int) ⊕ Int)) = some j79 ∧ F = [(9, .int .i64 y5)] ∧ St w no w1 [] [roC cMeadow Aa0 ca0 a0]) ?_ ?_
    · skip
      refine CJ.block ?_
      refine CJ.loop (fun k F w1 => ∃ (y6 : Int), F = [(0, .slice Aa0 a0.length ca0), (1, .int .i64 a1), (2, .int .i64 a2), (9, .int .i64 y6)] ∧ St w no w1 [] [roC cMeadow Aa0 ca0 a0] ∧ impl_GreatestNeed.l1 a0 a1 a2 k y6 = some j79) k (F' := [(0, .slice Aa0 a0.length ca0), (1, .int .i64 a1), (2, .int .i64 a2), (9, .int .i64 0)]) ⟨rfl, rfl, rfl, rfl, trivial⟩ ⟨0, rfl, hS.pick [] [0] rfl, H⟩ ?_
      rintro k F w1 ⟨y6, rfl, hS, H⟩
      cases k with
      | zero => rw [impl_GreatestNeed.l1] at H; cases H
      | succ k =>
        rw [impl_GreatestNeed.l1] at H
        refine CJ.seq ?_
        refine CJ.seq ?_
        refine CJ.region ?_
        refine OJ.pures tU_ok 2 rfl ?_
        refine OJ.nil (EJ.next ?_)
        refine CJ.cond rfl (fun hb => ?_) (fun hb => ?_)
        · replace H := pif_t (of_decide_eq_true hb) H
          refine CJ.skip (EJ.next ?_)
          refine CJ.block ?_
          refine CJ.seq ?_
          refine CJ.region ?_
          refine OJ.pures tU_ok 5 rfl ?_
          obtain ⟨t7, ht7, H⟩ := pbind H
          refine OJ.callF rfl rfl rfl rfl rfl hb90 rfl (impl_firstPlan.c k _ Aa0 ca0 a0 (hS.rd' (i := 0) rfl) (hS.le' (i := 0) rfl) (IntKind.i64.wrap (y6 + 1)) a1 a2 _ ht7) ?_
          rintro _ w1 ⟨A8, c9, rfl, hs⟩
          replace hS := hS.addN hs
          refine OJ.pures tU_ok 7 rfl ?_
          refine OJ.nil (EJ.next ?_)
          refine CJ.seq ?_
          refine CJ.seq ?_
          refine CJ.region ?_
          refine OJ.pures tU_ok 2 rfl ?_
          refine OJ.nil (EJ.next ?_)
          refine CJ.cond rfl (fun hb => ?_) (fun hb => ?_)
          · replace H := pif_t (of_decide_eq_true hb) H
            refine CJ.seq ?_
            refine CJ.region ?_
            refine OJ.pures tU_ok 3 rfl ?_
            refine OJ.nil (EJ.next ?_)
            refine CJ.ret (EJ.skR (EJ.bkR (EJ.skR (EJ.bkR (EJ.skR (?_))))))
            first | (obtain rfl := Option.some.inj H; have H := K79) | (obtain ⟨q79, H2, e79⟩ := pbind H; obtain rfl := Option.some.inj e79; obtain rfl := Option.some.inj K79; have H := H2)
            obtain rfl := Option.some.inj H
            exact EJ.fin rfl (.tmp rfl (.tmp rfl .nil)) ⟨rfl, hS.ext⟩
          · replace H := pif_f (of_decide_eq_false hb) H
            refine CJ.skip (EJ.next ?_)
            refine CJ.seq ?_
            refine CJ.seq ?_
            refine CJ.region ?_
            refine OJ.pures tU_ok 2 rfl ?_
            refine OJ.nil (EJ.next ?_)
            refine CJ.cond rfl (fun hb => ?_) (fun hb => ?_)
            · replace H := pif_t (of_decide_eq_true hb) H
              refine CJ.exit (EJ.skE (EJ.bkE rfl (EJ.skE (EJ.hit (?_)))))
              exact EJ.meet (F' := [(9, .int .i64 y6)]) ⟨rfl, trivial⟩ ⟨y6, H, rfl, hS.pick [] [0] rfl⟩
            · replace H := pif_f (of_decide_eq_false hb) H
              refine CJ.skip (EJ.next ?_)
              refine CJ.region ?_
              refine OJ.pures tU_ok 3 rfl ?_
              refine OJ.nil (EJ.blk (?_))
              exact EJ.round k (F' := [(0, .slice Aa0 a0.length ca0), (1, .int .i64 a1), (2, .int .i64 a2), (9, .int .i64 (IntKind.i64.wrap (y6 + 1)))]) ⟨rfl, rfl, rfl, rfl, trivial⟩ (Nat.lt_succ_self _) ⟨(IntKind.i64.wrap (y6 + 1)), rfl, hS.pick [] [0] rfl, H⟩
        · replace H := pif_f (of_decide_eq_false hb) H
          refine CJ.exit (EJ.skE (EJ.skE (EJ.hit (?_))))
          exact EJ.meet (F' := [(9, .int .i64 y6)]) ⟨rfl, trivial⟩ ⟨y6, H, rfl, hS.pick [] [0] rfl⟩
    · rintro F w1 ⟨y5, he, rfl, hS⟩
      obtain rfl := Option.some.inj he
      have H := K79
      refine CJ.seq ?_
      refine CJ.seq ?_
      refine CJ.region ?_
      refine OJ.pures tU_ok 2 rfl ?_
      refine OJ.nil (EJ.next ?_)
      refine CJ.cond rfl (fun hb => ?_) (fun hb => ?_)
      · replace H := pif_t (of_decide_eq_true hb) H
        refine CJ.seq ?_
        refine CJ.region ?_
        refine OJ.pures tU_ok 2 rfl ?_
        refine OJ.nil (EJ.next ?_)
        refine CJ.ret (EJ.skR (?_))
        obtain rfl := Option.some.inj H
        exact EJ.fin rfl (.tmp rfl (.tmp rfl .nil)) ⟨rfl, hS.ext⟩
      · replace H := pif_f (of_decide_eq_false hb) H
        refine CJ.skip (EJ.next ?_)
        refine CJ.seq ?_
        refine CJ.region ?_
        refine OJ.pures tU_ok 3 rfl ?_
        refine OJ.nil (EJ.next ?_)
        refine CJ.ret (?_)
        obtain rfl := Option.some.inj H
        exact EJ.fin rfl (.tmp rfl (.tmp rfl .nil)) ⟨rfl, hS.ext⟩

def laws_eqMeadow.f (a0 : Meadow) (a1 : Meadow) : Option Bool := if a0.Grass ≠ a1.Grass then (some false) else (if a0.Grows ≠ a1.Grows then (some false) else (if a0.Most ≠ a1.Most then (some false) else (some true)))
theorem laws_eqMeadow.c (w : World) (a0 : Meadow) (a1 : Meadow) (r : Bool) (H : laws_eqMeadow.f a0 a1 = some r) :
    CV Try.prog 91 [.agg (cMeadow.enc a0).toArray, .agg (cMeadow.enc a1).toArray].toArray w fun v w' => v = .bool r ∧ Ext w w' := by
  have hS := (St.init w no)
  unfold laws_eqMeadow.f at H
  refine CV.body Try.func91 rfl Try.ntmps91 rfl ?_
  refine CJ.seq ?_
  refine CJ.region ?_
  refine OJ.ef rfl rfl rfl (Ef.box hS rfl rfl (cMeadow.enc a0) rfl) ?_
  rintro _ w1 ⟨b1, rfl, hS⟩
  refine OJ.ef rfl rfl rfl (Ef.box hS rfl rfl (cMeadow.enc a1) rfl) ?_
  rintro _ w1 ⟨b2, rfl, hS⟩
  refine OJ.pures tU_ok 1 rfl ?_
  refine OJ.nil (EJ.next ?_)
  refine CJ.seq ?_
  refine CJ.seq ?_
  refine CJ.region ?_
  refine OJ.st rfl rfl rfl (SR.fieldAddr tU_ok tI_ok rfl rfl rfl rfl rfl rfl) ?_
  refine OJ.st rfl rfl rfl (SR.load rfl rfl (fun w' hx => ld1 tU_ok rfl rfl (CA.ext (CA.sub (hS.cells (i := 0) rfl) 0) hx) rfl)) ?_
  refine OJ.st rfl rfl rfl (SR.fieldAddr tU_ok tI_ok rfl rfl rfl rfl rfl rfl) ?_
  refine OJ.st rfl rfl rfl (SR.load rfl rfl (fun w' hx => ld1 tU_ok rfl rfl (CA.ext (CA.sub (hS.cells (i := 1) rfl) 0) hx) rfl)) ?_
  refine OJ.pures tU_ok 1 rfl ?_
  refine OJ.nil (EJ.next ?_)
  refine CJ.cond rfl (fun hb => ?_) (fun hb => ?_)
  · replace H := pif_t (of_decide_eq_true hb) H
    refine CJ.seq ?_
    refine CJ.region ?_
    refine OJ.pures tU_ok 1 rfl ?_
    refine OJ.nil (EJ.next ?_)
    refine CJ.ret (EJ.skR (?_))
    obtain rfl := Option.some.inj H
    exact EJ.fin rfl (.tmp rfl .nil) ⟨rfl, hS.ext⟩
  · replace H := pif_f (of_decide_eq_false hb) H
    refine CJ.skip (EJ.next ?_)
    refine CJ.seq ?_
    refine CJ.seq ?_
    refine CJ.region ?_
    refine OJ.st rfl rfl rfl (SR.fieldAddr tU_ok tI_ok rfl rfl rfl rfl rfl rfl) ?_
    refine OJ.st rfl rfl rfl (SR.load rfl rfl (fun w' hx => ld1 tU_ok rfl rfl (CA.ext (CA.sub (hS.cells (i := 0) rfl) 1) hx) rfl)) ?_
    refine OJ.st rfl rfl rfl (SR.fieldAddr tU_ok tI_ok rfl rfl rfl rfl rfl rfl) ?_
    refine OJ.st rfl rfl rfl (SR.load rfl rfl (fun w' hx => ld1 tU_ok rfl rfl (CA.ext (CA.sub (hS.cells (i := 1) rfl) 1) hx) rfl)) ?_
    refine OJ.pures tU_ok 1 rfl ?_
    refine OJ.nil (EJ.next ?_)
    refine CJ.cond rfl (fun hb => ?_) (fun hb => ?_)
    · replace H := pif_t (of_decide_eq_true hb) H
      refine CJ.seq ?_
      refine CJ.region ?_
      refine OJ.pures tU_ok 1 rfl ?_
      refine OJ.nil (EJ.next ?_)
      refine CJ.ret (EJ.skR (?_))
      obtain rfl := Option.some.inj H
      exact EJ.fin rfl (.tmp rfl .nil) ⟨rfl, hS.ext⟩
    · replace H := pif_f (of_decide_eq_false hb) H
      refine CJ.skip (EJ.next ?_)
      refine CJ.seq ?_
      refine CJ.seq ?_
      refine CJ.region ?_
      refine OJ.st rfl rfl rfl (SR.fieldAddr tU_ok tI_ok rfl rfl rfl rfl rfl rfl) ?_
      refine OJ.st rfl rfl rfl (SR.load rfl rfl (fun w' hx => ld1 tU_ok rfl rfl (CA.ext (CA.sub (hS.cells (i := 0) rfl) 2) hx) rfl)) ?_
      refine OJ.st rfl rfl rfl (SR.fieldAddr tU_ok tI_ok rfl rfl rfl rfl rfl rfl) ?_
      refine OJ.st rfl rfl rfl (SR.load rfl rfl (fun w' hx => ld1 tU_ok rfl rfl (CA.ext (CA.sub (hS.cells (i := 1) rfl) 2) hx) rfl)) ?_
      refine OJ.pures tU_ok 1 rfl ?_
      refine OJ.nil (EJ.next ?_)
      refine CJ.cond rfl (fun hb => ?_) (fun hb => ?_)
      · replace H := pif_t (of_decide_eq_true hb) H
        refine CJ.seq ?_
        refine CJ.region ?_
        refine OJ.pures tU_ok 1 rfl ?_
        refine OJ.nil (EJ.next ?_)
        refine CJ.ret (EJ.skR (?_))
        obtain rfl := Option.some.inj H
        exact EJ.fin rfl (.tmp rfl .nil) ⟨rfl, hS.ext⟩
      · replace H := pif_f (of_decide_eq_false hb) H
        refine CJ.skip (EJ.next ?_)
        refine CJ.seq ?_
        refine CJ.region ?_
        refine OJ.pures tU_ok 1 rfl ?_
        refine OJ.nil (EJ.next ?_)
        refine CJ.ret (?_)
        obtain rfl := Option.some.inj H
        exact EJ.fin rfl (.tmp rfl .nil) ⟨rfl, hS.ext⟩

def laws_eqMeadowS.l1 (a0 : List Meadow) (a1 : List Meadow) : Nat → Int → Option (Bool ⊕ Unit)
  | 0, _ => none
  | k + 1, y1 => if y1 < (a0.length : Int) then ((getI a0 y1).bind fun t2 => (getI a1 y1).bind fun t3 => (laws_eqMeadow.f t2 t3).bind fun t4 => if (!t4) = true then (some (Sum.inl false)) else (laws_eqMeadowS.l1 a0 a1 k (IntKind.i64.wrap (y1 + 1)))) else (some (Sum.inr ()))
def laws_eqMeadowS.f (k : Nat) (a0 : List Meadow) (a1 : List Meadow) : Option Bool := if (a0.length : Int) ≠ (a1.length : Int) then (some false) else ((laws_eqMeadowS.l1 a0 a1 k 0).bind fun s85 => match s85 with | .inl r => some r | .inr _ => some true)
theorem laws_eqMeadowS.c (k : Nat) (w : World) (Aa0 : Option Addr) (ca0 : Nat) (a0 : List Meadow) (hr0 : Rd cMeadow w Aa0 a0) (hc0 : a0.length ≤ ca0) (Aa1 : Option Addr) (ca1 : Nat) (a1 : List Meadow) (hr1 : Rd cMeadow w Aa1 a1) (hc1 : a1.length ≤ ca1) (r : Bool) (H : laws_eqMeadowS.f k a0 a1 = some r) :
    CV Try.prog 24 [.slice Aa0 a0.length ca0, .slice Aa1 a1.length ca1].toArray w fun v w' => v = .bool r ∧ Ext w w' := by
  have hS := (((St.init w no).param cMeadow Aa0 ca0 a0 hr0 hc0).param cMeadow Aa1 ca1 a1 hr1 hc1)
  unfold laws_eqMeadowS.f at H
  refine CV.body Try.func24 rfl Try.ntmps24 rfl ?_
  refine CJ.seq ?_
  refine CJ.region ?_
  refine OJ.pures tU_ok 1 rfl ?_
  refine OJ.nil (EJ.next ?_)
  refine CJ.seq ?_
  refine CJ.seq ?_
  refine CJ.region ?_
  refine OJ.pures tU_ok 5 rfl ?_
  refine OJ.nil (EJ.next ?_)
  refine CJ.cond rfl (fun hb => ?_) (fun hb => ?_)
  · replace H := pif_t (of_decide_eq_true hb) H
    refine CJ.seq ?_
    refine CJ.region ?_
    refine OJ.pures tU_ok 1 rfl ?_
    refine OJ.nil (EJ.next ?_)
    refine CJ.ret (EJ.skR (?_))
    obtain rfl := Option.some.inj H
    exact EJ.fin rfl (.tmp rfl .nil) ⟨rfl, hS.ext⟩
  · replace H := pif_f (of_decide_eq_false hb) H
    refine CJ.skip (EJ.next ?_)
    refine CJ.seq ?_
    refine CJ.seq ?_
    refine CJ.region ?_
    refine OJ.pures tU_ok 1 rfl ?_
    refine OJ.nil (EJ.next ?_)
    obtain ⟨j85, H, K85⟩ := pbind H
    refine CJ.cut1 (fun F w1 => (some (Sum.inr ()) : Option (Bool ⊕ Unit)) = some j85 ∧ F = [] ∧ St w no w1 [] [roC cMeadow Aa0 ca0 a0, roC cMeadow Aa1 ca1 a1]) ?_ ?_
    · skip
      refine CJ.block ?_
      refine CJ.loop (fun k F w1 => ∃ (y1 : Int), F = [(0, .slice Aa0 a0.length ca0), (1, .slice Aa1 a1.length ca1), (5, .int .i64 y1)] ∧ St w no w1 [] [roC cMeadow Aa0 ca0 a0, roC cMeadow Aa1 ca1 a1] ∧ laws_eqMeadowS.l1 a0 a1 k y1 = some j85) k (F' := [(0, .slice Aa0 a0.length ca0), (1, .slice Aa1 a1.length ca1), (5, .int .i64 0)]) ⟨rfl, rfl, rfl, trivial⟩ ⟨0, rfl, hS.pick [] [0, 1] rfl, H⟩ ?_
      rintro k F w1 ⟨y1, rfl, hS, H⟩
      cases k with
      | zero => rw [laws_eqMeadowS.l1] at H; cases H
      | succ k =>
        rw [laws_eqMeadowS.l1] at H
        refine CJ.seq ?_
        refine CJ.seq ?_
        refine CJ.region ?_
        refine OJ.pures tU_ok 4 rfl ?_
        refine OJ.nil (EJ.next ?_)
        refine CJ.cond rfl (fun hb => ?_) (fun hb => ?_)
        · replace H := pif_t (of_decide_eq_true hb) H
          refine CJ.skip (EJ.next ?_)
          refine CJ.seq ?_
          refine CJ.block ?_
          refine CJ.seq ?_
          refine CJ.draw [] [0, 1, 2, 3, 4, 5, 6, 7, 8, 9] mixed (by kernel_rfl) hS fun w1 hS => ?_
          refine DJ.pures tU_ok 2 rfl ?_
          obtain ⟨t2, ht2, H⟩ := pbind H
          obtain ⟨ad2, e2⟩ := (hS.rd' (i := 0) rfl).some' ht2
          refine DJ.st rfl rfl rfl rfl rfl (SR.idxS tU_ok tI_ok rfl rfl rfl rfl e2 rfl (getI_some ht2).1) ?_
          refine DJ.st rfl rfl rfl rfl rfl (SR.load rfl rfl (fun w' hx => ldE tU_ok tI_ok rfl rfl rfl (CA.ext ((hS.rd' (i := 0) rfl).at_ e2 ht2) hx) rfl)) ?_
          refine DJ.pures tU_ok 2 rfl ?_
          obtain ⟨t3, ht3, H⟩ := pbind H
          obtain ⟨ad3, e3⟩ := (hS.rd' (i := 1) rfl).some' ht3
          refine DJ.st rfl rfl rfl rfl rfl (SR.idxS tU_ok tI_ok rfl rfl rfl rfl e3 rfl (getI_some ht3).1) ?_
          refine DJ.st rfl rfl rfl rfl rfl (SR.load rfl rfl (fun w' hx => ldE tU_ok tI_ok rfl rfl rfl (CA.ext ((hS.rd' (i := 1) rfl).at_ e3 ht3) hx) rfl)) ?_
          obtain ⟨t4, ht4, H⟩ := pbind H
          refine DJ.callF rfl rfl rfl rfl rfl rfl rfl hb91 rfl (laws_eqMeadow.c _ t2 t3 _ ht4) (by rintro v w' ⟨rfl, hs⟩; exact hs) ?_
          rintro _ w1 ⟨rfl, hs⟩
          replace hS := hS.grow hs
          refine DJ.pures tU_ok 1 rfl ?_
          refine DJ.nil (EJ.next ?_)
          refine CJ.cond rfl (fun hb => ?_) (fun hb => ?_)
          · replace H := pif_t hb H
            refine CJ.seq ?_
            refine CJ.region ?_
            refine OJ.pures tU_ok 1 rfl ?_
            refine OJ.nil (EJ.next ?_)
            refine CJ.ret (EJ.bkR (EJ.skR (EJ.skR (EJ.bkR (EJ.skR (EJ.skR (?_)))))))
            first | (obtain rfl := Option.some.inj H; have H := K85) | (obtain ⟨q85, H2, e85⟩ := pbind H; obtain rfl := Option.some.inj e85; obtain rfl := Option.some.inj K85; have H := H2)
            obtain rfl := Option.some.inj H
            exact EJ.fin rfl (.tmp rfl .nil) ⟨rfl, hS.ext⟩
          · replace H := pifb_f hb H
            refine CJ.skip (EJ.blk (EJ.next ?_))
            refine CJ.region ?_
            refine OJ.pures tU_ok 3 rfl ?_
            refine OJ.nil ?_
            exact EJ.round k (F' := [(0, .slice Aa0 a0.length ca0), (1, .slice Aa1 a1.length ca1), (5, .int .i64 (IntKind.i64.wrap (y1 + 1)))]) ⟨rfl, rfl, rfl, trivial⟩ (Nat.lt_succ_self _) ⟨(IntKind.i64.wrap (y1 + 1)), rfl, hS.pick [] [0, 1] rfl, H⟩
        · replace H := pif_f (of_decide_eq_false hb) H
          refine CJ.exit (EJ.skE (EJ.skE (EJ.hit (?_))))
          exact EJ.meet (F' := []) trivial ⟨H, rfl, hS.pick [] [0, 1] rfl⟩
    · rintro F w1 ⟨he, rfl, hS⟩
      obtain rfl := Option.some.inj he
      have H := K85
      refine EJ.next ?_
      refine CJ.seq ?_
      refine CJ.region ?_
      refine OJ.pures tU_ok 1 rfl ?_
      refine OJ.nil (EJ.next ?_)
      refine CJ.ret (?_)
      obtain rfl := Option.some.inj H
      exact EJ.fin rfl (.tmp rfl .nil) ⟨rfl, hS.ext⟩

def laws_FnExactGreatestNeed.f (k : Nat) (a0 : List Meadow) (a1 : Int) (a2 : Int) : Option Bool := (laws_szMeadowS.f a0 1048576).bind fun t1 => if t1 < 0 then (some true) else ((laws_toMeadowS.f k a0).bind fun t2 => (spec_GreatestNeed.f k t2 a1 a2).bind fun t5 => (laws_toMeadowS.f k a0).bind fun t6 => (impl_GreatestNeed.f k t6 a1 a2).bind fun t9 => (if t9.1 ≠ t5.1 then (some true) else (some (decide (t9.2 ≠ t5.2)))).bind fun y10 => if y10 = true then (some false) else ((laws_toMeadowS.f k a0).bind fun t11 => (laws_eqMeadowS.f k t6 t11).bind fun t14 => if (!t14) = true then (some false) else (some true)))
theorem laws_FnExactGreatestNeed.c (k : Nat) (w : World) (Aa0 : Option Addr) (ca0 : Nat) (a0 : List Meadow) (hr0 : Rd cMeadow w Aa0 a0) (hc0 : a0.length ≤ ca0) (a1 : Int) (a2 : Int) (r : Bool) (H : laws_FnExactGreatestNeed.f k a0 a1 a2 = some r) :
    CV Try.prog 5 [.slice Aa0 a0.length ca0, .int .i64 a1, .int .i64 a2].toArray w fun v w' => v = .bool r ∧ Ext w w' := by
  have hS := ((St.init w no).param cMeadow Aa0 ca0 a0 hr0 hc0)
  unfold laws_FnExactGreatestNeed.f at H
  refine CV.body Try.func5 rfl Try.ntmps5 rfl ?_
  refine CJ.seq ?_
  refine CJ.region ?_
  refine OJ.pures tU_ok 1 rfl ?_
  refine OJ.nil (EJ.next ?_)
  refine CJ.seq ?_
  refine CJ.region ?_
  refine OJ.pures tU_ok 1 rfl ?_
  refine OJ.nil (EJ.next ?_)
  refine CJ.seq ?_
  refine CJ.region ?_
  refine OJ.pures tU_ok 2 rfl ?_
  obtain ⟨t1, ht1, H⟩ := pbind H
  refine OJ.callF rfl rfl rfl rfl rfl hb20 rfl (laws_szMeadowS.c _ Aa0 ca0 a0 (hS.rd' (i := 0) rfl) (hS.le' (i := 0) rfl) 1048576 _ ht1) ?_
  rintro _ w1 ⟨rfl, hs⟩
  replace hS := hS.grow hs
  refine OJ.pures tU_ok 1 rfl ?_
  refine OJ.nil (EJ.next ?_)
  refine CJ.seq ?_
  refine CJ.seq ?_
  refine CJ.region ?_
  refine OJ.pures tU_ok 2 rfl ?_
  refine OJ.nil (EJ.next ?_)
  refine CJ.cond rfl (fun hb => ?_) (fun hb => ?_)
  · replace H := pif_t (of_decide_eq_true hb) H
    refine CJ.seq ?_
    refine CJ.region ?_
    refine OJ.pures tU_ok 1 rfl ?_
    refine OJ.nil (EJ.next ?_)
    refine CJ.ret (EJ.skR (?_))
    obtain rfl := Option.some.inj H
    exact EJ.fin rfl (.tmp rfl .nil) ⟨rfl, hS.ext⟩
  · replace H := pif_f (of_decide_eq_false hb) H
    refine CJ.skip (EJ.next ?_)
    refine CJ.seq ?_
    refine CJ.region ?_
    refine OJ.pures tU_ok 1 rfl ?_
    obtain ⟨t2, ht2, H⟩ := pbind H
    refine OJ.callF rfl rfl rfl rfl rfl hb22 rfl (laws_toMeadowS.c k _ Aa0 ca0 a0 (hS.rd' (i := 0) rfl) (hS.le' (i := 0) rfl) _ ht2) ?_
    rintro _ w1 ⟨A3, c4, rfl, hs⟩
    replace hS := hS.addN hs
    refine OJ.pures tU_ok 2 rfl ?_
    obtain ⟨t5, ht5, H⟩ := pbind H
    refine OJ.callF rfl rfl rfl rfl rfl hb21 rfl (spec_GreatestNeed.c k _ A3 c4 t2 (hS.rd (i := 0) rfl) (hS.le (i := 0) rfl) a1 a2 _ ht5) ?_
    rintro _ w1 ⟨rfl, hs⟩
    replace hS := hS.grow hs
    refine OJ.pures tU_ok 5 rfl ?_
    refine OJ.nil (EJ.next ?_)
    refine CJ.seq ?_
    refine CJ.region ?_
    refine OJ.pures tU_ok 1 rfl ?_
    obtain ⟨t6, ht6, H⟩ := pbind H
    refine OJ.callF rfl rfl rfl rfl rfl hb22 rfl (laws_toMeadowS.c k _ Aa0 ca0 a0 (hS.rd' (i := 0) rfl) (hS.le' (i := 0) rfl) _ ht6) ?_
    rintro _ w1 ⟨A7, c8, rfl, hs⟩
    replace hS := hS.addN hs
    refine OJ.pures tU_ok 1 rfl ?_
    refine OJ.nil (EJ.next ?_)
    refine CJ.seq ?_
    refine CJ.region ?_
    refine OJ.pures tU_ok 3 rfl ?_
    obtain ⟨t9, ht9, H⟩ := pbind H
    refine OJ.callF rfl rfl rfl rfl rfl hb23 rfl (impl_GreatestNeed.c k _ A7 c8 t6 (hS.rd (i := 1) rfl) (hS.le (i := 1) rfl) a1 a2 _ ht9) ?_
    rintro _ w1 ⟨rfl, hs⟩
    replace hS := hS.grow hs
    refine OJ.pures tU_ok 5 rfl ?_
    refine OJ.nil (EJ.next ?_)
    refine CJ.seq ?_
    obtain ⟨j84, H, K84⟩ := pbind H
    refine CJ.cut (fun F w1 => ∃ (y10 : Bool) , (some y10 : Option Bool) = some j84 ∧ F = [(0, .slice Aa0 a0.length ca0), (10, .slice A7 t6.length c8), (42, .bool y10)] ∧ St w no w1 [rowC cMeadow A7 c8 85 t6] [roC cMeadow Aa0 ca0 a0]) ?_ ?_
    · skip
      refine CJ.region ?_
      refine OJ.pures tU_ok 4 rfl ?_
      refine OJ.split (t := 38) rfl (fun hb => ?_) (fun hb => ?_)
      · replace H := pif_t (of_decide_eq_true hb) H
        refine OJ.pures tU_ok 4 rfl ?_
        refine OJ.nil ?_
        exact EJ.meet (F' := [(0, .slice Aa0 a0.length ca0), (10, .slice A7 t6.length c8), (42, .bool true)]) ⟨rfl, rfl, rfl, trivial⟩ ⟨true, H, rfl, hS.pick [1] [0] rfl⟩
      · replace H := pif_f (of_decide_eq_false hb) H
        refine OJ.pures tU_ok 4 rfl ?_
        refine OJ.nil ?_
        exact EJ.meet (F' := [(0, .slice Aa0 a0.length ca0), (10, .slice A7 t6.length c8), (42, .bool (decide (t9.2 ≠ t5.2)))]) ⟨rfl, rfl, rfl, trivial⟩ ⟨(decide (t9.2 ≠ t5.2)), H, rfl, hS.pick [1] [0] rfl⟩
    · rintro F w1 ⟨y10, he, rfl, hS⟩
      obtain rfl := Option.some.inj he
      have H := K84
      refine CJ.cond rfl (fun hb => ?_) (fun hb => ?_)
      · replace H := pif_t hb H
        refine CJ.seq ?_
        refine CJ.region ?_
        refine OJ.pures tU_ok 1 rfl ?_
        refine OJ.nil (EJ.next ?_)
        refine CJ.ret (EJ.skR (?_))
        obtain rfl := Option.some.inj H
        exact EJ.fin rfl (.tmp rfl .nil) ⟨rfl, hS.ext⟩
      · replace H := pifb_f hb H
        refine CJ.skip (EJ.next ?_)
        refine CJ.seq ?_
        refine CJ.seq ?_
        refine CJ.region ?_
        refine OJ.pures tU_ok 2 rfl ?_
        obtain ⟨t11, ht11, H⟩ := pbind H
        refine OJ.callF rfl rfl rfl rfl rfl hb22 rfl (laws_toMeadowS.c k _ Aa0 ca0 a0 (hS.rd' (i := 0) rfl) (hS.le' (i := 0) rfl) _ ht11) ?_
        rintro _ w1 ⟨A12, c13, rfl, hs⟩
        replace hS := hS.addN hs
        obtain ⟨t14, ht14, H⟩ := pbind H
        refine OJ.callF rfl rfl rfl rfl rfl hb24 rfl (laws_eqMeadowS.c k _ A7 c8 t6 (hS.rd (i := 0) rfl) (hS.le (i := 0) rfl) A12 c13 t11 (hS.rd (i := 1) rfl) (hS.le (i := 1) rfl) _ ht14) ?_
        rintro _ w1 ⟨rfl, hs⟩
        replace hS := hS.grow hs
        refine OJ.pures tU_ok 1 rfl ?_
        refine OJ.nil (EJ.next ?_)
        refine CJ.cond rfl (fun hb => ?_) (fun hb => ?_)
        · replace H := pif_t hb H
          refine CJ.seq ?_
          refine CJ.region ?_
          refine OJ.pures tU_ok 1 rfl ?_
          refine OJ.nil (EJ.next ?_)
          refine CJ.ret (EJ.skR (?_))
          obtain rfl := Option.some.inj H
          exact EJ.fin rfl (.tmp rfl .nil) ⟨rfl, hS.ext⟩
        · replace H := pifb_f hb H
          refine CJ.skip (EJ.next ?_)
          refine CJ.seq ?_
          refine CJ.region ?_
          refine OJ.pures tU_ok 1 rfl ?_
          refine OJ.nil (EJ.next ?_)
          refine CJ.ret (?_)
          obtain rfl := Option.some.inj H
          exact EJ.fin rfl (.tmp rfl .nil) ⟨rfl, hS.ext⟩

def spec_l07Days.f (a0 : Int) : Option Bool := (spec_l00In.f a0 0 30).bind fun t1 => some t1
theorem spec_l07Days.c (w : World) (a0 : Int) (r : Bool) (H : spec_l07Days.f a0 = some r) :
    CV Try.prog 92 [.int .i64 a0].toArray w fun v w' => v = .bool r ∧ Ext w w' := by
  have hS := (St.init w no)
  unfold spec_l07Days.f at H
  refine CV.body Try.func92 rfl Try.ntmps92 rfl ?_
  refine CJ.seq ?_
  refine CJ.region ?_
  refine OJ.pures tU_ok 1 rfl ?_
  refine OJ.nil (EJ.next ?_)
  refine CJ.seq ?_
  refine CJ.region ?_
  refine OJ.pures tU_ok 1 rfl ?_
  obtain ⟨t1, ht1, H⟩ := pbind H
  refine OJ.callF rfl rfl rfl rfl rfl hb68 rfl (spec_l00In.c _ a0 0 30 _ ht1) ?_
  rintro _ w1 ⟨rfl, hs⟩
  replace hS := hS.grow hs
  refine OJ.pures tU_ok 1 rfl ?_
  refine OJ.nil (EJ.next ?_)
  refine CJ.ret (?_)
  obtain rfl := Option.some.inj H
  exact EJ.fin rfl (.tmp rfl .nil) ⟨rfl, hS.ext⟩

def spec_FirstPlan.f (k : Nat) (a0 : List Meadow) (a1 : Int) (a2 : Int) (a3 : Int) : Option (List Int × Int × Int) := ((spec_l07Days.f a2).bind fun t2 => if t2 = true then ((spec_l07Budget.f a3).bind fun t3 => (spec_l07Asked.f k a0 a1 t3).bind fun t4 => some t4) else ((spec_l07Asked.f k a0 a1 false).bind fun t5 => some t5)).bind fun y1 => if y1 ≠ 0 then (some (([] : List Int), 0, y1)) else ((spec_l07Found.f k a0 a1 a2 a3).bind fun t7 => some (t7.1, t7.2.1, t7.2.2))
theorem spec_FirstPlan.c (k : Nat) (w : World) (Aa0 : Option Addr) (ca0 : Nat) (a0 : List Meadow) (hr0 : Rd cMeadow w Aa0 a0) (hc0 : a0.length ≤ ca0) (a1 : Int) (a2 : Int) (a3 : Int) (r : List Int × Int × Int) (H : spec_FirstPlan.f k a0 a1 a2 a3 = some r) :
    CV Try.prog 25 [.slice Aa0 a0.length ca0, .int .i64 a1, .int .i64 a2, .int .i64 a3].toArray w fun v w' => ∃ (A0 : Option Addr) (c0 : Nat), v = .tuple #[.slice A0 r.1.length c0, .int .i64 r.2.1, .int .i64 r.2.2] ∧ St w no w' [rowC (ci .i64) A0 c0 2 r.1] [] := by
  have hS := ((St.init w no).param cMeadow Aa0 ca0 a0 hr0 hc0)
  unfold spec_FirstPlan.f at H
  refine CV.body Try.func25 rfl Try.ntmps25 rfl ?_
  refine CJ.seq ?_
  refine CJ.region ?_
  refine OJ.pures tU_ok 3 rfl ?_
  refine OJ.nil (EJ.next ?_)
  refine CJ.seq ?_
  obtain ⟨j86, H, K86⟩ := pbind H
  refine CJ.cut (fun F w1 => ∃ (y1 : Int) , (some y1 : Option Int) = some j86 ∧ F = [(0, .slice Aa0 a0.length ca0), (1, .int .i64 a1), (2, .int .i64 a2), (3, .int .i64 a3), (11, .int .i64 y1)] ∧ St w no w1 [] [roC cMeadow Aa0 ca0 a0]) ?_ ?_
  · skip
    refine CJ.region ?_
    refine OJ.pures tU_ok 3 rfl ?_
    obtain ⟨t2, ht2, H⟩ := pbind H
    refine OJ.callF rfl rfl rfl rfl rfl hb92 rfl (spec_l07Days.c _ a2 _ ht2) ?_
    rintro _ w1 ⟨rfl, hs⟩
    replace hS := hS.grow hs
    refine OJ.pures tU_ok 1 rfl ?_
    refine OJ.split (t := 16) rfl (fun hb => ?_) (fun hb => ?_)
    · replace H := pif_t hb H
      refine OJ.pures tU_ok 1 rfl ?_
      obtain ⟨t3, ht3, H⟩ := pbind H
      refine OJ.callF rfl rfl rfl rfl rfl hb83 rfl (spec_l07Budget.c _ a3 _ ht3) ?_
      rintro _ w1 ⟨rfl, hs⟩
      replace hS := hS.grow hs
      refine OJ.pures tU_ok 1 rfl ?_
      obtain ⟨t4, ht4, H⟩ := pbind H
      refine OJ.callF rfl rfl rfl rfl rfl hb84 rfl (spec_l07Asked.c k _ Aa0 ca0 a0 (hS.rd' (i := 0) rfl) (hS.le' (i := 0) rfl) a1 t3 _ ht4) ?_
      rintro _ w1 ⟨rfl, hs⟩
      replace hS := hS.grow hs
      refine OJ.pures tU_ok 1 rfl ?_
      refine OJ.nil ?_
      exact EJ.meet (F' := [(0, .slice Aa0 a0.length ca0), (1, .int .i64 a1), (2, .int .i64 a2), (3, .int .i64 a3), (11, .int .i64 t4)]) ⟨rfl, rfl, rfl, rfl, rfl, trivial⟩ ⟨t4, H, rfl, hS.pick [] [0] rfl⟩
    · replace H := pifb_f hb H
      refine OJ.pures tU_ok 3 rfl ?_
      obtain ⟨t5, ht5, H⟩ := pbind H
      refine OJ.callF rfl rfl rfl rfl rfl hb84 rfl (spec_l07Asked.c k _ Aa0 ca0 a0 (hS.rd' (i := 0) rfl) (hS.le' (i := 0) rfl) a1 false _ ht5) ?_
      rintro _ w1 ⟨rfl, hs⟩
      replace hS := hS.grow hs
      refine OJ.pures tU_ok 1 rfl ?_
      refine OJ.nil ?_
      exact EJ.meet (F' := [(0, .slice Aa0 a0.length ca0), (1, .int .i64 a1), (2, .int .i64 a2), (3, .int .i64 a3), (11, .int .i64 t5)]) ⟨rfl, rfl, rfl, rfl, rfl, trivial⟩ ⟨t5, H, rfl, hS.pick [] [0] rfl⟩
  · rintro F w1 ⟨y1, he, rfl, hS⟩
    obtain rfl := Option.some.inj he
    have H := K86
    refine CJ.seq ?_
    refine CJ.region ?_
    refine OJ.pures tU_ok 2 rfl ?_
    refine OJ.nil (EJ.next ?_)
    refine CJ.cond rfl (fun hb => ?_) (fun hb => ?_)
    · replace H := pif_t (of_decide_eq_true hb) H
      refine CJ.seq ?_
      refine CJ.region ?_
      refine OJ.ef rfl rfl rfl (Ef.lit tU_ok tI_ok hS (C := (ci .i64)) rfl rfl rfl rfl rfl rfl ([] : List Int) rfl rfl rfl rfl) ?_
      rintro _ w1 ⟨A6, rfl, hS⟩
      refine OJ.pures tU_ok 4 rfl ?_
      refine OJ.nil (EJ.next ?_)
      refine CJ.ret (EJ.skR (?_))
      obtain rfl := Option.some.inj H
      exact EJ.fin rfl (.tmp rfl (.tmp rfl (.tmp rfl .nil))) ⟨A6, (([] : List Int).length), rfl, hS.pick [0] [] rfl⟩
    · replace H := pif_f (of_decide_eq_false hb) H
      refine CJ.skip (EJ.next ?_)
      refine CJ.seq ?_
      refine CJ.region ?_
      refine OJ.pures tU_ok 4 rfl ?_
      obtain ⟨t7, ht7, H⟩ := pbind H
      refine OJ.callF rfl rfl rfl rfl rfl hb85 rfl (spec_l07Found.c k _ Aa0 ca0 a0 (hS.rd' (i := 0) rfl) (hS.le' (i := 0) rfl) a1 a2 a3 _ ht7) ?_
      rintro _ w1 ⟨A8, c9, rfl, hs⟩
      replace hS := hS.addN hs
      refine OJ.pures tU_ok 6 rfl ?_
      refine OJ.nil (EJ.next ?_)
      refine CJ.ret (?_)
      obtain rfl := Option.some.inj H
      exact EJ.fin rfl (.tmp rfl (.tmp rfl (.tmp rfl .nil))) ⟨A8, c9, rfl, hS.pick [0] [] rfl⟩

def impl_FirstPlan.f (k : Nat) (a0 : List Meadow) (a1 : Int) (a2 : Int) (a3 : Int) : Option (List Int × Int × Int) := (impl_spanCode.f k a0 a1 a2 a3).bind fun t1 => if t1 ≠ 0 then (some ([], 0, t1)) else ((impl_firstPlan.f k a0 a1 a2 a3).bind fun t2 => some (t2.1, t2.2.1, t2.2.2))
theorem impl_FirstPlan.c (k : Nat) (w : World) (Aa0 : Option Addr) (ca0 : Nat) (a0 : List Meadow) (hr0 : Rd cMeadow w Aa0 a0) (hc0 : a0.length ≤ ca0) (a1 : Int) (a2 : Int) (a3 : Int) (r : List Int × Int × Int) (H : impl_FirstPlan.f k a0 a1 a2 a3 = some r) :
    CV Try.prog 26 [.slice Aa0 a0.length ca0, .int .i64 a1, .int .i64 a2, .int .i64 a3].toArray w fun v w' => ∃ (A0 : Option Addr) (c0 : Nat), v = .tuple #[.slice A0 r.1.length c0, .int .i64 r.2.1, .int .i64 r.2.2] ∧ St w no w' [rowC (ci .i64) A0 c0 2 r.1] [] := by
  have hS := ((St.init w no).param cMeadow Aa0 ca0 a0 hr0 hc0)
  unfold impl_FirstPlan.f at H
  refine CV.body Try.func26 rfl Try.ntmps26 rfl ?_
  refine CJ.seq ?_
  refine CJ.region ?_
  refine OJ.pures tU_ok 3 rfl ?_
  refine OJ.nil (EJ.next ?_)
  refine CJ.seq ?_
  refine CJ.seq ?_
  refine CJ.region ?_
  refine OJ.pures tU_ok 4 rfl ?_
  obtain ⟨t1, ht1, H⟩ := pbind H
  refine OJ.callF rfl rfl rfl rfl rfl hb88 rfl (impl_spanCode.c k _ Aa0 ca0 a0 (hS.rd' (i := 0) rfl) (hS.le' (i := 0) rfl) a1 a2 a3 _ ht1) ?_
  rintro _ w1 ⟨rfl, hs⟩
  replace hS := hS.grow hs
  refine OJ.pures tU_ok 1 rfl ?_
  refine OJ.nil (EJ.next ?_)
  refine CJ.seq ?_
  refine CJ.region ?_
  refine OJ.pures tU_ok 2 rfl ?_
  refine OJ.nil (EJ.next ?_)
  refine CJ.cond rfl (fun hb => ?_) (fun hb => ?_)
  · replace H := pif_t (of_decide_eq_true hb) H
    refine CJ.seq ?_
    refine CJ.region ?_
    refine OJ.pures tU_ok 4 rfl ?_
    refine OJ.nil (EJ.next ?_)
    refine CJ.ret (EJ.skR (?_))
    replace hS := hS.addNil (ci .i64) 2 none
    obtain rfl := Option.some.inj H
    exact EJ.fin rfl (.tmp rfl (.tmp rfl (.tmp rfl .nil))) ⟨none, 0, rfl, hS.pick [0] [] rfl⟩
  · replace H := pif_f (of_decide_eq_false hb) H
    refine CJ.skip (EJ.next ?_)
    refine CJ.seq ?_
    refine CJ.region ?_
    refine OJ.pures tU_ok 4 rfl ?_
    obtain ⟨t2, ht2, H⟩ := pbind H
    refine OJ.callF rfl rfl rfl rfl rfl hb90 rfl (impl_firstPlan.c k _ Aa0 ca0 a0 (hS.rd' (i := 0) rfl) (hS.le' (i := 0) rfl) a1 a2 a3 _ ht2) ?_
    rintro _ w1 ⟨A3, c4, rfl, hs⟩
    replace hS := hS.addN hs
    refine OJ.pures tU_ok 6 rfl ?_
    refine OJ.nil (EJ.next ?_)
    refine CJ.ret (?_)
    obtain rfl := Option.some.inj H
    exact EJ.fin rfl (.tmp rfl (.tmp rfl (.tmp rfl .nil))) ⟨A3, c4, rfl, hS.pick [0] [] rfl⟩

def laws_eqInt64S.l1 (a0 : List Int) (a1 : List Int) : Nat → Int → Option (Bool ⊕ Unit)
  | 0, _ => none
  | k + 1, y1 => if y1 < (a0.length : Int) then ((getI a0 y1).bind fun t2 => (getI a1 y1).bind fun t3 => if t2 ≠ t3 then (some (Sum.inl false)) else (laws_eqInt64S.l1 a0 a1 k (IntKind.i64.wrap (y1 + 1)))) else (some (Sum.inr ()))
def laws_eqInt64S.f (k : Nat) (a0 : List Int) (a1 : List Int) : Option Bool := if (a0.length : Int) ≠ (a1.length : Int) then (some false) else ((laws_eqInt64S.l1 a0 a1 k 0).bind fun s88 => match s88 with | .inl r => some r | .inr _ => some true)
theorem laws_eqInt64S.c (k : Nat) (w : World) (Aa0 : Option Addr) (ca0 : Nat) (a0 : List Int) (hr0 : Rd (ci .i64) w Aa0 a0) (hc0 : a0.length ≤ ca0) (Aa1 : Option Addr) (ca1 : Nat) (a1 : List Int) (hr1 : Rd (ci .i64) w Aa1 a1) (hc1 : a1.length ≤ ca1) (r : Bool) (H : laws_eqInt64S.f k a0 a1 = some r) :
    CV Try.prog 27 [.slice Aa0 a0.length ca0, .slice Aa1 a1.length ca1].toArray w fun v w' => v = .bool r ∧ Ext w w' := by
  have hS := (((St.init w no).param (ci .i64) Aa0 ca0 a0 hr0 hc0).param (ci .i64) Aa1 ca1 a1 hr1 hc1)
  unfold laws_eqInt64S.f at H
  refine CV.body Try.func27 rfl Try.ntmps27 rfl ?_
  refine CJ.seq ?_
  refine CJ.region ?_
  refine OJ.pures tU_ok 1 rfl ?_
  refine OJ.nil (EJ.next ?_)
  refine CJ.seq ?_
  refine CJ.seq ?_
  refine CJ.region ?_
  refine OJ.pures tU_ok 5 rfl ?_
  refine OJ.nil (EJ.next ?_)
  refine CJ.cond rfl (fun hb => ?_) (fun hb => ?_)
  · replace H := pif_t (of_decide_eq_true hb) H
    refine CJ.seq ?_
    refine CJ.region ?_
    refine OJ.pures tU_ok 1 rfl ?_
    refine OJ.nil (EJ.next ?_)
    refine CJ.ret (EJ.skR (?_))
    obtain rfl := Option.some.inj H
    exact EJ.fin rfl (.tmp rfl .nil) ⟨rfl, hS.ext⟩
  · replace H := pif_f (of_decide_eq_false hb) H
    refine CJ.skip (EJ.next ?_)
    refine CJ.seq ?_
    refine CJ.seq ?_
    refine CJ.region ?_
    refine OJ.pures tU_ok 1 rfl ?_
    refine OJ.nil (EJ.next ?_)
    obtain ⟨j88, H, K88⟩ := pbind H
    refine CJ.cut1 (fun F w1 => (some (Sum.inr ()) : Option (Bool ⊕ Unit)) = some j88 ∧ F = [] ∧ St w no w1 [] [roC (ci .i64) Aa0 ca0 a0, roC (ci .i64) Aa1 ca1 a1]) ?_ ?_
    · skip
      refine CJ.block ?_
      refine CJ.loop (fun k F w1 => ∃ (y1 : Int), F = [(0, .slice Aa0 a0.length ca0), (1, .slice Aa1 a1.length ca1), (5, .int .i64 y1)] ∧ St w no w1 [] [roC (ci .i64) Aa0 ca0 a0, roC (ci .i64) Aa1 ca1 a1] ∧ laws_eqInt64S.l1 a0 a1 k y1 = some j88) k (F' := [(0, .slice Aa0 a0.length ca0), (1, .slice Aa1 a1.length ca1), (5, .int .i64 0)]) ⟨rfl, rfl, rfl, trivial⟩ ⟨0, rfl, hS.pick [] [0, 1] rfl, H⟩ ?_
      rintro k F w1 ⟨y1, rfl, hS, H⟩
      cases k with
      | zero => rw [laws_eqInt64S.l1] at H; cases H
      | succ k =>
        rw [laws_eqInt64S.l1] at H
        refine CJ.seq ?_
        refine CJ.seq ?_
        refine CJ.region ?_
        refine OJ.pures tU_ok 4 rfl ?_
        refine OJ.nil (EJ.next ?_)
        refine CJ.cond rfl (fun hb => ?_) (fun hb => ?_)
        · replace H := pif_t (of_decide_eq_true hb) H
          refine CJ.skip (EJ.next ?_)
          refine CJ.seq ?_
          refine CJ.block ?_
          refine CJ.seq ?_
          refine CJ.draw [] [0, 1, 2, 3, 4, 5, 6, 7, 8] mixed (by kernel_rfl) hS fun w1 hS => ?_
          refine DJ.pures tU_ok 2 rfl ?_
          obtain ⟨t2, ht2, H⟩ := pbind H
          obtain ⟨ad2, e2⟩ := (hS.rd' (i := 0) rfl).some' ht2
          refine DJ.st rfl rfl rfl rfl rfl (SR.idxS tU_ok tI_ok rfl rfl rfl rfl e2 rfl (getI_some ht2).1) ?_
          refine DJ.st rfl rfl rfl rfl rfl (SR.load rfl rfl (fun w' hx => ld1 tU_ok rfl rfl (CA.ext ((hS.rd' (i := 0) rfl).at_ e2 ht2) hx) rfl)) ?_
          refine DJ.pures tU_ok 2 rfl ?_
          obtain ⟨t3, ht3, H⟩ := pbind H
          obtain ⟨ad3, e3⟩ := (hS.rd' (i := 1) rfl).some' ht3
          refine DJ.st rfl rfl rfl rfl rfl (SR.idxS tU_ok tI_ok rfl rfl rfl rfl e3 rfl (getI_some ht3).1) ?_
          refine DJ.st rfl rfl rfl rfl rfl (SR.load rfl rfl (fun w' hx => ld1 tU_ok rfl rfl (CA.ext ((hS.rd' (i := 1) rfl).at_ e3 ht3) hx) rfl)) ?_
          refine DJ.pures tU_ok 1 rfl ?_
          refine DJ.nil (EJ.next ?_)
          refine CJ.cond rfl (fun hb => ?_) (fun hb => ?_)
          · replace H := pif_t (of_decide_eq_true hb) H
            refine CJ.seq ?_
            refine CJ.region ?_
            refine OJ.pures tU_ok 1 rfl ?_
            refine OJ.nil (EJ.next ?_)
            refine CJ.ret (EJ.bkR (EJ.skR (EJ.skR (EJ.bkR (EJ.skR (EJ.skR (?_)))))))
            first | (obtain rfl := Option.some.inj H; have H := K88) | (obtain ⟨q88, H2, e88⟩ := pbind H; obtain rfl := Option.some.inj e88; obtain rfl := Option.some.inj K88; have H := H2)
            obtain rfl := Option.some.inj H
            exact EJ.fin rfl (.tmp rfl .nil) ⟨rfl, hS.ext⟩
          · replace H := pif_f (of_decide_eq_false hb) H
            refine CJ.skip (EJ.blk (EJ.next ?_))
            refine CJ.region ?_
            refine OJ.pures tU_ok 3 rfl ?_
            refine OJ.nil ?_
            exact EJ.round k (F' := [(0, .slice Aa0 a0.length ca0), (1, .slice Aa1 a1.length ca1), (5, .int .i64 (IntKind.i64.wrap (y1 + 1)))]) ⟨rfl, rfl, rfl, trivial⟩ (Nat.lt_succ_self _) ⟨(IntKind.i64.wrap (y1 + 1)), rfl, hS.pick [] [0, 1] rfl, H⟩
        · replace H := pif_f (of_decide_eq_false hb) H
          refine CJ.exit (EJ.skE (EJ.skE (EJ.hit (?_))))
          exact EJ.meet (F' := []) trivial ⟨H, rfl, hS.pick [] [0, 1] rfl⟩
    · rintro F w1 ⟨he, rfl, hS⟩
      obtain rfl := Option.some.inj he
      have H := K88
      refine EJ.next ?_
      refine CJ.seq ?_
      refine CJ.region ?_
      refine OJ.pures tU_ok 1 rfl ?_
      refine OJ.nil (EJ.next ?_)
      refine CJ.ret (?_)
      obtain rfl := Option.some.inj H
      exact EJ.fin rfl (.tmp rfl .nil) ⟨rfl, hS.ext⟩

def laws_markMeadowS.l1 (a0 : List Meadow) : Nat → (List Meadow) → Int → Int → Option ((List Meadow) × Int)
  | 0, _, _, _ => none
  | k + 1, y3, y4, y5 => if y5 < (a0.length : Int) then ((getI y3 y5).bind fun t6 => (getI (y3.set y5.toNat (⟨IntKind.i16.wrap y4, t6.Grows, t6.Most⟩ : Meadow)) y5).bind fun t7 => (getI ((y3.set y5.toNat (⟨IntKind.i16.wrap y4, t6.Grows, t6.Most⟩ : Meadow)).set y5.toNat (⟨t7.Grass, IntKind.i16.wrap (IntKind.i64.wrap (y4 + 1)), t7.Most⟩ : Meadow)) y5).bind fun t8 => laws_markMeadowS.l1 a0 k (((y3.set y5.toNat (⟨IntKind.i16.wrap y4, t6.Grows, t6.Most⟩ : Meadow)).set y5.toNat (⟨t7.Grass, IntKind.i16.wrap (IntKind.i64.wrap (y4 + 1)), t7.Most⟩ : Meadow)).set y5.toNat (⟨t8.Grass, t8.Grows, IntKind.i16.wrap (IntKind.i64.wrap ((IntKind.i64.wrap (y4 + 1)) + 1))⟩ : Meadow)) (IntKind.i64.wrap ((IntKind.i64.wrap ((IntKind.i64.wrap (y4 + 1)) + 1)) + 1)) (IntKind.i64.wrap (y5 + 1))) else (some (y3, y4))
def laws_markMeadowS.f (k : Nat) (a0 : List Meadow) (a1 : Int) : Option (Int × List Meadow) := (laws_markMeadowS.l1 a0 k a0 a1 0).bind fun (y1, y2) => some (y2, y1)
theorem laws_markMeadowS.c (k : Nat) (w : World) (Aa0 : Option Addr) (ca0 : Nat) (a0 : List Meadow) (a1 : Int) (hin : St w (fpU [rowC cMeadow Aa0 ca0 85 a0]) w [rowC cMeadow Aa0 ca0 85 a0] []) (r : Int × List Meadow) (H : laws_markMeadowS.f k a0 a1 = some r) :
    CV Try.prog 28 [.slice Aa0 a0.length ca0, .int .i64 a1].toArray w fun v w' => v = .int .i64 r.1 ∧ St w (fpU [rowC cMeadow Aa0 ca0 85 a0]) w' [rowC cMeadow Aa0 ca0 85 r.2] [] ∧ r.2.length = a0.length := by
  have hS := hin
  unfold laws_markMeadowS.f at H
  refine CV.body Try.func28 rfl Try.ntmps28 rfl ?_
  have hl0 : a0.length = a0.length := rfl
  refine CJ.seq ?_
  refine CJ.region ?_
  refine OJ.pures tU_ok 1 rfl ?_
  refine OJ.nil (EJ.next ?_)
  refine CJ.seq ?_
  refine CJ.seq ?_
  refine CJ.region ?_
  refine OJ.pures tU_ok 1 rfl ?_
  refine OJ.nil (EJ.next ?_)
  obtain ⟨j90, H, K90⟩ := pbind H
  refine CJ.cut1 (fun F w1 => ∃ (y1 : List Meadow) (y2 : Int) , (some (y1, y2) : Option ((List Meadow) × Int)) = some j90 ∧ F = [(1, .int .i64 y2)] ∧ St w (fpU [rowC cMeadow Aa0 ca0 85 a0]) w1 [rowC cMeadow Aa0 ca0 85 y1] [] ∧ y1.length = a0.length) ?_ ?_
  · skip
    refine CJ.block ?_
    refine CJ.loop (fun k F w1 => ∃ (y3 : List Meadow) (y4 : Int) (y5 : Int), F = [(0, .slice Aa0 a0.length ca0), (1, .int .i64 y4), (5, .int .i64 y5)] ∧ St w (fpU [rowC cMeadow Aa0 ca0 85 a0]) w1 [rowC cMeadow Aa0 ca0 85 y3] [] ∧ y3.length = a0.length ∧ laws_markMeadowS.l1 a0 k y3 y4 y5 = some j90) k (F' := [(0, .slice Aa0 a0.length ca0), (1, .int .i64 a1), (5, .int .i64 0)]) ⟨rfl, rfl, rfl, trivial⟩ ⟨a0, a1, 0, rfl, hS.pick [0] [] rfl, (by first | exact hl0 | (simp only [List.length_set]; exact hl0)), H⟩ ?_
    rintro k F w1 ⟨y3, y4, y5, rfl, hS, hl0, H⟩
    cases k with
    | zero => rw [laws_markMeadowS.l1] at H; cases H
    | succ k =>
      rw [laws_markMeadowS.l1] at H
      refine CJ.seq ?_
      refine CJ.seq ?_
      refine CJ.region ?_
      refine OJ.pures tU_ok 4 rfl ?_
      refine OJ.nil (EJ.next ?_)
      refine CJ.cond rfl (fun hb => ?_) (fun hb => ?_)
      · replace H := pif_t (of_decide_eq_true hb) H
        refine CJ.skip (EJ.next ?_)
        refine CJ.seq ?_
        refine CJ.block ?_
        refine CJ.seq ?_
        refine CJ.region ?_
        refine OJ.pures tU_ok 4 rfl ?_
        obtain ⟨t6, ht6, H⟩ := pbind H
        obtain ⟨ad6, e6⟩ := (hS.rd (i := 0) rfl).some' ht6
        refine OJ.st rfl rfl rfl (SR.idxS tU_ok tI_ok rfl rfl rfl rfl e6 rfl (by have hg := (getI_some ht6).1; (first | rw [hl0] at hg | (simp only [List.length_set] at hg; rw [hl0] at hg)); exact hg)) ?_
        refine OJ.st rfl rfl rfl (SR.fieldAddr tU_ok tI_ok rfl rfl rfl rfl rfl rfl) ?_
        refine OJ.es rfl rfl (Es.storeR tI_ok hS (i := 0) (off := 0) rfl rfl ht6 e6 rfl (add_add _ _ _) rfl rfl (vs := (ci .i16).enc (IntKind.i16.wrap y4)) rfl rfl (one1 rfl) (Nat.le_of_ble_eq_true rfl) (⟨IntKind.i16.wrap y4, t6.Grows, t6.Most⟩ : Meadow) rfl) ?_
        intro w1 hS
        refine OJ.nil (EJ.next ?_)
        refine CJ.seq ?_
        refine CJ.region ?_
        refine OJ.pures tU_ok 3 rfl ?_
        refine OJ.nil (EJ.next ?_)
        refine CJ.seq ?_
        refine CJ.region ?_
        refine OJ.pures tU_ok 4 rfl ?_
        obtain ⟨t7, ht7, H⟩ := pbind H
        obtain ⟨ad7, e7⟩ := (hS.rd (i := 0) rfl).some' ht7
        refine OJ.st rfl rfl rfl (SR.idxS tU_ok tI_ok rfl rfl rfl rfl e7 rfl (by have hg := (getI_some ht7).1; (first | rw [hl0] at hg | (simp only [List.length_set] at hg; rw [hl0] at hg)); exact hg)) ?_
        refine OJ.st rfl rfl rfl (SR.fieldAddr tU_ok tI_ok rfl rfl rfl rfl rfl rfl) ?_
        refine OJ.es rfl rfl (Es.storeR tI_ok hS (i := 0) (off := 1) rfl rfl ht7 e7 rfl (add_add _ _ _) rfl rfl (vs := (ci .i16).enc (IntKind.i16.wrap (IntKind.i64.wrap (y4 + 1)))) rfl rfl (one1 rfl) (Nat.le_of_ble_eq_true rfl) (⟨t7.Grass, IntKind.i16.wrap (IntKind.i64.wrap (y4 + 1)), t7.Most⟩ : Meadow) rfl) ?_
        intro w1 hS
        refine OJ.nil (EJ.next ?_)
        refine CJ.seq ?_
        refine CJ.region ?_
        refine OJ.pures tU_ok 3 rfl ?_
        refine OJ.nil (EJ.next ?_)
        refine CJ.seq ?_
        refine CJ.region ?_
        refine OJ.pures tU_ok 4 rfl ?_
        obtain ⟨t8, ht8, H⟩ := pbind H
        obtain ⟨ad8, e8⟩ := (hS.rd (i := 0) rfl).some' ht8
        refine OJ.st rfl rfl rfl (SR.idxS tU_ok tI_ok rfl rfl rfl rfl e8 rfl (by have hg := (getI_some ht8).1; (first | rw [hl0] at hg | (simp only [List.length_set] at hg; rw [hl0] at hg)); exact hg)) ?_
        refine OJ.st rfl rfl rfl (SR.fieldAddr tU_ok tI_ok rfl rfl rfl rfl rfl rfl) ?_
        refine OJ.es rfl rfl (Es.storeR tI_ok hS (i := 0) (off := 2) rfl rfl ht8 e8 rfl (add_add _ _ _) rfl rfl (vs := (ci .i16).enc (IntKind.i16.wrap (IntKind.i64.wrap ((IntKind.i64.wrap (y4 + 1)) + 1)))) rfl rfl (one1 rfl) (Nat.le_of_ble_eq_true rfl) (⟨t8.Grass, t8.Grows, IntKind.i16.wrap (IntKind.i64.wrap ((IntKind.i64.wrap (y4 + 1)) + 1))⟩ : Meadow) rfl) ?_
        intro w1 hS
        refine OJ.nil (EJ.next ?_)
        refine CJ.region ?_
        refine OJ.pures tU_ok 3 rfl ?_
        refine OJ.nil (EJ.blk (EJ.next ?_))
        refine CJ.region ?_
        refine OJ.pures tU_ok 3 rfl ?_
        refine OJ.nil ?_
        exact EJ.round k (F' := [(0, .slice Aa0 a0.length ca0), (1, .int .i64 (IntKind.i64.wrap ((IntKind.i64.wrap ((IntKind.i64.wrap (y4 + 1)) + 1)) + 1))), (5, .int .i64 (IntKind.i64.wrap (y5 + 1)))]) ⟨rfl, rfl, rfl, trivial⟩ (Nat.lt_succ_self _) ⟨(((y3.set y5.toNat (⟨IntKind.i16.wrap y4, t6.Grows, t6.Most⟩ : Meadow)).set y5.toNat (⟨t7.Grass, IntKind.i16.wrap (IntKind.i64.wrap (y4 + 1)), t7.Most⟩ : Meadow)).set y5.toNat (⟨t8.Grass, t8.Grows, IntKind.i16.wrap (IntKind.i64.wrap ((IntKind.i64.wrap (y4 + 1)) + 1))⟩ : Meadow)), (IntKind.i64.wrap ((IntKind.i64.wrap ((IntKind.i64.wrap (y4 + 1)) + 1)) + 1)), (IntKind.i64.wrap (y5 + 1)), rfl, hS.pick [0] [] rfl, (by first | exact hl0 | (simp only [List.length_set]; exact hl0)), H⟩
      · replace H := pif_f (of_decide_eq_false hb) H
        refine CJ.exit (EJ.skE (EJ.skE (EJ.hit (?_))))
        exact EJ.meet (F' := [(1, .int .i64 y4)]) ⟨rfl, trivial⟩ ⟨y3, y4, H, rfl, hS.pick [0] [] rfl, (by first | exact hl0 | (simp only [List.length_set]; exact hl0))⟩
  · rintro F w1 ⟨y1, y2, he, rfl, hS, hl0⟩
    obtain rfl := Option.some.inj he
    have H := K90
    refine EJ.next ?_
    refine CJ.seq ?_
    refine CJ.region ?_
    refine OJ.pures tU_ok 2 rfl ?_
    refine OJ.nil (EJ.next ?_)
    refine CJ.ret (?_)
    obtain rfl := Option.some.inj H
    exact EJ.fin rfl (.tmp rfl .nil) ⟨rfl, hS.pick [0] [] rfl, (by first | exact hl0 | (simp only [List.length_set]; exact hl0))⟩

def laws_markInt64S.l1 (a0 : List Int) : Nat → (List Int) → Int → Int → Option ((List Int) × Int)
  | 0, _, _, _ => none
  | k + 1, y3, y4, y5 => if y5 < (a0.length : Int) then ((getI y3 y5).bind fun t6 => laws_markInt64S.l1 a0 k (y3.set y5.toNat y4) (IntKind.i64.wrap (y4 + 1)) (IntKind.i64.wrap (y5 + 1))) else (some (y3, y4))
def laws_markInt64S.f (k : Nat) (a0 : List Int) (a1 : Int) : Option (Int × List Int) := (laws_markInt64S.l1 a0 k a0 a1 0).bind fun (y1, y2) => some (y2, y1)
theorem laws_markInt64S.c (k : Nat) (w : World) (Aa0 : Option Addr) (ca0 : Nat) (a0 : List Int) (a1 : Int) (hin : St w (fpU [rowC (ci .i64) Aa0 ca0 2 a0]) w [rowC (ci .i64) Aa0 ca0 2 a0] []) (r : Int × List Int) (H : laws_markInt64S.f k a0 a1 = some r) :
    CV Try.prog 29 [.slice Aa0 a0.length ca0, .int .i64 a1].toArray w fun v w' => v = .int .i64 r.1 ∧ St w (fpU [rowC (ci .i64) Aa0 ca0 2 a0]) w' [rowC (ci .i64) Aa0 ca0 2 r.2] [] ∧ r.2.length = a0.length := by
  have hS := hin
  unfold laws_markInt64S.f at H
  refine CV.body Try.func29 rfl Try.ntmps29 rfl ?_
  have hl0 : a0.length = a0.length := rfl
  refine CJ.seq ?_
  refine CJ.region ?_
  refine OJ.pures tU_ok 1 rfl ?_
  refine OJ.nil (EJ.next ?_)
  refine CJ.seq ?_
  refine CJ.seq ?_
  refine CJ.region ?_
  refine OJ.pures tU_ok 1 rfl ?_
  refine OJ.nil (EJ.next ?_)
  obtain ⟨j93, H, K93⟩ := pbind H
  refine CJ.cut1 (fun F w1 => ∃ (y1 : List Int) (y2 : Int) , (some (y1, y2) : Option ((List Int) × Int)) = some j93 ∧ F = [(1, .int .i64 y2)] ∧ St w (fpU [rowC (ci .i64) Aa0 ca0 2 a0]) w1 [rowC (ci .i64) Aa0 ca0 2 y1] [] ∧ y1.length = a0.length) ?_ ?_
  · skip
    refine CJ.block ?_
    refine CJ.loop (fun k F w1 => ∃ (y3 : List Int) (y4 : Int) (y5 : Int), F = [(0, .slice Aa0 a0.length ca0), (1, .int .i64 y4), (5, .int .i64 y5)] ∧ St w (fpU [rowC (ci .i64) Aa0 ca0 2 a0]) w1 [rowC (ci .i64) Aa0 ca0 2 y3] [] ∧ y3.length = a0.length ∧ laws_markInt64S.l1 a0 k y3 y4 y5 = some j93) k (F' := [(0, .slice Aa0 a0.length ca0), (1, .int .i64 a1), (5, .int .i64 0)]) ⟨rfl, rfl, rfl, trivial⟩ ⟨a0, a1, 0, rfl, hS.pick [0] [] rfl, (by first | exact hl0 | (simp only [List.length_set]; exact hl0)), H⟩ ?_
    rintro k F w1 ⟨y3, y4, y5, rfl, hS, hl0, H⟩
    cases k with
    | zero => rw [laws_markInt64S.l1] at H; cases H
    | succ k =>
      rw [laws_markInt64S.l1] at H
      refine CJ.seq ?_
      refine CJ.seq ?_
      refine CJ.region ?_
      refine OJ.pures tU_ok 4 rfl ?_
      refine OJ.nil (EJ.next ?_)
      refine CJ.cond rfl (fun hb => ?_) (fun hb => ?_)
      · replace H := pif_t (of_decide_eq_true hb) H
        refine CJ.skip (EJ.next ?_)
        refine CJ.seq ?_
        refine CJ.block ?_
        refine CJ.seq ?_
        refine CJ.region ?_
        refine OJ.pures tU_ok 3 rfl ?_
        obtain ⟨t6, ht6, H⟩ := pbind H
        obtain ⟨ad6, e6⟩ := (hS.rd (i := 0) rfl).some' ht6
        refine OJ.st rfl rfl rfl (SR.idxS tU_ok tI_ok rfl rfl rfl rfl e6 rfl (by have hg := (getI_some ht6).1; (first | rw [hl0] at hg | (simp only [List.length_set] at hg; rw [hl0] at hg)); exact hg)) ?_
        refine OJ.es rfl rfl (Es.storeR tI_ok hS (i := 0) (off := 0) rfl rfl ht6 e6 rfl rfl rfl rfl (vs := (ci .i64).enc y4) rfl rfl (one1 rfl) (Nat.le_of_ble_eq_true rfl) y4 rfl) ?_
        intro w1 hS
        refine OJ.nil (EJ.next ?_)
        refine CJ.region ?_
        refine OJ.pures tU_ok 3 rfl ?_
        refine OJ.nil (EJ.blk (EJ.next ?_))
        refine CJ.region ?_
        refine OJ.pures tU_ok 3 rfl ?_
        refine OJ.nil ?_
        exact EJ.round k (F' := [(0, .slice Aa0 a0.length ca0), (1, .int .i64 (IntKind.i64.wrap (y4 + 1))), (5, .int .i64 (IntKind.i64.wrap (y5 + 1)))]) ⟨rfl, rfl, rfl, trivial⟩ (Nat.lt_succ_self _) ⟨(y3.set y5.toNat y4), (IntKind.i64.wrap (y4 + 1)), (IntKind.i64.wrap (y5 + 1)), rfl, hS.pick [0] [] rfl, (by first | exact hl0 | (simp only [List.length_set]; exact hl0)), H⟩
      · replace H := pif_f (of_decide_eq_false hb) H
        refine CJ.exit (EJ.skE (EJ.skE (EJ.hit (?_))))
        exact EJ.meet (F' := [(1, .int .i64 y4)]) ⟨rfl, trivial⟩ ⟨y3, y4, H, rfl, hS.pick [0] [] rfl, (by first | exact hl0 | (simp only [List.length_set]; exact hl0))⟩
  · rintro F w1 ⟨y1, y2, he, rfl, hS, hl0⟩
    obtain rfl := Option.some.inj he
    have H := K93
    refine EJ.next ?_
    refine CJ.seq ?_
    refine CJ.region ?_
    refine OJ.pures tU_ok 2 rfl ?_
    refine OJ.nil (EJ.next ?_)
    refine CJ.ret (?_)
    obtain rfl := Option.some.inj H
    exact EJ.fin rfl (.tmp rfl .nil) ⟨rfl, hS.pick [0] [] rfl, (by first | exact hl0 | (simp only [List.length_set]; exact hl0))⟩

def laws_heldInt64S.l1 (a0 : List Int) : Nat → Int → Int → Option (Int ⊕ Int)
  | 0, _, _ => none
  | k + 1, y2, y3 => if y3 < (a0.length : Int) then ((getI a0 y3).bind fun t4 => if t4 ≠ y2 then (some (Sum.inl (-1))) else (laws_heldInt64S.l1 a0 k (IntKind.i64.wrap (y2 + 1)) (IntKind.i64.wrap (y3 + 1)))) else (some (Sum.inr y2))
def laws_heldInt64S.f (k : Nat) (a0 : List Int) (a1 : Int) : Option Int := (laws_heldInt64S.l1 a0 k a1 0).bind fun s94 => match s94 with | .inl r => some r | .inr y1 => some y1
theorem laws_heldInt64S.c (k : Nat) (w : World) (Aa0 : Option Addr) (ca0 : Nat) (a0 : List Int) (hr0 : Rd (ci .i64) w Aa0 a0) (hc0 : a0.length ≤ ca0) (a1 : Int) (r : Int) (H : laws_heldInt64S.f k a0 a1 = some r) :
    CV Try.prog 30 [.slice Aa0 a0.length ca0, .int .i64 a1].toArray w fun v w' => v = .int .i64 r ∧ Ext w w' := by
  have hS := ((St.init w no).param (ci .i64) Aa0 ca0 a0 hr0 hc0)
  unfold laws_heldInt64S.f at H
  refine CV.body Try.func30 rfl Try.ntmps30 rfl ?_
  refine CJ.seq ?_
  refine CJ.region ?_
  refine OJ.pures tU_ok 1 rfl ?_
  refine OJ.nil (EJ.next ?_)
  refine CJ.seq ?_
  refine CJ.seq ?_
  refine CJ.region ?_
  refine OJ.pures tU_ok 1 rfl ?_
  refine OJ.nil (EJ.next ?_)
  obtain ⟨j94, H, K94⟩ := pbind H
  refine CJ.cut1 (fun F w1 => ∃ (y1 : Int) , (some (Sum.inr y1) : Option (Int ⊕ Int)) = some j94 ∧ F = [(1, .int .i64 y1)] ∧ St w no w1 [] [roC (ci .i64) Aa0 ca0 a0]) ?_ ?_
  · skip
    refine CJ.block ?_
    refine CJ.loop (fun k F w1 => ∃ (y2 : Int) (y3 : Int), F = [(0, .slice Aa0 a0.length ca0), (1, .int .i64 y2), (5, .int .i64 y3)] ∧ St w no w1 [] [roC (ci .i64) Aa0 ca0 a0] ∧ laws_heldInt64S.l1 a0 k y2 y3 = some j94) k (F' := [(0, .slice Aa0 a0.length ca0), (1, .int .i64 a1), (5, .int .i64 0)]) ⟨rfl, rfl, rfl, trivial⟩ ⟨a1, 0, rfl, hS.pick [] [0] rfl, H⟩ ?_
    rintro k F w1 ⟨y2, y3, rfl, hS, H⟩
    cases k with
    | zero => rw [laws_heldInt64S.l1] at H; cases H
    | succ k =>
      rw [laws_heldInt64S.l1] at H
      refine CJ.seq ?_
      refine CJ.seq ?_
      refine CJ.region ?_
      refine OJ.pures tU_ok 4 rfl ?_
      refine OJ.nil (EJ.next ?_)
      refine CJ.cond rfl (fun hb => ?_) (fun hb => ?_)
      · replace H := pif_t (of_decide_eq_true hb) H
        refine CJ.skip (EJ.next ?_)
        refine CJ.seq ?_
        refine CJ.block ?_
        refine CJ.seq ?_
        refine CJ.seq ?_
        refine CJ.region ?_
        refine OJ.pures tU_ok 2 rfl ?_
        obtain ⟨t4, ht4, H⟩ := pbind H
        obtain ⟨ad4, e4⟩ := (hS.rd' (i := 0) rfl).some' ht4
        refine OJ.st rfl rfl rfl (SR.idxS tU_ok tI_ok rfl rfl rfl rfl e4 rfl (getI_some ht4).1) ?_
        refine OJ.st rfl rfl rfl (SR.load rfl rfl (fun w' hx => ld1 tU_ok rfl rfl (CA.ext ((hS.rd' (i := 0) rfl).at_ e4 ht4) hx) rfl)) ?_
        refine OJ.pures tU_ok 2 rfl ?_
        refine OJ.nil (EJ.next ?_)
        refine CJ.cond rfl (fun hb => ?_) (fun hb => ?_)
        · replace H := pif_t (of_decide_eq_true hb) H
          refine CJ.seq ?_
          refine CJ.region ?_
          refine OJ.pures tU_ok 1 rfl ?_
          refine OJ.nil (EJ.next ?_)
          refine CJ.ret (EJ.skR (EJ.bkR (EJ.skR (EJ.skR (EJ.bkR (EJ.skR (EJ.skR (?_))))))))
          first | (obtain rfl := Option.some.inj H; have H := K94) | (obtain ⟨q94, H2, e94⟩ := pbind H; obtain rfl := Option.some.inj e94; obtain rfl := Option.some.inj K94; have H := H2)
          obtain rfl := Option.some.inj H
          exact EJ.fin rfl (.tmp rfl .nil) ⟨rfl, hS.ext⟩
        · replace H := pif_f (of_decide_eq_false hb) H
          refine CJ.skip (EJ.next ?_)
          refine CJ.region ?_
          refine OJ.pures tU_ok 3 rfl ?_
          refine OJ.nil (EJ.blk (EJ.next ?_))
          refine CJ.region ?_
          refine OJ.pures tU_ok 3 rfl ?_
          refine OJ.nil ?_
          exact EJ.round k (F' := [(0, .slice Aa0 a0.length ca0), (1, .int .i64 (IntKind.i64.wrap (y2 + 1))), (5, .int .i64 (IntKind.i64.wrap (y3 + 1)))]) ⟨rfl, rfl, rfl, trivial⟩ (Nat.lt_succ_self _) ⟨(IntKind.i64.wrap (y2 + 1)), (IntKind.i64.wrap (y3 + 1)), rfl, hS.pick [] [0] rfl, H⟩
      · replace H := pif_f (of_decide_eq_false hb) H
        refine CJ.exit (EJ.skE (EJ.skE (EJ.hit (?_))))
        exact EJ.meet (F' := [(1, .int .i64 y2)]) ⟨rfl, trivial⟩ ⟨y2, H, rfl, hS.pick [] [0] rfl⟩
  · rintro F w1 ⟨y1, he, rfl, hS⟩
    obtain rfl := Option.some.inj he
    have H := K94
    refine EJ.next ?_
    refine CJ.seq ?_
    refine CJ.region ?_
    refine OJ.pures tU_ok 2 rfl ?_
    refine OJ.nil (EJ.next ?_)
    refine CJ.ret (?_)
    obtain rfl := Option.some.inj H
    exact EJ.fin rfl (.tmp rfl .nil) ⟨rfl, hS.ext⟩

def laws_FnExactFirstPlan.f (k : Nat) (a0 : List Meadow) (a1 : Int) (a2 : Int) (a3 : Int) : Option Bool := (laws_szMeadowS.f a0 1048576).bind fun t1 => if t1 < 0 then (some true) else ((laws_toMeadowS.f k a0).bind fun t2 => (spec_FirstPlan.f k t2 a1 a2 a3).bind fun t5 => (laws_toMeadowS.f k a0).bind fun t8 => (impl_FirstPlan.f k t8 a1 a2 a3).bind fun t11 => ((laws_eqInt64S.f k t11.1 t5.1).bind fun t15 => if (!t15) = true then (some true) else (if t11.2.1 ≠ t5.2.1 then (some true) else (some (decide (t11.2.2 ≠ t5.2.2))))).bind fun y14 => if y14 = true then (some false) else ((laws_toMeadowS.f k a0).bind fun t16 => (laws_eqMeadowS.f k t8 t16).bind fun t19 => if (!t19) = true then (some false) else ((laws_markMeadowS.f k t8 1).bind fun t20 => (if t20.1 < 0 then (some true) else ((laws_eqInt64S.f k t11.1 t5.1).bind fun t22 => if (!t22) = true then (some true) else (if t11.2.1 ≠ t5.2.1 then (some true) else (some (decide (t11.2.2 ≠ t5.2.2)))))).bind fun y21 => if y21 = true then (some false) else ((laws_markInt64S.f k t11.1 1).bind fun t23 => (laws_heldInt64S.f k t23.2 1).bind fun t24 => if t24 < 0 then (some false) else (if t24 ≠ t23.1 then (some false) else ((laws_toMeadowS.f k a0).bind fun t25 => (impl_FirstPlan.f k t25 a1 a2 a3).bind fun t28 => ((laws_eqInt64S.f k t28.1 t5.1).bind fun t32 => if (!t32) = true then (some true) else (if t28.2.1 ≠ t5.2.1 then (some true) else (some (decide (t28.2.2 ≠ t5.2.2))))).bind fun y31 => if y31 = true then (some false) else ((laws_heldInt64S.f k t23.2 1).bind fun t33 => if t33 < 0 then (some false) else (if t33 ≠ t23.1 then (some false) else (some true)))))))))
theorem laws_FnExactFirstPlan.c (k : Nat) (w : World) (Aa0 : Option Addr) (ca0 : Nat) (a0 : List Meadow) (hr0 : Rd cMeadow w Aa0 a0) (hc0 : a0.length ≤ ca0) (a1 : Int) (a2 : Int) (a3 : Int) (r : Bool) (H : laws_FnExactFirstPlan.f k a0 a1 a2 a3 = some r) :
    CV Try.prog 6 [.slice Aa0 a0.length ca0, .int .i64 a1, .int .i64 a2, .int .i64 a3].toArray w fun v w' => v = .bool r ∧ Ext w w' := by
  have hS := ((St.init w no).param cMeadow Aa0 ca0 a0 hr0 hc0)
  unfold laws_FnExactFirstPlan.f at H
  refine CV.body Try.func6 rfl Try.ntmps6 rfl ?_
  refine CJ.seq ?_
  refine CJ.region ?_
  refine OJ.pures tU_ok 1 rfl ?_
  refine OJ.nil (EJ.next ?_)
  refine CJ.seq ?_
  refine CJ.region ?_
  refine OJ.pures tU_ok 1 rfl ?_
  refine OJ.nil (EJ.next ?_)
  refine CJ.seq ?_
  refine CJ.region ?_
  refine OJ.pures tU_ok 2 rfl ?_
  obtain ⟨t1, ht1, H⟩ := pbind H
  refine OJ.callF rfl rfl rfl rfl rfl hb20 rfl (laws_szMeadowS.c _ Aa0 ca0 a0 (hS.rd' (i := 0) rfl) (hS.le' (i := 0) rfl) 1048576 _ ht1) ?_
  rintro _ w1 ⟨rfl, hs⟩
  replace hS := hS.grow hs
  refine OJ.pures tU_ok 1 rfl ?_
  refine OJ.nil (EJ.next ?_)
  refine CJ.seq ?_
  refine CJ.seq ?_
  refine CJ.region ?_
  refine OJ.pures tU_ok 2 rfl ?_
  refine OJ.nil (EJ.next ?_)
  refine CJ.cond rfl (fun hb => ?_) (fun hb => ?_)
  · replace H := pif_t (of_decide_eq_true hb) H
    refine CJ.seq ?_
    refine CJ.region ?_
    refine OJ.pures tU_ok 1 rfl ?_
    refine OJ.nil (EJ.next ?_)
    refine CJ.ret (EJ.skR (?_))
    obtain rfl := Option.some.inj H
    exact EJ.fin rfl (.tmp rfl .nil) ⟨rfl, hS.ext⟩
  · replace H := pif_f (of_decide_eq_false hb) H
    refine CJ.skip (EJ.next ?_)
    refine CJ.seq ?_
    refine CJ.region ?_
    refine OJ.pures tU_ok 1 rfl ?_
    obtain ⟨t2, ht2, H⟩ := pbind H
    refine OJ.callF rfl rfl rfl rfl rfl hb22 rfl (laws_toMeadowS.c k _ Aa0 ca0 a0 (hS.rd' (i := 0) rfl) (hS.le' (i := 0) rfl) _ ht2) ?_
    rintro _ w1 ⟨A3, c4, rfl, hs⟩
    replace hS := hS.addN hs
    refine OJ.pures tU_ok 3 rfl ?_
    obtain ⟨t5, ht5, H⟩ := pbind H
    refine OJ.callF rfl rfl rfl rfl rfl hb25 rfl (spec_FirstPlan.c k _ A3 c4 t2 (hS.rd (i := 0) rfl) (hS.le (i := 0) rfl) a1 a2 a3 _ ht5) ?_
    rintro _ w1 ⟨A6, c7, rfl, hs⟩
    replace hS := hS.addN hs
    refine OJ.pures tU_ok 7 rfl ?_
    refine OJ.nil (EJ.next ?_)
    refine CJ.seq ?_
    refine CJ.region ?_
    refine OJ.pures tU_ok 1 rfl ?_
    obtain ⟨t8, ht8, H⟩ := pbind H
    refine OJ.callF rfl rfl rfl rfl rfl hb22 rfl (laws_toMeadowS.c k _ Aa0 ca0 a0 (hS.rd' (i := 0) rfl) (hS.le' (i := 0) rfl) _ ht8) ?_
    rintro _ w1 ⟨A9, c10, rfl, hs⟩
    replace hS := hS.addN hs
    refine OJ.pures tU_ok 1 rfl ?_
    refine OJ.nil (EJ.next ?_)
    refine CJ.seq ?_
    refine CJ.region ?_
    refine OJ.pures tU_ok 4 rfl ?_
    obtain ⟨t11, ht11, H⟩ := pbind H
    refine OJ.callF rfl rfl rfl rfl rfl hb26 rfl (impl_FirstPlan.c k _ A9 c10 t8 (hS.rd (i := 2) rfl) (hS.le (i := 2) rfl) a1 a2 a3 _ ht11) ?_
    rintro _ w1 ⟨A12, c13, rfl, hs⟩
    replace hS := hS.addN hs
    refine OJ.pures tU_ok 7 rfl ?_
    refine OJ.nil (EJ.next ?_)
    refine CJ.seq ?_
    obtain ⟨j87, H, K87⟩ := pbind H
    refine CJ.cut (fun F w1 => ∃ (y14 : Bool) , (some y14 : Option Bool) = some j87 ∧ F = [(0, .slice Aa0 a0.length ca0), (1, .int .i64 a1), (2, .int .i64 a2), (3, .int .i64 a3), (10, .slice A6 t5.1.length c7), (11, .int .i64 t5.2.1), (12, .int .i64 t5.2.2), (13, .slice A9 t8.length c10), (14, .slice A12 t11.1.length c13), (15, .int .i64 t11.2.1), (16, .int .i64 t11.2.2), (62, .bool y14)] ∧ St w no w1 [rowC (ci .i64) A6 c7 2 t5.1, rowC cMeadow A9 c10 85 t8, rowC (ci .i64) A12 c13 2 t11.1] [roC cMeadow Aa0 ca0 a0]) ?_ ?_
    · skip
      refine CJ.region ?_
      refine OJ.pures tU_ok 2 rfl ?_
      obtain ⟨t15, ht15, H⟩ := pbind H
      refine OJ.callF rfl rfl rfl rfl rfl hb27 rfl (laws_eqInt64S.c k _ A12 c13 t11.1 (hS.rd (i := 3) rfl) (hS.le (i := 3) rfl) A6 c7 t5.1 (hS.rd (i := 1) rfl) (hS.le (i := 1) rfl) _ ht15) ?_
      rintro _ w1 ⟨rfl, hs⟩
      replace hS := hS.grow hs
      refine OJ.pures tU_ok 2 rfl ?_
      refine OJ.split (t := 53) rfl (fun hb => ?_) (fun hb => ?_)
      · replace H := pif_t hb H
        refine OJ.pures tU_ok 9 rfl ?_
        refine OJ.nil ?_
        exact EJ.meet (F' := [(0, .slice Aa0 a0.length ca0), (1, .int .i64 a1), (2, .int .i64 a2), (3, .int .i64 a3), (10, .slice A6 t5.1.length c7), (11, .int .i64 t5.2.1), (12, .int .i64 t5.2.2), (13, .slice A9 t8.length c10), (14, .slice A12 t11.1.length c13), (15, .int .i64 t11.2.1), (16, .int .i64 t11.2.2), (62, .bool true)]) ⟨rfl, rfl, rfl, rfl, rfl, rfl, rfl, rfl, rfl, rfl, rfl, rfl, trivial⟩ ⟨true, H, rfl, hS.pick [1, 2, 3] [0] rfl⟩
      · replace H := pifb_f hb H
        refine OJ.pures tU_ok 5 rfl ?_
        refine OJ.split (t := 58) rfl (fun hb => ?_) (fun hb => ?_)
        · replace H := pif_t (of_decide_eq_true hb) H
          refine OJ.pures tU_ok 4 rfl ?_
          refine OJ.nil ?_
          exact EJ.meet (F' := [(0, .slice Aa0 a0.length ca0), (1, .int .i64 a1), (2, .int .i64 a2), (3, .int .i64 a3), (10, .slice A6 t5.1.length c7), (11, .int .i64 t5.2.1), (12, .int .i64 t5.2.2), (13, .slice A9 t8.length c10), (14, .slice A12 t11.1.length c13), (15, .int .i64 t11.2.1), (16, .int .i64 t11.2.2), (62, .bool true)]) ⟨rfl, rfl, rfl, rfl, rfl, rfl, rfl, rfl, rfl, rfl, rfl, rfl, trivial⟩ ⟨true, H, rfl, hS.pick [1, 2, 3] [0] rfl⟩
        · replace H := pif_f (of_decide_eq_false hb) H
          refine OJ.pures tU_ok 4 rfl ?_
          refine OJ.nil ?_
          exact EJ.meet (F' := [(0, .slice Aa0 a0.length ca0), (1, .int .i64 a1), (2, .int .i64 a2), (3, .int .i64 a3), (10, .slice A6 t5.1.length c7), (11, .int .i64 t5.2.1), (12, .int .i64 t5.2.2), (13, .slice A9 t8.length c10), (14, .slice A12 t11.1.length c13), (15, .int .i64 t11.2.1), (16, .int .i64 t11.2.2), (62, .bool (decide (t11.2.2 ≠ t5.2.2)))]) ⟨rfl, rfl, rfl, rfl, rfl, rfl, rfl, rfl, rfl, rfl, rfl, rfl, trivial⟩ ⟨(decide (t11.2.2 ≠ t5.2.2)), H, rfl, hS.pick [1, 2, 3] [0] rfl⟩
    · rintro F w1 ⟨y14, he, rfl, hS⟩
      obtain rfl := Option.some.inj he
      have H := K87
      refine CJ.cond rfl (fun hb => ?_) (fun hb => ?_)
      · replace H := pif_t hb H
        refine CJ.seq ?_
        refine CJ.region ?_
        refine OJ.pures tU_ok 1 rfl ?_
        refine OJ.nil (EJ.next ?_)
        refine CJ.ret (EJ.skR (?_))
        obtain rfl := Option.some.inj H
        exact EJ.fin rfl (.tmp rfl .nil) ⟨rfl, hS.ext⟩
      · replace H := pifb_f hb H
        refine CJ.skip (EJ.next ?_)
        refine CJ.seq ?_
        refine CJ.seq ?_
        refine CJ.region ?_
        refine OJ.pures tU_ok 2 rfl ?_
        obtain ⟨t16, ht16, H⟩ := pbind H
        refine OJ.callF rfl rfl rfl rfl rfl hb22 rfl (laws_toMeadowS.c k _ Aa0 ca0 a0 (hS.rd' (i := 0) rfl) (hS.le' (i := 0) rfl) _ ht16) ?_
        rintro _ w1 ⟨A17, c18, rfl, hs⟩
        replace hS := hS.addN hs
        obtain ⟨t19, ht19, H⟩ := pbind H
        refine OJ.callF rfl rfl rfl rfl rfl hb24 rfl (laws_eqMeadowS.c k _ A9 c10 t8 (hS.rd (i := 1) rfl) (hS.le (i := 1) rfl) A17 c18 t16 (hS.rd (i := 3) rfl) (hS.le (i := 3) rfl) _ ht19) ?_
        rintro _ w1 ⟨rfl, hs⟩
        replace hS := hS.grow hs
        refine OJ.pures tU_ok 1 rfl ?_
        refine OJ.nil (EJ.next ?_)
        refine CJ.cond rfl (fun hb => ?_) (fun hb => ?_)
        · replace H := pif_t hb H
          refine CJ.seq ?_
          refine CJ.region ?_
          refine OJ.pures tU_ok 1 rfl ?_
          refine OJ.nil (EJ.next ?_)
          refine CJ.ret (EJ.skR (?_))
          obtain rfl := Option.some.inj H
          exact EJ.fin rfl (.tmp rfl .nil) ⟨rfl, hS.ext⟩
        · replace H := pifb_f hb H
          refine CJ.skip (EJ.next ?_)
          refine CJ.seq ?_
          refine CJ.region ?_
          refine OJ.pures tU_ok 1 rfl ?_
          refine OJ.nil (EJ.next ?_)
          refine CJ.seq ?_
          refine CJ.region ?_
          refine OJ.pures tU_ok 2 rfl ?_
          obtain ⟨t20, ht20, H⟩ := pbind H
          refine OJ.callF rfl rfl rfl rfl rfl hb28 rfl (laws_markMeadowS.c k _ A9 c10 t8 1 ((hS.subs [1] [] [] rfl).pick [0] [] rfl) _ ht20) ?_
          rintro _ w1 ⟨rfl, hs, hlc0⟩
          replace hS := hS.back [1] rfl rfl [rowC cMeadow A9 c10 85 t20.2] [] hs ⟨fun _ => Iff.rfl, trivial⟩
          refine OJ.as (t := 13) rfl (show _ = (.slice A9 t20.2.length c10 : Value) by simp only [hlc0]) ?_
          refine OJ.as (t := 63) rfl (show _ = (.slice A9 t20.2.length c10 : Value) by simp only [hlc0]) ?_
          refine OJ.as (t := 68) rfl (show _ = (.slice A9 t20.2.length c10 : Value) by simp only [hlc0]) ?_
          refine OJ.pures tU_ok 1 rfl ?_
          refine OJ.nil (EJ.next ?_)
          refine CJ.seq ?_
          obtain ⟨j91, H, K91⟩ := pbind H
          refine CJ.cut (fun F w1 => ∃ (y21 : Bool) , (some y21 : Option Bool) = some j91 ∧ F = [(0, .slice Aa0 a0.length ca0), (1, .int .i64 a1), (2, .int .i64 a2), (3, .int .i64 a3), (10, .slice A6 t5.1.length c7), (11, .int .i64 t5.2.1), (12, .int .i64 t5.2.2), (14, .slice A12 t11.1.length c13), (88, .bool y21)] ∧ St w no w1 [rowC (ci .i64) A6 c7 2 t5.1, rowC (ci .i64) A12 c13 2 t11.1] [roC cMeadow Aa0 ca0 a0]) ?_ ?_
          · skip
            refine CJ.region ?_
            refine OJ.pures tU_ok 3 rfl ?_
            refine OJ.split (t := 73) rfl (fun hb => ?_) (fun hb => ?_)
            · replace H := pif_t (of_decide_eq_true hb) H
              refine OJ.pures tU_ok 15 rfl ?_
              refine OJ.nil ?_
              exact EJ.meet (F' := [(0, .slice Aa0 a0.length ca0), (1, .int .i64 a1), (2, .int .i64 a2), (3, .int .i64 a3), (10, .slice A6 t5.1.length c7), (11, .int .i64 t5.2.1), (12, .int .i64 t5.2.2), (14, .slice A12 t11.1.length c13), (88, .bool true)]) ⟨rfl, rfl, rfl, rfl, rfl, rfl, rfl, rfl, rfl, trivial⟩ ⟨true, H, rfl, hS.pick [0, 2] [0] rfl⟩
            · replace H := pif_f (of_decide_eq_false hb) H
              refine OJ.pures tU_ok 2 rfl ?_
              obtain ⟨t22, ht22, H⟩ := pbind H
              refine OJ.callF rfl rfl rfl rfl rfl hb27 rfl (laws_eqInt64S.c k _ A12 c13 t11.1 (hS.rd (i := 2) rfl) (hS.le (i := 2) rfl) A6 c7 t5.1 (hS.rd (i := 0) rfl) (hS.le (i := 0) rfl) _ ht22) ?_
              rintro _ w1 ⟨rfl, hs⟩
              replace hS := hS.grow hs
              refine OJ.pures tU_ok 3 rfl ?_
              refine OJ.split (t := 79) rfl (fun hb => ?_) (fun hb => ?_)
              · replace H := pif_t hb H
                refine OJ.pures tU_ok 9 rfl ?_
                refine OJ.nil ?_
                exact EJ.meet (F' := [(0, .slice Aa0 a0.length ca0), (1, .int .i64 a1), (2, .int .i64 a2), (3, .int .i64 a3), (10, .slice A6 t5.1.length c7), (11, .int .i64 t5.2.1), (12, .int .i64 t5.2.2), (14, .slice A12 t11.1.length c13), (88, .bool true)]) ⟨rfl, rfl, rfl, rfl, rfl, rfl, rfl, rfl, rfl, trivial⟩ ⟨true, H, rfl, hS.pick [0, 2] [0] rfl⟩
              · replace H := pifb_f hb H
                refine OJ.pures tU_ok 5 rfl ?_
                refine OJ.split (t := 84) rfl (fun hb => ?_) (fun hb => ?_)
                · replace H := pif_t (of_decide_eq_true hb) H
                  refine OJ.pures tU_ok 4 rfl ?_
                  refine OJ.nil ?_
                  exact EJ.meet (F' := [(0, .slice Aa0 a0.length ca0), (1, .int .i64 a1), (2, .int .i64 a2), (3, .int .i64 a3), (10, .slice A6 t5.1.length c7), (11, .int .i64 t5.2.1), (12, .int .i64 t5.2.2), (14, .slice A12 t11.1.length c13), (88, .bool true)]) ⟨rfl, rfl, rfl, rfl, rfl, rfl, rfl, rfl, rfl, trivial⟩ ⟨true, H, rfl, hS.pick [0, 2] [0] rfl⟩
                · replace H := pif_f (of_decide_eq_false hb) H
                  refine OJ.pures tU_ok 4 rfl ?_
                  refine OJ.nil ?_
                  exact EJ.meet (F' := [(0, .slice Aa0 a0.length ca0), (1, .int .i64 a1), (2, .int .i64 a2), (3, .int .i64 a3), (10, .slice A6 t5.1.length c7), (11, .int .i64 t5.2.1), (12, .int .i64 t5.2.2), (14, .slice A12 t11.1.length c13), (88, .bool (decide (t11.2.2 ≠ t5.2.2)))]) ⟨rfl, rfl, rfl, rfl, rfl, rfl, rfl, rfl, rfl, trivial⟩ ⟨(decide (t11.2.2 ≠ t5.2.2)), H, rfl, hS.pick [0, 2] [0] rfl⟩
          · rintro F w1 ⟨y21, he, rfl, hS⟩
            obtain rfl := Option.some.inj he
            have H := K91
            refine CJ.cond rfl (fun hb => ?_) (fun hb => ?_)
            · replace H := pif_t hb H
              refine CJ.seq ?_
              refine CJ.region ?_
              refine OJ.pures tU_ok 1 rfl ?_
              refine OJ.nil (EJ.next ?_)
              refine CJ.ret (EJ.skR (?_))
              obtain rfl := Option.some.inj H
              exact EJ.fin rfl (.tmp rfl .nil) ⟨rfl, hS.ext⟩
            · replace H := pifb_f hb H
              refine CJ.skip (EJ.next ?_)
              refine CJ.seq ?_
              refine CJ.region ?_
              refine OJ.pures tU_ok 1 rfl ?_
              refine OJ.nil (EJ.next ?_)
              refine CJ.seq ?_
              refine CJ.region ?_
              refine OJ.pures tU_ok 2 rfl ?_
              obtain ⟨t23, ht23, H⟩ := pbind H
              refine OJ.callF rfl rfl rfl rfl rfl hb29 rfl (laws_markInt64S.c k _ A12 c13 t11.1 1 ((hS.subs [1] [] [] rfl).pick [0] [] rfl) _ ht23) ?_
              rintro _ w1 ⟨rfl, hs, hlc0⟩
              replace hS := hS.back [1] rfl rfl [rowC (ci .i64) A12 c13 2 t23.2] [] hs ⟨fun _ => Iff.rfl, trivial⟩
              refine OJ.as (t := 14) rfl (show _ = (.slice A12 t23.2.length c13 : Value) by simp only [hlc0]) ?_
              refine OJ.as (t := 89) rfl (show _ = (.slice A12 t23.2.length c13 : Value) by simp only [hlc0]) ?_
              refine OJ.pures tU_ok 1 rfl ?_
              refine OJ.nil (EJ.next ?_)
              refine CJ.seq ?_
              refine CJ.region ?_
              refine OJ.pures tU_ok 1 rfl ?_
              refine OJ.nil (EJ.next ?_)
              refine CJ.seq ?_
              refine CJ.region ?_
              refine OJ.pures tU_ok 2 rfl ?_
              obtain ⟨t24, ht24, H⟩ := pbind H
              refine OJ.callF rfl rfl rfl rfl rfl hb30 rfl (laws_heldInt64S.c k _ A12 c13 t23.2 (hS.rd (i := 1) rfl) (hS.le (i := 1) rfl) 1 _ ht24) ?_
              rintro _ w1 ⟨rfl, hs⟩
              replace hS := hS.grow hs
              refine OJ.pures tU_ok 1 rfl ?_
              refine OJ.nil (EJ.next ?_)
              refine CJ.seq ?_
              refine CJ.seq ?_
              refine CJ.region ?_
              refine OJ.pures tU_ok 2 rfl ?_
              refine OJ.nil (EJ.next ?_)
              refine CJ.cond rfl (fun hb => ?_) (fun hb => ?_)
              · replace H := pif_t (of_decide_eq_true hb) H
                refine CJ.seq ?_
                refine CJ.region ?_
                refine OJ.pures tU_ok 1 rfl ?_
                refine OJ.nil (EJ.next ?_)
                refine CJ.ret (EJ.skR (?_))
                obtain rfl := Option.some.inj H
                exact EJ.fin rfl (.tmp rfl .nil) ⟨rfl, hS.ext⟩
              · replace H := pif_f (of_decide_eq_false hb) H
                refine CJ.skip (EJ.next ?_)
                refine CJ.seq ?_
                refine CJ.seq ?_
                refine CJ.region ?_
                refine OJ.pures tU_ok 3 rfl ?_
                refine OJ.nil (EJ.next ?_)
                refine CJ.cond rfl (fun hb => ?_) (fun hb => ?_)
                · replace H := pif_t (of_decide_eq_true hb) H
                  refine CJ.seq ?_
                  refine CJ.region ?_
                  refine OJ.pures tU_ok 1 rfl ?_
                  refine OJ.nil (EJ.next ?_)
                  refine CJ.ret (EJ.skR (?_))
                  obtain rfl := Option.some.inj H
                  exact EJ.fin rfl (.tmp rfl .nil) ⟨rfl, hS.ext⟩
                · replace H := pif_f (of_decide_eq_false hb) H
                  refine CJ.skip (EJ.next ?_)
                  refine CJ.seq ?_
                  refine CJ.region ?_
                  refine OJ.pures tU_ok 1 rfl ?_
                  obtain ⟨t25, ht25, H⟩ := pbind H
                  refine OJ.callF rfl rfl rfl rfl rfl hb22 rfl (laws_toMeadowS.c k _ Aa0 ca0 a0 (hS.rd' (i := 0) rfl) (hS.le' (i := 0) rfl) _ ht25) ?_
                  rintro _ w1 ⟨A26, c27, rfl, hs⟩
                  replace hS := hS.addN hs
                  refine OJ.pures tU_ok 3 rfl ?_
                  obtain ⟨t28, ht28, H⟩ := pbind H
                  refine OJ.callF rfl rfl rfl rfl rfl hb26 rfl (impl_FirstPlan.c k _ A26 c27 t25 (hS.rd (i := 2) rfl) (hS.le (i := 2) rfl) a1 a2 a3 _ ht28) ?_
                  rintro _ w1 ⟨A29, c30, rfl, hs⟩
                  replace hS := hS.addN hs
                  refine OJ.pures tU_ok 7 rfl ?_
                  refine OJ.nil (EJ.next ?_)
                  refine CJ.seq ?_
                  obtain ⟨j95, H, K95⟩ := pbind H
                  refine CJ.cut (fun F w1 => ∃ (y31 : Bool) , (some y31 : Option Bool) = some j95 ∧ F = [(14, .slice A12 t23.2.length c13), (18, .int .i64 t23.1), (123, .bool y31)] ∧ St w no w1 [rowC (ci .i64) A12 c13 2 t23.2] [roC cMeadow Aa0 ca0 a0]) ?_ ?_
                  · skip
                    refine CJ.region ?_
                    refine OJ.pures tU_ok 2 rfl ?_
                    obtain ⟨t32, ht32, H⟩ := pbind H
                    refine OJ.callF rfl rfl rfl rfl rfl hb27 rfl (laws_eqInt64S.c k _ A29 c30 t28.1 (hS.rd (i := 3) rfl) (hS.le (i := 3) rfl) A6 c7 t5.1 (hS.rd (i := 0) rfl) (hS.le (i := 0) rfl) _ ht32) ?_
                    rintro _ w1 ⟨rfl, hs⟩
                    replace hS := hS.grow hs
                    refine OJ.pures tU_ok 2 rfl ?_
                    refine OJ.split (t := 114) rfl (fun hb => ?_) (fun hb => ?_)
                    · replace H := pif_t hb H
                      refine OJ.pures tU_ok 9 rfl ?_
                      refine OJ.nil ?_
                      exact EJ.meet (F' := [(14, .slice A12 t23.2.length c13), (18, .int .i64 t23.1), (123, .bool true)]) ⟨rfl, rfl, rfl, trivial⟩ ⟨true, H, rfl, hS.pick [1] [0] rfl⟩
                    · replace H := pifb_f hb H
                      refine OJ.pures tU_ok 5 rfl ?_
                      refine OJ.split (t := 119) rfl (fun hb => ?_) (fun hb => ?_)
                      · replace H := pif_t (of_decide_eq_true hb) H
                        refine OJ.pures tU_ok 4 rfl ?_
                        refine OJ.nil ?_
                        exact EJ.meet (F' := [(14, .slice A12 t23.2.length c13), (18, .int .i64 t23.1), (123, .bool true)]) ⟨rfl, rfl, rfl, trivial⟩ ⟨true, H, rfl, hS.pick [1] [0] rfl⟩
                      · replace H := pif_f (of_decide_eq_false hb) H
                        refine OJ.pures tU_ok 4 rfl ?_
                        refine OJ.nil ?_
                        exact EJ.meet (F' := [(14, .slice A12 t23.2.length c13), (18, .int .i64 t23.1), (123, .bool (decide (t28.2.2 ≠ t5.2.2)))]) ⟨rfl, rfl, rfl, trivial⟩ ⟨(decide (t28.2.2 ≠ t5.2.2)), H, rfl, hS.pick [1] [0] rfl⟩
                  · rintro F w1 ⟨y31, he, rfl, hS⟩
                    obtain rfl := Option.some.inj he
                    have H := K95
                    refine CJ.cond rfl (fun hb => ?_) (fun hb => ?_)
                    · replace H := pif_t hb H
                      refine CJ.seq ?_
                      refine CJ.region ?_
                      refine OJ.pures tU_ok 1 rfl ?_
                      refine OJ.nil (EJ.next ?_)
                      refine CJ.ret (EJ.skR (?_))
                      obtain rfl := Option.some.inj H
                      exact EJ.fin rfl (.tmp rfl .nil) ⟨rfl, hS.ext⟩
                    · replace H := pifb_f hb H
                      refine CJ.skip (EJ.next ?_)
                      refine CJ.seq ?_
                      refine CJ.region ?_
                      refine OJ.pures tU_ok 1 rfl ?_
                      refine OJ.nil (EJ.next ?_)
                      refine CJ.seq ?_
                      refine CJ.region ?_
                      refine OJ.pures tU_ok 2 rfl ?_
                      obtain ⟨t33, ht33, H⟩ := pbind H
                      refine OJ.callF rfl rfl rfl rfl rfl hb30 rfl (laws_heldInt64S.c k _ A12 c13 t23.2 (hS.rd (i := 0) rfl) (hS.le (i := 0) rfl) 1 _ ht33) ?_
                      rintro _ w1 ⟨rfl, hs⟩
                      replace hS := hS.grow hs
                      refine OJ.pures tU_ok 1 rfl ?_
                      refine OJ.nil (EJ.next ?_)
                      refine CJ.seq ?_
                      refine CJ.seq ?_
                      refine CJ.region ?_
                      refine OJ.pures tU_ok 2 rfl ?_
                      refine OJ.nil (EJ.next ?_)
                      refine CJ.cond rfl (fun hb => ?_) (fun hb => ?_)
                      · replace H := pif_t (of_decide_eq_true hb) H
                        refine CJ.seq ?_
                        refine CJ.region ?_
                        refine OJ.pures tU_ok 1 rfl ?_
                        refine OJ.nil (EJ.next ?_)
                        refine CJ.ret (EJ.skR (?_))
                        obtain rfl := Option.some.inj H
                        exact EJ.fin rfl (.tmp rfl .nil) ⟨rfl, hS.ext⟩
                      · replace H := pif_f (of_decide_eq_false hb) H
                        refine CJ.skip (EJ.next ?_)
                        refine CJ.seq ?_
                        refine CJ.seq ?_
                        refine CJ.region ?_
                        refine OJ.pures tU_ok 3 rfl ?_
                        refine OJ.nil (EJ.next ?_)
                        refine CJ.cond rfl (fun hb => ?_) (fun hb => ?_)
                        · replace H := pif_t (of_decide_eq_true hb) H
                          refine CJ.seq ?_
                          refine CJ.region ?_
                          refine OJ.pures tU_ok 1 rfl ?_
                          refine OJ.nil (EJ.next ?_)
                          refine CJ.ret (EJ.skR (?_))
                          obtain rfl := Option.some.inj H
                          exact EJ.fin rfl (.tmp rfl .nil) ⟨rfl, hS.ext⟩
                        · replace H := pif_f (of_decide_eq_false hb) H
                          refine CJ.skip (EJ.next ?_)
                          refine CJ.seq ?_
                          refine CJ.region ?_
                          refine OJ.pures tU_ok 1 rfl ?_
                          refine OJ.nil (EJ.next ?_)
                          refine CJ.ret (?_)
                          obtain rfl := Option.some.inj H
                          exact EJ.fin rfl (.tmp rfl .nil) ⟨rfl, hS.ext⟩

def spec_l07Goat.f (k : Nat) (a0 : Pasture) (a1 : List Sight) (a2 : Int) : Option Int := (spec_l07Sights.f k a0 a1).bind fun t1 => if (!t1) = true then (some 1) else ((spec_l00In.f a2 0 100).bind fun t2 => if (!t2) = true then (some 2) else (some 0))
theorem spec_l07Goat.c (k : Nat) (w : World) (pa0 : Addr) (a0 : Pasture) (hp0 : CA w pa0 (cPasture.enc a0)) (Aa1 : Option Addr) (ca1 : Nat) (a1 : List Sight) (hr1 : Rd cSight w Aa1 a1) (hc1 : a1.length ≤ ca1) (a2 : Int) (r : Int) (H : spec_l07Goat.f k a0 a1 a2 = some r) :
    CV Try.prog 93 [.pointer (some pa0), .slice Aa1 a1.length ca1, .int .i64 a2].toArray w fun v w' => v = .int .i64 r ∧ Ext w w' := by
  have hS := (((St.init w no).paramP pa0 (cPasture.enc a0) hp0).param cSight Aa1 ca1 a1 hr1 hc1)
  unfold spec_l07Goat.f at H
  refine CV.body Try.func93 rfl Try.ntmps93 rfl ?_
  refine CJ.seq ?_
  refine CJ.region ?_
  refine OJ.pures tU_ok 1 rfl ?_
  refine OJ.nil (EJ.next ?_)
  refine CJ.seq ?_
  refine CJ.seq ?_
  refine CJ.region ?_
  refine OJ.pures tU_ok 2 rfl ?_
  obtain ⟨t1, ht1, H⟩ := pbind H
  refine OJ.callF rfl rfl rfl rfl rfl hb79 rfl (spec_l07Sights.c k _ _ a0 (hS.ca (i := 0) rfl) Aa1 ca1 a1 (hS.rd' (i := 1) rfl) (hS.le' (i := 1) rfl) _ ht1) ?_
  rintro _ w1 ⟨rfl, hs⟩
  replace hS := hS.grow hs
  refine OJ.pures tU_ok 1 rfl ?_
  refine OJ.nil (EJ.next ?_)
  refine CJ.cond rfl (fun hb => ?_) (fun hb => ?_)
  · replace H := pif_t hb H
    refine CJ.seq ?_
    refine CJ.region ?_
    refine OJ.pures tU_ok 1 rfl ?_
    refine OJ.nil (EJ.next ?_)
    refine CJ.ret (EJ.skR (?_))
    obtain rfl := Option.some.inj H
    exact EJ.fin rfl (.tmp rfl .nil) ⟨rfl, hS.ext⟩
  · replace H := pifb_f hb H
    refine CJ.skip (EJ.next ?_)
    refine CJ.seq ?_
    refine CJ.seq ?_
    refine CJ.region ?_
    refine OJ.pures tU_ok 1 rfl ?_
    obtain ⟨t2, ht2, H⟩ := pbind H
    refine OJ.callF rfl rfl rfl rfl rfl hb68 rfl (spec_l00In.c _ a2 0 100 _ ht2) ?_
    rintro _ w1 ⟨rfl, hs⟩
    replace hS := hS.grow hs
    refine OJ.pures tU_ok 1 rfl ?_
    refine OJ.nil (EJ.next ?_)
    refine CJ.cond rfl (fun hb => ?_) (fun hb => ?_)
    · replace H := pif_t hb H
      refine CJ.seq ?_
      refine CJ.region ?_
      refine OJ.pures tU_ok 1 rfl ?_
      refine OJ.nil (EJ.next ?_)
      refine CJ.ret (EJ.skR (?_))
      obtain rfl := Option.some.inj H
      exact EJ.fin rfl (.tmp rfl .nil) ⟨rfl, hS.ext⟩
    · replace H := pifb_f hb H
      refine CJ.skip (EJ.next ?_)
      refine CJ.seq ?_
      refine CJ.region ?_
      refine OJ.pures tU_ok 1 rfl ?_
      refine OJ.nil (EJ.next ?_)
      refine CJ.ret (?_)
      obtain rfl := Option.some.inj H
      exact EJ.fin rfl (.tmp rfl .nil) ⟨rfl, hS.ext⟩

def spec_l01Next.f (a0 : Spot) (a1 : Int) : Option Spot := if a1 = 0 then (some (⟨a0.X, IntKind.i8.wrap (a0.Y - 1)⟩ : Spot)) else (if a1 = 1 then (some (⟨IntKind.i8.wrap (a0.X + 1), a0.Y⟩ : Spot)) else (if a1 = 2 then (some (⟨a0.X, IntKind.i8.wrap (a0.Y + 1)⟩ : Spot)) else (some (⟨IntKind.i8.wrap (a0.X - 1), a0.Y⟩ : Spot))))
theorem spec_l01Next.c (w : World) (a0 : Spot) (a1 : Int) (r : Spot) (H : spec_l01Next.f a0 a1 = some r) :
    CV Try.prog 178 [.agg (cSpot.enc a0).toArray, .int .i64 a1].toArray w fun v w' => v = .agg (cSpot.enc r).toArray ∧ Ext w w' := by
  have hS := (St.init w no)
  unfold spec_l01Next.f at H
  refine CV.body Try.func178 rfl Try.ntmps178 rfl ?_
  refine CJ.seq ?_
  refine CJ.region ?_
  refine OJ.ef rfl rfl rfl (Ef.box hS rfl rfl (cSpot.enc a0) rfl) ?_
  rintro _ w1 ⟨b1, rfl, hS⟩
  refine OJ.ef rfl rfl rfl (Ef.alloc hS tI_ok rfl rfl (cSpot.enc (⟨0, 0⟩ : Spot)) rfl) ?_
  rintro _ w1 ⟨b2, rfl, hS⟩
  refine OJ.nil (EJ.next ?_)
  refine CJ.seq ?_
  refine CJ.seq ?_
  refine CJ.region ?_
  refine OJ.pures tU_ok 1 rfl ?_
  refine OJ.nil (EJ.next ?_)
  refine CJ.block ?_
  refine CJ.seq ?_
  refine CJ.region ?_
  refine OJ.pures tU_ok 2 rfl ?_
  refine OJ.nil (EJ.next ?_)
  refine CJ.cond rfl (fun hb => ?_) (fun hb => ?_)
  · replace H := pif_t (of_decide_eq_true hb) H
    refine CJ.region ?_
    refine OJ.st rfl rfl rfl (SR.fieldAddr tU_ok tI_ok rfl rfl rfl rfl rfl rfl) ?_
    refine OJ.st rfl rfl rfl (SR.load rfl rfl (fun w' hx => ld1 tU_ok rfl rfl (CA.ext (CA.sub (hS.cells (i := 0) rfl) 1) hx) rfl)) ?_
    refine OJ.pures tU_ok 1 rfl ?_
    refine OJ.st rfl rfl rfl (SR.fieldAddr tU_ok tI_ok rfl rfl rfl rfl rfl rfl) ?_
    refine OJ.es rfl rfl (Es.store tI_ok hS (i := 0) rfl rfl rfl (ad1 _ _) rfl rfl (vs := (ci .i8).enc (IntKind.i8.wrap (a0.Y - 1))) rfl rfl (one1 rfl) (Nat.le_of_ble_eq_true rfl) (cSpot.enc (⟨a0.X, IntKind.i8.wrap (a0.Y - 1)⟩ : Spot)) rfl) ?_
    intro w1 hS
    refine OJ.nil (EJ.blk (EJ.next ?_))
    refine CJ.seq ?_
    refine CJ.region ?_
    refine OJ.st rfl rfl rfl (SR.load rfl rfl (fun w' hx => ldE tU_ok tI_ok rfl rfl rfl (CA.ext (hS.cells (i := 0) rfl) hx) rfl)) ?_
    refine OJ.es rfl rfl (Es.store tI_ok hS (i := 1) rfl rfl rfl rfl rfl rfl (vs := cSpot.enc (⟨a0.X, IntKind.i8.wrap (a0.Y - 1)⟩ : Spot)) rfl (cSpot.len _) (cSpot.one _) (Nat.le_of_ble_eq_true rfl) (cSpot.enc (⟨a0.X, IntKind.i8.wrap (a0.Y - 1)⟩ : Spot)) rfl) ?_
    intro w1 hS
    refine OJ.nil (EJ.next ?_)
    refine CJ.ret (?_)
    obtain rfl := Option.some.inj H
    exact EJ.fin rfl (.cell rfl (ldE tU_ok tI_ok rfl rfl rfl (hS.cells (i := 1) rfl) rfl) .nil) ⟨rfl, hS.ext⟩
  · replace H := pif_f (of_decide_eq_false hb) H
    refine CJ.seq ?_
    refine CJ.region ?_
    refine OJ.pures tU_ok 2 rfl ?_
    refine OJ.nil (EJ.next ?_)
    refine CJ.cond rfl (fun hb => ?_) (fun hb => ?_)
    · replace H := pif_t (of_decide_eq_true hb) H
      refine CJ.region ?_
      refine OJ.st rfl rfl rfl (SR.fieldAddr tU_ok tI_ok rfl rfl rfl rfl rfl rfl) ?_
      refine OJ.st rfl rfl rfl (SR.load rfl rfl (fun w' hx => ld1 tU_ok rfl rfl (CA.ext (CA.sub (hS.cells (i := 0) rfl) 0) hx) rfl)) ?_
      refine OJ.pures tU_ok 1 rfl ?_
      refine OJ.st rfl rfl rfl (SR.fieldAddr tU_ok tI_ok rfl rfl rfl rfl rfl rfl) ?_
      refine OJ.es rfl rfl (Es.store tI_ok hS (i := 0) rfl rfl rfl (ad1 _ _) rfl rfl (vs := (ci .i8).enc (IntKind.i8.wrap (a0.X + 1))) rfl rfl (one1 rfl) (Nat.le_of_ble_eq_true rfl) (cSpot.enc (⟨IntKind.i8.wrap (a0.X + 1), a0.Y⟩ : Spot)) rfl) ?_
      intro w1 hS
      refine OJ.nil (EJ.blk (EJ.next ?_))
      refine CJ.seq ?_
      refine CJ.region ?_
      refine OJ.st rfl rfl rfl (SR.load rfl rfl (fun w' hx => ldE tU_ok tI_ok rfl rfl rfl (CA.ext (hS.cells (i := 0) rfl) hx) rfl)) ?_
      refine OJ.es rfl rfl (Es.store tI_ok hS (i := 1) rfl rfl rfl rfl rfl rfl (vs := cSpot.enc (⟨IntKind.i8.wrap (a0.X + 1), a0.Y⟩ : Spot)) rfl (cSpot.len _) (cSpot.one _) (Nat.le_of_ble_eq_true rfl) (cSpot.enc (⟨IntKind.i8.wrap (a0.X + 1), a0.Y⟩ : Spot)) rfl) ?_
      intro w1 hS
      refine OJ.nil (EJ.next ?_)
      refine CJ.ret (?_)
      obtain rfl := Option.some.inj H
      exact EJ.fin rfl (.cell rfl (ldE tU_ok tI_ok rfl rfl rfl (hS.cells (i := 1) rfl) rfl) .nil) ⟨rfl, hS.ext⟩
    · replace H := pif_f (of_decide_eq_false hb) H
      refine CJ.seq ?_
      refine CJ.region ?_
      refine OJ.pures tU_ok 2 rfl ?_
      refine OJ.nil (EJ.next ?_)
      refine CJ.cond rfl (fun hb => ?_) (fun hb => ?_)
      · replace H := pif_t (of_decide_eq_true hb) H
        refine CJ.region ?_
        refine OJ.st rfl rfl rfl (SR.fieldAddr tU_ok tI_ok rfl rfl rfl rfl rfl rfl) ?_
        refine OJ.st rfl rfl rfl (SR.load rfl rfl (fun w' hx => ld1 tU_ok rfl rfl (CA.ext (CA.sub (hS.cells (i := 0) rfl) 1) hx) rfl)) ?_
        refine OJ.pures tU_ok 1 rfl ?_
        refine OJ.st rfl rfl rfl (SR.fieldAddr tU_ok tI_ok rfl rfl rfl rfl rfl rfl) ?_
        refine OJ.es rfl rfl (Es.store tI_ok hS (i := 0) rfl rfl rfl (ad1 _ _) rfl rfl (vs := (ci .i8).enc (IntKind.i8.wrap (a0.Y + 1))) rfl rfl (one1 rfl) (Nat.le_of_ble_eq_true rfl) (cSpot.enc (⟨a0.X, IntKind.i8.wrap (a0.Y + 1)⟩ : Spot)) rfl) ?_
        intro w1 hS
        refine OJ.nil (EJ.blk (EJ.next ?_))
        refine CJ.seq ?_
        refine CJ.region ?_
        refine OJ.st rfl rfl rfl (SR.load rfl rfl (fun w' hx => ldE tU_ok tI_ok rfl rfl rfl (CA.ext (hS.cells (i := 0) rfl) hx) rfl)) ?_
        refine OJ.es rfl rfl (Es.store tI_ok hS (i := 1) rfl rfl rfl rfl rfl rfl (vs := cSpot.enc (⟨a0.X, IntKind.i8.wrap (a0.Y + 1)⟩ : Spot)) rfl (cSpot.len _) (cSpot.one _) (Nat.le_of_ble_eq_true rfl) (cSpot.enc (⟨a0.X, IntKind.i8.wrap (a0.Y + 1)⟩ : Spot)) rfl) ?_
        intro w1 hS
        refine OJ.nil (EJ.next ?_)
        refine CJ.ret (?_)
        obtain rfl := Option.some.inj H
        exact EJ.fin rfl (.cell rfl (ldE tU_ok tI_ok rfl rfl rfl (hS.cells (i := 1) rfl) rfl) .nil) ⟨rfl, hS.ext⟩
      · replace H := pif_f (of_decide_eq_false hb) H
        refine CJ.region ?_
        refine OJ.st rfl rfl rfl (SR.fieldAddr tU_ok tI_ok rfl rfl rfl rfl rfl rfl) ?_
        refine OJ.st rfl rfl rfl (SR.load rfl rfl (fun w' hx => ld1 tU_ok rfl rfl (CA.ext (CA.sub (hS.cells (i := 0) rfl) 0) hx) rfl)) ?_
        refine OJ.pures tU_ok 1 rfl ?_
        refine OJ.st rfl rfl rfl (SR.fieldAddr tU_ok tI_ok rfl rfl rfl rfl rfl rfl) ?_
        refine OJ.es rfl rfl (Es.store tI_ok hS (i := 0) rfl rfl rfl (ad1 _ _) rfl rfl (vs := (ci .i8).enc (IntKind.i8.wrap (a0.X - 1))) rfl rfl (one1 rfl) (Nat.le_of_ble_eq_true rfl) (cSpot.enc (⟨IntKind.i8.wrap (a0.X - 1), a0.Y⟩ : Spot)) rfl) ?_
        intro w1 hS
        refine OJ.nil (EJ.blk (EJ.next ?_))
        refine CJ.seq ?_
        refine CJ.region ?_
        refine OJ.st rfl rfl rfl (SR.load rfl rfl (fun w' hx => ldE tU_ok tI_ok rfl rfl rfl (CA.ext (hS.cells (i := 0) rfl) hx) rfl)) ?_
        refine OJ.es rfl rfl (Es.store tI_ok hS (i := 1) rfl rfl rfl rfl rfl rfl (vs := cSpot.enc (⟨IntKind.i8.wrap (a0.X - 1), a0.Y⟩ : Spot)) rfl (cSpot.len _) (cSpot.one _) (Nat.le_of_ble_eq_true rfl) (cSpot.enc (⟨IntKind.i8.wrap (a0.X - 1), a0.Y⟩ : Spot)) rfl) ?_
        intro w1 hS
        refine OJ.nil (EJ.next ?_)
        refine CJ.ret (?_)
        obtain rfl := Option.some.inj H
        exact EJ.fin rfl (.cell rfl (ldE tU_ok tI_ok rfl rfl rfl (hS.cells (i := 1) rfl) rfl) .nil) ⟨rfl, hS.ext⟩

def spec_l01Closed.f (a0 : Pasture) (a1 : Spot) (a2 : Int) : Option Bool := (spec_l01Next.f a1 a2).bind fun t2 => (spec_l01Is.f a0 t2).bind fun t4 => if (!t4) = true then (some true) else (if a2 = 0 then ((getI a0.South.l t2.Y).bind fun t5 => (chk (0 ≤ (IntKind.u64.wrap a1.X))).bind fun u6 => some (decide ((andI .u16 (shrI .u16 t5 (IntKind.u64.wrap a1.X)) 1) = 1))) else (if a2 = 1 then ((getI a0.East.l a1.Y).bind fun t7 => (chk (0 ≤ (IntKind.u64.wrap a1.X))).bind fun u8 => some (decide ((andI .u16 (shrI .u16 t7 (IntKind.u64.wrap a1.X)) 1) = 1))) else (if a2 = 2 then ((getI a0.South.l a1.Y).bind fun t9 => (chk (0 ≤ (IntKind.u64.wrap a1.X))).bind fun u10 => some (decide ((andI .u16 (shrI .u16 t9 (IntKind.u64.wrap a1.X)) 1) = 1))) else ((getI a0.East.l a1.Y).bind fun t11 => (chk (0 ≤ (IntKind.u64.wrap t2.X))).bind fun u12 => some (decide ((andI .u16 (shrI .u16 t11 (IntKind.u64.wrap t2.X)) 1) = 1))))))
theorem spec_l01Closed.c (w : World) (pa0 : Addr) (a0 : Pasture) (hp0 : CA w pa0 (cPasture.enc a0)) (a1 : Spot) (a2 : Int) (r : Bool) (H : spec_l01Closed.f a0 a1 a2 = some r) :
    CV Try.prog 177 [.pointer (some pa0), .agg (cSpot.enc a1).toArray, .int .i64 a2].toArray w fun v w' => v = .bool r ∧ Ext w w' := by
  have hS := ((St.init w no).paramP pa0 (cPasture.enc a0) hp0)
  unfold spec_l01Closed.f at H
  refine CV.body Try.func177 rfl Try.ntmps177 rfl ?_
  refine CJ.seq ?_
  refine CJ.region ?_
  refine OJ.ef rfl rfl rfl (Ef.box hS rfl rfl (cSpot.enc a1) rfl) ?_
  rintro _ w1 ⟨b1, rfl, hS⟩
  refine OJ.pures tU_ok 1 rfl ?_
  refine OJ.nil (EJ.next ?_)
  refine CJ.seq ?_
  refine CJ.region ?_
  refine OJ.st rfl rfl rfl (SR.load rfl rfl (fun w' hx => ldE tU_ok tI_ok rfl rfl rfl (CA.ext (hS.cells (i := 0) rfl) hx) rfl)) ?_
  refine OJ.pures tU_ok 1 rfl ?_
  obtain ⟨t2, ht2, H⟩ := pbind H
  refine OJ.callF rfl rfl rfl rfl rfl hb178 rfl (spec_l01Next.c _ a1 a2 _ ht2) ?_
  rintro _ w1 ⟨rfl, hs⟩
  replace hS := hS.grow hs
  refine OJ.ef rfl rfl rfl (Ef.alloc hS tI_ok rfl rfl (cSpot.enc (⟨0, 0⟩ : Spot)) rfl) ?_
  rintro _ w1 ⟨b3, rfl, hS⟩
  refine OJ.es rfl rfl (Es.store tI_ok hS (i := 1) rfl rfl rfl rfl rfl rfl (vs := cSpot.enc t2) rfl (cSpot.len _) (cSpot.one _) (Nat.le_of_ble_eq_true rfl) (cSpot.enc t2) rfl) ?_
  intro w1 hS
  refine OJ.nil (EJ.next ?_)
  refine CJ.seq ?_
  refine CJ.seq ?_
  refine CJ.region ?_
  refine OJ.pures tU_ok 1 rfl ?_
  refine OJ.st rfl rfl rfl (SR.load rfl rfl (fun w' hx => ldE tU_ok tI_ok rfl rfl rfl (CA.ext (hS.cells (i := 1) rfl) hx) rfl)) ?_
  obtain ⟨t4, ht4, H⟩ := pbind H
  refine OJ.callF rfl rfl rfl rfl rfl hb134 rfl (spec_l01Is.c _ _ a0 (hS.ca (i := 0) rfl) t2 _ ht4) ?_
  rintro _ w1 ⟨rfl, hs⟩
  replace hS := hS.grow hs
  refine OJ.pures tU_ok 1 rfl ?_
  refine OJ.nil (EJ.next ?_)
  refine CJ.cond rfl (fun hb => ?_) (fun hb => ?_)
  · replace H := pif_t hb H
    refine CJ.seq ?_
    refine CJ.region ?_
    refine OJ.pures tU_ok 1 rfl ?_
    refine OJ.nil (EJ.next ?_)
    refine CJ.ret (EJ.skR (?_))
    obtain rfl := Option.some.inj H
    exact EJ.fin rfl (.tmp rfl .nil) ⟨rfl, hS.ext⟩
  · replace H := pifb_f hb H
    refine CJ.skip (EJ.next ?_)
    refine CJ.seq ?_
    refine CJ.seq ?_
    refine CJ.region ?_
    refine OJ.pures tU_ok 1 rfl ?_
    refine OJ.nil (EJ.next ?_)
    refine CJ.block ?_
    refine CJ.seq ?_
    refine CJ.region ?_
    refine OJ.pures tU_ok 2 rfl ?_
    refine OJ.nil (EJ.next ?_)
    refine CJ.cond rfl (fun hb => ?_) (fun hb => ?_)
    · replace H := pif_t (of_decide_eq_true hb) H
      refine CJ.seq ?_
      refine CJ.draw [] [0, 1, 2, 3, 4, 5, 6, 7, 8, 9, 10, 11, 12, 13] mixed (by kernel_rfl) hS fun w1 hS => ?_
      refine DJ.pures tU_ok 1 rfl ?_
      refine DJ.st rfl rfl rfl rfl rfl (SR.fieldAddr tU_ok tI_ok rfl rfl rfl rfl rfl rfl) ?_
      refine DJ.st rfl rfl rfl rfl rfl (SR.load rfl rfl (fun w' hx => ld1 tU_ok rfl rfl (CA.ext (CA.sub (hS.cells (i := 1) rfl) 1) hx) rfl)) ?_
      refine DJ.pures tU_ok 1 rfl ?_
      refine DJ.st rfl rfl rfl rfl rfl (SR.fieldAddr tU_ok tI_ok rfl rfl rfl rfl rfl rfl) ?_
      obtain ⟨t5, ht5, H⟩ := pbind H
      refine DJ.st rfl rfl rfl rfl rfl (SR.idxA tU_ok tI_ok rfl rfl rfl rfl rfl (Arr.lt ht5)) ?_
      refine DJ.st rfl rfl rfl rfl rfl (SR.load rfl rfl (fun w' hx => ld1 tU_ok rfl rfl (CA.ext (CA.idx (CA.fld (hS.ca (i := 0) rfl) (mid_part (fe_Pasture_4 _) (fl_Pasture_4 _) ((carr 10 (ci .u16)).len _))) ht5) hx) rfl)) ?_
      refine DJ.st rfl rfl rfl rfl rfl (SR.fieldAddr tU_ok tI_ok rfl rfl rfl rfl rfl rfl) ?_
      refine DJ.st rfl rfl rfl rfl rfl (SR.load rfl rfl (fun w' hx => ld1 tU_ok rfl rfl (CA.ext (CA.sub (hS.cells (i := 0) rfl) 0) hx) rfl)) ?_
      refine DJ.pures tU_ok 1 rfl ?_
      obtain ⟨u6, hu6, H⟩ := pbind H
      refine DJ.st rfl rfl rfl rfl rfl (SR.shr rfl rfl rfl (chk_some hu6)) ?_
      refine DJ.pures tU_ok 3 rfl ?_
      refine DJ.nil (EJ.next ?_)
      refine CJ.ret (EJ.bkR (EJ.skR (?_)))
      obtain rfl := Option.some.inj H
      exact EJ.fin rfl (.tmp rfl .nil) ⟨rfl, hS.ext⟩
    · replace H := pif_f (of_decide_eq_false hb) H
      refine CJ.seq ?_
      refine CJ.region ?_
      refine OJ.pures tU_ok 2 rfl ?_
      refine OJ.nil (EJ.next ?_)
      refine CJ.cond rfl (fun hb => ?_) (fun hb => ?_)
      · replace H := pif_t (of_decide_eq_true hb) H
        refine CJ.seq ?_
        refine CJ.draw [] [0, 1, 2, 3, 4, 5, 6, 7, 8, 9, 10, 11, 12, 13] mixed (by kernel_rfl) hS fun w1 hS => ?_
        refine DJ.pures tU_ok 1 rfl ?_
        refine DJ.st rfl rfl rfl rfl rfl (SR.fieldAddr tU_ok tI_ok rfl rfl rfl rfl rfl rfl) ?_
        refine DJ.st rfl rfl rfl rfl rfl (SR.load rfl rfl (fun w' hx => ld1 tU_ok rfl rfl (CA.ext (CA.sub (hS.cells (i := 0) rfl) 1) hx) rfl)) ?_
        refine DJ.pures tU_ok 1 rfl ?_
        refine DJ.st rfl rfl rfl rfl rfl (SR.fieldAddr tU_ok tI_ok rfl rfl rfl rfl rfl rfl) ?_
        obtain ⟨t7, ht7, H⟩ := pbind H
        refine DJ.st rfl rfl rfl rfl rfl (SR.idxA tU_ok tI_ok rfl rfl rfl rfl rfl (Arr.lt ht7)) ?_
        refine DJ.st rfl rfl rfl rfl rfl (SR.load rfl rfl (fun w' hx => ld1 tU_ok rfl rfl (CA.ext (CA.idx (CA.fld (hS.ca (i := 0) rfl) (mid_part (fe_Pasture_3 _) (fl_Pasture_3 _) ((carr 10 (ci .u16)).len _))) ht7) hx) rfl)) ?_
        refine DJ.st rfl rfl rfl rfl rfl (SR.fieldAddr tU_ok tI_ok rfl rfl rfl rfl rfl rfl) ?_
        refine DJ.st rfl rfl rfl rfl rfl (SR.load rfl rfl (fun w' hx => ld1 tU_ok rfl rfl (CA.ext (CA.sub (hS.cells (i := 0) rfl) 0) hx) rfl)) ?_
        refine DJ.pures tU_ok 1 rfl ?_
        obtain ⟨u8, hu8, H⟩ := pbind H
        refine DJ.st rfl rfl rfl rfl rfl (SR.shr rfl rfl rfl (chk_some hu8)) ?_
        refine DJ.pures tU_ok 3 rfl ?_
        refine DJ.nil (EJ.next ?_)
        refine CJ.ret (EJ.bkR (EJ.skR (?_)))
        obtain rfl := Option.some.inj H
        exact EJ.fin rfl (.tmp rfl .nil) ⟨rfl, hS.ext⟩
      · replace H := pif_f (of_decide_eq_false hb) H
        refine CJ.seq ?_
        refine CJ.region ?_
        refine OJ.pures tU_ok 2 rfl ?_
        refine OJ.nil (EJ.next ?_)
        refine CJ.cond rfl (fun hb => ?_) (fun hb => ?_)
        · replace H := pif_t (of_decide_eq_true hb) H
          refine CJ.seq ?_
          refine CJ.draw [] [0, 1, 2, 3, 4, 5, 6, 7, 8, 9, 10, 11, 12, 13] mixed (by kernel_rfl) hS fun w1 hS => ?_
          refine DJ.pures tU_ok 1 rfl ?_
          refine DJ.st rfl rfl rfl rfl rfl (SR.fieldAddr tU_ok tI_ok rfl rfl rfl rfl rfl rfl) ?_
          refine DJ.st rfl rfl rfl rfl rfl (SR.load rfl rfl (fun w' hx => ld1 tU_ok rfl rfl (CA.ext (CA.sub (hS.cells (i := 0) rfl) 1) hx) rfl)) ?_
          refine DJ.pures tU_ok 1 rfl ?_
          refine DJ.st rfl rfl rfl rfl rfl (SR.fieldAddr tU_ok tI_ok rfl rfl rfl rfl rfl rfl) ?_
          obtain ⟨t9, ht9, H⟩ := pbind H
          refine DJ.st rfl rfl rfl rfl rfl (SR.idxA tU_ok tI_ok rfl rfl rfl rfl rfl (Arr.lt ht9)) ?_
          refine DJ.st rfl rfl rfl rfl rfl (SR.load rfl rfl (fun w' hx => ld1 tU_ok rfl rfl (CA.ext (CA.idx (CA.fld (hS.ca (i := 0) rfl) (mid_part (fe_Pasture_4 _) (fl_Pasture_4 _) ((carr 10 (ci .u16)).len _))) ht9) hx) rfl)) ?_
          refine DJ.st rfl rfl rfl rfl rfl (SR.fieldAddr tU_ok tI_ok rfl rfl rfl rfl rfl rfl) ?_
          refine DJ.st rfl rfl rfl rfl rfl (SR.load rfl rfl (fun w' hx => ld1 tU_ok rfl rfl (CA.ext (CA.sub (hS.cells (i := 0) rfl) 0) hx) rfl)) ?_
          refine DJ.pures tU_ok 1 rfl ?_
          obtain ⟨u10, hu10, H⟩ := pbind H
          refine DJ.st rfl rfl rfl rfl rfl (SR.shr rfl rfl rfl (chk_some hu10)) ?_
          refine DJ.pures tU_ok 3 rfl ?_
          refine DJ.nil (EJ.next ?_)
          refine CJ.ret (EJ.bkR (EJ.skR (?_)))
          obtain rfl := Option.some.inj H
          exact EJ.fin rfl (.tmp rfl .nil) ⟨rfl, hS.ext⟩
        · replace H := pif_f (of_decide_eq_false hb) H
          refine CJ.skip (EJ.blk (EJ.next ?_))
          refine CJ.seq ?_
          refine CJ.draw [] [0, 1, 2, 3, 4, 5, 6, 7, 8, 9, 10, 11, 12, 13] mixed (by kernel_rfl) hS fun w1 hS => ?_
          refine DJ.pures tU_ok 1 rfl ?_
          refine DJ.st rfl rfl rfl rfl rfl (SR.fieldAddr tU_ok tI_ok rfl rfl rfl rfl rfl rfl) ?_
          refine DJ.st rfl rfl rfl rfl rfl (SR.load rfl rfl (fun w' hx => ld1 tU_ok rfl rfl (CA.ext (CA.sub (hS.cells (i := 0) rfl) 1) hx) rfl)) ?_
          refine DJ.pures tU_ok 1 rfl ?_
          refine DJ.st rfl rfl rfl rfl rfl (SR.fieldAddr tU_ok tI_ok rfl rfl rfl rfl rfl rfl) ?_
          obtain ⟨t11, ht11, H⟩ := pbind H
          refine DJ.st rfl rfl rfl rfl rfl (SR.idxA tU_ok tI_ok rfl rfl rfl rfl rfl (Arr.lt ht11)) ?_
          refine DJ.st rfl rfl rfl rfl rfl (SR.load rfl rfl (fun w' hx => ld1 tU_ok rfl rfl (CA.ext (CA.idx (CA.fld (hS.ca (i := 0) rfl) (mid_part (fe_Pasture_3 _) (fl_Pasture_3 _) ((carr 10 (ci .u16)).len _))) ht11) hx) rfl)) ?_
          refine DJ.st rfl rfl rfl rfl rfl (SR.fieldAddr tU_ok tI_ok rfl rfl rfl rfl rfl rfl) ?_
          refine DJ.st rfl rfl rfl rfl rfl (SR.load rfl rfl (fun w' hx => ld1 tU_ok rfl rfl (CA.ext (CA.sub (hS.cells (i := 1) rfl) 0) hx) rfl)) ?_
          refine DJ.pures tU_ok 1 rfl ?_
          obtain ⟨u12, hu12, H⟩ := pbind H
          refine DJ.st rfl rfl rfl rfl rfl (SR.shr rfl rfl rfl (chk_some hu12)) ?_
          refine DJ.pures tU_ok 3 rfl ?_
          refine DJ.nil (EJ.next ?_)
          refine CJ.ret (?_)
          obtain rfl := Option.some.inj H
          exact EJ.fin rfl (.tmp rfl .nil) ⟨rfl, hS.ext⟩

def spec_l01Beside.l1 (a0 : Pasture) (a1 : Spot) : Nat → (List Spot) → Int → Option (List Spot)
  | 0, _, _ => none
  | k + 1, y6, y9 => if y9 < 4 then ((spec_l01Closed.f a0 a1 y9).bind fun t10 => if (!t10) = true then ((spec_l01Next.f a1 y9).bind fun t11 => (chk (y6.length + ([t11] : List Spot).length ≤ 4294967296)).bind fun u13 => spec_l01Beside.l1 a0 a1 k (y6 ++ ([t11] : List Spot)) (IntKind.i64.wrap (y9 + 1))) else (spec_l01Beside.l1 a0 a1 k y6 (IntKind.i64.wrap (y9 + 1)))) else (some y6)
def spec_l01Beside.f (k : Nat) (a0 : Pasture) (a1 : Spot) : Option (List Spot) := (spec_l01Beside.l1 a0 a1 k ([] : List Spot) 0).bind fun y3 => some y3
theorem spec_l01Beside.c (k : Nat) (w : World) (pa0 : Addr) (a0 : Pasture) (hp0 : CA w pa0 (cPasture.enc a0)) (a1 : Spot) (r : List Spot) (H : spec_l01Beside.f k a0 a1 = some r) :
    CV Try.prog 169 [.pointer (some pa0), .agg (cSpot.enc a1).toArray].toArray w fun v w' => ∃ (A0 : Option Addr) (c0 : Nat), v = .slice A0 r.length c0 ∧ St w no w' [rowC cSpot A0 c0 105 r] [] := by
  have hS := ((St.init w no).paramP pa0 (cPasture.enc a0) hp0)
  unfold spec_l01Beside.f at H
  refine CV.body Try.func169 rfl Try.ntmps169 rfl ?_
  refine CJ.seq ?_
  refine CJ.region ?_
  refine OJ.ef rfl rfl rfl (Ef.box hS rfl rfl (cSpot.enc a1) rfl) ?_
  rintro _ w1 ⟨b1, rfl, hS⟩
  refine OJ.pures tU_ok 1 rfl ?_
  refine OJ.nil (EJ.next ?_)
  refine CJ.seq ?_
  refine CJ.region ?_
  refine OJ.ef rfl rfl rfl (Ef.lit tU_ok tI_ok hS (C := cSpot) rfl rfl rfl rfl rfl rfl ([] : List Spot) rfl rfl rfl rfl) ?_
  rintro _ w1 ⟨A2, rfl, hS⟩
  refine OJ.pures tU_ok 1 rfl ?_
  refine OJ.nil (EJ.next ?_)
  refine CJ.seq ?_
  refine CJ.seq ?_
  refine CJ.region ?_
  refine OJ.pures tU_ok 1 rfl ?_
  refine OJ.nil (EJ.next ?_)
  obtain ⟨j99, H, K99⟩ := pbind H
  refine CJ.cut1 (fun F w1 => ∃ (y3 : List Spot) (A4 : Option Addr) (c5 : Nat), (some y3 : Option (List Spot)) = some j99 ∧ F = [(5, .slice A4 y3.length c5)] ∧ St w no w1 [rowC cSpot A4 c5 105 y3] [roP pa0 (cPasture.enc a0)]) ?_ ?_
  · skip
    refine CJ.block ?_
    refine CJ.loop (fun k F w1 => ∃ (y6 : List Spot) (y9 : Int) (A7 : Option Addr) (c8 : Nat), F = [(0, .pointer (some pa0)), (3, .pointer (some ⟨b1, 0, none⟩)), (5, .slice A7 y6.length c8), (6, .int .i64 y9)] ∧ St w no w1 [box b1 (cSpot.enc a1) 105, rowC cSpot A7 c8 105 y6] [roP pa0 (cPasture.enc a0)] ∧ spec_l01Beside.l1 a0 a1 k y6 y9 = some j99) k (F' := [(0, .pointer (some pa0)), (3, .pointer (some ⟨b1, 0, none⟩)), (5, .slice A2 ([] : List Spot).length (([] : List Spot).length)), (6, .int .i64 0)]) ⟨rfl, rfl, rfl, rfl, trivial⟩ ⟨([] : List Spot), 0, A2, (([] : List Spot).length), rfl, hS.pick [0, 1] [0] rfl, H⟩ ?_
    rintro k F w1 ⟨y6, y9, A7, c8, rfl, hS, H⟩
    cases k with
    | zero => rw [spec_l01Beside.l1] at H; cases H
    | succ k =>
      rw [spec_l01Beside.l1] at H
      refine CJ.seq ?_
      refine CJ.seq ?_
      refine CJ.region ?_
      refine OJ.pures tU_ok 2 rfl ?_
      refine OJ.nil (EJ.next ?_)
      refine CJ.cond rfl (fun hb => ?_) (fun hb => ?_)
      · replace H := pif_t (of_decide_eq_true hb) H
        refine CJ.skip (EJ.next ?_)
        refine CJ.seq ?_
        refine CJ.block ?_
        refine CJ.seq ?_
        refine CJ.region ?_
        refine OJ.pures tU_ok 1 rfl ?_
        refine OJ.st rfl rfl rfl (SR.load rfl rfl (fun w' hx => ldE tU_ok tI_ok rfl rfl rfl (CA.ext (hS.cells (i := 0) rfl) hx) rfl)) ?_
        refine OJ.pures tU_ok 1 rfl ?_
        obtain ⟨t10, ht10, H⟩ := pbind H
        refine OJ.callF rfl rfl rfl rfl rfl hb177 rfl (spec_l01Closed.c _ _ a0 (hS.ca (i := 0) rfl) a1 y9 _ ht10) ?_
        rintro _ w1 ⟨rfl, hs⟩
        replace hS := hS.grow hs
        refine OJ.pures tU_ok 1 rfl ?_
        refine OJ.nil (EJ.next ?_)
        refine CJ.cond rfl (fun hb => ?_) (fun hb => ?_)
        · replace H := pif_t hb H
          refine CJ.region ?_
          refine OJ.pures tU_ok 1 rfl ?_
          refine OJ.st rfl rfl rfl (SR.load rfl rfl (fun w' hx => ldE tU_ok tI_ok rfl rfl rfl (CA.ext (hS.cells (i := 0) rfl) hx) rfl)) ?_
          refine OJ.pures tU_ok 1 rfl ?_
          obtain ⟨t11, ht11, H⟩ := pbind H
          refine OJ.callF rfl rfl rfl rfl rfl hb178 rfl (spec_l01Next.c _ a1 y9 _ ht11) ?_
          rintro _ w1 ⟨rfl, hs⟩
          replace hS := hS.grow hs
          refine OJ.ef rfl rfl rfl (Ef.lit tU_ok tI_ok hS (C := cSpot) rfl rfl rfl rfl rfl rfl ([t11] : List Spot) rfl rfl rfl rfl) ?_
          rintro _ w1 ⟨A12, rfl, hS⟩
          obtain ⟨u13, hu13, H⟩ := pbind H
          refine OJ.ew rfl rfl rfl (Ew.append tU_ok tI_ok (C := cSpot) (xs := y6) (ys := ([t11] : List Spot)) hS (i := 1) rfl rfl rfl rfl rfl rfl rfl rfl rfl rfl rfl rfl rfl (hS.rd (i := 2) rfl) (chk_some hu13)) ?_
          rintro _ w1 ⟨A14, c15, rfl, hS⟩
          refine OJ.pures tU_ok 1 rfl ?_
          refine OJ.nil (EJ.blk (EJ.next ?_))
          refine CJ.region ?_
          refine OJ.pures tU_ok 3 rfl ?_
          refine OJ.nil ?_
          exact EJ.round k (F' := [(0, .pointer (some pa0)), (3, .pointer (some ⟨b1, 0, none⟩)), (5, .slice A14 (y6 ++ ([t11] : List Spot)).length c15), (6, .int .i64 (IntKind.i64.wrap (y9 + 1)))]) ⟨rfl, rfl, rfl, rfl, trivial⟩ (Nat.lt_succ_self _) ⟨(y6 ++ ([t11] : List Spot)), (IntKind.i64.wrap (y9 + 1)), A14, c15, rfl, hS.pick [0, 1] [0] rfl, H⟩
        · replace H := pifb_f hb H
          refine CJ.skip (EJ.blk (EJ.next ?_))
          refine CJ.region ?_
          refine OJ.pures tU_ok 3 rfl ?_
          refine OJ.nil ?_
          exact EJ.round k (F' := [(0, .pointer (some pa0)), (3, .pointer (some ⟨b1, 0, none⟩)), (5, .slice A7 y6.length c8), (6, .int .i64 (IntKind.i64.wrap (y9 + 1)))]) ⟨rfl, rfl, rfl, rfl, trivial⟩ (Nat.lt_succ_self _) ⟨y6, (IntKind.i64.wrap (y9 + 1)), A7, c8, rfl, hS.pick [0, 1] [0] rfl, H⟩
      · replace H := pif_f (of_decide_eq_false hb) H
        refine CJ.exit (EJ.skE (EJ.skE (EJ.hit (?_))))
        exact EJ.meet (F' := [(5, .slice A7 y6.length c8)]) ⟨rfl, trivial⟩ ⟨y6, A7, c8, H, rfl, hS.pick [1] [0] rfl⟩
  · rintro F w1 ⟨y3, A4, c5, he, rfl, hS⟩
    obtain rfl := Option.some.inj he
    have H := K99
    refine EJ.next ?_
    refine CJ.seq ?_
    refine CJ.region ?_
    refine OJ.pures tU_ok 2 rfl ?_
    refine OJ.nil (EJ.next ?_)
    refine CJ.ret (?_)
    obtain rfl := Option.some.inj H
    exact EJ.fin rfl (.tmp rfl .nil) ⟨A4, c5, rfl, hS.pick [0] [] rfl⟩

def spec_l01Steps.l2 (t17 : Spot) (t19 : List Spot) : Nat → (Arr 10 (Arr 10 Int)) → (List Spot) → Int → Option ((Arr 10 (Arr 10 Int)) × (List Spot))
  | 0, _, _, _ => none
  | k + 1, y26, y27, y30 => if y30 < (t19.length : Int) then ((getI t19 y30).bind fun t31 => (getI t19 y30).bind fun t32 => (getI y26.l t31.Y).bind fun t33 => (getI t33.l t32.X).bind fun t34 => if t34 = 0 then ((getI t19 y30).bind fun t35 => (getI t19 y30).bind fun t36 => (getI y26.l t17.Y).bind fun t37 => (getI t37.l t17.X).bind fun t38 => (getI y26.l t35.Y).bind fun t39 => (getI t39.l t36.X).bind fun t40 => (getI t19 y30).bind fun t41 => (chk (y27.length + ([t41] : List Spot).length ≤ 4294967296)).bind fun u43 => spec_l01Steps.l2 t17 t19 k (aset y26 t35.Y.toNat (aset t39 t36.X.toNat (IntKind.i64.wrap (t38 + 1)))) (y27 ++ ([t41] : List Spot)) (IntKind.i64.wrap (y30 + 1))) else (spec_l01Steps.l2 t17 t19 k y26 y27 (IntKind.i64.wrap (y30 + 1)))) else (some (y26, y27))
def spec_l01Steps.l1 (a0 : Pasture) : Nat → (Arr 10 (Arr 10 Int)) → (List Spot) → Int → Option (Arr 10 (Arr 10 Int))
  | 0, _, _, _ => none
  | k + 1, y8, y9, y12 => if y12 < (y9.length : Int) then (((getI y9 y12).bind fun t17 => (spec_l01Beside.f k a0 t17).bind fun t19 => (spec_l01Steps.l2 t17 t19 k y8 y9 0).bind fun (y22, y23) => some (y22, y23)).bind fun (y13, y14) => spec_l01Steps.l1 a0 k y13 y14 (IntKind.i64.wrap (y12 + 1))) else (some y8)
def spec_l01Steps.f (k : Nat) (a0 : Pasture) (a1 : Spot) : Option (Arr 10 (Arr 10 Int)) := (getI (Arr.mk' (Arr.mk' 0 : Arr 10 Int) : Arr 10 (Arr 10 Int)).l a1.Y).bind fun t4 => (getI t4.l a1.X).bind fun t5 => (spec_l01Steps.l1 a0 k (aset (Arr.mk' (Arr.mk' 0 : Arr 10 Int) : Arr 10 (Arr 10 Int)) a1.Y.toNat (aset t4 a1.X.toNat 1)) ([a1] : List Spot) 0).bind fun y7 => some y7
theorem spec_l01Steps.c (k : Nat) (w : World) (pa0 : Addr) (a0 : Pasture) (hp0 : CA w pa0 (cPasture.enc a0)) (a1 : Spot) (r : Arr 10 (Arr 10 Int)) (H : spec_l01Steps.f k a0 a1 = some r) :
    CV Try.prog 144 [.pointer (some pa0), .agg (cSpot.enc a1).toArray].toArray w fun v w' => v = .agg ((carr 10 (carr 10 (ci .i64))).enc r).toArray ∧ Ext w w' := by
  have hS := ((St.init w no).paramP pa0 (cPasture.enc a0) hp0)
  unfold spec_l01Steps.f at H
  refine CV.body Try.func144 rfl Try.ntmps144 rfl ?_
  refine CJ.seq ?_
  refine CJ.region ?_
  refine OJ.ef rfl rfl rfl (Ef.box hS rfl rfl (cSpot.enc a1) rfl) ?_
  rintro _ w1 ⟨b1, rfl, hS⟩
  refine OJ.ef rfl rfl rfl (Ef.alloc hS tI_ok rfl rfl ((carr 10 (carr 10 (ci .i64))).enc (Arr.mk' (Arr.mk' 0 : Arr 10 Int) : Arr 10 (Arr 10 Int))) (by kernel_rfl)) ?_
  rintro _ w1 ⟨b2, rfl, hS⟩
  refine OJ.nil (EJ.next ?_)
  refine CJ.seq ?_
  refine CJ.region ?_
  refine OJ.st rfl rfl rfl (SR.buildA tU_ok tI_ok rfl rfl rfl rfl (zs := [.int .i64 0, .int .i64 0, .int .i64 0, .int .i64 0, .int .i64 0, .int .i64 0, .int .i64 0, .int .i64 0, .int .i64 0, .int .i64 0, .int .i64 0, .int .i64 0, .int .i64 0, .int .i64 0, .int .i64 0, .int .i64 0, .int .i64 0, .int .i64 0, .int .i64 0, .int .i64 0, .int .i64 0, .int .i64 0, .int .i64 0, .int .i64 0, .int .i64 0, .int .i64 0, .int .i64 0, .int .i64 0, .int .i64 0, .int .i64 0, .int .i64 0, .int .i64 0, .int .i64 0, .int .i64 0, .int .i64 0, .int .i64 0, .int .i64 0, .int .i64 0, .int .i64 0, .int .i64 0, .int .i64 0, .int .i64 0, .int .i64 0, .int .i64 0, .int .i64 0, .int .i64 0, .int .i64 0, .int .i64 0, .int .i64 0, .int .i64 0, .int .i64 0, .int .i64 0, .int .i64 0, .int .i64 0, .int .i64 0, .int .i64 0, .int .i64 0, .int .i64 0, .int .i64 0, .int .i64 0, .int .i64 0, .int .i64 0, .int .i64 0, .int .i64 0, .int .i64 0, .int .i64 0, .int .i64 0, .int .i64 0, .int .i64 0, .int .i64 0, .int .i64 0, .int .i64 0, .int .i64 0, .int .i64 0, .int .i64 0, .int .i64 0, .int .i64 0, .int .i64 0, .int .i64 0, .int .i64 0, .int .i64 0, .int .i64 0, .int .i64 0, .int .i64 0, .int .i64 0, .int .i64 0, .int .i64 0, .int .i64 0, .int .i64 0, .int .i64 0, .int .i64 0, .int .i64 0, .int .i64 0, .int .i64 0, .int .i64 0, .int .i64 0, .int .i64 0, .int .i64 0, .int .i64 0, .int .i64 0]) rfl rfl ((carr 10 (carr 10 (ci .i64))).enc (Arr.mk' (Arr.mk' 0 : Arr 10 Int) : Arr 10 (Arr 10 Int))) (by kernel_rfl)) ?_
  refine OJ.ef rfl rfl rfl (Ef.alloc hS tI_ok rfl rfl ((carr 10 (carr 10 (ci .i64))).enc (Arr.mk' (Arr.mk' 0 : Arr 10 Int) : Arr 10 (Arr 10 Int))) (by kernel_rfl)) ?_
  rintro _ w1 ⟨b3, rfl, hS⟩
  refine OJ.es rfl rfl (Es.put tI_ok hS (i := 2) rfl rfl rfl rfl rfl (vs := (carr 10 (carr 10 (ci .i64))).enc (Arr.mk' (Arr.mk' 0 : Arr 10 Int) : Arr 10 (Arr 10 Int))) rfl ((carr 10 (carr 10 (ci .i64))).len _) ((carr 10 (carr 10 (ci .i64))).one _) (Put.all (carr 10 (carr 10 (ci .i64))) (Arr.mk' (Arr.mk' 0 : Arr 10 Int) : Arr 10 (Arr 10 Int)) (Arr.mk' (Arr.mk' 0 : Arr 10 Int) : Arr 10 (Arr 10 Int))) (by (try simp only [add_lit, Nat.add_assoc, Nat.zero_add, Nat.add_zero]) <;> rfl)) ?_
  intro w1 hS
  refine OJ.nil (EJ.next ?_)
  refine CJ.seq ?_
  refine CJ.draw [] [0, 1, 2, 3, 4, 5, 6] mixed (by kernel_rfl) hS fun w1 hS => ?_
  refine DJ.st rfl rfl rfl rfl rfl (SR.fieldAddr tU_ok tI_ok rfl rfl rfl rfl rfl rfl) ?_
  refine DJ.st rfl rfl rfl rfl rfl (SR.load rfl rfl (fun w' hx => ld1 tU_ok rfl rfl (CA.ext (CA.sub (hS.cells (i := 0) rfl) 1) hx) rfl)) ?_
  refine DJ.st rfl rfl rfl rfl rfl (SR.fieldAddr tU_ok tI_ok rfl rfl rfl rfl rfl rfl) ?_
  refine DJ.st rfl rfl rfl rfl rfl (SR.load rfl rfl (fun w' hx => ld1 tU_ok rfl rfl (CA.ext (CA.sub (hS.cells (i := 0) rfl) 0) hx) rfl)) ?_
  obtain ⟨t4, ht4, H⟩ := pbind H
  refine DJ.st rfl rfl rfl rfl rfl (SR.idxA tU_ok tI_ok rfl rfl rfl rfl rfl (Arr.lt ht4)) ?_
  obtain ⟨t5, ht5, H⟩ := pbind H
  refine DJ.st rfl rfl rfl rfl rfl (SR.idxA tU_ok tI_ok rfl rfl rfl rfl rfl (Arr.lt ht5)) ?_
  refine DJ.es rfl rfl rfl rfl (Es.put tI_ok hS (i := 2) rfl rfl rfl rfl rfl (vs := (ci .i64).enc 1) rfl rfl (one1 rfl) (Put.idx (Put.idx (Put.all (ci .i64) t5 1) ht5) ht4) (by (try simp only [add_lit, Nat.add_assoc, Nat.zero_add, Nat.add_zero]) <;> rfl)) ?_
  intro w1 hS
  refine DJ.nil (EJ.next ?_)
  refine CJ.seq ?_
  refine CJ.region ?_
  refine OJ.st rfl rfl rfl (SR.load rfl rfl (fun w' hx => ldE tU_ok tI_ok rfl rfl rfl (CA.ext (hS.cells (i := 0) rfl) hx) rfl)) ?_
  refine OJ.ef rfl rfl rfl (Ef.lit tU_ok tI_ok hS (C := cSpot) rfl rfl rfl rfl rfl rfl ([a1] : List Spot) rfl rfl rfl rfl) ?_
  rintro _ w1 ⟨A6, rfl, hS⟩
  refine OJ.pures tU_ok 1 rfl ?_
  refine OJ.nil (EJ.next ?_)
  refine CJ.seq ?_
  refine CJ.seq ?_
  refine CJ.region ?_
  refine OJ.pures tU_ok 1 rfl ?_
  refine OJ.nil (EJ.next ?_)
  obtain ⟨j97, H, K97⟩ := pbind H
  refine CJ.cut1 (fun F w1 => ∃ (y7 : Arr 10 (Arr 10 Int)) , (some y7 : Option (Arr 10 (Arr 10 Int))) = some j97 ∧ F = [(4, .pointer (some ⟨b2, 0, none⟩)), (5, .pointer (some ⟨b3, 0, none⟩))] ∧ St w no w1 [box b2 ((carr 10 (carr 10 (ci .i64))).enc (Arr.mk' (Arr.mk' 0 : Arr 10 Int) : Arr 10 (Arr 10 Int))) 128, box b3 ((carr 10 (carr 10 (ci .i64))).enc y7) 128] [roP pa0 (cPasture.enc a0)]) ?_ ?_
  · skip
    refine CJ.block ?_
    refine CJ.loop (fun k F w1 => ∃ (y8 : Arr 10 (Arr 10 Int)) (y9 : List Spot) (y12 : Int) (A10 : Option Addr) (c11 : Nat), F = [(0, .pointer (some pa0)), (4, .pointer (some ⟨b2, 0, none⟩)), (5, .pointer (some ⟨b3, 0, none⟩)), (6, .slice A10 y9.length c11), (7, .int .i64 y12)] ∧ St w no w1 [box b2 ((carr 10 (carr 10 (ci .i64))).enc (Arr.mk' (Arr.mk' 0 : Arr 10 Int) : Arr 10 (Arr 10 Int))) 128, box b3 ((carr 10 (carr 10 (ci .i64))).enc y8) 128, rowC cSpot A10 c11 105 y9] [roP pa0 (cPasture.enc a0)] ∧ spec_l01Steps.l1 a0 k y8 y9 y12 = some j97) k (F' := [(0, .pointer (some pa0)), (4, .pointer (some ⟨b2, 0, none⟩)), (5, .pointer (some ⟨b3, 0, none⟩)), (6, .slice A6 ([a1] : List Spot).length (([a1] : List Spot).length)), (7, .int .i64 0)]) ⟨rfl, rfl, rfl, rfl, rfl, trivial⟩ ⟨(aset (Arr.mk' (Arr.mk' 0 : Arr 10 Int) : Arr 10 (Arr 10 Int)) a1.Y.toNat (aset t4 a1.X.toNat 1)), ([a1] : List Spot), 0, A6, (([a1] : List Spot).length), rfl, hS.pick [1, 2, 3] [0] rfl, H⟩ ?_
    rintro k F w1 ⟨y8, y9, y12, A10, c11, rfl, hS, H⟩
    cases k with
    | zero => rw [spec_l01Steps.l1] at H; cases H
    | succ k =>
      rw [spec_l01Steps.l1] at H
      refine CJ.seq ?_
      refine CJ.seq ?_
      refine CJ.region ?_
      refine OJ.pures tU_ok 4 rfl ?_
      refine OJ.nil (EJ.next ?_)
      refine CJ.cond rfl (fun hb => ?_) (fun hb => ?_)
      · replace H := pif_t (of_decide_eq_true hb) H
        refine CJ.skip (EJ.next ?_)
        obtain ⟨j105, H, K105⟩ := pbind H
        refine CJ.cut (fun F w1 => ∃ (y13 : Arr 10 (Arr 10 Int)) (y14 : List Spot) (A15 : Option Addr) (c16 : Nat), (some (y13, y14) : Option ((Arr 10 (Arr 10 Int)) × (List Spot))) = some j105 ∧ F = [(0, .pointer (some pa0)), (4, .pointer (some ⟨b2, 0, none⟩)), (5, .pointer (some ⟨b3, 0, none⟩)), (6, .slice A15 y14.length c16), (7, .int .i64 y12)] ∧ St w no w1 [box b2 ((carr 10 (carr 10 (ci .i64))).enc (Arr.mk' (Arr.mk' 0 : Arr 10 Int) : Arr 10 (Arr 10 Int))) 128, box b3 ((carr 10 (carr 10 (ci .i64))).enc y13) 128, rowC cSpot A15 c16 105 y14] [roP pa0 (cPasture.enc a0)]) ?_ ?_
        · skip
          refine CJ.block ?_
          refine CJ.seq ?_
          refine CJ.region ?_
          refine OJ.pures tU_ok 2 rfl ?_
          obtain ⟨t17, ht17, H⟩ := pbind H
          obtain ⟨ad17, e17⟩ := (hS.rd (i := 2) rfl).some' ht17
          refine OJ.st rfl rfl rfl (SR.idxS tU_ok tI_ok rfl rfl rfl rfl e17 rfl (getI_some ht17).1) ?_
          refine OJ.st rfl rfl rfl (SR.load rfl rfl (fun w' hx => ldE tU_ok tI_ok rfl rfl rfl (CA.ext ((hS.rd (i := 2) rfl).at_ e17 ht17) hx) rfl)) ?_
          refine OJ.ef rfl rfl rfl (Ef.alloc hS tI_ok rfl rfl (cSpot.enc (⟨0, 0⟩ : Spot)) rfl) ?_
          rintro _ w1 ⟨b18, rfl, hS⟩
          refine OJ.es rfl rfl (Es.store tI_ok hS (i := 3) rfl rfl rfl rfl rfl rfl (vs := cSpot.enc t17) rfl (cSpot.len _) (cSpot.one _) (Nat.le_of_ble_eq_true rfl) (cSpot.enc t17) rfl) ?_
          intro w1 hS
          refine OJ.nil (EJ.next ?_)
          refine CJ.seq ?_
          refine CJ.region ?_
          refine OJ.pures tU_ok 1 rfl ?_
          refine OJ.st rfl rfl rfl (SR.load rfl rfl (fun w' hx => ldE tU_ok tI_ok rfl rfl rfl (CA.ext (hS.cells (i := 3) rfl) hx) rfl)) ?_
          obtain ⟨t19, ht19, H⟩ := pbind H
          refine OJ.callF rfl rfl rfl rfl rfl hb169 rfl (spec_l01Beside.c k _ _ a0 (hS.ca (i := 0) rfl) t17 _ ht19) ?_
          rintro _ w1 ⟨A20, c21, rfl, hs⟩
          replace hS := hS.addN hs
          refine OJ.pures tU_ok 1 rfl ?_
          refine OJ.nil (EJ.next ?_)
          refine CJ.seq ?_
          refine CJ.region ?_
          refine OJ.pures tU_ok 1 rfl ?_
          refine OJ.nil (EJ.next ?_)
          obtain ⟨j107, H, K107⟩ := pbind H
          refine CJ.cut1 (fun F w1 => ∃ (y22 : Arr 10 (Arr 10 Int)) (y23 : List Spot) (A24 : Option Addr) (c25 : Nat), (some (y22, y23) : Option ((Arr 10 (Arr 10 Int)) × (List Spot))) = some j107 ∧ F = [(0, .pointer (some pa0)), (4, .pointer (some ⟨b2, 0, none⟩)), (5, .pointer (some ⟨b3, 0, none⟩)), (6, .slice A24 y23.length c25), (7, .int .i64 y12)] ∧ St w no w1 [box b2 ((carr 10 (carr 10 (ci .i64))).enc (Arr.mk' (Arr.mk' 0 : Arr 10 Int) : Arr 10 (Arr 10 Int))) 128, box b3 ((carr 10 (carr 10 (ci .i64))).enc y22) 128, rowC cSpot A24 c25 105 y23] [roP pa0 (cPasture.enc a0)]) ?_ ?_
          · skip
            refine CJ.block ?_
            refine CJ.loop (fun k F w1 => ∃ (y26 : Arr 10 (Arr 10 Int)) (y27 : List Spot) (y30 : Int) (A28 : Option Addr) (c29 : Nat), F = [(0, .pointer (some pa0)), (4, .pointer (some ⟨b2, 0, none⟩)), (5, .pointer (some ⟨b3, 0, none⟩)), (6, .slice A28 y27.length c29), (7, .int .i64 y12), (8, .pointer (some ⟨b18, 0, none⟩)), (9, .slice A20 t19.length c21), (10, .int .i64 y30)] ∧ St w no w1 [box b2 ((carr 10 (carr 10 (ci .i64))).enc (Arr.mk' (Arr.mk' 0 : Arr 10 Int) : Arr 10 (Arr 10 Int))) 128, box b3 ((carr 10 (carr 10 (ci .i64))).enc y26) 128, rowC cSpot A28 c29 105 y27, box b18 (cSpot.enc t17) 105, rowC cSpot A20 c21 105 t19] [roP pa0 (cPasture.enc a0)] ∧ spec_l01Steps.l2 t17 t19 k y26 y27 y30 = some j107) k (F' := [(0, .pointer (some pa0)), (4, .pointer (some ⟨b2, 0, none⟩)), (5, .pointer (some ⟨b3, 0, none⟩)), (6, .slice A10 y9.length c11), (7, .int .i64 y12), (8, .pointer (some ⟨b18, 0, none⟩)), (9, .slice A20 t19.length c21), (10, .int .i64 0)]) ⟨rfl, rfl, rfl, rfl, rfl, rfl, rfl, rfl, trivial⟩ ⟨y8, y9, 0, A10, c11, rfl, hS.pick [0, 1, 2, 3, 4] [0] rfl, H⟩ ?_
            rintro k F w1 ⟨y26, y27, y30, A28, c29, rfl, hS, H⟩
            cases k with
            | zero => rw [spec_l01Steps.l2] at H; cases H
            | succ k =>
              rw [spec_l01Steps.l2] at H
              refine CJ.seq ?_
              refine CJ.seq ?_
              refine CJ.region ?_
              refine OJ.pures tU_ok 4 rfl ?_
              refine OJ.nil (EJ.next ?_)
              refine CJ.cond rfl (fun hb => ?_) (fun hb => ?_)
              · replace H := pif_t (of_decide_eq_true hb) H
                refine CJ.skip (EJ.next ?_)
                refine CJ.seq ?_
                refine CJ.block ?_
                refine CJ.seq ?_
                refine CJ.draw [] [0, 1, 2, 3, 4, 5, 6, 7, 8, 9, 10, 11, 12, 13] mixed (by kernel_rfl) hS fun w1 hS => ?_
                refine DJ.pures tU_ok 2 rfl ?_
                obtain ⟨t31, ht31, H⟩ := pbind H
                obtain ⟨ad31, e31⟩ := (hS.rd (i := 4) rfl).some' ht31
                refine DJ.st rfl rfl rfl rfl rfl (SR.idxS tU_ok tI_ok rfl rfl rfl rfl e31 rfl (getI_some ht31).1) ?_
                refine DJ.st rfl rfl rfl rfl rfl (SR.fieldAddr tU_ok tI_ok rfl rfl rfl rfl rfl rfl) ?_
                refine DJ.st rfl rfl rfl rfl rfl (SR.load rfl rfl (fun w' hx => ld1 tU_ok rfl rfl (CA.ext (CA.sub ((hS.rd (i := 4) rfl).at_ e31 ht31) 1) hx) rfl)) ?_
                refine DJ.pures tU_ok 2 rfl ?_
                obtain ⟨t32, ht32, H⟩ := pbind H
                obtain ⟨ad32, e32⟩ := (hS.rd (i := 4) rfl).some' ht32
                refine DJ.st rfl rfl rfl rfl rfl (SR.idxS tU_ok tI_ok rfl rfl rfl rfl e32 rfl (getI_some ht32).1) ?_
                refine DJ.st rfl rfl rfl rfl rfl (SR.fieldAddr tU_ok tI_ok rfl rfl rfl rfl rfl rfl) ?_
                refine DJ.st rfl rfl rfl rfl rfl (SR.load rfl rfl (fun w' hx => ld1 tU_ok rfl rfl (CA.ext (CA.sub ((hS.rd (i := 4) rfl).at_ e32 ht32) 0) hx) rfl)) ?_
                obtain ⟨t33, ht33, H⟩ := pbind H
                refine DJ.st rfl rfl rfl rfl rfl (SR.idxA tU_ok tI_ok rfl rfl rfl rfl rfl (Arr.lt ht33)) ?_
                obtain ⟨t34, ht34, H⟩ := pbind H
                refine DJ.st rfl rfl rfl rfl rfl (SR.idxA tU_ok tI_ok rfl rfl rfl rfl rfl (Arr.lt ht34)) ?_
                refine DJ.st rfl rfl rfl rfl rfl (SR.load rfl rfl (fun w' hx => ld1 tU_ok rfl rfl (CA.ext (CA.idx (CA.idx (hS.cells (i := 1) rfl) ht33) ht34) hx) rfl)) ?_
                refine DJ.pures tU_ok 1 rfl ?_
                refine DJ.nil (EJ.next ?_)
                refine CJ.cond rfl (fun hb => ?_) (fun hb => ?_)
                · replace H := pif_t (of_decide_eq_true hb) H
                  refine CJ.seq ?_
                  refine CJ.draw [] [0, 1, 2, 3, 4, 5, 6, 7, 8, 9, 10, 11, 12, 13, 14, 15, 16, 17, 18, 19, 20] mixed (by kernel_rfl) hS fun w1 hS => ?_
                  refine DJ.pures tU_ok 2 rfl ?_
                  obtain ⟨t35, ht35, H⟩ := pbind H
                  obtain ⟨ad35, e35⟩ := (hS.rd (i := 4) rfl).some' ht35
                  refine DJ.st rfl rfl rfl rfl rfl (SR.idxS tU_ok tI_ok rfl rfl rfl rfl e35 rfl (getI_some ht35).1) ?_
                  refine DJ.st rfl rfl rfl rfl rfl (SR.fieldAddr tU_ok tI_ok rfl rfl rfl rfl rfl rfl) ?_
                  refine DJ.st rfl rfl rfl rfl rfl (SR.load rfl rfl (fun w' hx => ld1 tU_ok rfl rfl (CA.ext (CA.sub ((hS.rd (i := 4) rfl).at_ e35 ht35) 1) hx) rfl)) ?_
                  refine DJ.pures tU_ok 2 rfl ?_
                  obtain ⟨t36, ht36, H⟩ := pbind H
                  obtain ⟨ad36, e36⟩ := (hS.rd (i := 4) rfl).some' ht36
                  refine DJ.st rfl rfl rfl rfl rfl (SR.idxS tU_ok tI_ok rfl rfl rfl rfl e36 rfl (getI_some ht36).1) ?_
                  refine DJ.st rfl rfl rfl rfl rfl (SR.fieldAddr tU_ok tI_ok rfl rfl rfl rfl rfl rfl) ?_
                  refine DJ.st rfl rfl rfl rfl rfl (SR.load rfl rfl (fun w' hx => ld1 tU_ok rfl rfl (CA.ext (CA.sub ((hS.rd (i := 4) rfl).at_ e36 ht36) 0) hx) rfl)) ?_
                  refine DJ.st rfl rfl rfl rfl rfl (SR.fieldAddr tU_ok tI_ok rfl rfl rfl rfl rfl rfl) ?_
                  refine DJ.st rfl rfl rfl rfl rfl (SR.load rfl rfl (fun w' hx => ld1 tU_ok rfl rfl (CA.ext (CA.sub (hS.cells (i := 3) rfl) 1) hx) rfl)) ?_
                  refine DJ.st rfl rfl rfl rfl rfl (SR.fieldAddr tU_ok tI_ok rfl rfl rfl rfl rfl rfl) ?_
                  refine DJ.st rfl rfl rfl rfl rfl (SR.load rfl rfl (fun w' hx => ld1 tU_ok rfl rfl (CA.ext (CA.sub (hS.cells (i := 3) rfl) 0) hx) rfl)) ?_
                  obtain ⟨t37, ht37, H⟩ := pbind H
                  refine DJ.st rfl rfl rfl rfl rfl (SR.idxA tU_ok tI_ok rfl rfl rfl rfl rfl (Arr.lt ht37)) ?_
                  obtain ⟨t38, ht38, H⟩ := pbind H
                  refine DJ.st rfl rfl rfl rfl rfl (SR.idxA tU_ok tI_ok rfl rfl rfl rfl rfl (Arr.lt ht38)) ?_
                  refine DJ.st rfl rfl rfl rfl rfl (SR.load rfl rfl (fun w' hx => ld1 tU_ok rfl rfl (CA.ext (CA.idx (CA.idx (hS.cells (i := 1) rfl) ht37) ht38) hx) rfl)) ?_
                  refine DJ.pures tU_ok 1 rfl ?_
                  obtain ⟨t39, ht39, H⟩ := pbind H
                  refine DJ.st rfl rfl rfl rfl rfl (SR.idxA tU_ok tI_ok rfl rfl rfl rfl rfl (Arr.lt ht39)) ?_
                  obtain ⟨t40, ht40, H⟩ := pbind H
                  refine DJ.st rfl rfl rfl rfl rfl (SR.idxA tU_ok tI_ok rfl rfl rfl rfl rfl (Arr.lt ht40)) ?_
                  refine DJ.es rfl rfl rfl rfl (Es.put tI_ok hS (i := 1) rfl rfl rfl rfl rfl (vs := (ci .i64).enc (IntKind.i64.wrap (t38 + 1))) rfl rfl (one1 rfl) (Put.idx (Put.idx (Put.all (ci .i64) t40 (IntKind.i64.wrap (t38 + 1))) ht40) ht39) (by (try simp only [add_lit, Nat.add_assoc, Nat.zero_add, Nat.add_zero]) <;> rfl)) ?_
                  intro w1 hS
                  refine DJ.nil (EJ.next ?_)
                  refine CJ.region ?_
                  refine OJ.pures tU_ok 3 rfl ?_
                  obtain ⟨t41, ht41, H⟩ := pbind H
                  obtain ⟨ad41, e41⟩ := (hS.rd (i := 4) rfl).some' ht41
                  refine OJ.st rfl rfl rfl (SR.idxS tU_ok tI_ok rfl rfl rfl rfl e41 rfl (getI_some ht41).1) ?_
                  refine OJ.st rfl rfl rfl (SR.load rfl rfl (fun w' hx => ldE tU_ok tI_ok rfl rfl rfl (CA.ext ((hS.rd (i := 4) rfl).at_ e41 ht41) hx) rfl)) ?_
                  refine OJ.ef rfl rfl rfl (Ef.lit tU_ok tI_ok hS (C := cSpot) rfl rfl rfl rfl rfl rfl ([t41] : List Spot) rfl rfl rfl rfl) ?_
                  rintro _ w1 ⟨A42, rfl, hS⟩
                  obtain ⟨u43, hu43, H⟩ := pbind H
                  refine OJ.ew rfl rfl rfl (Ew.append tU_ok tI_ok (C := cSpot) (xs := y27) (ys := ([t41] : List Spot)) hS (i := 2) rfl rfl rfl rfl rfl rfl rfl rfl rfl rfl rfl rfl rfl (hS.rd (i := 5) rfl) (chk_some hu43)) ?_
                  rintro _ w1 ⟨A44, c45, rfl, hS⟩
                  refine OJ.pures tU_ok 1 rfl ?_
                  refine OJ.nil (EJ.blk (EJ.next ?_))
                  refine CJ.region ?_
                  refine OJ.pures tU_ok 3 rfl ?_
                  refine OJ.nil ?_
                  exact EJ.round k (F' := [(0, .pointer (some pa0)), (4, .pointer (some ⟨b2, 0, none⟩)), (5, .pointer (some ⟨b3, 0, none⟩)), (6, .slice A44 (y27 ++ ([t41] : List Spot)).length c45), (7, .int .i64 y12), (8, .pointer (some ⟨b18, 0, none⟩)), (9, .slice A20 t19.length c21), (10, .int .i64 (IntKind.i64.wrap (y30 + 1)))]) ⟨rfl, rfl, rfl, rfl, rfl, rfl, rfl, rfl, trivial⟩ (Nat.lt_succ_self _) ⟨(aset y26 t35.Y.toNat (aset t39 t36.X.toNat (IntKind.i64.wrap (t38 + 1)))), (y27 ++ ([t41] : List Spot)), (IntKind.i64.wrap (y30 + 1)), A44, c45, rfl, hS.pick [0, 1, 2, 3, 4] [0] rfl, H⟩
                · replace H := pif_f (of_decide_eq_false hb) H
                  refine CJ.skip (EJ.blk (EJ.next ?_))
                  refine CJ.region ?_
                  refine OJ.pures tU_ok 3 rfl ?_
                  refine OJ.nil ?_
                  exact EJ.round k (F' := [(0, .pointer (some pa0)), (4, .pointer (some ⟨b2, 0, none⟩)), (5, .pointer (some ⟨b3, 0, none⟩)), (6, .slice A28 y27.length c29), (7, .int .i64 y12), (8, .pointer (some ⟨b18, 0, none⟩)), (9, .slice A20 t19.length c21), (10, .int .i64 (IntKind.i64.wrap (y30 + 1)))]) ⟨rfl, rfl, rfl, rfl, rfl, rfl, rfl, rfl, trivial⟩ (Nat.lt_succ_self _) ⟨y26, y27, (IntKind.i64.wrap (y30 + 1)), A28, c29, rfl, hS.pick [0, 1, 2, 3, 4] [0] rfl, H⟩
              · replace H := pif_f (of_decide_eq_false hb) H
                refine CJ.exit (EJ.skE (EJ.skE (EJ.hit (?_))))
                exact EJ.meet (F' := [(0, .pointer (some pa0)), (4, .pointer (some ⟨b2, 0, none⟩)), (5, .pointer (some ⟨b3, 0, none⟩)), (6, .slice A28 y27.length c29), (7, .int .i64 y12)]) ⟨rfl, rfl, rfl, rfl, rfl, trivial⟩ ⟨y26, y27, A28, c29, H, rfl, hS.pick [0, 1, 2] [0] rfl⟩
          · rintro F w1 ⟨y22, y23, A24, c25, he, rfl, hS⟩
            obtain rfl := Option.some.inj he
            have H := K107
            refine EJ.blk (?_)
            exact EJ.meet (F' := [(0, .pointer (some pa0)), (4, .pointer (some ⟨b2, 0, none⟩)), (5, .pointer (some ⟨b3, 0, none⟩)), (6, .slice A24 y23.length c25), (7, .int .i64 y12)]) ⟨rfl, rfl, rfl, rfl, rfl, trivial⟩ ⟨y22, y23, A24, c25, H, rfl, hS.pick [0, 1, 2] [0] rfl⟩
        · rintro F w1 ⟨y13, y14, A15, c16, he, rfl, hS⟩
          obtain rfl := Option.some.inj he
          have H := K105
          refine CJ.region ?_
          refine OJ.pures tU_ok 3 rfl ?_
          refine OJ.nil ?_
          exact EJ.round k (F' := [(0, .pointer (some pa0)), (4, .pointer (some ⟨b2, 0, none⟩)), (5, .pointer (some ⟨b3, 0, none⟩)), (6, .slice A15 y14.length c16), (7, .int .i64 (IntKind.i64.wrap (y12 + 1)))]) ⟨rfl, rfl, rfl, rfl, rfl, trivial⟩ (Nat.lt_succ_self _) ⟨y13, y14, (IntKind.i64.wrap (y12 + 1)), A15, c16, rfl, hS.pick [0, 1, 2] [0] rfl, H⟩
      · replace H := pif_f (of_decide_eq_false hb) H
        refine CJ.exit (EJ.skE (EJ.skE (EJ.hit (?_))))
        exact EJ.meet (F' := [(4, .pointer (some ⟨b2, 0, none⟩)), (5, .pointer (some ⟨b3, 0, none⟩))]) ⟨rfl, rfl, trivial⟩ ⟨y8, H, rfl, hS.pick [0, 1] [0] rfl⟩
  · rintro F w1 ⟨y7, he, rfl, hS⟩
    obtain rfl := Option.some.inj he
    have H := K97
    refine EJ.next ?_
    refine CJ.seq ?_
    refine CJ.region ?_
    refine OJ.st rfl rfl rfl (SR.load rfl rfl (fun w' hx => ldE tU_ok tI_ok rfl rfl rfl (CA.ext (hS.cells (i := 1) rfl) hx) rfl)) ?_
    refine OJ.es rfl rfl (Es.put tI_ok hS (i := 0) rfl rfl rfl rfl rfl (vs := (carr 10 (carr 10 (ci .i64))).enc y7) rfl ((carr 10 (carr 10 (ci .i64))).len _) ((carr 10 (carr 10 (ci .i64))).one _) (Put.all (carr 10 (carr 10 (ci .i64))) (Arr.mk' (Arr.mk' 0 : Arr 10 Int) : Arr 10 (Arr 10 Int)) y7) (by (try simp only [add_lit, Nat.add_assoc, Nat.zero_add, Nat.add_zero]) <;> rfl)) ?_
    intro w1 hS
    refine OJ.nil (EJ.next ?_)
    refine CJ.ret (?_)
    obtain rfl := Option.some.inj H
    exact EJ.fin rfl (.cell rfl (ldE tU_ok tI_ok rfl rfl rfl (hS.cells (i := 0) rfl) rfl) .nil) ⟨rfl, hS.ext⟩

def spec_l07Strange.l1 (a0 : Pasture) (a1 : List Sight) (a2 : Int) : Nat → Int → Option (Int ⊕ Unit)
  | 0, _ => none
  | k + 1, y1 => if y1 < (a1.length : Int) then ((getI a1 (IntKind.i64.wrap (y1 - 1))).bind fun t2 => (spec_l01Steps.f k a0 t2.At).bind fun t3 => (getI a1 y1).bind fun t5 => (getI a1 y1).bind fun t6 => (getI t3.l t5.At.Y).bind fun t7 => (getI t7.l t6.At.X).bind fun t8 => if t8 = 0 then (some (Sum.inl y1)) else ((getI a1 y1).bind fun t9 => (getI a1 (IntKind.i64.wrap (y1 - 1))).bind fun t10 => if (IntKind.i64.wrap (a2 * (IntKind.i64.wrap (IntKind.i16.wrap (t9.Day - t10.Day))))) < (IntKind.i64.wrap (t8 - 1)) then (some (Sum.inl y1)) else (spec_l07Strange.l1 a0 a1 a2 k (IntKind.i64.wrap (y1 + 1))))) else (some (Sum.inr ()))
def spec_l07Strange.f (k : Nat) (a0 : Pasture) (a1 : List Sight) (a2 : Int) : Option Int := (spec_l07Strange.l1 a0 a1 a2 k 1).bind fun s96 => match s96 with | .inl r => some r | .inr _ => some (-1)
theorem spec_l07Strange.c (k : Nat) (w : World) (pa0 : Addr) (a0 : Pasture) (hp0 : CA w pa0 (cPasture.enc a0)) (Aa1 : Option Addr) (ca1 : Nat) (a1 : List Sight) (hr1 : Rd cSight w Aa1 a1) (hc1 : a1.length ≤ ca1) (a2 : Int) (r : Int) (H : spec_l07Strange.f k a0 a1 a2 = some r) :
    CV Try.prog 94 [.pointer (some pa0), .slice Aa1 a1.length ca1, .int .i64 a2].toArray w fun v w' => v = .int .i64 r ∧ Ext w w' := by
  have hS := (((St.init w no).paramP pa0 (cPasture.enc a0) hp0).param cSight Aa1 ca1 a1 hr1 hc1)
  unfold spec_l07Strange.f at H
  refine CV.body Try.func94 rfl Try.ntmps94 rfl ?_
  refine CJ.seq ?_
  refine CJ.region ?_
  refine OJ.pures tU_ok 1 rfl ?_
  refine OJ.nil (EJ.next ?_)
  refine CJ.seq ?_
  refine CJ.seq ?_
  refine CJ.region ?_
  refine OJ.pures tU_ok 1 rfl ?_
  refine OJ.nil (EJ.next ?_)
  obtain ⟨j96, H, K96⟩ := pbind H
  refine CJ.cut1 (fun F w1 => (some (Sum.inr ()) : Option (Int ⊕ Unit)) = some j96 ∧ F = [] ∧ St w no w1 [] [roP pa0 (cPasture.enc a0), roC cSight Aa1 ca1 a1]) ?_ ?_
  · skip
    refine CJ.block ?_
    refine CJ.loop (fun k F w1 => ∃ (y1 : Int), F = [(0, .pointer (some pa0)), (1, .slice Aa1 a1.length ca1), (2, .int .i64 a2), (7, .int .i64 y1)] ∧ St w no w1 [] [roP pa0 (cPasture.enc a0), roC cSight Aa1 ca1 a1] ∧ spec_l07Strange.l1 a0 a1 a2 k y1 = some j96) k (F' := [(0, .pointer (some pa0)), (1, .slice Aa1 a1.length ca1), (2, .int .i64 a2), (7, .int .i64 1)]) ⟨rfl, rfl, rfl, rfl, trivial⟩ ⟨1, rfl, hS.pick [] [0, 1] rfl, H⟩ ?_
    rintro k F w1 ⟨y1, rfl, hS, H⟩
    cases k with
    | zero => rw [spec_l07Strange.l1] at H; cases H
    | succ k =>
      rw [spec_l07Strange.l1] at H
      refine CJ.seq ?_
      refine CJ.seq ?_
      refine CJ.region ?_
      refine OJ.pures tU_ok 4 rfl ?_
      refine OJ.nil (EJ.next ?_)
      refine CJ.cond rfl (fun hb => ?_) (fun hb => ?_)
      · replace H := pif_t (of_decide_eq_true hb) H
        refine CJ.skip (EJ.next ?_)
        refine CJ.seq ?_
        refine CJ.block ?_
        refine CJ.seq ?_
        refine CJ.region ?_
        refine OJ.pures tU_ok 4 rfl ?_
        obtain ⟨t2, ht2, H⟩ := pbind H
        obtain ⟨ad2, e2⟩ := (hS.rd' (i := 1) rfl).some' ht2
        refine OJ.st rfl rfl rfl (SR.idxS tU_ok tI_ok rfl rfl rfl rfl e2 rfl (getI_some ht2).1) ?_
        refine OJ.st rfl rfl rfl (SR.fieldAddr tU_ok tI_ok rfl rfl rfl rfl rfl rfl) ?_
        refine OJ.st rfl rfl rfl (SR.load rfl rfl (fun w' hx => ldN tU_ok tI_ok rfl rfl rfl (CA.ext (CA.sub ((hS.rd' (i := 1) rfl).at_ e2 ht2) 1) hx) (cSpot.len _) rfl)) ?_
        obtain ⟨t3, ht3, H⟩ := pbind H
        refine OJ.callF rfl rfl rfl rfl rfl hb144 rfl (spec_l01Steps.c k _ _ a0 (hS.ca (i := 0) rfl) t2.At _ ht3) ?_
        rintro _ w1 ⟨rfl, hs⟩
        replace hS := hS.grow hs
        refine OJ.ef rfl rfl rfl (Ef.alloc hS tI_ok rfl rfl ((carr 10 (carr 10 (ci .i64))).enc (Arr.mk' (Arr.mk' 0 : Arr 10 Int) : Arr 10 (Arr 10 Int))) (by kernel_rfl)) ?_
        rintro _ w1 ⟨b4, rfl, hS⟩
        refine OJ.es rfl rfl (Es.put tI_ok hS (i := 0) rfl rfl rfl rfl rfl (vs := (carr 10 (carr 10 (ci .i64))).enc t3) rfl ((carr 10 (carr 10 (ci .i64))).len _) ((carr 10 (carr 10 (ci .i64))).one _) (Put.all (carr 10 (carr 10 (ci .i64))) (Arr.mk' (Arr.mk' 0 : Arr 10 Int) : Arr 10 (Arr 10 Int)) t3) (by (try simp only [add_lit, Nat.add_assoc, Nat.zero_add, Nat.add_zero]) <;> rfl)) ?_
        intro w1 hS
        refine OJ.nil (EJ.next ?_)
        refine CJ.seq ?_
        refine CJ.draw [] [0, 1, 2, 3, 4, 5, 6, 7, 8, 9, 10, 11, 12, 13, 14, 15] mixed (by kernel_rfl) hS fun w1 hS => ?_
        refine DJ.pures tU_ok 2 rfl ?_
        obtain ⟨t5, ht5, H⟩ := pbind H
        obtain ⟨ad5, e5⟩ := (hS.rd' (i := 1) rfl).some' ht5
        refine DJ.st rfl rfl rfl rfl rfl (SR.idxS tU_ok tI_ok rfl rfl rfl rfl e5 rfl (getI_some ht5).1) ?_
        refine DJ.st rfl rfl rfl rfl rfl (SR.fieldAddr tU_ok tI_ok rfl rfl rfl rfl rfl rfl) ?_
        refine DJ.st rfl rfl rfl rfl rfl (SR.fieldAddr tU_ok tI_ok rfl rfl rfl rfl rfl rfl) ?_
        refine DJ.st rfl rfl rfl rfl rfl (SR.load rfl rfl (fun w' hx => ld1 tU_ok rfl rfl (CA.ext (CA.sub (CA.sub ((hS.rd' (i := 1) rfl).at_ e5 ht5) 1) 1) hx) rfl)) ?_
        refine DJ.pures tU_ok 2 rfl ?_
        obtain ⟨t6, ht6, H⟩ := pbind H
        obtain ⟨ad6, e6⟩ := (hS.rd' (i := 1) rfl).some' ht6
        refine DJ.st rfl rfl rfl rfl rfl (SR.idxS tU_ok tI_ok rfl rfl rfl rfl e6 rfl (getI_some ht6).1) ?_
        refine DJ.st rfl rfl rfl rfl rfl (SR.fieldAddr tU_ok tI_ok rfl rfl rfl rfl rfl rfl) ?_
        refine DJ.st rfl rfl rfl rfl rfl (SR.fieldAddr tU_ok tI_ok rfl rfl rfl rfl rfl rfl) ?_
        refine DJ.st rfl rfl rfl rfl rfl (SR.load rfl rfl (fun w' hx => ld1 tU_ok rfl rfl (CA.ext (CA.sub (CA.sub ((hS.rd' (i := 1) rfl).at_ e6 ht6) 1) 0) hx) rfl)) ?_
        obtain ⟨t7, ht7, H⟩ := pbind H
        refine DJ.st rfl rfl rfl rfl rfl (SR.idxA tU_ok tI_ok rfl rfl rfl rfl rfl (Arr.lt ht7)) ?_
        obtain ⟨t8, ht8, H⟩ := pbind H
        refine DJ.st rfl rfl rfl rfl rfl (SR.idxA tU_ok tI_ok rfl rfl rfl rfl rfl (Arr.lt ht8)) ?_
        refine DJ.st rfl rfl rfl rfl rfl (SR.load rfl rfl (fun w' hx => ld1 tU_ok rfl rfl (CA.ext (CA.idx (CA.idx (hS.cells (i := 0) rfl) ht7) ht8) hx) rfl)) ?_
        refine DJ.pures tU_ok 1 rfl ?_
        refine DJ.nil (EJ.next ?_)
        refine CJ.seq ?_
        refine CJ.draw [] [0, 1, 2, 3, 4, 5, 6, 7, 8, 9, 10, 11, 12, 13, 14, 15, 16, 17, 18, 19, 20, 21] mixed (by kernel_rfl) hS fun w1 hS => ?_
        refine DJ.pures tU_ok 3 rfl ?_
        refine DJ.split (t := 41) rfl (fun hb => ?_) (fun hb => ?_)
        · replace H := pif_t (of_decide_eq_true hb) H
          refine DJ.pures tU_ok 19 rfl ?_
          refine DJ.nil (EJ.next ?_)
          refine CJ.condT rfl ?_
          refine CJ.seq ?_
          refine CJ.region ?_
          refine OJ.pures tU_ok 2 rfl ?_
          refine OJ.nil (EJ.next ?_)
          refine CJ.ret (EJ.bkR (EJ.skR (EJ.skR (EJ.bkR (EJ.skR (EJ.skR (?_)))))))
          first | (obtain rfl := Option.some.inj H; have H := K96) | (obtain ⟨q96, H2, e96⟩ := pbind H; obtain rfl := Option.some.inj e96; obtain rfl := Option.some.inj K96; have H := H2)
          obtain rfl := Option.some.inj H
          exact EJ.fin rfl (.tmp rfl .nil) ⟨rfl, hS.ext⟩
        · replace H := pif_f (of_decide_eq_false hb) H
          refine DJ.pures tU_ok 5 rfl ?_
          obtain ⟨t9, ht9, H⟩ := pbind H
          obtain ⟨ad9, e9⟩ := (hS.rd' (i := 1) rfl).some' ht9
          refine DJ.st rfl rfl rfl rfl rfl (SR.idxS tU_ok tI_ok rfl rfl rfl rfl e9 rfl (getI_some ht9).1) ?_
          refine DJ.st rfl rfl rfl rfl rfl (SR.fieldAddr tU_ok tI_ok rfl rfl rfl rfl rfl rfl) ?_
          refine DJ.st rfl rfl rfl rfl rfl (SR.load rfl rfl (fun w' hx => ld1 tU_ok rfl rfl (CA.ext (CA.sub ((hS.rd' (i := 1) rfl).at_ e9 ht9) 0) hx) rfl)) ?_
          refine DJ.pures tU_ok 3 rfl ?_
          obtain ⟨t10, ht10, H⟩ := pbind H
          obtain ⟨ad10, e10⟩ := (hS.rd' (i := 1) rfl).some' ht10
          refine DJ.st rfl rfl rfl rfl rfl (SR.idxS tU_ok tI_ok rfl rfl rfl rfl e10 rfl (getI_some ht10).1) ?_
          refine DJ.st rfl rfl rfl rfl rfl (SR.fieldAddr tU_ok tI_ok rfl rfl rfl rfl rfl rfl) ?_
          refine DJ.st rfl rfl rfl rfl rfl (SR.load rfl rfl (fun w' hx => ld1 tU_ok rfl rfl (CA.ext (CA.sub ((hS.rd' (i := 1) rfl).at_ e10 ht10) 0) hx) rfl)) ?_
          refine DJ.pures tU_ok 5 rfl ?_
          refine DJ.nil (EJ.next ?_)
          refine CJ.cond rfl (fun hb => ?_) (fun hb => ?_)
          · replace H := pif_t (of_decide_eq_true hb) H
            refine CJ.seq ?_
            refine CJ.region ?_
            refine OJ.pures tU_ok 2 rfl ?_
            refine OJ.nil (EJ.next ?_)
            refine CJ.ret (EJ.bkR (EJ.skR (EJ.skR (EJ.bkR (EJ.skR (EJ.skR (?_)))))))
            first | (obtain rfl := Option.some.inj H; have H := K96) | (obtain ⟨q96, H2, e96⟩ := pbind H; obtain rfl := Option.some.inj e96; obtain rfl := Option.some.inj K96; have H := H2)
            obtain rfl := Option.some.inj H
            exact EJ.fin rfl (.tmp rfl .nil) ⟨rfl, hS.ext⟩
          · replace H := pif_f (of_decide_eq_false hb) H
            refine CJ.skip (EJ.blk (EJ.next ?_))
            refine CJ.region ?_
            refine OJ.pures tU_ok 3 rfl ?_
            refine OJ.nil ?_
            exact EJ.round k (F' := [(0, .pointer (some pa0)), (1, .slice Aa1 a1.length ca1), (2, .int .i64 a2), (7, .int .i64 (IntKind.i64.wrap (y1 + 1)))]) ⟨rfl, rfl, rfl, rfl, trivial⟩ (Nat.lt_succ_self _) ⟨(IntKind.i64.wrap (y1 + 1)), rfl, hS.pick [] [0, 1] rfl, H⟩
      · replace H := pif_f (of_decide_eq_false hb) H
        refine CJ.exit (EJ.skE (EJ.skE (EJ.hit (?_))))
        exact EJ.meet (F' := []) trivial ⟨H, rfl, hS.pick [] [0, 1] rfl⟩
  · rintro F w1 ⟨he, rfl, hS⟩
    obtain rfl := Option.some.inj he
    have H := K96
    refine EJ.next ?_
    refine CJ.seq ?_
    refine CJ.region ?_
    refine OJ.pures tU_ok 1 rfl ?_
    refine OJ.nil (EJ.next ?_)
    refine CJ.ret (?_)
    obtain rfl := Option.some.inj H
    exact EJ.fin rfl (.tmp rfl .nil) ⟨rfl, hS.ext⟩

def spec_FirstStrange.f (k : Nat) (a0 : Pasture) (a1 : List Sight) (a2 : Int) : Option (Int × Int) := (spec_l07Goat.f k a0 a1 a2).bind fun t2 => if t2 ≠ 0 then (some (0, t2)) else ((spec_l07Strange.f k a0 a1 a2).bind fun t3 => if t3 < 0 then (some (0, 6)) else (some (t3, 0)))
theorem spec_FirstStrange.c (k : Nat) (w : World) (a0 : Pasture) (Aa1 : Option Addr) (ca1 : Nat) (a1 : List Sight) (hr1 : Rd cSight w Aa1 a1) (hc1 : a1.length ≤ ca1) (a2 : Int) (r : Int × Int) (H : spec_FirstStrange.f k a0 a1 a2 = some r) :
    CV Try.prog 31 [.agg (cPasture.enc a0).toArray, .slice Aa1 a1.length ca1, .int .i64 a2].toArray w fun v w' => v = .tuple #[.int .i64 r.1, .int .i64 r.2] ∧ Ext w w' := by
  have hS := ((St.init w no).param cSight Aa1 ca1 a1 hr1 hc1)
  unfold spec_FirstStrange.f at H
  refine CV.body Try.func31 rfl Try.ntmps31 rfl ?_
  refine CJ.seq ?_
  refine CJ.region ?_
  refine OJ.ef rfl rfl rfl (Ef.box hS rfl rfl (cPasture.enc a0) rfl) ?_
  rintro _ w1 ⟨b1, rfl, hS⟩
  refine OJ.pures tU_ok 2 rfl ?_
  refine OJ.nil (EJ.next ?_)
  refine CJ.seq ?_
  refine CJ.seq ?_
  refine CJ.region ?_
  refine OJ.pures tU_ok 2 rfl ?_
  obtain ⟨t2, ht2, H⟩ := pbind H
  refine OJ.callF rfl rfl rfl rfl rfl hb93 rfl (spec_l07Goat.c k _ _ a0 (hS.cells (i := 0) rfl) Aa1 ca1 a1 (hS.rd' (i := 0) rfl) (hS.le' (i := 0) rfl) a2 _ ht2) ?_
  rintro _ w1 ⟨rfl, hs⟩
  replace hS := hS.grow hs
  refine OJ.pures tU_ok 1 rfl ?_
  refine OJ.nil (EJ.next ?_)
  refine CJ.seq ?_
  refine CJ.region ?_
  refine OJ.pures tU_ok 2 rfl ?_
  refine OJ.nil (EJ.next ?_)
  refine CJ.cond rfl (fun hb => ?_) (fun hb => ?_)
  · replace H := pif_t (of_decide_eq_true hb) H
    refine CJ.seq ?_
    refine CJ.region ?_
    refine OJ.pures tU_ok 3 rfl ?_
    refine OJ.nil (EJ.next ?_)
    refine CJ.ret (EJ.skR (?_))
    obtain rfl := Option.some.inj H
    exact EJ.fin rfl (.tmp rfl (.tmp rfl .nil)) ⟨rfl, hS.ext⟩
  · replace H := pif_f (of_decide_eq_false hb) H
    refine CJ.skip (EJ.next ?_)
    refine CJ.seq ?_
    refine CJ.region ?_
    refine OJ.pures tU_ok 2 rfl ?_
    obtain ⟨t3, ht3, H⟩ := pbind H
    refine OJ.callF rfl rfl rfl rfl rfl hb94 rfl (spec_l07Strange.c k _ _ a0 (hS.cells (i := 0) rfl) Aa1 ca1 a1 (hS.rd' (i := 0) rfl) (hS.le' (i := 0) rfl) a2 _ ht3) ?_
    rintro _ w1 ⟨rfl, hs⟩
    replace hS := hS.grow hs
    refine OJ.pures tU_ok 1 rfl ?_
    refine OJ.nil (EJ.next ?_)
    refine CJ.seq ?_
    refine CJ.seq ?_
    refine CJ.region ?_
    refine OJ.pures tU_ok 2 rfl ?_
    refine OJ.nil (EJ.next ?_)
    refine CJ.cond rfl (fun hb => ?_) (fun hb => ?_)
    · replace H := pif_t (of_decide_eq_true hb) H
      refine CJ.seq ?_
      refine CJ.region ?_
      refine OJ.pures tU_ok 2 rfl ?_
      refine OJ.nil (EJ.next ?_)
      refine CJ.ret (EJ.skR (?_))
      obtain rfl := Option.some.inj H
      exact EJ.fin rfl (.tmp rfl (.tmp rfl .nil)) ⟨rfl, hS.ext⟩
    · replace H := pif_f (of_decide_eq_false hb) H
      refine CJ.skip (EJ.next ?_)
      refine CJ.seq ?_
      refine CJ.region ?_
      refine OJ.pures tU_ok 3 rfl ?_
      refine OJ.nil (EJ.next ?_)
      refine CJ.ret (?_)
      obtain rfl := Option.some.inj H
      exact EJ.fin rfl (.tmp rfl (.tmp rfl .nil)) ⟨rfl, hS.ext⟩

def impl_sightCode.f (k : Nat) (a0 : Pasture) (a1 : List Sight) (a2 : Int) : Option Int := (impl_ValidSights.f k a0 a1).bind fun t2 => if (!t2) = true then (some 1) else ((impl_within.f a2 0 100).bind fun t3 => (impl_unless.f t3 2).bind fun t4 => some t4)
theorem impl_sightCode.c (k : Nat) (w : World) (a0 : Pasture) (Aa1 : Option Addr) (ca1 : Nat) (a1 : List Sight) (hr1 : Rd cSight w Aa1 a1) (hc1 : a1.length ≤ ca1) (a2 : Int) (r : Int) (H : impl_sightCode.f k a0 a1 a2 = some r) :
    CV Try.prog 95 [.agg (cPasture.enc a0).toArray, .slice Aa1 a1.length ca1, .int .i64 a2].toArray w fun v w' => v = .int .i64 r ∧ Ext w w' := by
  have hS := ((St.init w no).param cSight Aa1 ca1 a1 hr1 hc1)
  unfold impl_sightCode.f at H
  refine CV.body Try.func95 rfl Try.ntmps95 rfl ?_
  refine CJ.seq ?_
  refine CJ.region ?_
  refine OJ.ef rfl rfl rfl (Ef.box hS rfl rfl (cPasture.enc a0) rfl) ?_
  rintro _ w1 ⟨b1, rfl, hS⟩
  refine OJ.pures tU_ok 1 rfl ?_
  refine OJ.nil (EJ.next ?_)
  refine CJ.seq ?_
  refine CJ.seq ?_
  refine CJ.region ?_
  refine OJ.st rfl rfl rfl (SR.load rfl rfl (fun w' hx => ldE tU_ok tI_ok rfl rfl rfl (CA.ext (hS.cells (i := 0) rfl) hx) rfl)) ?_
  refine OJ.pures tU_ok 1 rfl ?_
  obtain ⟨t2, ht2, H⟩ := pbind H
  refine OJ.callF rfl rfl rfl rfl rfl hb18 rfl (impl_ValidSights.c k _ a0 Aa1 ca1 a1 (hS.rd' (i := 0) rfl) (hS.le' (i := 0) rfl) _ ht2) ?_
  rintro _ w1 ⟨rfl, hs⟩
  replace hS := hS.grow hs
  refine OJ.pures tU_ok 1 rfl ?_
  refine OJ.nil (EJ.next ?_)
  refine CJ.cond rfl (fun hb => ?_) (fun hb => ?_)
  · replace H := pif_t hb H
    refine CJ.seq ?_
    refine CJ.region ?_
    refine OJ.pures tU_ok 1 rfl ?_
    refine OJ.nil (EJ.next ?_)
    refine CJ.ret (EJ.skR (?_))
    obtain rfl := Option.some.inj H
    exact EJ.fin rfl (.tmp rfl .nil) ⟨rfl, hS.ext⟩
  · replace H := pifb_f hb H
    refine CJ.skip (EJ.next ?_)
    refine CJ.seq ?_
    refine CJ.region ?_
    refine OJ.pures tU_ok 1 rfl ?_
    obtain ⟨t3, ht3, H⟩ := pbind H
    refine OJ.callF rfl rfl rfl rfl rfl hb74 rfl (impl_within.c _ a2 0 100 _ ht3) ?_
    rintro _ w1 ⟨rfl, hs⟩
    replace hS := hS.grow hs
    obtain ⟨t4, ht4, H⟩ := pbind H
    refine OJ.callF rfl rfl rfl rfl rfl hb89 rfl (impl_unless.c _ t3 2 _ ht4) ?_
    rintro _ w1 ⟨rfl, hs⟩
    replace hS := hS.grow hs
    refine OJ.pures tU_ok 1 rfl ?_
    refine OJ.nil (EJ.next ?_)
    refine CJ.ret (?_)
    obtain rfl := Option.some.inj H
    exact EJ.fin rfl (.tmp rfl .nil) ⟨rfl, hS.ext⟩

def laws_szSpotS.f (a0 : List Spot) (a1 : Int) : Option Int := if (IntKind.i64.wrap (a1 - (a0.length : Int))) < 0 then (some (-1)) else (some (IntKind.i64.wrap (a1 - (a0.length : Int))))
theorem laws_szSpotS.c (w : World) (Aa0 : Option Addr) (ca0 : Nat) (a0 : List Spot) (hr0 : Rd cSpot w Aa0 a0) (hc0 : a0.length ≤ ca0) (a1 : Int) (r : Int) (H : laws_szSpotS.f a0 a1 = some r) :
    CV Try.prog 36 [.slice Aa0 a0.length ca0, .int .i64 a1].toArray w fun v w' => v = .int .i64 r ∧ Ext w w' := by
  have hS := ((St.init w no).param cSpot Aa0 ca0 a0 hr0 hc0)
  unfold laws_szSpotS.f at H
  refine CV.body Try.func36 rfl Try.ntmps36 rfl ?_
  refine CJ.seq ?_
  refine CJ.region ?_
  refine OJ.pures tU_ok 1 rfl ?_
  refine OJ.nil (EJ.next ?_)
  refine CJ.seq ?_
  refine CJ.region ?_
  refine OJ.pures tU_ok 5 rfl ?_
  refine OJ.nil (EJ.next ?_)
  refine CJ.seq ?_
  refine CJ.seq ?_
  refine CJ.region ?_
  refine OJ.pures tU_ok 2 rfl ?_
  refine OJ.nil (EJ.next ?_)
  refine CJ.cond rfl (fun hb => ?_) (fun hb => ?_)
  · replace H := pif_t (of_decide_eq_true hb) H
    refine CJ.seq ?_
    refine CJ.region ?_
    refine OJ.pures tU_ok 1 rfl ?_
    refine OJ.nil (EJ.next ?_)
    refine CJ.ret (EJ.skR (?_))
    obtain rfl := Option.some.inj H
    exact EJ.fin rfl (.tmp rfl .nil) ⟨rfl, hS.ext⟩
  · replace H := pif_f (of_decide_eq_false hb) H
    refine CJ.skip (EJ.next ?_)
    refine CJ.seq ?_
    refine CJ.region ?_
    refine OJ.pures tU_ok 2 rfl ?_
    refine OJ.nil (EJ.next ?_)
    refine CJ.ret (?_)
    obtain rfl := Option.some.inj H
    exact EJ.fin rfl (.tmp rfl .nil) ⟨rfl, hS.ext⟩

def laws_toSpotS.l1 (a0 : List Spot) : Nat → (List Spot) → Int → Option (List Spot)
  | 0, _, _ => none
  | k + 1, y4, y5 => if y5 < (a0.length : Int) then ((getI a0 y5).bind fun t6 => (laws_toSpot.f t6).bind fun t7 => (getI y4 y5).bind fun t8 => laws_toSpotS.l1 a0 k (y4.set y5.toNat t7) (IntKind.i64.wrap (y5 + 1))) else (some y4)
def laws_toSpotS.f (k : Nat) (a0 : List Spot) : Option (List Spot) := (chk (0 ≤ (a0.length : Int) ∧ (a0.length : Int) ≤ 4294967296)).bind fun u1 => (laws_toSpotS.l1 a0 k (List.replicate (a0.length : Int).toNat (⟨0, 0⟩ : Spot)) 0).bind fun y3 => some y3
theorem laws_toSpotS.c (k : Nat) (w : World) (Aa0 : Option Addr) (ca0 : Nat) (a0 : List Spot) (hr0 : Rd cSpot w Aa0 a0) (hc0 : a0.length ≤ ca0) (r : List Spot) (H : laws_toSpotS.f k a0 = some r) :
    CV Try.prog 38 [.slice Aa0 a0.length ca0].toArray w fun v w' => ∃ (A0 : Option Addr) (c0 : Nat), v = .slice A0 r.length c0 ∧ St w no w' [rowC cSpot A0 c0 105 r] [] := by
  have hS := ((St.init w no).param cSpot Aa0 ca0 a0 hr0 hc0)
  unfold laws_toSpotS.f at H
  refine CV.body Try.func38 rfl Try.ntmps38 rfl ?_
  refine CJ.seq ?_
  refine CJ.region ?_
  refine OJ.pures tU_ok 1 rfl ?_
  refine OJ.nil (EJ.next ?_)
  refine CJ.seq ?_
  refine CJ.region ?_
  refine OJ.pures tU_ok 2 rfl ?_
  obtain ⟨u1, hu1, H⟩ := pbind H
  refine OJ.ef rfl rfl rfl (Ef.make tU_ok tI_ok hS (C := cSpot) rfl rfl rfl rfl rfl rfl rfl rfl (chk_some hu1) (⟨0, 0⟩ : Spot) rfl) ?_
  rintro _ w1 ⟨A2, rfl, hS⟩
  refine OJ.pures tU_ok 1 rfl ?_
  refine OJ.nil (EJ.next ?_)
  refine CJ.seq ?_
  refine CJ.seq ?_
  refine CJ.region ?_
  refine OJ.pures tU_ok 1 rfl ?_
  refine OJ.nil (EJ.next ?_)
  obtain ⟨j109, H, K109⟩ := pbind H
  refine CJ.cut1 (fun F w1 => ∃ (y3 : List Spot) , (some y3 : Option (List Spot)) = some j109 ∧ F = [(3, .slice A2 y3.length ((a0.length : Int).toNat))] ∧ St w no w1 [rowC cSpot A2 ((a0.length : Int).toNat) 105 y3] [roC cSpot Aa0 ca0 a0]) ?_ ?_
  · skip
    refine CJ.block ?_
    refine CJ.loop (fun k F w1 => ∃ (y4 : List Spot) (y5 : Int), F = [(0, .slice Aa0 a0.length ca0), (3, .slice A2 y4.length ((a0.length : Int).toNat)), (4, .int .i64 y5)] ∧ St w no w1 [rowC cSpot A2 ((a0.length : Int).toNat) 105 y4] [roC cSpot Aa0 ca0 a0] ∧ laws_toSpotS.l1 a0 k y4 y5 = some j109) k (F' := [(0, .slice Aa0 a0.length ca0), (3, .slice A2 (List.replicate (a0.length : Int).toNat (⟨0, 0⟩ : Spot)).length ((a0.length : Int).toNat)), (4, .int .i64 0)]) ⟨rfl, rfl, rfl, trivial⟩ ⟨(List.replicate (a0.length : Int).toNat (⟨0, 0⟩ : Spot)), 0, rfl, hS.pick [0] [0] rfl, H⟩ ?_
    rintro k F w1 ⟨y4, y5, rfl, hS, H⟩
    cases k with
    | zero => rw [laws_toSpotS.l1] at H; cases H
    | succ k =>
      rw [laws_toSpotS.l1] at H
      refine CJ.seq ?_
      refine CJ.seq ?_
      refine CJ.region ?_
      refine OJ.pures tU_ok 4 rfl ?_
      refine OJ.nil (EJ.next ?_)
      refine CJ.cond rfl (fun hb => ?_) (fun hb => ?_)
      · replace H := pif_t (of_decide_eq_true hb) H
        refine CJ.skip (EJ.next ?_)
        refine CJ.seq ?_
        refine CJ.block ?_
        refine CJ.region ?_
        refine OJ.pures tU_ok 4 rfl ?_
        obtain ⟨t6, ht6, H⟩ := pbind H
        obtain ⟨ad6, e6⟩ := (hS.rd' (i := 0) rfl).some' ht6
        refine OJ.st rfl rfl rfl (SR.idxS tU_ok tI_ok rfl rfl rfl rfl e6 rfl (getI_some ht6).1) ?_
        refine OJ.st rfl rfl rfl (SR.load rfl rfl (fun w' hx => ldE tU_ok tI_ok rfl rfl rfl (CA.ext ((hS.rd' (i := 0) rfl).at_ e6 ht6) hx) rfl)) ?_
        obtain ⟨t7, ht7, H⟩ := pbind H
        refine OJ.callF rfl rfl rfl rfl rfl hb106 rfl (laws_toSpot.c _ t6 _ ht7) ?_
        rintro _ w1 ⟨rfl, hs⟩
        replace hS := hS.grow hs
        obtain ⟨t8, ht8, H⟩ := pbind H
        obtain ⟨ad8, e8⟩ := (hS.rd (i := 0) rfl).some' ht8
        refine OJ.st rfl rfl rfl (SR.idxS tU_ok tI_ok rfl rfl rfl rfl e8 rfl (getI_some ht8).1) ?_
        refine OJ.es rfl rfl (Es.storeR tI_ok hS (i := 0) (off := 0) rfl rfl ht8 e8 rfl rfl rfl rfl (vs := cSpot.enc t7) rfl (cSpot.len _) (cSpot.one _) (Nat.le_of_ble_eq_true rfl) t7 rfl) ?_
        intro w1 hS
        refine OJ.as (t := 3) rfl (show _ = (.slice A2 (y4.set y5.toNat t7).length ((a0.length : Int).toNat) : Value) by simp only [List.length_set]) ?_
        refine OJ.as (t := 14) rfl (show _ = (.slice A2 (y4.set y5.toNat t7).length ((a0.length : Int).toNat) : Value) by simp only [List.length_set]) ?_
        refine OJ.nil (EJ.blk (EJ.next ?_))
        refine CJ.region ?_
        refine OJ.pures tU_ok 3 rfl ?_
        refine OJ.nil ?_
        exact EJ.round k (F' := [(0, .slice Aa0 a0.length ca0), (3, .slice A2 (y4.set y5.toNat t7).length ((a0.length : Int).toNat)), (4, .int .i64 (IntKind.i64.wrap (y5 + 1)))]) ⟨rfl, rfl, rfl, trivial⟩ (Nat.lt_succ_self _) ⟨(y4.set y5.toNat t7), (IntKind.i64.wrap (y5 + 1)), rfl, hS.pick [0] [0] rfl, H⟩
      · replace H := pif_f (of_decide_eq_false hb) H
        refine CJ.exit (EJ.skE (EJ.skE (EJ.hit (?_))))
        exact EJ.meet (F' := [(3, .slice A2 y4.length ((a0.length : Int).toNat))]) ⟨rfl, trivial⟩ ⟨y4, H, rfl, hS.pick [0] [0] rfl⟩
  · rintro F w1 ⟨y3, he, rfl, hS⟩
    obtain rfl := Option.some.inj he
    have H := K109
    refine EJ.next ?_
    refine CJ.seq ?_
    refine CJ.region ?_
    refine OJ.pures tU_ok 2 rfl ?_
    refine OJ.nil (EJ.next ?_)
    refine CJ.ret (?_)
    obtain rfl := Option.some.inj H
    exact EJ.fin rfl (.tmp rfl .nil) ⟨A2, ((a0.length : Int).toNat), rfl, hS.pick [0] [] rfl⟩

def spec_l01All.l1 (a0 : Pasture) (a1 : List Spot) : Nat → Int → Option (Int ⊕ Unit)
  | 0, _ => none
  | k + 1, y2 => if y2 < (a1.length : Int) then ((getI a1 y2).bind fun t3 => (spec_l01Is.f a0 t3).bind fun t4 => if (!t4) = true then (some (Sum.inl 2)) else (spec_l01All.l1 a0 a1 k (IntKind.i64.wrap (y2 + 1)))) else (some (Sum.inr ()))
def spec_l01All.f (k : Nat) (a0 : Pasture) (a1 : List Spot) : Option Int := (spec_l01Ok.f k a0).bind fun t1 => if (!t1) = true then (some 1) else ((spec_l01All.l1 a0 a1 k 0).bind fun s110 => match s110 with | .inl r => some r | .inr _ => some 0)
theorem spec_l01All.c (k : Nat) (w : World) (pa0 : Addr) (a0 : Pasture) (hp0 : CA w pa0 (cPasture.enc a0)) (Aa1 : Option Addr) (ca1 : Nat) (a1 : List Spot) (hr1 : Rd cSpot w Aa1 a1) (hc1 : a1.length ≤ ca1) (r : Int) (H : spec_l01All.f k a0 a1 = some r) :
    CV Try.prog 104 [.pointer (some pa0), .slice Aa1 a1.length ca1].toArray w fun v w' => v = .int .i64 r ∧ Ext w w' := by
  have hS := (((St.init w no).paramP pa0 (cPasture.enc a0) hp0).param cSpot Aa1 ca1 a1 hr1 hc1)
  unfold spec_l01All.f at H
  refine CV.body Try.func104 rfl Try.ntmps104 rfl ?_
  refine CJ.seq ?_
  refine CJ.region ?_
  refine OJ.pures tU_ok 1 rfl ?_
  refine OJ.nil (EJ.next ?_)
  refine CJ.seq ?_
  refine CJ.seq ?_
  refine CJ.region ?_
  refine OJ.pures tU_ok 1 rfl ?_
  obtain ⟨t1, ht1, H⟩ := pbind H
  refine OJ.callF rfl rfl rfl rfl rfl hb67 rfl (spec_l01Ok.c k _ _ a0 (hS.ca (i := 0) rfl) _ ht1) ?_
  rintro _ w1 ⟨rfl, hs⟩
  replace hS := hS.grow hs
  refine OJ.pures tU_ok 1 rfl ?_
  refine OJ.nil (EJ.next ?_)
  refine CJ.cond rfl (fun hb => ?_) (fun hb => ?_)
  · replace H := pif_t hb H
    refine CJ.seq ?_
    refine CJ.region ?_
    refine OJ.pures tU_ok 1 rfl ?_
    refine OJ.nil (EJ.next ?_)
    refine CJ.ret (EJ.skR (?_))
    obtain rfl := Option.some.inj H
    exact EJ.fin rfl (.tmp rfl .nil) ⟨rfl, hS.ext⟩
  · replace H := pifb_f hb H
    refine CJ.skip (EJ.next ?_)
    refine CJ.seq ?_
    refine CJ.seq ?_
    refine CJ.region ?_
    refine OJ.pures tU_ok 1 rfl ?_
    refine OJ.nil (EJ.next ?_)
    obtain ⟨j110, H, K110⟩ := pbind H
    refine CJ.cut1 (fun F w1 => (some (Sum.inr ()) : Option (Int ⊕ Unit)) = some j110 ∧ F = [] ∧ St w no w1 [] [roP pa0 (cPasture.enc a0), roC cSpot Aa1 ca1 a1]) ?_ ?_
    · skip
      refine CJ.block ?_
      refine CJ.loop (fun k F w1 => ∃ (y2 : Int), F = [(0, .pointer (some pa0)), (1, .slice Aa1 a1.length ca1), (5, .int .i64 y2)] ∧ St w no w1 [] [roP pa0 (cPasture.enc a0), roC cSpot Aa1 ca1 a1] ∧ spec_l01All.l1 a0 a1 k y2 = some j110) k (F' := [(0, .pointer (some pa0)), (1, .slice Aa1 a1.length ca1), (5, .int .i64 0)]) ⟨rfl, rfl, rfl, trivial⟩ ⟨0, rfl, hS.pick [] [0, 1] rfl, H⟩ ?_
      rintro k F w1 ⟨y2, rfl, hS, H⟩
      cases k with
      | zero => rw [spec_l01All.l1] at H; cases H
      | succ k =>
        rw [spec_l01All.l1] at H
        refine CJ.seq ?_
        refine CJ.seq ?_
        refine CJ.region ?_
        refine OJ.pures tU_ok 4 rfl ?_
        refine OJ.nil (EJ.next ?_)
        refine CJ.cond rfl (fun hb => ?_) (fun hb => ?_)
        · replace H := pif_t (of_decide_eq_true hb) H
          refine CJ.skip (EJ.next ?_)
          refine CJ.seq ?_
          refine CJ.block ?_
          refine CJ.seq ?_
          refine CJ.region ?_
          refine OJ.pures tU_ok 3 rfl ?_
          obtain ⟨t3, ht3, H⟩ := pbind H
          obtain ⟨ad3, e3⟩ := (hS.rd' (i := 1) rfl).some' ht3
          refine OJ.st rfl rfl rfl (SR.idxS tU_ok tI_ok rfl rfl rfl rfl e3 rfl (getI_some ht3).1) ?_
          refine OJ.st rfl rfl rfl (SR.load rfl rfl (fun w' hx => ldE tU_ok tI_ok rfl rfl rfl (CA.ext ((hS.rd' (i := 1) rfl).at_ e3 ht3) hx) rfl)) ?_
          obtain ⟨t4, ht4, H⟩ := pbind H
          refine OJ.callF rfl rfl rfl rfl rfl hb134 rfl (spec_l01Is.c _ _ a0 (hS.ca (i := 0) rfl) t3 _ ht4) ?_
          rintro _ w1 ⟨rfl, hs⟩
          replace hS := hS.grow hs
          refine OJ.pures tU_ok 1 rfl ?_
          refine OJ.nil (EJ.next ?_)
          refine CJ.cond rfl (fun hb => ?_) (fun hb => ?_)
          · replace H := pif_t hb H
            refine CJ.seq ?_
            refine CJ.region ?_
            refine OJ.pures tU_ok 1 rfl ?_
            refine OJ.nil (EJ.next ?_)
            refine CJ.ret (EJ.bkR (EJ.skR (EJ.skR (EJ.bkR (EJ.skR (EJ.skR (?_)))))))
            first | (obtain rfl := Option.some.inj H; have H := K110) | (obtain ⟨q110, H2, e110⟩ := pbind H; obtain rfl := Option.some.inj e110; obtain rfl := Option.some.inj K110; have H := H2)
            obtain rfl := Option.some.inj H
            exact EJ.fin rfl (.tmp rfl .nil) ⟨rfl, hS.ext⟩
          · replace H := pifb_f hb H
            refine CJ.skip (EJ.blk (EJ.next ?_))
            refine CJ.region ?_
            refine OJ.pures tU_ok 3 rfl ?_
            refine OJ.nil ?_
            exact EJ.round k (F' := [(0, .pointer (some pa0)), (1, .slice Aa1 a1.length ca1), (5, .int .i64 (IntKind.i64.wrap (y2 + 1)))]) ⟨rfl, rfl, rfl, trivial⟩ (Nat.lt_succ_self _) ⟨(IntKind.i64.wrap (y2 + 1)), rfl, hS.pick [] [0, 1] rfl, H⟩
        · replace H := pif_f (of_decide_eq_false hb) H
          refine CJ.exit (EJ.skE (EJ.skE (EJ.hit (?_))))
          exact EJ.meet (F' := []) trivial ⟨H, rfl, hS.pick [] [0, 1] rfl⟩
    · rintro F w1 ⟨he, rfl, hS⟩
      obtain rfl := Option.some.inj he
      have H := K110
      refine EJ.next ?_
      refine CJ.seq ?_
      refine CJ.region ?_
      refine OJ.pures tU_ok 1 rfl ?_
      refine OJ.nil (EJ.next ?_)
      refine CJ.ret (?_)
      obtain rfl := Option.some.inj H
      exact EJ.fin rfl (.tmp rfl .nil) ⟨rfl, hS.ext⟩

def laws_f6big.f (a0 : List Int) : Option Bool := some (decide (4096 < (a0.length : Int)))
theorem laws_f6big.c (w : World) (Aa0 : Option Addr) (ca0 : Nat) (a0 : List Int) (hr0 : Rd (ci .u8) w Aa0 a0) (hc0 : a0.length ≤ ca0) (r : Bool) (H : laws_f6big.f a0 = some r) :
    CV Try.prog 42 [.slice Aa0 a0.length ca0].toArray w fun v w' => v = .bool r ∧ Ext w w' := by
  have hS := ((St.init w no).param (ci .u8) Aa0 ca0 a0 hr0 hc0)
  unfold laws_f6big.f at H
  refine CV.body Try.func42 rfl Try.ntmps42 rfl ?_
  refine CJ.seq ?_
  refine CJ.region ?_
  refine OJ.pures tU_ok 1 rfl ?_
  refine OJ.nil (EJ.next ?_)
  refine CJ.seq ?_
  refine CJ.region ?_
  refine OJ.pures tU_ok 4 rfl ?_
  refine OJ.nil (EJ.next ?_)
  refine CJ.ret (?_)
  obtain rfl := Option.some.inj H
  exact EJ.fin rfl (.tmp rfl .nil) ⟨rfl, hS.ext⟩

def spec_l03Side.f (a0 : Hurdle) : Option Int := if a0.South = true then (some 2) else (some 1)
theorem spec_l03Side.c (w : World) (a0 : Hurdle) (r : Int) (H : spec_l03Side.f a0 = some r) :
    CV Try.prog 163 [.agg (cHurdle.enc a0).toArray].toArray w fun v w' => v = .int .i64 r ∧ Ext w w' := by
  have hS := (St.init w no)
  unfold spec_l03Side.f at H
  refine CV.body Try.func163 rfl Try.ntmps163 rfl ?_
  refine CJ.seq ?_
  refine CJ.region ?_
  refine OJ.ef rfl rfl rfl (Ef.box hS rfl rfl (cHurdle.enc a0) rfl) ?_
  rintro _ w1 ⟨b1, rfl, hS⟩
  refine OJ.pures tU_ok 1 rfl ?_
  refine OJ.nil (EJ.next ?_)
  refine CJ.seq ?_
  refine CJ.seq ?_
  refine CJ.region ?_
  refine OJ.st rfl rfl rfl (SR.fieldAddr tU_ok tI_ok rfl rfl rfl rfl rfl rfl) ?_
  refine OJ.st rfl rfl rfl (SR.load rfl rfl (fun w' hx => ld1 tU_ok rfl rfl (CA.ext (CA.sub (hS.cells (i := 0) rfl) 2) hx) rfl)) ?_
  refine OJ.nil (EJ.next ?_)
  refine CJ.cond rfl (fun hb => ?_) (fun hb => ?_)
  · replace H := pif_t hb H
    refine CJ.seq ?_
    refine CJ.region ?_
    refine OJ.pures tU_ok 1 rfl ?_
    refine OJ.nil (EJ.next ?_)
    refine CJ.ret (EJ.skR (?_))
    obtain rfl := Option.some.inj H
    exact EJ.fin rfl (.tmp rfl .nil) ⟨rfl, hS.ext⟩
  · replace H := pifb_f hb H
    refine CJ.skip (EJ.next ?_)
    refine CJ.seq ?_
    refine CJ.region ?_
    refine OJ.pures tU_ok 1 rfl ?_
    refine OJ.nil (EJ.next ?_)
    refine CJ.ret (?_)
    obtain rfl := Option.some.inj H
    exact EJ.fin rfl (.tmp rfl .nil) ⟨rfl, hS.ext⟩

def spec_l03Is.f (a0 : Pasture) (a1 : Hurdle) : Option Bool := (spec_l01Is.f a0 a1.At).bind fun t2 => if t2 = true then ((spec_l03Side.f a1).bind fun t3 => (spec_l01Next.f a1.At t3).bind fun t4 => (spec_l01Is.f a0 t4).bind fun t5 => some t5) else (some false)
theorem spec_l03Is.c (w : World) (pa0 : Addr) (a0 : Pasture) (hp0 : CA w pa0 (cPasture.enc a0)) (a1 : Hurdle) (r : Bool) (H : spec_l03Is.f a0 a1 = some r) :
    CV Try.prog 176 [.pointer (some pa0), .agg (cHurdle.enc a1).toArray].toArray w fun v w' => v = .bool r ∧ Ext w w' := by
  have hS := ((St.init w no).paramP pa0 (cPasture.enc a0) hp0)
  unfold spec_l03Is.f at H
  refine CV.body Try.func176 rfl Try.ntmps176 rfl ?_
  refine CJ.seq ?_
  refine CJ.region ?_
  refine OJ.ef rfl rfl rfl (Ef.box hS rfl rfl (cHurdle.enc a1) rfl) ?_
  rintro _ w1 ⟨b1, rfl, hS⟩
  refine OJ.pures tU_ok 1 rfl ?_
  refine OJ.nil (EJ.next ?_)
  refine CJ.seq ?_
  refine CJ.draw [] [0, 1, 2, 3, 4, 5, 6, 7, 8, 9, 10, 11, 12, 13] mixed (by kernel_rfl) hS fun w1 hS => ?_
  refine DJ.pures tU_ok 1 rfl ?_
  refine DJ.st rfl rfl rfl rfl rfl (SR.fieldAddr tU_ok tI_ok rfl rfl rfl rfl rfl rfl) ?_
  refine DJ.st rfl rfl rfl rfl rfl (SR.load rfl rfl (fun w' hx => ldN tU_ok tI_ok rfl rfl rfl (CA.ext (CA.sub (hS.cells (i := 0) rfl) 0) hx) (cSpot.len _) rfl)) ?_
  obtain ⟨t2, ht2, H⟩ := pbind H
  refine DJ.callF rfl rfl rfl rfl rfl rfl rfl hb134 rfl (spec_l01Is.c _ _ a0 (hS.ca (i := 0) rfl) a1.At _ ht2) (by rintro v w' ⟨rfl, hs⟩; exact hs) ?_
  rintro _ w1 ⟨rfl, hs⟩
  replace hS := hS.grow hs
  refine DJ.pures tU_ok 1 rfl ?_
  refine DJ.split (t := 9) rfl (fun hb => ?_) (fun hb => ?_)
  · replace H := pif_t hb H
    refine DJ.pures tU_ok 1 rfl ?_
    refine DJ.st rfl rfl rfl rfl rfl (SR.fieldAddr tU_ok tI_ok rfl rfl rfl rfl rfl rfl) ?_
    refine DJ.st rfl rfl rfl rfl rfl (SR.load rfl rfl (fun w' hx => ldN tU_ok tI_ok rfl rfl rfl (CA.ext (CA.sub (hS.cells (i := 0) rfl) 0) hx) (cSpot.len _) rfl)) ?_
    refine DJ.st rfl rfl rfl rfl rfl (SR.load rfl rfl (fun w' hx => ldE tU_ok tI_ok rfl rfl rfl (CA.ext (hS.cells (i := 0) rfl) hx) rfl)) ?_
    obtain ⟨t3, ht3, H⟩ := pbind H
    refine DJ.callF rfl rfl rfl rfl rfl rfl rfl hb163 rfl (spec_l03Side.c _ a1 _ ht3) (by rintro v w' ⟨rfl, hs⟩; exact hs) ?_
    rintro _ w1 ⟨rfl, hs⟩
    replace hS := hS.grow hs
    obtain ⟨t4, ht4, H⟩ := pbind H
    refine DJ.callF rfl rfl rfl rfl rfl rfl rfl hb178 rfl (spec_l01Next.c _ a1.At t3 _ ht4) (by rintro v w' ⟨rfl, hs⟩; exact hs) ?_
    rintro _ w1 ⟨rfl, hs⟩
    replace hS := hS.grow hs
    obtain ⟨t5, ht5, H⟩ := pbind H
    refine DJ.callF rfl rfl rfl rfl rfl rfl rfl hb134 rfl (spec_l01Is.c _ _ a0 (hS.ca (i := 0) rfl) t4 _ ht5) (by rintro v w' ⟨rfl, hs⟩; exact hs) ?_
    rintro _ w1 ⟨rfl, hs⟩
    replace hS := hS.grow hs
    refine DJ.pures tU_ok 2 rfl ?_
    refine DJ.nil (EJ.next ?_)
    refine CJ.ret (?_)
    obtain rfl := Option.some.inj H
    exact EJ.fin rfl (.tmp rfl .nil) ⟨rfl, hS.ext⟩
  · replace H := pifb_f hb H
    refine DJ.pures tU_ok 9 rfl ?_
    refine DJ.nil (EJ.next ?_)
    refine CJ.ret (?_)
    obtain rfl := Option.some.inj H
    exact EJ.fin rfl (.tmp rfl .nil) ⟨rfl, hS.ext⟩
end Go.Proofs.Ytpaciifeklccfaa
