/-
  What the functions come to.
-/
import Derived.Test.YtfdfchbcenoabaaGT
namespace Go.Proofs.Ytfdfchbcenoabaa
open G
set_option linter.unusedVariables false
set_option maxRecDepth 100000
set_option maxHeartbeats 1000000
def laws_szMeadowS.f (a0 : List Meadow) (a1 : Int) : Option Int := if (IntKind.i64.wrap (a1 - (a0.length : Int))) < 0 then (some (-1)) else (some (IntKind.i64.wrap (a1 - (a0.length : Int))))
theorem laws_szMeadowS.c (w : World) (Aa0 : Option Addr) (ca0 : Nat) (a0 : List Meadow) (hr0 : Rd cMeadow w Aa0 a0) (hc0 : a0.length ≤ ca0) (a1 : Int) (r : Int) (H : laws_szMeadowS.f a0 a1 = some r) :
    CV Try.prog 15 [.slice Aa0 a0.length ca0, .int .i64 a1].toArray w fun v w' => v = .int .i64 r ∧ Ext w w' := by
  have hS := ((St.init w no).param cMeadow Aa0 ca0 a0 hr0 hc0)
  unfold laws_szMeadowS.f at H
  refine CV.body Try.func15 rfl Try.ntmps15 rfl ?_
  refine CJ.seq ?_
  refine CJ.region ?_
  refine OJ.pures tU_ok 1 rfl ?_
  refine OJ.nil (EJ.next ?_)
  refine CJ.seq ?_
  refine CJ.region ?_
  refine OJ.pures tU_ok 5 rfl ?_
  refine OJ.nil (EJ.next ?_)
  refine CJ.seq ?_
  refine CJ.seq ?_
  refine CJ.region ?_
  refine OJ.pures tU_ok 2 rfl ?_
  refine OJ.nil (EJ.next ?_)
  refine CJ.cond rfl (fun hb => ?_) (fun hb => ?_)
  · replace H := pif_t (of_decide_eq_true hb) H
    refine CJ.seq ?_
    refine CJ.region ?_
    refine OJ.pures tU_ok 1 rfl ?_
    refine OJ.nil (EJ.next ?_)
    refine CJ.ret (EJ.skR (?_))
    obtain rfl := Option.some.inj H
    exact EJ.fin rfl (.tmp rfl .nil) ⟨rfl, hS.ext⟩
  · replace H := pif_f (of_decide_eq_false hb) H
    refine CJ.skip (EJ.next ?_)
    refine CJ.seq ?_
    refine CJ.region ?_
    refine OJ.pures tU_ok 2 rfl ?_
    refine OJ.nil (EJ.next ?_)
    refine CJ.ret (?_)
    obtain rfl := Option.some.inj H
    exact EJ.fin rfl (.tmp rfl .nil) ⟨rfl, hS.ext⟩

def laws_toMeadow.f (a0 : Meadow) : Option Meadow := some (⟨(⟨(⟨a0.Grass, (⟨0, 0, 0⟩ : Meadow).Grows, (⟨0, 0, 0⟩ : Meadow).Most⟩ : Meadow).Grass, a0.Grows, (⟨a0.Grass, (⟨0, 0, 0⟩ : Meadow).Grows, (⟨0, 0, 0⟩ : Meadow).Most⟩ : Meadow).Most⟩ : Meadow).Grass, (⟨(⟨a0.Grass, (⟨0, 0, 0⟩ : Meadow).Grows, (⟨0, 0, 0⟩ : Meadow).Most⟩ : Meadow).Grass, a0.Grows, (⟨a0.Grass, (⟨0, 0, 0⟩ : Meadow).Grows, (⟨0, 0, 0⟩ : Meadow).Most⟩ : Meadow).Most⟩ : Meadow).Grows, a0.Most⟩ : Meadow)
theorem laws_toMeadow.c (w : World) (a0 : Meadow) (r : Meadow) (H : laws_toMeadow.f a0 = some r) :
    CV Try.prog 48 [.agg (cMeadow.enc a0).toArray].toArray w fun v w' => v = .agg (cMeadow.enc r).toArray ∧ Ext w w' := by
  have hS := (St.init w no)
  unfold laws_toMeadow.f at H
  refine CV.body Try.func48 rfl Try.ntmps48 rfl ?_
  refine CJ.seq ?_
  refine CJ.region ?_
  refine OJ.ef rfl rfl rfl (Ef.box hS rfl rfl (cMeadow.enc a0) rfl) ?_
  rintro _ w1 ⟨b1, rfl, hS⟩
  refine OJ.ef rfl rfl rfl (Ef.alloc hS tI_ok rfl rfl (cMeadow.enc (⟨0, 0, 0⟩ : Meadow)) rfl) ?_
  rintro _ w1 ⟨b2, rfl, hS⟩
  refine OJ.nil (EJ.next ?_)
  refine CJ.seq ?_
  refine CJ.region ?_
  refine OJ.ef rfl rfl rfl (Ef.alloc hS tI_ok rfl rfl (cMeadow.enc (⟨0, 0, 0⟩ : Meadow)) rfl) ?_
  rintro _ w1 ⟨b3, rfl, hS⟩
  refine OJ.nil (EJ.next ?_)
  refine CJ.seq ?_
  refine CJ.region ?_
  refine OJ.st rfl rfl rfl (SR.fieldAddr tU_ok tI_ok rfl rfl rfl rfl rfl rfl) ?_
  refine OJ.st rfl rfl rfl (SR.load rfl rfl (fun w' hx => ld1 tU_ok rfl rfl (CA.ext (CA.sub (hS.cells (i := 0) rfl) 0) hx) rfl)) ?_
  refine OJ.st rfl rfl rfl (SR.fieldAddr tU_ok tI_ok rfl rfl rfl rfl rfl rfl) ?_
  refine OJ.es rfl rfl (Es.store tI_ok hS (i := 2) rfl rfl rfl (ad1 _ _) rfl rfl (vs := (ci .i16).enc a0.Grass) rfl rfl (one1 rfl) (Nat.le_of_ble_eq_true rfl) (cMeadow.enc (⟨a0.Grass, (⟨0, 0, 0⟩ : Meadow).Grows, (⟨0, 0, 0⟩ : Meadow).Most⟩ : Meadow)) rfl) ?_
  intro w1 hS
  refine OJ.nil (EJ.next ?_)
  refine CJ.seq ?_
  refine CJ.region ?_
  refine OJ.st rfl rfl rfl (SR.fieldAddr tU_ok tI_ok rfl rfl rfl rfl rfl rfl) ?_
  refine OJ.st rfl rfl rfl (SR.load rfl rfl (fun w' hx => ld1 tU_ok rfl rfl (CA.ext (CA.sub (hS.cells (i := 0) rfl) 1) hx) rfl)) ?_
  refine OJ.st rfl rfl rfl (SR.fieldAddr tU_ok tI_ok rfl rfl rfl rfl rfl rfl) ?_
  refine OJ.es rfl rfl (Es.store tI_ok hS (i := 2) rfl rfl rfl (ad1 _ _) rfl rfl (vs := (ci .i16).enc a0.Grows) rfl rfl (one1 rfl) (Nat.le_of_ble_eq_true rfl) (cMeadow.enc (⟨(⟨a0.Grass, (⟨0, 0, 0⟩ : Meadow).Grows, (⟨0, 0, 0⟩ : Meadow).Most⟩ : Meadow).Grass, a0.Grows, (⟨a0.Grass, (⟨0, 0, 0⟩ : Meadow).Grows, (⟨0, 0, 0⟩ : Meadow).Most⟩ : Meadow).Most⟩ : Meadow)) rfl) ?_
  intro w1 hS
  refine OJ.nil (EJ.next ?_)
  refine CJ.seq ?_
  refine CJ.region ?_
  refine OJ.st rfl rfl rfl (SR.fieldAddr tU_ok tI_ok rfl rfl rfl rfl rfl rfl) ?_
  refine OJ.st rfl rfl rfl (SR.load rfl rfl (fun w' hx => ld1 tU_ok rfl rfl (CA.ext (CA.sub (hS.cells (i := 0) rfl) 2) hx) rfl)) ?_
  refine OJ.st rfl rfl rfl (SR.fieldAddr tU_ok tI_ok rfl rfl rfl rfl rfl rfl) ?_
  refine OJ.es rfl rfl (Es.store tI_ok hS (i := 2) rfl rfl rfl (ad1 _ _) rfl rfl (vs := (ci .i16).enc a0.Most) rfl rfl (one1 rfl) (Nat.le_of_ble_eq_true rfl) (cMeadow.enc (⟨(⟨(⟨a0.Grass, (⟨0, 0, 0⟩ : Meadow).Grows, (⟨0, 0, 0⟩ : Meadow).Most⟩ : Meadow).Grass, a0.Grows, (⟨a0.Grass, (⟨0, 0, 0⟩ : Meadow).Grows, (⟨0, 0, 0⟩ : Meadow).Most⟩ : Meadow).Most⟩ : Meadow).Grass, (⟨(⟨a0.Grass, (⟨0, 0, 0⟩ : Meadow).Grows, (⟨0, 0, 0⟩ : Meadow).Most⟩ : Meadow).Grass, a0.Grows, (⟨a0.Grass, (⟨0, 0, 0⟩ : Meadow).Grows, (⟨0, 0, 0⟩ : Meadow).Most⟩ : Meadow).Most⟩ : Meadow).Grows, a0.Most⟩ : Meadow)) rfl) ?_
  intro w1 hS
  refine OJ.nil (EJ.next ?_)
  refine CJ.seq ?_
  refine CJ.region ?_
  refine OJ.st rfl rfl rfl (SR.load rfl rfl (fun w' hx => ldE tU_ok tI_ok rfl rfl rfl (CA.ext (hS.cells (i := 2) rfl) hx) rfl)) ?_
  refine OJ.es rfl rfl (Es.store tI_ok hS (i := 1) rfl rfl rfl rfl rfl rfl (vs := cMeadow.enc (⟨(⟨(⟨a0.Grass, (⟨0, 0, 0⟩ : Meadow).Grows, (⟨0, 0, 0⟩ : Meadow).Most⟩ : Meadow).Grass, a0.Grows, (⟨a0.Grass, (⟨0, 0, 0⟩ : Meadow).Grows, (⟨0, 0, 0⟩ : Meadow).Most⟩ : Meadow).Most⟩ : Meadow).Grass, (⟨(⟨a0.Grass, (⟨0, 0, 0⟩ : Meadow).Grows, (⟨0, 0, 0⟩ : Meadow).Most⟩ : Meadow).Grass, a0.Grows, (⟨a0.Grass, (⟨0, 0, 0⟩ : Meadow).Grows, (⟨0, 0, 0⟩ : Meadow).Most⟩ : Meadow).Most⟩ : Meadow).Grows, a0.Most⟩ : Meadow)) rfl (cMeadow.len _) (cMeadow.one _) (Nat.le_of_ble_eq_true rfl) (cMeadow.enc (⟨(⟨(⟨a0.Grass, (⟨0, 0, 0⟩ : Meadow).Grows, (⟨0, 0, 0⟩ : Meadow).Most⟩ : Meadow).Grass, a0.Grows, (⟨a0.Grass, (⟨0, 0, 0⟩ : Meadow).Grows, (⟨0, 0, 0⟩ : Meadow).Most⟩ : Meadow).Most⟩ : Meadow).Grass, (⟨(⟨a0.Grass, (⟨0, 0, 0⟩ : Meadow).Grows, (⟨0, 0, 0⟩ : Meadow).Most⟩ : Meadow).Grass, a0.Grows, (⟨a0.Grass, (⟨0, 0, 0⟩ : Meadow).Grows, (⟨0, 0, 0⟩ : Meadow).Most⟩ : Meadow).Most⟩ : Meadow).Grows, a0.Most⟩ : Meadow)) rfl) ?_
  intro w1 hS
  refine OJ.nil (EJ.next ?_)
  refine CJ.ret (?_)
  obtain rfl := Option.some.inj H
  exact EJ.fin rfl (.cell rfl (ldE tU_ok tI_ok rfl rfl rfl (hS.cells (i := 1) rfl) rfl) .nil) ⟨rfl, hS.ext⟩

def laws_toMeadowS.l1 (a0 : List Meadow) : Nat → (List Meadow) → Int → Option (List Meadow)
  | 0, _, _ => none
  | k + 1, y4, y5 => if y5 < (a0.length : Int) then ((getI a0 y5).bind fun t6 => (laws_toMeadow.f t6).bind fun t7 => (getI y4 y5).bind fun t8 => laws_toMeadowS.l1 a0 k (y4.set y5.toNat t7) (IntKind.i64.wrap (y5 + 1))) else (some y4)
def laws_toMeadowS.f (k : Nat) (a0 : List Meadow) : Option (List Meadow) := (chk (0 ≤ (a0.length : Int) ∧ (a0.length : Int) ≤ 4294967296)).bind fun u1 => (laws_toMeadowS.l1 a0 k (List.replicate (a0.length : Int).toNat (⟨0, 0, 0⟩ : Meadow)) 0).bind fun y3 => some y3
theorem laws_toMeadowS.c (k : Nat) (w : World) (Aa0 : Option Addr) (ca0 : Nat) (a0 : List Meadow) (hr0 : Rd cMeadow w Aa0 a0) (hc0 : a0.length ≤ ca0) (r : List Meadow) (H : laws_toMeadowS.f k a0 = some r) :
    CV Try.prog 17 [.slice Aa0 a0.length ca0].toArray w fun v w' => ∃ (A0 : Option Addr) (c0 : Nat), v = .slice A0 r.length c0 ∧ St w no w' [rowC cMeadow A0 c0 57 r] [] := by
  have hS := ((St.init w no).param cMeadow Aa0 ca0 a0 hr0 hc0)
  unfold laws_toMeadowS.f at H
  refine CV.body Try.func17 rfl Try.ntmps17 rfl ?_
  refine CJ.seq ?_
  refine CJ.region ?_
  refine OJ.pures tU_ok 1 rfl ?_
  refine OJ.nil (EJ.next ?_)
  refine CJ.seq ?_
  refine CJ.region ?_
  refine OJ.pures tU_ok 2 rfl ?_
  obtain ⟨u1, hu1, H⟩ := pbind H
  refine OJ.ef rfl rfl rfl (Ef.make tU_ok tI_ok hS (C := cMeadow) rfl rfl rfl rfl rfl rfl rfl rfl (chk_some hu1) (⟨0, 0, 0⟩ : Meadow) rfl) ?_
  rintro _ w1 ⟨A2, rfl, hS⟩
  refine OJ.pures tU_ok 1 rfl ?_
  refine OJ.nil (EJ.next ?_)
  refine CJ.seq ?_
  refine CJ.seq ?_
  refine CJ.region ?_
  refine OJ.pures tU_ok 1 rfl ?_
  refine OJ.nil (EJ.next ?_)
  obtain ⟨j1, H, K1⟩ := pbind H
  refine CJ.cut1 (fun F w1 => ∃ (y3 : List Meadow) , (some y3 : Option (List Meadow)) = some j1 ∧ F = [(3, .slice A2 y3.length ((a0.length : Int).toNat))] ∧ St w no w1 [rowC cMeadow A2 ((a0.length : Int).toNat) 57 y3] [roC cMeadow Aa0 ca0 a0]) ?_ ?_
  · skip
    refine CJ.block ?_
    refine CJ.loop (fun k F w1 => ∃ (y4 : List Meadow) (y5 : Int), F = [(0, .slice Aa0 a0.length ca0), (3, .slice A2 y4.length ((a0.length : Int).toNat)), (4, .int .i64 y5)] ∧ St w no w1 [rowC cMeadow A2 ((a0.length : Int).toNat) 57 y4] [roC cMeadow Aa0 ca0 a0] ∧ laws_toMeadowS.l1 a0 k y4 y5 = some j1) k (F' := [(0, .slice Aa0 a0.length ca0), (3, .slice A2 (List.replicate (a0.length : Int).toNat (⟨0, 0, 0⟩ : Meadow)).length ((a0.length : Int).toNat)), (4, .int .i64 0)]) ⟨rfl, rfl, rfl, trivial⟩ ⟨(List.replicate (a0.length : Int).toNat (⟨0, 0, 0⟩ : Meadow)), 0, rfl, hS.pick [0] [0] rfl, H⟩ ?_
    rintro k F w1 ⟨y4, y5, rfl, hS, H⟩
    cases k with
    | zero => rw [laws_toMeadowS.l1] at H; cases H
    | succ k =>
      rw [laws_toMeadowS.l1] at H
      refine CJ.seq ?_
      refine CJ.seq ?_
      refine CJ.region ?_
      refine OJ.pures tU_ok 4 rfl ?_
      refine OJ.nil (EJ.next ?_)
      refine CJ.cond rfl (fun hb => ?_) (fun hb => ?_)
      · replace H := pif_t (of_decide_eq_true hb) H
        refine CJ.skip (EJ.next ?_)
        refine CJ.seq ?_
        refine CJ.block ?_
        refine CJ.region ?_
        refine OJ.pures tU_ok 4 rfl ?_
        obtain ⟨t6, ht6, H⟩ := pbind H
        obtain ⟨ad6, e6⟩ := (hS.rd' (i := 0) rfl).some' ht6
        refine OJ.st rfl rfl rfl (SR.idxS tU_ok tI_ok rfl rfl rfl rfl e6 rfl (getI_some ht6).1) ?_
        refine OJ.st rfl rfl rfl (SR.load rfl rfl (fun w' hx => ldE tU_ok tI_ok rfl rfl rfl (CA.ext ((hS.rd' (i := 0) rfl).at_ e6 ht6) hx) rfl)) ?_
        obtain ⟨t7, ht7, H⟩ := pbind H
        refine OJ.callF rfl rfl rfl rfl rfl hb48 rfl (laws_toMeadow.c _ t6 _ ht7) ?_
        rintro _ w1 ⟨rfl, hs⟩
        replace hS := hS.grow hs
        obtain ⟨t8, ht8, H⟩ := pbind H
        obtain ⟨ad8, e8⟩ := (hS.rd (i := 0) rfl).some' ht8
        refine OJ.st rfl rfl rfl (SR.idxS tU_ok tI_ok rfl rfl rfl rfl e8 rfl (getI_some ht8).1) ?_
        refine OJ.es rfl rfl (Es.storeR tI_ok hS (i := 0) (off := 0) rfl rfl ht8 e8 rfl rfl rfl rfl (vs := cMeadow.enc t7) rfl (cMeadow.len _) (cMeadow.one _) (Nat.le_of_ble_eq_true rfl) t7 rfl) ?_
        intro w1 hS
        refine OJ.as (t := 3) rfl (slL _ _ _ y5.toNat t7) ?_
        refine OJ.as (t := 14) rfl (slL _ _ _ y5.toNat t7) ?_
        refine OJ.nil (EJ.blk (EJ.next ?_))
        refine CJ.region ?_
        refine OJ.pures tU_ok 3 rfl ?_
        refine OJ.nil ?_
        exact EJ.round k (F' := [(0, .slice Aa0 a0.length ca0), (3, .slice A2 (y4.set y5.toNat t7).length ((a0.length : Int).toNat)), (4, .int .i64 (IntKind.i64.wrap (y5 + 1)))]) ⟨rfl, rfl, rfl, trivial⟩ (Nat.lt_succ_self _) ⟨(y4.set y5.toNat t7), (IntKind.i64.wrap (y5 + 1)), rfl, hS.pick [0] [0] rfl, H⟩
      · replace H := pif_f (of_decide_eq_false hb) H
        refine CJ.exit (EJ.skE (EJ.skE (EJ.hit (?_))))
        exact EJ.meet (F' := [(3, .slice A2 y4.length ((a0.length : Int).toNat))]) ⟨rfl, trivial⟩ ⟨y4, H, rfl, hS.pick [0] [0] rfl⟩
  · rintro F w1 ⟨y3, he, rfl, hS⟩
    obtain rfl := Option.some.inj he
    have H := K1
    refine EJ.next ?_
    refine CJ.seq ?_
    refine CJ.region ?_
    refine OJ.pures tU_ok 2 rfl ?_
    refine OJ.nil (EJ.next ?_)
    refine CJ.ret (?_)
    obtain rfl := Option.some.inj H
    exact EJ.fin rfl (.tmp rfl .nil) ⟨A2, ((a0.length : Int).toNat), rfl, hS.pick [0] [] rfl⟩

def spec_SameMeadows.l1 (a0 : List Meadow) (a1 : List Meadow) : Nat → Int → Option (Bool ⊕ Unit)
  | 0, _ => none
  | k + 1, y1 => if y1 < (a0.length : Int) then ((getI a0 y1).bind fun t2 => (getI a1 y1).bind fun t3 => if t2 ≠ t3 then (some (Sum.inl false)) else (spec_SameMeadows.l1 a0 a1 k (IntKind.i64.wrap (y1 + 1)))) else (some (Sum.inr ()))
def spec_SameMeadows.f (k : Nat) (a0 : List Meadow) (a1 : List Meadow) : Option Bool := if (a0.length : Int) ≠ (a1.length : Int) then (some false) else ((spec_SameMeadows.l1 a0 a1 k 0).bind fun s2 => match s2 with | .inl r => some r | .inr _ => some true)
theorem spec_SameMeadows.c (k : Nat) (w : World) (Aa0 : Option Addr) (ca0 : Nat) (a0 : List Meadow) (hr0 : Rd cMeadow w Aa0 a0) (hc0 : a0.length ≤ ca0) (Aa1 : Option Addr) (ca1 : Nat) (a1 : List Meadow) (hr1 : Rd cMeadow w Aa1 a1) (hc1 : a1.length ≤ ca1) (r : Bool) (H : spec_SameMeadows.f k a0 a1 = some r) :
    CV Try.prog 16 [.slice Aa0 a0.length ca0, .slice Aa1 a1.length ca1].toArray w fun v w' => v = .bool r ∧ Ext w w' := by
  have hS := (((St.init w no).param cMeadow Aa0 ca0 a0 hr0 hc0).param cMeadow Aa1 ca1 a1 hr1 hc1)
  unfold spec_SameMeadows.f at H
  refine CV.body Try.func16 rfl Try.ntmps16 rfl ?_
  refine CJ.seq ?_
  refine CJ.region ?_
  refine OJ.pures tU_ok 1 rfl ?_
  refine OJ.nil (EJ.next ?_)
  refine CJ.seq ?_
  refine CJ.seq ?_
  refine CJ.region ?_
  refine OJ.pures tU_ok 5 rfl ?_
  refine OJ.nil (EJ.next ?_)
  refine CJ.cond rfl (fun hb => ?_) (fun hb => ?_)
  · replace H := pif_t (of_decide_eq_true hb) H
    refine CJ.seq ?_
    refine CJ.region ?_
    refine OJ.pures tU_ok 1 rfl ?_
    refine OJ.nil (EJ.next ?_)
    refine CJ.ret (EJ.skR (?_))
    obtain rfl := Option.some.inj H
    exact EJ.fin rfl (.tmp rfl .nil) ⟨rfl, hS.ext⟩
  · replace H := pif_f (of_decide_eq_false hb) H
    refine CJ.skip (EJ.next ?_)
    refine CJ.seq ?_
    refine CJ.seq ?_
    refine CJ.region ?_
    refine OJ.pures tU_ok 1 rfl ?_
    refine OJ.nil (EJ.next ?_)
    obtain ⟨j2, H, K2⟩ := pbind H
    refine CJ.cut1 (fun F w1 => (some (Sum.inr ()) : Option (Bool ⊕ Unit)) = some j2 ∧ F = [] ∧ St w no w1 [] [roC cMeadow Aa0 ca0 a0, roC cMeadow Aa1 ca1 a1]) ?_ ?_
    · skip
      refine CJ.block ?_
      refine CJ.loop (fun k F w1 => ∃ (y1 : Int), F = [(0, .slice Aa0 a0.length ca0), (1, .slice Aa1 a1.length ca1), (5, .int .i64 y1)] ∧ St w no w1 [] [roC cMeadow Aa0 ca0 a0, roC cMeadow Aa1 ca1 a1] ∧ spec_SameMeadows.l1 a0 a1 k y1 = some j2) k (F' := [(0, .slice Aa0 a0.length ca0), (1, .slice Aa1 a1.length ca1), (5, .int .i64 0)]) ⟨rfl, rfl, rfl, trivial⟩ ⟨0, rfl, hS.pick [] [0, 1] rfl, H⟩ ?_
      rintro k F w1 ⟨y1, rfl, hS, H⟩
      cases k with
      | zero => rw [spec_SameMeadows.l1] at H; cases H
      | succ k =>
        rw [spec_SameMeadows.l1] at H
        refine CJ.seq ?_
        refine CJ.seq ?_
        refine CJ.region ?_
        refine OJ.pures tU_ok 4 rfl ?_
        refine OJ.nil (EJ.next ?_)
        refine CJ.cond rfl (fun hb => ?_) (fun hb => ?_)
        · replace H := pif_t (of_decide_eq_true hb) H
          refine CJ.skip (EJ.next ?_)
          refine CJ.seq ?_
          refine CJ.block ?_
          refine CJ.seq ?_
          refine CJ.draw [] [0, 1, 2, 3, 4, 5, 6, 7, 8] mixed (by kernel_rfl) hS fun w1 hS => ?_
          refine DJ.pures tU_ok 2 rfl ?_
          obtain ⟨t2, ht2, H⟩ := pbind H
          obtain ⟨ad2, e2⟩ := (hS.rd' (i := 0) rfl).some' ht2
          refine DJ.st rfl rfl rfl rfl rfl (SR.idxS tU_ok tI_ok rfl rfl rfl rfl e2 rfl (getI_some ht2).1) ?_
          refine DJ.st rfl rfl rfl rfl rfl (SR.load rfl rfl (fun w' hx => ldE tU_ok tI_ok rfl rfl rfl (CA.ext ((hS.rd' (i := 0) rfl).at_ e2 ht2) hx) rfl)) ?_
          refine DJ.pures tU_ok 2 rfl ?_
          obtain ⟨t3, ht3, H⟩ := pbind H
          obtain ⟨ad3, e3⟩ := (hS.rd' (i := 1) rfl).some' ht3
          refine DJ.st rfl rfl rfl rfl rfl (SR.idxS tU_ok tI_ok rfl rfl rfl rfl e3 rfl (getI_some ht3).1) ?_
          refine DJ.st rfl rfl rfl rfl rfl (SR.load rfl rfl (fun w' hx => ldE tU_ok tI_ok rfl rfl rfl (CA.ext ((hS.rd' (i := 1) rfl).at_ e3 ht3) hx) rfl)) ?_
          refine DJ.st rfl rfl rfl rfl rfl (SR.neS eqT57 eqG57 rfl rfl rfl (rfl : _ = (cMeadow.enc t2).toArray) (rfl : _ = (cMeadow.enc t3).toArray)) ?_
          refine DJ.nil (EJ.next ?_)
          refine CJ.cond rfl (fun hb => ?_) (fun hb => ?_)
          · replace H := pif_t (of_decide_eq_true hb) H
            refine CJ.seq ?_
            refine CJ.region ?_
            refine OJ.pures tU_ok 1 rfl ?_
            refine OJ.nil (EJ.next ?_)
            refine CJ.ret (EJ.bkR (EJ.skR (EJ.skR (EJ.bkR (EJ.skR (EJ.skR (?_)))))))
            first | (obtain rfl := Option.some.inj H; have H := K2) | (obtain ⟨q2, H2, e2⟩ := pbind H; obtain rfl := Option.some.inj e2; obtain rfl := Option.some.inj K2; have H := H2)
            obtain rfl := Option.some.inj H
            exact EJ.fin rfl (.tmp rfl .nil) ⟨rfl, hS.ext⟩
          · replace H := pif_f (of_decide_eq_false hb) H
            refine CJ.skip (EJ.blk (EJ.next ?_))
            refine CJ.region ?_
            refine OJ.pures tU_ok 3 rfl ?_
            refine OJ.nil ?_
            exact EJ.round k (F' := [(0, .slice Aa0 a0.length ca0), (1, .slice Aa1 a1.length ca1), (5, .int .i64 (IntKind.i64.wrap (y1 + 1)))]) ⟨rfl, rfl, rfl, trivial⟩ (Nat.lt_succ_self _) ⟨(IntKind.i64.wrap (y1 + 1)), rfl, hS.pick [] [0, 1] rfl, H⟩
        · replace H := pif_f (of_decide_eq_false hb) H
          refine CJ.exit (EJ.skE (EJ.skE (EJ.hit (?_))))
          exact EJ.meet (F' := []) trivial ⟨H, rfl, hS.pick [] [0, 1] rfl⟩
    · rintro F w1 ⟨he, rfl, hS⟩
      obtain rfl := Option.some.inj he
      have H := K2
      refine EJ.next ?_
      refine CJ.seq ?_
      refine CJ.region ?_
      refine OJ.pures tU_ok 1 rfl ?_
      refine OJ.nil (EJ.next ?_)
      refine CJ.ret (?_)
      obtain rfl := Option.some.inj H
      exact EJ.fin rfl (.tmp rfl .nil) ⟨rfl, hS.ext⟩

def slices_Equal_impl_Meadow_impl_Meadow.l1 (a0 : List Meadow) (a1 : List Meadow) : Nat → Int → Option (Bool ⊕ Unit)
  | 0, _ => none
  | k + 1, y1 => if y1 < (a0.length : Int) then ((getI a0 y1).bind fun t2 => (getI a1 y1).bind fun t3 => if t2 ≠ t3 then (some (Sum.inl false)) else (slices_Equal_impl_Meadow_impl_Meadow.l1 a0 a1 k (IntKind.i64.wrap (y1 + 1)))) else (some (Sum.inr ()))
def slices_Equal_impl_Meadow_impl_Meadow.f (k : Nat) (a0 : List Meadow) (a1 : List Meadow) : Option Bool := if (a0.length : Int) ≠ (a1.length : Int) then (some false) else ((slices_Equal_impl_Meadow_impl_Meadow.l1 a0 a1 k 0).bind fun s3 => match s3 with | .inl r => some r | .inr _ => some true)
theorem slices_Equal_impl_Meadow_impl_Meadow.c (k : Nat) (w : World) (Aa0 : Option Addr) (ca0 : Nat) (a0 : List Meadow) (hr0 : Rd cMeadow w Aa0 a0) (hc0 : a0.length ≤ ca0) (Aa1 : Option Addr) (ca1 : Nat) (a1 : List Meadow) (hr1 : Rd cMeadow w Aa1 a1) (hc1 : a1.length ≤ ca1) (r : Bool) (H : slices_Equal_impl_Meadow_impl_Meadow.f k a0 a1 = some r) :
    CV Try.prog 49 [.slice Aa0 a0.length ca0, .slice Aa1 a1.length ca1].toArray w fun v w' => v = .bool r ∧ Ext w w' := by
  have hS := (((St.init w no).param cMeadow Aa0 ca0 a0 hr0 hc0).param cMeadow Aa1 ca1 a1 hr1 hc1)
  unfold slices_Equal_impl_Meadow_impl_Meadow.f at H
  refine CV.body Try.func49 rfl Try.ntmps49 rfl ?_
  refine CJ.seq ?_
  refine CJ.region ?_
  refine OJ.pures tU_ok 1 rfl ?_
  refine OJ.nil (EJ.next ?_)
  refine CJ.seq ?_
  refine CJ.seq ?_
  refine CJ.region ?_
  refine OJ.pures tU_ok 5 rfl ?_
  refine OJ.nil (EJ.next ?_)
  refine CJ.cond rfl (fun hb => ?_) (fun hb => ?_)
  · replace H := pif_t (of_decide_eq_true hb) H
    refine CJ.seq ?_
    refine CJ.region ?_
    refine OJ.pures tU_ok 1 rfl ?_
    refine OJ.nil (EJ.next ?_)
    refine CJ.ret (EJ.skR (?_))
    obtain rfl := Option.some.inj H
    exact EJ.fin rfl (.tmp rfl .nil) ⟨rfl, hS.ext⟩
  · replace H := pif_f (of_decide_eq_false hb) H
    refine CJ.skip (EJ.next ?_)
    refine CJ.seq ?_
    refine CJ.seq ?_
    refine CJ.region ?_
    refine OJ.pures tU_ok 3 rfl ?_
    refine OJ.nil (EJ.next ?_)
    obtain ⟨j3, H, K3⟩ := pbind H
    refine CJ.cut1 (fun F w1 => (some (Sum.inr ()) : Option (Bool ⊕ Unit)) = some j3 ∧ F = [] ∧ St w no w1 [] [roC cMeadow Aa0 ca0 a0, roC cMeadow Aa1 ca1 a1]) ?_ ?_
    · skip
      refine CJ.block ?_
      refine CJ.loop (fun k F w1 => ∃ (y1 : Int), F = [(0, .slice Aa0 a0.length ca0), (1, .slice Aa1 a1.length ca1), (12, .int .i64 (a0.length : Int)), (13, .int .i64 y1)] ∧ St w no w1 [] [roC cMeadow Aa0 ca0 a0, roC cMeadow Aa1 ca1 a1] ∧ slices_Equal_impl_Meadow_impl_Meadow.l1 a0 a1 k y1 = some j3) k (F' := [(0, .slice Aa0 a0.length ca0), (1, .slice Aa1 a1.length ca1), (12, .int .i64 (a0.length : Int)), (13, .int .i64 0)]) ⟨rfl, rfl, rfl, rfl, trivial⟩ ⟨0, rfl, hS.pick [] [0, 1] rfl, H⟩ ?_
      rintro k F w1 ⟨y1, rfl, hS, H⟩
      cases k with
      | zero => rw [slices_Equal_impl_Meadow_impl_Meadow.l1] at H; cases H
      | succ k =>
        rw [slices_Equal_impl_Meadow_impl_Meadow.l1] at H
        refine CJ.seq ?_
        refine CJ.region ?_
        refine OJ.pures tU_ok 1 rfl ?_
        refine OJ.nil (EJ.next ?_)
        refine CJ.seq ?_
        refine CJ.cond rfl (fun hb => ?_) (fun hb => ?_)
        · replace H := pif_t (of_decide_eq_true hb) H
          refine CJ.skip (EJ.next ?_)
          refine CJ.seq ?_
          refine CJ.block ?_
          refine CJ.seq ?_
          refine CJ.region ?_
          refine OJ.pures tU_ok 2 rfl ?_
          refine OJ.nil (EJ.next ?_)
          refine CJ.seq ?_
          refine CJ.draw [] [0, 1, 2, 3, 4, 5, 6, 7, 8] mixed (by kernel_rfl) hS fun w1 hS => ?_
          refine DJ.pures tU_ok 2 rfl ?_
          obtain ⟨t2, ht2, H⟩ := pbind H
          obtain ⟨ad2, e2⟩ := (hS.rd' (i := 0) rfl).some' ht2
          refine DJ.st rfl rfl rfl rfl rfl (SR.idxS tU_ok tI_ok rfl rfl rfl rfl e2 rfl (getI_some ht2).1) ?_
          refine DJ.st rfl rfl rfl rfl rfl (SR.load rfl rfl (fun w' hx => ldE tU_ok tI_ok rfl rfl rfl (CA.ext ((hS.rd' (i := 0) rfl).at_ e2 ht2) hx) rfl)) ?_
          refine DJ.pures tU_ok 2 rfl ?_
          obtain ⟨t3, ht3, H⟩ := pbind H
          obtain ⟨ad3, e3⟩ := (hS.rd' (i := 1) rfl).some' ht3
          refine DJ.st rfl rfl rfl rfl rfl (SR.idxS tU_ok tI_ok rfl rfl rfl rfl e3 rfl (getI_some ht3).1) ?_
          refine DJ.st rfl rfl rfl rfl rfl (SR.load rfl rfl (fun w' hx => ldE tU_ok tI_ok rfl rfl rfl (CA.ext ((hS.rd' (i := 1) rfl).at_ e3 ht3) hx) rfl)) ?_
          refine DJ.st rfl rfl rfl rfl rfl (SR.neS eqT57 eqG57 rfl rfl rfl (rfl : _ = (cMeadow.enc t2).toArray) (rfl : _ = (cMeadow.enc t3).toArray)) ?_
          refine DJ.nil (EJ.next ?_)
          refine CJ.cond rfl (fun hb => ?_) (fun hb => ?_)
          · replace H := pif_t (of_decide_eq_true hb) H
            refine CJ.seq ?_
            refine CJ.region ?_
            refine OJ.pures tU_ok 1 rfl ?_
            refine OJ.nil (EJ.next ?_)
            refine CJ.ret (EJ.bkR (EJ.skR (EJ.skR (EJ.bkR (EJ.skR (EJ.skR (?_)))))))
            first | (obtain rfl := Option.some.inj H; have H := K3) | (obtain ⟨q3, H2, e3⟩ := pbind H; obtain rfl := Option.some.inj e3; obtain rfl := Option.some.inj K3; have H := H2)
            obtain rfl := Option.some.inj H
            exact EJ.fin rfl (.tmp rfl .nil) ⟨rfl, hS.ext⟩
          · replace H := pif_f (of_decide_eq_false hb) H
            refine CJ.skip (EJ.blk (EJ.next ?_))
            refine CJ.region ?_
            refine OJ.pures tU_ok 2 rfl ?_
            refine OJ.nil ?_
            exact EJ.round k (F' := [(0, .slice Aa0 a0.length ca0), (1, .slice Aa1 a1.length ca1), (12, .int .i64 (a0.length : Int)), (13, .int .i64 (IntKind.i64.wrap (y1 + 1)))]) ⟨rfl, rfl, rfl, rfl, trivial⟩ (Nat.lt_succ_self _) ⟨(IntKind.i64.wrap (y1 + 1)), rfl, hS.pick [] [0, 1] rfl, H⟩
        · replace H := pif_f (of_decide_eq_false hb) H
          refine CJ.exit (EJ.skE (EJ.skE (EJ.hit (?_))))
          exact EJ.meet (F' := []) trivial ⟨H, rfl, hS.pick [] [0, 1] rfl⟩
    · rintro F w1 ⟨he, rfl, hS⟩
      obtain rfl := Option.some.inj he
      have H := K3
      refine EJ.next ?_
      refine CJ.seq ?_
      refine CJ.region ?_
      refine OJ.pures tU_ok 1 rfl ?_
      refine OJ.nil (EJ.next ?_)
      refine CJ.ret (?_)
      obtain rfl := Option.some.inj H
      exact EJ.fin rfl (.tmp rfl .nil) ⟨rfl, hS.ext⟩

def impl_SameMeadows.f (k : Nat) (a0 : List Meadow) (a1 : List Meadow) : Option Bool := (slices_Equal_impl_Meadow_impl_Meadow.f k a0 a1).bind fun t1 => some t1
theorem impl_SameMeadows.c (k : Nat) (w : World) (Aa0 : Option Addr) (ca0 : Nat) (a0 : List Meadow) (hr0 : Rd cMeadow w Aa0 a0) (hc0 : a0.length ≤ ca0) (Aa1 : Option Addr) (ca1 : Nat) (a1 : List Meadow) (hr1 : Rd cMeadow w Aa1 a1) (hc1 : a1.length ≤ ca1) (r : Bool) (H : impl_SameMeadows.f k a0 a1 = some r) :
    CV Try.prog 18 [.slice Aa0 a0.length ca0, .slice Aa1 a1.length ca1].toArray w fun v w' => v = .bool r ∧ Ext w w' := by
  have hS := (((St.init w no).param cMeadow Aa0 ca0 a0 hr0 hc0).param cMeadow Aa1 ca1 a1 hr1 hc1)
  unfold impl_SameMeadows.f at H
  refine CV.body Try.func18 rfl Try.ntmps18 rfl ?_
  refine CJ.seq ?_
  refine CJ.region ?_
  refine OJ.pures tU_ok 1 rfl ?_
  refine OJ.nil (EJ.next ?_)
  refine CJ.seq ?_
  refine CJ.region ?_
  refine OJ.pures tU_ok 2 rfl ?_
  obtain ⟨t1, ht1, H⟩ := pbind H
  refine OJ.callF rfl rfl rfl rfl rfl hb49 rfl (slices_Equal_impl_Meadow_impl_Meadow.c k _ Aa0 ca0 a0 (hS.rd' (i := 0) rfl) (hS.le' (i := 0) rfl) Aa1 ca1 a1 (hS.rd' (i := 1) rfl) (hS.le' (i := 1) rfl) _ ht1) ?_
  rintro _ w1 ⟨rfl, hs⟩
  replace hS := hS.grow hs
  refine OJ.pures tU_ok 1 rfl ?_
  refine OJ.nil (EJ.next ?_)
  refine CJ.ret (?_)
  obtain rfl := Option.some.inj H
  exact EJ.fin rfl (.tmp rfl .nil) ⟨rfl, hS.ext⟩

def laws_eqMeadow.f (a0 : Meadow) (a1 : Meadow) : Option Bool := if a0.Grass ≠ a1.Grass then (some false) else (if a0.Grows ≠ a1.Grows then (some false) else (if a0.Most ≠ a1.Most then (some false) else (some true)))
theorem laws_eqMeadow.c (w : World) (a0 : Meadow) (a1 : Meadow) (r : Bool) (H : laws_eqMeadow.f a0 a1 = some r) :
    CV Try.prog 50 [.agg (cMeadow.enc a0).toArray, .agg (cMeadow.enc a1).toArray].toArray w fun v w' => v = .bool r ∧ Ext w w' := by
  have hS := (St.init w no)
  unfold laws_eqMeadow.f at H
  refine CV.body Try.func50 rfl Try.ntmps50 rfl ?_
  refine CJ.seq ?_
  refine CJ.region ?_
  refine OJ.ef rfl rfl rfl (Ef.box hS rfl rfl (cMeadow.enc a0) rfl) ?_
  rintro _ w1 ⟨b1, rfl, hS⟩
  refine OJ.ef rfl rfl rfl (Ef.box hS rfl rfl (cMeadow.enc a1) rfl) ?_
  rintro _ w1 ⟨b2, rfl, hS⟩
  refine OJ.pures tU_ok 1 rfl ?_
  refine OJ.nil (EJ.next ?_)
  refine CJ.seq ?_
  refine CJ.seq ?_
  refine CJ.region ?_
  refine OJ.st rfl rfl rfl (SR.fieldAddr tU_ok tI_ok rfl rfl rfl rfl rfl rfl) ?_
  refine OJ.st rfl rfl rfl (SR.load rfl rfl (fun w' hx => ld1 tU_ok rfl rfl (CA.ext (CA.sub (hS.cells (i := 0) rfl) 0) hx) rfl)) ?_
  refine OJ.st rfl rfl rfl (SR.fieldAddr tU_ok tI_ok rfl rfl rfl rfl rfl rfl) ?_
  refine OJ.st rfl rfl rfl (SR.load rfl rfl (fun w' hx => ld1 tU_ok rfl rfl (CA.ext (CA.sub (hS.cells (i := 1) rfl) 0) hx) rfl)) ?_
  refine OJ.pures tU_ok 1 rfl ?_
  refine OJ.nil (EJ.next ?_)
  refine CJ.cond rfl (fun hb => ?_) (fun hb => ?_)
  · replace H := pif_t (of_decide_eq_true hb) H
    refine CJ.seq ?_
    refine CJ.region ?_
    refine OJ.pures tU_ok 1 rfl ?_
    refine OJ.nil (EJ.next ?_)
    refine CJ.ret (EJ.skR (?_))
    obtain rfl := Option.some.inj H
    exact EJ.fin rfl (.tmp rfl .nil) ⟨rfl, hS.ext⟩
  · replace H := pif_f (of_decide_eq_false hb) H
    refine CJ.skip (EJ.next ?_)
    refine CJ.seq ?_
    refine CJ.seq ?_
    refine CJ.region ?_
    refine OJ.st rfl rfl rfl (SR.fieldAddr tU_ok tI_ok rfl rfl rfl rfl rfl rfl) ?_
    refine OJ.st rfl rfl rfl (SR.load rfl rfl (fun w' hx => ld1 tU_ok rfl rfl (CA.ext (CA.sub (hS.cells (i := 0) rfl) 1) hx) rfl)) ?_
    refine OJ.st rfl rfl rfl (SR.fieldAddr tU_ok tI_ok rfl rfl rfl rfl rfl rfl) ?_
    refine OJ.st rfl rfl rfl (SR.load rfl rfl (fun w' hx => ld1 tU_ok rfl rfl (CA.ext (CA.sub (hS.cells (i := 1) rfl) 1) hx) rfl)) ?_
    refine OJ.pures tU_ok 1 rfl ?_
    refine OJ.nil (EJ.next ?_)
    refine CJ.cond rfl (fun hb => ?_) (fun hb => ?_)
    · replace H := pif_t (of_decide_eq_true hb) H
      refine CJ.seq ?_
      refine CJ.region ?_
      refine OJ.pures tU_ok 1 rfl ?_
      refine OJ.nil (EJ.next ?_)
      refine CJ.ret (EJ.skR (?_))
      obtain rfl := Option.some.inj H
      exact EJ.fin rfl (.tmp rfl .nil) ⟨rfl, hS.ext⟩
    · replace H := pif_f (of_decide_eq_false hb) H
      refine CJ.skip (EJ.next ?_)
      refine CJ.seq ?_
      refine CJ.seq ?_
      refine CJ.region ?_
      refine OJ.st rfl rfl rfl (SR.fieldAddr tU_ok tI_ok rfl rfl rfl rfl rfl rfl) ?_
      refine OJ.st rfl rfl rfl (SR.load rfl rfl (fun w' hx => ld1 tU_ok rfl rfl (CA.ext (CA.sub (hS.cells (i := 0) rfl) 2) hx) rfl)) ?_
      refine OJ.st rfl rfl rfl (SR.fieldAddr tU_ok tI_ok rfl rfl rfl rfl rfl rfl) ?_
      refine OJ.st rfl rfl rfl (SR.load rfl rfl (fun w' hx => ld1 tU_ok rfl rfl (CA.ext (CA.sub (hS.cells (i := 1) rfl) 2) hx) rfl)) ?_
      refine OJ.pures tU_ok 1 rfl ?_
      refine OJ.nil (EJ.next ?_)
      refine CJ.cond rfl (fun hb => ?_) (fun hb => ?_)
      · replace H := pif_t (of_decide_eq_true hb) H
        refine CJ.seq ?_
        refine CJ.region ?_
        refine OJ.pures tU_ok 1 rfl ?_
        refine OJ.nil (EJ.next ?_)
        refine CJ.ret (EJ.skR (?_))
        obtain rfl := Option.some.inj H
        exact EJ.fin rfl (.tmp rfl .nil) ⟨rfl, hS.ext⟩
      · replace H := pif_f (of_decide_eq_false hb) H
        refine CJ.skip (EJ.next ?_)
        refine CJ.seq ?_
        refine CJ.region ?_
        refine OJ.pures tU_ok 1 rfl ?_
        refine OJ.nil (EJ.next ?_)
        refine CJ.ret (?_)
        obtain rfl := Option.some.inj H
        exact EJ.fin rfl (.tmp rfl .nil) ⟨rfl, hS.ext⟩

def laws_eqMeadowS.l1 (a0 : List Meadow) (a1 : List Meadow) : Nat → Int → Option (Bool ⊕ Unit)
  | 0, _ => none
  | k + 1, y1 => if y1 < (a0.length : Int) then ((getI a0 y1).bind fun t2 => (getI a1 y1).bind fun t3 => (laws_eqMeadow.f t2 t3).bind fun t4 => if (!t4) = true then (some (Sum.inl false)) else (laws_eqMeadowS.l1 a0 a1 k (IntKind.i64.wrap (y1 + 1)))) else (some (Sum.inr ()))
def laws_eqMeadowS.f (k : Nat) (a0 : List Meadow) (a1 : List Meadow) : Option Bool := if (a0.length : Int) ≠ (a1.length : Int) then (some false) else ((laws_eqMeadowS.l1 a0 a1 k 0).bind fun s4 => match s4 with | .inl r => some r | .inr _ => some true)
theorem laws_eqMeadowS.c (k : Nat) (w : World) (Aa0 : Option Addr) (ca0 : Nat) (a0 : List Meadow) (hr0 : Rd cMeadow w Aa0 a0) (hc0 : a0.length ≤ ca0) (Aa1 : Option Addr) (ca1 : Nat) (a1 : List Meadow) (hr1 : Rd cMeadow w Aa1 a1) (hc1 : a1.length ≤ ca1) (r : Bool) (H : laws_eqMeadowS.f k a0 a1 = some r) :
    CV Try.prog 19 [.slice Aa0 a0.length ca0, .slice Aa1 a1.length ca1].toArray w fun v w' => v = .bool r ∧ Ext w w' := by
  have hS := (((St.init w no).param cMeadow Aa0 ca0 a0 hr0 hc0).param cMeadow Aa1 ca1 a1 hr1 hc1)
  unfold laws_eqMeadowS.f at H
  refine CV.body Try.func19 rfl Try.ntmps19 rfl ?_
  refine CJ.seq ?_
  refine CJ.region ?_
  refine OJ.pures tU_ok 1 rfl ?_
  refine OJ.nil (EJ.next ?_)
  refine CJ.seq ?_
  refine CJ.seq ?_
  refine CJ.region ?_
  refine OJ.pures tU_ok 5 rfl ?_
  refine OJ.nil (EJ.next ?_)
  refine CJ.cond rfl (fun hb => ?_) (fun hb => ?_)
  · replace H := pif_t (of_decide_eq_true hb) H
    refine CJ.seq ?_
    refine CJ.region ?_
    refine OJ.pures tU_ok 1 rfl ?_
    refine OJ.nil (EJ.next ?_)
    refine CJ.ret (EJ.skR (?_))
    obtain rfl := Option.some.inj H
    exact EJ.fin rfl (.tmp rfl .nil) ⟨rfl, hS.ext⟩
  · replace H := pif_f (of_decide_eq_false hb) H
    refine CJ.skip (EJ.next ?_)
    refine CJ.seq ?_
    refine CJ.seq ?_
    refine CJ.region ?_
    refine OJ.pures tU_ok 1 rfl ?_
    refine OJ.nil (EJ.next ?_)
    obtain ⟨j4, H, K4⟩ := pbind H
    refine CJ.cut1 (fun F w1 => (some (Sum.inr ()) : Option (Bool ⊕ Unit)) = some j4 ∧ F = [] ∧ St w no w1 [] [roC cMeadow Aa0 ca0 a0, roC cMeadow Aa1 ca1 a1]) ?_ ?_
    · skip
      refine CJ.block ?_
      refine CJ.loop (fun k F w1 => ∃ (y1 : Int), F = [(0, .slice Aa0 a0.length ca0), (1, .slice Aa1 a1.length ca1), (5, .int .i64 y1)] ∧ St w no w1 [] [roC cMeadow Aa0 ca0 a0, roC cMeadow Aa1 ca1 a1] ∧ laws_eqMeadowS.l1 a0 a1 k y1 = some j4) k (F' := [(0, .slice Aa0 a0.length ca0), (1, .slice Aa1 a1.length ca1), (5, .int .i64 0)]) ⟨rfl, rfl, rfl, trivial⟩ ⟨0, rfl, hS.pick [] [0, 1] rfl, H⟩ ?_
      rintro k F w1 ⟨y1, rfl, hS, H⟩
      cases k with
      | zero => rw [laws_eqMeadowS.l1] at H; cases H
      | succ k =>
        rw [laws_eqMeadowS.l1] at H
        refine CJ.seq ?_
        refine CJ.seq ?_
        refine CJ.region ?_
        refine OJ.pures tU_ok 4 rfl ?_
        refine OJ.nil (EJ.next ?_)
        refine CJ.cond rfl (fun hb => ?_) (fun hb => ?_)
        · replace H := pif_t (of_decide_eq_true hb) H
          refine CJ.skip (EJ.next ?_)
          refine CJ.seq ?_
          refine CJ.block ?_
          refine CJ.seq ?_
          refine CJ.draw [] [0, 1, 2, 3, 4, 5, 6, 7, 8, 9] mixed (by kernel_rfl) hS fun w1 hS => ?_
          refine DJ.pures tU_ok 2 rfl ?_
          obtain ⟨t2, ht2, H⟩ := pbind H
          obtain ⟨ad2, e2⟩ := (hS.rd' (i := 0) rfl).some' ht2
          refine DJ.st rfl rfl rfl rfl rfl (SR.idxS tU_ok tI_ok rfl rfl rfl rfl e2 rfl (getI_some ht2).1) ?_
          refine DJ.st rfl rfl rfl rfl rfl (SR.load rfl rfl (fun w' hx => ldE tU_ok tI_ok rfl rfl rfl (CA.ext ((hS.rd' (i := 0) rfl).at_ e2 ht2) hx) rfl)) ?_
          refine DJ.pures tU_ok 2 rfl ?_
          obtain ⟨t3, ht3, H⟩ := pbind H
          obtain ⟨ad3, e3⟩ := (hS.rd' (i := 1) rfl).some' ht3
          refine DJ.st rfl rfl rfl rfl rfl (SR.idxS tU_ok tI_ok rfl rfl rfl rfl e3 rfl (getI_some ht3).1) ?_
          refine DJ.st rfl rfl rfl rfl rfl (SR.load rfl rfl (fun w' hx => ldE tU_ok tI_ok rfl rfl rfl (CA.ext ((hS.rd' (i := 1) rfl).at_ e3 ht3) hx) rfl)) ?_
          obtain ⟨t4, ht4, H⟩ := pbind H
          refine DJ.callF rfl rfl rfl rfl rfl rfl rfl hb50 rfl (laws_eqMeadow.c _ t2 t3 _ ht4) (by rintro v w' ⟨rfl, hs⟩; exact hs) ?_
          rintro _ w1 ⟨rfl, hs⟩
          replace hS := hS.grow hs
          refine DJ.pures tU_ok 1 rfl ?_
          refine DJ.nil (EJ.next ?_)
          refine CJ.cond rfl (fun hb => ?_) (fun hb => ?_)
          · replace H := pif_t hb H
            refine CJ.seq ?_
            refine CJ.region ?_
            refine OJ.pures tU_ok 1 rfl ?_
            refine OJ.nil (EJ.next ?_)
            refine CJ.ret (EJ.bkR (EJ.skR (EJ.skR (EJ.bkR (EJ.skR (EJ.skR (?_)))))))
            first | (obtain rfl := Option.some.inj H; have H := K4) | (obtain ⟨q4, H2, e4⟩ := pbind H; obtain rfl := Option.some.inj e4; obtain rfl := Option.some.inj K4; have H := H2)
            obtain rfl := Option.some.inj H
            exact EJ.fin rfl (.tmp rfl .nil) ⟨rfl, hS.ext⟩
          · replace H := pifb_f hb H
            refine CJ.skip (EJ.blk (EJ.next ?_))
            refine CJ.region ?_
            refine OJ.pures tU_ok 3 rfl ?_
            refine OJ.nil ?_
            exact EJ.round k (F' := [(0, .slice Aa0 a0.length ca0), (1, .slice Aa1 a1.length ca1), (5, .int .i64 (IntKind.i64.wrap (y1 + 1)))]) ⟨rfl, rfl, rfl, trivial⟩ (Nat.lt_succ_self _) ⟨(IntKind.i64.wrap (y1 + 1)), rfl, hS.pick [] [0, 1] rfl, H⟩
        · replace H := pif_f (of_decide_eq_false hb) H
          refine CJ.exit (EJ.skE (EJ.skE (EJ.hit (?_))))
          exact EJ.meet (F' := []) trivial ⟨H, rfl, hS.pick [] [0, 1] rfl⟩
    · rintro F w1 ⟨he, rfl, hS⟩
      obtain rfl := Option.some.inj he
      have H := K4
      refine EJ.next ?_
      refine CJ.seq ?_
      refine CJ.region ?_
      refine OJ.pures tU_ok 1 rfl ?_
      refine OJ.nil (EJ.next ?_)
      refine CJ.ret (?_)
      obtain rfl := Option.some.inj H
      exact EJ.fin rfl (.tmp rfl .nil) ⟨rfl, hS.ext⟩

def laws_FnExactSameMeadows.f (k : Nat) (a0 : List Meadow) (a1 : List Meadow) : Option Bool := (laws_szMeadowS.f a0 1048576).bind fun t1 => if t1 < 0 then (some true) else ((laws_szMeadowS.f a1 t1).bind fun t2 => if t2 < 0 then (some true) else ((laws_toMeadowS.f k a0).bind fun t3 => (laws_toMeadowS.f k a1).bind fun t6 => (spec_SameMeadows.f k t3 t6).bind fun t9 => (laws_toMeadowS.f k a0).bind fun t10 => (laws_toMeadowS.f k a1).bind fun t13 => (impl_SameMeadows.f k t10 t13).bind fun t16 => if t16 ≠ t9 then (some false) else ((laws_toMeadowS.f k a0).bind fun t17 => (laws_eqMeadowS.f k t10 t17).bind fun t20 => if (!t20) = true then (some false) else ((laws_toMeadowS.f k a1).bind fun t21 => (laws_eqMeadowS.f k t13 t21).bind fun t24 => if (!t24) = true then (some false) else (some true)))))
theorem laws_FnExactSameMeadows.c (k : Nat) (w : World) (Aa0 : Option Addr) (ca0 : Nat) (a0 : List Meadow) (hr0 : Rd cMeadow w Aa0 a0) (hc0 : a0.length ≤ ca0) (Aa1 : Option Addr) (ca1 : Nat) (a1 : List Meadow) (hr1 : Rd cMeadow w Aa1 a1) (hc1 : a1.length ≤ ca1) (r : Bool) (H : laws_FnExactSameMeadows.f k a0 a1 = some r) :
    CV Try.prog 3 [.slice Aa0 a0.length ca0, .slice Aa1 a1.length ca1].toArray w fun v w' => v = .bool r ∧ Ext w w' := by
  have hS := (((St.init w no).param cMeadow Aa0 ca0 a0 hr0 hc0).param cMeadow Aa1 ca1 a1 hr1 hc1)
  unfold laws_FnExactSameMeadows.f at H
  refine CV.body Try.func3 rfl Try.ntmps3 rfl ?_
  refine CJ.seq ?_
  refine CJ.region ?_
  refine OJ.pures tU_ok 1 rfl ?_
  refine OJ.nil (EJ.next ?_)
  refine CJ.seq ?_
  refine CJ.region ?_
  refine OJ.pures tU_ok 1 rfl ?_
  refine OJ.nil (EJ.next ?_)
  refine CJ.seq ?_
  refine CJ.region ?_
  refine OJ.pures tU_ok 2 rfl ?_
  obtain ⟨t1, ht1, H⟩ := pbind H
  refine OJ.callF rfl rfl rfl rfl rfl hb15 rfl (laws_szMeadowS.c _ Aa0 ca0 a0 (hS.rd' (i := 0) rfl) (hS.le' (i := 0) rfl) 1048576 _ ht1) ?_
  rintro _ w1 ⟨rfl, hs⟩
  replace hS := hS.grow hs
  refine OJ.pures tU_ok 1 rfl ?_
  refine OJ.nil (EJ.next ?_)
  refine CJ.seq ?_
  refine CJ.seq ?_
  refine CJ.region ?_
  refine OJ.pures tU_ok 2 rfl ?_
  refine OJ.nil (EJ.next ?_)
  refine CJ.cond rfl (fun hb => ?_) (fun hb => ?_)
  · replace H := pif_t (of_decide_eq_true hb) H
    refine CJ.seq ?_
    refine CJ.region ?_
    refine OJ.pures tU_ok 1 rfl ?_
    refine OJ.nil (EJ.next ?_)
    refine CJ.ret (EJ.skR (?_))
    obtain rfl := Option.some.inj H
    exact EJ.fin rfl (.tmp rfl .nil) ⟨rfl, hS.ext⟩
  · replace H := pif_f (of_decide_eq_false hb) H
    refine CJ.skip (EJ.next ?_)
    refine CJ.seq ?_
    refine CJ.region ?_
    refine OJ.pures tU_ok 2 rfl ?_
    obtain ⟨t2, ht2, H⟩ := pbind H
    refine OJ.callF rfl rfl rfl rfl rfl hb15 rfl (laws_szMeadowS.c _ Aa1 ca1 a1 (hS.rd' (i := 1) rfl) (hS.le' (i := 1) rfl) t1 _ ht2) ?_
    rintro _ w1 ⟨rfl, hs⟩
    replace hS := hS.grow hs
    refine OJ.pures tU_ok 1 rfl ?_
    refine OJ.nil (EJ.next ?_)
    refine CJ.seq ?_
    refine CJ.seq ?_
    refine CJ.region ?_
    refine OJ.pures tU_ok 2 rfl ?_
    refine OJ.nil (EJ.next ?_)
    refine CJ.cond rfl (fun hb => ?_) (fun hb => ?_)
    · replace H := pif_t (of_decide_eq_true hb) H
      refine CJ.seq ?_
      refine CJ.region ?_
      refine OJ.pures tU_ok 1 rfl ?_
      refine OJ.nil (EJ.next ?_)
      refine CJ.ret (EJ.skR (?_))
      obtain rfl := Option.some.inj H
      exact EJ.fin rfl (.tmp rfl .nil) ⟨rfl, hS.ext⟩
    · replace H := pif_f (of_decide_eq_false hb) H
      refine CJ.skip (EJ.next ?_)
      refine CJ.seq ?_
      refine CJ.region ?_
      refine OJ.pures tU_ok 1 rfl ?_
      obtain ⟨t3, ht3, H⟩ := pbind H
      refine OJ.callF rfl rfl rfl rfl rfl hb17 rfl (laws_toMeadowS.c k _ Aa0 ca0 a0 (hS.rd' (i := 0) rfl) (hS.le' (i := 0) rfl) _ ht3) ?_
      rintro _ w1 ⟨A4, c5, rfl, hs⟩
      replace hS := hS.addN hs
      refine OJ.pures tU_ok 1 rfl ?_
      obtain ⟨t6, ht6, H⟩ := pbind H
      refine OJ.callF rfl rfl rfl rfl rfl hb17 rfl (laws_toMeadowS.c k _ Aa1 ca1 a1 (hS.rd' (i := 1) rfl) (hS.le' (i := 1) rfl) _ ht6) ?_
      rintro _ w1 ⟨A7, c8, rfl, hs⟩
      replace hS := hS.addN hs
      obtain ⟨t9, ht9, H⟩ := pbind H
      refine OJ.callF rfl rfl rfl rfl rfl hb16 rfl (spec_SameMeadows.c k _ A4 c5 t3 (hS.rd (i := 0) rfl) (hS.le (i := 0) rfl) A7 c8 t6 (hS.rd (i := 1) rfl) (hS.le (i := 1) rfl) _ ht9) ?_
      rintro _ w1 ⟨rfl, hs⟩
      replace hS := hS.grow hs
      refine OJ.pures tU_ok 1 rfl ?_
      refine OJ.nil (EJ.next ?_)
      refine CJ.seq ?_
      refine CJ.region ?_
      refine OJ.pures tU_ok 1 rfl ?_
      obtain ⟨t10, ht10, H⟩ := pbind H
      refine OJ.callF rfl rfl rfl rfl rfl hb17 rfl (laws_toMeadowS.c k _ Aa0 ca0 a0 (hS.rd' (i := 0) rfl) (hS.le' (i := 0) rfl) _ ht10) ?_
      rintro _ w1 ⟨A11, c12, rfl, hs⟩
      replace hS := hS.addN hs
      refine OJ.pures tU_ok 1 rfl ?_
      refine OJ.nil (EJ.next ?_)
      refine CJ.seq ?_
      refine CJ.region ?_
      refine OJ.pures tU_ok 1 rfl ?_
      obtain ⟨t13, ht13, H⟩ := pbind H
      refine OJ.callF rfl rfl rfl rfl rfl hb17 rfl (laws_toMeadowS.c k _ Aa1 ca1 a1 (hS.rd' (i := 1) rfl) (hS.le' (i := 1) rfl) _ ht13) ?_
      rintro _ w1 ⟨A14, c15, rfl, hs⟩
      replace hS := hS.addN hs
      refine OJ.pures tU_ok 1 rfl ?_
      refine OJ.nil (EJ.next ?_)
      refine CJ.seq ?_
      refine CJ.region ?_
      refine OJ.pures tU_ok 2 rfl ?_
      obtain ⟨t16, ht16, H⟩ := pbind H
      refine OJ.callF rfl rfl rfl rfl rfl hb18 rfl (impl_SameMeadows.c k _ A11 c12 t10 (hS.rd (i := 2) rfl) (hS.le (i := 2) rfl) A14 c15 t13 (hS.rd (i := 3) rfl) (hS.le (i := 3) rfl) _ ht16) ?_
      rintro _ w1 ⟨rfl, hs⟩
      replace hS := hS.grow hs
      refine OJ.pures tU_ok 1 rfl ?_
      refine OJ.nil (EJ.next ?_)
      refine CJ.seq ?_
      refine CJ.seq ?_
      refine CJ.region ?_
      refine OJ.pures tU_ok 2 rfl ?_
      refine OJ.st rfl rfl rfl (SR.neB tU_ok rfl rfl rfl rfl) ?_
      refine OJ.nil (EJ.next ?_)
      refine CJ.cond rfl (fun hb => ?_) (fun hb => ?_)
      · replace H := pif_t (of_decide_eq_true hb) H
        refine CJ.seq ?_
        refine CJ.region ?_
        refine OJ.pures tU_ok 1 rfl ?_
        refine OJ.nil (EJ.next ?_)
        refine CJ.ret (EJ.skR (?_))
        obtain rfl := Option.some.inj H
        exact EJ.fin rfl (.tmp rfl .nil) ⟨rfl, hS.ext⟩
      · replace H := pif_f (of_decide_eq_false hb) H
        refine CJ.skip (EJ.next ?_)
        refine CJ.seq ?_
        refine CJ.seq ?_
        refine CJ.region ?_
        refine OJ.pures tU_ok 2 rfl ?_
        obtain ⟨t17, ht17, H⟩ := pbind H
        refine OJ.callF rfl rfl rfl rfl rfl hb17 rfl (laws_toMeadowS.c k _ Aa0 ca0 a0 (hS.rd' (i := 0) rfl) (hS.le' (i := 0) rfl) _ ht17) ?_
        rintro _ w1 ⟨A18, c19, rfl, hs⟩
        replace hS := hS.addN hs
        obtain ⟨t20, ht20, H⟩ := pbind H
        refine OJ.callF rfl rfl rfl rfl rfl hb19 rfl (laws_eqMeadowS.c k _ A11 c12 t10 (hS.rd (i := 2) rfl) (hS.le (i := 2) rfl) A18 c19 t17 (hS.rd (i := 4) rfl) (hS.le (i := 4) rfl) _ ht20) ?_
        rintro _ w1 ⟨rfl, hs⟩
        replace hS := hS.grow hs
        refine OJ.pures tU_ok 1 rfl ?_
        refine OJ.nil (EJ.next ?_)
        refine CJ.cond rfl (fun hb => ?_) (fun hb => ?_)
        · replace H := pif_t hb H
          refine CJ.seq ?_
          refine CJ.region ?_
          refine OJ.pures tU_ok 1 rfl ?_
          refine OJ.nil (EJ.next ?_)
          refine CJ.ret (EJ.skR (?_))
          obtain rfl := Option.some.inj H
          exact EJ.fin rfl (.tmp rfl .nil) ⟨rfl, hS.ext⟩
        · replace H := pifb_f hb H
          refine CJ.skip (EJ.next ?_)
          refine CJ.seq ?_
          refine CJ.seq ?_
          refine CJ.region ?_
          refine OJ.pures tU_ok 2 rfl ?_
          obtain ⟨t21, ht21, H⟩ := pbind H
          refine OJ.callF rfl rfl rfl rfl rfl hb17 rfl (laws_toMeadowS.c k _ Aa1 ca1 a1 (hS.rd' (i := 1) rfl) (hS.le' (i := 1) rfl) _ ht21) ?_
          rintro _ w1 ⟨A22, c23, rfl, hs⟩
          replace hS := hS.addN hs
          obtain ⟨t24, ht24, H⟩ := pbind H
          refine OJ.callF rfl rfl rfl rfl rfl hb19 rfl (laws_eqMeadowS.c k _ A14 c15 t13 (hS.rd (i := 3) rfl) (hS.le (i := 3) rfl) A22 c23 t21 (hS.rd (i := 5) rfl) (hS.le (i := 5) rfl) _ ht24) ?_
          rintro _ w1 ⟨rfl, hs⟩
          replace hS := hS.grow hs
          refine OJ.pures tU_ok 1 rfl ?_
          refine OJ.nil (EJ.next ?_)
          refine CJ.cond rfl (fun hb => ?_) (fun hb => ?_)
          · replace H := pif_t hb H
            refine CJ.seq ?_
            refine CJ.region ?_
            refine OJ.pures tU_ok 1 rfl ?_
            refine OJ.nil (EJ.next ?_)
            refine CJ.ret (EJ.skR (?_))
            obtain rfl := Option.some.inj H
            exact EJ.fin rfl (.tmp rfl .nil) ⟨rfl, hS.ext⟩
          · replace H := pifb_f hb H
            refine CJ.skip (EJ.next ?_)
            refine CJ.seq ?_
            refine CJ.region ?_
            refine OJ.pures tU_ok 1 rfl ?_
            refine OJ.nil (EJ.next ?_)
            refine CJ.ret (?_)
            obtain rfl := Option.some.inj H
            exact EJ.fin rfl (.tmp rfl .nil) ⟨rfl, hS.ext⟩

def spec_l00In.f (a0 : Int) (a1 : Int) (a2 : Int) : Option Bool := if a1 ≤ a0 then (some (decide (a0 ≤ a2))) else (some false)
theorem spec_l00In.c (w : World) (a0 : Int) (a1 : Int) (a2 : Int) (r : Bool) (H : spec_l00In.f a0 a1 a2 = some r) :
    CV Try.prog 56 [.int .i64 a0, .int .i64 a1, .int .i64 a2].toArray w fun v w' => v = .bool r ∧ Ext w w' := by
  have hS := (St.init w no)
  unfold spec_l00In.f at H
  refine CV.body Try.func56 rfl Try.ntmps56 rfl ?_
  refine CJ.seq ?_
  refine CJ.region ?_
  refine OJ.pures tU_ok 1 rfl ?_
  refine OJ.nil (EJ.next ?_)
  refine CJ.seq ?_
  refine CJ.region ?_
  refine OJ.pures tU_ok 4 rfl ?_
  refine OJ.split (t := 10) rfl (fun hb => ?_) (fun hb => ?_)
  · replace H := pif_t (of_decide_eq_true hb) H
    refine OJ.pures tU_ok 5 rfl ?_
    refine OJ.nil (EJ.next ?_)
    refine CJ.ret (?_)
    obtain rfl := Option.some.inj H
    exact EJ.fin rfl (.tmp rfl .nil) ⟨rfl, hS.ext⟩
  · replace H := pif_f (of_decide_eq_false hb) H
    refine OJ.pures tU_ok 5 rfl ?_
    refine OJ.nil (EJ.next ?_)
    refine CJ.ret (?_)
    obtain rfl := Option.some.inj H
    exact EJ.fin rfl (.tmp rfl .nil) ⟨rfl, hS.ext⟩

def spec_l01Grass.f (a0 : Int) : Option Bool := (spec_l00In.f a0 0 1000).bind fun t1 => some t1
theorem spec_l01Grass.c (w : World) (a0 : Int) (r : Bool) (H : spec_l01Grass.f a0 = some r) :
    CV Try.prog 78 [.int .i64 a0].toArray w fun v w' => v = .bool r ∧ Ext w w' := by
  have hS := (St.init w no)
  unfold spec_l01Grass.f at H
  refine CV.body Try.func78 rfl Try.ntmps78 rfl ?_
  refine CJ.seq ?_
  refine CJ.region ?_
  refine OJ.pures tU_ok 1 rfl ?_
  refine OJ.nil (EJ.next ?_)
  refine CJ.seq ?_
  refine CJ.region ?_
  refine OJ.pures tU_ok 1 rfl ?_
  obtain ⟨t1, ht1, H⟩ := pbind H
  refine OJ.callF rfl rfl rfl rfl rfl hb56 rfl (spec_l00In.c _ a0 0 1000 _ ht1) ?_
  rintro _ w1 ⟨rfl, hs⟩
  replace hS := hS.grow hs
  refine OJ.pures tU_ok 1 rfl ?_
  refine OJ.nil (EJ.next ?_)
  refine CJ.ret (?_)
  obtain rfl := Option.some.inj H
  exact EJ.fin rfl (.tmp rfl .nil) ⟨rfl, hS.ext⟩

def spec_l07Ok.l1 (a0 : List Meadow) : Nat → Int → Option (Bool ⊕ Unit)
  | 0, _ => none
  | k + 1, y1 => if y1 < (a0.length : Int) then ((getI a0 y1).bind fun t2 => (spec_l01Grass.f (IntKind.i64.wrap t2.Most)).bind fun t3 => if (!t3) = true then (some (Sum.inl false)) else ((getI a0 y1).bind fun t4 => (spec_l00In.f (IntKind.i64.wrap t4.Grass) 0 (IntKind.i64.wrap t2.Most)).bind fun t5 => if (!t5) = true then (some (Sum.inl false)) else ((getI a0 y1).bind fun t6 => (spec_l00In.f (IntKind.i64.wrap t6.Grows) 0 (IntKind.i64.wrap t2.Most)).bind fun t7 => if (!t7) = true then (some (Sum.inl false)) else (spec_l07Ok.l1 a0 k (IntKind.i64.wrap (y1 + 1)))))) else (some (Sum.inr ()))
def spec_l07Ok.f (k : Nat) (a0 : List Meadow) : Option Bool := (spec_l07Ok.l1 a0 k 0).bind fun s5 => match s5 with | .inl r => some r | .inr _ => (spec_l00In.f (a0.length : Int) 1 6).bind fun t8 => some t8
theorem spec_l07Ok.c (k : Nat) (w : World) (Aa0 : Option Addr) (ca0 : Nat) (a0 : List Meadow) (hr0 : Rd cMeadow w Aa0 a0) (hc0 : a0.length ≤ ca0) (r : Bool) (H : spec_l07Ok.f k a0 = some r) :
    CV Try.prog 51 [.slice Aa0 a0.length ca0].toArray w fun v w' => v = .bool r ∧ Ext w w' := by
  have hS := ((St.init w no).param cMeadow Aa0 ca0 a0 hr0 hc0)
  unfold spec_l07Ok.f at H
  refine CV.body Try.func51 rfl Try.ntmps51 rfl ?_
  refine CJ.seq ?_
  refine CJ.region ?_
  refine OJ.pures tU_ok 1 rfl ?_
  refine OJ.nil (EJ.next ?_)
  refine CJ.seq ?_
  refine CJ.seq ?_
  refine CJ.region ?_
  refine OJ.pures tU_ok 1 rfl ?_
  refine OJ.nil (EJ.next ?_)
  obtain ⟨j5, H, K5⟩ := pbind H
  refine CJ.cut1 (fun F w1 => (some (Sum.inr ()) : Option (Bool ⊕ Unit)) = some j5 ∧ F = [(0, .slice Aa0 a0.length ca0)] ∧ St w no w1 [] [roC cMeadow Aa0 ca0 a0]) ?_ ?_
  · skip
    refine CJ.block ?_
    refine CJ.loop (fun k F w1 => ∃ (y1 : Int), F = [(0, .slice Aa0 a0.length ca0), (3, .int .i64 y1)] ∧ St w no w1 [] [roC cMeadow Aa0 ca0 a0] ∧ spec_l07Ok.l1 a0 k y1 = some j5) k (F' := [(0, .slice Aa0 a0.length ca0), (3, .int .i64 0)]) ⟨rfl, rfl, trivial⟩ ⟨0, rfl, hS.pick [] [0] rfl, H⟩ ?_
    rintro k F w1 ⟨y1, rfl, hS, H⟩
    cases k with
    | zero => rw [spec_l07Ok.l1] at H; cases H
    | succ k =>
      rw [spec_l07Ok.l1] at H
      refine CJ.seq ?_
      refine CJ.seq ?_
      refine CJ.region ?_
      refine OJ.pures tU_ok 4 rfl ?_
      refine OJ.nil (EJ.next ?_)
      refine CJ.cond rfl (fun hb => ?_) (fun hb => ?_)
      · replace H := pif_t (of_decide_eq_true hb) H
        refine CJ.skip (EJ.next ?_)
        refine CJ.seq ?_
        refine CJ.block ?_
        refine CJ.seq ?_
        refine CJ.region ?_
        refine OJ.pures tU_ok 2 rfl ?_
        obtain ⟨t2, ht2, H⟩ := pbind H
        obtain ⟨ad2, e2⟩ := (hS.rd' (i := 0) rfl).some' ht2
        refine OJ.st rfl rfl rfl (SR.idxS tU_ok tI_ok rfl rfl rfl rfl e2 rfl (getI_some ht2).1) ?_
        refine OJ.st rfl rfl rfl (SR.fieldAddr tU_ok tI_ok rfl rfl rfl rfl rfl rfl) ?_
        refine OJ.st rfl rfl rfl (SR.load rfl rfl (fun w' hx => ld1 tU_ok rfl rfl (CA.ext (CA.sub ((hS.rd' (i := 0) rfl).at_ e2 ht2) 2) hx) rfl)) ?_
        refine OJ.pures tU_ok 2 rfl ?_
        refine OJ.nil (EJ.next ?_)
        refine CJ.seq ?_
        refine CJ.region ?_
        refine OJ.pures tU_ok 1 rfl ?_
        obtain ⟨t3, ht3, H⟩ := pbind H
        refine OJ.callF rfl rfl rfl rfl rfl hb78 rfl (spec_l01Grass.c _ (IntKind.i64.wrap t2.Most) _ ht3) ?_
        rintro _ w1 ⟨rfl, hs⟩
        replace hS := hS.grow hs
        refine OJ.pures tU_ok 2 rfl ?_
        refine OJ.split (t := 20) rfl (fun hb => ?_) (fun hb => ?_)
        · replace H := pif_t hb H
          refine OJ.pures tU_ok 21 rfl ?_
          refine OJ.nil (EJ.next ?_)
          refine CJ.condT rfl ?_
          refine CJ.seq ?_
          refine CJ.region ?_
          refine OJ.pures tU_ok 1 rfl ?_
          refine OJ.nil (EJ.next ?_)
          refine CJ.ret (EJ.bkR (EJ.skR (EJ.skR (EJ.bkR (EJ.skR (EJ.skR (?_)))))))
          first | (obtain rfl := Option.some.inj H; have H := K5) | (obtain ⟨q5, H2, e5⟩ := pbind H; obtain rfl := Option.some.inj e5; obtain rfl := Option.some.inj K5; have H := H2)
          obtain rfl := Option.some.inj H
          exact EJ.fin rfl (.tmp rfl .nil) ⟨rfl, hS.ext⟩
        · replace H := pifb_f hb H
          refine OJ.pures tU_ok 2 rfl ?_
          obtain ⟨t4, ht4, H⟩ := pbind H
          obtain ⟨ad4, e4⟩ := (hS.rd' (i := 0) rfl).some' ht4
          refine OJ.st rfl rfl rfl (SR.idxS tU_ok tI_ok rfl rfl rfl rfl e4 rfl (getI_some ht4).1) ?_
          refine OJ.st rfl rfl rfl (SR.fieldAddr tU_ok tI_ok rfl rfl rfl rfl rfl rfl) ?_
          refine OJ.st rfl rfl rfl (SR.load rfl rfl (fun w' hx => ld1 tU_ok rfl rfl (CA.ext (CA.sub ((hS.rd' (i := 0) rfl).at_ e4 ht4) 0) hx) rfl)) ?_
          refine OJ.pures tU_ok 2 rfl ?_
          obtain ⟨t5, ht5, H⟩ := pbind H
          refine OJ.callF rfl rfl rfl rfl rfl hb56 rfl (spec_l00In.c _ (IntKind.i64.wrap t4.Grass) 0 (IntKind.i64.wrap t2.Most) _ ht5) ?_
          rintro _ w1 ⟨rfl, hs⟩
          replace hS := hS.grow hs
          refine OJ.pures tU_ok 3 rfl ?_
          refine OJ.split (t := 31) rfl (fun hb => ?_) (fun hb => ?_)
          · replace H := pif_t hb H
            refine OJ.pures tU_ok 10 rfl ?_
            refine OJ.nil (EJ.next ?_)
            refine CJ.condT rfl ?_
            refine CJ.seq ?_
            refine CJ.region ?_
            refine OJ.pures tU_ok 1 rfl ?_
            refine OJ.nil (EJ.next ?_)
            refine CJ.ret (EJ.bkR (EJ.skR (EJ.skR (EJ.bkR (EJ.skR (EJ.skR (?_)))))))
            first | (obtain rfl := Option.some.inj H; have H := K5) | (obtain ⟨q5, H2, e5⟩ := pbind H; obtain rfl := Option.some.inj e5; obtain rfl := Option.some.inj K5; have H := H2)
            obtain rfl := Option.some.inj H
            exact EJ.fin rfl (.tmp rfl .nil) ⟨rfl, hS.ext⟩
          · replace H := pifb_f hb H
            refine OJ.pures tU_ok 2 rfl ?_
            obtain ⟨t6, ht6, H⟩ := pbind H
            obtain ⟨ad6, e6⟩ := (hS.rd' (i := 0) rfl).some' ht6
            refine OJ.st rfl rfl rfl (SR.idxS tU_ok tI_ok rfl rfl rfl rfl e6 rfl (getI_some ht6).1) ?_
            refine OJ.st rfl rfl rfl (SR.fieldAddr tU_ok tI_ok rfl rfl rfl rfl rfl rfl) ?_
            refine OJ.st rfl rfl rfl (SR.load rfl rfl (fun w' hx => ld1 tU_ok rfl rfl (CA.ext (CA.sub ((hS.rd' (i := 0) rfl).at_ e6 ht6) 1) hx) rfl)) ?_
            refine OJ.pures tU_ok 2 rfl ?_
            obtain ⟨t7, ht7, H⟩ := pbind H
            refine OJ.callF rfl rfl rfl rfl rfl hb56 rfl (spec_l00In.c _ (IntKind.i64.wrap t6.Grows) 0 (IntKind.i64.wrap t2.Most) _ ht7) ?_
            rintro _ w1 ⟨rfl, hs⟩
            replace hS := hS.grow hs
            refine OJ.pures tU_ok 2 rfl ?_
            refine OJ.nil (EJ.next ?_)
            refine CJ.cond rfl (fun hb => ?_) (fun hb => ?_)
            · replace H := pif_t hb H
              refine CJ.seq ?_
              refine CJ.region ?_
              refine OJ.pures tU_ok 1 rfl ?_
              refine OJ.nil (EJ.next ?_)
              refine CJ.ret (EJ.bkR (EJ.skR (EJ.skR (EJ.bkR (EJ.skR (EJ.skR (?_)))))))
              first | (obtain rfl := Option.some.inj H; have H := K5) | (obtain ⟨q5, H2, e5⟩ := pbind H; obtain rfl := Option.some.inj e5; obtain rfl := Option.some.inj K5; have H := H2)
              obtain rfl := Option.some.inj H
              exact EJ.fin rfl (.tmp rfl .nil) ⟨rfl, hS.ext⟩
            · replace H := pifb_f hb H
              refine CJ.skip (EJ.blk (EJ.next ?_))
              refine CJ.region ?_
              refine OJ.pures tU_ok 3 rfl ?_
              refine OJ.nil ?_
              exact EJ.round k (F' := [(0, .slice Aa0 a0.length ca0), (3, .int .i64 (IntKind.i64.wrap (y1 + 1)))]) ⟨rfl, rfl, trivial⟩ (Nat.lt_succ_self _) ⟨(IntKind.i64.wrap (y1 + 1)), rfl, hS.pick [] [0] rfl, H⟩
      · replace H := pif_f (of_decide_eq_false hb) H
        refine CJ.exit (EJ.skE (EJ.skE (EJ.hit (?_))))
        exact EJ.meet (F' := [(0, .slice Aa0 a0.length ca0)]) ⟨rfl, trivial⟩ ⟨H, rfl, hS.pick [] [0] rfl⟩
  · rintro F w1 ⟨he, rfl, hS⟩
    obtain rfl := Option.some.inj he
    have H := K5
    refine EJ.next ?_
    refine CJ.seq ?_
    refine CJ.region ?_
    refine OJ.pures tU_ok 2 rfl ?_
    obtain ⟨t8, ht8, H⟩ := pbind H
    refine OJ.callF rfl rfl rfl rfl rfl hb56 rfl (spec_l00In.c _ (a0.length : Int) 1 6 _ ht8) ?_
    rintro _ w1 ⟨rfl, hs⟩
    replace hS := hS.grow hs
    refine OJ.pures tU_ok 1 rfl ?_
    refine OJ.nil (EJ.next ?_)
    refine CJ.ret (?_)
    obtain rfl := Option.some.inj H
    exact EJ.fin rfl (.tmp rfl .nil) ⟨rfl, hS.ext⟩

def spec_ValidMeadows.f (k : Nat) (a0 : List Meadow) : Option Bool := (spec_l07Ok.f k a0).bind fun t1 => some t1
theorem spec_ValidMeadows.c (k : Nat) (w : World) (Aa0 : Option Addr) (ca0 : Nat) (a0 : List Meadow) (hr0 : Rd cMeadow w Aa0 a0) (hc0 : a0.length ≤ ca0) (r : Bool) (H : spec_ValidMeadows.f k a0 = some r) :
    CV Try.prog 20 [.slice Aa0 a0.length ca0].toArray w fun v w' => v = .bool r ∧ Ext w w' := by
  have hS := ((St.init w no).param cMeadow Aa0 ca0 a0 hr0 hc0)
  unfold spec_ValidMeadows.f at H
  refine CV.body Try.func20 rfl Try.ntmps20 rfl ?_
  refine CJ.seq ?_
  refine CJ.region ?_
  refine OJ.pures tU_ok 1 rfl ?_
  refine OJ.nil (EJ.next ?_)
  refine CJ.seq ?_
  refine CJ.region ?_
  refine OJ.pures tU_ok 1 rfl ?_
  obtain ⟨t1, ht1, H⟩ := pbind H
  refine OJ.callF rfl rfl rfl rfl rfl hb51 rfl (spec_l07Ok.c k _ Aa0 ca0 a0 (hS.rd' (i := 0) rfl) (hS.le' (i := 0) rfl) _ ht1) ?_
  rintro _ w1 ⟨rfl, hs⟩
  replace hS := hS.grow hs
  refine OJ.pures tU_ok 1 rfl ?_
  refine OJ.nil (EJ.next ?_)
  refine CJ.ret (?_)
  obtain rfl := Option.some.inj H
  exact EJ.fin rfl (.tmp rfl .nil) ⟨rfl, hS.ext⟩

def impl_size_impl_Meadow.f (a0 : List Meadow) : Option Int := some (a0.length : Int)
theorem impl_size_impl_Meadow.c (w : World) (Aa0 : Option Addr) (ca0 : Nat) (a0 : List Meadow) (hr0 : Rd cMeadow w Aa0 a0) (hc0 : a0.length ≤ ca0) (r : Int) (H : impl_size_impl_Meadow.f a0 = some r) :
    CV Try.prog 53 [.slice Aa0 a0.length ca0].toArray w fun v w' => v = .int .i64 r ∧ Ext w w' := by
  have hS := ((St.init w no).param cMeadow Aa0 ca0 a0 hr0 hc0)
  unfold impl_size_impl_Meadow.f at H
  refine CV.body Try.func53 rfl Try.ntmps53 rfl ?_
  refine CJ.seq ?_
  refine CJ.region ?_
  refine OJ.pures tU_ok 1 rfl ?_
  refine OJ.nil (EJ.next ?_)
  refine CJ.seq ?_
  refine CJ.region ?_
  refine OJ.pures tU_ok 3 rfl ?_
  refine OJ.nil (EJ.next ?_)
  refine CJ.ret (?_)
  obtain rfl := Option.some.inj H
  exact EJ.fin rfl (.tmp rfl .nil) ⟨rfl, hS.ext⟩

def impl_within.f (a0 : Int) (a1 : Int) (a2 : Int) : Option Bool := if a1 ≤ a0 then (some (decide (a0 ≤ a2))) else (some false)
theorem impl_within.c (w : World) (a0 : Int) (a1 : Int) (a2 : Int) (r : Bool) (H : impl_within.f a0 a1 a2 = some r) :
    CV Try.prog 52 [.int .i64 a0, .int .i64 a1, .int .i64 a2].toArray w fun v w' => v = .bool r ∧ Ext w w' := by
  have hS := (St.init w no)
  unfold impl_within.f at H
  refine CV.body Try.func52 rfl Try.ntmps52 rfl ?_
  refine CJ.seq ?_
  refine CJ.region ?_
  refine OJ.pures tU_ok 1 rfl ?_
  refine OJ.nil (EJ.next ?_)
  refine CJ.seq ?_
  refine CJ.region ?_
  refine OJ.pures tU_ok 4 rfl ?_
  refine OJ.split (t := 10) rfl (fun hb => ?_) (fun hb => ?_)
  · replace H := pif_t (of_decide_eq_true hb) H
    refine OJ.pures tU_ok 5 rfl ?_
    refine OJ.nil (EJ.next ?_)
    refine CJ.ret (?_)
    obtain rfl := Option.some.inj H
    exact EJ.fin rfl (.tmp rfl .nil) ⟨rfl, hS.ext⟩
  · replace H := pif_f (of_decide_eq_false hb) H
    refine OJ.pures tU_ok 5 rfl ?_
    refine OJ.nil (EJ.next ?_)
    refine CJ.ret (?_)
    obtain rfl := Option.some.inj H
    exact EJ.fin rfl (.tmp rfl .nil) ⟨rfl, hS.ext⟩

def slices_IndexFunc_impl_Meadow_impl_Meadow.l1 (a0 : List Meadow) (a1 : Meadow → Option Bool) : Nat → Int → Option (Int ⊕ Unit)
  | 0, _ => none
  | k + 1, y1 => if y1 < (a0.length : Int) then ((getI a0 y1).bind fun t2 => (a1 t2).bind fun t3 => if t3 = true then (some (Sum.inl y1)) else (slices_IndexFunc_impl_Meadow_impl_Meadow.l1 a0 a1 k (IntKind.i64.wrap (y1 + 1)))) else (some (Sum.inr ()))
def slices_IndexFunc_impl_Meadow_impl_Meadow.f (k : Nat) (a0 : List Meadow) (a1 : Meadow → Option Bool) : Option Int := (slices_IndexFunc_impl_Meadow_impl_Meadow.l1 a0 a1 k 0).bind fun s6 => match s6 with | .inl r => some r | .inr _ => some (-1)
theorem slices_IndexFunc_impl_Meadow_impl_Meadow.c (k : Nat) (w : World) (Aa0 : Option Addr) (ca0 : Nat) (a0 : List Meadow) (hr0 : Rd cMeadow w Aa0 a0) (hc0 : a0.length ≤ ca0) (na1 : Nat) (capa1 : Array Value) (hb1 : hasBody Try.prog na1) (a1 : Meadow → Option Bool) (hf1 : ∀ (z0 : Meadow) (r : Bool), a1 z0 = some r → ∀ w', Ext w w' → CV Try.prog na1 ([.agg (cMeadow.enc z0).toArray].toArray ++ capa1) w' fun v w'' => v = .bool r ∧ Ext w' w'') (r : Int) (H : slices_IndexFunc_impl_Meadow_impl_Meadow.f k a0 a1 = some r) :
    CV Try.prog 79 [.slice Aa0 a0.length ca0, .func (.func na1) #[] capa1].toArray w fun v w' => v = .int .i64 r ∧ Ext w w' := by
  have hS := ((St.init w no).param cMeadow Aa0 ca0 a0 hr0 hc0)
  unfold slices_IndexFunc_impl_Meadow_impl_Meadow.f at H
  refine CV.body Try.func79 rfl Try.ntmps79 rfl ?_
  refine CJ.seq ?_
  refine CJ.region ?_
  refine OJ.pures tU_ok 1 rfl ?_
  refine OJ.nil (EJ.next ?_)
  refine CJ.seq ?_
  refine CJ.seq ?_
  refine CJ.region ?_
  refine OJ.pures tU_ok 3 rfl ?_
  refine OJ.nil (EJ.next ?_)
  obtain ⟨j6, H, K6⟩ := pbind H
  refine CJ.cut1 (fun F w1 => (some (Sum.inr ()) : Option (Int ⊕ Unit)) = some j6 ∧ F = [] ∧ St w no w1 [] [roC cMeadow Aa0 ca0 a0]) ?_ ?_
  · skip
    refine CJ.block ?_
    refine CJ.loop (fun k F w1 => ∃ (y1 : Int), F = [(0, .slice Aa0 a0.length ca0), (1, .func (.func na1) #[] capa1), (7, .int .i64 (a0.length : Int)), (8, .int .i64 y1)] ∧ St w no w1 [] [roC cMeadow Aa0 ca0 a0] ∧ slices_IndexFunc_impl_Meadow_impl_Meadow.l1 a0 a1 k y1 = some j6) k (F' := [(0, .slice Aa0 a0.length ca0), (1, .func (.func na1) #[] capa1), (7, .int .i64 (a0.length : Int)), (8, .int .i64 0)]) ⟨rfl, rfl, rfl, rfl, trivial⟩ ⟨0, rfl, hS.pick [] [0] rfl, H⟩ ?_
    rintro k F w1 ⟨y1, rfl, hS, H⟩
    cases k with
    | zero => rw [slices_IndexFunc_impl_Meadow_impl_Meadow.l1] at H; cases H
    | succ k =>
      rw [slices_IndexFunc_impl_Meadow_impl_Meadow.l1] at H
      refine CJ.seq ?_
      refine CJ.region ?_
      refine OJ.pures tU_ok 1 rfl ?_
      refine OJ.nil (EJ.next ?_)
      refine CJ.seq ?_
      refine CJ.cond rfl (fun hb => ?_) (fun hb => ?_)
      · replace H := pif_t (of_decide_eq_true hb) H
        refine CJ.skip (EJ.next ?_)
        refine CJ.seq ?_
        refine CJ.block ?_
        refine CJ.seq ?_
        refine CJ.region ?_
        refine OJ.pures tU_ok 2 rfl ?_
        refine OJ.nil (EJ.next ?_)
        refine CJ.seq ?_
        refine CJ.region ?_
        refine OJ.pures tU_ok 3 rfl ?_
        obtain ⟨t2, ht2, H⟩ := pbind H
        obtain ⟨ad2, e2⟩ := (hS.rd' (i := 0) rfl).some' ht2
        refine OJ.st rfl rfl rfl (SR.idxS tU_ok tI_ok rfl rfl rfl rfl e2 rfl (getI_some ht2).1) ?_
        refine OJ.st rfl rfl rfl (SR.load rfl rfl (fun w' hx => ldE tU_ok tI_ok rfl rfl rfl (CA.ext ((hS.rd' (i := 0) rfl).at_ e2 ht2) hx) rfl)) ?_
        obtain ⟨t3, ht3, H⟩ := pbind H
        refine OJ.callV rfl rfl rfl rfl rfl rfl hb1 rfl (hf1 t2 _ ht3 _ hS.ext) ?_
        rintro _ w1 ⟨rfl, hs⟩
        replace hS := hS.grow hs
        refine OJ.nil (EJ.next ?_)
        refine CJ.cond rfl (fun hb => ?_) (fun hb => ?_)
        · replace H := pif_t hb H
          refine CJ.seq ?_
          refine CJ.region ?_
          refine OJ.pures tU_ok 2 rfl ?_
          refine OJ.nil (EJ.next ?_)
          refine CJ.ret (EJ.bkR (EJ.skR (EJ.skR (EJ.bkR (EJ.skR (EJ.skR (?_)))))))
          first | (obtain rfl := Option.some.inj H; have H := K6) | (obtain ⟨q6, H2, e6⟩ := pbind H; obtain rfl := Option.some.inj e6; obtain rfl := Option.some.inj K6; have H := H2)
          obtain rfl := Option.some.inj H
          exact EJ.fin rfl (.tmp rfl .nil) ⟨rfl, hS.ext⟩
        · replace H := pifb_f hb H
          refine CJ.skip (EJ.blk (EJ.next ?_))
          refine CJ.region ?_
          refine OJ.pures tU_ok 2 rfl ?_
          refine OJ.nil ?_
          exact EJ.round k (F' := [(0, .slice Aa0 a0.length ca0), (1, .func (.func na1) #[] capa1), (7, .int .i64 (a0.length : Int)), (8, .int .i64 (IntKind.i64.wrap (y1 + 1)))]) ⟨rfl, rfl, rfl, rfl, trivial⟩ (Nat.lt_succ_self _) ⟨(IntKind.i64.wrap (y1 + 1)), rfl, hS.pick [] [0] rfl, H⟩
      · replace H := pif_f (of_decide_eq_false hb) H
        refine CJ.exit (EJ.skE (EJ.skE (EJ.hit (?_))))
        exact EJ.meet (F' := []) trivial ⟨H, rfl, hS.pick [] [0] rfl⟩
  · rintro F w1 ⟨he, rfl, hS⟩
    obtain rfl := Option.some.inj he
    have H := K6
    refine EJ.next ?_
    refine CJ.seq ?_
    refine CJ.region ?_
    refine OJ.pures tU_ok 1 rfl ?_
    refine OJ.nil (EJ.next ?_)
    refine CJ.ret (?_)
    obtain rfl := Option.some.inj H
    exact EJ.fin rfl (.tmp rfl .nil) ⟨rfl, hS.ext⟩

def slices_ContainsFunc_impl_Meadow_impl_Meadow.f (k : Nat) (a0 : List Meadow) (a1 : Meadow → Option Bool) : Option Bool := (slices_IndexFunc_impl_Meadow_impl_Meadow.f k a0 a1).bind fun t1 => some (decide (0 ≤ t1))
theorem slices_ContainsFunc_impl_Meadow_impl_Meadow.c (k : Nat) (w : World) (Aa0 : Option Addr) (ca0 : Nat) (a0 : List Meadow) (hr0 : Rd cMeadow w Aa0 a0) (hc0 : a0.length ≤ ca0) (na1 : Nat) (capa1 : Array Value) (hb1 : hasBody Try.prog na1) (a1 : Meadow → Option Bool) (hf1 : ∀ (z0 : Meadow) (r : Bool), a1 z0 = some r → ∀ w', Ext w w' → CV Try.prog na1 ([.agg (cMeadow.enc z0).toArray].toArray ++ capa1) w' fun v w'' => v = .bool r ∧ Ext w' w'') (r : Bool) (H : slices_ContainsFunc_impl_Meadow_impl_Meadow.f k a0 a1 = some r) :
    CV Try.prog 54 [.slice Aa0 a0.length ca0, .func (.func na1) #[] capa1].toArray w fun v w' => v = .bool r ∧ Ext w w' := by
  have hS := ((St.init w no).param cMeadow Aa0 ca0 a0 hr0 hc0)
  unfold slices_ContainsFunc_impl_Meadow_impl_Meadow.f at H
  refine CV.body Try.func54 rfl Try.ntmps54 rfl ?_
  refine CJ.seq ?_
  refine CJ.region ?_
  refine OJ.pures tU_ok 1 rfl ?_
  refine OJ.nil (EJ.next ?_)
  refine CJ.seq ?_
  refine CJ.region ?_
  refine OJ.pures tU_ok 2 rfl ?_
  obtain ⟨t1, ht1, H⟩ := pbind H
  refine OJ.callF rfl rfl rfl rfl rfl hb79 rfl (slices_IndexFunc_impl_Meadow_impl_Meadow.c k _ Aa0 ca0 a0 (hS.rd' (i := 0) rfl) (hS.le' (i := 0) rfl) na1 capa1 hb1 a1 (fun z0 r h w' hx => hf1 z0 r h w' (hS.ext.trans hx)) _ ht1) ?_
  rintro _ w1 ⟨rfl, hs⟩
  replace hS := hS.grow hs
  refine OJ.pures tU_ok 2 rfl ?_
  refine OJ.nil (EJ.next ?_)
  refine CJ.ret (?_)
  obtain rfl := Option.some.inj H
  exact EJ.fin rfl (.tmp rfl .nil) ⟨rfl, hS.ext⟩

def impl_ValidMeadows_1.f (a0 : Meadow) : Option Bool := (impl_within.f (IntKind.i64.wrap a0.Most) 0 1000).bind fun t2 => if (!t2) = true then (some true) else ((impl_within.f (IntKind.i64.wrap a0.Grass) 0 (IntKind.i64.wrap a0.Most)).bind fun t3 => if (!t3) = true then (some true) else ((impl_within.f (IntKind.i64.wrap a0.Grows) 0 (IntKind.i64.wrap a0.Most)).bind fun t4 => some (!t4)))
theorem impl_ValidMeadows_1.c (w : World) (a0 : Meadow) (r : Bool) (H : impl_ValidMeadows_1.f a0 = some r) :
    CV Try.prog 55 [.agg (cMeadow.enc a0).toArray].toArray w fun v w' => v = .bool r ∧ Ext w w' := by
  have hS := (St.init w no)
  unfold impl_ValidMeadows_1.f at H
  refine CV.body Try.func55 rfl Try.ntmps55 rfl ?_
  refine CJ.seq ?_
  refine CJ.region ?_
  refine OJ.ef rfl rfl rfl (Ef.box hS rfl rfl (cMeadow.enc a0) rfl) ?_
  rintro _ w1 ⟨b1, rfl, hS⟩
  refine OJ.pures tU_ok 1 rfl ?_
  refine OJ.nil (EJ.next ?_)
  refine CJ.seq ?_
  refine CJ.region ?_
  refine OJ.st rfl rfl rfl (SR.fieldAddr tU_ok tI_ok rfl rfl rfl rfl rfl rfl) ?_
  refine OJ.st rfl rfl rfl (SR.load rfl rfl (fun w' hx => ld1 tU_ok rfl rfl (CA.ext (CA.sub (hS.cells (i := 0) rfl) 2) hx) rfl)) ?_
  refine OJ.pures tU_ok 1 rfl ?_
  obtain ⟨t2, ht2, H⟩ := pbind H
  refine OJ.callF rfl rfl rfl rfl rfl hb52 rfl (impl_within.c _ (IntKind.i64.wrap a0.Most) 0 1000 _ ht2) ?_
  rintro _ w1 ⟨rfl, hs⟩
  replace hS := hS.grow hs
  refine OJ.pures tU_ok 2 rfl ?_
  refine OJ.split (t := 8) rfl (fun hb => ?_) (fun hb => ?_)
  · replace H := pif_t hb H
    refine OJ.pures tU_ok 20 rfl ?_
    refine OJ.nil (EJ.next ?_)
    refine CJ.ret (?_)
    obtain rfl := Option.some.inj H
    exact EJ.fin rfl (.tmp rfl .nil) ⟨rfl, hS.ext⟩
  · replace H := pifb_f hb H
    refine OJ.st rfl rfl rfl (SR.fieldAddr tU_ok tI_ok rfl rfl rfl rfl rfl rfl) ?_
    refine OJ.st rfl rfl rfl (SR.load rfl rfl (fun w' hx => ld1 tU_ok rfl rfl (CA.ext (CA.sub (hS.cells (i := 0) rfl) 0) hx) rfl)) ?_
    refine OJ.pures tU_ok 1 rfl ?_
    refine OJ.st rfl rfl rfl (SR.fieldAddr tU_ok tI_ok rfl rfl rfl rfl rfl rfl) ?_
    refine OJ.st rfl rfl rfl (SR.load rfl rfl (fun w' hx => ld1 tU_ok rfl rfl (CA.ext (CA.sub (hS.cells (i := 0) rfl) 2) hx) rfl)) ?_
    refine OJ.pures tU_ok 1 rfl ?_
    obtain ⟨t3, ht3, H⟩ := pbind H
    refine OJ.callF rfl rfl rfl rfl rfl hb52 rfl (impl_within.c _ (IntKind.i64.wrap a0.Grass) 0 (IntKind.i64.wrap a0.Most) _ ht3) ?_
    rintro _ w1 ⟨rfl, hs⟩
    replace hS := hS.grow hs
    refine OJ.pures tU_ok 3 rfl ?_
    refine OJ.split (t := 18) rfl (fun hb => ?_) (fun hb => ?_)
    · replace H := pif_t hb H
      refine OJ.pures tU_ok 10 rfl ?_
      refine OJ.nil (EJ.next ?_)
      refine CJ.ret (?_)
      obtain rfl := Option.some.inj H
      exact EJ.fin rfl (.tmp rfl .nil) ⟨rfl, hS.ext⟩
    · replace H := pifb_f hb H
      refine OJ.st rfl rfl rfl (SR.fieldAddr tU_ok tI_ok rfl rfl rfl rfl rfl rfl) ?_
      refine OJ.st rfl rfl rfl (SR.load rfl rfl (fun w' hx => ld1 tU_ok rfl rfl (CA.ext (CA.sub (hS.cells (i := 0) rfl) 1) hx) rfl)) ?_
      refine OJ.pures tU_ok 1 rfl ?_
      refine OJ.st rfl rfl rfl (SR.fieldAddr tU_ok tI_ok rfl rfl rfl rfl rfl rfl) ?_
      refine OJ.st rfl rfl rfl (SR.load rfl rfl (fun w' hx => ld1 tU_ok rfl rfl (CA.ext (CA.sub (hS.cells (i := 0) rfl) 2) hx) rfl)) ?_
      refine OJ.pures tU_ok 1 rfl ?_
      obtain ⟨t4, ht4, H⟩ := pbind H
      refine OJ.callF rfl rfl rfl rfl rfl hb52 rfl (impl_within.c _ (IntKind.i64.wrap a0.Grows) 0 (IntKind.i64.wrap a0.Most) _ ht4) ?_
      rintro _ w1 ⟨rfl, hs⟩
      replace hS := hS.grow hs
      refine OJ.pures tU_ok 3 rfl ?_
      refine OJ.nil (EJ.next ?_)
      refine CJ.ret (?_)
      obtain rfl := Option.some.inj H
      exact EJ.fin rfl (.tmp rfl .nil) ⟨rfl, hS.ext⟩

def impl_ValidMeadows.f (k : Nat) (a0 : List Meadow) : Option Bool := (impl_size_impl_Meadow.f a0).bind fun t1 => (impl_within.f t1 1 6).bind fun t2 => if t2 = true then ((slices_ContainsFunc_impl_Meadow_impl_Meadow.f k a0 impl_ValidMeadows_1.f).bind fun t3 => some (!t3)) else (some false)
theorem impl_ValidMeadows.c (k : Nat) (w : World) (Aa0 : Option Addr) (ca0 : Nat) (a0 : List Meadow) (hr0 : Rd cMeadow w Aa0 a0) (hc0 : a0.length ≤ ca0) (r : Bool) (H : impl_ValidMeadows.f k a0 = some r) :
    CV Try.prog 21 [.slice Aa0 a0.length ca0].toArray w fun v w' => v = .bool r ∧ Ext w w' := by
  have hS := ((St.init w no).param cMeadow Aa0 ca0 a0 hr0 hc0)
  unfold impl_ValidMeadows.f at H
  refine CV.body Try.func21 rfl Try.ntmps21 rfl ?_
  refine CJ.seq ?_
  refine CJ.region ?_
  refine OJ.pures tU_ok 1 rfl ?_
  refine OJ.nil (EJ.next ?_)
  refine CJ.seq ?_
  refine CJ.region ?_
  refine OJ.pures tU_ok 1 rfl ?_
  obtain ⟨t1, ht1, H⟩ := pbind H
  refine OJ.callF rfl rfl rfl rfl rfl hb53 rfl (impl_size_impl_Meadow.c _ Aa0 ca0 a0 (hS.rd' (i := 0) rfl) (hS.le' (i := 0) rfl) _ ht1) ?_
  rintro _ w1 ⟨rfl, hs⟩
  replace hS := hS.grow hs
  obtain ⟨t2, ht2, H⟩ := pbind H
  refine OJ.callF rfl rfl rfl rfl rfl hb52 rfl (impl_within.c _ t1 1 6 _ ht2) ?_
  rintro _ w1 ⟨rfl, hs⟩
  replace hS := hS.grow hs
  refine OJ.pures tU_ok 1 rfl ?_
  refine OJ.split (t := 6) rfl (fun hb => ?_) (fun hb => ?_)
  · replace H := pif_t hb H
    refine OJ.pures tU_ok 1 rfl ?_
    obtain ⟨t3, ht3, H⟩ := pbind H
    refine OJ.callF rfl rfl rfl rfl rfl hb54 rfl (slices_ContainsFunc_impl_Meadow_impl_Meadow.c k _ Aa0 ca0 a0 (hS.rd' (i := 0) rfl) (hS.le' (i := 0) rfl) 55 #[] hb55 impl_ValidMeadows_1.f (fun z0 r h w' hx => CV.cast (impl_ValidMeadows_1.c w'  z0 r h) (by simp)) _ ht3) ?_
    rintro _ w1 ⟨rfl, hs⟩
    replace hS := hS.grow hs
    refine OJ.pures tU_ok 3 rfl ?_
    refine OJ.nil (EJ.next ?_)
    refine CJ.ret (?_)
    obtain rfl := Option.some.inj H
    exact EJ.fin rfl (.tmp rfl .nil) ⟨rfl, hS.ext⟩
  · replace H := pifb_f hb H
    refine OJ.pures tU_ok 5 rfl ?_
    refine OJ.nil (EJ.next ?_)
    refine CJ.ret (?_)
    obtain rfl := Option.some.inj H
    exact EJ.fin rfl (.tmp rfl .nil) ⟨rfl, hS.ext⟩

def laws_FnExactValidMeadows.f (k : Nat) (a0 : List Meadow) : Option Bool := (laws_szMeadowS.f a0 1048576).bind fun t1 => if t1 < 0 then (some true) else ((laws_toMeadowS.f k a0).bind fun t2 => (spec_ValidMeadows.f k t2).bind fun t5 => (laws_toMeadowS.f k a0).bind fun t6 => (impl_ValidMeadows.f k t6).bind fun t9 => if t9 ≠ t5 then (some false) else ((laws_toMeadowS.f k a0).bind fun t10 => (laws_eqMeadowS.f k t6 t10).bind fun t13 => if (!t13) = true then (some false) else (some true)))
theorem laws_FnExactValidMeadows.c (k : Nat) (w : World) (Aa0 : Option Addr) (ca0 : Nat) (a0 : List Meadow) (hr0 : Rd cMeadow w Aa0 a0) (hc0 : a0.length ≤ ca0) (r : Bool) (H : laws_FnExactValidMeadows.f k a0 = some r) :
    CV Try.prog 4 [.slice Aa0 a0.length ca0].toArray w fun v w' => v = .bool r ∧ Ext w w' := by
  have hS := ((St.init w no).param cMeadow Aa0 ca0 a0 hr0 hc0)
  unfold laws_FnExactValidMeadows.f at H
  refine CV.body Try.func4 rfl Try.ntmps4 rfl ?_
  refine CJ.seq ?_
  refine CJ.region ?_
  refine OJ.pures tU_ok 1 rfl ?_
  refine OJ.nil (EJ.next ?_)
  refine CJ.seq ?_
  refine CJ.region ?_
  refine OJ.pures tU_ok 1 rfl ?_
  refine OJ.nil (EJ.next ?_)
  refine CJ.seq ?_
  refine CJ.region ?_
  refine OJ.pures tU_ok 2 rfl ?_
  obtain ⟨t1, ht1, H⟩ := pbind H
  refine OJ.callF rfl rfl rfl rfl rfl hb15 rfl (laws_szMeadowS.c _ Aa0 ca0 a0 (hS.rd' (i := 0) rfl) (hS.le' (i := 0) rfl) 1048576 _ ht1) ?_
  rintro _ w1 ⟨rfl, hs⟩
  replace hS := hS.grow hs
  refine OJ.pures tU_ok 1 rfl ?_
  refine OJ.nil (EJ.next ?_)
  refine CJ.seq ?_
  refine CJ.seq ?_
  refine CJ.region ?_
  refine OJ.pures tU_ok 2 rfl ?_
  refine OJ.nil (EJ.next ?_)
  refine CJ.cond rfl (fun hb => ?_) (fun hb => ?_)
  · replace H := pif_t (of_decide_eq_true hb) H
    refine CJ.seq ?_
    refine CJ.region ?_
    refine OJ.pures tU_ok 1 rfl ?_
    refine OJ.nil (EJ.next ?_)
    refine CJ.ret (EJ.skR (?_))
    obtain rfl := Option.some.inj H
    exact EJ.fin rfl (.tmp rfl .nil) ⟨rfl, hS.ext⟩
  · replace H := pif_f (of_decide_eq_false hb) H
    refine CJ.skip (EJ.next ?_)
    refine CJ.seq ?_
    refine CJ.region ?_
    refine OJ.pures tU_ok 1 rfl ?_
    obtain ⟨t2, ht2, H⟩ := pbind H
    refine OJ.callF rfl rfl rfl rfl rfl hb17 rfl (laws_toMeadowS.c k _ Aa0 ca0 a0 (hS.rd' (i := 0) rfl) (hS.le' (i := 0) rfl) _ ht2) ?_
    rintro _ w1 ⟨A3, c4, rfl, hs⟩
    replace hS := hS.addN hs
    obtain ⟨t5, ht5, H⟩ := pbind H
    refine OJ.callF rfl rfl rfl rfl rfl hb20 rfl (spec_ValidMeadows.c k _ A3 c4 t2 (hS.rd (i := 0) rfl) (hS.le (i := 0) rfl) _ ht5) ?_
    rintro _ w1 ⟨rfl, hs⟩
    replace hS := hS.grow hs
    refine OJ.pures tU_ok 1 rfl ?_
    refine OJ.nil (EJ.next ?_)
    refine CJ.seq ?_
    refine CJ.region ?_
    refine OJ.pures tU_ok 1 rfl ?_
    obtain ⟨t6, ht6, H⟩ := pbind H
    refine OJ.callF rfl rfl rfl rfl rfl hb17 rfl (laws_toMeadowS.c k _ Aa0 ca0 a0 (hS.rd' (i := 0) rfl) (hS.le' (i := 0) rfl) _ ht6) ?_
    rintro _ w1 ⟨A7, c8, rfl, hs⟩
    replace hS := hS.addN hs
    refine OJ.pures tU_ok 1 rfl ?_
    refine OJ.nil (EJ.next ?_)
    refine CJ.seq ?_
    refine CJ.region ?_
    refine OJ.pures tU_ok 1 rfl ?_
    obtain ⟨t9, ht9, H⟩ := pbind H
    refine OJ.callF rfl rfl rfl rfl rfl hb21 rfl (impl_ValidMeadows.c k _ A7 c8 t6 (hS.rd (i := 1) rfl) (hS.le (i := 1) rfl) _ ht9) ?_
    rintro _ w1 ⟨rfl, hs⟩
    replace hS := hS.grow hs
    refine OJ.pures tU_ok 1 rfl ?_
    refine OJ.nil (EJ.next ?_)
    refine CJ.seq ?_
    refine CJ.seq ?_
    refine CJ.region ?_
    refine OJ.pures tU_ok 2 rfl ?_
    refine OJ.st rfl rfl rfl (SR.neB tU_ok rfl rfl rfl rfl) ?_
    refine OJ.nil (EJ.next ?_)
    refine CJ.cond rfl (fun hb => ?_) (fun hb => ?_)
    · replace H := pif_t (of_decide_eq_true hb) H
      refine CJ.seq ?_
      refine CJ.region ?_
      refine OJ.pures tU_ok 1 rfl ?_
      refine OJ.nil (EJ.next ?_)
      refine CJ.ret (EJ.skR (?_))
      obtain rfl := Option.some.inj H
      exact EJ.fin rfl (.tmp rfl .nil) ⟨rfl, hS.ext⟩
    · replace H := pif_f (of_decide_eq_false hb) H
      refine CJ.skip (EJ.next ?_)
      refine CJ.seq ?_
      refine CJ.seq ?_
      refine CJ.region ?_
      refine OJ.pures tU_ok 2 rfl ?_
      obtain ⟨t10, ht10, H⟩ := pbind H
      refine OJ.callF rfl rfl rfl rfl rfl hb17 rfl (laws_toMeadowS.c k _ Aa0 ca0 a0 (hS.rd' (i := 0) rfl) (hS.le' (i := 0) rfl) _ ht10) ?_
      rintro _ w1 ⟨A11, c12, rfl, hs⟩
      replace hS := hS.addN hs
      obtain ⟨t13, ht13, H⟩ := pbind H
      refine OJ.callF rfl rfl rfl rfl rfl hb19 rfl (laws_eqMeadowS.c k _ A7 c8 t6 (hS.rd (i := 1) rfl) (hS.le (i := 1) rfl) A11 c12 t10 (hS.rd (i := 2) rfl) (hS.le (i := 2) rfl) _ ht13) ?_
      rintro _ w1 ⟨rfl, hs⟩
      replace hS := hS.grow hs
      refine OJ.pures tU_ok 1 rfl ?_
      refine OJ.nil (EJ.next ?_)
      refine CJ.cond rfl (fun hb => ?_) (fun hb => ?_)
      · replace H := pif_t hb H
        refine CJ.seq ?_
        refine CJ.region ?_
        refine OJ.pures tU_ok 1 rfl ?_
        refine OJ.nil (EJ.next ?_)
        refine CJ.ret (EJ.skR (?_))
        obtain rfl := Option.some.inj H
        exact EJ.fin rfl (.tmp rfl .nil) ⟨rfl, hS.ext⟩
      · replace H := pifb_f hb H
        refine CJ.skip (EJ.next ?_)
        refine CJ.seq ?_
        refine CJ.region ?_
        refine OJ.pures tU_ok 1 rfl ?_
        refine OJ.nil (EJ.next ?_)
        refine CJ.ret (?_)
        obtain rfl := Option.some.inj H
        exact EJ.fin rfl (.tmp rfl .nil) ⟨rfl, hS.ext⟩

def laws_toInt64S.l1 (a0 : List Int) : Nat → (List Int) → Int → Option (List Int)
  | 0, _, _ => none
  | k + 1, y4, y5 => if y5 < (a0.length : Int) then ((getI a0 y5).bind fun t6 => (getI y4 y5).bind fun t7 => laws_toInt64S.l1 a0 k (y4.set y5.toNat t6) (IntKind.i64.wrap (y5 + 1))) else (some y4)
def laws_toInt64S.f (k : Nat) (a0 : List Int) : Option (List Int) := (chk (0 ≤ (a0.length : Int) ∧ (a0.length : Int) ≤ 4294967296)).bind fun u1 => (laws_toInt64S.l1 a0 k (List.replicate (a0.length : Int).toNat 0) 0).bind fun y3 => some y3
theorem laws_toInt64S.c (k : Nat) (w : World) (Aa0 : Option Addr) (ca0 : Nat) (a0 : List Int) (hr0 : Rd (ci .i64) w Aa0 a0) (hc0 : a0.length ≤ ca0) (r : List Int) (H : laws_toInt64S.f k a0 = some r) :
    CV Try.prog 23 [.slice Aa0 a0.length ca0].toArray w fun v w' => ∃ (A0 : Option Addr) (c0 : Nat), v = .slice A0 r.length c0 ∧ St w no w' [rowC (ci .i64) A0 c0 2 r] [] := by
  have hS := ((St.init w no).param (ci .i64) Aa0 ca0 a0 hr0 hc0)
  unfold laws_toInt64S.f at H
  refine CV.body Try.func23 rfl Try.ntmps23 rfl ?_
  refine CJ.seq ?_
  refine CJ.region ?_
  refine OJ.pures tU_ok 1 rfl ?_
  refine OJ.nil (EJ.next ?_)
  refine CJ.seq ?_
  refine CJ.region ?_
  refine OJ.pures tU_ok 2 rfl ?_
  obtain ⟨u1, hu1, H⟩ := pbind H
  refine OJ.ef rfl rfl rfl (Ef.make tU_ok tI_ok hS (C := (ci .i64)) rfl rfl rfl rfl rfl rfl rfl rfl (chk_some hu1) 0 rfl) ?_
  rintro _ w1 ⟨A2, rfl, hS⟩
  refine OJ.pures tU_ok 1 rfl ?_
  refine OJ.nil (EJ.next ?_)
  refine CJ.seq ?_
  refine CJ.seq ?_
  refine CJ.region ?_
  refine OJ.pures tU_ok 1 rfl ?_
  refine OJ.nil (EJ.next ?_)
  obtain ⟨j7, H, K7⟩ := pbind H
  refine CJ.cut1 (fun F w1 => ∃ (y3 : List Int) , (some y3 : Option (List Int)) = some j7 ∧ F = [(3, .slice A2 y3.length ((a0.length : Int).toNat))] ∧ St w no w1 [rowC (ci .i64) A2 ((a0.length : Int).toNat) 2 y3] [roC (ci .i64) Aa0 ca0 a0]) ?_ ?_
  · skip
    refine CJ.block ?_
    refine CJ.loop (fun k F w1 => ∃ (y4 : List Int) (y5 : Int), F = [(0, .slice Aa0 a0.length ca0), (3, .slice A2 y4.length ((a0.length : Int).toNat)), (4, .int .i64 y5)] ∧ St w no w1 [rowC (ci .i64) A2 ((a0.length : Int).toNat) 2 y4] [roC (ci .i64) Aa0 ca0 a0] ∧ laws_toInt64S.l1 a0 k y4 y5 = some j7) k (F' := [(0, .slice Aa0 a0.length ca0), (3, .slice A2 (List.replicate (a0.length : Int).toNat 0).length ((a0.length : Int).toNat)), (4, .int .i64 0)]) ⟨rfl, rfl, rfl, trivial⟩ ⟨(List.replicate (a0.length : Int).toNat 0), 0, rfl, hS.pick [0] [0] rfl, H⟩ ?_
    rintro k F w1 ⟨y4, y5, rfl, hS, H⟩
    cases k with
    | zero => rw [laws_toInt64S.l1] at H; cases H
    | succ k =>
      rw [laws_toInt64S.l1] at H
      refine CJ.seq ?_
      refine CJ.seq ?_
      refine CJ.region ?_
      refine OJ.pures tU_ok 4 rfl ?_
      refine OJ.nil (EJ.next ?_)
      refine CJ.cond rfl (fun hb => ?_) (fun hb => ?_)
      · replace H := pif_t (of_decide_eq_true hb) H
        refine CJ.skip (EJ.next ?_)
        refine CJ.seq ?_
        refine CJ.block ?_
        refine CJ.region ?_
        refine OJ.pures tU_ok 4 rfl ?_
        obtain ⟨t6, ht6, H⟩ := pbind H
        obtain ⟨ad6, e6⟩ := (hS.rd' (i := 0) rfl).some' ht6
        refine OJ.st rfl rfl rfl (SR.idxS tU_ok tI_ok rfl rfl rfl rfl e6 rfl (getI_some ht6).1) ?_
        refine OJ.st rfl rfl rfl (SR.load rfl rfl (fun w' hx => ld1 tU_ok rfl rfl (CA.ext ((hS.rd' (i := 0) rfl).at_ e6 ht6) hx) rfl)) ?_
        obtain ⟨t7, ht7, H⟩ := pbind H
        obtain ⟨ad7, e7⟩ := (hS.rd (i := 0) rfl).some' ht7
        refine OJ.st rfl rfl rfl (SR.idxS tU_ok tI_ok rfl rfl rfl rfl e7 rfl (getI_some ht7).1) ?_
        refine OJ.es rfl rfl (Es.storeR tI_ok hS (i := 0) (off := 0) rfl rfl ht7 e7 rfl rfl rfl rfl (vs := (ci .i64).enc t6) rfl rfl (one1 rfl) (Nat.le_of_ble_eq_true rfl) t6 rfl) ?_
        intro w1 hS
        refine OJ.as (t := 3) rfl (slL _ _ _ y5.toNat t6) ?_
        refine OJ.as (t := 14) rfl (slL _ _ _ y5.toNat t6) ?_
        refine OJ.nil (EJ.blk (EJ.next ?_))
        refine CJ.region ?_
        refine OJ.pures tU_ok 3 rfl ?_
        refine OJ.nil ?_
        exact EJ.round k (F' := [(0, .slice Aa0 a0.length ca0), (3, .slice A2 (y4.set y5.toNat t6).length ((a0.length : Int).toNat)), (4, .int .i64 (IntKind.i64.wrap (y5 + 1)))]) ⟨rfl, rfl, rfl, trivial⟩ (Nat.lt_succ_self _) ⟨(y4.set y5.toNat t6), (IntKind.i64.wrap (y5 + 1)), rfl, hS.pick [0] [0] rfl, H⟩
      · replace H := pif_f (of_decide_eq_false hb) H
        refine CJ.exit (EJ.skE (EJ.skE (EJ.hit (?_))))
        exact EJ.meet (F' := [(3, .slice A2 y4.length ((a0.length : Int).toNat))]) ⟨rfl, trivial⟩ ⟨y4, H, rfl, hS.pick [0] [0] rfl⟩
  · rintro F w1 ⟨y3, he, rfl, hS⟩
    obtain rfl := Option.some.inj he
    have H := K7
    refine EJ.next ?_
    refine CJ.seq ?_
    refine CJ.region ?_
    refine OJ.pures tU_ok 2 rfl ?_
    refine OJ.nil (EJ.next ?_)
    refine CJ.ret (?_)
    obtain rfl := Option.some.inj H
    exact EJ.fin rfl (.tmp rfl .nil) ⟨A2, ((a0.length : Int).toNat), rfl, hS.pick [0] [] rfl⟩

def spec_RestsOf.l1 (a0 : List Int) : Nat → Bool → Int → Option Bool
  | 0, _, _ => none
  | k + 1, y4, y5 => if y5 < (a0.length : Int) then (if y4 = true then ((getI a0 y5).bind fun t6 => (spec_l00In.f t6 0 5).bind fun t7 => spec_RestsOf.l1 a0 k t7 (IntKind.i64.wrap (y5 + 1))) else (spec_RestsOf.l1 a0 k false (IntKind.i64.wrap (y5 + 1)))) else (some y4)
def spec_RestsOf.l2 (a0 : List Int) (a1 : Int) : Nat → (List Int) → Int → Int → Option (List Int)
  | 0, _, _, _ => none
  | k + 1, y13, y16, y17 => if y17 < (a0.length : Int) then ((getI a0 y17).bind fun t18 => if t18 ≠ a1 then (spec_RestsOf.l2 a0 a1 k y13 y16 (IntKind.i64.wrap (y17 + 1))) else (if 0 ≤ y16 then ((chk (y13.length + ([IntKind.i64.wrap ((IntKind.i64.wrap (y17 - y16)) - 1)] : List Int).length ≤ 4294967296)).bind fun u20 => spec_RestsOf.l2 a0 a1 k (y13 ++ ([IntKind.i64.wrap ((IntKind.i64.wrap (y17 - y16)) - 1)] : List Int)) y17 (IntKind.i64.wrap (y17 + 1))) else (spec_RestsOf.l2 a0 a1 k y13 y17 (IntKind.i64.wrap (y17 + 1))))) else (some y13)
def spec_RestsOf.f (k : Nat) (a0 : List Int) (a1 : Int) : Option (List Int × Int) := (if (a0.length : Int) ≤ 30 then ((spec_l00In.f a1 0 5).bind fun t2 => some t2) else (some false)).bind fun y1 => (spec_RestsOf.l1 a0 k y1 0).bind fun y3 => if (!y3) = true then (some (([] : List Int), 2)) else ((spec_RestsOf.l2 a0 a1 k ([] : List Int) (-1) 0).bind fun y10 => some (y10, 0))
theorem spec_RestsOf.c (k : Nat) (w : World) (Aa0 : Option Addr) (ca0 : Nat) (a0 : List Int) (hr0 : Rd (ci .i64) w Aa0 a0) (hc0 : a0.length ≤ ca0) (a1 : Int) (r : List Int × Int) (H : spec_RestsOf.f k a0 a1 = some r) :
    CV Try.prog 22 [.slice Aa0 a0.length ca0, .int .i64 a1].toArray w fun v w' => ∃ (A0 : Option Addr) (c0 : Nat), v = .tuple #[.slice A0 r.1.length c0, .int .i64 r.2] ∧ St w no w' [rowC (ci .i64) A0 c0 2 r.1] [] := by
  have hS := ((St.init w no).param (ci .i64) Aa0 ca0 a0 hr0 hc0)
  unfold spec_RestsOf.f at H
  refine CV.body Try.func22 rfl Try.ntmps22 rfl ?_
  refine CJ.seq ?_
  refine CJ.region ?_
  refine OJ.pures tU_ok 2 rfl ?_
  refine OJ.nil (EJ.next ?_)
  obtain ⟨j8, H, K8⟩ := pbind H
  refine CJ.cut (fun F w1 => ∃ (y1 : Bool) , (some y1 : Option Bool) = some j8 ∧ F = [(0, .slice Aa0 a0.length ca0), (1, .int .i64 a1), (6, .bool y1)] ∧ St w no w1 [] [roC (ci .i64) Aa0 ca0 a0]) ?_ ?_
  · skip
    refine CJ.region ?_
    refine OJ.pures tU_ok 4 rfl ?_
    refine OJ.split (t := 14) rfl (fun hb => ?_) (fun hb => ?_)
    · replace H := pif_t (of_decide_eq_true hb) H
      refine OJ.pures tU_ok 1 rfl ?_
      obtain ⟨t2, ht2, H⟩ := pbind H
      refine OJ.callF rfl rfl rfl rfl rfl hb56 rfl (spec_l00In.c _ a1 0 5 _ ht2) ?_
      rintro _ w1 ⟨rfl, hs⟩
      replace hS := hS.grow hs
      refine OJ.pures tU_ok 2 rfl ?_
      refine OJ.nil ?_
      exact EJ.meet (F' := [(0, .slice Aa0 a0.length ca0), (1, .int .i64 a1), (6, .bool t2)]) ⟨rfl, rfl, rfl, trivial⟩ ⟨t2, H, rfl, hS.pick [] [0] rfl⟩
    · replace H := pif_f (of_decide_eq_false hb) H
      refine OJ.pures tU_ok 4 rfl ?_
      refine OJ.nil ?_
      exact EJ.meet (F' := [(0, .slice Aa0 a0.length ca0), (1, .int .i64 a1), (6, .bool false)]) ⟨rfl, rfl, rfl, trivial⟩ ⟨false, H, rfl, hS.pick [] [0] rfl⟩
  · rintro F w1 ⟨y1, he, rfl, hS⟩
    obtain rfl := Option.some.inj he
    have H := K8
    refine CJ.seq ?_
    refine CJ.seq ?_
    refine CJ.region ?_
    refine OJ.pures tU_ok 1 rfl ?_
    refine OJ.nil (EJ.next ?_)
    obtain ⟨j9, H, K9⟩ := pbind H
    refine CJ.cut1 (fun F w1 => ∃ (y3 : Bool) , (some y3 : Option Bool) = some j9 ∧ F = [(0, .slice Aa0 a0.length ca0), (1, .int .i64 a1), (6, .bool y3)] ∧ St w no w1 [] [roC (ci .i64) Aa0 ca0 a0]) ?_ ?_
    · skip
      refine CJ.block ?_
      refine CJ.loop (fun k F w1 => ∃ (y4 : Bool) (y5 : Int), F = [(0, .slice Aa0 a0.length ca0), (1, .int .i64 a1), (6, .bool y4), (7, .int .i64 y5)] ∧ St w no w1 [] [roC (ci .i64) Aa0 ca0 a0] ∧ spec_RestsOf.l1 a0 k y4 y5 = some j9) k (F' := [(0, .slice Aa0 a0.length ca0), (1, .int .i64 a1), (6, .bool y1), (7, .int .i64 0)]) ⟨rfl, rfl, rfl, rfl, trivial⟩ ⟨y1, 0, rfl, hS.pick [] [0] rfl, H⟩ ?_
      rintro k F w1 ⟨y4, y5, rfl, hS, H⟩
      cases k with
      | zero => rw [spec_RestsOf.l1] at H; cases H
      | succ k =>
        rw [spec_RestsOf.l1] at H
        refine CJ.seq ?_
        refine CJ.seq ?_
        refine CJ.region ?_
        refine OJ.pures tU_ok 4 rfl ?_
        refine OJ.nil (EJ.next ?_)
        refine CJ.cond rfl (fun hb => ?_) (fun hb => ?_)
        · replace H := pif_t (of_decide_eq_true hb) H
          refine CJ.skip (EJ.next ?_)
          refine CJ.seq ?_
          refine CJ.block ?_
          refine CJ.region ?_
          refine OJ.pures tU_ok 2 rfl ?_
          refine OJ.split (t := 25) rfl (fun hb => ?_) (fun hb => ?_)
          · replace H := pif_t hb H
            refine OJ.pures tU_ok 2 rfl ?_
            obtain ⟨t6, ht6, H⟩ := pbind H
            obtain ⟨ad6, e6⟩ := (hS.rd' (i := 0) rfl).some' ht6
            refine OJ.st rfl rfl rfl (SR.idxS tU_ok tI_ok rfl rfl rfl rfl e6 rfl (getI_some ht6).1) ?_
            refine OJ.st rfl rfl rfl (SR.load rfl rfl (fun w' hx => ld1 tU_ok rfl rfl (CA.ext ((hS.rd' (i := 0) rfl).at_ e6 ht6) hx) rfl)) ?_
            obtain ⟨t7, ht7, H⟩ := pbind H
            refine OJ.callF rfl rfl rfl rfl rfl hb56 rfl (spec_l00In.c _ t6 0 5 _ ht7) ?_
            rintro _ w1 ⟨rfl, hs⟩
            replace hS := hS.grow hs
            refine OJ.pures tU_ok 2 rfl ?_
            refine OJ.nil (EJ.blk (EJ.next ?_))
            refine CJ.region ?_
            refine OJ.pures tU_ok 3 rfl ?_
            refine OJ.nil ?_
            exact EJ.round k (F' := [(0, .slice Aa0 a0.length ca0), (1, .int .i64 a1), (6, .bool t7), (7, .int .i64 (IntKind.i64.wrap (y5 + 1)))]) ⟨rfl, rfl, rfl, rfl, trivial⟩ (Nat.lt_succ_self _) ⟨t7, (IntKind.i64.wrap (y5 + 1)), rfl, hS.pick [] [0] rfl, H⟩
          · replace H := pifb_f hb H
            refine OJ.pures tU_ok 7 rfl ?_
            refine OJ.nil (EJ.blk (EJ.next ?_))
            refine CJ.region ?_
            refine OJ.pures tU_ok 3 rfl ?_
            refine OJ.nil ?_
            exact EJ.round k (F' := [(0, .slice Aa0 a0.length ca0), (1, .int .i64 a1), (6, .bool false), (7, .int .i64 (IntKind.i64.wrap (y5 + 1)))]) ⟨rfl, rfl, rfl, rfl, trivial⟩ (Nat.lt_succ_self _) ⟨false, (IntKind.i64.wrap (y5 + 1)), rfl, hS.pick [] [0] rfl, H⟩
        · replace H := pif_f (of_decide_eq_false hb) H
          refine CJ.exit (EJ.skE (EJ.skE (EJ.hit (?_))))
          exact EJ.meet (F' := [(0, .slice Aa0 a0.length ca0), (1, .int .i64 a1), (6, .bool y4)]) ⟨rfl, rfl, rfl, trivial⟩ ⟨y4, H, rfl, hS.pick [] [0] rfl⟩
    · rintro F w1 ⟨y3, he, rfl, hS⟩
      obtain rfl := Option.some.inj he
      have H := K9
      refine EJ.next ?_
      refine CJ.seq ?_
      refine CJ.seq ?_
      refine CJ.region ?_
      refine OJ.pures tU_ok 2 rfl ?_
      refine OJ.nil (EJ.next ?_)
      refine CJ.cond rfl (fun hb => ?_) (fun hb => ?_)
      · replace H := pif_t hb H
        refine CJ.seq ?_
        refine CJ.region ?_
        refine OJ.ef rfl rfl rfl (Ef.lit tU_ok tI_ok hS (C := (ci .i64)) rfl rfl rfl rfl rfl rfl ([] : List Int) rfl rfl rfl rfl) ?_
        rintro _ w1 ⟨A8, rfl, hS⟩
        refine OJ.pures tU_ok 2 rfl ?_
        refine OJ.nil (EJ.next ?_)
        refine CJ.ret (EJ.skR (?_))
        obtain rfl := Option.some.inj H
        exact EJ.fin rfl (.tmp rfl (.tmp rfl .nil)) ⟨A8, (([] : List Int).length), rfl, hS.pick [0] [] rfl⟩
      · replace H := pifb_f hb H
        refine CJ.skip (EJ.next ?_)
        refine CJ.seq ?_
        refine CJ.region ?_
        refine OJ.ef rfl rfl rfl (Ef.lit tU_ok tI_ok hS (C := (ci .i64)) rfl rfl rfl rfl rfl rfl ([] : List Int) rfl rfl rfl rfl) ?_
        rintro _ w1 ⟨A9, rfl, hS⟩
        refine OJ.pures tU_ok 1 rfl ?_
        refine OJ.nil (EJ.next ?_)
        refine CJ.seq ?_
        refine CJ.region ?_
        refine OJ.pures tU_ok 1 rfl ?_
        refine OJ.nil (EJ.next ?_)
        refine CJ.seq ?_
        refine CJ.seq ?_
        refine CJ.region ?_
        refine OJ.pures tU_ok 1 rfl ?_
        refine OJ.nil (EJ.next ?_)
        obtain ⟨j10, H, K10⟩ := pbind H
        refine CJ.cut1 (fun F w1 => ∃ (y10 : List Int) (A11 : Option Addr) (c12 : Nat), (some y10 : Option (List Int)) = some j10 ∧ F = [(8, .slice A11 y10.length c12)] ∧ St w no w1 [rowC (ci .i64) A11 c12 2 y10] [roC (ci .i64) Aa0 ca0 a0]) ?_ ?_
        · skip
          refine CJ.block ?_
          refine CJ.loop (fun k F w1 => ∃ (y13 : List Int) (y16 : Int) (y17 : Int) (A14 : Option Addr) (c15 : Nat), F = [(0, .slice Aa0 a0.length ca0), (1, .int .i64 a1), (8, .slice A14 y13.length c15), (9, .int .i64 y16), (10, .int .i64 y17)] ∧ St w no w1 [rowC (ci .i64) A14 c15 2 y13] [roC (ci .i64) Aa0 ca0 a0] ∧ spec_RestsOf.l2 a0 a1 k y13 y16 y17 = some j10) k (F' := [(0, .slice Aa0 a0.length ca0), (1, .int .i64 a1), (8, .slice A9 ([] : List Int).length (([] : List Int).length)), (9, .int .i64 (-1)), (10, .int .i64 0)]) ⟨rfl, rfl, rfl, rfl, rfl, trivial⟩ ⟨([] : List Int), (-1), 0, A9, (([] : List Int).length), rfl, hS.pick [0] [0] rfl, H⟩ ?_
          rintro k F w1 ⟨y13, y16, y17, A14, c15, rfl, hS, H⟩
          cases k with
          | zero => rw [spec_RestsOf.l2] at H; cases H
          | succ k =>
            rw [spec_RestsOf.l2] at H
            refine CJ.seq ?_
            refine CJ.seq ?_
            refine CJ.region ?_
            refine OJ.pures tU_ok 4 rfl ?_
            refine OJ.nil (EJ.next ?_)
            refine CJ.cond rfl (fun hb => ?_) (fun hb => ?_)
            · replace H := pif_t (of_decide_eq_true hb) H
              refine CJ.skip (EJ.next ?_)
              refine CJ.seq ?_
              refine CJ.block ?_
              refine CJ.seq ?_
              refine CJ.seq ?_
              refine CJ.region ?_
              refine OJ.pures tU_ok 2 rfl ?_
              obtain ⟨t18, ht18, H⟩ := pbind H
              obtain ⟨ad18, e18⟩ := (hS.rd' (i := 0) rfl).some' ht18
              refine OJ.st rfl rfl rfl (SR.idxS tU_ok tI_ok rfl rfl rfl rfl e18 rfl (getI_some ht18).1) ?_
              refine OJ.st rfl rfl rfl (SR.load rfl rfl (fun w' hx => ld1 tU_ok rfl rfl (CA.ext ((hS.rd' (i := 0) rfl).at_ e18 ht18) hx) rfl)) ?_
              refine OJ.pures tU_ok 2 rfl ?_
              refine OJ.nil (EJ.next ?_)
              refine CJ.cond rfl (fun hb => ?_) (fun hb => ?_)
              · replace H := pif_t (of_decide_eq_true hb) H
                refine CJ.exit (EJ.skE (EJ.hit (EJ.next ?_)))
                refine CJ.region ?_
                refine OJ.pures tU_ok 3 rfl ?_
                refine OJ.nil ?_
                exact EJ.round k (F' := [(0, .slice Aa0 a0.length ca0), (1, .int .i64 a1), (8, .slice A14 y13.length c15), (9, .int .i64 y16), (10, .int .i64 (IntKind.i64.wrap (y17 + 1)))]) ⟨rfl, rfl, rfl, rfl, rfl, trivial⟩ (Nat.lt_succ_self _) ⟨y13, y16, (IntKind.i64.wrap (y17 + 1)), A14, c15, rfl, hS.pick [0] [0] rfl, H⟩
              · replace H := pif_f (of_decide_eq_false hb) H
                refine CJ.skip (EJ.next ?_)
                refine CJ.seq ?_
                refine CJ.seq ?_
                refine CJ.region ?_
                refine OJ.pures tU_ok 2 rfl ?_
                refine OJ.nil (EJ.next ?_)
                refine CJ.cond rfl (fun hb => ?_) (fun hb => ?_)
                · replace H := pif_t (of_decide_eq_true hb) H
                  refine CJ.region ?_
                  refine OJ.pures tU_ok 5 rfl ?_
                  refine OJ.ef rfl rfl rfl (Ef.lit tU_ok tI_ok hS (C := (ci .i64)) rfl rfl rfl rfl rfl rfl ([IntKind.i64.wrap ((IntKind.i64.wrap (y17 - y16)) - 1)] : List Int) rfl rfl rfl rfl) ?_
                  rintro _ w1 ⟨A19, rfl, hS⟩
                  obtain ⟨u20, hu20, H⟩ := pbind H
                  refine OJ.ew rfl rfl rfl (Ew.append tU_ok tI_ok (C := (ci .i64)) (xs := y13) (ys := ([IntKind.i64.wrap ((IntKind.i64.wrap (y17 - y16)) - 1)] : List Int)) hS (i := 0) rfl rfl rfl rfl rfl rfl rfl rfl rfl rfl rfl rfl rfl (hS.rd (i := 1) rfl) (chk_some hu20)) ?_
                  rintro _ w1 ⟨A21, c22, rfl, hS⟩
                  refine OJ.pures tU_ok 1 rfl ?_
                  refine OJ.nil (EJ.next ?_)
                  refine CJ.region ?_
                  refine OJ.pures tU_ok 2 rfl ?_
                  refine OJ.nil (EJ.blk (EJ.next ?_))
                  refine CJ.region ?_
                  refine OJ.pures tU_ok 3 rfl ?_
                  refine OJ.nil ?_
                  exact EJ.round k (F' := [(0, .slice Aa0 a0.length ca0), (1, .int .i64 a1), (8, .slice A21 (y13 ++ ([IntKind.i64.wrap ((IntKind.i64.wrap (y17 - y16)) - 1)] : List Int)).length c22), (9, .int .i64 y17), (10, .int .i64 (IntKind.i64.wrap (y17 + 1)))]) ⟨rfl, rfl, rfl, rfl, rfl, trivial⟩ (Nat.lt_succ_self _) ⟨(y13 ++ ([IntKind.i64.wrap ((IntKind.i64.wrap (y17 - y16)) - 1)] : List Int)), y17, (IntKind.i64.wrap (y17 + 1)), A21, c22, rfl, hS.pick [0] [0] rfl, H⟩
                · replace H := pif_f (of_decide_eq_false hb) H
                  refine CJ.skip (EJ.next ?_)
                  refine CJ.region ?_
                  refine OJ.pures tU_ok 2 rfl ?_
                  refine OJ.nil (EJ.blk (EJ.next ?_))
                  refine CJ.region ?_
                  refine OJ.pures tU_ok 3 rfl ?_
                  refine OJ.nil ?_
                  exact EJ.round k (F' := [(0, .slice Aa0 a0.length ca0), (1, .int .i64 a1), (8, .slice A14 y13.length c15), (9, .int .i64 y17), (10, .int .i64 (IntKind.i64.wrap (y17 + 1)))]) ⟨rfl, rfl, rfl, rfl, rfl, trivial⟩ (Nat.lt_succ_self _) ⟨y13, y17, (IntKind.i64.wrap (y17 + 1)), A14, c15, rfl, hS.pick [0] [0] rfl, H⟩
            · replace H := pif_f (of_decide_eq_false hb) H
              refine CJ.exit (EJ.skE (EJ.skE (EJ.hit (?_))))
              exact EJ.meet (F' := [(8, .slice A14 y13.length c15)]) ⟨rfl, trivial⟩ ⟨y13, A14, c15, H, rfl, hS.pick [0] [0] rfl⟩
        · rintro F w1 ⟨y10, A11, c12, he, rfl, hS⟩
          obtain rfl := Option.some.inj he
          have H := K10
          refine EJ.next ?_
          refine CJ.seq ?_
          refine CJ.region ?_
          refine OJ.pures tU_ok 3 rfl ?_
          refine OJ.nil (EJ.next ?_)
          refine CJ.ret (?_)
          obtain rfl := Option.some.inj H
          exact EJ.fin rfl (.tmp rfl (.tmp rfl .nil)) ⟨A11, c12, rfl, hS.pick [0] [] rfl⟩

def impl_RestsOf.l1 (a0 : List Int) (a1 : Int) : Nat → Int → Option ((List Int × Int) ⊕ Unit)
  | 0, _ => none
  | k + 1, y5 => if y5 < ((([a1] : List Int) ++ a0).length : Int) then ((getI (([a1] : List Int) ++ a0) y5).bind fun t6 => (impl_within.f t6 0 5).bind fun t7 => if (!t7) = true then (some (Sum.inl ([], 2))) else (if 30 < (a0.length : Int) then (some (Sum.inl ([], 2))) else (impl_RestsOf.l1 a0 a1 k (IntKind.i64.wrap (y5 + 1))))) else (some (Sum.inr ()))
def impl_RestsOf.l2 (a0 : List Int) (a1 : Int) : Nat → (List Int) → Int → Int → Option (List Int)
  | 0, _, _, _ => none
  | k + 1, y12, y15, y16 => if y16 < (a0.length : Int) then ((getI a0 y16).bind fun t17 => if t17 ≠ a1 then (impl_RestsOf.l2 a0 a1 k y12 y15 (IntKind.i64.wrap (y16 + 1))) else (if 0 ≤ y15 then ((chk (y12.length + ([IntKind.i64.wrap ((IntKind.i64.wrap (y16 - y15)) - 1)] : List Int).length ≤ 4294967296)).bind fun u19 => impl_RestsOf.l2 a0 a1 k (y12 ++ ([IntKind.i64.wrap ((IntKind.i64.wrap (y16 - y15)) - 1)] : List Int)) y16 (IntKind.i64.wrap (y16 + 1))) else (impl_RestsOf.l2 a0 a1 k y12 y16 (IntKind.i64.wrap (y16 + 1))))) else (some y12)
def impl_RestsOf.f (k : Nat) (a0 : List Int) (a1 : Int) : Option (List Int × Int) := (chk (([a1] : List Int).length + a0.length ≤ 4294967296)).bind fun u2 => (impl_RestsOf.l1 a0 a1 k 0).bind fun s11 => match s11 with | .inl r => some r | .inr _ => (impl_RestsOf.l2 a0 a1 k ([] : List Int) (-1) 0).bind fun y9 => some (y9, 0)
theorem impl_RestsOf.c (k : Nat) (w : World) (Aa0 : Option Addr) (ca0 : Nat) (a0 : List Int) (hr0 : Rd (ci .i64) w Aa0 a0) (hc0 : a0.length ≤ ca0) (a1 : Int) (r : List Int × Int) (H : impl_RestsOf.f k a0 a1 = some r) :
    CV Try.prog 24 [.slice Aa0 a0.length ca0, .int .i64 a1].toArray w fun v w' => ∃ (A0 : Option Addr) (c0 : Nat), v = .tuple #[.slice A0 r.1.length c0, .int .i64 r.2] ∧ St w no w' [rowC (ci .i64) A0 c0 2 r.1] [] := by
  have hS := ((St.init w no).param (ci .i64) Aa0 ca0 a0 hr0 hc0)
  unfold impl_RestsOf.f at H
  refine CV.body Try.func24 rfl Try.ntmps24 rfl ?_
  refine CJ.seq ?_
  refine CJ.region ?_
  refine OJ.pures tU_ok 2 rfl ?_
  refine OJ.nil (EJ.next ?_)
  refine CJ.seq ?_
  refine CJ.seq ?_
  refine CJ.region ?_
  refine OJ.pures tU_ok 1 rfl ?_
  refine OJ.ef rfl rfl rfl (Ef.lit tU_ok tI_ok hS (C := (ci .i64)) rfl rfl rfl rfl rfl rfl ([a1] : List Int) rfl rfl rfl rfl) ?_
  rintro _ w1 ⟨A1, rfl, hS⟩
  refine OJ.pures tU_ok 1 rfl ?_
  obtain ⟨u2, hu2, H⟩ := pbind H
  refine OJ.ew rfl rfl rfl (Ew.append tU_ok tI_ok (C := (ci .i64)) (xs := ([a1] : List Int)) (ys := a0) hS (i := 0) rfl rfl rfl rfl rfl rfl rfl rfl rfl rfl rfl rfl rfl (hS.rd' (i := 0) rfl) (chk_some hu2)) ?_
  rintro _ w1 ⟨A3, c4, rfl, hS⟩
  refine OJ.pures tU_ok 2 rfl ?_
  refine OJ.nil (EJ.next ?_)
  obtain ⟨j11, H, K11⟩ := pbind H
  refine CJ.cut1 (fun F w1 => (some (Sum.inr ()) : Option ((List Int × Int) ⊕ Unit)) = some j11 ∧ F = [(0, .slice Aa0 a0.length ca0), (1, .int .i64 a1)] ∧ St w no w1 [] [roC (ci .i64) Aa0 ca0 a0]) ?_ ?_
  · skip
    refine CJ.block ?_
    refine CJ.loop (fun k F w1 => ∃ (y5 : Int), F = [(0, .slice Aa0 a0.length ca0), (1, .int .i64 a1), (15, .slice A3 (([a1] : List Int) ++ a0).length c4), (16, .int .i64 ((([a1] : List Int) ++ a0).length : Int)), (17, .int .i64 y5)] ∧ St w no w1 [rowC (ci .i64) A3 c4 2 (([a1] : List Int) ++ a0)] [roC (ci .i64) Aa0 ca0 a0] ∧ impl_RestsOf.l1 a0 a1 k y5 = some j11) k (F' := [(0, .slice Aa0 a0.length ca0), (1, .int .i64 a1), (15, .slice A3 (([a1] : List Int) ++ a0).length c4), (16, .int .i64 ((([a1] : List Int) ++ a0).length : Int)), (17, .int .i64 0)]) ⟨rfl, rfl, rfl, rfl, rfl, trivial⟩ ⟨0, rfl, hS.pick [0] [0] rfl, H⟩ ?_
    rintro k F w1 ⟨y5, rfl, hS, H⟩
    cases k with
    | zero => rw [impl_RestsOf.l1] at H; cases H
    | succ k =>
      rw [impl_RestsOf.l1] at H
      refine CJ.seq ?_
      refine CJ.region ?_
      refine OJ.pures tU_ok 1 rfl ?_
      refine OJ.nil (EJ.next ?_)
      refine CJ.seq ?_
      refine CJ.cond rfl (fun hb => ?_) (fun hb => ?_)
      · replace H := pif_t (of_decide_eq_true hb) H
        refine CJ.skip (EJ.next ?_)
        refine CJ.seq ?_
        refine CJ.block ?_
        refine CJ.seq ?_
        refine CJ.region ?_
        obtain ⟨t6, ht6, H⟩ := pbind H
        obtain ⟨ad6, e6⟩ := (hS.rd (i := 0) rfl).some' ht6
        refine OJ.st rfl rfl rfl (SR.idxS tU_ok tI_ok rfl rfl rfl rfl e6 rfl (getI_some ht6).1) ?_
        refine OJ.st rfl rfl rfl (SR.load rfl rfl (fun w' hx => ld1 tU_ok rfl rfl (CA.ext ((hS.rd (i := 0) rfl).at_ e6 ht6) hx) rfl)) ?_
        refine OJ.pures tU_ok 1 rfl ?_
        refine OJ.nil (EJ.next ?_)
        refine CJ.seq ?_
        refine CJ.region ?_
        refine OJ.pures tU_ok 1 rfl ?_
        obtain ⟨t7, ht7, H⟩ := pbind H
        refine OJ.callF rfl rfl rfl rfl rfl hb52 rfl (impl_within.c _ t6 0 5 _ ht7) ?_
        rintro _ w1 ⟨rfl, hs⟩
        replace hS := hS.grow hs
        refine OJ.pures tU_ok 2 rfl ?_
        refine OJ.split (t := 24) rfl (fun hb => ?_) (fun hb => ?_)
        · replace H := pif_t hb H
          refine OJ.pures tU_ok 4 rfl ?_
          refine OJ.nil (EJ.next ?_)
          refine CJ.condT rfl ?_
          refine CJ.seq ?_
          refine CJ.region ?_
          refine OJ.pures tU_ok 2 rfl ?_
          refine OJ.nil (EJ.next ?_)
          refine CJ.ret (EJ.bkR (EJ.skR (EJ.skR (EJ.bkR (EJ.skR (EJ.skR (?_)))))))
          first | (obtain rfl := Option.some.inj H; have H := K11) | (obtain ⟨q11, H2, e11⟩ := pbind H; obtain rfl := Option.some.inj e11; obtain rfl := Option.some.inj K11; have H := H2)
          replace hS := hS.addNil (ci .i64) 2 none
          obtain rfl := Option.some.inj H
          exact EJ.fin rfl (.tmp rfl (.tmp rfl .nil)) ⟨none, 0, rfl, hS.pick [1] [] rfl⟩
        · replace H := pifb_f hb H
          refine OJ.pures tU_ok 4 rfl ?_
          refine OJ.nil (EJ.next ?_)
          refine CJ.cond rfl (fun hb => ?_) (fun hb => ?_)
          · replace H := pif_t (of_decide_eq_true hb) H
            refine CJ.seq ?_
            refine CJ.region ?_
            refine OJ.pures tU_ok 2 rfl ?_
            refine OJ.nil (EJ.next ?_)
            refine CJ.ret (EJ.bkR (EJ.skR (EJ.skR (EJ.bkR (EJ.skR (EJ.skR (?_)))))))
            first | (obtain rfl := Option.some.inj H; have H := K11) | (obtain ⟨q11, H2, e11⟩ := pbind H; obtain rfl := Option.some.inj e11; obtain rfl := Option.some.inj K11; have H := H2)
            replace hS := hS.addNil (ci .i64) 2 none
            obtain rfl := Option.some.inj H
            exact EJ.fin rfl (.tmp rfl (.tmp rfl .nil)) ⟨none, 0, rfl, hS.pick [1] [] rfl⟩
          · replace H := pif_f (of_decide_eq_false hb) H
            refine CJ.skip (EJ.blk (EJ.next ?_))
            refine CJ.region ?_
            refine OJ.pures tU_ok 2 rfl ?_
            refine OJ.nil ?_
            exact EJ.round k (F' := [(0, .slice Aa0 a0.length ca0), (1, .int .i64 a1), (15, .slice A3 (([a1] : List Int) ++ a0).length c4), (16, .int .i64 ((([a1] : List Int) ++ a0).length : Int)), (17, .int .i64 (IntKind.i64.wrap (y5 + 1)))]) ⟨rfl, rfl, rfl, rfl, rfl, trivial⟩ (Nat.lt_succ_self _) ⟨(IntKind.i64.wrap (y5 + 1)), rfl, hS.pick [0] [0] rfl, H⟩
      · replace H := pif_f (of_decide_eq_false hb) H
        refine CJ.exit (EJ.skE (EJ.skE (EJ.hit (?_))))
        exact EJ.meet (F' := [(0, .slice Aa0 a0.length ca0), (1, .int .i64 a1)]) ⟨rfl, rfl, trivial⟩ ⟨H, rfl, hS.pick [] [0] rfl⟩
  · rintro F w1 ⟨he, rfl, hS⟩
    obtain rfl := Option.some.inj he
    have H := K11
    refine EJ.next ?_
    refine CJ.seq ?_
    refine CJ.region ?_
    refine OJ.ef rfl rfl rfl (Ef.lit tU_ok tI_ok hS (C := (ci .i64)) rfl rfl rfl rfl rfl rfl ([] : List Int) rfl rfl rfl rfl) ?_
    rintro _ w1 ⟨A8, rfl, hS⟩
    refine OJ.pures tU_ok 2 rfl ?_
    refine OJ.nil (EJ.next ?_)
    refine CJ.seq ?_
    refine CJ.seq ?_
    refine CJ.region ?_
    refine OJ.pures tU_ok 3 rfl ?_
    refine OJ.nil (EJ.next ?_)
    obtain ⟨j12, H, K12⟩ := pbind H
    refine CJ.cut1 (fun F w1 => ∃ (y9 : List Int) (A10 : Option Addr) (c11 : Nat), (some y9 : Option (List Int)) = some j12 ∧ F = [(8, .slice A10 y9.length c11)] ∧ St w no w1 [rowC (ci .i64) A10 c11 2 y9] [roC (ci .i64) Aa0 ca0 a0]) ?_ ?_
    · skip
      refine CJ.block ?_
      refine CJ.loop (fun k F w1 => ∃ (y12 : List Int) (y15 : Int) (y16 : Int) (A13 : Option Addr) (c14 : Nat), F = [(1, .int .i64 a1), (8, .slice A13 y12.length c14), (9, .int .i64 y15), (31, .slice Aa0 a0.length ca0), (32, .int .i64 (a0.length : Int)), (33, .int .i64 y16)] ∧ St w no w1 [rowC (ci .i64) A13 c14 2 y12] [roC (ci .i64) Aa0 ca0 a0] ∧ impl_RestsOf.l2 a0 a1 k y12 y15 y16 = some j12) k (F' := [(1, .int .i64 a1), (8, .slice A8 ([] : List Int).length (([] : List Int).length)), (9, .int .i64 (-1)), (31, .slice Aa0 a0.length ca0), (32, .int .i64 (a0.length : Int)), (33, .int .i64 0)]) ⟨rfl, rfl, rfl, rfl, rfl, rfl, trivial⟩ ⟨([] : List Int), (-1), 0, A8, (([] : List Int).length), rfl, hS.pick [0] [0] rfl, H⟩ ?_
      rintro k F w1 ⟨y12, y15, y16, A13, c14, rfl, hS, H⟩
      cases k with
      | zero => rw [impl_RestsOf.l2] at H; cases H
      | succ k =>
        rw [impl_RestsOf.l2] at H
        refine CJ.seq ?_
        refine CJ.region ?_
        refine OJ.pures tU_ok 1 rfl ?_
        refine OJ.nil (EJ.next ?_)
        refine CJ.seq ?_
        refine CJ.cond rfl (fun hb => ?_) (fun hb => ?_)
        · replace H := pif_t (of_decide_eq_true hb) H
          refine CJ.skip (EJ.next ?_)
          refine CJ.seq ?_
          refine CJ.block ?_
          refine CJ.seq ?_
          refine CJ.region ?_
          refine OJ.pures tU_ok 1 rfl ?_
          obtain ⟨t17, ht17, H⟩ := pbind H
          obtain ⟨ad17, e17⟩ := (hS.rd' (i := 0) rfl).some' ht17
          refine OJ.st rfl rfl rfl (SR.idxS tU_ok tI_ok rfl rfl rfl rfl e17 rfl (getI_some ht17).1) ?_
          refine OJ.st rfl rfl rfl (SR.load rfl rfl (fun w' hx => ld1 tU_ok rfl rfl (CA.ext ((hS.rd' (i := 0) rfl).at_ e17 ht17) hx) rfl)) ?_
          refine OJ.pures tU_ok 2 rfl ?_
          refine OJ.nil (EJ.next ?_)
          refine CJ.seq ?_
          refine CJ.seq ?_
          refine CJ.region ?_
          refine OJ.pures tU_ok 3 rfl ?_
          refine OJ.nil (EJ.next ?_)
          refine CJ.cond rfl (fun hb => ?_) (fun hb => ?_)
          · replace H := pif_t (of_decide_eq_true hb) H
            refine CJ.exit (EJ.skE (EJ.hit (EJ.next ?_)))
            refine CJ.region ?_
            refine OJ.pures tU_ok 2 rfl ?_
            refine OJ.nil ?_
            exact EJ.round k (F' := [(1, .int .i64 a1), (8, .slice A13 y12.length c14), (9, .int .i64 y15), (31, .slice Aa0 a0.length ca0), (32, .int .i64 (a0.length : Int)), (33, .int .i64 (IntKind.i64.wrap (y16 + 1)))]) ⟨rfl, rfl, rfl, rfl, rfl, rfl, trivial⟩ (Nat.lt_succ_self _) ⟨y12, y15, (IntKind.i64.wrap (y16 + 1)), A13, c14, rfl, hS.pick [0] [0] rfl, H⟩
          · replace H := pif_f (of_decide_eq_false hb) H
            refine CJ.skip (EJ.next ?_)
            refine CJ.seq ?_
            refine CJ.seq ?_
            refine CJ.region ?_
            refine OJ.pures tU_ok 2 rfl ?_
            refine OJ.nil (EJ.next ?_)
            refine CJ.cond rfl (fun hb => ?_) (fun hb => ?_)
            · replace H := pif_t (of_decide_eq_true hb) H
              refine CJ.region ?_
              refine OJ.pures tU_ok 5 rfl ?_
              refine OJ.ef rfl rfl rfl (Ef.lit tU_ok tI_ok hS (C := (ci .i64)) rfl rfl rfl rfl rfl rfl ([IntKind.i64.wrap ((IntKind.i64.wrap (y16 - y15)) - 1)] : List Int) rfl rfl rfl rfl) ?_
              rintro _ w1 ⟨A18, rfl, hS⟩
              obtain ⟨u19, hu19, H⟩ := pbind H
              refine OJ.ew rfl rfl rfl (Ew.append tU_ok tI_ok (C := (ci .i64)) (xs := y12) (ys := ([IntKind.i64.wrap ((IntKind.i64.wrap (y16 - y15)) - 1)] : List Int)) hS (i := 0) rfl rfl rfl rfl rfl rfl rfl rfl rfl rfl rfl rfl rfl (hS.rd (i := 1) rfl) (chk_some hu19)) ?_
              rintro _ w1 ⟨A20, c21, rfl, hS⟩
              refine OJ.pures tU_ok 1 rfl ?_
              refine OJ.nil (EJ.next ?_)
              refine CJ.region ?_
              refine OJ.pures tU_ok 2 rfl ?_
              refine OJ.nil (EJ.blk (EJ.next ?_))
              refine CJ.region ?_
              refine OJ.pures tU_ok 2 rfl ?_
              refine OJ.nil ?_
              exact EJ.round k (F' := [(1, .int .i64 a1), (8, .slice A20 (y12 ++ ([IntKind.i64.wrap ((IntKind.i64.wrap (y16 - y15)) - 1)] : List Int)).length c21), (9, .int .i64 y16), (31, .slice Aa0 a0.length ca0), (32, .int .i64 (a0.length : Int)), (33, .int .i64 (IntKind.i64.wrap (y16 + 1)))]) ⟨rfl, rfl, rfl, rfl, rfl, rfl, trivial⟩ (Nat.lt_succ_self _) ⟨(y12 ++ ([IntKind.i64.wrap ((IntKind.i64.wrap (y16 - y15)) - 1)] : List Int)), y16, (IntKind.i64.wrap (y16 + 1)), A20, c21, rfl, hS.pick [0] [0] rfl, H⟩
            · replace H := pif_f (of_decide_eq_false hb) H
              refine CJ.skip (EJ.next ?_)
              refine CJ.region ?_
              refine OJ.pures tU_ok 2 rfl ?_
              refine OJ.nil (EJ.blk (EJ.next ?_))
              refine CJ.region ?_
              refine OJ.pures tU_ok 2 rfl ?_
              refine OJ.nil ?_
              exact EJ.round k (F' := [(1, .int .i64 a1), (8, .slice A13 y12.length c14), (9, .int .i64 y16), (31, .slice Aa0 a0.length ca0), (32, .int .i64 (a0.length : Int)), (33, .int .i64 (IntKind.i64.wrap (y16 + 1)))]) ⟨rfl, rfl, rfl, rfl, rfl, rfl, trivial⟩ (Nat.lt_succ_self _) ⟨y12, y16, (IntKind.i64.wrap (y16 + 1)), A13, c14, rfl, hS.pick [0] [0] rfl, H⟩
        · replace H := pif_f (of_decide_eq_false hb) H
          refine CJ.exit (EJ.skE (EJ.skE (EJ.hit (?_))))
          exact EJ.meet (F' := [(8, .slice A13 y12.length c14)]) ⟨rfl, trivial⟩ ⟨y12, A13, c14, H, rfl, hS.pick [0] [0] rfl⟩
    · rintro F w1 ⟨y9, A10, c11, he, rfl, hS⟩
      obtain rfl := Option.some.inj he
      have H := K12
      refine EJ.next ?_
      refine CJ.seq ?_
      refine CJ.region ?_
      refine OJ.pures tU_ok 3 rfl ?_
      refine OJ.nil (EJ.next ?_)
      refine CJ.ret (?_)
      obtain rfl := Option.some.inj H
      exact EJ.fin rfl (.tmp rfl (.tmp rfl .nil)) ⟨A10, c11, rfl, hS.pick [0] [] rfl⟩

def laws_eqInt64S.l1 (a0 : List Int) (a1 : List Int) : Nat → Int → Option (Bool ⊕ Unit)
  | 0, _ => none
  | k + 1, y1 => if y1 < (a0.length : Int) then ((getI a0 y1).bind fun t2 => (getI a1 y1).bind fun t3 => if t2 ≠ t3 then (some (Sum.inl false)) else (laws_eqInt64S.l1 a0 a1 k (IntKind.i64.wrap (y1 + 1)))) else (some (Sum.inr ()))
def laws_eqInt64S.f (k : Nat) (a0 : List Int) (a1 : List Int) : Option Bool := if (a0.length : Int) ≠ (a1.length : Int) then (some false) else ((laws_eqInt64S.l1 a0 a1 k 0).bind fun s14 => match s14 with | .inl r => some r | .inr _ => some true)
theorem laws_eqInt64S.c (k : Nat) (w : World) (Aa0 : Option Addr) (ca0 : Nat) (a0 : List Int) (hr0 : Rd (ci .i64) w Aa0 a0) (hc0 : a0.length ≤ ca0) (Aa1 : Option Addr) (ca1 : Nat) (a1 : List Int) (hr1 : Rd (ci .i64) w Aa1 a1) (hc1 : a1.length ≤ ca1) (r : Bool) (H : laws_eqInt64S.f k a0 a1 = some r) :
    CV Try.prog 25 [.slice Aa0 a0.length ca0, .slice Aa1 a1.length ca1].toArray w fun v w' => v = .bool r ∧ Ext w w' := by
  have hS := (((St.init w no).param (ci .i64) Aa0 ca0 a0 hr0 hc0).param (ci .i64) Aa1 ca1 a1 hr1 hc1)
  unfold laws_eqInt64S.f at H
  refine CV.body Try.func25 rfl Try.ntmps25 rfl ?_
  refine CJ.seq ?_
  refine CJ.region ?_
  refine OJ.pures tU_ok 1 rfl ?_
  refine OJ.nil (EJ.next ?_)
  refine CJ.seq ?_
  refine CJ.seq ?_
  refine CJ.region ?_
  refine OJ.pures tU_ok 5 rfl ?_
  refine OJ.nil (EJ.next ?_)
  refine CJ.cond rfl (fun hb => ?_) (fun hb => ?_)
  · replace H := pif_t (of_decide_eq_true hb) H
    refine CJ.seq ?_
    refine CJ.region ?_
    refine OJ.pures tU_ok 1 rfl ?_
    refine OJ.nil (EJ.next ?_)
    refine CJ.ret (EJ.skR (?_))
    obtain rfl := Option.some.inj H
    exact EJ.fin rfl (.tmp rfl .nil) ⟨rfl, hS.ext⟩
  · replace H := pif_f (of_decide_eq_false hb) H
    refine CJ.skip (EJ.next ?_)
    refine CJ.seq ?_
    refine CJ.seq ?_
    refine CJ.region ?_
    refine OJ.pures tU_ok 1 rfl ?_
    refine OJ.nil (EJ.next ?_)
    obtain ⟨j14, H, K14⟩ := pbind H
    refine CJ.cut1 (fun F w1 => (some (Sum.inr ()) : Option (Bool ⊕ Unit)) = some j14 ∧ F = [] ∧ St w no w1 [] [roC (ci .i64) Aa0 ca0 a0, roC (ci .i64) Aa1 ca1 a1]) ?_ ?_
    · skip
      refine CJ.block ?_
      refine CJ.loop (fun k F w1 => ∃ (y1 : Int), F = [(0, .slice Aa0 a0.length ca0), (1, .slice Aa1 a1.length ca1), (5, .int .i64 y1)] ∧ St w no w1 [] [roC (ci .i64) Aa0 ca0 a0, roC (ci .i64) Aa1 ca1 a1] ∧ laws_eqInt64S.l1 a0 a1 k y1 = some j14) k (F' := [(0, .slice Aa0 a0.length ca0), (1, .slice Aa1 a1.length ca1), (5, .int .i64 0)]) ⟨rfl, rfl, rfl, trivial⟩ ⟨0, rfl, hS.pick [] [0, 1] rfl, H⟩ ?_
      rintro k F w1 ⟨y1, rfl, hS, H⟩
      cases k with
      | zero => rw [laws_eqInt64S.l1] at H; cases H
      | succ k =>
        rw [laws_eqInt64S.l1] at H
        refine CJ.seq ?_
        refine CJ.seq ?_
        refine CJ.region ?_
        refine OJ.pures tU_ok 4 rfl ?_
        refine OJ.nil (EJ.next ?_)
        refine CJ.cond rfl (fun hb => ?_) (fun hb => ?_)
        · replace H := pif_t (of_decide_eq_true hb) H
          refine CJ.skip (EJ.next ?_)
          refine CJ.seq ?_
          refine CJ.block ?_
          refine CJ.seq ?_
          refine CJ.draw [] [0, 1, 2, 3, 4, 5, 6, 7, 8] mixed (by kernel_rfl) hS fun w1 hS => ?_
          refine DJ.pures tU_ok 2 rfl ?_
          obtain ⟨t2, ht2, H⟩ := pbind H
          obtain ⟨ad2, e2⟩ := (hS.rd' (i := 0) rfl).some' ht2
          refine DJ.st rfl rfl rfl rfl rfl (SR.idxS tU_ok tI_ok rfl rfl rfl rfl e2 rfl (getI_some ht2).1) ?_
          refine DJ.st rfl rfl rfl rfl rfl (SR.load rfl rfl (fun w' hx => ld1 tU_ok rfl rfl (CA.ext ((hS.rd' (i := 0) rfl).at_ e2 ht2) hx) rfl)) ?_
          refine DJ.pures tU_ok 2 rfl ?_
          obtain ⟨t3, ht3, H⟩ := pbind H
          obtain ⟨ad3, e3⟩ := (hS.rd' (i := 1) rfl).some' ht3
          refine DJ.st rfl rfl rfl rfl rfl (SR.idxS tU_ok tI_ok rfl rfl rfl rfl e3 rfl (getI_some ht3).1) ?_
          refine DJ.st rfl rfl rfl rfl rfl (SR.load rfl rfl (fun w' hx => ld1 tU_ok rfl rfl (CA.ext ((hS.rd' (i := 1) rfl).at_ e3 ht3) hx) rfl)) ?_
          refine DJ.pures tU_ok 1 rfl ?_
          refine DJ.nil (EJ.next ?_)
          refine CJ.cond rfl (fun hb => ?_) (fun hb => ?_)
          · replace H := pif_t (of_decide_eq_true hb) H
            refine CJ.seq ?_
            refine CJ.region ?_
            refine OJ.pures tU_ok 1 rfl ?_
            refine OJ.nil (EJ.next ?_)
            refine CJ.ret (EJ.bkR (EJ.skR (EJ.skR (EJ.bkR (EJ.skR (EJ.skR (?_)))))))
            first | (obtain rfl := Option.some.inj H; have H := K14) | (obtain ⟨q14, H2, e14⟩ := pbind H; obtain rfl := Option.some.inj e14; obtain rfl := Option.some.inj K14; have H := H2)
            obtain rfl := Option.some.inj H
            exact EJ.fin rfl (.tmp rfl .nil) ⟨rfl, hS.ext⟩
          · replace H := pif_f (of_decide_eq_false hb) H
            refine CJ.skip (EJ.blk (EJ.next ?_))
            refine CJ.region ?_
            refine OJ.pures tU_ok 3 rfl ?_
            refine OJ.nil ?_
            exact EJ.round k (F' := [(0, .slice Aa0 a0.length ca0), (1, .slice Aa1 a1.length ca1), (5, .int .i64 (IntKind.i64.wrap (y1 + 1)))]) ⟨rfl, rfl, rfl, trivial⟩ (Nat.lt_succ_self _) ⟨(IntKind.i64.wrap (y1 + 1)), rfl, hS.pick [] [0, 1] rfl, H⟩
        · replace H := pif_f (of_decide_eq_false hb) H
          refine CJ.exit (EJ.skE (EJ.skE (EJ.hit (?_))))
          exact EJ.meet (F' := []) trivial ⟨H, rfl, hS.pick [] [0, 1] rfl⟩
    · rintro F w1 ⟨he, rfl, hS⟩
      obtain rfl := Option.some.inj he
      have H := K14
      refine EJ.next ?_
      refine CJ.seq ?_
      refine CJ.region ?_
      refine OJ.pures tU_ok 1 rfl ?_
      refine OJ.nil (EJ.next ?_)
      refine CJ.ret (?_)
      obtain rfl := Option.some.inj H
      exact EJ.fin rfl (.tmp rfl .nil) ⟨rfl, hS.ext⟩

def laws_markInt64S.l1 (a0 : List Int) : Nat → (List Int) → Int → Int → Option ((List Int) × Int)
  | 0, _, _, _ => none
  | k + 1, y3, y4, y5 => if y5 < (a0.length : Int) then ((getI y3 y5).bind fun t6 => laws_markInt64S.l1 a0 k (y3.set y5.toNat y4) (IntKind.i64.wrap (y4 + 1)) (IntKind.i64.wrap (y5 + 1))) else (some (y3, y4))
def laws_markInt64S.f (k : Nat) (a0 : List Int) (a1 : Int) : Option (Int × List Int) := (laws_markInt64S.l1 a0 k a0 a1 0).bind fun (y1, y2) => some (y2, y1)
theorem laws_markInt64S.c (k : Nat) (w : World) (Aa0 : Option Addr) (ca0 : Nat) (a0 : List Int) (hr0 : RowAt w Aa0 ca0 2 (ci .i64).sz a0.length (flat (ci .i64) a0)) (a1 : Int) (r : Int × List Int) (H : laws_markInt64S.f k a0 a1 = some r) :
    CV Try.prog 26 [.slice Aa0 a0.length ca0, .int .i64 a1].toArray w fun v w' => v = .int .i64 r.1 ∧ Chg (rowC (ci .i64) Aa0 ca0 2 a0).fp w w' ∧ RowAt w' Aa0 ca0 2 (ci .i64).sz r.2.length (flat (ci .i64) r.2) ∧ r.2.length = a0.length := by
  have hS := (St.initRow (ci .i64) Aa0 ca0 2 a0 hr0)
  unfold laws_markInt64S.f at H
  refine CV.body Try.func26 rfl Try.ntmps26 rfl ?_
  have hl : a0.length = a0.length := rfl
  refine CJ.seq ?_
  refine CJ.region ?_
  refine OJ.pures tU_ok 1 rfl ?_
  refine OJ.nil (EJ.next ?_)
  refine CJ.seq ?_
  refine CJ.seq ?_
  refine CJ.region ?_
  refine OJ.pures tU_ok 1 rfl ?_
  refine OJ.nil (EJ.next ?_)
  obtain ⟨j16, H, K16⟩ := pbind H
  refine CJ.cut1 (fun F w1 => ∃ (y1 : List Int) (y2 : Int) , (some (y1, y2) : Option ((List Int) × Int)) = some j16 ∧ F = [(1, .int .i64 y2)] ∧ St w (rowC (ci .i64) Aa0 ca0 2 a0).fp w1 [rowC (ci .i64) Aa0 ca0 2 y1] [] ∧ y1.length = a0.length) ?_ ?_
  · skip
    refine CJ.block ?_
    refine CJ.loop (fun k F w1 => ∃ (y3 : List Int) (y4 : Int) (y5 : Int), F = [(0, .slice Aa0 a0.length ca0), (1, .int .i64 y4), (5, .int .i64 y5)] ∧ St w (rowC (ci .i64) Aa0 ca0 2 a0).fp w1 [rowC (ci .i64) Aa0 ca0 2 y3] [] ∧ y3.length = a0.length ∧ laws_markInt64S.l1 a0 k y3 y4 y5 = some j16) k (F' := [(0, .slice Aa0 a0.length ca0), (1, .int .i64 a1), (5, .int .i64 0)]) ⟨rfl, rfl, rfl, trivial⟩ ⟨a0, a1, 0, rfl, hS.pick [0] [] rfl, (by first | exact hl | (simp only [List.length_set]; exact hl)), H⟩ ?_
    rintro k F w1 ⟨y3, y4, y5, rfl, hS, hl, H⟩
    cases k with
    | zero => rw [laws_markInt64S.l1] at H; cases H
    | succ k =>
      rw [laws_markInt64S.l1] at H
      refine CJ.seq ?_
      refine CJ.seq ?_
      refine CJ.region ?_
      refine OJ.pures tU_ok 4 rfl ?_
      refine OJ.nil (EJ.next ?_)
      refine CJ.cond rfl (fun hb => ?_) (fun hb => ?_)
      · replace H := pif_t (of_decide_eq_true hb) H
        refine CJ.skip (EJ.next ?_)
        refine CJ.seq ?_
        refine CJ.block ?_
        refine CJ.seq ?_
        refine CJ.region ?_
        refine OJ.pures tU_ok 3 rfl ?_
        obtain ⟨t6, ht6, H⟩ := pbind H
        obtain ⟨ad6, e6⟩ := (hS.rd (i := 0) rfl).some' ht6
        refine OJ.st rfl rfl rfl (SR.idxS tU_ok tI_ok rfl rfl rfl rfl e6 rfl (by have hg := (getI_some ht6).1; (first | rw [hl] at hg | (simp only [List.length_set] at hg; rw [hl] at hg)); exact hg)) ?_
        refine OJ.es rfl rfl (Es.storeR tI_ok hS (i := 0) (off := 0) rfl rfl ht6 e6 rfl rfl rfl rfl (vs := (ci .i64).enc y4) rfl rfl (one1 rfl) (Nat.le_of_ble_eq_true rfl) y4 rfl) ?_
        intro w1 hS
        refine OJ.nil (EJ.next ?_)
        refine CJ.region ?_
        refine OJ.pures tU_ok 3 rfl ?_
        refine OJ.nil (EJ.blk (EJ.next ?_))
        refine CJ.region ?_
        refine OJ.pures tU_ok 3 rfl ?_
        refine OJ.nil ?_
        exact EJ.round k (F' := [(0, .slice Aa0 a0.length ca0), (1, .int .i64 (IntKind.i64.wrap (y4 + 1))), (5, .int .i64 (IntKind.i64.wrap (y5 + 1)))]) ⟨rfl, rfl, rfl, trivial⟩ (Nat.lt_succ_self _) ⟨(y3.set y5.toNat y4), (IntKind.i64.wrap (y4 + 1)), (IntKind.i64.wrap (y5 + 1)), rfl, hS.pick [0] [] rfl, (by first | exact hl | (simp only [List.length_set]; exact hl)), H⟩
      · replace H := pif_f (of_decide_eq_false hb) H
        refine CJ.exit (EJ.skE (EJ.skE (EJ.hit (?_))))
        exact EJ.meet (F' := [(1, .int .i64 y4)]) ⟨rfl, trivial⟩ ⟨y3, y4, H, rfl, hS.pick [0] [] rfl, (by first | exact hl | (simp only [List.length_set]; exact hl))⟩
  · rintro F w1 ⟨y1, y2, he, rfl, hS, hl⟩
    obtain rfl := Option.some.inj he
    have H := K16
    refine EJ.next ?_
    refine CJ.seq ?_
    refine CJ.region ?_
    refine OJ.pures tU_ok 2 rfl ?_
    refine OJ.nil (EJ.next ?_)
    refine CJ.ret (?_)
    obtain rfl := Option.some.inj H
    exact EJ.fin rfl (.tmp rfl .nil) ⟨rfl, hS.chg, hS.row (i := 0) rfl, (by first | exact hl | (simp only [List.length_set]; exact hl))⟩

def laws_heldInt64S.l1 (a0 : List Int) : Nat → Int → Int → Option (Int ⊕ Int)
  | 0, _, _ => none
  | k + 1, y2, y3 => if y3 < (a0.length : Int) then ((getI a0 y3).bind fun t4 => if t4 ≠ y2 then (some (Sum.inl (-1))) else (laws_heldInt64S.l1 a0 k (IntKind.i64.wrap (y2 + 1)) (IntKind.i64.wrap (y3 + 1)))) else (some (Sum.inr y2))
def laws_heldInt64S.f (k : Nat) (a0 : List Int) (a1 : Int) : Option Int := (laws_heldInt64S.l1 a0 k a1 0).bind fun s18 => match s18 with | .inl r => some r | .inr y1 => some y1
theorem laws_heldInt64S.c (k : Nat) (w : World) (Aa0 : Option Addr) (ca0 : Nat) (a0 : List Int) (hr0 : Rd (ci .i64) w Aa0 a0) (hc0 : a0.length ≤ ca0) (a1 : Int) (r : Int) (H : laws_heldInt64S.f k a0 a1 = some r) :
    CV Try.prog 27 [.slice Aa0 a0.length ca0, .int .i64 a1].toArray w fun v w' => v = .int .i64 r ∧ Ext w w' := by
  have hS := ((St.init w no).param (ci .i64) Aa0 ca0 a0 hr0 hc0)
  unfold laws_heldInt64S.f at H
  refine CV.body Try.func27 rfl Try.ntmps27 rfl ?_
  refine CJ.seq ?_
  refine CJ.region ?_
  refine OJ.pures tU_ok 1 rfl ?_
  refine OJ.nil (EJ.next ?_)
  refine CJ.seq ?_
  refine CJ.seq ?_
  refine CJ.region ?_
  refine OJ.pures tU_ok 1 rfl ?_
  refine OJ.nil (EJ.next ?_)
  obtain ⟨j18, H, K18⟩ := pbind H
  refine CJ.cut1 (fun F w1 => ∃ (y1 : Int) , (some (Sum.inr y1) : Option (Int ⊕ Int)) = some j18 ∧ F = [(1, .int .i64 y1)] ∧ St w no w1 [] [roC (ci .i64) Aa0 ca0 a0]) ?_ ?_
  · skip
    refine CJ.block ?_
    refine CJ.loop (fun k F w1 => ∃ (y2 : Int) (y3 : Int), F = [(0, .slice Aa0 a0.length ca0), (1, .int .i64 y2), (5, .int .i64 y3)] ∧ St w no w1 [] [roC (ci .i64) Aa0 ca0 a0] ∧ laws_heldInt64S.l1 a0 k y2 y3 = some j18) k (F' := [(0, .slice Aa0 a0.length ca0), (1, .int .i64 a1), (5, .int .i64 0)]) ⟨rfl, rfl, rfl, trivial⟩ ⟨a1, 0, rfl, hS.pick [] [0] rfl, H⟩ ?_
    rintro k F w1 ⟨y2, y3, rfl, hS, H⟩
    cases k with
    | zero => rw [laws_heldInt64S.l1] at H; cases H
    | succ k =>
      rw [laws_heldInt64S.l1] at H
      refine CJ.seq ?_
      refine CJ.seq ?_
      refine CJ.region ?_
      refine OJ.pures tU_ok 4 rfl ?_
      refine OJ.nil (EJ.next ?_)
      refine CJ.cond rfl (fun hb => ?_) (fun hb => ?_)
      · replace H := pif_t (of_decide_eq_true hb) H
        refine CJ.skip (EJ.next ?_)
        refine CJ.seq ?_
        refine CJ.block ?_
        refine CJ.seq ?_
        refine CJ.seq ?_
        refine CJ.region ?_
        refine OJ.pures tU_ok 2 rfl ?_
        obtain ⟨t4, ht4, H⟩ := pbind H
        obtain ⟨ad4, e4⟩ := (hS.rd' (i := 0) rfl).some' ht4
        refine OJ.st rfl rfl rfl (SR.idxS tU_ok tI_ok rfl rfl rfl rfl e4 rfl (getI_some ht4).1) ?_
        refine OJ.st rfl rfl rfl (SR.load rfl rfl (fun w' hx => ld1 tU_ok rfl rfl (CA.ext ((hS.rd' (i := 0) rfl).at_ e4 ht4) hx) rfl)) ?_
        refine OJ.pures tU_ok 2 rfl ?_
        refine OJ.nil (EJ.next ?_)
        refine CJ.cond rfl (fun hb => ?_) (fun hb => ?_)
        · replace H := pif_t (of_decide_eq_true hb) H
          refine CJ.seq ?_
          refine CJ.region ?_
          refine OJ.pures tU_ok 1 rfl ?_
          refine OJ.nil (EJ.next ?_)
          refine CJ.ret (EJ.skR (EJ.bkR (EJ.skR (EJ.skR (EJ.bkR (EJ.skR (EJ.skR (?_))))))))
          first | (obtain rfl := Option.some.inj H; have H := K18) | (obtain ⟨q18, H2, e18⟩ := pbind H; obtain rfl := Option.some.inj e18; obtain rfl := Option.some.inj K18; have H := H2)
          obtain rfl := Option.some.inj H
          exact EJ.fin rfl (.tmp rfl .nil) ⟨rfl, hS.ext⟩
        · replace H := pif_f (of_decide_eq_false hb) H
          refine CJ.skip (EJ.next ?_)
          refine CJ.region ?_
          refine OJ.pures tU_ok 3 rfl ?_
          refine OJ.nil (EJ.blk (EJ.next ?_))
          refine CJ.region ?_
          refine OJ.pures tU_ok 3 rfl ?_
          refine OJ.nil ?_
          exact EJ.round k (F' := [(0, .slice Aa0 a0.length ca0), (1, .int .i64 (IntKind.i64.wrap (y2 + 1))), (5, .int .i64 (IntKind.i64.wrap (y3 + 1)))]) ⟨rfl, rfl, rfl, trivial⟩ (Nat.lt_succ_self _) ⟨(IntKind.i64.wrap (y2 + 1)), (IntKind.i64.wrap (y3 + 1)), rfl, hS.pick [] [0] rfl, H⟩
      · replace H := pif_f (of_decide_eq_false hb) H
        refine CJ.exit (EJ.skE (EJ.skE (EJ.hit (?_))))
        exact EJ.meet (F' := [(1, .int .i64 y2)]) ⟨rfl, trivial⟩ ⟨y2, H, rfl, hS.pick [] [0] rfl⟩
  · rintro F w1 ⟨y1, he, rfl, hS⟩
    obtain rfl := Option.some.inj he
    have H := K18
    refine EJ.next ?_
    refine CJ.seq ?_
    refine CJ.region ?_
    refine OJ.pures tU_ok 2 rfl ?_
    refine OJ.nil (EJ.next ?_)
    refine CJ.ret (?_)
    obtain rfl := Option.some.inj H
    exact EJ.fin rfl (.tmp rfl .nil) ⟨rfl, hS.ext⟩

def laws_FnExactRestsOf.f (k : Nat) (a0 : List Int) (a1 : Int) : Option Bool := if 1048576 < (a0.length : Int) then (some true) else ((laws_toInt64S.f k a0).bind fun t1 => (spec_RestsOf.f k t1 a1).bind fun t4 => (laws_toInt64S.f k a0).bind fun t7 => (impl_RestsOf.f k t7 a1).bind fun t10 => ((laws_eqInt64S.f k t10.1 t4.1).bind fun t14 => if (!t14) = true then (some true) else (some (decide (t10.2 ≠ t4.2)))).bind fun y13 => if y13 = true then (some false) else ((laws_toInt64S.f k a0).bind fun t15 => (laws_eqInt64S.f k t7 t15).bind fun t18 => if (!t18) = true then (some false) else ((laws_markInt64S.f k t7 1).bind fun t19 => (if t19.1 < 0 then (some true) else ((laws_eqInt64S.f k t10.1 t4.1).bind fun t21 => if (!t21) = true then (some true) else (some (decide (t10.2 ≠ t4.2))))).bind fun y20 => if y20 = true then (some false) else ((laws_markInt64S.f k t10.1 1).bind fun t22 => (laws_heldInt64S.f k t22.2 1).bind fun t23 => if t23 < 0 then (some false) else (if t23 ≠ t22.1 then (some false) else ((laws_toInt64S.f k a0).bind fun t24 => (impl_RestsOf.f k t24 a1).bind fun t27 => ((laws_eqInt64S.f k t27.1 t4.1).bind fun t31 => if (!t31) = true then (some true) else (some (decide (t27.2 ≠ t4.2)))).bind fun y30 => if y30 = true then (some false) else ((laws_heldInt64S.f k t22.2 1).bind fun t32 => if t32 < 0 then (some false) else (if t32 ≠ t22.1 then (some false) else (some true)))))))))
theorem laws_FnExactRestsOf.c (k : Nat) (w : World) (Aa0 : Option Addr) (ca0 : Nat) (a0 : List Int) (hr0 : Rd (ci .i64) w Aa0 a0) (hc0 : a0.length ≤ ca0) (a1 : Int) (r : Bool) (H : laws_FnExactRestsOf.f k a0 a1 = some r) :
    CV Try.prog 5 [.slice Aa0 a0.length ca0, .int .i64 a1].toArray w fun v w' => v = .bool r ∧ Ext w w' := by
  have hS := ((St.init w no).param (ci .i64) Aa0 ca0 a0 hr0 hc0)
  unfold laws_FnExactRestsOf.f at H
  refine CV.body Try.func5 rfl Try.ntmps5 rfl ?_
  refine CJ.seq ?_
  refine CJ.region ?_
  refine OJ.pures tU_ok 1 rfl ?_
  refine OJ.nil (EJ.next ?_)
  refine CJ.seq ?_
  refine CJ.seq ?_
  refine CJ.region ?_
  refine OJ.pures tU_ok 3 rfl ?_
  refine OJ.nil (EJ.next ?_)
  refine CJ.cond rfl (fun hb => ?_) (fun hb => ?_)
  · replace H := pif_t (of_decide_eq_true hb) H
    refine CJ.seq ?_
    refine CJ.region ?_
    refine OJ.pures tU_ok 1 rfl ?_
    refine OJ.nil (EJ.next ?_)
    refine CJ.ret (EJ.skR (?_))
    obtain rfl := Option.some.inj H
    exact EJ.fin rfl (.tmp rfl .nil) ⟨rfl, hS.ext⟩
  · replace H := pif_f (of_decide_eq_false hb) H
    refine CJ.skip (EJ.next ?_)
    refine CJ.seq ?_
    refine CJ.region ?_
    refine OJ.pures tU_ok 1 rfl ?_
    obtain ⟨t1, ht1, H⟩ := pbind H
    refine OJ.callF rfl rfl rfl rfl rfl hb23 rfl (laws_toInt64S.c k _ Aa0 ca0 a0 (hS.rd' (i := 0) rfl) (hS.le' (i := 0) rfl) _ ht1) ?_
    rintro _ w1 ⟨A2, c3, rfl, hs⟩
    replace hS := hS.addN hs
    refine OJ.pures tU_ok 1 rfl ?_
    obtain ⟨t4, ht4, H⟩ := pbind H
    refine OJ.callF rfl rfl rfl rfl rfl hb22 rfl (spec_RestsOf.c k _ A2 c3 t1 (hS.rd (i := 0) rfl) (hS.le (i := 0) rfl) a1 _ ht4) ?_
    rintro _ w1 ⟨A5, c6, rfl, hs⟩
    replace hS := hS.addN hs
    refine OJ.pures tU_ok 5 rfl ?_
    refine OJ.nil (EJ.next ?_)
    refine CJ.seq ?_
    refine CJ.region ?_
    refine OJ.pures tU_ok 1 rfl ?_
    obtain ⟨t7, ht7, H⟩ := pbind H
    refine OJ.callF rfl rfl rfl rfl rfl hb23 rfl (laws_toInt64S.c k _ Aa0 ca0 a0 (hS.rd' (i := 0) rfl) (hS.le' (i := 0) rfl) _ ht7) ?_
    rintro _ w1 ⟨A8, c9, rfl, hs⟩
    replace hS := hS.addN hs
    refine OJ.pures tU_ok 1 rfl ?_
    refine OJ.nil (EJ.next ?_)
    refine CJ.seq ?_
    refine CJ.region ?_
    refine OJ.pures tU_ok 2 rfl ?_
    obtain ⟨t10, ht10, H⟩ := pbind H
    refine OJ.callF rfl rfl rfl rfl rfl hb24 rfl (impl_RestsOf.c k _ A8 c9 t7 (hS.rd (i := 2) rfl) (hS.le (i := 2) rfl) a1 _ ht10) ?_
    rintro _ w1 ⟨A11, c12, rfl, hs⟩
    replace hS := hS.addN hs
    refine OJ.pures tU_ok 5 rfl ?_
    refine OJ.nil (EJ.next ?_)
    refine CJ.seq ?_
    obtain ⟨j13, H, K13⟩ := pbind H
    refine CJ.cut (fun F w1 => ∃ (y13 : Bool) , (some y13 : Option Bool) = some j13 ∧ F = [(0, .slice Aa0 a0.length ca0), (1, .int .i64 a1), (5, .slice A5 t4.1.length c6), (6, .int .i64 t4.2), (7, .slice A8 t7.length c9), (8, .slice A11 t10.1.length c12), (9, .int .i64 t10.2), (41, .bool y13)] ∧ St w no w1 [rowC (ci .i64) A5 c6 2 t4.1, rowC (ci .i64) A8 c9 2 t7, rowC (ci .i64) A11 c12 2 t10.1] [roC (ci .i64) Aa0 ca0 a0]) ?_ ?_
    · skip
      refine CJ.region ?_
      refine OJ.pures tU_ok 2 rfl ?_
      obtain ⟨t14, ht14, H⟩ := pbind H
      refine OJ.callF rfl rfl rfl rfl rfl hb25 rfl (laws_eqInt64S.c k _ A11 c12 t10.1 (hS.rd (i := 3) rfl) (hS.le (i := 3) rfl) A5 c6 t4.1 (hS.rd (i := 1) rfl) (hS.le (i := 1) rfl) _ ht14) ?_
      rintro _ w1 ⟨rfl, hs⟩
      replace hS := hS.grow hs
      refine OJ.pures tU_ok 2 rfl ?_
      refine OJ.split (t := 37) rfl (fun hb => ?_) (fun hb => ?_)
      · replace H := pif_t hb H
        refine OJ.pures tU_ok 4 rfl ?_
        refine OJ.nil ?_
        exact EJ.meet (F' := [(0, .slice Aa0 a0.length ca0), (1, .int .i64 a1), (5, .slice A5 t4.1.length c6), (6, .int .i64 t4.2), (7, .slice A8 t7.length c9), (8, .slice A11 t10.1.length c12), (9, .int .i64 t10.2), (41, .bool true)]) ⟨rfl, rfl, rfl, rfl, rfl, rfl, rfl, rfl, trivial⟩ ⟨true, H, rfl, hS.pick [1, 2, 3] [0] rfl⟩
      · replace H := pifb_f hb H
        refine OJ.pures tU_ok 4 rfl ?_
        refine OJ.nil ?_
        exact EJ.meet (F' := [(0, .slice Aa0 a0.length ca0), (1, .int .i64 a1), (5, .slice A5 t4.1.length c6), (6, .int .i64 t4.2), (7, .slice A8 t7.length c9), (8, .slice A11 t10.1.length c12), (9, .int .i64 t10.2), (41, .bool (decide (t10.2 ≠ t4.2)))]) ⟨rfl, rfl, rfl, rfl, rfl, rfl, rfl, rfl, trivial⟩ ⟨(decide (t10.2 ≠ t4.2)), H, rfl, hS.pick [1, 2, 3] [0] rfl⟩
    · rintro F w1 ⟨y13, he, rfl, hS⟩
      obtain rfl := Option.some.inj he
      have H := K13
      refine CJ.cond rfl (fun hb => ?_) (fun hb => ?_)
      · replace H := pif_t hb H
        refine CJ.seq ?_
        refine CJ.region ?_
        refine OJ.pures tU_ok 1 rfl ?_
        refine OJ.nil (EJ.next ?_)
        refine CJ.ret (EJ.skR (?_))
        obtain rfl := Option.some.inj H
        exact EJ.fin rfl (.tmp rfl .nil) ⟨rfl, hS.ext⟩
      · replace H := pifb_f hb H
        refine CJ.skip (EJ.next ?_)
        refine CJ.seq ?_
        refine CJ.seq ?_
        refine CJ.region ?_
        refine OJ.pures tU_ok 2 rfl ?_
        obtain ⟨t15, ht15, H⟩ := pbind H
        refine OJ.callF rfl rfl rfl rfl rfl hb23 rfl (laws_toInt64S.c k _ Aa0 ca0 a0 (hS.rd' (i := 0) rfl) (hS.le' (i := 0) rfl) _ ht15) ?_
        rintro _ w1 ⟨A16, c17, rfl, hs⟩
        replace hS := hS.addN hs
        obtain ⟨t18, ht18, H⟩ := pbind H
        refine OJ.callF rfl rfl rfl rfl rfl hb25 rfl (laws_eqInt64S.c k _ A8 c9 t7 (hS.rd (i := 1) rfl) (hS.le (i := 1) rfl) A16 c17 t15 (hS.rd (i := 3) rfl) (hS.le (i := 3) rfl) _ ht18) ?_
        rintro _ w1 ⟨rfl, hs⟩
        replace hS := hS.grow hs
        refine OJ.pures tU_ok 1 rfl ?_
        refine OJ.nil (EJ.next ?_)
        refine CJ.cond rfl (fun hb => ?_) (fun hb => ?_)
        · replace H := pif_t hb H
          refine CJ.seq ?_
          refine CJ.region ?_
          refine OJ.pures tU_ok 1 rfl ?_
          refine OJ.nil (EJ.next ?_)
          refine CJ.ret (EJ.skR (?_))
          obtain rfl := Option.some.inj H
          exact EJ.fin rfl (.tmp rfl .nil) ⟨rfl, hS.ext⟩
        · replace H := pifb_f hb H
          refine CJ.skip (EJ.next ?_)
          refine CJ.seq ?_
          refine CJ.region ?_
          refine OJ.pures tU_ok 1 rfl ?_
          refine OJ.nil (EJ.next ?_)
          refine CJ.seq ?_
          refine CJ.region ?_
          refine OJ.pures tU_ok 2 rfl ?_
          obtain ⟨t19, ht19, H⟩ := pbind H
          refine OJ.callF rfl rfl rfl rfl rfl hb26 rfl (laws_markInt64S.c k _ A8 c9 t7 (hS.row (i := 1) rfl) 1 _ ht19) ?_
          rintro _ w1 ⟨rfl, hx, hr, hl⟩
          replace hS := hS.rowSet (i := 1) rfl hx hr
          refine OJ.as (t := 7) rfl (show _ = Value.slice A8 t19.2.length c9 by rw [hl]) ?_
          refine OJ.as (t := 42) rfl (show _ = Value.slice A8 t19.2.length c9 by rw [hl]) ?_
          refine OJ.as (t := 47) rfl (show _ = Value.slice A8 t19.2.length c9 by rw [hl]) ?_
          refine OJ.pures tU_ok 1 rfl ?_
          refine OJ.nil (EJ.next ?_)
          refine CJ.seq ?_
          obtain ⟨j17, H, K17⟩ := pbind H
          refine CJ.cut (fun F w1 => ∃ (y20 : Bool) , (some y20 : Option Bool) = some j17 ∧ F = [(0, .slice Aa0 a0.length ca0), (1, .int .i64 a1), (5, .slice A5 t4.1.length c6), (6, .int .i64 t4.2), (8, .slice A11 t10.1.length c12), (62, .bool y20)] ∧ St w no w1 [rowC (ci .i64) A5 c6 2 t4.1, rowC (ci .i64) A11 c12 2 t10.1] [roC (ci .i64) Aa0 ca0 a0]) ?_ ?_
          · skip
            refine CJ.region ?_
            refine OJ.pures tU_ok 3 rfl ?_
            refine OJ.split (t := 52) rfl (fun hb => ?_) (fun hb => ?_)
            · replace H := pif_t (of_decide_eq_true hb) H
              refine OJ.pures tU_ok 10 rfl ?_
              refine OJ.nil ?_
              exact EJ.meet (F' := [(0, .slice Aa0 a0.length ca0), (1, .int .i64 a1), (5, .slice A5 t4.1.length c6), (6, .int .i64 t4.2), (8, .slice A11 t10.1.length c12), (62, .bool true)]) ⟨rfl, rfl, rfl, rfl, rfl, rfl, trivial⟩ ⟨true, H, rfl, hS.pick [0, 2] [0] rfl⟩
            · replace H := pif_f (of_decide_eq_false hb) H
              refine OJ.pures tU_ok 2 rfl ?_
              obtain ⟨t21, ht21, H⟩ := pbind H
              refine OJ.callF rfl rfl rfl rfl rfl hb25 rfl (laws_eqInt64S.c k _ A11 c12 t10.1 (hS.rd (i := 2) rfl) (hS.le (i := 2) rfl) A5 c6 t4.1 (hS.rd (i := 0) rfl) (hS.le (i := 0) rfl) _ ht21) ?_
              rintro _ w1 ⟨rfl, hs⟩
              replace hS := hS.grow hs
              refine OJ.pures tU_ok 3 rfl ?_
              refine OJ.split (t := 58) rfl (fun hb => ?_) (fun hb => ?_)
              · replace H := pif_t hb H
                refine OJ.pures tU_ok 4 rfl ?_
                refine OJ.nil ?_
                exact EJ.meet (F' := [(0, .slice Aa0 a0.length ca0), (1, .int .i64 a1), (5, .slice A5 t4.1.length c6), (6, .int .i64 t4.2), (8, .slice A11 t10.1.length c12), (62, .bool true)]) ⟨rfl, rfl, rfl, rfl, rfl, rfl, trivial⟩ ⟨true, H, rfl, hS.pick [0, 2] [0] rfl⟩
              · replace H := pifb_f hb H
                refine OJ.pures tU_ok 4 rfl ?_
                refine OJ.nil ?_
                exact EJ.meet (F' := [(0, .slice Aa0 a0.length ca0), (1, .int .i64 a1), (5, .slice A5 t4.1.length c6), (6, .int .i64 t4.2), (8, .slice A11 t10.1.length c12), (62, .bool (decide (t10.2 ≠ t4.2)))]) ⟨rfl, rfl, rfl, rfl, rfl, rfl, trivial⟩ ⟨(decide (t10.2 ≠ t4.2)), H, rfl, hS.pick [0, 2] [0] rfl⟩
          · rintro F w1 ⟨y20, he, rfl, hS⟩
            obtain rfl := Option.some.inj he
            have H := K17
            refine CJ.cond rfl (fun hb => ?_) (fun hb => ?_)
            · replace H := pif_t hb H
              refine CJ.seq ?_
              refine CJ.region ?_
              refine OJ.pures tU_ok 1 rfl ?_
              refine OJ.nil (EJ.next ?_)
              refine CJ.ret (EJ.skR (?_))
              obtain rfl := Option.some.inj H
              exact EJ.fin rfl (.tmp rfl .nil) ⟨rfl, hS.ext⟩
            · replace H := pifb_f hb H
              refine CJ.skip (EJ.next ?_)
              refine CJ.seq ?_
              refine CJ.region ?_
              refine OJ.pures tU_ok 1 rfl ?_
              refine OJ.nil (EJ.next ?_)
              refine CJ.seq ?_
              refine CJ.region ?_
              refine OJ.pures tU_ok 2 rfl ?_
              obtain ⟨t22, ht22, H⟩ := pbind H
              refine OJ.callF rfl rfl rfl rfl rfl hb26 rfl (laws_markInt64S.c k _ A11 c12 t10.1 (hS.row (i := 1) rfl) 1 _ ht22) ?_
              rintro _ w1 ⟨rfl, hx, hr, hl⟩
              replace hS := hS.rowSet (i := 1) rfl hx hr
              refine OJ.as (t := 8) rfl (show _ = Value.slice A11 t22.2.length c12 by rw [hl]) ?_
              refine OJ.as (t := 63) rfl (show _ = Value.slice A11 t22.2.length c12 by rw [hl]) ?_
              refine OJ.pures tU_ok 1 rfl ?_
              refine OJ.nil (EJ.next ?_)
              refine CJ.seq ?_
              refine CJ.region ?_
              refine OJ.pures tU_ok 1 rfl ?_
              refine OJ.nil (EJ.next ?_)
              refine CJ.seq ?_
              refine CJ.region ?_
              refine OJ.pures tU_ok 2 rfl ?_
              obtain ⟨t23, ht23, H⟩ := pbind H
              refine OJ.callF rfl rfl rfl rfl rfl hb27 rfl (laws_heldInt64S.c k _ A11 c12 t22.2 (hS.rd (i := 1) rfl) (hS.le (i := 1) rfl) 1 _ ht23) ?_
              rintro _ w1 ⟨rfl, hs⟩
              replace hS := hS.grow hs
              refine OJ.pures tU_ok 1 rfl ?_
              refine OJ.nil (EJ.next ?_)
              refine CJ.seq ?_
              refine CJ.seq ?_
              refine CJ.region ?_
              refine OJ.pures tU_ok 2 rfl ?_
              refine OJ.nil (EJ.next ?_)
              refine CJ.cond rfl (fun hb => ?_) (fun hb => ?_)
              · replace H := pif_t (of_decide_eq_true hb) H
                refine CJ.seq ?_
                refine CJ.region ?_
                refine OJ.pures tU_ok 1 rfl ?_
                refine OJ.nil (EJ.next ?_)
                refine CJ.ret (EJ.skR (?_))
                obtain rfl := Option.some.inj H
                exact EJ.fin rfl (.tmp rfl .nil) ⟨rfl, hS.ext⟩
              · replace H := pif_f (of_decide_eq_false hb) H
                refine CJ.skip (EJ.next ?_)
                refine CJ.seq ?_
                refine CJ.seq ?_
                refine CJ.region ?_
                refine OJ.pures tU_ok 3 rfl ?_
                refine OJ.nil (EJ.next ?_)
                refine CJ.cond rfl (fun hb => ?_) (fun hb => ?_)
                · replace H := pif_t (of_decide_eq_true hb) H
                  refine CJ.seq ?_
                  refine CJ.region ?_
                  refine OJ.pures tU_ok 1 rfl ?_
                  refine OJ.nil (EJ.next ?_)
                  refine CJ.ret (EJ.skR (?_))
                  obtain rfl := Option.some.inj H
                  exact EJ.fin rfl (.tmp rfl .nil) ⟨rfl, hS.ext⟩
                · replace H := pif_f (of_decide_eq_false hb) H
                  refine CJ.skip (EJ.next ?_)
                  refine CJ.seq ?_
                  refine CJ.region ?_
                  refine OJ.pures tU_ok 1 rfl ?_
                  obtain ⟨t24, ht24, H⟩ := pbind H
                  refine OJ.callF rfl rfl rfl rfl rfl hb23 rfl (laws_toInt64S.c k _ Aa0 ca0 a0 (hS.rd' (i := 0) rfl) (hS.le' (i := 0) rfl) _ ht24) ?_
                  rintro _ w1 ⟨A25, c26, rfl, hs⟩
                  replace hS := hS.addN hs
                  refine OJ.pures tU_ok 1 rfl ?_
                  obtain ⟨t27, ht27, H⟩ := pbind H
                  refine OJ.callF rfl rfl rfl rfl rfl hb24 rfl (impl_RestsOf.c k _ A25 c26 t24 (hS.rd (i := 2) rfl) (hS.le (i := 2) rfl) a1 _ ht27) ?_
                  rintro _ w1 ⟨A28, c29, rfl, hs⟩
                  replace hS := hS.addN hs
                  refine OJ.pures tU_ok 5 rfl ?_
                  refine OJ.nil (EJ.next ?_)
                  refine CJ.seq ?_
                  obtain ⟨j19, H, K19⟩ := pbind H
                  refine CJ.cut (fun F w1 => ∃ (y30 : Bool) , (some y30 : Option Bool) = some j19 ∧ F = [(8, .slice A11 t22.2.length c12), (11, .int .i64 t22.1), (89, .bool y30)] ∧ St w no w1 [rowC (ci .i64) A11 c12 2 t22.2] [roC (ci .i64) Aa0 ca0 a0]) ?_ ?_
                  · skip
                    refine CJ.region ?_
                    refine OJ.pures tU_ok 2 rfl ?_
                    obtain ⟨t31, ht31, H⟩ := pbind H
                    refine OJ.callF rfl rfl rfl rfl rfl hb25 rfl (laws_eqInt64S.c k _ A28 c29 t27.1 (hS.rd (i := 3) rfl) (hS.le (i := 3) rfl) A5 c6 t4.1 (hS.rd (i := 0) rfl) (hS.le (i := 0) rfl) _ ht31) ?_
                    rintro _ w1 ⟨rfl, hs⟩
                    replace hS := hS.grow hs
                    refine OJ.pures tU_ok 2 rfl ?_
                    refine OJ.split (t := 85) rfl (fun hb => ?_) (fun hb => ?_)
                    · replace H := pif_t hb H
                      refine OJ.pures tU_ok 4 rfl ?_
                      refine OJ.nil ?_
                      exact EJ.meet (F' := [(8, .slice A11 t22.2.length c12), (11, .int .i64 t22.1), (89, .bool true)]) ⟨rfl, rfl, rfl, trivial⟩ ⟨true, H, rfl, hS.pick [1] [0] rfl⟩
                    · replace H := pifb_f hb H
                      refine OJ.pures tU_ok 4 rfl ?_
                      refine OJ.nil ?_
                      exact EJ.meet (F' := [(8, .slice A11 t22.2.length c12), (11, .int .i64 t22.1), (89, .bool (decide (t27.2 ≠ t4.2)))]) ⟨rfl, rfl, rfl, trivial⟩ ⟨(decide (t27.2 ≠ t4.2)), H, rfl, hS.pick [1] [0] rfl⟩
                  · rintro F w1 ⟨y30, he, rfl, hS⟩
                    obtain rfl := Option.some.inj he
                    have H := K19
                    refine CJ.cond rfl (fun hb => ?_) (fun hb => ?_)
                    · replace H := pif_t hb H
                      refine CJ.seq ?_
                      refine CJ.region ?_
                      refine OJ.pures tU_ok 1 rfl ?_
                      refine OJ.nil (EJ.next ?_)
                      refine CJ.ret (EJ.skR (?_))
                      obtain rfl := Option.some.inj H
                      exact EJ.fin rfl (.tmp rfl .nil) ⟨rfl, hS.ext⟩
                    · replace H := pifb_f hb H
                      refine CJ.skip (EJ.next ?_)
                      refine CJ.seq ?_
                      refine CJ.region ?_
                      refine OJ.pures tU_ok 1 rfl ?_
                      refine OJ.nil (EJ.next ?_)
                      refine CJ.seq ?_
                      refine CJ.region ?_
                      refine OJ.pures tU_ok 2 rfl ?_
                      obtain ⟨t32, ht32, H⟩ := pbind H
                      refine OJ.callF rfl rfl rfl rfl rfl hb27 rfl (laws_heldInt64S.c k _ A11 c12 t22.2 (hS.rd (i := 0) rfl) (hS.le (i := 0) rfl) 1 _ ht32) ?_
                      rintro _ w1 ⟨rfl, hs⟩
                      replace hS := hS.grow hs
                      refine OJ.pures tU_ok 1 rfl ?_
                      refine OJ.nil (EJ.next ?_)
                      refine CJ.seq ?_
                      refine CJ.seq ?_
                      refine CJ.region ?_
                      refine OJ.pures tU_ok 2 rfl ?_
                      refine OJ.nil (EJ.next ?_)
                      refine CJ.cond rfl (fun hb => ?_) (fun hb => ?_)
                      · replace H := pif_t (of_decide_eq_true hb) H
                        refine CJ.seq ?_
                        refine CJ.region ?_
                        refine OJ.pures tU_ok 1 rfl ?_
                        refine OJ.nil (EJ.next ?_)
                        refine CJ.ret (EJ.skR (?_))
                        obtain rfl := Option.some.inj H
                        exact EJ.fin rfl (.tmp rfl .nil) ⟨rfl, hS.ext⟩
                      · replace H := pif_f (of_decide_eq_false hb) H
                        refine CJ.skip (EJ.next ?_)
                        refine CJ.seq ?_
                        refine CJ.seq ?_
                        refine CJ.region ?_
                        refine OJ.pures tU_ok 3 rfl ?_
                        refine OJ.nil (EJ.next ?_)
                        refine CJ.cond rfl (fun hb => ?_) (fun hb => ?_)
                        · replace H := pif_t (of_decide_eq_true hb) H
                          refine CJ.seq ?_
                          refine CJ.region ?_
                          refine OJ.pures tU_ok 1 rfl ?_
                          refine OJ.nil (EJ.next ?_)
                          refine CJ.ret (EJ.skR (?_))
                          obtain rfl := Option.some.inj H
                          exact EJ.fin rfl (.tmp rfl .nil) ⟨rfl, hS.ext⟩
                        · replace H := pif_f (of_decide_eq_false hb) H
                          refine CJ.skip (EJ.next ?_)
                          refine CJ.seq ?_
                          refine CJ.region ?_
                          refine OJ.pures tU_ok 1 rfl ?_
                          refine OJ.nil (EJ.next ?_)
                          refine CJ.ret (?_)
                          obtain rfl := Option.some.inj H
                          exact EJ.fin rfl (.tmp rfl .nil) ⟨rfl, hS.ext⟩

def spec_l07Days.f (a0 : Int) : Option Bool := (spec_l00In.f a0 0 30).bind fun t1 => some t1
theorem spec_l07Days.c (w : World) (a0 : Int) (r : Bool) (H : spec_l07Days.f a0 = some r) :
    CV Try.prog 58 [.int .i64 a0].toArray w fun v w' => v = .bool r ∧ Ext w w' := by
  have hS := (St.init w no)
  unfold spec_l07Days.f at H
  refine CV.body Try.func58 rfl Try.ntmps58 rfl ?_
  refine CJ.seq ?_
  refine CJ.region ?_
  refine OJ.pures tU_ok 1 rfl ?_
  refine OJ.nil (EJ.next ?_)
  refine CJ.seq ?_
  refine CJ.region ?_
  refine OJ.pures tU_ok 1 rfl ?_
  obtain ⟨t1, ht1, H⟩ := pbind H
  refine OJ.callF rfl rfl rfl rfl rfl hb56 rfl (spec_l00In.c _ a0 0 30 _ ht1) ?_
  rintro _ w1 ⟨rfl, hs⟩
  replace hS := hS.grow hs
  refine OJ.pures tU_ok 1 rfl ?_
  refine OJ.nil (EJ.next ?_)
  refine CJ.ret (?_)
  obtain rfl := Option.some.inj H
  exact EJ.fin rfl (.tmp rfl .nil) ⟨rfl, hS.ext⟩

def spec_l07Asked.f (k : Nat) (a0 : List Meadow) (a1 : Int) (a2 : Bool) : Option Int := (spec_l07Ok.f k a0).bind fun t1 => if (!t1) = true then (some 1) else ((spec_l00In.f a1 1 1000).bind fun t2 => if (!t2) = true then (some 2) else (if (!a2) = true then (some 2) else (some 0)))
theorem spec_l07Asked.c (k : Nat) (w : World) (Aa0 : Option Addr) (ca0 : Nat) (a0 : List Meadow) (hr0 : Rd cMeadow w Aa0 a0) (hc0 : a0.length ≤ ca0) (a1 : Int) (a2 : Bool) (r : Int) (H : spec_l07Asked.f k a0 a1 a2 = some r) :
    CV Try.prog 57 [.slice Aa0 a0.length ca0, .int .i64 a1, .bool a2].toArray w fun v w' => v = .int .i64 r ∧ Ext w w' := by
  have hS := ((St.init w no).param cMeadow Aa0 ca0 a0 hr0 hc0)
  unfold spec_l07Asked.f at H
  refine CV.body Try.func57 rfl Try.ntmps57 rfl ?_
  refine CJ.seq ?_
  refine CJ.region ?_
  refine OJ.pures tU_ok 1 rfl ?_
  refine OJ.nil (EJ.next ?_)
  refine CJ.seq ?_
  refine CJ.seq ?_
  refine CJ.region ?_
  refine OJ.pures tU_ok 1 rfl ?_
  obtain ⟨t1, ht1, H⟩ := pbind H
  refine OJ.callF rfl rfl rfl rfl rfl hb51 rfl (spec_l07Ok.c k _ Aa0 ca0 a0 (hS.rd' (i := 0) rfl) (hS.le' (i := 0) rfl) _ ht1) ?_
  rintro _ w1 ⟨rfl, hs⟩
  replace hS := hS.grow hs
  refine OJ.pures tU_ok 1 rfl ?_
  refine OJ.nil (EJ.next ?_)
  refine CJ.cond rfl (fun hb => ?_) (fun hb => ?_)
  · replace H := pif_t hb H
    refine CJ.seq ?_
    refine CJ.region ?_
    refine OJ.pures tU_ok 1 rfl ?_
    refine OJ.nil (EJ.next ?_)
    refine CJ.ret (EJ.skR (?_))
    obtain rfl := Option.some.inj H
    exact EJ.fin rfl (.tmp rfl .nil) ⟨rfl, hS.ext⟩
  · replace H := pifb_f hb H
    refine CJ.skip (EJ.next ?_)
    refine CJ.seq ?_
    refine CJ.seq ?_
    refine CJ.region ?_
    refine OJ.pures tU_ok 1 rfl ?_
    obtain ⟨t2, ht2, H⟩ := pbind H
    refine OJ.callF rfl rfl rfl rfl rfl hb56 rfl (spec_l00In.c _ a1 1 1000 _ ht2) ?_
    rintro _ w1 ⟨rfl, hs⟩
    replace hS := hS.grow hs
    refine OJ.pures tU_ok 2 rfl ?_
    refine OJ.split (t := 13) rfl (fun hb => ?_) (fun hb => ?_)
    · replace H := pif_t hb H
      refine OJ.pures tU_ok 3 rfl ?_
      refine OJ.nil (EJ.next ?_)
      refine CJ.condT rfl ?_
      refine CJ.seq ?_
      refine CJ.region ?_
      refine OJ.pures tU_ok 1 rfl ?_
      refine OJ.nil (EJ.next ?_)
      refine CJ.ret (EJ.skR (?_))
      obtain rfl := Option.some.inj H
      exact EJ.fin rfl (.tmp rfl .nil) ⟨rfl, hS.ext⟩
    · replace H := pifb_f hb H
      refine OJ.pures tU_ok 3 rfl ?_
      refine OJ.nil (EJ.next ?_)
      refine CJ.cond rfl (fun hb => ?_) (fun hb => ?_)
      · replace H := pif_t hb H
        refine CJ.seq ?_
        refine CJ.region ?_
        refine OJ.pures tU_ok 1 rfl ?_
        refine OJ.nil (EJ.next ?_)
        refine CJ.ret (EJ.skR (?_))
        obtain rfl := Option.some.inj H
        exact EJ.fin rfl (.tmp rfl .nil) ⟨rfl, hS.ext⟩
      · replace H := pifb_f hb H
        refine CJ.skip (EJ.next ?_)
        refine CJ.seq ?_
        refine CJ.region ?_
        refine OJ.pures tU_ok 1 rfl ?_
        refine OJ.nil (EJ.next ?_)
        refine CJ.ret (?_)
        obtain rfl := Option.some.inj H
        exact EJ.fin rfl (.tmp rfl .nil) ⟨rfl, hS.ext⟩

def spec_l00Max.f (a0 : Int) (a1 : Int) : Option Int := if a1 < a0 then (some a0) else (some a1)
theorem spec_l00Max.c (w : World) (a0 : Int) (a1 : Int) (r : Int) (H : spec_l00Max.f a0 a1 = some r) :
    CV Try.prog 59 [.int .i64 a0, .int .i64 a1].toArray w fun v w' => v = .int .i64 r ∧ Ext w w' := by
  have hS := (St.init w no)
  unfold spec_l00Max.f at H
  refine CV.body Try.func59 rfl Try.ntmps59 rfl ?_
  refine CJ.seq ?_
  refine CJ.region ?_
  refine OJ.pures tU_ok 1 rfl ?_
  refine OJ.nil (EJ.next ?_)
  refine CJ.seq ?_
  refine CJ.seq ?_
  refine CJ.region ?_
  refine OJ.pures tU_ok 3 rfl ?_
  refine OJ.nil (EJ.next ?_)
  refine CJ.cond rfl (fun hb => ?_) (fun hb => ?_)
  · replace H := pif_t (of_decide_eq_true hb) H
    refine CJ.seq ?_
    refine CJ.region ?_
    refine OJ.pures tU_ok 2 rfl ?_
    refine OJ.nil (EJ.next ?_)
    refine CJ.ret (EJ.skR (?_))
    obtain rfl := Option.some.inj H
    exact EJ.fin rfl (.tmp rfl .nil) ⟨rfl, hS.ext⟩
  · replace H := pif_f (of_decide_eq_false hb) H
    refine CJ.skip (EJ.next ?_)
    refine CJ.seq ?_
    refine CJ.region ?_
    refine OJ.pures tU_ok 2 rfl ?_
    refine OJ.nil (EJ.next ?_)
    refine CJ.ret (?_)
    obtain rfl := Option.some.inj H
    exact EJ.fin rfl (.tmp rfl .nil) ⟨rfl, hS.ext⟩

def spec_EnoughFor.l1 (a0 : List Meadow) (a2 : Int) : Nat → Int → Int → Option Int
  | 0, _, _ => none
  | k + 1, y4, y5 => if y5 < (a0.length : Int) then ((getI a0 y5).bind fun t6 => (getI a0 y5).bind fun t7 => (spec_l00Max.f 0 (IntKind.i64.wrap (a2 - 1))).bind fun t8 => spec_EnoughFor.l1 a0 a2 k (IntKind.i64.wrap (y4 + (IntKind.i64.wrap ((IntKind.i64.wrap t6.Grass) + (IntKind.i64.wrap ((IntKind.i64.wrap t7.Grows) * t8)))))) (IntKind.i64.wrap (y5 + 1))) else (some y4)
def spec_EnoughFor.f (k : Nat) (a0 : List Meadow) (a1 : Int) (a2 : Int) : Option (Bool × Int) := (spec_l07Days.f a2).bind fun t1 => (spec_l07Asked.f k a0 a1 t1).bind fun t2 => if t2 ≠ 0 then (some (false, t2)) else ((spec_EnoughFor.l1 a0 a2 k 0 0).bind fun y3 => some (decide ((IntKind.i64.wrap (a1 * a2)) ≤ y3), 0))
theorem spec_EnoughFor.c (k : Nat) (w : World) (Aa0 : Option Addr) (ca0 : Nat) (a0 : List Meadow) (hr0 : Rd cMeadow w Aa0 a0) (hc0 : a0.length ≤ ca0) (a1 : Int) (a2 : Int) (r : Bool × Int) (H : spec_EnoughFor.f k a0 a1 a2 = some r) :
    CV Try.prog 28 [.slice Aa0 a0.length ca0, .int .i64 a1, .int .i64 a2].toArray w fun v w' => v = .tuple #[.bool r.1, .int .i64 r.2] ∧ Ext w w' := by
  have hS := ((St.init w no).param cMeadow Aa0 ca0 a0 hr0 hc0)
  unfold spec_EnoughFor.f at H
  refine CV.body Try.func28 rfl Try.ntmps28 rfl ?_
  refine CJ.seq ?_
  refine CJ.region ?_
  refine OJ.pures tU_ok 2 rfl ?_
  refine OJ.nil (EJ.next ?_)
  refine CJ.seq ?_
  refine CJ.seq ?_
  refine CJ.region ?_
  refine OJ.pures tU_ok 3 rfl ?_
  obtain ⟨t1, ht1, H⟩ := pbind H
  refine OJ.callF rfl rfl rfl rfl rfl hb58 rfl (spec_l07Days.c _ a2 _ ht1) ?_
  rintro _ w1 ⟨rfl, hs⟩
  replace hS := hS.grow hs
  obtain ⟨t2, ht2, H⟩ := pbind H
  refine OJ.callF rfl rfl rfl rfl rfl hb57 rfl (spec_l07Asked.c k _ Aa0 ca0 a0 (hS.rd' (i := 0) rfl) (hS.le' (i := 0) rfl) a1 t1 _ ht2) ?_
  rintro _ w1 ⟨rfl, hs⟩
  replace hS := hS.grow hs
  refine OJ.pures tU_ok 1 rfl ?_
  refine OJ.nil (EJ.next ?_)
  refine CJ.seq ?_
  refine CJ.region ?_
  refine OJ.pures tU_ok 2 rfl ?_
  refine OJ.nil (EJ.next ?_)
  refine CJ.cond rfl (fun hb => ?_) (fun hb => ?_)
  · replace H := pif_t (of_decide_eq_true hb) H
    refine CJ.seq ?_
    refine CJ.region ?_
    refine OJ.pures tU_ok 3 rfl ?_
    refine OJ.nil (EJ.next ?_)
    refine CJ.ret (EJ.skR (?_))
    obtain rfl := Option.some.inj H
    exact EJ.fin rfl (.tmp rfl (.tmp rfl .nil)) ⟨rfl, hS.ext⟩
  · replace H := pif_f (of_decide_eq_false hb) H
    refine CJ.skip (EJ.next ?_)
    refine CJ.seq ?_
    refine CJ.region ?_
    refine OJ.pures tU_ok 1 rfl ?_
    refine OJ.nil (EJ.next ?_)
    refine CJ.seq ?_
    refine CJ.seq ?_
    refine CJ.region ?_
    refine OJ.pures tU_ok 1 rfl ?_
    refine OJ.nil (EJ.next ?_)
    obtain ⟨j20, H, K20⟩ := pbind H
    refine CJ.cut1 (fun F w1 => ∃ (y3 : Int) , (some y3 : Option Int) = some j20 ∧ F = [(1, .int .i64 a1), (2, .int .i64 a2), (9, .int .i64 y3)] ∧ St w no w1 [] [roC cMeadow Aa0 ca0 a0]) ?_ ?_
    · skip
      refine CJ.block ?_
      refine CJ.loop (fun k F w1 => ∃ (y4 : Int) (y5 : Int), F = [(0, .slice Aa0 a0.length ca0), (1, .int .i64 a1), (2, .int .i64 a2), (9, .int .i64 y4), (10, .int .i64 y5)] ∧ St w no w1 [] [roC cMeadow Aa0 ca0 a0] ∧ spec_EnoughFor.l1 a0 a2 k y4 y5 = some j20) k (F' := [(0, .slice Aa0 a0.length ca0), (1, .int .i64 a1), (2, .int .i64 a2), (9, .int .i64 0), (10, .int .i64 0)]) ⟨rfl, rfl, rfl, rfl, rfl, trivial⟩ ⟨0, 0, rfl, hS.pick [] [0] rfl, H⟩ ?_
      rintro k F w1 ⟨y4, y5, rfl, hS, H⟩
      cases k with
      | zero => rw [spec_EnoughFor.l1] at H; cases H
      | succ k =>
        rw [spec_EnoughFor.l1] at H
        refine CJ.seq ?_
        refine CJ.seq ?_
        refine CJ.region ?_
        refine OJ.pures tU_ok 4 rfl ?_
        refine OJ.nil (EJ.next ?_)
        refine CJ.cond rfl (fun hb => ?_) (fun hb => ?_)
        · replace H := pif_t (of_decide_eq_true hb) H
          refine CJ.skip (EJ.next ?_)
          refine CJ.seq ?_
          refine CJ.block ?_
          refine CJ.draw [] [0, 1, 2, 3, 4, 5, 6, 7, 8, 9, 10, 11, 12, 13, 14, 15, 16, 17, 18, 19] mixed (by kernel_rfl) hS fun w1 hS => ?_
          refine DJ.pures tU_ok 3 rfl ?_
          obtain ⟨t6, ht6, H⟩ := pbind H
          obtain ⟨ad6, e6⟩ := (hS.rd' (i := 0) rfl).some' ht6
          refine DJ.st rfl rfl rfl rfl rfl (SR.idxS tU_ok tI_ok rfl rfl rfl rfl e6 rfl (getI_some ht6).1) ?_
          refine DJ.st rfl rfl rfl rfl rfl (SR.fieldAddr tU_ok tI_ok rfl rfl rfl rfl rfl rfl) ?_
          refine DJ.st rfl rfl rfl rfl rfl (SR.load rfl rfl (fun w' hx => ld1 tU_ok rfl rfl (CA.ext (CA.sub ((hS.rd' (i := 0) rfl).at_ e6 ht6) 0) hx) rfl)) ?_
          refine DJ.pures tU_ok 3 rfl ?_
          obtain ⟨t7, ht7, H⟩ := pbind H
          obtain ⟨ad7, e7⟩ := (hS.rd' (i := 0) rfl).some' ht7
          refine DJ.st rfl rfl rfl rfl rfl (SR.idxS tU_ok tI_ok rfl rfl rfl rfl e7 rfl (getI_some ht7).1) ?_
          refine DJ.st rfl rfl rfl rfl rfl (SR.fieldAddr tU_ok tI_ok rfl rfl rfl rfl rfl rfl) ?_
          refine DJ.st rfl rfl rfl rfl rfl (SR.load rfl rfl (fun w' hx => ld1 tU_ok rfl rfl (CA.ext (CA.sub ((hS.rd' (i := 0) rfl).at_ e7 ht7) 1) hx) rfl)) ?_
          refine DJ.pures tU_ok 3 rfl ?_
          obtain ⟨t8, ht8, H⟩ := pbind H
          refine DJ.callF rfl rfl rfl rfl rfl rfl rfl hb59 rfl (spec_l00Max.c _ 0 (IntKind.i64.wrap (a2 - 1)) _ ht8) (by rintro v w' ⟨rfl, hs⟩; exact hs) ?_
          rintro _ w1 ⟨rfl, hs⟩
          replace hS := hS.grow hs
          refine DJ.pures tU_ok 4 rfl ?_
          refine DJ.nil (EJ.blk (EJ.next ?_))
          refine CJ.region ?_
          refine OJ.pures tU_ok 3 rfl ?_
          refine OJ.nil ?_
          exact EJ.round k (F' := [(0, .slice Aa0 a0.length ca0), (1, .int .i64 a1), (2, .int .i64 a2), (9, .int .i64 (IntKind.i64.wrap (y4 + (IntKind.i64.wrap ((IntKind.i64.wrap t6.Grass) + (IntKind.i64.wrap ((IntKind.i64.wrap t7.Grows) * t8))))))), (10, .int .i64 (IntKind.i64.wrap (y5 + 1)))]) ⟨rfl, rfl, rfl, rfl, rfl, trivial⟩ (Nat.lt_succ_self _) ⟨(IntKind.i64.wrap (y4 + (IntKind.i64.wrap ((IntKind.i64.wrap t6.Grass) + (IntKind.i64.wrap ((IntKind.i64.wrap t7.Grows) * t8)))))), (IntKind.i64.wrap (y5 + 1)), rfl, hS.pick [] [0] rfl, H⟩
        · replace H := pif_f (of_decide_eq_false hb) H
          refine CJ.exit (EJ.skE (EJ.skE (EJ.hit (?_))))
          exact EJ.meet (F' := [(1, .int .i64 a1), (2, .int .i64 a2), (9, .int .i64 y4)]) ⟨rfl, rfl, rfl, trivial⟩ ⟨y4, H, rfl, hS.pick [] [0] rfl⟩
    · rintro F w1 ⟨y3, he, rfl, hS⟩
      obtain rfl := Option.some.inj he
      have H := K20
      refine EJ.next ?_
      refine CJ.seq ?_
      refine CJ.region ?_
      refine OJ.pures tU_ok 7 rfl ?_
      refine OJ.nil (EJ.next ?_)
      refine CJ.ret (?_)
      obtain rfl := Option.some.inj H
      exact EJ.fin rfl (.tmp rfl (.tmp rfl .nil)) ⟨rfl, hS.ext⟩

def slices_IndexFunc_int64_int64.l1 (a0 : List Int) (a1 : Int → Option Bool) : Nat → Int → Option (Int ⊕ Unit)
  | 0, _ => none
  | k + 1, y1 => if y1 < (a0.length : Int) then ((getI a0 y1).bind fun t2 => (a1 t2).bind fun t3 => if t3 = true then (some (Sum.inl y1)) else (slices_IndexFunc_int64_int64.l1 a0 a1 k (IntKind.i64.wrap (y1 + 1)))) else (some (Sum.inr ()))
def slices_IndexFunc_int64_int64.f (k : Nat) (a0 : List Int) (a1 : Int → Option Bool) : Option Int := (slices_IndexFunc_int64_int64.l1 a0 a1 k 0).bind fun s21 => match s21 with | .inl r => some r | .inr _ => some (-1)
theorem slices_IndexFunc_int64_int64.c (k : Nat) (w : World) (Aa0 : Option Addr) (ca0 : Nat) (a0 : List Int) (hr0 : Rd (ci .i64) w Aa0 a0) (hc0 : a0.length ≤ ca0) (na1 : Nat) (capa1 : Array Value) (hb1 : hasBody Try.prog na1) (a1 : Int → Option Bool) (hf1 : ∀ (z0 : Int) (r : Bool), a1 z0 = some r → ∀ w', Ext w w' → CV Try.prog na1 ([.int .i64 z0].toArray ++ capa1) w' fun v w'' => v = .bool r ∧ Ext w' w'') (r : Int) (H : slices_IndexFunc_int64_int64.f k a0 a1 = some r) :
    CV Try.prog 86 [.slice Aa0 a0.length ca0, .func (.func na1) #[] capa1].toArray w fun v w' => v = .int .i64 r ∧ Ext w w' := by
  have hS := ((St.init w no).param (ci .i64) Aa0 ca0 a0 hr0 hc0)
  unfold slices_IndexFunc_int64_int64.f at H
  refine CV.body Try.func86 rfl Try.ntmps86 rfl ?_
  refine CJ.seq ?_
  refine CJ.region ?_
  refine OJ.pures tU_ok 1 rfl ?_
  refine OJ.nil (EJ.next ?_)
  refine CJ.seq ?_
  refine CJ.seq ?_
  refine CJ.region ?_
  refine OJ.pures tU_ok 3 rfl ?_
  refine OJ.nil (EJ.next ?_)
  obtain ⟨j21, H, K21⟩ := pbind H
  refine CJ.cut1 (fun F w1 => (some (Sum.inr ()) : Option (Int ⊕ Unit)) = some j21 ∧ F = [] ∧ St w no w1 [] [roC (ci .i64) Aa0 ca0 a0]) ?_ ?_
  · skip
    refine CJ.block ?_
    refine CJ.loop (fun k F w1 => ∃ (y1 : Int), F = [(0, .slice Aa0 a0.length ca0), (1, .func (.func na1) #[] capa1), (7, .int .i64 (a0.length : Int)), (8, .int .i64 y1)] ∧ St w no w1 [] [roC (ci .i64) Aa0 ca0 a0] ∧ slices_IndexFunc_int64_int64.l1 a0 a1 k y1 = some j21) k (F' := [(0, .slice Aa0 a0.length ca0), (1, .func (.func na1) #[] capa1), (7, .int .i64 (a0.length : Int)), (8, .int .i64 0)]) ⟨rfl, rfl, rfl, rfl, trivial⟩ ⟨0, rfl, hS.pick [] [0] rfl, H⟩ ?_
    rintro k F w1 ⟨y1, rfl, hS, H⟩
    cases k with
    | zero => rw [slices_IndexFunc_int64_int64.l1] at H; cases H
    | succ k =>
      rw [slices_IndexFunc_int64_int64.l1] at H
      refine CJ.seq ?_
      refine CJ.region ?_
      refine OJ.pures tU_ok 1 rfl ?_
      refine OJ.nil (EJ.next ?_)
      refine CJ.seq ?_
      refine CJ.cond rfl (fun hb => ?_) (fun hb => ?_)
      · replace H := pif_t (of_decide_eq_true hb) H
        refine CJ.skip (EJ.next ?_)
        refine CJ.seq ?_
        refine CJ.block ?_
        refine CJ.seq ?_
        refine CJ.region ?_
        refine OJ.pures tU_ok 2 rfl ?_
        refine OJ.nil (EJ.next ?_)
        refine CJ.seq ?_
        refine CJ.region ?_
        refine OJ.pures tU_ok 3 rfl ?_
        obtain ⟨t2, ht2, H⟩ := pbind H
        obtain ⟨ad2, e2⟩ := (hS.rd' (i := 0) rfl).some' ht2
        refine OJ.st rfl rfl rfl (SR.idxS tU_ok tI_ok rfl rfl rfl rfl e2 rfl (getI_some ht2).1) ?_
        refine OJ.st rfl rfl rfl (SR.load rfl rfl (fun w' hx => ld1 tU_ok rfl rfl (CA.ext ((hS.rd' (i := 0) rfl).at_ e2 ht2) hx) rfl)) ?_
        obtain ⟨t3, ht3, H⟩ := pbind H
        refine OJ.callV rfl rfl rfl rfl rfl rfl hb1 rfl (hf1 t2 _ ht3 _ hS.ext) ?_
        rintro _ w1 ⟨rfl, hs⟩
        replace hS := hS.grow hs
        refine OJ.nil (EJ.next ?_)
        refine CJ.cond rfl (fun hb => ?_) (fun hb => ?_)
        · replace H := pif_t hb H
          refine CJ.seq ?_
          refine CJ.region ?_
          refine OJ.pures tU_ok 2 rfl ?_
          refine OJ.nil (EJ.next ?_)
          refine CJ.ret (EJ.bkR (EJ.skR (EJ.skR (EJ.bkR (EJ.skR (EJ.skR (?_)))))))
          first | (obtain rfl := Option.some.inj H; have H := K21) | (obtain ⟨q21, H2, e21⟩ := pbind H; obtain rfl := Option.some.inj e21; obtain rfl := Option.some.inj K21; have H := H2)
          obtain rfl := Option.some.inj H
          exact EJ.fin rfl (.tmp rfl .nil) ⟨rfl, hS.ext⟩
        · replace H := pifb_f hb H
          refine CJ.skip (EJ.blk (EJ.next ?_))
          refine CJ.region ?_
          refine OJ.pures tU_ok 2 rfl ?_
          refine OJ.nil ?_
          exact EJ.round k (F' := [(0, .slice Aa0 a0.length ca0), (1, .func (.func na1) #[] capa1), (7, .int .i64 (a0.length : Int)), (8, .int .i64 (IntKind.i64.wrap (y1 + 1)))]) ⟨rfl, rfl, rfl, rfl, trivial⟩ (Nat.lt_succ_self _) ⟨(IntKind.i64.wrap (y1 + 1)), rfl, hS.pick [] [0] rfl, H⟩
      · replace H := pif_f (of_decide_eq_false hb) H
        refine CJ.exit (EJ.skE (EJ.skE (EJ.hit (?_))))
        exact EJ.meet (F' := []) trivial ⟨H, rfl, hS.pick [] [0] rfl⟩
  · rintro F w1 ⟨he, rfl, hS⟩
    obtain rfl := Option.some.inj he
    have H := K21
    refine EJ.next ?_
    refine CJ.seq ?_
    refine CJ.region ?_
    refine OJ.pures tU_ok 1 rfl ?_
    refine OJ.nil (EJ.next ?_)
    refine CJ.ret (?_)
    obtain rfl := Option.some.inj H
    exact EJ.fin rfl (.tmp rfl .nil) ⟨rfl, hS.ext⟩

def slices_ContainsFunc_int64_int64.f (k : Nat) (a0 : List Int) (a1 : Int → Option Bool) : Option Bool := (slices_IndexFunc_int64_int64.f k a0 a1).bind fun t1 => some (decide (0 ≤ t1))
theorem slices_ContainsFunc_int64_int64.c (k : Nat) (w : World) (Aa0 : Option Addr) (ca0 : Nat) (a0 : List Int) (hr0 : Rd (ci .i64) w Aa0 a0) (hc0 : a0.length ≤ ca0) (na1 : Nat) (capa1 : Array Value) (hb1 : hasBody Try.prog na1) (a1 : Int → Option Bool) (hf1 : ∀ (z0 : Int) (r : Bool), a1 z0 = some r → ∀ w', Ext w w' → CV Try.prog na1 ([.int .i64 z0].toArray ++ capa1) w' fun v w'' => v = .bool r ∧ Ext w' w'') (r : Bool) (H : slices_ContainsFunc_int64_int64.f k a0 a1 = some r) :
    CV Try.prog 81 [.slice Aa0 a0.length ca0, .func (.func na1) #[] capa1].toArray w fun v w' => v = .bool r ∧ Ext w w' := by
  have hS := ((St.init w no).param (ci .i64) Aa0 ca0 a0 hr0 hc0)
  unfold slices_ContainsFunc_int64_int64.f at H
  refine CV.body Try.func81 rfl Try.ntmps81 rfl ?_
  refine CJ.seq ?_
  refine CJ.region ?_
  refine OJ.pures tU_ok 1 rfl ?_
  refine OJ.nil (EJ.next ?_)
  refine CJ.seq ?_
  refine CJ.region ?_
  refine OJ.pures tU_ok 2 rfl ?_
  obtain ⟨t1, ht1, H⟩ := pbind H
  refine OJ.callF rfl rfl rfl rfl rfl hb86 rfl (slices_IndexFunc_int64_int64.c k _ Aa0 ca0 a0 (hS.rd' (i := 0) rfl) (hS.le' (i := 0) rfl) na1 capa1 hb1 a1 (fun z0 r h w' hx => hf1 z0 r h w' (hS.ext.trans hx)) _ ht1) ?_
  rintro _ w1 ⟨rfl, hs⟩
  replace hS := hS.grow hs
  refine OJ.pures tU_ok 2 rfl ?_
  refine OJ.nil (EJ.next ?_)
  refine CJ.ret (?_)
  obtain rfl := Option.some.inj H
  exact EJ.fin rfl (.tmp rfl .nil) ⟨rfl, hS.ext⟩

def impl_meadowCode_1.f (a1 : List Meadow) (a0 : Int) : Option Bool := (impl_size_impl_Meadow.f a1).bind fun t1 => (impl_within.f a0 0 (IntKind.i64.wrap (t1 - 1))).bind fun t2 => some (!t2)
theorem impl_meadowCode_1.c (w : World) (Aa1 : Option Addr) (ca1 : Nat) (a1 : List Meadow) (hr1 : Rd cMeadow w Aa1 a1) (hc1 : a1.length ≤ ca1) (pa1 : Addr) (hp1 : CA w pa1 [.slice Aa1 a1.length ca1]) (a0 : Int) (r : Bool) (H : impl_meadowCode_1.f a1 a0 = some r) :
    CV Try.prog 82 [.int .i64 a0, .pointer (some pa1)].toArray w fun v w' => v = .bool r ∧ Ext w w' := by
  have hS := (((St.init w no).param cMeadow Aa1 ca1 a1 hr1 hc1).paramP pa1 [.slice Aa1 a1.length ca1] hp1)
  unfold impl_meadowCode_1.f at H
  refine CV.body Try.func82 rfl Try.ntmps82 rfl ?_
  refine CJ.seq ?_
  refine CJ.region ?_
  refine OJ.pures tU_ok 1 rfl ?_
  refine OJ.nil (EJ.next ?_)
  refine CJ.seq ?_
  refine CJ.region ?_
  refine OJ.pures tU_ok 1 rfl ?_
  refine OJ.st rfl rfl rfl (SR.load rfl rfl (fun w' hx => ld1 tU_ok rfl rfl (CA.ext (hS.ca (i := 1) rfl) hx) rfl)) ?_
  obtain ⟨t1, ht1, H⟩ := pbind H
  refine OJ.callF rfl rfl rfl rfl rfl hb53 rfl (impl_size_impl_Meadow.c _ Aa1 ca1 a1 (hS.rd' (i := 0) rfl) (hS.le' (i := 0) rfl) _ ht1) ?_
  rintro _ w1 ⟨rfl, hs⟩
  replace hS := hS.grow hs
  refine OJ.pures tU_ok 1 rfl ?_
  obtain ⟨t2, ht2, H⟩ := pbind H
  refine OJ.callF rfl rfl rfl rfl rfl hb52 rfl (impl_within.c _ a0 0 (IntKind.i64.wrap (t1 - 1)) _ ht2) ?_
  rintro _ w1 ⟨rfl, hs⟩
  replace hS := hS.grow hs
  refine OJ.pures tU_ok 2 rfl ?_
  refine OJ.nil (EJ.next ?_)
  refine CJ.ret (?_)
  obtain rfl := Option.some.inj H
  exact EJ.fin rfl (.tmp rfl .nil) ⟨rfl, hS.ext⟩

def impl_unless.f (a0 : Bool) (a1 : Int) : Option Int := if a0 = true then (some 0) else (some a1)
theorem impl_unless.c (w : World) (a0 : Bool) (a1 : Int) (r : Int) (H : impl_unless.f a0 a1 = some r) :
    CV Try.prog 76 [.bool a0, .int .i64 a1].toArray w fun v w' => v = .int .i64 r ∧ Ext w w' := by
  have hS := (St.init w no)
  unfold impl_unless.f at H
  refine CV.body Try.func76 rfl Try.ntmps76 rfl ?_
  refine CJ.seq ?_
  refine CJ.region ?_
  refine OJ.pures tU_ok 1 rfl ?_
  refine OJ.nil (EJ.next ?_)
  refine CJ.seq ?_
  refine CJ.seq ?_
  refine CJ.region ?_
  refine OJ.pures tU_ok 1 rfl ?_
  refine OJ.nil (EJ.next ?_)
  refine CJ.cond rfl (fun hb => ?_) (fun hb => ?_)
  · replace H := pif_t hb H
    refine CJ.seq ?_
    refine CJ.region ?_
    refine OJ.pures tU_ok 1 rfl ?_
    refine OJ.nil (EJ.next ?_)
    refine CJ.ret (EJ.skR (?_))
    obtain rfl := Option.some.inj H
    exact EJ.fin rfl (.tmp rfl .nil) ⟨rfl, hS.ext⟩
  · replace H := pifb_f hb H
    refine CJ.skip (EJ.next ?_)
    refine CJ.seq ?_
    refine CJ.region ?_
    refine OJ.pures tU_ok 2 rfl ?_
    refine OJ.nil (EJ.next ?_)
    refine CJ.ret (?_)
    obtain rfl := Option.some.inj H
    exact EJ.fin rfl (.tmp rfl .nil) ⟨rfl, hS.ext⟩

def impl_meadowCode.f (k : Nat) (a0 : List Meadow) (a1 : Int) (a2 : List Int) : Option Int := (impl_ValidMeadows.f k a0).bind fun t2 => if (!t2) = true then (some 1) else ((slices_ContainsFunc_int64_int64.f k a2 (impl_meadowCode_1.f a0)).bind fun t3 => (impl_within.f a1 1 1000).bind fun t4 => if t4 = true then ((impl_unless.f (!t3) 2).bind fun t5 => some t5) else ((impl_unless.f false 2).bind fun t6 => some t6))
theorem impl_meadowCode.c (k : Nat) (w : World) (Aa0 : Option Addr) (ca0 : Nat) (a0 : List Meadow) (hr0 : Rd cMeadow w Aa0 a0) (hc0 : a0.length ≤ ca0) (a1 : Int) (Aa2 : Option Addr) (ca2 : Nat) (a2 : List Int) (hr2 : Rd (ci .i64) w Aa2 a2) (hc2 : a2.length ≤ ca2) (r : Int) (H : impl_meadowCode.f k a0 a1 a2 = some r) :
    CV Try.prog 63 [.slice Aa0 a0.length ca0, .int .i64 a1, .slice Aa2 a2.length ca2].toArray w fun v w' => v = .int .i64 r ∧ Ext w w' := by
  have hS := (((St.init w no).param cMeadow Aa0 ca0 a0 hr0 hc0).param (ci .i64) Aa2 ca2 a2 hr2 hc2)
  unfold impl_meadowCode.f at H
  refine CV.body Try.func63 rfl Try.ntmps63 rfl ?_
  refine CJ.seq ?_
  refine CJ.region ?_
  refine OJ.ef rfl rfl rfl (Ef.box hS rfl rfl ([.slice Aa0 a0.length ca0]) rfl) ?_
  rintro _ w1 ⟨b1, rfl, hS⟩
  refine OJ.pures tU_ok 1 rfl ?_
  refine OJ.nil (EJ.next ?_)
  refine CJ.seq ?_
  refine CJ.seq ?_
  refine CJ.region ?_
  refine OJ.st rfl rfl rfl (SR.load rfl rfl (fun w' hx => ld1 tU_ok rfl rfl (CA.ext (hS.cells (i := 0) rfl) hx) rfl)) ?_
  obtain ⟨t2, ht2, H⟩ := pbind H
  refine OJ.callF rfl rfl rfl rfl rfl hb21 rfl (impl_ValidMeadows.c k _ Aa0 ca0 a0 (hS.rd' (i := 0) rfl) (hS.le' (i := 0) rfl) _ ht2) ?_
  rintro _ w1 ⟨rfl, hs⟩
  replace hS := hS.grow hs
  refine OJ.pures tU_ok 1 rfl ?_
  refine OJ.nil (EJ.next ?_)
  refine CJ.cond rfl (fun hb => ?_) (fun hb => ?_)
  · replace H := pif_t hb H
    refine CJ.seq ?_
    refine CJ.region ?_
    refine OJ.pures tU_ok 1 rfl ?_
    refine OJ.nil (EJ.next ?_)
    refine CJ.ret (EJ.skR (?_))
    obtain rfl := Option.some.inj H
    exact EJ.fin rfl (.tmp rfl .nil) ⟨rfl, hS.ext⟩
  · replace H := pifb_f hb H
    refine CJ.skip (EJ.next ?_)
    refine CJ.seq ?_
    refine CJ.region ?_
    refine OJ.pures tU_ok 2 rfl ?_
    obtain ⟨t3, ht3, H⟩ := pbind H
    refine OJ.callF rfl rfl rfl rfl rfl hb81 rfl (slices_ContainsFunc_int64_int64.c k _ Aa2 ca2 a2 (hS.rd' (i := 1) rfl) (hS.le' (i := 1) rfl) 82 #[.pointer (some ⟨b1, 0, none⟩)] hb82 (impl_meadowCode_1.f a0) (fun z0 r h w' hx => CV.cast (impl_meadowCode_1.c w' Aa0 ca0 a0 ((hS.rd' (i := 0) rfl).ext hx) (hS.le' (i := 0) rfl) ⟨b1, 0, none⟩ (CA.ext (hS.cells (i := 0) rfl) hx) z0 r h) (by simp)) _ ht3) ?_
    rintro _ w1 ⟨rfl, hs⟩
    replace hS := hS.grow hs
    refine OJ.pures tU_ok 2 rfl ?_
    refine OJ.nil (EJ.next ?_)
    refine CJ.seq ?_
    refine CJ.region ?_
    refine OJ.pures tU_ok 1 rfl ?_
    obtain ⟨t4, ht4, H⟩ := pbind H
    refine OJ.callF rfl rfl rfl rfl rfl hb52 rfl (impl_within.c _ a1 1 1000 _ ht4) ?_
    rintro _ w1 ⟨rfl, hs⟩
    replace hS := hS.grow hs
    refine OJ.pures tU_ok 1 rfl ?_
    refine OJ.split (t := 17) rfl (fun hb => ?_) (fun hb => ?_)
    · replace H := pif_t hb H
      refine OJ.pures tU_ok 2 rfl ?_
      obtain ⟨t5, ht5, H⟩ := pbind H
      refine OJ.callF rfl rfl rfl rfl rfl hb76 rfl (impl_unless.c _ (!t3) 2 _ ht5) ?_
      rintro _ w1 ⟨rfl, hs⟩
      replace hS := hS.grow hs
      refine OJ.pures tU_ok 1 rfl ?_
      refine OJ.nil (EJ.next ?_)
      refine CJ.ret (?_)
      obtain rfl := Option.some.inj H
      exact EJ.fin rfl (.tmp rfl .nil) ⟨rfl, hS.ext⟩
    · replace H := pifb_f hb H
      refine OJ.pures tU_ok 2 rfl ?_
      obtain ⟨t6, ht6, H⟩ := pbind H
      refine OJ.callF rfl rfl rfl rfl rfl hb76 rfl (impl_unless.c _ false 2 _ ht6) ?_
      rintro _ w1 ⟨rfl, hs⟩
      replace hS := hS.grow hs
      refine OJ.pures tU_ok 1 rfl ?_
      refine OJ.nil (EJ.next ?_)
      refine CJ.ret (?_)
      obtain rfl := Option.some.inj H
      exact EJ.fin rfl (.tmp rfl .nil) ⟨rfl, hS.ext⟩

def impl_firstOf.l1 (a0 : List Int) : Nat → Int → Option (Int ⊕ Unit)
  | 0, _ => none
  | k + 1, y1 => if y1 < (a0.length : Int) then ((getI a0 y1).bind fun t2 => if t2 ≠ 0 then (some (Sum.inl t2)) else (impl_firstOf.l1 a0 k (IntKind.i64.wrap (y1 + 1)))) else (some (Sum.inr ()))
def impl_firstOf.f (k : Nat) (a0 : List Int) : Option Int := (impl_firstOf.l1 a0 k 0).bind fun s22 => match s22 with | .inl r => some r | .inr _ => some 0
theorem impl_firstOf.c (k : Nat) (w : World) (Aa0 : Option Addr) (ca0 : Nat) (a0 : List Int) (hr0 : Rd (ci .i64) w Aa0 a0) (hc0 : a0.length ≤ ca0) (r : Int) (H : impl_firstOf.f k a0 = some r) :
    CV Try.prog 75 [.slice Aa0 a0.length ca0].toArray w fun v w' => v = .int .i64 r ∧ Ext w w' := by
  have hS := ((St.init w no).param (ci .i64) Aa0 ca0 a0 hr0 hc0)
  unfold impl_firstOf.f at H
  refine CV.body Try.func75 rfl Try.ntmps75 rfl ?_
  refine CJ.seq ?_
  refine CJ.region ?_
  refine OJ.pures tU_ok 1 rfl ?_
  refine OJ.nil (EJ.next ?_)
  refine CJ.seq ?_
  refine CJ.seq ?_
  refine CJ.region ?_
  refine OJ.pures tU_ok 3 rfl ?_
  refine OJ.nil (EJ.next ?_)
  obtain ⟨j22, H, K22⟩ := pbind H
  refine CJ.cut1 (fun F w1 => (some (Sum.inr ()) : Option (Int ⊕ Unit)) = some j22 ∧ F = [] ∧ St w no w1 [] [roC (ci .i64) Aa0 ca0 a0]) ?_ ?_
  · skip
    refine CJ.block ?_
    refine CJ.loop (fun k F w1 => ∃ (y1 : Int), F = [(5, .slice Aa0 a0.length ca0), (6, .int .i64 (a0.length : Int)), (7, .int .i64 y1)] ∧ St w no w1 [] [roC (ci .i64) Aa0 ca0 a0] ∧ impl_firstOf.l1 a0 k y1 = some j22) k (F' := [(5, .slice Aa0 a0.length ca0), (6, .int .i64 (a0.length : Int)), (7, .int .i64 0)]) ⟨rfl, rfl, rfl, trivial⟩ ⟨0, rfl, hS.pick [] [0] rfl, H⟩ ?_
    rintro k F w1 ⟨y1, rfl, hS, H⟩
    cases k with
    | zero => rw [impl_firstOf.l1] at H; cases H
    | succ k =>
      rw [impl_firstOf.l1] at H
      refine CJ.seq ?_
      refine CJ.region ?_
      refine OJ.pures tU_ok 1 rfl ?_
      refine OJ.nil (EJ.next ?_)
      refine CJ.seq ?_
      refine CJ.cond rfl (fun hb => ?_) (fun hb => ?_)
      · replace H := pif_t (of_decide_eq_true hb) H
        refine CJ.skip (EJ.next ?_)
        refine CJ.seq ?_
        refine CJ.block ?_
        refine CJ.seq ?_
        refine CJ.region ?_
        obtain ⟨t2, ht2, H⟩ := pbind H
        obtain ⟨ad2, e2⟩ := (hS.rd' (i := 0) rfl).some' ht2
        refine OJ.st rfl rfl rfl (SR.idxS tU_ok tI_ok rfl rfl rfl rfl e2 rfl (getI_some ht2).1) ?_
        refine OJ.st rfl rfl rfl (SR.load rfl rfl (fun w' hx => ld1 tU_ok rfl rfl (CA.ext ((hS.rd' (i := 0) rfl).at_ e2 ht2) hx) rfl)) ?_
        refine OJ.pures tU_ok 1 rfl ?_
        refine OJ.nil (EJ.next ?_)
        refine CJ.seq ?_
        refine CJ.region ?_
        refine OJ.pures tU_ok 2 rfl ?_
        refine OJ.nil (EJ.next ?_)
        refine CJ.cond rfl (fun hb => ?_) (fun hb => ?_)
        · replace H := pif_t (of_decide_eq_true hb) H
          refine CJ.seq ?_
          refine CJ.region ?_
          refine OJ.pures tU_ok 2 rfl ?_
          refine OJ.nil (EJ.next ?_)
          refine CJ.ret (EJ.bkR (EJ.skR (EJ.skR (EJ.bkR (EJ.skR (EJ.skR (?_)))))))
          first | (obtain rfl := Option.some.inj H; have H := K22) | (obtain ⟨q22, H2, e22⟩ := pbind H; obtain rfl := Option.some.inj e22; obtain rfl := Option.some.inj K22; have H := H2)
          obtain rfl := Option.some.inj H
          exact EJ.fin rfl (.tmp rfl .nil) ⟨rfl, hS.ext⟩
        · replace H := pif_f (of_decide_eq_false hb) H
          refine CJ.skip (EJ.blk (EJ.next ?_))
          refine CJ.region ?_
          refine OJ.pures tU_ok 2 rfl ?_
          refine OJ.nil ?_
          exact EJ.round k (F' := [(5, .slice Aa0 a0.length ca0), (6, .int .i64 (a0.length : Int)), (7, .int .i64 (IntKind.i64.wrap (y1 + 1)))]) ⟨rfl, rfl, rfl, trivial⟩ (Nat.lt_succ_self _) ⟨(IntKind.i64.wrap (y1 + 1)), rfl, hS.pick [] [0] rfl, H⟩
      · replace H := pif_f (of_decide_eq_false hb) H
        refine CJ.exit (EJ.skE (EJ.skE (EJ.hit (?_))))
        exact EJ.meet (F' := []) trivial ⟨H, rfl, hS.pick [] [0] rfl⟩
  · rintro F w1 ⟨he, rfl, hS⟩
    obtain rfl := Option.some.inj he
    have H := K22
    refine EJ.next ?_
    refine CJ.seq ?_
    refine CJ.region ?_
    refine OJ.pures tU_ok 1 rfl ?_
    refine OJ.nil (EJ.next ?_)
    refine CJ.ret (?_)
    obtain rfl := Option.some.inj H
    exact EJ.fin rfl (.tmp rfl .nil) ⟨rfl, hS.ext⟩

def impl_spanCode.f (k : Nat) (a0 : List Meadow) (a1 : Int) (a2 : Int) (a3 : Int) : Option Int := (impl_meadowCode.f k a0 a1 []).bind fun t1 => (impl_within.f a2 0 30).bind fun t2 => if t2 = true then ((impl_within.f a3 0 20000).bind fun t3 => (impl_unless.f t3 2).bind fun t4 => (impl_firstOf.f k ([t1, t4] : List Int)).bind fun t6 => some t6) else ((impl_unless.f false 2).bind fun t7 => (impl_firstOf.f k ([t1, t7] : List Int)).bind fun t9 => some t9)
theorem impl_spanCode.c (k : Nat) (w : World) (Aa0 : Option Addr) (ca0 : Nat) (a0 : List Meadow) (hr0 : Rd cMeadow w Aa0 a0) (hc0 : a0.length ≤ ca0) (a1 : Int) (a2 : Int) (a3 : Int) (r : Int) (H : impl_spanCode.f k a0 a1 a2 a3 = some r) :
    CV Try.prog 60 [.slice Aa0 a0.length ca0, .int .i64 a1, .int .i64 a2, .int .i64 a3].toArray w fun v w' => v = .int .i64 r ∧ Ext w w' := by
  have hS := ((St.init w no).param cMeadow Aa0 ca0 a0 hr0 hc0)
  unfold impl_spanCode.f at H
  refine CV.body Try.func60 rfl Try.ntmps60 rfl ?_
  refine CJ.seq ?_
  refine CJ.region ?_
  refine OJ.pures tU_ok 1 rfl ?_
  refine OJ.nil (EJ.next ?_)
  refine CJ.seq ?_
  refine CJ.region ?_
  refine OJ.pures tU_ok 2 rfl ?_
  obtain ⟨t1, ht1, H⟩ := pbind H
  refine OJ.callF rfl rfl rfl rfl rfl hb63 rfl (impl_meadowCode.c k _ Aa0 ca0 a0 (hS.rd' (i := 0) rfl) (hS.le' (i := 0) rfl) a1 none 0 [] (Rd.nil (ci .i64) _ _) (Nat.le_refl _) _ ht1) ?_
  rintro _ w1 ⟨rfl, hs⟩
  replace hS := hS.grow hs
  refine OJ.pures tU_ok 1 rfl ?_
  obtain ⟨t2, ht2, H⟩ := pbind H
  refine OJ.callF rfl rfl rfl rfl rfl hb52 rfl (impl_within.c _ a2 0 30 _ ht2) ?_
  rintro _ w1 ⟨rfl, hs⟩
  replace hS := hS.grow hs
  refine OJ.pures tU_ok 1 rfl ?_
  refine OJ.split (t := 14) rfl (fun hb => ?_) (fun hb => ?_)
  · replace H := pif_t hb H
    refine OJ.pures tU_ok 1 rfl ?_
    obtain ⟨t3, ht3, H⟩ := pbind H
    refine OJ.callF rfl rfl rfl rfl rfl hb52 rfl (impl_within.c _ a3 0 20000 _ ht3) ?_
    rintro _ w1 ⟨rfl, hs⟩
    replace hS := hS.grow hs
    refine OJ.pures tU_ok 1 rfl ?_
    obtain ⟨t4, ht4, H⟩ := pbind H
    refine OJ.callF rfl rfl rfl rfl rfl hb76 rfl (impl_unless.c _ t3 2 _ ht4) ?_
    rintro _ w1 ⟨rfl, hs⟩
    replace hS := hS.grow hs
    refine OJ.ef rfl rfl rfl (Ef.lit tU_ok tI_ok hS (C := (ci .i64)) rfl rfl rfl rfl rfl rfl ([t1, t4] : List Int) rfl rfl rfl rfl) ?_
    rintro _ w1 ⟨A5, rfl, hS⟩
    obtain ⟨t6, ht6, H⟩ := pbind H
    refine OJ.callF rfl rfl rfl rfl rfl hb75 rfl (impl_firstOf.c k _ A5 (([t1, t4] : List Int).length) ([t1, t4] : List Int) (hS.rd (i := 0) rfl) (hS.le (i := 0) rfl) _ ht6) ?_
    rintro _ w1 ⟨rfl, hs⟩
    replace hS := hS.grow hs
    refine OJ.pures tU_ok 1 rfl ?_
    refine OJ.nil (EJ.next ?_)
    refine CJ.ret (?_)
    obtain rfl := Option.some.inj H
    exact EJ.fin rfl (.tmp rfl .nil) ⟨rfl, hS.ext⟩
  · replace H := pifb_f hb H
    refine OJ.pures tU_ok 3 rfl ?_
    obtain ⟨t7, ht7, H⟩ := pbind H
    refine OJ.callF rfl rfl rfl rfl rfl hb76 rfl (impl_unless.c _ false 2 _ ht7) ?_
    rintro _ w1 ⟨rfl, hs⟩
    replace hS := hS.grow hs
    refine OJ.ef rfl rfl rfl (Ef.lit tU_ok tI_ok hS (C := (ci .i64)) rfl rfl rfl rfl rfl rfl ([t1, t7] : List Int) rfl rfl rfl rfl) ?_
    rintro _ w1 ⟨A8, rfl, hS⟩
    obtain ⟨t9, ht9, H⟩ := pbind H
    refine OJ.callF rfl rfl rfl rfl rfl hb75 rfl (impl_firstOf.c k _ A8 (([t1, t7] : List Int).length) ([t1, t7] : List Int) (hS.rd (i := 0) rfl) (hS.le (i := 0) rfl) _ ht9) ?_
    rintro _ w1 ⟨rfl, hs⟩
    replace hS := hS.grow hs
    refine OJ.pures tU_ok 1 rfl ?_
    refine OJ.nil (EJ.next ?_)
    refine CJ.ret (?_)
    obtain rfl := Option.some.inj H
    exact EJ.fin rfl (.tmp rfl .nil) ⟨rfl, hS.ext⟩

def impl_EnoughFor.l1 (a0 : List Meadow) (a2 : Int) : Nat → Int → Int → Option Int
  | 0, _, _ => none
  | k + 1, y3, y4 => if y4 < (a0.length : Int) then ((getI a0 y4).bind fun t5 => impl_EnoughFor.l1 a0 a2 k (IntKind.i64.wrap (y3 + (IntKind.i64.wrap ((IntKind.i64.wrap t5.Grass) + (IntKind.i64.wrap ((IntKind.i64.wrap t5.Grows) * (IntKind.i64.wrap (a2 - 1)))))))) (IntKind.i64.wrap (y4 + 1))) else (some y3)
def impl_EnoughFor.f (k : Nat) (a0 : List Meadow) (a1 : Int) (a2 : Int) : Option (Bool × Int) := (impl_spanCode.f k a0 a1 a2 0).bind fun t1 => if t1 ≠ 0 then (some (false, t1)) else ((impl_EnoughFor.l1 a0 a2 k 0 0).bind fun y2 => if a2 = 0 then (some (true, 0)) else (some (decide ((IntKind.i64.wrap (a1 * a2)) ≤ y2), 0)))
theorem impl_EnoughFor.c (k : Nat) (w : World) (Aa0 : Option Addr) (ca0 : Nat) (a0 : List Meadow) (hr0 : Rd cMeadow w Aa0 a0) (hc0 : a0.length ≤ ca0) (a1 : Int) (a2 : Int) (r : Bool × Int) (H : impl_EnoughFor.f k a0 a1 a2 = some r) :
    CV Try.prog 29 [.slice Aa0 a0.length ca0, .int .i64 a1, .int .i64 a2].toArray w fun v w' => v = .tuple #[.bool r.1, .int .i64 r.2] ∧ Ext w w' := by
  have hS := ((St.init w no).param cMeadow Aa0 ca0 a0 hr0 hc0)
  unfold impl_EnoughFor.f at H
  refine CV.body Try.func29 rfl Try.ntmps29 rfl ?_
  refine CJ.seq ?_
  refine CJ.region ?_
  refine OJ.pures tU_ok 2 rfl ?_
  refine OJ.nil (EJ.next ?_)
  refine CJ.seq ?_
  refine CJ.seq ?_
  refine CJ.region ?_
  refine OJ.pures tU_ok 3 rfl ?_
  obtain ⟨t1, ht1, H⟩ := pbind H
  refine OJ.callF rfl rfl rfl rfl rfl hb60 rfl (impl_spanCode.c k _ Aa0 ca0 a0 (hS.rd' (i := 0) rfl) (hS.le' (i := 0) rfl) a1 a2 0 _ ht1) ?_
  rintro _ w1 ⟨rfl, hs⟩
  replace hS := hS.grow hs
  refine OJ.pures tU_ok 1 rfl ?_
  refine OJ.nil (EJ.next ?_)
  refine CJ.seq ?_
  refine CJ.region ?_
  refine OJ.pures tU_ok 2 rfl ?_
  refine OJ.nil (EJ.next ?_)
  refine CJ.cond rfl (fun hb => ?_) (fun hb => ?_)
  · replace H := pif_t (of_decide_eq_true hb) H
    refine CJ.seq ?_
    refine CJ.region ?_
    refine OJ.pures tU_ok 3 rfl ?_
    refine OJ.nil (EJ.next ?_)
    refine CJ.ret (EJ.skR (?_))
    obtain rfl := Option.some.inj H
    exact EJ.fin rfl (.tmp rfl (.tmp rfl .nil)) ⟨rfl, hS.ext⟩
  · replace H := pif_f (of_decide_eq_false hb) H
    refine CJ.skip (EJ.next ?_)
    refine CJ.seq ?_
    refine CJ.region ?_
    refine OJ.pures tU_ok 1 rfl ?_
    refine OJ.nil (EJ.next ?_)
    refine CJ.seq ?_
    refine CJ.seq ?_
    refine CJ.region ?_
    refine OJ.pures tU_ok 3 rfl ?_
    refine OJ.nil (EJ.next ?_)
    obtain ⟨j23, H, K23⟩ := pbind H
    refine CJ.cut1 (fun F w1 => ∃ (y2 : Int) , (some y2 : Option Int) = some j23 ∧ F = [(1, .int .i64 a1), (2, .int .i64 a2), (9, .int .i64 y2)] ∧ St w no w1 [] [roC cMeadow Aa0 ca0 a0]) ?_ ?_
    · skip
      refine CJ.block ?_
      refine CJ.loop (fun k F w1 => ∃ (y3 : Int) (y4 : Int), F = [(1, .int .i64 a1), (2, .int .i64 a2), (9, .int .i64 y3), (19, .slice Aa0 a0.length ca0), (20, .int .i64 (a0.length : Int)), (21, .int .i64 y4)] ∧ St w no w1 [] [roC cMeadow Aa0 ca0 a0] ∧ impl_EnoughFor.l1 a0 a2 k y3 y4 = some j23) k (F' := [(1, .int .i64 a1), (2, .int .i64 a2), (9, .int .i64 0), (19, .slice Aa0 a0.length ca0), (20, .int .i64 (a0.length : Int)), (21, .int .i64 0)]) ⟨rfl, rfl, rfl, rfl, rfl, rfl, trivial⟩ ⟨0, 0, rfl, hS.pick [] [0] rfl, H⟩ ?_
      rintro k F w1 ⟨y3, y4, rfl, hS, H⟩
      cases k with
      | zero => rw [impl_EnoughFor.l1] at H; cases H
      | succ k =>
        rw [impl_EnoughFor.l1] at H
        refine CJ.seq ?_
        refine CJ.region ?_
        refine OJ.pures tU_ok 1 rfl ?_
        refine OJ.nil (EJ.next ?_)
        refine CJ.seq ?_
        refine CJ.cond rfl (fun hb => ?_) (fun hb => ?_)
        · replace H := pif_t (of_decide_eq_true hb) H
          refine CJ.skip (EJ.next ?_)
          refine CJ.seq ?_
          refine CJ.block ?_
          refine CJ.seq ?_
          refine CJ.region ?_
          obtain ⟨t5, ht5, H⟩ := pbind H
          obtain ⟨ad5, e5⟩ := (hS.rd' (i := 0) rfl).some' ht5
          refine OJ.st rfl rfl rfl (SR.idxS tU_ok tI_ok rfl rfl rfl rfl e5 rfl (getI_some ht5).1) ?_
          refine OJ.st rfl rfl rfl (SR.load rfl rfl (fun w' hx => ldE tU_ok tI_ok rfl rfl rfl (CA.ext ((hS.rd' (i := 0) rfl).at_ e5 ht5) hx) rfl)) ?_
          refine OJ.ef rfl rfl rfl (Ef.alloc hS tI_ok rfl rfl (cMeadow.enc (⟨0, 0, 0⟩ : Meadow)) rfl) ?_
          rintro _ w1 ⟨b6, rfl, hS⟩
          refine OJ.es rfl rfl (Es.store tI_ok hS (i := 0) rfl rfl rfl rfl rfl rfl (vs := cMeadow.enc t5) rfl (cMeadow.len _) (cMeadow.one _) (Nat.le_of_ble_eq_true rfl) (cMeadow.enc t5) rfl) ?_
          intro w1 hS
          refine OJ.nil (EJ.next ?_)
          refine CJ.region ?_
          refine OJ.pures tU_ok 1 rfl ?_
          refine OJ.st rfl rfl rfl (SR.fieldAddr tU_ok tI_ok rfl rfl rfl rfl rfl rfl) ?_
          refine OJ.st rfl rfl rfl (SR.load rfl rfl (fun w' hx => ld1 tU_ok rfl rfl (CA.ext (CA.sub (hS.cells (i := 0) rfl) 0) hx) rfl)) ?_
          refine OJ.pures tU_ok 1 rfl ?_
          refine OJ.st rfl rfl rfl (SR.fieldAddr tU_ok tI_ok rfl rfl rfl rfl rfl rfl) ?_
          refine OJ.st rfl rfl rfl (SR.load rfl rfl (fun w' hx => ld1 tU_ok rfl rfl (CA.ext (CA.sub (hS.cells (i := 0) rfl) 1) hx) rfl)) ?_
          refine OJ.pures tU_ok 7 rfl ?_
          refine OJ.nil (EJ.blk (EJ.next ?_))
          refine CJ.region ?_
          refine OJ.pures tU_ok 2 rfl ?_
          refine OJ.nil ?_
          exact EJ.round k (F' := [(1, .int .i64 a1), (2, .int .i64 a2), (9, .int .i64 (IntKind.i64.wrap (y3 + (IntKind.i64.wrap ((IntKind.i64.wrap t5.Grass) + (IntKind.i64.wrap ((IntKind.i64.wrap t5.Grows) * (IntKind.i64.wrap (a2 - 1))))))))), (19, .slice Aa0 a0.length ca0), (20, .int .i64 (a0.length : Int)), (21, .int .i64 (IntKind.i64.wrap (y4 + 1)))]) ⟨rfl, rfl, rfl, rfl, rfl, rfl, trivial⟩ (Nat.lt_succ_self _) ⟨(IntKind.i64.wrap (y3 + (IntKind.i64.wrap ((IntKind.i64.wrap t5.Grass) + (IntKind.i64.wrap ((IntKind.i64.wrap t5.Grows) * (IntKind.i64.wrap (a2 - 1)))))))), (IntKind.i64.wrap (y4 + 1)), rfl, hS.pick [] [0] rfl, H⟩
        · replace H := pif_f (of_decide_eq_false hb) H
          refine CJ.exit (EJ.skE (EJ.skE (EJ.hit (?_))))
          exact EJ.meet (F' := [(1, .int .i64 a1), (2, .int .i64 a2), (9, .int .i64 y3)]) ⟨rfl, rfl, rfl, trivial⟩ ⟨y3, H, rfl, hS.pick [] [0] rfl⟩
    · rintro F w1 ⟨y2, he, rfl, hS⟩
      obtain rfl := Option.some.inj he
      have H := K23
      refine EJ.next ?_
      refine CJ.seq ?_
      refine CJ.region ?_
      refine OJ.pures tU_ok 3 rfl ?_
      refine OJ.split (t := 40) rfl (fun hb => ?_) (fun hb => ?_)
      · replace H := pif_t (of_decide_eq_true hb) H
        refine OJ.pures tU_ok 8 rfl ?_
        refine OJ.nil (EJ.next ?_)
        refine CJ.ret (?_)
        obtain rfl := Option.some.inj H
        exact EJ.fin rfl (.tmp rfl (.tmp rfl .nil)) ⟨rfl, hS.ext⟩
      · replace H := pif_f (of_decide_eq_false hb) H
        refine OJ.pures tU_ok 8 rfl ?_
        refine OJ.nil (EJ.next ?_)
        refine CJ.ret (?_)
        obtain rfl := Option.some.inj H
        exact EJ.fin rfl (.tmp rfl (.tmp rfl .nil)) ⟨rfl, hS.ext⟩

def laws_FnExactEnoughFor.f (k : Nat) (a0 : List Meadow) (a1 : Int) (a2 : Int) : Option Bool := (laws_szMeadowS.f a0 1048576).bind fun t1 => if t1 < 0 then (some true) else ((laws_toMeadowS.f k a0).bind fun t2 => (spec_EnoughFor.f k t2 a1 a2).bind fun t5 => (laws_toMeadowS.f k a0).bind fun t6 => (impl_EnoughFor.f k t6 a1 a2).bind fun t9 => (if t9.1 ≠ t5.1 then (some true) else (some (decide (t9.2 ≠ t5.2)))).bind fun y10 => if y10 = true then (some false) else ((laws_toMeadowS.f k a0).bind fun t11 => (laws_eqMeadowS.f k t6 t11).bind fun t14 => if (!t14) = true then (some false) else (some true)))
theorem laws_FnExactEnoughFor.c (k : Nat) (w : World) (Aa0 : Option Addr) (ca0 : Nat) (a0 : List Meadow) (hr0 : Rd cMeadow w Aa0 a0) (hc0 : a0.length ≤ ca0) (a1 : Int) (a2 : Int) (r : Bool) (H : laws_FnExactEnoughFor.f k a0 a1 a2 = some r) :
    CV Try.prog 6 [.slice Aa0 a0.length ca0, .int .i64 a1, .int .i64 a2].toArray w fun v w' => v = .bool r ∧ Ext w w' := by
  have hS := ((St.init w no).param cMeadow Aa0 ca0 a0 hr0 hc0)
  unfold laws_FnExactEnoughFor.f at H
  refine CV.body Try.func6 rfl Try.ntmps6 rfl ?_
  refine CJ.seq ?_
  refine CJ.region ?_
  refine OJ.pures tU_ok 1 rfl ?_
  refine OJ.nil (EJ.next ?_)
  refine CJ.seq ?_
  refine CJ.region ?_
  refine OJ.pures tU_ok 1 rfl ?_
  refine OJ.nil (EJ.next ?_)
  refine CJ.seq ?_
  refine CJ.region ?_
  refine OJ.pures tU_ok 2 rfl ?_
  obtain ⟨t1, ht1, H⟩ := pbind H
  refine OJ.callF rfl rfl rfl rfl rfl hb15 rfl (laws_szMeadowS.c _ Aa0 ca0 a0 (hS.rd' (i := 0) rfl) (hS.le' (i := 0) rfl) 1048576 _ ht1) ?_
  rintro _ w1 ⟨rfl, hs⟩
  replace hS := hS.grow hs
  refine OJ.pures tU_ok 1 rfl ?_
  refine OJ.nil (EJ.next ?_)
  refine CJ.seq ?_
  refine CJ.seq ?_
  refine CJ.region ?_
  refine OJ.pures tU_ok 2 rfl ?_
  refine OJ.nil (EJ.next ?_)
  refine CJ.cond rfl (fun hb => ?_) (fun hb => ?_)
  · replace H := pif_t (of_decide_eq_true hb) H
    refine CJ.seq ?_
    refine CJ.region ?_
    refine OJ.pures tU_ok 1 rfl ?_
    refine OJ.nil (EJ.next ?_)
    refine CJ.ret (EJ.skR (?_))
    obtain rfl := Option.some.inj H
    exact EJ.fin rfl (.tmp rfl .nil) ⟨rfl, hS.ext⟩
  · replace H := pif_f (of_decide_eq_false hb) H
    refine CJ.skip (EJ.next ?_)
    refine CJ.seq ?_
    refine CJ.region ?_
    refine OJ.pures tU_ok 1 rfl ?_
    obtain ⟨t2, ht2, H⟩ := pbind H
    refine OJ.callF rfl rfl rfl rfl rfl hb17 rfl (laws_toMeadowS.c k _ Aa0 ca0 a0 (hS.rd' (i := 0) rfl) (hS.le' (i := 0) rfl) _ ht2) ?_
    rintro _ w1 ⟨A3, c4, rfl, hs⟩
    replace hS := hS.addN hs
    refine OJ.pures tU_ok 2 rfl ?_
    obtain ⟨t5, ht5, H⟩ := pbind H
    refine OJ.callF rfl rfl rfl rfl rfl hb28 rfl (spec_EnoughFor.c k _ A3 c4 t2 (hS.rd (i := 0) rfl) (hS.le (i := 0) rfl) a1 a2 _ ht5) ?_
    rintro _ w1 ⟨rfl, hs⟩
    replace hS := hS.grow hs
    refine OJ.pures tU_ok 5 rfl ?_
    refine OJ.nil (EJ.next ?_)
    refine CJ.seq ?_
    refine CJ.region ?_
    refine OJ.pures tU_ok 1 rfl ?_
    obtain ⟨t6, ht6, H⟩ := pbind H
    refine OJ.callF rfl rfl rfl rfl rfl hb17 rfl (laws_toMeadowS.c k _ Aa0 ca0 a0 (hS.rd' (i := 0) rfl) (hS.le' (i := 0) rfl) _ ht6) ?_
    rintro _ w1 ⟨A7, c8, rfl, hs⟩
    replace hS := hS.addN hs
    refine OJ.pures tU_ok 1 rfl ?_
    refine OJ.nil (EJ.next ?_)
    refine CJ.seq ?_
    refine CJ.region ?_
    refine OJ.pures tU_ok 3 rfl ?_
    obtain ⟨t9, ht9, H⟩ := pbind H
    refine OJ.callF rfl rfl rfl rfl rfl hb29 rfl (impl_EnoughFor.c k _ A7 c8 t6 (hS.rd (i := 1) rfl) (hS.le (i := 1) rfl) a1 a2 _ ht9) ?_
    rintro _ w1 ⟨rfl, hs⟩
    replace hS := hS.grow hs
    refine OJ.pures tU_ok 5 rfl ?_
    refine OJ.nil (EJ.next ?_)
    refine CJ.seq ?_
    obtain ⟨j24, H, K24⟩ := pbind H
    refine CJ.cut (fun F w1 => ∃ (y10 : Bool) , (some y10 : Option Bool) = some j24 ∧ F = [(0, .slice Aa0 a0.length ca0), (10, .slice A7 t6.length c8), (42, .bool y10)] ∧ St w no w1 [rowC cMeadow A7 c8 57 t6] [roC cMeadow Aa0 ca0 a0]) ?_ ?_
    · skip
      refine CJ.region ?_
      refine OJ.pures tU_ok 2 rfl ?_
      refine OJ.st rfl rfl rfl (SR.neB tU_ok rfl rfl rfl rfl) ?_
      refine OJ.pures tU_ok 1 rfl ?_
      refine OJ.split (t := 38) rfl (fun hb => ?_) (fun hb => ?_)
      · replace H := pif_t (of_decide_eq_true hb) H
        refine OJ.pures tU_ok 4 rfl ?_
        refine OJ.nil ?_
        exact EJ.meet (F' := [(0, .slice Aa0 a0.length ca0), (10, .slice A7 t6.length c8), (42, .bool true)]) ⟨rfl, rfl, rfl, trivial⟩ ⟨true, H, rfl, hS.pick [1] [0] rfl⟩
      · replace H := pif_f (of_decide_eq_false hb) H
        refine OJ.pures tU_ok 4 rfl ?_
        refine OJ.nil ?_
        exact EJ.meet (F' := [(0, .slice Aa0 a0.length ca0), (10, .slice A7 t6.length c8), (42, .bool (decide (t9.2 ≠ t5.2)))]) ⟨rfl, rfl, rfl, trivial⟩ ⟨(decide (t9.2 ≠ t5.2)), H, rfl, hS.pick [1] [0] rfl⟩
    · rintro F w1 ⟨y10, he, rfl, hS⟩
      obtain rfl := Option.some.inj he
      have H := K24
      refine CJ.cond rfl (fun hb => ?_) (fun hb => ?_)
      · replace H := pif_t hb H
        refine CJ.seq ?_
        refine CJ.region ?_
        refine OJ.pures tU_ok 1 rfl ?_
        refine OJ.nil (EJ.next ?_)
        refine CJ.ret (EJ.skR (?_))
        obtain rfl := Option.some.inj H
        exact EJ.fin rfl (.tmp rfl .nil) ⟨rfl, hS.ext⟩
      · replace H := pifb_f hb H
        refine CJ.skip (EJ.next ?_)
        refine CJ.seq ?_
        refine CJ.seq ?_
        refine CJ.region ?_
        refine OJ.pures tU_ok 2 rfl ?_
        obtain ⟨t11, ht11, H⟩ := pbind H
        refine OJ.callF rfl rfl rfl rfl rfl hb17 rfl (laws_toMeadowS.c k _ Aa0 ca0 a0 (hS.rd' (i := 0) rfl) (hS.le' (i := 0) rfl) _ ht11) ?_
        rintro _ w1 ⟨A12, c13, rfl, hs⟩
        replace hS := hS.addN hs
        obtain ⟨t14, ht14, H⟩ := pbind H
        refine OJ.callF rfl rfl rfl rfl rfl hb19 rfl (laws_eqMeadowS.c k _ A7 c8 t6 (hS.rd (i := 0) rfl) (hS.le (i := 0) rfl) A12 c13 t11 (hS.rd (i := 1) rfl) (hS.le (i := 1) rfl) _ ht14) ?_
        rintro _ w1 ⟨rfl, hs⟩
        replace hS := hS.grow hs
        refine OJ.pures tU_ok 1 rfl ?_
        refine OJ.nil (EJ.next ?_)
        refine CJ.cond rfl (fun hb => ?_) (fun hb => ?_)
        · replace H := pif_t hb H
          refine CJ.seq ?_
          refine CJ.region ?_
          refine OJ.pures tU_ok 1 rfl ?_
          refine OJ.nil (EJ.next ?_)
          refine CJ.ret (EJ.skR (?_))
          obtain rfl := Option.some.inj H
          exact EJ.fin rfl (.tmp rfl .nil) ⟨rfl, hS.ext⟩
        · replace H := pifb_f hb H
          refine CJ.skip (EJ.next ?_)
          refine CJ.seq ?_
          refine CJ.region ?_
          refine OJ.pures tU_ok 1 rfl ?_
          refine OJ.nil (EJ.next ?_)
          refine CJ.ret (?_)
          obtain rfl := Option.some.inj H
          exact EJ.fin rfl (.tmp rfl .nil) ⟨rfl, hS.ext⟩

def spec_l07Index.f (a0 : List Meadow) (a1 : Int) : Option Bool := (spec_l00In.f a1 0 (IntKind.i64.wrap ((a0.length : Int) - 1))).bind fun t1 => some t1
theorem spec_l07Index.c (w : World) (Aa0 : Option Addr) (ca0 : Nat) (a0 : List Meadow) (hr0 : Rd cMeadow w Aa0 a0) (hc0 : a0.length ≤ ca0) (a1 : Int) (r : Bool) (H : spec_l07Index.f a0 a1 = some r) :
    CV Try.prog 61 [.slice Aa0 a0.length ca0, .int .i64 a1].toArray w fun v w' => v = .bool r ∧ Ext w w' := by
  have hS := ((St.init w no).param cMeadow Aa0 ca0 a0 hr0 hc0)
  unfold spec_l07Index.f at H
  refine CV.body Try.func61 rfl Try.ntmps61 rfl ?_
  refine CJ.seq ?_
  refine CJ.region ?_
  refine OJ.pures tU_ok 1 rfl ?_
  refine OJ.nil (EJ.next ?_)
  refine CJ.seq ?_
  refine CJ.region ?_
  refine OJ.pures tU_ok 4 rfl ?_
  obtain ⟨t1, ht1, H⟩ := pbind H
  refine OJ.callF rfl rfl rfl rfl rfl hb56 rfl (spec_l00In.c _ a1 0 (IntKind.i64.wrap ((a0.length : Int) - 1)) _ ht1) ?_
  rintro _ w1 ⟨rfl, hs⟩
  replace hS := hS.grow hs
  refine OJ.pures tU_ok 1 rfl ?_
  refine OJ.nil (EJ.next ?_)
  refine CJ.ret (?_)
  obtain rfl := Option.some.inj H
  exact EJ.fin rfl (.tmp rfl .nil) ⟨rfl, hS.ext⟩

def spec_l00Min.f (a0 : Int) (a1 : Int) : Option Int := if a0 < a1 then (some a0) else (some a1)
theorem spec_l00Min.c (w : World) (a0 : Int) (a1 : Int) (r : Int) (H : spec_l00Min.f a0 a1 = some r) :
    CV Try.prog 80 [.int .i64 a0, .int .i64 a1].toArray w fun v w' => v = .int .i64 r ∧ Ext w w' := by
  have hS := (St.init w no)
  unfold spec_l00Min.f at H
  refine CV.body Try.func80 rfl Try.ntmps80 rfl ?_
  refine CJ.seq ?_
  refine CJ.region ?_
  refine OJ.pures tU_ok 1 rfl ?_
  refine OJ.nil (EJ.next ?_)
  refine CJ.seq ?_
  refine CJ.seq ?_
  refine CJ.region ?_
  refine OJ.pures tU_ok 3 rfl ?_
  refine OJ.nil (EJ.next ?_)
  refine CJ.cond rfl (fun hb => ?_) (fun hb => ?_)
  · replace H := pif_t (of_decide_eq_true hb) H
    refine CJ.seq ?_
    refine CJ.region ?_
    refine OJ.pures tU_ok 2 rfl ?_
    refine OJ.nil (EJ.next ?_)
    refine CJ.ret (EJ.skR (?_))
    obtain rfl := Option.some.inj H
    exact EJ.fin rfl (.tmp rfl .nil) ⟨rfl, hS.ext⟩
  · replace H := pif_f (of_decide_eq_false hb) H
    refine CJ.skip (EJ.next ?_)
    refine CJ.seq ?_
    refine CJ.region ?_
    refine OJ.pures tU_ok 2 rfl ?_
    refine OJ.nil (EJ.next ?_)
    refine CJ.ret (?_)
    obtain rfl := Option.some.inj H
    exact EJ.fin rfl (.tmp rfl .nil) ⟨rfl, hS.ext⟩

def spec_l07Day.l1 : Nat → (List Meadow) → Int → Option (List Meadow)
  | 0, _, _ => none
  | k + 1, y8, y9 => if y9 < (y8.length : Int) then ((getI y8 y9).bind fun t10 => (getI y8 y9).bind fun t11 => (getI y8 y9).bind fun t12 => (spec_l00Min.f (IntKind.i64.wrap t10.Most) (IntKind.i64.wrap ((IntKind.i64.wrap t11.Grass) + (IntKind.i64.wrap t12.Grows)))).bind fun t13 => (getI y8 y9).bind fun t14 => spec_l07Day.l1 k (y8.set y9.toNat (⟨IntKind.i16.wrap t13, t14.Grows, t14.Most⟩ : Meadow)) (IntKind.i64.wrap (y9 + 1))) else (some y8)
def spec_l07Day.f (k : Nat) (a0 : List Meadow) (a1 : Int) (a2 : Int) : Option (List Meadow) := (chk (([] : List Meadow).length + a0.length ≤ 4294967296)).bind fun u2 => (getI (([] : List Meadow) ++ a0) a2).bind fun t5 => (getI (([] : List Meadow) ++ a0) a2).bind fun t6 => (spec_l07Day.l1 k ((([] : List Meadow) ++ a0).set a2.toNat (⟨IntKind.i16.wrap (t5.Grass - (IntKind.i16.wrap a1)), t6.Grows, t6.Most⟩ : Meadow)) 0).bind fun y7 => some y7
theorem spec_l07Day.c (k : Nat) (w : World) (Aa0 : Option Addr) (ca0 : Nat) (a0 : List Meadow) (hr0 : Rd cMeadow w Aa0 a0) (hc0 : a0.length ≤ ca0) (a1 : Int) (a2 : Int) (r : List Meadow) (H : spec_l07Day.f k a0 a1 a2 = some r) :
    CV Try.prog 62 [.slice Aa0 a0.length ca0, .int .i64 a1, .int .i64 a2].toArray w fun v w' => ∃ (A0 : Option Addr) (c0 : Nat), v = .slice A0 r.length c0 ∧ St w no w' [rowC cMeadow A0 c0 57 r] [] := by
  have hS := ((St.init w no).param cMeadow Aa0 ca0 a0 hr0 hc0)
  unfold spec_l07Day.f at H
  refine CV.body Try.func62 rfl Try.ntmps62 rfl ?_
  refine CJ.seq ?_
  refine CJ.region ?_
  refine OJ.pures tU_ok 1 rfl ?_
  refine OJ.nil (EJ.next ?_)
  refine CJ.seq ?_
  refine CJ.region ?_
  refine OJ.ef rfl rfl rfl (Ef.lit tU_ok tI_ok hS (C := cMeadow) rfl rfl rfl rfl rfl rfl ([] : List Meadow) rfl rfl rfl rfl) ?_
  rintro _ w1 ⟨A1, rfl, hS⟩
  refine OJ.pures tU_ok 1 rfl ?_
  obtain ⟨u2, hu2, H⟩ := pbind H
  refine OJ.ew rfl rfl rfl (Ew.append tU_ok tI_ok (C := cMeadow) (xs := ([] : List Meadow)) (ys := a0) hS (i := 0) rfl rfl rfl rfl rfl rfl rfl rfl rfl rfl rfl rfl rfl (hS.rd' (i := 0) rfl) (chk_some hu2)) ?_
  rintro _ w1 ⟨A3, c4, rfl, hS⟩
  refine OJ.pures tU_ok 1 rfl ?_
  refine OJ.nil (EJ.next ?_)
  refine CJ.seq ?_
  refine CJ.region ?_
  refine OJ.pures tU_ok 2 rfl ?_
  obtain ⟨t5, ht5, H⟩ := pbind H
  obtain ⟨ad5, e5⟩ := (hS.rd (i := 0) rfl).some' ht5
  refine OJ.st rfl rfl rfl (SR.idxS tU_ok tI_ok rfl rfl rfl rfl e5 rfl (getI_some ht5).1) ?_
  refine OJ.st rfl rfl rfl (SR.fieldAddr tU_ok tI_ok rfl rfl rfl rfl rfl rfl) ?_
  refine OJ.st rfl rfl rfl (SR.load rfl rfl (fun w' hx => ld1 tU_ok rfl rfl (CA.ext (CA.sub ((hS.rd (i := 0) rfl).at_ e5 ht5) 0) hx) rfl)) ?_
  refine OJ.pures tU_ok 3 rfl ?_
  obtain ⟨t6, ht6, H⟩ := pbind H
  obtain ⟨ad6, e6⟩ := (hS.rd (i := 0) rfl).some' ht6
  refine OJ.st rfl rfl rfl (SR.idxS tU_ok tI_ok rfl rfl rfl rfl e6 rfl (getI_some ht6).1) ?_
  refine OJ.st rfl rfl rfl (SR.fieldAddr tU_ok tI_ok rfl rfl rfl rfl rfl rfl) ?_
  refine OJ.es rfl rfl (Es.storeR tI_ok hS (i := 0) (off := 0) rfl rfl ht6 e6 rfl (add_add _ _ _) rfl rfl (vs := (ci .i16).enc (IntKind.i16.wrap (t5.Grass - (IntKind.i16.wrap a1)))) rfl rfl (one1 rfl) (Nat.le_of_ble_eq_true rfl) (⟨IntKind.i16.wrap (t5.Grass - (IntKind.i16.wrap a1)), t6.Grows, t6.Most⟩ : Meadow) rfl) ?_
  intro w1 hS
  refine OJ.as (t := 11) rfl (slL _ _ _ a2.toNat (⟨IntKind.i16.wrap (t5.Grass - (IntKind.i16.wrap a1)), t6.Grows, t6.Most⟩ : Meadow)) ?_
  refine OJ.as (t := 7) rfl (slL _ _ _ a2.toNat (⟨IntKind.i16.wrap (t5.Grass - (IntKind.i16.wrap a1)), t6.Grows, t6.Most⟩ : Meadow)) ?_
  refine OJ.as (t := 12) rfl (slL _ _ _ a2.toNat (⟨IntKind.i16.wrap (t5.Grass - (IntKind.i16.wrap a1)), t6.Grows, t6.Most⟩ : Meadow)) ?_
  refine OJ.nil (EJ.next ?_)
  refine CJ.seq ?_
  refine CJ.seq ?_
  refine CJ.region ?_
  refine OJ.pures tU_ok 1 rfl ?_
  refine OJ.nil (EJ.next ?_)
  obtain ⟨j25, H, K25⟩ := pbind H
  refine CJ.cut1 (fun F w1 => ∃ (y7 : List Meadow) , (some y7 : Option (List Meadow)) = some j25 ∧ F = [(7, .slice A3 y7.length c4)] ∧ St w no w1 [rowC cMeadow A3 c4 57 y7] [roC cMeadow Aa0 ca0 a0]) ?_ ?_
  · skip
    refine CJ.block ?_
    refine CJ.loop (fun k F w1 => ∃ (y8 : List Meadow) (y9 : Int), F = [(7, .slice A3 y8.length c4), (8, .int .i64 y9)] ∧ St w no w1 [rowC cMeadow A3 c4 57 y8] [roC cMeadow Aa0 ca0 a0] ∧ spec_l07Day.l1 k y8 y9 = some j25) k (F' := [(7, .slice A3 ((([] : List Meadow) ++ a0).set a2.toNat (⟨IntKind.i16.wrap (t5.Grass - (IntKind.i16.wrap a1)), t6.Grows, t6.Most⟩ : Meadow)).length c4), (8, .int .i64 0)]) ⟨rfl, rfl, trivial⟩ ⟨((([] : List Meadow) ++ a0).set a2.toNat (⟨IntKind.i16.wrap (t5.Grass - (IntKind.i16.wrap a1)), t6.Grows, t6.Most⟩ : Meadow)), 0, rfl, hS.pick [0] [0] rfl, H⟩ ?_
    rintro k F w1 ⟨y8, y9, rfl, hS, H⟩
    cases k with
    | zero => rw [spec_l07Day.l1] at H; cases H
    | succ k =>
      rw [spec_l07Day.l1] at H
      refine CJ.seq ?_
      refine CJ.seq ?_
      refine CJ.region ?_
      refine OJ.pures tU_ok 4 rfl ?_
      refine OJ.nil (EJ.next ?_)
      refine CJ.cond rfl (fun hb => ?_) (fun hb => ?_)
      · replace H := pif_t (of_decide_eq_true hb) H
        refine CJ.skip (EJ.next ?_)
        refine CJ.seq ?_
        refine CJ.block ?_
        refine CJ.draw [] [0, 1, 2, 3, 4, 5, 6, 7, 8, 9, 10, 11, 12, 13, 14, 15, 16, 17, 18, 19, 20, 21, 22, 23, 24, 25] mixed (by kernel_rfl) hS fun w1 hS => ?_
        refine DJ.pures tU_ok 4 rfl ?_
        obtain ⟨t10, ht10, H⟩ := pbind H
        obtain ⟨ad10, e10⟩ := (hS.rd (i := 0) rfl).some' ht10
        refine DJ.st rfl rfl rfl rfl rfl (SR.idxS tU_ok tI_ok rfl rfl rfl rfl e10 rfl (getI_some ht10).1) ?_
        refine DJ.st rfl rfl rfl rfl rfl (SR.fieldAddr tU_ok tI_ok rfl rfl rfl rfl rfl rfl) ?_
        refine DJ.st rfl rfl rfl rfl rfl (SR.load rfl rfl (fun w' hx => ld1 tU_ok rfl rfl (CA.ext (CA.sub ((hS.rd (i := 0) rfl).at_ e10 ht10) 2) hx) rfl)) ?_
        refine DJ.pures tU_ok 3 rfl ?_
        obtain ⟨t11, ht11, H⟩ := pbind H
        obtain ⟨ad11, e11⟩ := (hS.rd (i := 0) rfl).some' ht11
        refine DJ.st rfl rfl rfl rfl rfl (SR.idxS tU_ok tI_ok rfl rfl rfl rfl e11 rfl (getI_some ht11).1) ?_
        refine DJ.st rfl rfl rfl rfl rfl (SR.fieldAddr tU_ok tI_ok rfl rfl rfl rfl rfl rfl) ?_
        refine DJ.st rfl rfl rfl rfl rfl (SR.load rfl rfl (fun w' hx => ld1 tU_ok rfl rfl (CA.ext (CA.sub ((hS.rd (i := 0) rfl).at_ e11 ht11) 0) hx) rfl)) ?_
        refine DJ.pures tU_ok 3 rfl ?_
        obtain ⟨t12, ht12, H⟩ := pbind H
        obtain ⟨ad12, e12⟩ := (hS.rd (i := 0) rfl).some' ht12
        refine DJ.st rfl rfl rfl rfl rfl (SR.idxS tU_ok tI_ok rfl rfl rfl rfl e12 rfl (getI_some ht12).1) ?_
        refine DJ.st rfl rfl rfl rfl rfl (SR.fieldAddr tU_ok tI_ok rfl rfl rfl rfl rfl rfl) ?_
        refine DJ.st rfl rfl rfl rfl rfl (SR.load rfl rfl (fun w' hx => ld1 tU_ok rfl rfl (CA.ext (CA.sub ((hS.rd (i := 0) rfl).at_ e12 ht12) 1) hx) rfl)) ?_
        refine DJ.pures tU_ok 2 rfl ?_
        obtain ⟨t13, ht13, H⟩ := pbind H
        refine DJ.callF rfl rfl rfl rfl rfl rfl rfl hb80 rfl (spec_l00Min.c _ (IntKind.i64.wrap t10.Most) (IntKind.i64.wrap ((IntKind.i64.wrap t11.Grass) + (IntKind.i64.wrap t12.Grows))) _ ht13) (by rintro v w' ⟨rfl, hs⟩; exact hs) ?_
        rintro _ w1 ⟨rfl, hs⟩
        replace hS := hS.grow hs
        refine DJ.pures tU_ok 1 rfl ?_
        obtain ⟨t14, ht14, H⟩ := pbind H
        obtain ⟨ad14, e14⟩ := (hS.rd (i := 0) rfl).some' ht14
        refine DJ.st rfl rfl rfl rfl rfl (SR.idxS tU_ok tI_ok rfl rfl rfl rfl e14 rfl (getI_some ht14).1) ?_
        refine DJ.st rfl rfl rfl rfl rfl (SR.fieldAddr tU_ok tI_ok rfl rfl rfl rfl rfl rfl) ?_
        refine DJ.es rfl rfl rfl rfl (Es.storeR tI_ok hS (i := 0) (off := 0) rfl rfl ht14 e14 rfl (add_add _ _ _) rfl rfl (vs := (ci .i16).enc (IntKind.i16.wrap t13)) rfl rfl (one1 rfl) (Nat.le_of_ble_eq_true rfl) (⟨IntKind.i16.wrap t13, t14.Grows, t14.Most⟩ : Meadow) rfl) ?_
        intro w1 hS
        refine DJ.as (t := 7) rfl (slL _ _ _ y9.toNat (⟨IntKind.i16.wrap t13, t14.Grows, t14.Most⟩ : Meadow)) ?_
        refine DJ.as (t := 23) rfl (slL _ _ _ y9.toNat (⟨IntKind.i16.wrap t13, t14.Grows, t14.Most⟩ : Meadow)) ?_
        refine DJ.as (t := 28) rfl (slL _ _ _ y9.toNat (⟨IntKind.i16.wrap t13, t14.Grows, t14.Most⟩ : Meadow)) ?_
        refine DJ.as (t := 30) rfl (slL _ _ _ y9.toNat (⟨IntKind.i16.wrap t13, t14.Grows, t14.Most⟩ : Meadow)) ?_
        refine DJ.as (t := 36) rfl (slL _ _ _ y9.toNat (⟨IntKind.i16.wrap t13, t14.Grows, t14.Most⟩ : Meadow)) ?_
        refine DJ.as (t := 42) rfl (slL _ _ _ y9.toNat (⟨IntKind.i16.wrap t13, t14.Grows, t14.Most⟩ : Meadow)) ?_
        refine DJ.nil (EJ.blk (EJ.next ?_))
        refine CJ.region ?_
        refine OJ.pures tU_ok 3 rfl ?_
        refine OJ.nil ?_
        exact EJ.round k (F' := [(7, .slice A3 (y8.set y9.toNat (⟨IntKind.i16.wrap t13, t14.Grows, t14.Most⟩ : Meadow)).length c4), (8, .int .i64 (IntKind.i64.wrap (y9 + 1)))]) ⟨rfl, rfl, trivial⟩ (Nat.lt_succ_self _) ⟨(y8.set y9.toNat (⟨IntKind.i16.wrap t13, t14.Grows, t14.Most⟩ : Meadow)), (IntKind.i64.wrap (y9 + 1)), rfl, hS.pick [0] [0] rfl, H⟩
      · replace H := pif_f (of_decide_eq_false hb) H
        refine CJ.exit (EJ.skE (EJ.skE (EJ.hit (?_))))
        exact EJ.meet (F' := [(7, .slice A3 y8.length c4)]) ⟨rfl, trivial⟩ ⟨y8, H, rfl, hS.pick [0] [0] rfl⟩
  · rintro F w1 ⟨y7, he, rfl, hS⟩
    obtain rfl := Option.some.inj he
    have H := K25
    refine EJ.next ?_
    refine CJ.seq ?_
    refine CJ.region ?_
    refine OJ.pures tU_ok 2 rfl ?_
    refine OJ.nil (EJ.next ?_)
    refine CJ.ret (?_)
    obtain rfl := Option.some.inj H
    exact EJ.fin rfl (.tmp rfl .nil) ⟨A3, c4, rfl, hS.pick [0] [] rfl⟩

def spec_DayBehind.f (k : Nat) (a0 : List Meadow) (a1 : Int) (a2 : Int) : Option (List Meadow × Int) := (spec_l07Index.f a0 a2).bind fun t1 => (spec_l07Asked.f k a0 a1 t1).bind fun t2 => if t2 ≠ 0 then (some (([] : List Meadow), t2)) else ((getI a0 a2).bind fun t4 => if (IntKind.i64.wrap t4.Grass) < a1 then (some (([] : List Meadow), 4)) else ((spec_l07Day.f k a0 a1 a2).bind fun t6 => some (t6, 0)))
theorem spec_DayBehind.c (k : Nat) (w : World) (Aa0 : Option Addr) (ca0 : Nat) (a0 : List Meadow) (hr0 : Rd cMeadow w Aa0 a0) (hc0 : a0.length ≤ ca0) (a1 : Int) (a2 : Int) (r : List Meadow × Int) (H : spec_DayBehind.f k a0 a1 a2 = some r) :
    CV Try.prog 30 [.slice Aa0 a0.length ca0, .int .i64 a1, .int .i64 a2].toArray w fun v w' => ∃ (A0 : Option Addr) (c0 : Nat), v = .tuple #[.slice A0 r.1.length c0, .int .i64 r.2] ∧ St w no w' [rowC cMeadow A0 c0 57 r.1] [] := by
  have hS := ((St.init w no).param cMeadow Aa0 ca0 a0 hr0 hc0)
  unfold spec_DayBehind.f at H
  refine CV.body Try.func30 rfl Try.ntmps30 rfl ?_
  refine CJ.seq ?_
  refine CJ.region ?_
  refine OJ.pures tU_ok 2 rfl ?_
  refine OJ.nil (EJ.next ?_)
  refine CJ.seq ?_
  refine CJ.seq ?_
  refine CJ.region ?_
  refine OJ.pures tU_ok 4 rfl ?_
  obtain ⟨t1, ht1, H⟩ := pbind H
  refine OJ.callF rfl rfl rfl rfl rfl hb61 rfl (spec_l07Index.c _ Aa0 ca0 a0 (hS.rd' (i := 0) rfl) (hS.le' (i := 0) rfl) a2 _ ht1) ?_
  rintro _ w1 ⟨rfl, hs⟩
  replace hS := hS.grow hs
  obtain ⟨t2, ht2, H⟩ := pbind H
  refine OJ.callF rfl rfl rfl rfl rfl hb57 rfl (spec_l07Asked.c k _ Aa0 ca0 a0 (hS.rd' (i := 0) rfl) (hS.le' (i := 0) rfl) a1 t1 _ ht2) ?_
  rintro _ w1 ⟨rfl, hs⟩
  replace hS := hS.grow hs
  refine OJ.pures tU_ok 1 rfl ?_
  refine OJ.nil (EJ.next ?_)
  refine CJ.seq ?_
  refine CJ.region ?_
  refine OJ.pures tU_ok 2 rfl ?_
  refine OJ.nil (EJ.next ?_)
  refine CJ.cond rfl (fun hb => ?_) (fun hb => ?_)
  · replace H := pif_t (of_decide_eq_true hb) H
    refine CJ.seq ?_
    refine CJ.region ?_
    refine OJ.ef rfl rfl rfl (Ef.lit tU_ok tI_ok hS (C := cMeadow) rfl rfl rfl rfl rfl rfl ([] : List Meadow) rfl rfl rfl rfl) ?_
    rintro _ w1 ⟨A3, rfl, hS⟩
    refine OJ.pures tU_ok 3 rfl ?_
    refine OJ.nil (EJ.next ?_)
    refine CJ.ret (EJ.skR (?_))
    obtain rfl := Option.some.inj H
    exact EJ.fin rfl (.tmp rfl (.tmp rfl .nil)) ⟨A3, (([] : List Meadow).length), rfl, hS.pick [0] [] rfl⟩
  · replace H := pif_f (of_decide_eq_false hb) H
    refine CJ.skip (EJ.next ?_)
    refine CJ.seq ?_
    refine CJ.seq ?_
    refine CJ.region ?_
    refine OJ.pures tU_ok 2 rfl ?_
    obtain ⟨t4, ht4, H⟩ := pbind H
    obtain ⟨ad4, e4⟩ := (hS.rd' (i := 0) rfl).some' ht4
    refine OJ.st rfl rfl rfl (SR.idxS tU_ok tI_ok rfl rfl rfl rfl e4 rfl (getI_some ht4).1) ?_
    refine OJ.st rfl rfl rfl (SR.fieldAddr tU_ok tI_ok rfl rfl rfl rfl rfl rfl) ?_
    refine OJ.st rfl rfl rfl (SR.load rfl rfl (fun w' hx => ld1 tU_ok rfl rfl (CA.ext (CA.sub ((hS.rd' (i := 0) rfl).at_ e4 ht4) 0) hx) rfl)) ?_
    refine OJ.pures tU_ok 3 rfl ?_
    refine OJ.nil (EJ.next ?_)
    refine CJ.cond rfl (fun hb => ?_) (fun hb => ?_)
    · replace H := pif_t (of_decide_eq_true hb) H
      refine CJ.seq ?_
      refine CJ.region ?_
      refine OJ.ef rfl rfl rfl (Ef.lit tU_ok tI_ok hS (C := cMeadow) rfl rfl rfl rfl rfl rfl ([] : List Meadow) rfl rfl rfl rfl) ?_
      rintro _ w1 ⟨A5, rfl, hS⟩
      refine OJ.pures tU_ok 2 rfl ?_
      refine OJ.nil (EJ.next ?_)
      refine CJ.ret (EJ.skR (?_))
      obtain rfl := Option.some.inj H
      exact EJ.fin rfl (.tmp rfl (.tmp rfl .nil)) ⟨A5, (([] : List Meadow).length), rfl, hS.pick [0] [] rfl⟩
    · replace H := pif_f (of_decide_eq_false hb) H
      refine CJ.skip (EJ.next ?_)
      refine CJ.seq ?_
      refine CJ.region ?_
      refine OJ.pures tU_ok 3 rfl ?_
      obtain ⟨t6, ht6, H⟩ := pbind H
      refine OJ.callF rfl rfl rfl rfl rfl hb62 rfl (spec_l07Day.c k _ Aa0 ca0 a0 (hS.rd' (i := 0) rfl) (hS.le' (i := 0) rfl) a1 a2 _ ht6) ?_
      rintro _ w1 ⟨A7, c8, rfl, hs⟩
      replace hS := hS.addN hs
      refine OJ.pures tU_ok 2 rfl ?_
      refine OJ.nil (EJ.next ?_)
      refine CJ.ret (?_)
      obtain rfl := Option.some.inj H
      exact EJ.fin rfl (.tmp rfl (.tmp rfl .nil)) ⟨A7, c8, rfl, hS.pick [0] [] rfl⟩

def slices_Clone_impl_Meadow_impl_Meadow.f (a0 : List Meadow) : Option (List Meadow) := (chk (([] : List Meadow).length + a0.length ≤ 4294967296)).bind fun _ => some a0
theorem slices_Clone_impl_Meadow_impl_Meadow.c (w : World) (A : Option Addr) (c : Nat) (a0 : List Meadow) (hr0 : Rd cMeadow w A a0) (hc0 : a0.length ≤ c) (r : List Meadow) (H : slices_Clone_impl_Meadow_impl_Meadow.f a0 = some r) :
    CV Try.prog 72 [.slice A a0.length c].toArray w fun v w' => ∃ (A0 : Option Addr) (c0 : Nat), v = .slice A0 r.length c0 ∧ St w no w' [rowC cMeadow A0 c0 57 r] [] := by
  have hS := ((St.init w no).param cMeadow A c a0 hr0 hc0)
  obtain ⟨u, hu, H⟩ := pbind H
  obtain rfl := Option.some.inj H
  refine CV.body Try.func72 rfl Try.ntmps72 rfl ?_
  refine CJ.seq ?_
  refine CJ.region ?_
  refine OJ.pures tU_ok 1 rfl ?_
  refine OJ.nil (EJ.next ?_)
  refine CJ.seq ?_
  refine CJ.seq ?_
  refine CJ.region ?_
  refine OJ.pures tU_ok 1 rfl ?_
  refine OJ.st rfl rfl rfl (SR.eqNil tU_ok rfl rfl rfl rfl) ?_
  refine OJ.nil (EJ.next ?_)
  refine CJ.cond rfl (fun hb => ?_) (fun hb => ?_)
  · obtain rfl := hr0.isNone hb
    refine CJ.seq ?_
    refine CJ.region ?_
    refine OJ.pures tU_ok 1 rfl ?_
    refine OJ.nil (EJ.next ?_)
    refine CJ.ret (EJ.skR ?_)
    replace hS := hS.addNil cMeadow 57 none
    exact EJ.fin rfl (.tmp rfl .nil) ⟨none, 0, rfl, hS.pick [0] [] rfl⟩
  · refine CJ.skip (EJ.next ?_)
    refine CJ.seq ?_
    refine CJ.region ?_
    refine OJ.ef rfl rfl rfl (Ef.lit tU_ok tI_ok hS (C := cMeadow) rfl rfl rfl rfl rfl rfl ([] : List Meadow) rfl rfl rfl rfl) ?_
    rintro _ w1 ⟨A1, rfl, hS⟩
    refine OJ.pures tU_ok 1 rfl ?_
    refine OJ.ew rfl rfl rfl (Ew.append tU_ok tI_ok (C := cMeadow) (xs := ([] : List Meadow)) (ys := a0) hS (i := 0) rfl rfl rfl rfl rfl rfl rfl rfl rfl rfl rfl rfl rfl (hS.rd' (i := 0) rfl) (chk_some hu)) ?_
    rintro _ w1 ⟨A2, c2, rfl, hS⟩
    refine OJ.pures tU_ok 1 rfl ?_
    refine OJ.nil (EJ.next ?_)
    exact CJ.ret (EJ.fin rfl (.tmp rfl .nil) ⟨A2, c2, rfl, hS.pick [0] [] rfl⟩)

def impl_behind.l1 (a1 : Int) (a2 : Int) (t2 : List Meadow) (t5 : Meadow) (t6 : Meadow) : Nat → (List Meadow) → Int → Option (List Meadow)
  | 0, _, _ => none
  | k + 1, y8, y9 => if y9 < ((t2.set a2.toNat (⟨IntKind.i16.wrap (t5.Grass - (IntKind.i16.wrap a1)), t6.Grows, t6.Most⟩ : Meadow)).length : Int) then ((getI y8 y9).bind fun t10 => (getI y8 y9).bind fun t12 => impl_behind.l1 a1 a2 t2 t5 t6 k (y8.set y9.toNat (⟨(if t10.Most < (IntKind.i16.wrap (t10.Grass + t10.Grows)) then t10.Most else (IntKind.i16.wrap (t10.Grass + t10.Grows))), t12.Grows, t12.Most⟩ : Meadow)) (IntKind.i64.wrap (y9 + 1))) else (some y8)
def impl_behind.f (k : Nat) (a0 : List Meadow) (a1 : Int) (a2 : Int) : Option (List Meadow × Bool) := (getI a0 a2).bind fun t1 => if (IntKind.i64.wrap t1.Grass) < a1 then (some ([], false)) else ((slices_Clone_impl_Meadow_impl_Meadow.f a0).bind fun t2 => (getI t2 a2).bind fun t5 => (getI t2 a2).bind fun t6 => (impl_behind.l1 a1 a2 t2 t5 t6 k (t2.set a2.toNat (⟨IntKind.i16.wrap (t5.Grass - (IntKind.i16.wrap a1)), t6.Grows, t6.Most⟩ : Meadow)) 0).bind fun y7 => some (y7, true))
theorem impl_behind.c (k : Nat) (w : World) (Aa0 : Option Addr) (ca0 : Nat) (a0 : List Meadow) (hr0 : Rd cMeadow w Aa0 a0) (hc0 : a0.length ≤ ca0) (a1 : Int) (a2 : Int) (r : List Meadow × Bool) (H : impl_behind.f k a0 a1 a2 = some r) :
    CV Try.prog 64 [.slice Aa0 a0.length ca0, .int .i64 a1, .int .i64 a2].toArray w fun v w' => ∃ (A0 : Option Addr) (c0 : Nat), v = .tuple #[.slice A0 r.1.length c0, .bool r.2] ∧ St w no w' [rowC cMeadow A0 c0 57 r.1] [] := by
  have hS := ((St.init w no).param cMeadow Aa0 ca0 a0 hr0 hc0)
  unfold impl_behind.f at H
  refine CV.body Try.func64 rfl Try.ntmps64 rfl ?_
  refine CJ.seq ?_
  refine CJ.region ?_
  refine OJ.pures tU_ok 2 rfl ?_
  refine OJ.nil (EJ.next ?_)
  refine CJ.seq ?_
  refine CJ.seq ?_
  refine CJ.region ?_
  refine OJ.pures tU_ok 2 rfl ?_
  obtain ⟨t1, ht1, H⟩ := pbind H
  obtain ⟨ad1, e1⟩ := (hS.rd' (i := 0) rfl).some' ht1
  refine OJ.st rfl rfl rfl (SR.idxS tU_ok tI_ok rfl rfl rfl rfl e1 rfl (getI_some ht1).1) ?_
  refine OJ.st rfl rfl rfl (SR.fieldAddr tU_ok tI_ok rfl rfl rfl rfl rfl rfl) ?_
  refine OJ.st rfl rfl rfl (SR.load rfl rfl (fun w' hx => ld1 tU_ok rfl rfl (CA.ext (CA.sub ((hS.rd' (i := 0) rfl).at_ e1 ht1) 0) hx) rfl)) ?_
  refine OJ.pures tU_ok 3 rfl ?_
  refine OJ.nil (EJ.next ?_)
  refine CJ.cond rfl (fun hb => ?_) (fun hb => ?_)
  · replace H := pif_t (of_decide_eq_true hb) H
    refine CJ.seq ?_
    refine CJ.region ?_
    refine OJ.pures tU_ok 2 rfl ?_
    refine OJ.nil (EJ.next ?_)
    refine CJ.ret (EJ.skR (?_))
    replace hS := hS.addNil cMeadow 57 none
    obtain rfl := Option.some.inj H
    exact EJ.fin rfl (.tmp rfl (.tmp rfl .nil)) ⟨none, 0, rfl, hS.pick [0] [] rfl⟩
  · replace H := pif_f (of_decide_eq_false hb) H
    refine CJ.skip (EJ.next ?_)
    refine CJ.seq ?_
    refine CJ.region ?_
    refine OJ.pures tU_ok 1 rfl ?_
    obtain ⟨t2, ht2, H⟩ := pbind H
    refine OJ.callF rfl rfl rfl rfl rfl hb72 rfl (slices_Clone_impl_Meadow_impl_Meadow.c _ Aa0 ca0 a0 (hS.rd' (i := 0) rfl) (hS.le' (i := 0) rfl) _ ht2) ?_
    rintro _ w1 ⟨A3, c4, rfl, hs⟩
    replace hS := hS.addN hs
    refine OJ.pures tU_ok 1 rfl ?_
    refine OJ.nil (EJ.next ?_)
    refine CJ.seq ?_
    refine CJ.region ?_
    refine OJ.pures tU_ok 2 rfl ?_
    obtain ⟨t5, ht5, H⟩ := pbind H
    obtain ⟨ad5, e5⟩ := (hS.rd (i := 0) rfl).some' ht5
    refine OJ.st rfl rfl rfl (SR.idxS tU_ok tI_ok rfl rfl rfl rfl e5 rfl (getI_some ht5).1) ?_
    refine OJ.st rfl rfl rfl (SR.fieldAddr tU_ok tI_ok rfl rfl rfl rfl rfl rfl) ?_
    refine OJ.st rfl rfl rfl (SR.load rfl rfl (fun w' hx => ld1 tU_ok rfl rfl (CA.ext (CA.sub ((hS.rd (i := 0) rfl).at_ e5 ht5) 0) hx) rfl)) ?_
    refine OJ.pures tU_ok 3 rfl ?_
    obtain ⟨t6, ht6, H⟩ := pbind H
    obtain ⟨ad6, e6⟩ := (hS.rd (i := 0) rfl).some' ht6
    refine OJ.st rfl rfl rfl (SR.idxS tU_ok tI_ok rfl rfl rfl rfl e6 rfl (getI_some ht6).1) ?_
    refine OJ.st rfl rfl rfl (SR.fieldAddr tU_ok tI_ok rfl rfl rfl rfl rfl rfl) ?_
    refine OJ.es rfl rfl (Es.storeR tI_ok hS (i := 0) (off := 0) rfl rfl ht6 e6 rfl (add_add _ _ _) rfl rfl (vs := (ci .i16).enc (IntKind.i16.wrap (t5.Grass - (IntKind.i16.wrap a1)))) rfl rfl (one1 rfl) (Nat.le_of_ble_eq_true rfl) (⟨IntKind.i16.wrap (t5.Grass - (IntKind.i16.wrap a1)), t6.Grows, t6.Most⟩ : Meadow) rfl) ?_
    intro w1 hS
    refine OJ.as (t := 20) rfl (slL _ _ _ a2.toNat (⟨IntKind.i16.wrap (t5.Grass - (IntKind.i16.wrap a1)), t6.Grows, t6.Most⟩ : Meadow)) ?_
    refine OJ.as (t := 8) rfl (slL _ _ _ a2.toNat (⟨IntKind.i16.wrap (t5.Grass - (IntKind.i16.wrap a1)), t6.Grows, t6.Most⟩ : Meadow)) ?_
    refine OJ.as (t := 21) rfl (slL _ _ _ a2.toNat (⟨IntKind.i16.wrap (t5.Grass - (IntKind.i16.wrap a1)), t6.Grows, t6.Most⟩ : Meadow)) ?_
    refine OJ.nil (EJ.next ?_)
    refine CJ.seq ?_
    refine CJ.seq ?_
    refine CJ.region ?_
    refine OJ.pures tU_ok 3 rfl ?_
    refine OJ.nil (EJ.next ?_)
    obtain ⟨j26, H, K26⟩ := pbind H
    refine CJ.cut1 (fun F w1 => ∃ (y7 : List Meadow) , (some y7 : Option (List Meadow)) = some j26 ∧ F = [(8, .slice A3 y7.length c4)] ∧ St w no w1 [rowC cMeadow A3 c4 57 y7] [roC cMeadow Aa0 ca0 a0]) ?_ ?_
    · skip
      refine CJ.block ?_
      refine CJ.loop (fun k F w1 => ∃ (y8 : List Meadow) (y9 : Int), F = [(8, .slice A3 y8.length c4), (31, .slice A3 y8.length c4), (32, .int .i64 ((t2.set a2.toNat (⟨IntKind.i16.wrap (t5.Grass - (IntKind.i16.wrap a1)), t6.Grows, t6.Most⟩ : Meadow)).length : Int)), (33, .int .i64 y9)] ∧ St w no w1 [rowC cMeadow A3 c4 57 y8] [roC cMeadow Aa0 ca0 a0] ∧ impl_behind.l1 a1 a2 t2 t5 t6 k y8 y9 = some j26) k (F' := [(8, .slice A3 (t2.set a2.toNat (⟨IntKind.i16.wrap (t5.Grass - (IntKind.i16.wrap a1)), t6.Grows, t6.Most⟩ : Meadow)).length c4), (31, .slice A3 (t2.set a2.toNat (⟨IntKind.i16.wrap (t5.Grass - (IntKind.i16.wrap a1)), t6.Grows, t6.Most⟩ : Meadow)).length c4), (32, .int .i64 ((t2.set a2.toNat (⟨IntKind.i16.wrap (t5.Grass - (IntKind.i16.wrap a1)), t6.Grows, t6.Most⟩ : Meadow)).length : Int)), (33, .int .i64 0)]) ⟨rfl, rfl, rfl, rfl, trivial⟩ ⟨(t2.set a2.toNat (⟨IntKind.i16.wrap (t5.Grass - (IntKind.i16.wrap a1)), t6.Grows, t6.Most⟩ : Meadow)), 0, rfl, hS.pick [0] [0] rfl, H⟩ ?_
      rintro k F w1 ⟨y8, y9, rfl, hS, H⟩
      cases k with
      | zero => rw [impl_behind.l1] at H; cases H
      | succ k =>
        rw [impl_behind.l1] at H
        refine CJ.seq ?_
        refine CJ.region ?_
        refine OJ.pures tU_ok 1 rfl ?_
        refine OJ.nil (EJ.next ?_)
        refine CJ.seq ?_
        refine CJ.cond rfl (fun hb => ?_) (fun hb => ?_)
        · replace H := pif_t (of_decide_eq_true hb) H
          refine CJ.skip (EJ.next ?_)
          refine CJ.seq ?_
          refine CJ.block ?_
          refine CJ.seq ?_
          refine CJ.region ?_
          refine OJ.pures tU_ok 1 rfl ?_
          obtain ⟨t10, ht10, H⟩ := pbind H
          obtain ⟨ad10, e10⟩ := (hS.rd (i := 0) rfl).some' ht10
          refine OJ.st rfl rfl rfl (SR.idxS tU_ok tI_ok rfl rfl rfl rfl e10 rfl (getI_some ht10).1) ?_
          refine OJ.st rfl rfl rfl (SR.load rfl rfl (fun w' hx => ldE tU_ok tI_ok rfl rfl rfl (CA.ext ((hS.rd (i := 0) rfl).at_ e10 ht10) hx) rfl)) ?_
          refine OJ.ef rfl rfl rfl (Ef.alloc hS tI_ok rfl rfl (cMeadow.enc (⟨0, 0, 0⟩ : Meadow)) rfl) ?_
          rintro _ w1 ⟨b11, rfl, hS⟩
          refine OJ.pures tU_ok 1 rfl ?_
          refine OJ.es rfl rfl (Es.store tI_ok hS (i := 1) rfl rfl rfl rfl rfl rfl (vs := cMeadow.enc t10) rfl (cMeadow.len _) (cMeadow.one _) (Nat.le_of_ble_eq_true rfl) (cMeadow.enc t10) rfl) ?_
          intro w1 hS
          refine OJ.nil (EJ.next ?_)
          refine CJ.region ?_
          refine OJ.pures tU_ok 2 rfl ?_
          refine OJ.st rfl rfl rfl (SR.fieldAddr tU_ok tI_ok rfl rfl rfl rfl rfl rfl) ?_
          refine OJ.st rfl rfl rfl (SR.load rfl rfl (fun w' hx => ld1 tU_ok rfl rfl (CA.ext (CA.sub (hS.cells (i := 1) rfl) 0) hx) rfl)) ?_
          refine OJ.st rfl rfl rfl (SR.fieldAddr tU_ok tI_ok rfl rfl rfl rfl rfl rfl) ?_
          refine OJ.st rfl rfl rfl (SR.load rfl rfl (fun w' hx => ld1 tU_ok rfl rfl (CA.ext (CA.sub (hS.cells (i := 1) rfl) 1) hx) rfl)) ?_
          refine OJ.pures tU_ok 1 rfl ?_
          refine OJ.st rfl rfl rfl (SR.fieldAddr tU_ok tI_ok rfl rfl rfl rfl rfl rfl) ?_
          refine OJ.st rfl rfl rfl (SR.load rfl rfl (fun w' hx => ld1 tU_ok rfl rfl (CA.ext (CA.sub (hS.cells (i := 1) rfl) 2) hx) rfl)) ?_
          refine OJ.pures tU_ok 1 rfl ?_
          obtain ⟨t12, ht12, H⟩ := pbind H
          obtain ⟨ad12, e12⟩ := (hS.rd (i := 0) rfl).some' ht12
          refine OJ.st rfl rfl rfl (SR.idxS tU_ok tI_ok rfl rfl rfl rfl e12 rfl (getI_some ht12).1) ?_
          refine OJ.st rfl rfl rfl (SR.fieldAddr tU_ok tI_ok rfl rfl rfl rfl rfl rfl) ?_
          refine OJ.es rfl rfl (Es.storeR tI_ok hS (i := 0) (off := 0) rfl rfl ht12 e12 rfl (add_add _ _ _) rfl rfl (vs := (ci .i16).enc (if t10.Most < (IntKind.i16.wrap (t10.Grass + t10.Grows)) then t10.Most else (IntKind.i16.wrap (t10.Grass + t10.Grows)))) rfl rfl (one1 rfl) (Nat.le_of_ble_eq_true rfl) (⟨(if t10.Most < (IntKind.i16.wrap (t10.Grass + t10.Grows)) then t10.Most else (IntKind.i16.wrap (t10.Grass + t10.Grows))), t12.Grows, t12.Most⟩ : Meadow) rfl) ?_
          intro w1 hS
          refine OJ.as (t := 8) rfl (slL _ _ _ y9.toNat (⟨(if t10.Most < (IntKind.i16.wrap (t10.Grass + t10.Grows)) then t10.Most else (IntKind.i16.wrap (t10.Grass + t10.Grows))), t12.Grows, t12.Most⟩ : Meadow)) ?_
          refine OJ.as (t := 31) rfl (slL _ _ _ y9.toNat (⟨(if t10.Most < (IntKind.i16.wrap (t10.Grass + t10.Grows)) then t10.Most else (IntKind.i16.wrap (t10.Grass + t10.Grows))), t12.Grows, t12.Most⟩ : Meadow)) ?_
          refine OJ.as (t := 38) rfl (slL _ _ _ y9.toNat (⟨(if t10.Most < (IntKind.i16.wrap (t10.Grass + t10.Grows)) then t10.Most else (IntKind.i16.wrap (t10.Grass + t10.Grows))), t12.Grows, t12.Most⟩ : Meadow)) ?_
          refine OJ.nil (EJ.blk (EJ.next ?_))
          refine CJ.region ?_
          refine OJ.pures tU_ok 2 rfl ?_
          refine OJ.nil ?_
          exact EJ.round k (F' := [(8, .slice A3 (y8.set y9.toNat (⟨(if t10.Most < (IntKind.i16.wrap (t10.Grass + t10.Grows)) then t10.Most else (IntKind.i16.wrap (t10.Grass + t10.Grows))), t12.Grows, t12.Most⟩ : Meadow)).length c4), (31, .slice A3 (y8.set y9.toNat (⟨(if t10.Most < (IntKind.i16.wrap (t10.Grass + t10.Grows)) then t10.Most else (IntKind.i16.wrap (t10.Grass + t10.Grows))), t12.Grows, t12.Most⟩ : Meadow)).length c4), (32, .int .i64 ((t2.set a2.toNat (⟨IntKind.i16.wrap (t5.Grass - (IntKind.i16.wrap a1)), t6.Grows, t6.Most⟩ : Meadow)).length : Int)), (33, .int .i64 (IntKind.i64.wrap (y9 + 1)))]) ⟨rfl, rfl, rfl, rfl, trivial⟩ (Nat.lt_succ_self _) ⟨(y8.set y9.toNat (⟨(if t10.Most < (IntKind.i16.wrap (t10.Grass + t10.Grows)) then t10.Most else (IntKind.i16.wrap (t10.Grass + t10.Grows))), t12.Grows, t12.Most⟩ : Meadow)), (IntKind.i64.wrap (y9 + 1)), rfl, hS.pick [0] [0] rfl, H⟩
        · replace H := pif_f (of_decide_eq_false hb) H
          refine CJ.exit (EJ.skE (EJ.skE (EJ.hit (?_))))
          exact EJ.meet (F' := [(8, .slice A3 y8.length c4)]) ⟨rfl, trivial⟩ ⟨y8, H, rfl, hS.pick [0] [0] rfl⟩
    · rintro F w1 ⟨y7, he, rfl, hS⟩
      obtain rfl := Option.some.inj he
      have H := K26
      refine EJ.next ?_
      refine CJ.seq ?_
      refine CJ.region ?_
      refine OJ.pures tU_ok 3 rfl ?_
      refine OJ.nil (EJ.next ?_)
      refine CJ.ret (?_)
      obtain rfl := Option.some.inj H
      exact EJ.fin rfl (.tmp rfl (.tmp rfl .nil)) ⟨A3, c4, rfl, hS.pick [0] [] rfl⟩

def impl_DayBehind.f (k : Nat) (a0 : List Meadow) (a1 : Int) (a2 : Int) : Option (List Meadow × Int) := (impl_meadowCode.f k a0 a1 ([a2] : List Int)).bind fun t2 => if t2 ≠ 0 then (some ([], t2)) else ((impl_behind.f k a0 a1 a2).bind fun t3 => if (!t3.2) = true then (some ([], 4)) else (some (t3.1, 0)))
theorem impl_DayBehind.c (k : Nat) (w : World) (Aa0 : Option Addr) (ca0 : Nat) (a0 : List Meadow) (hr0 : Rd cMeadow w Aa0 a0) (hc0 : a0.length ≤ ca0) (a1 : Int) (a2 : Int) (r : List Meadow × Int) (H : impl_DayBehind.f k a0 a1 a2 = some r) :
    CV Try.prog 31 [.slice Aa0 a0.length ca0, .int .i64 a1, .int .i64 a2].toArray w fun v w' => ∃ (A0 : Option Addr) (c0 : Nat), v = .tuple #[.slice A0 r.1.length c0, .int .i64 r.2] ∧ St w no w' [rowC cMeadow A0 c0 57 r.1] [] := by
  have hS := ((St.init w no).param cMeadow Aa0 ca0 a0 hr0 hc0)
  unfold impl_DayBehind.f at H
  refine CV.body Try.func31 rfl Try.ntmps31 rfl ?_
  refine CJ.seq ?_
  refine CJ.region ?_
  refine OJ.pures tU_ok 2 rfl ?_
  refine OJ.nil (EJ.next ?_)
  refine CJ.seq ?_
  refine CJ.seq ?_
  refine CJ.region ?_
  refine OJ.pures tU_ok 3 rfl ?_
  refine OJ.ef rfl rfl rfl (Ef.lit tU_ok tI_ok hS (C := (ci .i64)) rfl rfl rfl rfl rfl rfl ([a2] : List Int) rfl rfl rfl rfl) ?_
  rintro _ w1 ⟨A1, rfl, hS⟩
  obtain ⟨t2, ht2, H⟩ := pbind H
  refine OJ.callF rfl rfl rfl rfl rfl hb63 rfl (impl_meadowCode.c k _ Aa0 ca0 a0 (hS.rd' (i := 0) rfl) (hS.le' (i := 0) rfl) a1 A1 (([a2] : List Int).length) ([a2] : List Int) (hS.rd (i := 0) rfl) (hS.le (i := 0) rfl) _ ht2) ?_
  rintro _ w1 ⟨rfl, hs⟩
  replace hS := hS.grow hs
  refine OJ.pures tU_ok 1 rfl ?_
  refine OJ.nil (EJ.next ?_)
  refine CJ.seq ?_
  refine CJ.region ?_
  refine OJ.pures tU_ok 2 rfl ?_
  refine OJ.nil (EJ.next ?_)
  refine CJ.cond rfl (fun hb => ?_) (fun hb => ?_)
  · replace H := pif_t (of_decide_eq_true hb) H
    refine CJ.seq ?_
    refine CJ.region ?_
    refine OJ.pures tU_ok 3 rfl ?_
    refine OJ.nil (EJ.next ?_)
    refine CJ.ret (EJ.skR (?_))
    replace hS := hS.addNil cMeadow 57 none
    obtain rfl := Option.some.inj H
    exact EJ.fin rfl (.tmp rfl (.tmp rfl .nil)) ⟨none, 0, rfl, hS.pick [1] [] rfl⟩
  · replace H := pif_f (of_decide_eq_false hb) H
    refine CJ.skip (EJ.next ?_)
    refine CJ.seq ?_
    refine CJ.region ?_
    refine OJ.pures tU_ok 3 rfl ?_
    obtain ⟨t3, ht3, H⟩ := pbind H
    refine OJ.callF rfl rfl rfl rfl rfl hb64 rfl (impl_behind.c k _ Aa0 ca0 a0 (hS.rd' (i := 0) rfl) (hS.le' (i := 0) rfl) a1 a2 _ ht3) ?_
    rintro _ w1 ⟨A4, c5, rfl, hs⟩
    replace hS := hS.addN hs
    refine OJ.pures tU_ok 5 rfl ?_
    refine OJ.nil (EJ.next ?_)
    refine CJ.seq ?_
    refine CJ.seq ?_
    refine CJ.region ?_
    refine OJ.pures tU_ok 2 rfl ?_
    refine OJ.nil (EJ.next ?_)
    refine CJ.cond rfl (fun hb => ?_) (fun hb => ?_)
    · replace H := pif_t hb H
      refine CJ.seq ?_
      refine CJ.region ?_
      refine OJ.pures tU_ok 2 rfl ?_
      refine OJ.nil (EJ.next ?_)
      refine CJ.ret (EJ.skR (?_))
      replace hS := hS.addNil cMeadow 57 none
      obtain rfl := Option.some.inj H
      exact EJ.fin rfl (.tmp rfl (.tmp rfl .nil)) ⟨none, 0, rfl, hS.pick [2] [] rfl⟩
    · replace H := pifb_f hb H
      refine CJ.skip (EJ.next ?_)
      refine CJ.seq ?_
      refine CJ.region ?_
      refine OJ.pures tU_ok 3 rfl ?_
      refine OJ.nil (EJ.next ?_)
      refine CJ.ret (?_)
      obtain rfl := Option.some.inj H
      exact EJ.fin rfl (.tmp rfl (.tmp rfl .nil)) ⟨A4, c5, rfl, hS.pick [1] [] rfl⟩

def laws_markMeadowS.l1 (a0 : List Meadow) : Nat → (List Meadow) → Int → Int → Option ((List Meadow) × Int)
  | 0, _, _, _ => none
  | k + 1, y3, y4, y5 => if y5 < (a0.length : Int) then ((getI y3 y5).bind fun t6 => (getI (y3.set y5.toNat (⟨IntKind.i16.wrap y4, t6.Grows, t6.Most⟩ : Meadow)) y5).bind fun t7 => (getI ((y3.set y5.toNat (⟨IntKind.i16.wrap y4, t6.Grows, t6.Most⟩ : Meadow)).set y5.toNat (⟨t7.Grass, IntKind.i16.wrap (IntKind.i64.wrap (y4 + 1)), t7.Most⟩ : Meadow)) y5).bind fun t8 => laws_markMeadowS.l1 a0 k (((y3.set y5.toNat (⟨IntKind.i16.wrap y4, t6.Grows, t6.Most⟩ : Meadow)).set y5.toNat (⟨t7.Grass, IntKind.i16.wrap (IntKind.i64.wrap (y4 + 1)), t7.Most⟩ : Meadow)).set y5.toNat (⟨t8.Grass, t8.Grows, IntKind.i16.wrap (IntKind.i64.wrap ((IntKind.i64.wrap (y4 + 1)) + 1))⟩ : Meadow)) (IntKind.i64.wrap ((IntKind.i64.wrap ((IntKind.i64.wrap (y4 + 1)) + 1)) + 1)) (IntKind.i64.wrap (y5 + 1))) else (some (y3, y4))
def laws_markMeadowS.f (k : Nat) (a0 : List Meadow) (a1 : Int) : Option (Int × List Meadow) := (laws_markMeadowS.l1 a0 k a0 a1 0).bind fun (y1, y2) => some (y2, y1)
theorem laws_markMeadowS.c (k : Nat) (w : World) (Aa0 : Option Addr) (ca0 : Nat) (a0 : List Meadow) (hr0 : RowAt w Aa0 ca0 57 cMeadow.sz a0.length (flat cMeadow a0)) (a1 : Int) (r : Int × List Meadow) (H : laws_markMeadowS.f k a0 a1 = some r) :
    CV Try.prog 32 [.slice Aa0 a0.length ca0, .int .i64 a1].toArray w fun v w' => v = .int .i64 r.1 ∧ Chg (rowC cMeadow Aa0 ca0 57 a0).fp w w' ∧ RowAt w' Aa0 ca0 57 cMeadow.sz r.2.length (flat cMeadow r.2) ∧ r.2.length = a0.length := by
  have hS := (St.initRow cMeadow Aa0 ca0 57 a0 hr0)
  unfold laws_markMeadowS.f at H
  refine CV.body Try.func32 rfl Try.ntmps32 rfl ?_
  have hl : a0.length = a0.length := rfl
  refine CJ.seq ?_
  refine CJ.region ?_
  refine OJ.pures tU_ok 1 rfl ?_
  refine OJ.nil (EJ.next ?_)
  refine CJ.seq ?_
  refine CJ.seq ?_
  refine CJ.region ?_
  refine OJ.pures tU_ok 1 rfl ?_
  refine OJ.nil (EJ.next ?_)
  obtain ⟨j29, H, K29⟩ := pbind H
  refine CJ.cut1 (fun F w1 => ∃ (y1 : List Meadow) (y2 : Int) , (some (y1, y2) : Option ((List Meadow) × Int)) = some j29 ∧ F = [(1, .int .i64 y2)] ∧ St w (rowC cMeadow Aa0 ca0 57 a0).fp w1 [rowC cMeadow Aa0 ca0 57 y1] [] ∧ y1.length = a0.length) ?_ ?_
  · skip
    refine CJ.block ?_
    refine CJ.loop (fun k F w1 => ∃ (y3 : List Meadow) (y4 : Int) (y5 : Int), F = [(0, .slice Aa0 a0.length ca0), (1, .int .i64 y4), (5, .int .i64 y5)] ∧ St w (rowC cMeadow Aa0 ca0 57 a0).fp w1 [rowC cMeadow Aa0 ca0 57 y3] [] ∧ y3.length = a0.length ∧ laws_markMeadowS.l1 a0 k y3 y4 y5 = some j29) k (F' := [(0, .slice Aa0 a0.length ca0), (1, .int .i64 a1), (5, .int .i64 0)]) ⟨rfl, rfl, rfl, trivial⟩ ⟨a0, a1, 0, rfl, hS.pick [0] [] rfl, (by first | exact hl | (simp only [List.length_set]; exact hl)), H⟩ ?_
    rintro k F w1 ⟨y3, y4, y5, rfl, hS, hl, H⟩
    cases k with
    | zero => rw [laws_markMeadowS.l1] at H; cases H
    | succ k =>
      rw [laws_markMeadowS.l1] at H
      refine CJ.seq ?_
      refine CJ.seq ?_
      refine CJ.region ?_
      refine OJ.pures tU_ok 4 rfl ?_
      refine OJ.nil (EJ.next ?_)
      refine CJ.cond rfl (fun hb => ?_) (fun hb => ?_)
      · replace H := pif_t (of_decide_eq_true hb) H
        refine CJ.skip (EJ.next ?_)
        refine CJ.seq ?_
        refine CJ.block ?_
        refine CJ.seq ?_
        refine CJ.region ?_
        refine OJ.pures tU_ok 4 rfl ?_
        obtain ⟨t6, ht6, H⟩ := pbind H
        obtain ⟨ad6, e6⟩ := (hS.rd (i := 0) rfl).some' ht6
        refine OJ.st rfl rfl rfl (SR.idxS tU_ok tI_ok rfl rfl rfl rfl e6 rfl (by have hg := (getI_some ht6).1; (first | rw [hl] at hg | (simp only [List.length_set] at hg; rw [hl] at hg)); exact hg)) ?_
        refine OJ.st rfl rfl rfl (SR.fieldAddr tU_ok tI_ok rfl rfl rfl rfl rfl rfl) ?_
        refine OJ.es rfl rfl (Es.storeR tI_ok hS (i := 0) (off := 0) rfl rfl ht6 e6 rfl (add_add _ _ _) rfl rfl (vs := (ci .i16).enc (IntKind.i16.wrap y4)) rfl rfl (one1 rfl) (Nat.le_of_ble_eq_true rfl) (⟨IntKind.i16.wrap y4, t6.Grows, t6.Most⟩ : Meadow) rfl) ?_
        intro w1 hS
        refine OJ.nil (EJ.next ?_)
        refine CJ.seq ?_
        refine CJ.region ?_
        refine OJ.pures tU_ok 3 rfl ?_
        refine OJ.nil (EJ.next ?_)
        refine CJ.seq ?_
        refine CJ.region ?_
        refine OJ.pures tU_ok 4 rfl ?_
        obtain ⟨t7, ht7, H⟩ := pbind H
        obtain ⟨ad7, e7⟩ := (hS.rd (i := 0) rfl).some' ht7
        refine OJ.st rfl rfl rfl (SR.idxS tU_ok tI_ok rfl rfl rfl rfl e7 rfl (by have hg := (getI_some ht7).1; (first | rw [hl] at hg | (simp only [List.length_set] at hg; rw [hl] at hg)); exact hg)) ?_
        refine OJ.st rfl rfl rfl (SR.fieldAddr tU_ok tI_ok rfl rfl rfl rfl rfl rfl) ?_
        refine OJ.es rfl rfl (Es.storeR tI_ok hS (i := 0) (off := 1) rfl rfl ht7 e7 rfl (add_add _ _ _) rfl rfl (vs := (ci .i16).enc (IntKind.i16.wrap (IntKind.i64.wrap (y4 + 1)))) rfl rfl (one1 rfl) (Nat.le_of_ble_eq_true rfl) (⟨t7.Grass, IntKind.i16.wrap (IntKind.i64.wrap (y4 + 1)), t7.Most⟩ : Meadow) rfl) ?_
        intro w1 hS
        refine OJ.nil (EJ.next ?_)
        refine CJ.seq ?_
        refine CJ.region ?_
        refine OJ.pures tU_ok 3 rfl ?_
        refine OJ.nil (EJ.next ?_)
        refine CJ.seq ?_
        refine CJ.region ?_
        refine OJ.pures tU_ok 4 rfl ?_
        obtain ⟨t8, ht8, H⟩ := pbind H
        obtain ⟨ad8, e8⟩ := (hS.rd (i := 0) rfl).some' ht8
        refine OJ.st rfl rfl rfl (SR.idxS tU_ok tI_ok rfl rfl rfl rfl e8 rfl (by have hg := (getI_some ht8).1; (first | rw [hl] at hg | (simp only [List.length_set] at hg; rw [hl] at hg)); exact hg)) ?_
        refine OJ.st rfl rfl rfl (SR.fieldAddr tU_ok tI_ok rfl rfl rfl rfl rfl rfl) ?_
        refine OJ.es rfl rfl (Es.storeR tI_ok hS (i := 0) (off := 2) rfl rfl ht8 e8 rfl (add_add _ _ _) rfl rfl (vs := (ci .i16).enc (IntKind.i16.wrap (IntKind.i64.wrap ((IntKind.i64.wrap (y4 + 1)) + 1)))) rfl rfl (one1 rfl) (Nat.le_of_ble_eq_true rfl) (⟨t8.Grass, t8.Grows, IntKind.i16.wrap (IntKind.i64.wrap ((IntKind.i64.wrap (y4 + 1)) + 1))⟩ : Meadow) rfl) ?_
        intro w1 hS
        refine OJ.nil (EJ.next ?_)
        refine CJ.region ?_
        refine OJ.pures tU_ok 3 rfl ?_
        refine OJ.nil (EJ.blk (EJ.next ?_))
        refine CJ.region ?_
        refine OJ.pures tU_ok 3 rfl ?_
        refine OJ.nil ?_
        exact EJ.round k (F' := [(0, .slice Aa0 a0.length ca0), (1, .int .i64 (IntKind.i64.wrap ((IntKind.i64.wrap ((IntKind.i64.wrap (y4 + 1)) + 1)) + 1))), (5, .int .i64 (IntKind.i64.wrap (y5 + 1)))]) ⟨rfl, rfl, rfl, trivial⟩ (Nat.lt_succ_self _) ⟨(((y3.set y5.toNat (⟨IntKind.i16.wrap y4, t6.Grows, t6.Most⟩ : Meadow)).set y5.toNat (⟨t7.Grass, IntKind.i16.wrap (IntKind.i64.wrap (y4 + 1)), t7.Most⟩ : Meadow)).set y5.toNat (⟨t8.Grass, t8.Grows, IntKind.i16.wrap (IntKind.i64.wrap ((IntKind.i64.wrap (y4 + 1)) + 1))⟩ : Meadow)), (IntKind.i64.wrap ((IntKind.i64.wrap ((IntKind.i64.wrap (y4 + 1)) + 1)) + 1)), (IntKind.i64.wrap (y5 + 1)), rfl, hS.pick [0] [] rfl, (by first | exact hl | (simp only [List.length_set]; exact hl)), H⟩
      · replace H := pif_f (of_decide_eq_false hb) H
        refine CJ.exit (EJ.skE (EJ.skE (EJ.hit (?_))))
        exact EJ.meet (F' := [(1, .int .i64 y4)]) ⟨rfl, trivial⟩ ⟨y3, y4, H, rfl, hS.pick [0] [] rfl, (by first | exact hl | (simp only [List.length_set]; exact hl))⟩
  · rintro F w1 ⟨y1, y2, he, rfl, hS, hl⟩
    obtain rfl := Option.some.inj he
    have H := K29
    refine EJ.next ?_
    refine CJ.seq ?_
    refine CJ.region ?_
    refine OJ.pures tU_ok 2 rfl ?_
    refine OJ.nil (EJ.next ?_)
    refine CJ.ret (?_)
    obtain rfl := Option.some.inj H
    exact EJ.fin rfl (.tmp rfl .nil) ⟨rfl, hS.chg, hS.row (i := 0) rfl, (by first | exact hl | (simp only [List.length_set]; exact hl))⟩

def laws_heldMeadowS.l1 (a0 : List Meadow) : Nat → Int → Int → Option (Int ⊕ Int)
  | 0, _, _ => none
  | k + 1, y2, y3 => if y3 < (a0.length : Int) then ((getI a0 y3).bind fun t4 => if t4.Grass ≠ (IntKind.i16.wrap y2) then (some (Sum.inl (-1))) else ((getI a0 y3).bind fun t5 => if t5.Grows ≠ (IntKind.i16.wrap (IntKind.i64.wrap (y2 + 1))) then (some (Sum.inl (-1))) else ((getI a0 y3).bind fun t6 => if t6.Most ≠ (IntKind.i16.wrap (IntKind.i64.wrap ((IntKind.i64.wrap (y2 + 1)) + 1))) then (some (Sum.inl (-1))) else (laws_heldMeadowS.l1 a0 k (IntKind.i64.wrap ((IntKind.i64.wrap ((IntKind.i64.wrap (y2 + 1)) + 1)) + 1)) (IntKind.i64.wrap (y3 + 1)))))) else (some (Sum.inr y2))
def laws_heldMeadowS.f (k : Nat) (a0 : List Meadow) (a1 : Int) : Option Int := (laws_heldMeadowS.l1 a0 k a1 0).bind fun s31 => match s31 with | .inl r => some r | .inr y1 => some y1
theorem laws_heldMeadowS.c (k : Nat) (w : World) (Aa0 : Option Addr) (ca0 : Nat) (a0 : List Meadow) (hr0 : Rd cMeadow w Aa0 a0) (hc0 : a0.length ≤ ca0) (a1 : Int) (r : Int) (H : laws_heldMeadowS.f k a0 a1 = some r) :
    CV Try.prog 33 [.slice Aa0 a0.length ca0, .int .i64 a1].toArray w fun v w' => v = .int .i64 r ∧ Ext w w' := by
  have hS := ((St.init w no).param cMeadow Aa0 ca0 a0 hr0 hc0)
  unfold laws_heldMeadowS.f at H
  refine CV.body Try.func33 rfl Try.ntmps33 rfl ?_
  refine CJ.seq ?_
  refine CJ.region ?_
  refine OJ.pures tU_ok 1 rfl ?_
  refine OJ.nil (EJ.next ?_)
  refine CJ.seq ?_
  refine CJ.seq ?_
  refine CJ.region ?_
  refine OJ.pures tU_ok 1 rfl ?_
  refine OJ.nil (EJ.next ?_)
  obtain ⟨j31, H, K31⟩ := pbind H
  refine CJ.cut1 (fun F w1 => ∃ (y1 : Int) , (some (Sum.inr y1) : Option (Int ⊕ Int)) = some j31 ∧ F = [(1, .int .i64 y1)] ∧ St w no w1 [] [roC cMeadow Aa0 ca0 a0]) ?_ ?_
  · skip
    refine CJ.block ?_
    refine CJ.loop (fun k F w1 => ∃ (y2 : Int) (y3 : Int), F = [(0, .slice Aa0 a0.length ca0), (1, .int .i64 y2), (5, .int .i64 y3)] ∧ St w no w1 [] [roC cMeadow Aa0 ca0 a0] ∧ laws_heldMeadowS.l1 a0 k y2 y3 = some j31) k (F' := [(0, .slice Aa0 a0.length ca0), (1, .int .i64 a1), (5, .int .i64 0)]) ⟨rfl, rfl, rfl, trivial⟩ ⟨a1, 0, rfl, hS.pick [] [0] rfl, H⟩ ?_
    rintro k F w1 ⟨y2, y3, rfl, hS, H⟩
    cases k with
    | zero => rw [laws_heldMeadowS.l1] at H; cases H
    | succ k =>
      rw [laws_heldMeadowS.l1] at H
      refine CJ.seq ?_
      refine CJ.seq ?_
      refine CJ.region ?_
      refine OJ.pures tU_ok 4 rfl ?_
      refine OJ.nil (EJ.next ?_)
      refine CJ.cond rfl (fun hb => ?_) (fun hb => ?_)
      · replace H := pif_t (of_decide_eq_true hb) H
        refine CJ.skip (EJ.next ?_)
        refine CJ.seq ?_
        refine CJ.block ?_
        refine CJ.seq ?_
        refine CJ.seq ?_
        refine CJ.region ?_
        refine OJ.pures tU_ok 2 rfl ?_
        obtain ⟨t4, ht4, H⟩ := pbind H
        obtain ⟨ad4, e4⟩ := (hS.rd' (i := 0) rfl).some' ht4
        refine OJ.st rfl rfl rfl (SR.idxS tU_ok tI_ok rfl rfl rfl rfl e4 rfl (getI_some ht4).1) ?_
        refine OJ.st rfl rfl rfl (SR.fieldAddr tU_ok tI_ok rfl rfl rfl rfl rfl rfl) ?_
        refine OJ.st rfl rfl rfl (SR.load rfl rfl (fun w' hx => ld1 tU_ok rfl rfl (CA.ext (CA.sub ((hS.rd' (i := 0) rfl).at_ e4 ht4) 0) hx) rfl)) ?_
        refine OJ.pures tU_ok 3 rfl ?_
        refine OJ.nil (EJ.next ?_)
        refine CJ.cond rfl (fun hb => ?_) (fun hb => ?_)
        · replace H := pif_t (of_decide_eq_true hb) H
          refine CJ.seq ?_
          refine CJ.region ?_
          refine OJ.pures tU_ok 1 rfl ?_
          refine OJ.nil (EJ.next ?_)
          refine CJ.ret (EJ.skR (EJ.bkR (EJ.skR (EJ.skR (EJ.bkR (EJ.skR (EJ.skR (?_))))))))
          first | (obtain rfl := Option.some.inj H; have H := K31) | (obtain ⟨q31, H2, e31⟩ := pbind H; obtain rfl := Option.some.inj e31; obtain rfl := Option.some.inj K31; have H := H2)
          obtain rfl := Option.some.inj H
          exact EJ.fin rfl (.tmp rfl .nil) ⟨rfl, hS.ext⟩
        · replace H := pif_f (of_decide_eq_false hb) H
          refine CJ.skip (EJ.next ?_)
          refine CJ.seq ?_
          refine CJ.region ?_
          refine OJ.pures tU_ok 3 rfl ?_
          refine OJ.nil (EJ.next ?_)
          refine CJ.seq ?_
          refine CJ.seq ?_
          refine CJ.region ?_
          refine OJ.pures tU_ok 2 rfl ?_
          obtain ⟨t5, ht5, H⟩ := pbind H
          obtain ⟨ad5, e5⟩ := (hS.rd' (i := 0) rfl).some' ht5
          refine OJ.st rfl rfl rfl (SR.idxS tU_ok tI_ok rfl rfl rfl rfl e5 rfl (getI_some ht5).1) ?_
          refine OJ.st rfl rfl rfl (SR.fieldAddr tU_ok tI_ok rfl rfl rfl rfl rfl rfl) ?_
          refine OJ.st rfl rfl rfl (SR.load rfl rfl (fun w' hx => ld1 tU_ok rfl rfl (CA.ext (CA.sub ((hS.rd' (i := 0) rfl).at_ e5 ht5) 1) hx) rfl)) ?_
          refine OJ.pures tU_ok 3 rfl ?_
          refine OJ.nil (EJ.next ?_)
          refine CJ.cond rfl (fun hb => ?_) (fun hb => ?_)
          · replace H := pif_t (of_decide_eq_true hb) H
            refine CJ.seq ?_
            refine CJ.region ?_
            refine OJ.pures tU_ok 1 rfl ?_
            refine OJ.nil (EJ.next ?_)
            refine CJ.ret (EJ.skR (EJ.bkR (EJ.skR (EJ.skR (EJ.bkR (EJ.skR (EJ.skR (?_))))))))
            first | (obtain rfl := Option.some.inj H; have H := K31) | (obtain ⟨q31, H2, e31⟩ := pbind H; obtain rfl := Option.some.inj e31; obtain rfl := Option.some.inj K31; have H := H2)
            obtain rfl := Option.some.inj H
            exact EJ.fin rfl (.tmp rfl .nil) ⟨rfl, hS.ext⟩
          · replace H := pif_f (of_decide_eq_false hb) H
            refine CJ.skip (EJ.next ?_)
            refine CJ.seq ?_
            refine CJ.region ?_
            refine OJ.pures tU_ok 3 rfl ?_
            refine OJ.nil (EJ.next ?_)
            refine CJ.seq ?_
            refine CJ.seq ?_
            refine CJ.region ?_
            refine OJ.pures tU_ok 2 rfl ?_
            obtain ⟨t6, ht6, H⟩ := pbind H
            obtain ⟨ad6, e6⟩ := (hS.rd' (i := 0) rfl).some' ht6
            refine OJ.st rfl rfl rfl (SR.idxS tU_ok tI_ok rfl rfl rfl rfl e6 rfl (getI_some ht6).1) ?_
            refine OJ.st rfl rfl rfl (SR.fieldAddr tU_ok tI_ok rfl rfl rfl rfl rfl rfl) ?_
            refine OJ.st rfl rfl rfl (SR.load rfl rfl (fun w' hx => ld1 tU_ok rfl rfl (CA.ext (CA.sub ((hS.rd' (i := 0) rfl).at_ e6 ht6) 2) hx) rfl)) ?_
            refine OJ.pures tU_ok 3 rfl ?_
            refine OJ.nil (EJ.next ?_)
            refine CJ.cond rfl (fun hb => ?_) (fun hb => ?_)
            · replace H := pif_t (of_decide_eq_true hb) H
              refine CJ.seq ?_
              refine CJ.region ?_
              refine OJ.pures tU_ok 1 rfl ?_
              refine OJ.nil (EJ.next ?_)
              refine CJ.ret (EJ.skR (EJ.bkR (EJ.skR (EJ.skR (EJ.bkR (EJ.skR (EJ.skR (?_))))))))
              first | (obtain rfl := Option.some.inj H; have H := K31) | (obtain ⟨q31, H2, e31⟩ := pbind H; obtain rfl := Option.some.inj e31; obtain rfl := Option.some.inj K31; have H := H2)
              obtain rfl := Option.some.inj H
              exact EJ.fin rfl (.tmp rfl .nil) ⟨rfl, hS.ext⟩
            · replace H := pif_f (of_decide_eq_false hb) H
              refine CJ.skip (EJ.next ?_)
              refine CJ.region ?_
              refine OJ.pures tU_ok 3 rfl ?_
              refine OJ.nil (EJ.blk (EJ.next ?_))
              refine CJ.region ?_
              refine OJ.pures tU_ok 3 rfl ?_
              refine OJ.nil ?_
              exact EJ.round k (F' := [(0, .slice Aa0 a0.length ca0), (1, .int .i64 (IntKind.i64.wrap ((IntKind.i64.wrap ((IntKind.i64.wrap (y2 + 1)) + 1)) + 1))), (5, .int .i64 (IntKind.i64.wrap (y3 + 1)))]) ⟨rfl, rfl, rfl, trivial⟩ (Nat.lt_succ_self _) ⟨(IntKind.i64.wrap ((IntKind.i64.wrap ((IntKind.i64.wrap (y2 + 1)) + 1)) + 1)), (IntKind.i64.wrap (y3 + 1)), rfl, hS.pick [] [0] rfl, H⟩
      · replace H := pif_f (of_decide_eq_false hb) H
        refine CJ.exit (EJ.skE (EJ.skE (EJ.hit (?_))))
        exact EJ.meet (F' := [(1, .int .i64 y2)]) ⟨rfl, trivial⟩ ⟨y2, H, rfl, hS.pick [] [0] rfl⟩
  · rintro F w1 ⟨y1, he, rfl, hS⟩
    obtain rfl := Option.some.inj he
    have H := K31
    refine EJ.next ?_
    refine CJ.seq ?_
    refine CJ.region ?_
    refine OJ.pures tU_ok 2 rfl ?_
    refine OJ.nil (EJ.next ?_)
    refine CJ.ret (?_)
    obtain rfl := Option.some.inj H
    exact EJ.fin rfl (.tmp rfl .nil) ⟨rfl, hS.ext⟩

def laws_FnExactDayBehind.f (k : Nat) (a0 : List Meadow) (a1 : Int) (a2 : Int) : Option Bool := (laws_szMeadowS.f a0 1048576).bind fun t1 => if t1 < 0 then (some true) else ((laws_toMeadowS.f k a0).bind fun t2 => (spec_DayBehind.f k t2 a1 a2).bind fun t5 => (laws_toMeadowS.f k a0).bind fun t8 => (impl_DayBehind.f k t8 a1 a2).bind fun t11 => ((laws_eqMeadowS.f k t11.1 t5.1).bind fun t15 => if (!t15) = true then (some true) else (some (decide (t11.2 ≠ t5.2)))).bind fun y14 => if y14 = true then (some false) else ((laws_toMeadowS.f k a0).bind fun t16 => (laws_eqMeadowS.f k t8 t16).bind fun t19 => if (!t19) = true then (some false) else ((laws_markMeadowS.f k t8 1).bind fun t20 => (if t20.1 < 0 then (some true) else ((laws_eqMeadowS.f k t11.1 t5.1).bind fun t22 => if (!t22) = true then (some true) else (some (decide (t11.2 ≠ t5.2))))).bind fun y21 => if y21 = true then (some false) else ((laws_markMeadowS.f k t11.1 1).bind fun t23 => (laws_heldMeadowS.f k t23.2 1).bind fun t24 => if t24 < 0 then (some false) else (if t24 ≠ t23.1 then (some false) else ((laws_toMeadowS.f k a0).bind fun t25 => (impl_DayBehind.f k t25 a1 a2).bind fun t28 => ((laws_eqMeadowS.f k t28.1 t5.1).bind fun t32 => if (!t32) = true then (some true) else (some (decide (t28.2 ≠ t5.2)))).bind fun y31 => if y31 = true then (some false) else ((laws_heldMeadowS.f k t23.2 1).bind fun t33 => if t33 < 0 then (some false) else (if t33 ≠ t23.1 then (some false) else (some true)))))))))
theorem laws_FnExactDayBehind.c (k : Nat) (w : World) (Aa0 : Option Addr) (ca0 : Nat) (a0 : List Meadow) (hr0 : Rd cMeadow w Aa0 a0) (hc0 : a0.length ≤ ca0) (a1 : Int) (a2 : Int) (r : Bool) (H : laws_FnExactDayBehind.f k a0 a1 a2 = some r) :
    CV Try.prog 7 [.slice Aa0 a0.length ca0, .int .i64 a1, .int .i64 a2].toArray w fun v w' => v = .bool r ∧ Ext w w' := by
  have hS := ((St.init w no).param cMeadow Aa0 ca0 a0 hr0 hc0)
  unfold laws_FnExactDayBehind.f at H
  refine CV.body Try.func7 rfl Try.ntmps7 rfl ?_
  refine CJ.seq ?_
  refine CJ.region ?_
  refine OJ.pures tU_ok 1 rfl ?_
  refine OJ.nil (EJ.next ?_)
  refine CJ.seq ?_
  refine CJ.region ?_
  refine OJ.pures tU_ok 1 rfl ?_
  refine OJ.nil (EJ.next ?_)
  refine CJ.seq ?_
  refine CJ.region ?_
  refine OJ.pures tU_ok 2 rfl ?_
  obtain ⟨t1, ht1, H⟩ := pbind H
  refine OJ.callF rfl rfl rfl rfl rfl hb15 rfl (laws_szMeadowS.c _ Aa0 ca0 a0 (hS.rd' (i := 0) rfl) (hS.le' (i := 0) rfl) 1048576 _ ht1) ?_
  rintro _ w1 ⟨rfl, hs⟩
  replace hS := hS.grow hs
  refine OJ.pures tU_ok 1 rfl ?_
  refine OJ.nil (EJ.next ?_)
  refine CJ.seq ?_
  refine CJ.seq ?_
  refine CJ.region ?_
  refine OJ.pures tU_ok 2 rfl ?_
  refine OJ.nil (EJ.next ?_)
  refine CJ.cond rfl (fun hb => ?_) (fun hb => ?_)
  · replace H := pif_t (of_decide_eq_true hb) H
    refine CJ.seq ?_
    refine CJ.region ?_
    refine OJ.pures tU_ok 1 rfl ?_
    refine OJ.nil (EJ.next ?_)
    refine CJ.ret (EJ.skR (?_))
    obtain rfl := Option.some.inj H
    exact EJ.fin rfl (.tmp rfl .nil) ⟨rfl, hS.ext⟩
  · replace H := pif_f (of_decide_eq_false hb) H
    refine CJ.skip (EJ.next ?_)
    refine CJ.seq ?_
    refine CJ.region ?_
    refine OJ.pures tU_ok 1 rfl ?_
    obtain ⟨t2, ht2, H⟩ := pbind H
    refine OJ.callF rfl rfl rfl rfl rfl hb17 rfl (laws_toMeadowS.c k _ Aa0 ca0 a0 (hS.rd' (i := 0) rfl) (hS.le' (i := 0) rfl) _ ht2) ?_
    rintro _ w1 ⟨A3, c4, rfl, hs⟩
    replace hS := hS.addN hs
    refine OJ.pures tU_ok 2 rfl ?_
    obtain ⟨t5, ht5, H⟩ := pbind H
    refine OJ.callF rfl rfl rfl rfl rfl hb30 rfl (spec_DayBehind.c k _ A3 c4 t2 (hS.rd (i := 0) rfl) (hS.le (i := 0) rfl) a1 a2 _ ht5) ?_
    rintro _ w1 ⟨A6, c7, rfl, hs⟩
    replace hS := hS.addN hs
    refine OJ.pures tU_ok 5 rfl ?_
    refine OJ.nil (EJ.next ?_)
    refine CJ.seq ?_
    refine CJ.region ?_
    refine OJ.pures tU_ok 1 rfl ?_
    obtain ⟨t8, ht8, H⟩ := pbind H
    refine OJ.callF rfl rfl rfl rfl rfl hb17 rfl (laws_toMeadowS.c k _ Aa0 ca0 a0 (hS.rd' (i := 0) rfl) (hS.le' (i := 0) rfl) _ ht8) ?_
    rintro _ w1 ⟨A9, c10, rfl, hs⟩
    replace hS := hS.addN hs
    refine OJ.pures tU_ok 1 rfl ?_
    refine OJ.nil (EJ.next ?_)
    refine CJ.seq ?_
    refine CJ.region ?_
    refine OJ.pures tU_ok 3 rfl ?_
    obtain ⟨t11, ht11, H⟩ := pbind H
    refine OJ.callF rfl rfl rfl rfl rfl hb31 rfl (impl_DayBehind.c k _ A9 c10 t8 (hS.rd (i := 2) rfl) (hS.le (i := 2) rfl) a1 a2 _ ht11) ?_
    rintro _ w1 ⟨A12, c13, rfl, hs⟩
    replace hS := hS.addN hs
    refine OJ.pures tU_ok 5 rfl ?_
    refine OJ.nil (EJ.next ?_)
    refine CJ.seq ?_
    obtain ⟨j27, H, K27⟩ := pbind H
    refine CJ.cut (fun F w1 => ∃ (y14 : Bool) , (some y14 : Option Bool) = some j27 ∧ F = [(0, .slice Aa0 a0.length ca0), (1, .int .i64 a1), (2, .int .i64 a2), (8, .slice A6 t5.1.length c7), (9, .int .i64 t5.2), (10, .slice A9 t8.length c10), (11, .slice A12 t11.1.length c13), (12, .int .i64 t11.2), (48, .bool y14)] ∧ St w no w1 [rowC cMeadow A6 c7 57 t5.1, rowC cMeadow A9 c10 57 t8, rowC cMeadow A12 c13 57 t11.1] [roC cMeadow Aa0 ca0 a0]) ?_ ?_
    · skip
      refine CJ.region ?_
      refine OJ.pures tU_ok 2 rfl ?_
      obtain ⟨t15, ht15, H⟩ := pbind H
      refine OJ.callF rfl rfl rfl rfl rfl hb19 rfl (laws_eqMeadowS.c k _ A12 c13 t11.1 (hS.rd (i := 3) rfl) (hS.le (i := 3) rfl) A6 c7 t5.1 (hS.rd (i := 1) rfl) (hS.le (i := 1) rfl) _ ht15) ?_
      rintro _ w1 ⟨rfl, hs⟩
      replace hS := hS.grow hs
      refine OJ.pures tU_ok 2 rfl ?_
      refine OJ.split (t := 44) rfl (fun hb => ?_) (fun hb => ?_)
      · replace H := pif_t hb H
        refine OJ.pures tU_ok 4 rfl ?_
        refine OJ.nil ?_
        exact EJ.meet (F' := [(0, .slice Aa0 a0.length ca0), (1, .int .i64 a1), (2, .int .i64 a2), (8, .slice A6 t5.1.length c7), (9, .int .i64 t5.2), (10, .slice A9 t8.length c10), (11, .slice A12 t11.1.length c13), (12, .int .i64 t11.2), (48, .bool true)]) ⟨rfl, rfl, rfl, rfl, rfl, rfl, rfl, rfl, rfl, trivial⟩ ⟨true, H, rfl, hS.pick [1, 2, 3] [0] rfl⟩
      · replace H := pifb_f hb H
        refine OJ.pures tU_ok 4 rfl ?_
        refine OJ.nil ?_
        exact EJ.meet (F' := [(0, .slice Aa0 a0.length ca0), (1, .int .i64 a1), (2, .int .i64 a2), (8, .slice A6 t5.1.length c7), (9, .int .i64 t5.2), (10, .slice A9 t8.length c10), (11, .slice A12 t11.1.length c13), (12, .int .i64 t11.2), (48, .bool (decide (t11.2 ≠ t5.2)))]) ⟨rfl, rfl, rfl, rfl, rfl, rfl, rfl, rfl, rfl, trivial⟩ ⟨(decide (t11.2 ≠ t5.2)), H, rfl, hS.pick [1, 2, 3] [0] rfl⟩
    · rintro F w1 ⟨y14, he, rfl, hS⟩
      obtain rfl := Option.some.inj he
      have H := K27
      refine CJ.cond rfl (fun hb => ?_) (fun hb => ?_)
      · replace H := pif_t hb H
        refine CJ.seq ?_
        refine CJ.region ?_
        refine OJ.pures tU_ok 1 rfl ?_
        refine OJ.nil (EJ.next ?_)
        refine CJ.ret (EJ.skR (?_))
        obtain rfl := Option.some.inj H
        exact EJ.fin rfl (.tmp rfl .nil) ⟨rfl, hS.ext⟩
      · replace H := pifb_f hb H
        refine CJ.skip (EJ.next ?_)
        refine CJ.seq ?_
        refine CJ.seq ?_
        refine CJ.region ?_
        refine OJ.pures tU_ok 2 rfl ?_
        obtain ⟨t16, ht16, H⟩ := pbind H
        refine OJ.callF rfl rfl rfl rfl rfl hb17 rfl (laws_toMeadowS.c k _ Aa0 ca0 a0 (hS.rd' (i := 0) rfl) (hS.le' (i := 0) rfl) _ ht16) ?_
        rintro _ w1 ⟨A17, c18, rfl, hs⟩
        replace hS := hS.addN hs
        obtain ⟨t19, ht19, H⟩ := pbind H
        refine OJ.callF rfl rfl rfl rfl rfl hb19 rfl (laws_eqMeadowS.c k _ A9 c10 t8 (hS.rd (i := 1) rfl) (hS.le (i := 1) rfl) A17 c18 t16 (hS.rd (i := 3) rfl) (hS.le (i := 3) rfl) _ ht19) ?_
        rintro _ w1 ⟨rfl, hs⟩
        replace hS := hS.grow hs
        refine OJ.pures tU_ok 1 rfl ?_
        refine OJ.nil (EJ.next ?_)
        refine CJ.cond rfl (fun hb => ?_) (fun hb => ?_)
        · replace H := pif_t hb H
          refine CJ.seq ?_
          refine CJ.region ?_
          refine OJ.pures tU_ok 1 rfl ?_
          refine OJ.nil (EJ.next ?_)
          refine CJ.ret (EJ.skR (?_))
          obtain rfl := Option.some.inj H
          exact EJ.fin rfl (.tmp rfl .nil) ⟨rfl, hS.ext⟩
        · replace H := pifb_f hb H
          refine CJ.skip (EJ.next ?_)
          refine CJ.seq ?_
          refine CJ.region ?_
          refine OJ.pures tU_ok 1 rfl ?_
          refine OJ.nil (EJ.next ?_)
          refine CJ.seq ?_
          refine CJ.region ?_
          refine OJ.pures tU_ok 2 rfl ?_
          obtain ⟨t20, ht20, H⟩ := pbind H
          refine OJ.callF rfl rfl rfl rfl rfl hb32 rfl (laws_markMeadowS.c k _ A9 c10 t8 (hS.row (i := 1) rfl) 1 _ ht20) ?_
          rintro _ w1 ⟨rfl, hx, hr, hl⟩
          replace hS := hS.rowSet (i := 1) rfl hx hr
          refine OJ.as (t := 10) rfl (show _ = Value.slice A9 t20.2.length c10 by rw [hl]) ?_
          refine OJ.as (t := 49) rfl (show _ = Value.slice A9 t20.2.length c10 by rw [hl]) ?_
          refine OJ.as (t := 54) rfl (show _ = Value.slice A9 t20.2.length c10 by rw [hl]) ?_
          refine OJ.pures tU_ok 1 rfl ?_
          refine OJ.nil (EJ.next ?_)
          refine CJ.seq ?_
          obtain ⟨j30, H, K30⟩ := pbind H
          refine CJ.cut (fun F w1 => ∃ (y21 : Bool) , (some y21 : Option Bool) = some j30 ∧ F = [(0, .slice Aa0 a0.length ca0), (1, .int .i64 a1), (2, .int .i64 a2), (8, .slice A6 t5.1.length c7), (9, .int .i64 t5.2), (11, .slice A12 t11.1.length c13), (69, .bool y21)] ∧ St w no w1 [rowC cMeadow A6 c7 57 t5.1, rowC cMeadow A12 c13 57 t11.1] [roC cMeadow Aa0 ca0 a0]) ?_ ?_
          · skip
            refine CJ.region ?_
            refine OJ.pures tU_ok 3 rfl ?_
            refine OJ.split (t := 59) rfl (fun hb => ?_) (fun hb => ?_)
            · replace H := pif_t (of_decide_eq_true hb) H
              refine OJ.pures tU_ok 10 rfl ?_
              refine OJ.nil ?_
              exact EJ.meet (F' := [(0, .slice Aa0 a0.length ca0), (1, .int .i64 a1), (2, .int .i64 a2), (8, .slice A6 t5.1.length c7), (9, .int .i64 t5.2), (11, .slice A12 t11.1.length c13), (69, .bool true)]) ⟨rfl, rfl, rfl, rfl, rfl, rfl, rfl, trivial⟩ ⟨true, H, rfl, hS.pick [0, 2] [0] rfl⟩
            · replace H := pif_f (of_decide_eq_false hb) H
              refine OJ.pures tU_ok 2 rfl ?_
              obtain ⟨t22, ht22, H⟩ := pbind H
              refine OJ.callF rfl rfl rfl rfl rfl hb19 rfl (laws_eqMeadowS.c k _ A12 c13 t11.1 (hS.rd (i := 2) rfl) (hS.le (i := 2) rfl) A6 c7 t5.1 (hS.rd (i := 0) rfl) (hS.le (i := 0) rfl) _ ht22) ?_
              rintro _ w1 ⟨rfl, hs⟩
              replace hS := hS.grow hs
              refine OJ.pures tU_ok 3 rfl ?_
              refine OJ.split (t := 65) rfl (fun hb => ?_) (fun hb => ?_)
              · replace H := pif_t hb H
                refine OJ.pures tU_ok 4 rfl ?_
                refine OJ.nil ?_
                exact EJ.meet (F' := [(0, .slice Aa0 a0.length ca0), (1, .int .i64 a1), (2, .int .i64 a2), (8, .slice A6 t5.1.length c7), (9, .int .i64 t5.2), (11, .slice A12 t11.1.length c13), (69, .bool true)]) ⟨rfl, rfl, rfl, rfl, rfl, rfl, rfl, trivial⟩ ⟨true, H, rfl, hS.pick [0, 2] [0] rfl⟩
              · replace H := pifb_f hb H
                refine OJ.pures tU_ok 4 rfl ?_
                refine OJ.nil ?_
                exact EJ.meet (F' := [(0, .slice Aa0 a0.length ca0), (1, .int .i64 a1), (2, .int .i64 a2), (8, .slice A6 t5.1.length c7), (9, .int .i64 t5.2), (11, .slice A12 t11.1.length c13), (69, .bool (decide (t11.2 ≠ t5.2)))]) ⟨rfl, rfl, rfl, rfl, rfl, rfl, rfl, trivial⟩ ⟨(decide (t11.2 ≠ t5.2)), H, rfl, hS.pick [0, 2] [0] rfl⟩
          · rintro F w1 ⟨y21, he, rfl, hS⟩
            obtain rfl := Option.some.inj he
            have H := K30
            refine CJ.cond rfl (fun hb => ?_) (fun hb => ?_)
            · replace H := pif_t hb H
              refine CJ.seq ?_
              refine CJ.region ?_
              refine OJ.pures tU_ok 1 rfl ?_
              refine OJ.nil (EJ.next ?_)
              refine CJ.ret (EJ.skR (?_))
              obtain rfl := Option.some.inj H
              exact EJ.fin rfl (.tmp rfl .nil) ⟨rfl, hS.ext⟩
            · replace H := pifb_f hb H
              refine CJ.skip (EJ.next ?_)
              refine CJ.seq ?_
              refine CJ.region ?_
              refine OJ.pures tU_ok 1 rfl ?_
              refine OJ.nil (EJ.next ?_)
              refine CJ.seq ?_
              refine CJ.region ?_
              refine OJ.pures tU_ok 2 rfl ?_
              obtain ⟨t23, ht23, H⟩ := pbind H
              refine OJ.callF rfl rfl rfl rfl rfl hb32 rfl (laws_markMeadowS.c k _ A12 c13 t11.1 (hS.row (i := 1) rfl) 1 _ ht23) ?_
              rintro _ w1 ⟨rfl, hx, hr, hl⟩
              replace hS := hS.rowSet (i := 1) rfl hx hr
              refine OJ.as (t := 11) rfl (show _ = Value.slice A12 t23.2.length c13 by rw [hl]) ?_
              refine OJ.as (t := 70) rfl (show _ = Value.slice A12 t23.2.length c13 by rw [hl]) ?_
              refine OJ.pures tU_ok 1 rfl ?_
              refine OJ.nil (EJ.next ?_)
              refine CJ.seq ?_
              refine CJ.region ?_
              refine OJ.pures tU_ok 1 rfl ?_
              refine OJ.nil (EJ.next ?_)
              refine CJ.seq ?_
              refine CJ.region ?_
              refine OJ.pures tU_ok 2 rfl ?_
              obtain ⟨t24, ht24, H⟩ := pbind H
              refine OJ.callF rfl rfl rfl rfl rfl hb33 rfl (laws_heldMeadowS.c k _ A12 c13 t23.2 (hS.rd (i := 1) rfl) (hS.le (i := 1) rfl) 1 _ ht24) ?_
              rintro _ w1 ⟨rfl, hs⟩
              replace hS := hS.grow hs
              refine OJ.pures tU_ok 1 rfl ?_
              refine OJ.nil (EJ.next ?_)
              refine CJ.seq ?_
              refine CJ.seq ?_
              refine CJ.region ?_
              refine OJ.pures tU_ok 2 rfl ?_
              refine OJ.nil (EJ.next ?_)
              refine CJ.cond rfl (fun hb => ?_) (fun hb => ?_)
              · replace H := pif_t (of_decide_eq_true hb) H
                refine CJ.seq ?_
                refine CJ.region ?_
                refine OJ.pures tU_ok 1 rfl ?_
                refine OJ.nil (EJ.next ?_)
                refine CJ.ret (EJ.skR (?_))
                obtain rfl := Option.some.inj H
                exact EJ.fin rfl (.tmp rfl .nil) ⟨rfl, hS.ext⟩
              · replace H := pif_f (of_decide_eq_false hb) H
                refine CJ.skip (EJ.next ?_)
                refine CJ.seq ?_
                refine CJ.seq ?_
                refine CJ.region ?_
                refine OJ.pures tU_ok 3 rfl ?_
                refine OJ.nil (EJ.next ?_)
                refine CJ.cond rfl (fun hb => ?_) (fun hb => ?_)
                · replace H := pif_t (of_decide_eq_true hb) H
                  refine CJ.seq ?_
                  refine CJ.region ?_
                  refine OJ.pures tU_ok 1 rfl ?_
                  refine OJ.nil (EJ.next ?_)
                  refine CJ.ret (EJ.skR (?_))
                  obtain rfl := Option.some.inj H
                  exact EJ.fin rfl (.tmp rfl .nil) ⟨rfl, hS.ext⟩
                · replace H := pif_f (of_decide_eq_false hb) H
                  refine CJ.skip (EJ.next ?_)
                  refine CJ.seq ?_
                  refine CJ.region ?_
                  refine OJ.pures tU_ok 1 rfl ?_
                  obtain ⟨t25, ht25, H⟩ := pbind H
                  refine OJ.callF rfl rfl rfl rfl rfl hb17 rfl (laws_toMeadowS.c k _ Aa0 ca0 a0 (hS.rd' (i := 0) rfl) (hS.le' (i := 0) rfl) _ ht25) ?_
                  rintro _ w1 ⟨A26, c27, rfl, hs⟩
                  replace hS := hS.addN hs
                  refine OJ.pures tU_ok 2 rfl ?_
                  obtain ⟨t28, ht28, H⟩ := pbind H
                  refine OJ.callF rfl rfl rfl rfl rfl hb31 rfl (impl_DayBehind.c k _ A26 c27 t25 (hS.rd (i := 2) rfl) (hS.le (i := 2) rfl) a1 a2 _ ht28) ?_
                  rintro _ w1 ⟨A29, c30, rfl, hs⟩
                  replace hS := hS.addN hs
                  refine OJ.pures tU_ok 5 rfl ?_
                  refine OJ.nil (EJ.next ?_)
                  refine CJ.seq ?_
                  obtain ⟨j32, H, K32⟩ := pbind H
                  refine CJ.cut (fun F w1 => ∃ (y31 : Bool) , (some y31 : Option Bool) = some j32 ∧ F = [(11, .slice A12 t23.2.length c13), (14, .int .i64 t23.1), (97, .bool y31)] ∧ St w no w1 [rowC cMeadow A12 c13 57 t23.2] [roC cMeadow Aa0 ca0 a0]) ?_ ?_
                  · skip
                    refine CJ.region ?_
                    refine OJ.pures tU_ok 2 rfl ?_
                    obtain ⟨t32, ht32, H⟩ := pbind H
                    refine OJ.callF rfl rfl rfl rfl rfl hb19 rfl (laws_eqMeadowS.c k _ A29 c30 t28.1 (hS.rd (i := 3) rfl) (hS.le (i := 3) rfl) A6 c7 t5.1 (hS.rd (i := 0) rfl) (hS.le (i := 0) rfl) _ ht32) ?_
                    rintro _ w1 ⟨rfl, hs⟩
                    replace hS := hS.grow hs
                    refine OJ.pures tU_ok 2 rfl ?_
                    refine OJ.split (t := 93) rfl (fun hb => ?_) (fun hb => ?_)
                    · replace H := pif_t hb H
                      refine OJ.pures tU_ok 4 rfl ?_
                      refine OJ.nil ?_
                      exact EJ.meet (F' := [(11, .slice A12 t23.2.length c13), (14, .int .i64 t23.1), (97, .bool true)]) ⟨rfl, rfl, rfl, trivial⟩ ⟨true, H, rfl, hS.pick [1] [0] rfl⟩
                    · replace H := pifb_f hb H
                      refine OJ.pures tU_ok 4 rfl ?_
                      refine OJ.nil ?_
                      exact EJ.meet (F' := [(11, .slice A12 t23.2.length c13), (14, .int .i64 t23.1), (97, .bool (decide (t28.2 ≠ t5.2)))]) ⟨rfl, rfl, rfl, trivial⟩ ⟨(decide (t28.2 ≠ t5.2)), H, rfl, hS.pick [1] [0] rfl⟩
                  · rintro F w1 ⟨y31, he, rfl, hS⟩
                    obtain rfl := Option.some.inj he
                    have H := K32
                    refine CJ.cond rfl (fun hb => ?_) (fun hb => ?_)
                    · replace H := pif_t hb H
                      refine CJ.seq ?_
                      refine CJ.region ?_
                      refine OJ.pures tU_ok 1 rfl ?_
                      refine OJ.nil (EJ.next ?_)
                      refine CJ.ret (EJ.skR (?_))
                      obtain rfl := Option.some.inj H
                      exact EJ.fin rfl (.tmp rfl .nil) ⟨rfl, hS.ext⟩
                    · replace H := pifb_f hb H
                      refine CJ.skip (EJ.next ?_)
                      refine CJ.seq ?_
                      refine CJ.region ?_
                      refine OJ.pures tU_ok 1 rfl ?_
                      refine OJ.nil (EJ.next ?_)
                      refine CJ.seq ?_
                      refine CJ.region ?_
                      refine OJ.pures tU_ok 2 rfl ?_
                      obtain ⟨t33, ht33, H⟩ := pbind H
                      refine OJ.callF rfl rfl rfl rfl rfl hb33 rfl (laws_heldMeadowS.c k _ A12 c13 t23.2 (hS.rd (i := 0) rfl) (hS.le (i := 0) rfl) 1 _ ht33) ?_
                      rintro _ w1 ⟨rfl, hs⟩
                      replace hS := hS.grow hs
                      refine OJ.pures tU_ok 1 rfl ?_
                      refine OJ.nil (EJ.next ?_)
                      refine CJ.seq ?_
                      refine CJ.seq ?_
                      refine CJ.region ?_
                      refine OJ.pures tU_ok 2 rfl ?_
                      refine OJ.nil (EJ.next ?_)
                      refine CJ.cond rfl (fun hb => ?_) (fun hb => ?_)
                      · replace H := pif_t (of_decide_eq_true hb) H
                        refine CJ.seq ?_
                        refine CJ.region ?_
                        refine OJ.pures tU_ok 1 rfl ?_
                        refine OJ.nil (EJ.next ?_)
                        refine CJ.ret (EJ.skR (?_))
                        obtain rfl := Option.some.inj H
                        exact EJ.fin rfl (.tmp rfl .nil) ⟨rfl, hS.ext⟩
                      · replace H := pif_f (of_decide_eq_false hb) H
                        refine CJ.skip (EJ.next ?_)
                        refine CJ.seq ?_
                        refine CJ.seq ?_
                        refine CJ.region ?_
                        refine OJ.pures tU_ok 3 rfl ?_
                        refine OJ.nil (EJ.next ?_)
                        refine CJ.cond rfl (fun hb => ?_) (fun hb => ?_)
                        · replace H := pif_t (of_decide_eq_true hb) H
                          refine CJ.seq ?_
                          refine CJ.region ?_
                          refine OJ.pures tU_ok 1 rfl ?_
                          refine OJ.nil (EJ.next ?_)
                          refine CJ.ret (EJ.skR (?_))
                          obtain rfl := Option.some.inj H
                          exact EJ.fin rfl (.tmp rfl .nil) ⟨rfl, hS.ext⟩
                        · replace H := pif_f (of_decide_eq_false hb) H
                          refine CJ.skip (EJ.next ?_)
                          refine CJ.seq ?_
                          refine CJ.region ?_
                          refine OJ.pures tU_ok 1 rfl ?_
                          refine OJ.nil (EJ.next ?_)
                          refine CJ.ret (?_)
                          obtain rfl := Option.some.inj H
                          exact EJ.fin rfl (.tmp rfl .nil) ⟨rfl, hS.ext⟩

def spec_l07Richest.l1 (a0 : List Meadow) : Nat → Int → Int → Option Int
  | 0, _, _ => none
  | k + 1, y2, y3 => if y3 < (a0.length : Int) then ((getI a0 y3).bind fun t4 => (getI a0 y2).bind fun t5 => if t5.Grass < t4.Grass then (spec_l07Richest.l1 a0 k y3 (IntKind.i64.wrap (y3 + 1))) else (spec_l07Richest.l1 a0 k y2 (IntKind.i64.wrap (y3 + 1)))) else (some y2)
def spec_l07Richest.f (k : Nat) (a0 : List Meadow) : Option Int := (spec_l07Richest.l1 a0 k 0 1).bind fun y1 => some y1
theorem spec_l07Richest.c (k : Nat) (w : World) (Aa0 : Option Addr) (ca0 : Nat) (a0 : List Meadow) (hr0 : Rd cMeadow w Aa0 a0) (hc0 : a0.length ≤ ca0) (r : Int) (H : spec_l07Richest.f k a0 = some r) :
    CV Try.prog 83 [.slice Aa0 a0.length ca0].toArray w fun v w' => v = .int .i64 r ∧ Ext w w' := by
  have hS := ((St.init w no).param cMeadow Aa0 ca0 a0 hr0 hc0)
  unfold spec_l07Richest.f at H
  refine CV.body Try.func83 rfl Try.ntmps83 rfl ?_
  refine CJ.seq ?_
  refine CJ.region ?_
  refine OJ.pures tU_ok 1 rfl ?_
  refine OJ.nil (EJ.next ?_)
  refine CJ.seq ?_
  refine CJ.region ?_
  refine OJ.pures tU_ok 1 rfl ?_
  refine OJ.nil (EJ.next ?_)
  refine CJ.seq ?_
  refine CJ.seq ?_
  refine CJ.region ?_
  refine OJ.pures tU_ok 1 rfl ?_
  refine OJ.nil (EJ.next ?_)
  obtain ⟨j34, H, K34⟩ := pbind H
  refine CJ.cut1 (fun F w1 => ∃ (y1 : Int) , (some y1 : Option Int) = some j34 ∧ F = [(3, .int .i64 y1)] ∧ St w no w1 [] [roC cMeadow Aa0 ca0 a0]) ?_ ?_
  · skip
    refine CJ.block ?_
    refine CJ.loop (fun k F w1 => ∃ (y2 : Int) (y3 : Int), F = [(0, .slice Aa0 a0.length ca0), (3, .int .i64 y2), (4, .int .i64 y3)] ∧ St w no w1 [] [roC cMeadow Aa0 ca0 a0] ∧ spec_l07Richest.l1 a0 k y2 y3 = some j34) k (F' := [(0, .slice Aa0 a0.length ca0), (3, .int .i64 0), (4, .int .i64 1)]) ⟨rfl, rfl, rfl, trivial⟩ ⟨0, 1, rfl, hS.pick [] [0] rfl, H⟩ ?_
    rintro k F w1 ⟨y2, y3, rfl, hS, H⟩
    cases k with
    | zero => rw [spec_l07Richest.l1] at H; cases H
    | succ k =>
      rw [spec_l07Richest.l1] at H
      refine CJ.seq ?_
      refine CJ.seq ?_
      refine CJ.region ?_
      refine OJ.pures tU_ok 4 rfl ?_
      refine OJ.nil (EJ.next ?_)
      refine CJ.cond rfl (fun hb => ?_) (fun hb => ?_)
      · replace H := pif_t (of_decide_eq_true hb) H
        refine CJ.skip (EJ.next ?_)
        refine CJ.seq ?_
        refine CJ.block ?_
        refine CJ.seq ?_
        refine CJ.draw [] [0, 1, 2, 3, 4, 5, 6, 7, 8, 9, 10] mixed (by kernel_rfl) hS fun w1 hS => ?_
        refine DJ.pures tU_ok 2 rfl ?_
        obtain ⟨t4, ht4, H⟩ := pbind H
        obtain ⟨ad4, e4⟩ := (hS.rd' (i := 0) rfl).some' ht4
        refine DJ.st rfl rfl rfl rfl rfl (SR.idxS tU_ok tI_ok rfl rfl rfl rfl e4 rfl (getI_some ht4).1) ?_
        refine DJ.st rfl rfl rfl rfl rfl (SR.fieldAddr tU_ok tI_ok rfl rfl rfl rfl rfl rfl) ?_
        refine DJ.st rfl rfl rfl rfl rfl (SR.load rfl rfl (fun w' hx => ld1 tU_ok rfl rfl (CA.ext (CA.sub ((hS.rd' (i := 0) rfl).at_ e4 ht4) 0) hx) rfl)) ?_
        refine DJ.pures tU_ok 2 rfl ?_
        obtain ⟨t5, ht5, H⟩ := pbind H
        obtain ⟨ad5, e5⟩ := (hS.rd' (i := 0) rfl).some' ht5
        refine DJ.st rfl rfl rfl rfl rfl (SR.idxS tU_ok tI_ok rfl rfl rfl rfl e5 rfl (getI_some ht5).1) ?_
        refine DJ.st rfl rfl rfl rfl rfl (SR.fieldAddr tU_ok tI_ok rfl rfl rfl rfl rfl rfl) ?_
        refine DJ.st rfl rfl rfl rfl rfl (SR.load rfl rfl (fun w' hx => ld1 tU_ok rfl rfl (CA.ext (CA.sub ((hS.rd' (i := 0) rfl).at_ e5 ht5) 0) hx) rfl)) ?_
        refine DJ.pures tU_ok 1 rfl ?_
        refine DJ.nil (EJ.next ?_)
        refine CJ.cond rfl (fun hb => ?_) (fun hb => ?_)
        · replace H := pif_t (of_decide_eq_true hb) H
          refine CJ.region ?_
          refine OJ.pures tU_ok 2 rfl ?_
          refine OJ.nil (EJ.blk (EJ.next ?_))
          refine CJ.region ?_
          refine OJ.pures tU_ok 3 rfl ?_
          refine OJ.nil ?_
          exact EJ.round k (F' := [(0, .slice Aa0 a0.length ca0), (3, .int .i64 y3), (4, .int .i64 (IntKind.i64.wrap (y3 + 1)))]) ⟨rfl, rfl, rfl, trivial⟩ (Nat.lt_succ_self _) ⟨y3, (IntKind.i64.wrap (y3 + 1)), rfl, hS.pick [] [0] rfl, H⟩
        · replace H := pif_f (of_decide_eq_false hb) H
          refine CJ.skip (EJ.blk (EJ.next ?_))
          refine CJ.region ?_
          refine OJ.pures tU_ok 3 rfl ?_
          refine OJ.nil ?_
          exact EJ.round k (F' := [(0, .slice Aa0 a0.length ca0), (3, .int .i64 y2), (4, .int .i64 (IntKind.i64.wrap (y3 + 1)))]) ⟨rfl, rfl, rfl, trivial⟩ (Nat.lt_succ_self _) ⟨y2, (IntKind.i64.wrap (y3 + 1)), rfl, hS.pick [] [0] rfl, H⟩
      · replace H := pif_f (of_decide_eq_false hb) H
        refine CJ.exit (EJ.skE (EJ.skE (EJ.hit (?_))))
        exact EJ.meet (F' := [(3, .int .i64 y2)]) ⟨rfl, trivial⟩ ⟨y2, H, rfl, hS.pick [] [0] rfl⟩
  · rintro F w1 ⟨y1, he, rfl, hS⟩
    obtain rfl := Option.some.inj he
    have H := K34
    refine EJ.next ?_
    refine CJ.seq ?_
    refine CJ.region ?_
    refine OJ.pures tU_ok 2 rfl ?_
    refine OJ.nil (EJ.next ?_)
    refine CJ.ret (?_)
    obtain rfl := Option.some.inj H
    exact EJ.fin rfl (.tmp rfl .nil) ⟨rfl, hS.ext⟩

def spec_l07Greedy.l1 (a1 : Int) (a2 : Int) : Nat → (List Int) → (List Meadow) → Option ((List Int) ⊕ (List Int))
  | 0, _, _ => none
  | k + 1, y5, y8 => if (y5.length : Int) < a2 then ((spec_l07Richest.f k y8).bind fun t11 => (getI y8 t11).bind fun t12 => if (IntKind.i64.wrap t12.Grass) < a1 then (some (Sum.inl y5)) else ((chk (y5.length + ([t11] : List Int).length ≤ 4294967296)).bind fun u14 => (spec_l07Day.f k y8 a1 t11).bind fun t17 => spec_l07Greedy.l1 a1 a2 k (y5 ++ ([t11] : List Int)) t17)) else (some (Sum.inr y5))
def spec_l07Greedy.f (k : Nat) (a0 : List Meadow) (a1 : Int) (a2 : Int) : Option (List Int) := (spec_l07Greedy.l1 a1 a2 k ([] : List Int) a0).bind fun s33 => match s33 with | .inl r => some r | .inr y2 => some y2
theorem spec_l07Greedy.c (k : Nat) (w : World) (Aa0 : Option Addr) (ca0 : Nat) (a0 : List Meadow) (hr0 : Rd cMeadow w Aa0 a0) (hc0 : a0.length ≤ ca0) (a1 : Int) (a2 : Int) (r : List Int) (H : spec_l07Greedy.f k a0 a1 a2 = some r) :
    CV Try.prog 65 [.slice Aa0 a0.length ca0, .int .i64 a1, .int .i64 a2].toArray w fun v w' => ∃ (A0 : Option Addr) (c0 : Nat), v = .slice A0 r.length c0 ∧ St w no w' [rowC (ci .i64) A0 c0 2 r] [] := by
  have hS := ((St.init w no).param cMeadow Aa0 ca0 a0 hr0 hc0)
  unfold spec_l07Greedy.f at H
  refine CV.body Try.func65 rfl Try.ntmps65 rfl ?_
  refine CJ.seq ?_
  refine CJ.region ?_
  refine OJ.pures tU_ok 1 rfl ?_
  refine OJ.nil (EJ.next ?_)
  refine CJ.seq ?_
  refine CJ.region ?_
  refine OJ.ef rfl rfl rfl (Ef.lit tU_ok tI_ok hS (C := (ci .i64)) rfl rfl rfl rfl rfl rfl ([] : List Int) rfl rfl rfl rfl) ?_
  rintro _ w1 ⟨A1, rfl, hS⟩
  refine OJ.pures tU_ok 1 rfl ?_
  refine OJ.nil (EJ.next ?_)
  obtain ⟨j33, H, K33⟩ := pbind H
  refine CJ.cut (fun F w1 => ∃ (y2 : List Int) (A3 : Option Addr) (c4 : Nat), (some (Sum.inr y2) : Option ((List Int) ⊕ (List Int))) = some j33 ∧ F = [(7, .slice A3 y2.length c4)] ∧ St w no w1 [rowC (ci .i64) A3 c4 2 y2] [roC cMeadow Aa0 ca0 a0]) ?_ ?_
  · skip
    refine CJ.block ?_
    refine CJ.loop (fun k F w1 => ∃ (y5 : List Int) (y8 : List Meadow) (A6 : Option Addr) (c7 : Nat) (A9 : Option Addr) (c10 : Nat), F = [(0, .slice A9 y8.length c10), (1, .int .i64 a1), (2, .int .i64 a2), (7, .slice A6 y5.length c7)] ∧ St w no w1 [rowC (ci .i64) A6 c7 2 y5] [roC cMeadow Aa0 ca0 a0, roC cMeadow A9 c10 y8] ∧ spec_l07Greedy.l1 a1 a2 k y5 y8 = some j33) k (F' := [(0, .slice Aa0 a0.length ca0), (1, .int .i64 a1), (2, .int .i64 a2), (7, .slice A1 ([] : List Int).length (([] : List Int).length))]) ⟨rfl, rfl, rfl, rfl, trivial⟩ ⟨([] : List Int), a0, A1, (([] : List Int).length), Aa0, ca0, rfl, hS.pick [0] [0, 0] rfl, H⟩ ?_
    rintro k F w1 ⟨y5, y8, A6, c7, A9, c10, rfl, hS, H⟩
    cases k with
    | zero => rw [spec_l07Greedy.l1] at H; cases H
    | succ k =>
      rw [spec_l07Greedy.l1] at H
      refine CJ.seq ?_
      refine CJ.seq ?_
      refine CJ.region ?_
      refine OJ.pures tU_ok 4 rfl ?_
      refine OJ.nil (EJ.next ?_)
      refine CJ.cond rfl (fun hb => ?_) (fun hb => ?_)
      · replace H := pif_t (of_decide_eq_true hb) H
        refine CJ.skip (EJ.next ?_)
        refine CJ.block ?_
        refine CJ.seq ?_
        refine CJ.region ?_
        refine OJ.pures tU_ok 1 rfl ?_
        obtain ⟨t11, ht11, H⟩ := pbind H
        refine OJ.callF rfl rfl rfl rfl rfl hb83 rfl (spec_l07Richest.c k _ A9 c10 y8 (hS.rd' (i := 1) rfl) (hS.le' (i := 1) rfl) _ ht11) ?_
        rintro _ w1 ⟨rfl, hs⟩
        replace hS := hS.grow hs
        refine OJ.pures tU_ok 1 rfl ?_
        refine OJ.nil (EJ.next ?_)
        refine CJ.seq ?_
        refine CJ.seq ?_
        refine CJ.region ?_
        refine OJ.pures tU_ok 2 rfl ?_
        obtain ⟨t12, ht12, H⟩ := pbind H
        obtain ⟨ad12, e12⟩ := (hS.rd' (i := 1) rfl).some' ht12
        refine OJ.st rfl rfl rfl (SR.idxS tU_ok tI_ok rfl rfl rfl rfl e12 rfl (getI_some ht12).1) ?_
        refine OJ.st rfl rfl rfl (SR.fieldAddr tU_ok tI_ok rfl rfl rfl rfl rfl rfl) ?_
        refine OJ.st rfl rfl rfl (SR.load rfl rfl (fun w' hx => ld1 tU_ok rfl rfl (CA.ext (CA.sub ((hS.rd' (i := 1) rfl).at_ e12 ht12) 0) hx) rfl)) ?_
        refine OJ.pures tU_ok 3 rfl ?_
        refine OJ.nil (EJ.next ?_)
        refine CJ.cond rfl (fun hb => ?_) (fun hb => ?_)
        · replace H := pif_t (of_decide_eq_true hb) H
          refine CJ.seq ?_
          refine CJ.region ?_
          refine OJ.pures tU_ok 2 rfl ?_
          refine OJ.nil (EJ.next ?_)
          refine CJ.ret (EJ.skR (EJ.bkR (EJ.skR (EJ.bkR (EJ.skR (?_))))))
          first | (obtain rfl := Option.some.inj H; have H := K33) | (obtain ⟨q33, H2, e33⟩ := pbind H; obtain rfl := Option.some.inj e33; obtain rfl := Option.some.inj K33; have H := H2)
          obtain rfl := Option.some.inj H
          exact EJ.fin rfl (.tmp rfl .nil) ⟨A6, c7, rfl, hS.pick [0] [] rfl⟩
        · replace H := pif_f (of_decide_eq_false hb) H
          refine CJ.skip (EJ.next ?_)
          refine CJ.seq ?_
          refine CJ.region ?_
          refine OJ.pures tU_ok 2 rfl ?_
          refine OJ.ef rfl rfl rfl (Ef.lit tU_ok tI_ok hS (C := (ci .i64)) rfl rfl rfl rfl rfl rfl ([t11] : List Int) rfl rfl rfl rfl) ?_
          rintro _ w1 ⟨A13, rfl, hS⟩
          obtain ⟨u14, hu14, H⟩ := pbind H
          refine OJ.ew rfl rfl rfl (Ew.append tU_ok tI_ok (C := (ci .i64)) (xs := y5) (ys := ([t11] : List Int)) hS (i := 0) rfl rfl rfl rfl rfl rfl rfl rfl rfl rfl rfl rfl rfl (hS.rd (i := 1) rfl) (chk_some hu14)) ?_
          rintro _ w1 ⟨A15, c16, rfl, hS⟩
          refine OJ.pures tU_ok 1 rfl ?_
          refine OJ.nil (EJ.next ?_)
          refine CJ.region ?_
          refine OJ.pures tU_ok 3 rfl ?_
          obtain ⟨t17, ht17, H⟩ := pbind H
          refine OJ.callF rfl rfl rfl rfl rfl hb62 rfl (spec_l07Day.c k _ A9 c10 y8 (hS.rd' (i := 1) rfl) (hS.le' (i := 1) rfl) a1 t11 _ ht17) ?_
          rintro _ w1 ⟨A18, c19, rfl, hs⟩
          replace hS := hS.addN hs
          refine OJ.pures tU_ok 1 rfl ?_
          refine OJ.nil (EJ.blk (?_))
          replace hS := hS.freezeG (i := 2) rfl
          exact EJ.round k (F' := [(0, .slice A18 t17.length c19), (1, .int .i64 a1), (2, .int .i64 a2), (7, .slice A15 (y5 ++ ([t11] : List Int)).length c16)]) ⟨rfl, rfl, rfl, rfl, trivial⟩ (Nat.lt_succ_self _) ⟨(y5 ++ ([t11] : List Int)), t17, A15, c16, A18, c19, rfl, hS.pick [0] [0, 2] rfl, H⟩
      · replace H := pif_f (of_decide_eq_false hb) H
        refine CJ.exit (EJ.skE (EJ.skE (EJ.hit (?_))))
        exact EJ.meet (F' := [(7, .slice A6 y5.length c7)]) ⟨rfl, trivial⟩ ⟨y5, A6, c7, H, rfl, hS.pick [0] [0] rfl⟩
  · rintro F w1 ⟨y2, A3, c4, he, rfl, hS⟩
    obtain rfl := Option.some.inj he
    have H := K33
    refine CJ.seq ?_
    refine CJ.region ?_
    refine OJ.pures tU_ok 2 rfl ?_
    refine OJ.nil (EJ.next ?_)
    refine CJ.ret (?_)
    obtain rfl := Option.some.inj H
    exact EJ.fin rfl (.tmp rfl .nil) ⟨A3, c4, rfl, hS.pick [0] [] rfl⟩
end Go.Proofs.Ytfdfchbcenoabaa
