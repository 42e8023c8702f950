/-
  What the functions come to.
-/
import Derived.Test.YtegibnmfiogebaaGreatDoorGP0
namespace Go.Proofs.YtegibnmfiogebaaGreatDoor
open G
set_option linter.unusedVariables false
set_option linter.unusedSimpArgs false
set_option maxRecDepth 100000
set_option maxHeartbeats 4000000
def q02.l2 (a0 : List Spot) (y1 : Int) : Nat → (List Spot) → Int → Int → Option ((List Spot) × Int)
  | 0, _, _, _ => none
  | k + 1, y7, y8, y9 => if y9 < ((a0.length - y1.toNat : Nat) : Int) then ((getI (y7.drop y1.toNat) y9).bind fun t10 => (getI (y7.drop y1.toNat) (IntKind.i64.wrap (y9 - 1))).bind fun t11 => if t10 ≠ t11 then ((getI (y7.drop y1.toNat) y9).bind fun t12 => (getI y7 y8).bind fun t13 => q02.l2 a0 y1 k (y7.set y8.toNat t12) (IntKind.i64.wrap (y8 + 1)) (IntKind.i64.wrap (y9 + 1))) else (q02.l2 a0 y1 k y7 y8 (IntKind.i64.wrap (y9 + 1)))) else (some (y7, y8))
def q02.l1 (a0 : List Spot) : Nat → Int → Option ((List Spot) ⊕ Unit)
  | 0, _ => none
  | k + 1, y1 => if y1 < (a0.length : Int) then (((getI a0 y1).bind fun t2 => (getI a0 (IntKind.i64.wrap (y1 - 1))).bind fun t3 => if t2 = t3 then ((chk ((0 : Int) ≤ y1 ∧ y1 ≤ (a0.length : Int) ∧ (a0.length : Int) ≤ (a0.length : Int))).bind fun u4 => (q02.l2 a0 y1 k a0 y1 1).bind fun (y5, y6) => (chk ((0 : Int) ≤ y6 ∧ y6 ≤ (a0.length : Int) ∧ (a0.length : Int) ≤ (a0.length : Int))).bind fun u14 => (chk ((0 : Int) ≤ 0 ∧ 0 ≤ y6 ∧ y6 ≤ ((y5.take y6.toNat ++ List.replicate (y5.length - y6.toNat) (⟨0, 0⟩ : Spot)).length : Int))).bind fun u15 => some (Sum.inl (Sum.inl ((y5.take y6.toNat ++ List.replicate (y5.length - y6.toNat) (⟨0, 0⟩ : Spot)).take y6.toNat)))) else (some (Sum.inr ()))).bind fun s120 => match s120 with | .inl r => some r | .inr _ => q02.l1 a0 k (IntKind.i64.wrap (y1 + 1))) else (some (Sum.inr ()))
def q02.f (k : Nat) (a0 : List Spot) : Option (List Spot) := if (a0.length : Int) < 2 then (some a0) else ((q02.l1 a0 k 1).bind fun s113 => match s113 with | .inl r => some r | .inr _ => some a0)
theorem q02.c {k w Aa0 ca0} {a0 : List Spot} (hin : St w (fpU [rowC cSpot Aa0 ca0 55 a0]) w [rowC cSpot Aa0 ca0 55 a0] []) (r : List Spot) (H : q02.f k a0 = some r) :
 CV Tryz.prog 89 [sl Aa0 a0 ca0].toArray w fun v w' => ∃ (A0 : Option Addr) (c0 : Nat), v = .slice A0 r.length c0 ∧ St w (fpU [rowC cSpot Aa0 ca0 55 a0]) w' [rowC cSpot A0 c0 55 r] [] := by
 have hS := hin
 unfold q02.f at H
 refine CV.body Tryz.func89 Z Tryz.ntmps89 Z ?_
 have hl0 : a0.length = a0.length := rfl
 refine GO ?_
 refine CP H (fun H => GO ?_) (fun H => ?_)
 obtain rfl := Option.some.inj H
 exact FT ⟨Aa0, ca0, Z, hS.pick [0] [] Z⟩
 refine GO ?_
 obtain ⟨j113, H, K113⟩ := pbind H
 refine CJ.cut1 (fun F w1 => some j113 = some (Sum.inr ()) ∧ F = [(0, sl Aa0 a0 ca0)] ∧ St w (fpU [rowC cSpot Aa0 ca0 55 a0]) w1 [rowC cSpot Aa0 ca0 55 a0] [] ∧ a0.length = a0.length) ?_ ?_
 refine CJ.block ?_
 refine LP (fun k F w1 => ∃ (y1 : Int), F = [(0, .slice Aa0 a0.length ca0), (3, .int .i64 y1)] ∧ St w (fpU [rowC cSpot Aa0 ca0 55 a0]) w1 [rowC cSpot Aa0 ca0 55 a0] [] ∧ a0.length = a0.length ∧ q02.l1 a0 k y1 = some j113) k ⟨1, rfl, hS.pick [0] [] rfl, (by first | exact hl0 | (simp only [List.length_set]; exact hl0) | (simp only [List.length_set]; done)), H⟩ ?_
 rintro k F w1 ⟨y1, rfl, hS, hl0, H⟩
 obtain _ | k := k
 rw [q02.l1] at H; cases H
 rw [q02.l1] at H
 refine GO ?_
 refine CP H (fun H => ?_) (fun H => ?_)
 refine CJ.skip (EJ.next ?_)
 obtain ⟨j120, H, K120⟩ := pbind H
 refine CJ.cut (fun F w1 => some j120 = some (Sum.inr ()) ∧ F = [(0, sl Aa0 a0 ca0), (3, i6 y1)] ∧ St w (fpU [rowC cSpot Aa0 ca0 55 a0]) w1 [rowC cSpot Aa0 ca0 55 a0] [] ∧ a0.length = a0.length) ?_ ?_
 refine CJ.block ?_
 refine GO ?_
 refine CJ.draw [] [0, 1, 2, 3, 4, 5, 6, 7, 8, 9] mixed (by kernel_rfl) hS fun w1 hS => ?_
 refine GO ?_
 obtain ⟨t2, ht2, H⟩ := pbind H
 obtain ⟨ad2, e2⟩ := (rC hS 0 Z).some' ht2
 refine DS (SI e2 (by have hg := (getI_some ht2).1; (first | rw [hl0] at hg | (simp only [List.length_set] at hg; rw [hl0] at hg)); exact hg)) ?_
 refine dS (SE ((rC hS 0 Z).at_ e2 ht2)) ?_
 obtain ⟨t3, ht3, H⟩ := pbind H
 obtain ⟨ad3, e3⟩ := (rC hS 0 Z).some' ht3
 refine DS (SI e3 (by have hg := (getI_some ht3).1; (first | rw [hl0] at hg | (simp only [List.length_set] at hg; rw [hl0] at hg)); exact hg)) ?_
 refine DS (SE ((rC hS 0 Z).at_ e3 ht3)) ?_
 refine DJ.st Z Z Z Z Z (SR.eqS eqT55 eqG55 Z Z Z (Z : _ = (cSpot.enc t2).toArray) (Z : _ = (cSpot.enc t3).toArray)) ?_
 refine GO ?_
 refine CP H (fun H => GO ?_) (fun H => ?_)
 obtain ⟨u4, hu4, H⟩ := pbind H
 refine OJ.st rfl rfl rfl (SR.cutS oU oI (y1.toNat) (a0.length) rfl rfl rfl rfl rfl rfl (.inr ⟨_, _, rfl, (chk_some hu4).1, rfl⟩) (.inl ⟨rfl, rfl⟩) (by have := (chk_some hu4); omega) (by have h1 := (chk_some hu4); have h2 : a0.length = a0.length := (by first | exact hl0 | (simp only [List.length_set]; exact hl0) | (simp only [List.length_set]; done)); have h3 := (hS.le (i := 0) rfl : a0.length ≤ ca0); omega)) ?_
 refine GO ?_
 obtain ⟨j122, H, K122⟩ := pbind H
 refine CJ.cut1 (fun F w1 => ∃ y5 y6, some j122 = some (y5, y6) ∧ F = [(0, sl Aa0 a0 ca0), (3, i6 y6)] ∧ St w (fpU [rowC cSpot Aa0 ca0 55 a0]) w1 [rowC cSpot Aa0 ca0 55 y5] [] ∧ y5.length = a0.length) ?_ ?_
 refine CJ.block ?_
 refine LP (fun k F w1 => ∃ (y7 : List Spot) (y8 : Int) (y9 : Int), F = [(0, .slice Aa0 a0.length ca0), (3, .int .i64 y8), (4, .slice (cutA Aa0 ca0 y1.toNat cSpot.sz) (a0.length - y1.toNat) (ca0 - y1.toNat)), (5, .int .i64 y9)] ∧ St w (fpU [rowC cSpot Aa0 ca0 55 a0]) w1 [rowC cSpot Aa0 ca0 55 y7] [] ∧ y7.length = a0.length ∧ q02.l2 a0 y1 k y7 y8 y9 = some j122) k ⟨a0, y1, 1, rfl, hS.pick [0] [] rfl, (by first | exact hl0 | (simp only [List.length_set]; exact hl0) | (simp only [List.length_set]; done)), H⟩ ?_
 rintro k F w1 ⟨y7, y8, y9, rfl, hS, hl0, H⟩
 obtain _ | k := k
 rw [q02.l2] at H; cases H
 rw [q02.l2] at H
 refine GO ?_
 refine CP H (fun H => GO ?_) (fun H => ?_)
 refine CJ.block ?_
 refine GO ?_
 refine CJ.draw [] [0, 1, 2, 3, 4, 5, 6, 7, 8, 9] mixed (by kernel_rfl) hS fun w1 hS => ?_
 refine GO ?_
 obtain ⟨t10, ht10, H⟩ := pbind H
 obtain ⟨ad10, e10⟩ := (((rC hS 0 Z).part (show y1.toNat ≤ y7.length from by have hg := (getI_some ht10).1; rw [List.length_drop] at hg; omega) (rD hS 0 Z))).some' ht10
 refine DS (SI e10 (by have hg := (getI_some ht10).1; rw [List.length_drop, (show y7.length = a0.length from (by first | exact hl0 | (simp only [List.length_set]; exact hl0) | (simp only [List.length_set]; done)))] at hg; exact hg)) ?_
 refine dS (SE (((rC hS 0 Z).part (show y1.toNat ≤ y7.length from by have hg := (getI_some ht10).1; rw [List.length_drop] at hg; omega) (rD hS 0 Z)).at_ e10 ht10)) ?_
 obtain ⟨t11, ht11, H⟩ := pbind H
 obtain ⟨ad11, e11⟩ := (((rC hS 0 Z).part (show y1.toNat ≤ y7.length from by have hg := (getI_some ht11).1; rw [List.length_drop] at hg; omega) (rD hS 0 Z))).some' ht11
 refine DS (SI e11 (by have hg := (getI_some ht11).1; rw [List.length_drop, (show y7.length = a0.length from (by first | exact hl0 | (simp only [List.length_set]; exact hl0) | (simp only [List.length_set]; done)))] at hg; exact hg)) ?_
 refine DS (SE (((rC hS 0 Z).part (show y1.toNat ≤ y7.length from by have hg := (getI_some ht11).1; rw [List.length_drop] at hg; omega) (rD hS 0 Z)).at_ e11 ht11)) ?_
 refine DJ.st Z Z Z Z Z (SR.neS eqT55 eqG55 Z Z Z (Z : _ = (cSpot.enc t10).toArray) (Z : _ = (cSpot.enc t11).toArray)) ?_
 refine GO ?_
 refine CP H (fun H => GO ?_) (fun H => ?_)
 obtain ⟨t12, ht12, H⟩ := pbind H
 obtain ⟨ad12, e12⟩ := (((rC hS 0 Z).part (show y1.toNat ≤ y7.length from by have hg := (getI_some ht12).1; rw [List.length_drop] at hg; omega) (rD hS 0 Z))).some' ht12
 refine OS (SI e12 (by have hg := (getI_some ht12).1; rw [List.length_drop, (show y7.length = a0.length from (by first | exact hl0 | (simp only [List.length_set]; exact hl0) | (simp only [List.length_set]; done)))] at hg; exact hg)) ?_
 refine OS (SE (((rC hS 0 Z).part (show y1.toNat ≤ y7.length from by have hg := (getI_some ht12).1; rw [List.length_drop] at hg; omega) (rD hS 0 Z)).at_ e12 ht12)) ?_
 obtain ⟨t13, ht13, H⟩ := pbind H
 obtain ⟨ad13, e13⟩ := (rC hS 0 Z).some' ht13
 refine OS (SI e13 (by have hg := (getI_some ht13).1; (first | rw [hl0] at hg | (simp only [List.length_set] at hg; rw [hl0] at hg)); exact hg)) ?_
 refine OJ.es Z Z (Es.storeR oI hS (i := 0) (off := 0) Z Z ht13 e13 Z Z Z Z (vs := cSpot.enc t12) Z (cSpot.len _) (cSpot.one _) (Nat.le_of_ble_eq_true Z) t12 Z) ?_
 intro w1 hS
 refine GO ?_
 exact RD ⟨(y7.set y8.toNat t12), (IntKind.i64.wrap (y8 + 1)), (IntKind.i64.wrap (y9 + 1)), rfl, hS.pick [0] [] rfl, (by first | exact hl0 | (simp only [List.length_set]; exact hl0) | (simp only [List.length_set]; done)), H⟩
 refine GO ?_
 exact RD ⟨y7, y8, (IntKind.i64.wrap (y9 + 1)), rfl, hS.pick [0] [] rfl, (by first | exact hl0 | (simp only [List.length_set]; exact hl0) | (simp only [List.length_set]; done)), H⟩
 refine GO ?_
 exact MT ⟨y7, y8, H.symm, rfl, hS.pick [0] [] rfl, (by first | exact hl0 | (simp only [List.length_set]; exact hl0) | (simp only [List.length_set]; done))⟩
 rintro F w1 ⟨y5, y6, he, rfl, hS, hl0⟩
 obtain rfl := Option.some.inj he
 have H := K122
 refine EJ.next ?_
 refine GO ?_
 obtain ⟨u14, hu14, H⟩ := pbind H
 refine OJ.st rfl rfl rfl (SR.cutS oU oI (y6.toNat) (a0.length) rfl rfl rfl rfl rfl rfl (.inr ⟨_, _, rfl, (chk_some hu14).1, rfl⟩) (.inl ⟨rfl, rfl⟩) (by have := (chk_some hu14); omega) (by have h1 := (chk_some hu14); have h2 : y5.length = a0.length := (by first | exact hl0 | (simp only [List.length_set]; exact hl0) | (simp only [List.length_set]; done)); have h3 := (hS.le (i := 0) rfl : y5.length ≤ ca0); omega)) ?_
 refine OJ.as (t := 56) rfl (show _ = (.slice (cutA Aa0 ca0 y6.toNat cSpot.sz) (y5.length - y6.toNat) (ca0 - y6.toNat) : Value) by rw [(show y5.length = a0.length from (by first | exact hl0 | (simp only [List.length_set]; exact hl0) | (simp only [List.length_set]; done)))]; rfl) ?_
 refine OJ.ewn rfl rfl (Ew.clear oU oI (C := cSpot) (lo := y6.toNat) hS (i := 0) rfl rfl rfl rfl rfl rfl rfl rfl rfl (⟨0, 0⟩ : Spot) rfl (by have h1 := (chk_some hu14); have h2 : y5.length = a0.length := (by first | exact hl0 | (simp only [List.length_set]; exact hl0) | (simp only [List.length_set]; done)); omega) rfl) ?_
 rintro _ w1 ⟨rfl, hS⟩
 refine OJ.as (t := 0) rfl (show _ = (.slice Aa0 (y5.take y6.toNat ++ List.replicate (y5.length - y6.toNat) (⟨0, 0⟩ : Spot)).length ca0 : Value) by rw [List.length_append, List.length_take, List.length_replicate, Nat.min_eq_left (by have h1 := (chk_some hu14); have h2 : y5.length = a0.length := (by first | exact hl0 | (simp only [List.length_set]; exact hl0) | (simp only [List.length_set]; done)); omega), Nat.add_sub_cancel' (by have h1 := (chk_some hu14); have h2 : y5.length = a0.length := (by first | exact hl0 | (simp only [List.length_set]; exact hl0) | (simp only [List.length_set]; done)); omega), (show y5.length = a0.length from (by first | exact hl0 | (simp only [List.length_set]; exact hl0) | (simp only [List.length_set]; done)))]) ?_
 refine OJ.as (t := 54) rfl (show _ = (.slice Aa0 (y5.take y6.toNat ++ List.replicate (y5.length - y6.toNat) (⟨0, 0⟩ : Spot)).length ca0 : Value) by rw [List.length_append, List.length_take, List.length_replicate, Nat.min_eq_left (by have h1 := (chk_some hu14); have h2 : y5.length = a0.length := (by first | exact hl0 | (simp only [List.length_set]; exact hl0) | (simp only [List.length_set]; done)); omega), Nat.add_sub_cancel' (by have h1 := (chk_some hu14); have h2 : y5.length = a0.length := (by first | exact hl0 | (simp only [List.length_set]; exact hl0) | (simp only [List.length_set]; done)); omega), (show y5.length = a0.length from (by first | exact hl0 | (simp only [List.length_set]; exact hl0) | (simp only [List.length_set]; done)))]) ?_
 refine GO ?_
 obtain ⟨u15, hu15, H⟩ := pbind H
 refine OJ.st rfl rfl rfl (SR.cut0 oU oI rfl rfl rfl rfl rfl (by have := (chk_some hu15); omega) (by have := (chk_some hu15); have := (hS.le (i := 0) rfl : (y5.take y6.toNat ++ List.replicate (y5.length - y6.toNat) (⟨0, 0⟩ : Spot)).length ≤ ca0); omega)) ?_
 replace hS := hS.shrink (i := 0) (m := y6.toNat) rfl (by have := (chk_some hu15); omega)
 refine OJ.as (t := 59) rfl (show _ = (.slice Aa0 ((y5.take y6.toNat ++ List.replicate (y5.length - y6.toNat) (⟨0, 0⟩ : Spot)).take y6.toNat).length ca0 : Value) by rw [List.length_take, Nat.min_eq_left (by have := (chk_some hu15); omega)]) ?_
 refine GO ?_
 obtain rfl := Option.some.inj H; have H := K120
 obtain rfl := Option.some.inj H; have H := K113
 obtain rfl := Option.some.inj H
 exact FT ⟨Aa0, ca0, Z, hS.pick [0] [] Z⟩
 refine GO ?_
 exact MT ⟨H.symm, rfl, hS.pick [0] [] rfl, (by first | exact hl0 | (simp only [List.length_set]; exact hl0) | (simp only [List.length_set]; done))⟩
 rintro F w1 ⟨he, rfl, hS, hl0⟩
 obtain rfl := Option.some.inj he
 have H := K120
 refine GO ?_
 exact RD ⟨(IntKind.i64.wrap (y1 + 1)), rfl, hS.pick [0] [] rfl, (by first | exact hl0 | (simp only [List.length_set]; exact hl0) | (simp only [List.length_set]; done)), H⟩
 refine GO ?_
 exact MT ⟨H.symm, rfl, hS.pick [0] [] rfl, (by first | exact hl0 | (simp only [List.length_set]; exact hl0) | (simp only [List.length_set]; done))⟩
 rintro F w1 ⟨he, rfl, hS, hl0⟩
 obtain rfl := Option.some.inj he
 have H := K113
 refine EJ.next ?_
 refine GO ?_
 obtain rfl := Option.some.inj H
 exact FT ⟨Aa0, ca0, Z, hS.pick [0] [] Z⟩

def q2g.f (k : Nat) (a0 : List Spot) : Option (List Spot) := (q0e.f a0).bind fun t1 => (q16.f t1 q0z.f).bind fun t4 => (q02.f k t4).bind fun t5 => some t5
theorem q2g.c {k w Aa0 ca0} {a0 : List Spot} (hr0 : Rd cSpot w Aa0 a0) (hc0 : a0.length ≤ ca0) (r : List Spot) (H : q2g.f k a0 = some r) :
 CV Tryz.prog 36 [sl Aa0 a0 ca0].toArray w fun v w' => ∃ (A0 : Option Addr) (c0 : Nat), v = .slice A0 r.length c0 ∧ St w no w' [rowC cSpot A0 c0 55 r] [] := by
 have hS := ((St.init w no).param cSpot Aa0 ca0 a0 hr0 hc0)
 unfold q2g.f at H
 refine CV.body Tryz.func36 Z Tryz.ntmps36 Z ?_
 refine GO ?_
 obtain ⟨t1, ht1, H⟩ := pbind H
 refine OC hb84 (q0e.c Aa0 ca0 (rA hS 0 Z) (rB hS 0 Z) _ ht1) ?_
 rintro _ w1 ⟨A2, c3, rfl, hs⟩
 replace hS := hS.addN hs
 refine GO ?_
 obtain ⟨t4, ht4, H⟩ := pbind H
 refine OC hb87 (q16.c 88 #[] #[] hb88 q0z.f (fun z0 z1 r h w' hx => CV.cast (q0z.c z0 z1 r h) (by simp)) ((hS.subs [0] [] [] rfl).pick [0] [] rfl) _ ht4) ?_
 rintro _ w1 ⟨rfl, hs, hlc0⟩
 replace hS := hS.back [0] Z Z [rowC cSpot A2 c3 55 t4] [] hs ⟨fun _ => Iff.rfl, trivial⟩
 refine OJ.as (t := 5) rfl (show _ = (.slice A2 t4.length c3 : Value) by simp only [hlc0]) ?_
 refine OJ.as (t := 3) rfl (show _ = (.slice A2 t4.length c3 : Value) by simp only [hlc0]) ?_
 refine OJ.as (t := 6) rfl (show _ = (.slice A2 t4.length c3 : Value) by simp only [hlc0]) ?_
 refine GO ?_
 obtain ⟨t5, ht5, H⟩ := pbind H
 refine OC hb89 (q02.c ((hS.subs [0] [] [] Z).pick [0] [] Z) _ ht5) ?_
 rintro _ w1 ⟨A6, c7, rfl, hs⟩
 replace hS := hS.back' [] [0] rfl rfl [] [rowC cSpot A6 c7 55 t5] [] hs trivial (fun _ h => by cases h) (.inr rfl)
 refine GO ?_
 obtain rfl := Option.some.inj H
 exact FT ⟨A6, c7, Z, hS.pick [1] [] Z⟩

def q0a.l2 (a0 : Pasture) (a1 : List Spot) (t16 : Spot) : Nat → (List Hurdle) → Int → Option (List Hurdle)
  | 0, _, _ => none
  | k + 1, y21, y24 => if y24 < 4 then ((q0u.f t16 y24).bind fun t25 => ((q0m.f a0 t25).bind fun t28 => if t28 = true then ((q09.f k a1 t25).bind fun t29 => some (!t29)) else (some false)).bind fun y27 => if y27 = true then ((q1j.f t16 y24).bind fun t30 => (chk (y21.length + ([t30] : List Hurdle).length ≤ 4294967296)).bind fun u32 => q0a.l2 a0 a1 t16 k (y21 ++ ([t30] : List Hurdle)) (IntKind.i64.wrap (y24 + 1))) else (q0a.l2 a0 a1 t16 k y21 (IntKind.i64.wrap (y24 + 1)))) else (some y21)
def q0a.l1 (a0 : Pasture) (a1 : List Spot) (t3 : List Spot) : Nat → (List Hurdle) → Int → Option (List Hurdle)
  | 0, _, _ => none
  | k + 1, y9, y12 => if y12 < (t3.length : Int) then (((getI t3 y12).bind fun t16 => (q0a.l2 a0 a1 t16 k y9 0).bind fun y18 => some y18).bind fun y13 => q0a.l1 a0 a1 t3 k y13 (IntKind.i64.wrap (y12 + 1))) else (some y9)
def q0a.f (k : Nat) (a0 : Pasture) (a1 : List Spot) : Option (List Hurdle) := (q2g.f k a1).bind fun t3 => (q0a.l1 a0 a1 t3 k ([] : List Hurdle) 0).bind fun y6 => some y6
theorem q0a.c {k w} (a0 : Pasture) {Aa1 ca1} {a1 : List Spot} (hr1 : Rd cSpot w Aa1 a1) (hc1 : a1.length ≤ ca1) (r : List Hurdle) (H : q0a.f k a0 a1 = some r) :
 CV Tryz.prog 72 [.agg (cPasture.enc a0).toArray, sl Aa1 a1 ca1].toArray w fun v w' => ∃ (A0 : Option Addr) (c0 : Nat), v = .slice A0 r.length c0 ∧ St w no w' [rowC cHurdle A0 c0 58 r] [] := by
 have hS := ((St.init w no).param cSpot Aa1 ca1 a1 hr1 hc1)
 unfold q0a.f at H
 refine CV.body Tryz.func72 Z Tryz.ntmps72 Z ?_
 refine GO ?_
 refine oX hS (cPasture.enc a0) fun b1 w1 hS => ?_
 refine OF (EL hS cHurdle ([] : List Hurdle)) ?_
 rintro _ w1 ⟨A2, rfl, hS⟩
 refine GO ?_
 obtain ⟨t3, ht3, H⟩ := pbind H
 refine OC hb36 (q2g.c (rA hS 0 Z) (rB hS 0 Z) _ ht3) ?_
 rintro _ w1 ⟨A4, c5, rfl, hs⟩
 replace hS := hS.addN hs
 refine GO ?_
 obtain ⟨j123, H, K123⟩ := pbind H
 refine CJ.cut1 (fun F w1 => ∃ y6 A7 c8, some y6 = some j123 ∧ F = [(5, sl A7 y6 c8)] ∧ St w no w1 [rowC cHurdle A7 c8 58 y6] [roC cSpot Aa1 ca1 a1]) ?_ ?_
 refine CJ.block ?_
 refine LQ (fun k F w1 => ∃ (y9 : List Hurdle) (y12 : Int) (A10 c11 : _), F = [(1, sl Aa1 a1 ca1), (2, pt b1), (5, sl A10 y9 c11), (12, sl A4 t3 c5), (13, i6 (t3.length : Int)), (14, i6 y12)] ∧ St w no w1 [box b1 (cPasture.enc a0) 31, rowC cHurdle A10 c11 58 y9, rowC cSpot A4 c5 55 t3] [roC cSpot Aa1 ca1 a1] ∧ q0a.l1 a0 a1 t3 k y9 y12 = some j123) k H hS ?_
 rintro k F w1 ⟨y9, y12, A10, c11, rfl, hS, H⟩
 rw [q0a.l1] at H
 refine GO ?_
 refine CP H (fun H => ?_) (fun H => ?_)
 refine CJ.skip (EJ.next ?_)
 obtain ⟨j142, H, K142⟩ := pbind H
 refine CJ.cut (fun F w1 => ∃ y13 A14 c15, some y13 = some j142 ∧ F = [(1, sl Aa1 a1 ca1), (2, pt b1), (5, sl A14 y13 c15), (12, sl A4 t3 c5), (13, i6 (t3.length : Int)), (14, i6 y12)] ∧ St w no w1 [box b1 (cPasture.enc a0) 31, rowC cHurdle A14 c15 58 y13, rowC cSpot A4 c5 55 t3] [roC cSpot Aa1 ca1 a1]) ?_ ?_
 refine CJ.block ?_
 refine GO ?_
 obtain ⟨t16, ht16, H⟩ := pbind H
 obtain ⟨ad16, e16⟩ := (rC hS 2 Z).some' ht16
 refine OS (SI e16 (getI_some ht16).1) ?_
 refine OS (SE ((rC hS 2 Z).at_ e16 ht16)) ?_
 refine OF (EA hS (cSpot.enc (⟨0, 0⟩ : Spot))) ?_
 rintro _ w1 ⟨b17, rfl, hS⟩
 refine OJ.es Z Z (eS cSpot t16 hS (i := 3) Z Z Z Z Z Z Z Z Z Z) ?_
 intro w1 hS
 refine GO ?_
 obtain ⟨j147, H, K147⟩ := pbind H
 refine CJ.cut1 (fun F w1 => ∃ y18 A19 c20, some y18 = some j147 ∧ F = [(1, sl Aa1 a1 ca1), (2, pt b1), (5, sl A19 y18 c20), (12, sl A4 t3 c5), (13, i6 (t3.length : Int)), (14, i6 y12)] ∧ St w no w1 [box b1 (cPasture.enc a0) 31, rowC cHurdle A19 c20 58 y18, rowC cSpot A4 c5 55 t3] [roC cSpot Aa1 ca1 a1]) ?_ ?_
 refine CJ.block ?_
 refine LQ (fun k F w1 => ∃ (y21 : List Hurdle) (y24 : Int) (A22 c23 : _), F = [(1, sl Aa1 a1 ca1), (2, pt b1), (5, sl A22 y21 c23), (7, pt b17), (12, sl A4 t3 c5), (13, i6 (t3.length : Int)), (14, i6 y12), (18, i6 y24)] ∧ St w no w1 [box b1 (cPasture.enc a0) 31, rowC cHurdle A22 c23 58 y21, rowC cSpot A4 c5 55 t3, box b17 (cSpot.enc t16) 55] [roC cSpot Aa1 ca1 a1] ∧ q0a.l2 a0 a1 t16 k y21 y24 = some j147) k H hS ?_
 rintro k F w1 ⟨y21, y24, A22, c23, rfl, hS, H⟩
 rw [q0a.l2] at H
 refine GO ?_
 refine CP H (fun H => GO ?_) (fun H => ?_)
 refine CJ.block ?_
 refine GO ?_
 refine oS (SE (ce hS 3)) ?_
 refine OB H hS hb85 (q0u.c t16) fun t25 w1 H hS => ?_
 refine OF (EA hS (cSpot.enc (⟨0, 0⟩ : Spot))) ?_
 rintro _ w1 ⟨b26, rfl, hS⟩
 refine OJ.es Z Z (eS cSpot t25 hS (i := 4) Z Z Z Z Z Z Z Z Z Z) ?_
 intro w1 hS
 refine NX ?_
 obtain ⟨j150, H, K150⟩ := pbind H
 refine CJ.cut (fun F w1 => ∃ y27, some y27 = some j150 ∧ F = [(1, sl Aa1 a1 ca1), (2, pt b1), (5, sl A22 y21 c23), (7, pt b17), (8, i6 y24), (12, sl A4 t3 c5), (13, i6 (t3.length : Int)), (14, i6 y12), (18, i6 y24), (32, .bool y27)] ∧ St w no w1 [box b1 (cPasture.enc a0) 31, rowC cHurdle A22 c23 58 y21, rowC cSpot A4 c5 55 t3, box b17 (cSpot.enc t16) 55] [roC cSpot Aa1 ca1 a1]) ?_ ?_
 refine GO ?_
 refine OS (SE (ce hS 0)) ?_
 refine OS (SE (ce hS 4)) ?_
 refine oB H hS hb99 (q0m.c a0 t25) fun t28 w1 H hS => ?_
 refine OJ.split (t := 27) Z (fun hb => ?_) (fun hb => ?_)
 replace H := pif_t hb H
 refine GO ?_
 refine OS (SE (ce hS 4)) ?_
 refine OB H hS hb54 (q09.c (rA hS 0 Z) (rB hS 0 Z) t25) fun t29 w1 H hS => ?_
 exact MD H hS
 replace H := pifb_f hb H
 exact MD H hS
 rintro F w1 ⟨y27, he, rfl, hS⟩
 obtain rfl := Option.some.inj he
 have H := K150
 refine CB H (fun H => GO ?_) (fun H => ?_)
 refine oS (SE (ce hS 3)) ?_
 refine OB H hS hb94 (q1j.c t16) fun t30 w1 H hS => ?_
 refine OF (EL hS cHurdle ([t30] : List Hurdle)) ?_
 rintro _ w1 ⟨A31, rfl, hS⟩
 obtain ⟨u32, hu32, H⟩ := pbind H
 refine OW (AP hS 1 (rC hS 4 Z) (chk_some hu32)) ?_
 rintro _ w1 ⟨A33, c34, rfl, hS⟩
 exact MD H hS
 exact MD H hS
 exact MD H hS
 rintro F w1 ⟨y18, A19, c20, he, rfl, hS⟩
 obtain rfl := Option.some.inj he
 have H := K147
 refine EJ.blk (?_)
 exact MD H hS
 rintro F w1 ⟨y13, A14, c15, he, rfl, hS⟩
 obtain rfl := Option.some.inj he
 have H := K142
 exact MD H hS
 exact MD H hS
 rintro F w1 ⟨y6, A7, c8, he, rfl, hS⟩
 obtain rfl := Option.some.inj he
 have H := K123
 refine EJ.next ?_
 refine GO ?_
 obtain rfl := Option.some.inj H
 exact FT ⟨A7, c8, Z, hS.pick [0] [] Z⟩

def q05.l1 (a0 : List Hurdle) (a1 : Hurdle → Option Bool) : Nat → Int → Option (Int ⊕ Unit)
  | 0, _ => none
  | k + 1, y1 => if y1 < (a0.length : Int) then ((getI a0 y1).bind fun t2 => (a1 t2).bind fun t3 => if t3 = true then (some (Sum.inl y1)) else (q05.l1 a0 a1 k (IntKind.i64.wrap (y1 + 1)))) else (some (Sum.inr ()))
def q05.f (k : Nat) (a0 : List Hurdle) (a1 : Hurdle → Option Bool) : Option Int := (q05.l1 a0 a1 k 0).bind fun s151 => match s151 with | .inl r => some r | .inr _ => some (-1)
theorem q05.c {k w Aa0 ca0} {a0 : List Hurdle} (hr0 : Rd cHurdle w Aa0 a0) (hc0 : a0.length ≤ ca0) (na1 : Nat) (fsa1 : Array Value) (capa1 : Array Value) (hb1 : hasBody Tryz.prog na1) (a1 : Hurdle → Option Bool) (hf1 : ∀ (z0 : Hurdle) (r : Bool), a1 z0 = some r → ∀ w', Chg no w w' → CV Tryz.prog na1 (fsa1 ++ [.agg (cHurdle.enc z0).toArray].toArray ++ capa1) w' fun v w'' => v = .bool r ∧ Ext w' w'') (r : Int) (H : q05.f k a0 a1 = some r) :
 CV Tryz.prog 109 [sl Aa0 a0 ca0, .func (.func na1) fsa1 capa1].toArray w fun v w' => v = .int .i64 r ∧ Ext w w' := by
 have hS := ((St.init w no).param cHurdle Aa0 ca0 a0 hr0 hc0)
 unfold q05.f at H
 refine CV.body Tryz.func109 Z Tryz.ntmps109 Z ?_
 refine GO ?_
 obtain ⟨j151, H, K151⟩ := pbind H
 refine CJ.cut1 (fun F w1 => some j151 = some (Sum.inr ()) ∧ F = [] ∧ St w no w1 [] [roC cHurdle Aa0 ca0 a0]) ?_ ?_
 refine CJ.block ?_
 refine LQ (fun k F w1 => ∃ (y1 : Int), F = [(0, sl Aa0 a0 ca0), (1, .func (.func na1) fsa1 capa1), (7, i6 (a0.length : Int)), (8, i6 y1)] ∧ St w no w1 [] [roC cHurdle Aa0 ca0 a0] ∧ q05.l1 a0 a1 k y1 = some j151) k H hS ?_
 rintro k F w1 ⟨y1, rfl, hS, H⟩
 rw [q05.l1] at H
 refine GO ?_
 refine CP H (fun H => GO ?_) (fun H => ?_)
 refine CJ.block ?_
 refine GO ?_
 obtain ⟨t2, ht2, H⟩ := pbind H
 obtain ⟨ad2, e2⟩ := (rA hS 0 Z).some' ht2
 refine OS (SI e2 (getI_some ht2).1) ?_
 refine OS (SE ((rA hS 0 Z).at_ e2 ht2)) ?_
 obtain ⟨t3, ht3, H⟩ := pbind H
 refine OJ.call Z Z (Nat.le_of_ble_eq_true Z) Z Z Z hb1 Z (hf1 t2 _ ht3 _ hS.chg) ?_
 rintro _ w1 ⟨rfl, hs⟩
 replace hS := hS.grow hs
 refine GO ?_
 refine CB H (fun H => GO ?_) (fun H => ?_)
 obtain rfl := Option.some.inj H; have H := K151
 exact FE H hS
 exact MD H hS
 exact MD H hS
 rintro F w1 ⟨⟨⟩, rfl, hS⟩
 have H := K151
 refine EJ.next ?_
 exact FE H hS

def q06.l1 (a1 : Hurdle → Option Bool) : Nat → (List Hurdle) → Int → Int → Option ((List Hurdle) × Int)
  | 0, _, _, _ => none
  | k + 1, y4, y5, y6 => if y6 < (y4.length : Int) then ((getI y4 y6).bind fun t7 => (a1 t7).bind fun t9 => if (!t9) = true then ((getI y4 y5).bind fun t10 => q06.l1 a1 k (y4.set y5.toNat t7) (IntKind.i64.wrap (y5 + 1)) (IntKind.i64.wrap (y6 + 1))) else (q06.l1 a1 k y4 y5 (IntKind.i64.wrap (y6 + 1)))) else (some (y4, y5))
def q06.f (k : Nat) (a0 : List Hurdle) (a1 : Hurdle → Option Bool) : Option (List Hurdle) := (q05.f k a0 a1).bind fun t1 => if t1 = (-1) then (some a0) else ((q06.l1 a1 k a0 t1 (IntKind.i64.wrap (t1 + 1))).bind fun (y2, y3) => (chk ((0 : Int) ≤ y3 ∧ y3 ≤ (y2.length : Int) ∧ (y2.length : Int) ≤ (y2.length : Int))).bind fun u11 => (chk ((0 : Int) ≤ 0 ∧ 0 ≤ y3 ∧ y3 ≤ ((y2.take y3.toNat ++ List.replicate (y2.length - y3.toNat) (⟨(⟨0, 0⟩ : Spot), false⟩ : Hurdle)).length : Int))).bind fun u12 => some ((y2.take y3.toNat ++ List.replicate (y2.length - y3.toNat) (⟨(⟨0, 0⟩ : Spot), false⟩ : Hurdle)).take y3.toNat))
theorem q06.c {k w Aa0 ca0} {a0 : List Hurdle} (na1 : Nat) (fsa1 : Array Value) (capa1 : Array Value) (hb1 : hasBody Tryz.prog na1) (a1 : Hurdle → Option Bool) (hf1 : ∀ (z0 : Hurdle) (r : Bool), a1 z0 = some r → ∀ w', Chg (fpU [rowC cHurdle Aa0 ca0 58 a0]) w w' → CV Tryz.prog na1 (fsa1 ++ [.agg (cHurdle.enc z0).toArray].toArray ++ capa1) w' fun v w'' => v = .bool r ∧ Ext w' w'') (hin : St w (fpU [rowC cHurdle Aa0 ca0 58 a0]) w [rowC cHurdle Aa0 ca0 58 a0] []) (r : List Hurdle) (H : q06.f k a0 a1 = some r) :
 CV Tryz.prog 71 [sl Aa0 a0 ca0, .func (.func na1) fsa1 capa1].toArray w fun v w' => ∃ (A0 : Option Addr) (c0 : Nat), v = .slice A0 r.length c0 ∧ St w (fpU [rowC cHurdle Aa0 ca0 58 a0]) w' [rowC cHurdle A0 c0 58 r] [] := by
 have hS := hin
 unfold q06.f at H
 refine CV.body Tryz.func71 Z Tryz.ntmps71 Z ?_
 refine GO ?_
 refine oB H hS hb109 (q05.c (rC hS 0 Z) (rD hS 0 Z) na1 fsa1 capa1 hb1 a1 (fun z0 r h w' hx => hf1 z0 r h w' (hS.chg.then hx (fun _ _ e => e.elim)))) fun t1 w1 H hS => ?_
 refine CP H (fun H => GO ?_) (fun H => ?_)
 obtain rfl := Option.some.inj H
 exact FT ⟨Aa0, ca0, Z, hS.pick [0] [] Z⟩
 refine GO ?_
 obtain ⟨j152, H, K152⟩ := pbind H
 refine CJ.cut1 (fun F w1 => ∃ y2 y3, some j152 = some (y2, y3) ∧ F = [(0, sl Aa0 y2 ca0), (5, i6 y3)] ∧ St w (fpU [rowC cHurdle Aa0 ca0 58 a0]) w1 [rowC cHurdle Aa0 ca0 58 y2] []) ?_ ?_
 refine CJ.block ?_
 refine LQ (fun k F w1 => ∃ (y4 : List Hurdle) (y5 : Int) (y6 : Int), F = [(0, sl Aa0 y4 ca0), (1, .func (.func na1) fsa1 capa1), (5, i6 y5), (6, i6 y6)] ∧ St w (fpU [rowC cHurdle Aa0 ca0 58 a0]) w1 [rowC cHurdle Aa0 ca0 58 y4] [] ∧ q06.l1 a1 k y4 y5 y6 = some j152) k H hS ?_
 rintro k F w1 ⟨y4, y5, y6, rfl, hS, H⟩
 rw [q06.l1] at H
 refine GO ?_
 refine CP H (fun H => GO ?_) (fun H => ?_)
 refine CJ.block ?_
 refine GO ?_
 obtain ⟨t7, ht7, H⟩ := pbind H
 obtain ⟨ad7, e7⟩ := (rC hS 0 Z).some' ht7
 refine OS (SI e7 (getI_some ht7).1) ?_
 refine OS (SE ((rC hS 0 Z).at_ e7 ht7)) ?_
 refine OF (EA hS (cHurdle.enc (⟨(⟨0, 0⟩ : Spot), false⟩ : Hurdle))) ?_
 rintro _ w1 ⟨b8, rfl, hS⟩
 refine OJ.es Z Z (eS cHurdle t7 hS (i := 1) Z Z Z Z Z Z Z Z Z Z) ?_
 intro w1 hS
 refine GO ?_
 refine OS (SE (ce hS 1)) ?_
 obtain ⟨t9, ht9, H⟩ := pbind H
 refine OJ.call Z Z (Nat.le_of_ble_eq_true Z) Z Z Z hb1 Z (hf1 t7 _ ht9 _ hS.chg) ?_
 rintro _ w1 ⟨rfl, hs⟩
 replace hS := hS.grow hs
 refine GO ?_
 refine CB H (fun H => GO ?_) (fun H => ?_)
 refine OS (SE (ce hS 1)) ?_
 obtain ⟨t10, ht10, H⟩ := pbind H
 obtain ⟨ad10, e10⟩ := (rC hS 0 Z).some' ht10
 refine OS (SI e10 (getI_some ht10).1) ?_
 refine OJ.es Z Z (Es.storeR oI hS (i := 0) (off := 0) Z Z ht10 e10 Z Z Z Z (vs := cHurdle.enc t7) Z (cHurdle.len _) (cHurdle.one _) (Nat.le_of_ble_eq_true Z) t7 Z) ?_
 intro w1 hS
 refine OJ.as (t := 0) rfl (show _ = (.slice Aa0 (y4.set y5.toNat t7).length ca0 : Value) by simp only [List.length_set]) ?_
 refine OJ.as (t := 17) rfl (show _ = (.slice Aa0 (y4.set y5.toNat t7).length ca0 : Value) by simp only [List.length_set]) ?_
 refine OJ.as (t := 22) rfl (show _ = (.slice Aa0 (y4.set y5.toNat t7).length ca0 : Value) by simp only [List.length_set]) ?_
 refine OJ.as (t := 30) rfl (show _ = (.slice Aa0 (y4.set y5.toNat t7).length ca0 : Value) by simp only [List.length_set]) ?_
 exact MD H hS
 exact MD H hS
 exact MD H hS
 rintro F w1 ⟨y2, y3, ⟨⟩, rfl, hS⟩
 have H := K152
 refine EJ.next ?_
 refine GO ?_
 obtain ⟨u11, hu11, H⟩ := pbind H
 refine OJ.st rfl rfl rfl (SR.cutS oU oI (y3.toNat) (y2.length) rfl rfl rfl rfl rfl rfl (.inr ⟨_, _, rfl, (chk_some hu11).1, rfl⟩) (.inl ⟨rfl, rfl⟩) (by have := (chk_some hu11); omega) (by have := (chk_some hu11); have := (hS.le (i := 0) rfl : y2.length ≤ ca0); omega)) ?_
 refine OJ.ewn rfl rfl (Ew.clear oU oI (C := cHurdle) (lo := y3.toNat) hS (i := 0) rfl rfl rfl rfl rfl rfl rfl rfl rfl (⟨(⟨0, 0⟩ : Spot), false⟩ : Hurdle) rfl (by have := (chk_some hu11); omega) rfl) ?_
 rintro _ w1 ⟨rfl, hS⟩
 refine OJ.as (t := 0) rfl (show _ = (.slice Aa0 (y2.take y3.toNat ++ List.replicate (y2.length - y3.toNat) (⟨(⟨0, 0⟩ : Spot), false⟩ : Hurdle)).length ca0 : Value) by (rw [List.length_append, List.length_take, List.length_replicate, Nat.min_eq_left (by have := (chk_some hu11); omega), Nat.add_sub_cancel' (by have := (chk_some hu11); omega)])) ?_
 refine OJ.as (t := 36) rfl (show _ = (.slice Aa0 (y2.take y3.toNat ++ List.replicate (y2.length - y3.toNat) (⟨(⟨0, 0⟩ : Spot), false⟩ : Hurdle)).length ca0 : Value) by (rw [List.length_append, List.length_take, List.length_replicate, Nat.min_eq_left (by have := (chk_some hu11); omega), Nat.add_sub_cancel' (by have := (chk_some hu11); omega)])) ?_
 refine GO ?_
 obtain ⟨u12, hu12, H⟩ := pbind H
 refine OJ.st rfl rfl rfl (SR.cut0 oU oI rfl rfl rfl rfl rfl (by have := (chk_some hu12); omega) (by have := (chk_some hu12); have := (hS.le (i := 0) rfl : (y2.take y3.toNat ++ List.replicate (y2.length - y3.toNat) (⟨(⟨0, 0⟩ : Spot), false⟩ : Hurdle)).length ≤ ca0); omega)) ?_
 replace hS := hS.shrink (i := 0) (m := y3.toNat) rfl (by have := (chk_some hu12); omega)
 refine OJ.as (t := 41) rfl (show _ = (.slice Aa0 ((y2.take y3.toNat ++ List.replicate (y2.length - y3.toNat) (⟨(⟨0, 0⟩ : Spot), false⟩ : Hurdle)).take y3.toNat).length ca0 : Value) by rw [List.length_take, Nat.min_eq_left (by have := (chk_some hu12); omega)]) ?_
 refine GO ?_
 obtain rfl := Option.some.inj H
 exact FT ⟨Aa0, ca0, Z, hS.pick [0] [] Z⟩

def q18.f (a0 : List Hurdle) (a1 : Hurdle → Hurdle → Option Int) : Option (List Hurdle) := (chk (a0.length ≤ 4294967296 ∧ a0.all okHurdle = true)).bind fun _ => some (a0.mergeSort leHurdle)
theorem q18.c {w Aa0 ca0} {a0 : List Hurdle} (na1 : Nat) (fsa1 : Array Value) (capa1 : Array Value) (hb1 : hasBody Tryz.prog na1) (a1 : Hurdle → Hurdle → Option Int) (hf1 : ∀ (z0 : Hurdle) (z1 : Hurdle) (r : Int), a1 z0 z1 = some r → ∀ w', Chg (fpU [rowC cHurdle Aa0 ca0 58 a0]) w w' → CV Tryz.prog na1 (fsa1 ++ [.agg (cHurdle.enc z0).toArray, .agg (cHurdle.enc z1).toArray].toArray ++ capa1) w' fun v w'' => v = .int .i64 r ∧ Ext w' w'') (hin : St w (fpU [rowC cHurdle Aa0 ca0 58 a0]) w [rowC cHurdle Aa0 ca0 58 a0] []) (r : List Hurdle) (H : q18.f a0 a1 = some r) (hq : na1 = 75 ∧ fsa1 = #[] ∧ capa1 = #[] := by exact ⟨rfl, rfl, rfl⟩) :
    CV Tryz.prog 74 [sl Aa0 a0 ca0, .func (.func na1) fsa1 capa1].toArray w fun v w' => v = .tuple #[] ∧ St w (fpU [rowC cHurdle Aa0 ca0 58 a0]) w' [rowC cHurdle Aa0 ca0 58 r] [] ∧ r.length = a0.length := by
  unfold q18.f at H
  obtain ⟨u, hu, H⟩ := pbind H
  obtain rfl := Option.some.inj H
  obtain ⟨rfl, rfl, rfl⟩ := hq
  obtain ⟨h1, h2⟩ := chk_some hu
  exact sortf_cv (V := fun x => okHurdle x = true) leHurdle (fun x hx => List.all_eq_true.1 h2 x hx) hin sortHurdle_calls (fun p cap w => AnyF.slices_SortFunc_none laySortHurdle p cap _ w) h1

def q2w.f (a0 : Int) : Option Bool := some (decide (a0 ≠ a0))
theorem q2w.c {w} {a0 : Int} (r : Bool) (H : q2w.f a0 = some r) :
 CV Tryz.prog 151 [.int .i64 a0].toArray w fun v w' => v = .bool r ∧ Ext w w' := by
 have hS := (St.init w no)
 unfold q2w.f at H
 refine CV.body Tryz.func151 Z Tryz.ntmps151 Z ?_
 exact FE H hS

def q39.f (a0 : Int) (a1 : Int) : Option Int := (q2w.f a0).bind fun t1 => (q2w.f a1).bind fun t2 => if t1 = true then (if t2 = true then (some 0) else (some (-1))) else (if t2 = true then (some 1) else (if a0 < a1 then (some (-1)) else (if a1 < a0 then (some 1) else (some 0))))
theorem q39.c {w} {a0 : Int} {a1 : Int} (r : Int) (H : q39.f a0 a1 = some r) :
 CV Tryz.prog 122 [.int .i64 a0, i6 a1].toArray w fun v w' => v = .int .i64 r ∧ Ext w w' := by
 have hS := (St.init w no)
 unfold q39.f at H
 refine CV.body Tryz.func122 Z Tryz.ntmps122 Z ?_
 refine GO ?_
 refine oB H hS hb151 (q2w.c) fun t1 w1 H hS => ?_
 refine oB H hS hb151 (q2w.c) fun t2 w1 H hS => ?_
 refine CB H (fun H => GO ?_) (fun H => ?_)
 refine CB H (fun H => ?_) (fun H => ?_)
 exact FE H hS
 exact FE H hS
 refine GO ?_
 refine CB H (fun H => ?_) (fun H => ?_)
 exact FE H hS
 refine GO ?_
 refine CP H (fun H => ?_) (fun H => ?_)
 exact FE H hS
 refine GO ?_
 refine CP H (fun H => ?_) (fun H => ?_)
 exact FE H hS
 exact FE H hS

def q32.l1 (a0 : List Int) : Nat → Int → Option (Int ⊕ Unit)
  | 0, _ => none
  | k + 1, y1 => if y1 < (a0.length : Int) then ((getI a0 y1).bind fun t2 => if t2 ≠ 0 then (some (Sum.inl t2)) else (q32.l1 a0 k (IntKind.i64.wrap (y1 + 1)))) else (some (Sum.inr ()))
def q32.f (k : Nat) (a0 : List Int) : Option Int := (q32.l1 a0 k 0).bind fun s153 => match s153 with | .inl r => some r | .inr _ => some 0
theorem q32.c {k w Aa0 ca0} {a0 : List Int} (hr0 : Rd (ci .i64) w Aa0 a0) (hc0 : a0.length ≤ ca0) (r : Int) (H : q32.f k a0 = some r) :
 CV Tryz.prog 121 [sl Aa0 a0 ca0].toArray w fun v w' => v = .int .i64 r ∧ Ext w w' := by
 have hS := ((St.init w no).param (ci .i64) Aa0 ca0 a0 hr0 hc0)
 unfold q32.f at H
 refine CV.body Tryz.func121 Z Tryz.ntmps121 Z ?_
 refine GO ?_
 obtain ⟨j153, H, K153⟩ := pbind H
 refine CJ.cut1 (fun F w1 => some j153 = some (Sum.inr ()) ∧ F = [(3, i6 0)] ∧ St w no w1 [] [roC (ci .i64) Aa0 ca0 a0]) ?_ ?_
 refine CJ.block ?_
 refine LQ (fun k F w1 => ∃ (y1 : Int), F = [(3, i6 0), (6, sl Aa0 a0 ca0), (7, i6 (a0.length : Int)), (8, i6 y1)] ∧ St w no w1 [] [roC (ci .i64) Aa0 ca0 a0] ∧ q32.l1 a0 k y1 = some j153) k H hS ?_
 rintro k F w1 ⟨y1, rfl, hS, H⟩
 rw [q32.l1] at H
 refine GO ?_
 refine CP H (fun H => GO ?_) (fun H => ?_)
 refine CJ.block ?_
 refine GO ?_
 refine xI H (rA hS 0 Z) fun t2 ad2 ht2 H => ?_
 refine CP H (fun H => GO ?_) (fun H => ?_)
 obtain rfl := Option.some.inj H; have H := K153
 exact FE H hS
 exact MD H hS
 exact MD H hS
 rintro F w1 ⟨⟨⟩, rfl, hS⟩
 have H := K153
 refine EJ.next ?_
 exact FE H hS

def q2p.f (k : Nat) (a0 : Hurdle) (a1 : Hurdle) : Option Int := (q0z.f a0.At a1.At).bind fun t3 => (q35.f a0.South).bind fun t4 => (q35.f a1.South).bind fun t5 => (q39.f t4 t5).bind fun t6 => (q32.f k ([t3, t6] : List Int)).bind fun t8 => some t8
theorem q2p.c {k w} (a0 : Hurdle) (a1 : Hurdle) (r : Int) (H : q2p.f k a0 a1 = some r) :
 CV Tryz.prog 75 [.agg (cHurdle.enc a0).toArray, .agg (cHurdle.enc a1).toArray].toArray w fun v w' => v = .int .i64 r ∧ Ext w w' := by
 have hS := (St.init w no)
 unfold q2p.f at H
 refine CV.body Tryz.func75 Z Tryz.ntmps75 Z ?_
 refine GO ?_
 refine OF (EB hS (cHurdle.enc a0)) ?_
 rintro _ w1 ⟨b1, rfl, hS⟩
 refine oX hS (cHurdle.enc a1) fun b2 w1 hS => ?_
 refine CJ.draw [] [0, 1, 2, 3, 5, 6, 8, 9, 4, 7, 10, 11, 12, 13, 14] mixed (by kernel_rfl) hS fun w1 hS => ?_
 refine GO ?_
 refine DJ.st Z Z Z Z Z (SR.load Z Z (fun w' hx => ldN oU oI Z Z Z (CA.ext (CA.sub (hS.cells (i := 0) Z) 0) hx) (cSpot.len _) Z)) ?_
 refine GO ?_
 refine DJ.st Z Z Z Z Z (SR.load Z Z (fun w' hx => ldN oU oI Z Z Z (CA.ext (CA.sub (hS.cells (i := 1) Z) 0) hx) (cSpot.len _) Z)) ?_
 refine GO ?_
 refine dS (SL (cf hS 0 2)) ?_
 refine DS (SL (cf hS 1 2)) ?_
 obtain ⟨t3, ht3, H⟩ := pbind H
 refine DJ.callF rfl rfl rfl rfl rfl rfl rfl hb88 rfl (q0z.c a0.At a1.At _ ht3) (by rintro v w' ⟨rfl, hs⟩; exact hs) ?_
 rintro _ w1 ⟨rfl, hs⟩
 replace hS := hS.grow hs
 obtain ⟨t4, ht4, H⟩ := pbind H
 refine DJ.callF rfl rfl rfl rfl rfl rfl rfl hb115 rfl (q35.c _ ht4) (by rintro v w' ⟨rfl, hs⟩; exact hs) ?_
 rintro _ w1 ⟨rfl, hs⟩
 replace hS := hS.grow hs
 obtain ⟨t5, ht5, H⟩ := pbind H
 refine DJ.callF rfl rfl rfl rfl rfl rfl rfl hb115 rfl (q35.c _ ht5) (by rintro v w' ⟨rfl, hs⟩; exact hs) ?_
 rintro _ w1 ⟨rfl, hs⟩
 replace hS := hS.grow hs
 obtain ⟨t6, ht6, H⟩ := pbind H
 refine DJ.callF rfl rfl rfl rfl rfl rfl rfl hb122 rfl (q39.c _ ht6) (by rintro v w' ⟨rfl, hs⟩; exact hs) ?_
 rintro _ w1 ⟨rfl, hs⟩
 replace hS := hS.grow hs
 refine DF (EL hS (ci .i64) ([t3, t6] : List Int)) ?_
 rintro _ w1 ⟨A7, rfl, hS⟩
 obtain ⟨t8, ht8, H⟩ := pbind H
 refine DJ.callF rfl rfl rfl rfl rfl rfl rfl hb121 rfl (q32.c (rC hS 2 Z) (rD hS 2 Z) _ ht8) (by rintro v w' ⟨rfl, hs⟩; exact hs) ?_
 rintro _ w1 ⟨rfl, hs⟩
 replace hS := hS.grow hs
 exact FE H hS

def q1f.f (k : Nat) (a0 : Pasture) (a1 : List Spot) : Option (List Hurdle) := (q0a.f k a0 a1).bind fun t2 => (q06.f k t2 (q15.f a0)).bind fun t5 => (q18.f t5 (q2p.f k)).bind fun t8 => some t8
theorem q1f.c {k w} (a0 : Pasture) {Aa1 ca1} {a1 : List Spot} (hr1 : Rd cSpot w Aa1 a1) (hc1 : a1.length ≤ ca1) (r : List Hurdle) (H : q1f.f k a0 a1 = some r) :
 CV Tryz.prog 30 [.agg (cPasture.enc a0).toArray, sl Aa1 a1 ca1].toArray w fun v w' => ∃ (A0 : Option Addr) (c0 : Nat), v = .slice A0 r.length c0 ∧ St w no w' [rowC cHurdle A0 c0 58 r] [] := by
 have hS := ((St.init w no).param cSpot Aa1 ca1 a1 hr1 hc1)
 unfold q1f.f at H
 refine CV.body Tryz.func30 Z Tryz.ntmps30 Z ?_
 refine GO ?_
 refine oX hS (cPasture.enc a0) fun b1 w1 hS => ?_
 refine CJ.draw [5] [0, 1, 3, 4, 2, 5, 6] mixed (by kernel_rfl) hS fun w1 hS => ?_
 refine dS (SE (ce hS 0)) ?_
 refine dS (SE (ce hS 0)) ?_
 obtain ⟨t2, ht2, H⟩ := pbind H
 refine DJ.callF rfl rfl rfl rfl rfl rfl rfl hb72 rfl (q0a.c a0 (rA hS 0 Z) (rB hS 0 Z) _ ht2) (by rintro v w' ⟨A3, c4, rfl, hs⟩; exact hs.ext) ?_
 rintro _ w1 ⟨A3, c4, rfl, hs⟩
 replace hS := hS.addN hs
 obtain ⟨t5, ht5, H⟩ := pbind H
 refine DJ.callFw rfl rfl rfl rfl rfl rfl rfl hb71 rfl (q06.c 73 #[.agg (cPasture.enc a0).toArray] #[] hb73 (q15.f a0) (fun z0 r h w' hx => CV.cast (q15.c a0 z0 r h) (by simp)) ((hS.subs [1] [] [] rfl).pick [0] [] rfl) _ ht5) ?_
 rintro _ w1 ⟨A6, c7, rfl, hs⟩
 replace hS := hS.back' [] [1] rfl rfl [] [rowC cHurdle A6 c7 58 t5] [] hs trivial (fun _ h => by cases h) (.inr rfl)
 refine GO ?_
 obtain ⟨t8, ht8, H⟩ := pbind H
 refine OC hb74 (q18.c 75 #[] #[] hb75 (q2p.f k) (fun z0 z1 r h w' hx => CV.cast (q2p.c z0 z1 r h) (by simp)) ((hS.subs [2] [] [] rfl).pick [0] [] rfl) _ ht8) ?_
 rintro _ w1 ⟨rfl, hs, hlc0⟩
 replace hS := hS.back [2] Z Z [rowC cHurdle A6 c7 58 t8] [] hs ⟨fun _ => Iff.rfl, trivial⟩
 refine OJ.as (t := 11) rfl (show _ = (.slice A6 t8.length c7 : Value) by simp only [hlc0]) ?_
 refine OJ.as (t := 5) rfl (show _ = (.slice A6 t8.length c7 : Value) by simp only [hlc0]) ?_
 refine OJ.as (t := 12) rfl (show _ = (.slice A6 t8.length c7 : Value) by simp only [hlc0]) ?_
 refine GO ?_
 obtain rfl := Option.some.inj H
 exact FT ⟨A6, c7, Z, hS.pick [2] [] Z⟩

def q2r.f (k : Nat) (a0 : Pasture) (a1 : List Spot) (a2 : List Spot) : Option (List Hurdle × Int) := (q2j.f k a0 a1 a2).bind fun t2 => if t2 ≠ 0 then (some ([], t2)) else ((q08.f k a0 a1 a2).bind fun t3 => (q1f.f k a0 t3).bind fun t6 => some (t6, 0))
theorem q2r.c {k w} (a0 : Pasture) {Aa1 ca1} {a1 : List Spot} (hr1 : Rd cSpot w Aa1 a1) (hc1 : a1.length ≤ ca1) {Aa2 ca2} {a2 : List Spot} (hr2 : Rd cSpot w Aa2 a2) (hc2 : a2.length ≤ ca2) (r : List Hurdle × Int) (H : q2r.f k a0 a1 a2 = some r) :
 CV Tryz.prog 8 [.agg (cPasture.enc a0).toArray, sl Aa1 a1 ca1, sl Aa2 a2 ca2].toArray w fun v w' => ∃ (A0 : Option Addr) (c0 : Nat), v = .tuple #[sl A0 r.1 c0, i6 r.2] ∧ St w no w' [rowC cHurdle A0 c0 58 r.1] [] := by
 have hS := (((St.init w no).param cSpot Aa1 ca1 a1 hr1 hc1).param cSpot Aa2 ca2 a2 hr2 hc2)
 unfold q2r.f at H
 refine CV.body Tryz.func8 Z Tryz.ntmps8 Z ?_
 refine GO ?_
 refine oX hS (cPasture.enc a0) fun b1 w1 hS => ?_
 refine oS (SE (ce hS 0)) ?_
 refine oB H hS hb29 (q2j.c a0 (rA hS 0 Z) (rB hS 0 Z) (rA hS 1 Z) (rB hS 1 Z)) fun t2 w1 H hS => ?_
 refine CP H (fun H => GO ?_) (fun H => ?_)
 replace hS := hS.addNil cHurdle 58 none
 obtain rfl := Option.some.inj H
 exact EJ.fin Z (.tmp Z (.tmp Z .nil)) ⟨none, 0, Z, hS.pick [1] [] Z⟩
 refine GO ?_
 refine CJ.draw [] [0, 1, 2, 3, 4, 5, 6, 7] mixed (by kernel_rfl) hS fun w1 hS => ?_
 refine DS (SE (ce hS 0)) ?_
 refine dS (SE (ce hS 0)) ?_
 obtain ⟨t3, ht3, H⟩ := pbind H
 refine DJ.callF rfl rfl rfl rfl rfl rfl rfl hb31 rfl (q08.c a0 (rA hS 0 Z) (rB hS 0 Z) (rA hS 1 Z) (rB hS 1 Z) _ ht3) (by rintro v w' ⟨A4, c5, rfl, hs⟩; exact hs.ext) ?_
 rintro _ w1 ⟨A4, c5, rfl, hs⟩
 replace hS := hS.addN hs
 obtain ⟨t6, ht6, H⟩ := pbind H
 refine DJ.callF rfl rfl rfl rfl rfl rfl rfl hb30 rfl (q1f.c a0 (rC hS 1 Z) (rD hS 1 Z) _ ht6) (by rintro v w' ⟨A7, c8, rfl, hs⟩; exact hs.ext) ?_
 rintro _ w1 ⟨A7, c8, rfl, hs⟩
 replace hS := hS.addN hs
 refine GO ?_
 obtain rfl := Option.some.inj H
 exact EJ.fin Z (.tmp Z (.tmp Z .nil)) ⟨A7, c8, Z, hS.pick [2] [] Z⟩

def q3d.f (a0 : Int) : Option Bool := (q2c.f a0 0 1000).bind fun t1 => some t1
theorem q3d.c {w} {a0 : Int} (r : Bool) (H : q3d.f a0 = some r) :
 CV Tryz.prog 175 [.int .i64 a0].toArray w fun v w' => v = .bool r ∧ Ext w w' := by
 have hS := (St.init w no)
 unfold q3d.f at H
 refine CV.body Tryz.func175 Z Tryz.ntmps175 Z ?_
 refine GO ?_
 refine OB H hS hb117 (q2c.c) fun t1 w1 H hS => ?_
 exact FE H hS

def q13.l2 (a0 : Pasture) (y4 : Int) : Nat → Int → Option (((Bool ⊕ Unit) ⊕ Unit) ⊕ Unit)
  | 0, _ => none
  | k + 1, y5 => if y5 < 10 then ((getI a0.Grass.l y4).bind fun t6 => (getI t6.l y5).bind fun t7 => (q3d.f (IntKind.i64.wrap t7)).bind fun t8 => if (!t8) = true then (some (Sum.inl (Sum.inl (Sum.inl false)))) else (if 0 < (IntKind.i64.wrap t7) then ((q1g.f a0 (⟨y5, y4⟩ : Spot)).bind fun t9 => if (!t9) = true then (some (Sum.inl (Sum.inl (Sum.inl false)))) else (q13.l2 a0 y4 k (IntKind.i8.wrap (y5 + 1)))) else (q13.l2 a0 y4 k (IntKind.i8.wrap (y5 + 1))))) else (some (Sum.inr ()))
def q13.l1 (a0 : Pasture) : Nat → Int → Option (Bool ⊕ Unit)
  | 0, _ => none
  | k + 1, y4 => if y4 < 10 then (((q13.l2 a0 y4 k 0).bind fun s164 => match s164 with | .inl r => some r | .inr _ => (chk (0 ≤ (IntKind.u64.wrap a0.Wide))).bind fun u10 => if a0.High ≤ y4 then ((getI a0.East.l y4).bind fun t11 => if (andNotI .u16 t11 (shrI .u16 0 1)) ≠ 0 then (some (Sum.inl (Sum.inl false))) else (if (IntKind.i8.wrap (a0.High - 1)) ≤ y4 then ((getI a0.South.l y4).bind fun t12 => if (andNotI .u16 t12 0) ≠ 0 then (some (Sum.inl (Sum.inl false))) else (some (Sum.inr ()))) else ((getI a0.South.l y4).bind fun t13 => if (andNotI .u16 t13 0) ≠ 0 then (some (Sum.inl (Sum.inl false))) else (some (Sum.inr ()))))) else ((getI a0.East.l y4).bind fun t14 => if (andNotI .u16 t14 (shrI .u16 (IntKind.u16.wrap ((shlI .u16 1 (IntKind.u64.wrap a0.Wide)) - 1)) 1)) ≠ 0 then (some (Sum.inl (Sum.inl false))) else (if (IntKind.i8.wrap (a0.High - 1)) ≤ y4 then ((getI a0.South.l y4).bind fun t15 => if (andNotI .u16 t15 0) ≠ 0 then (some (Sum.inl (Sum.inl false))) else (some (Sum.inr ()))) else ((getI a0.South.l y4).bind fun t16 => if (andNotI .u16 t16 (IntKind.u16.wrap ((shlI .u16 1 (IntKind.u64.wrap a0.Wide)) - 1))) ≠ 0 then (some (Sum.inl (Sum.inl false))) else (some (Sum.inr ())))))).bind fun s162 => match s162 with | .inl r => some r | .inr _ => q13.l1 a0 k (IntKind.i8.wrap (y4 + 1))) else (some (Sum.inr ()))
def q13.f (k : Nat) (a0 : Pasture) : Option Bool := ((q2c.f (IntKind.i64.wrap a0.Wide) 1 10).bind fun t2 => if (!t2) = true then (some true) else ((q2c.f (IntKind.i64.wrap a0.High) 1 10).bind fun t3 => some (!t3))).bind fun y1 => if y1 = true then (some false) else ((q13.l1 a0 k 0).bind fun s155 => match s155 with | .inl r => some r | .inr _ => some true)
theorem q13.c {k w} (pa0 : Addr) (a0 : Pasture) (hp0 : CA w pa0 (cPasture.enc a0)) (r : Bool) (H : q13.f k a0 = some r) :
 CV Tryz.prog 152 [.pointer (some pa0)].toArray w fun v w' => v = .bool r ∧ Ext w w' := by
 have hS := ((St.init w no).paramP pa0 (cPasture.enc a0) hp0)
 unfold q13.f at H
 refine CV.body Tryz.func152 Z Tryz.ntmps152 Z ?_
 refine SG ?_
 refine PX 1 ?_
 refine CJ.seq ?_
 obtain ⟨j154, H, K154⟩ := pbind H
 refine CJ.cut (fun F w1 => ∃ y1, some y1 = some j154 ∧ F = [(0, .pointer (some pa0)), (22, .bool y1)] ∧ St w no w1 [] [roP pa0 (cPasture.enc a0)]) ?_ ?_
 refine GO ?_
 refine oS (SL (CA.fld (hS.ca (i := 0) Z) (mid_part (fe_Pasture_0 _) (fl_Pasture_0 _) ((ci .i8).len _)))) ?_
 refine oB H hS hb117 (q2c.c) fun t2 w1 H hS => ?_
 refine OJ.split (t := 14) Z (fun hb => ?_) (fun hb => ?_)
 replace H := pif_t hb H
 exact MD H hS
 replace H := pifb_f hb H
 refine GO ?_
 refine oS (SL (CA.fld (hS.ca (i := 0) Z) (mid_part (fe_Pasture_1 _) (fl_Pasture_1 _) ((ci .i8).len _)))) ?_
 refine OB H hS hb117 (q2c.c) fun t3 w1 H hS => ?_
 exact MD H hS
 rintro F w1 ⟨y1, he, rfl, hS⟩
 obtain rfl := Option.some.inj he
 have H := K154
 refine CB H (fun H => ?_) (fun H => ?_)
 exact FE H hS
 refine GO ?_
 obtain ⟨j155, H, K155⟩ := pbind H
 refine CJ.cut1 (fun F w1 => some j155 = some (Sum.inr ()) ∧ F = [] ∧ St w no w1 [] [roP pa0 (cPasture.enc a0)]) ?_ ?_
 refine CJ.block ?_
 refine LQ (fun k F w1 => ∃ (y4 : Int), F = [(0, .pointer (some pa0)), (3, .int .i8 y4)] ∧ St w no w1 [] [roP pa0 (cPasture.enc a0)] ∧ q13.l1 a0 k y4 = some j155) k H hS ?_
 rintro k F w1 ⟨y4, rfl, hS, H⟩
 rw [q13.l1] at H
 refine GO ?_
 refine CP H (fun H => ?_) (fun H => ?_)
 refine CJ.skip (EJ.next ?_)
 obtain ⟨j162, H, K162⟩ := pbind H
 refine CJ.cut (fun F w1 => some j162 = some (Sum.inr ()) ∧ F = [(0, .pointer (some pa0)), (3, .int .i8 y4)] ∧ St w no w1 [] [roP pa0 (cPasture.enc a0)]) ?_ ?_
 refine CJ.block ?_
 refine GO ?_
 obtain ⟨j164, H, K164⟩ := pbind H
 refine CJ.cut1 (fun F w1 => some j164 = some (Sum.inr ()) ∧ F = [(0, .pointer (some pa0)), (3, .int .i8 y4)] ∧ St w no w1 [] [roP pa0 (cPasture.enc a0)]) ?_ ?_
 refine CJ.block ?_
 refine LQ (fun k F w1 => ∃ (y5 : Int), F = [(0, .pointer (some pa0)), (3, .int .i8 y4), (4, .int .i8 y5)] ∧ St w no w1 [] [roP pa0 (cPasture.enc a0)] ∧ q13.l2 a0 y4 k y5 = some j164) k H hS ?_
 rintro k F w1 ⟨y5, rfl, hS, H⟩
 rw [q13.l2] at H
 refine GO ?_
 refine CP H (fun H => GO ?_) (fun H => ?_)
 refine CJ.block ?_
 refine GO ?_
 obtain ⟨t6, ht6, H⟩ := pbind H
 refine OJ.st Z Z Z (SR.idxA oU oI Z Z Z Z Z (Arr.lt ht6)) ?_
 obtain ⟨t7, ht7, H⟩ := pbind H
 refine OJ.st Z Z Z (SR.idxA oU oI Z Z Z Z Z (Arr.lt ht7)) ?_
 refine oS (SL (CA.idx (CA.idx (CA.fld (hS.ca (i := 0) Z) (mid_part (fe_Pasture_2 _) (fl_Pasture_2 _) ((carr 10 (carr 10 (ci .i16))).len _))) ht6) ht7)) ?_
 refine oB H hS hb175 (q3d.c) fun t8 w1 H hS => ?_
 refine OJ.split (t := 43) Z (fun hb => ?_) (fun hb => ?_)
 replace H := pif_t hb H
 refine GO ?_
 refine CJ.condT Z ?_
 refine GO ?_
 obtain rfl := Option.some.inj H; have H := K164
 obtain rfl := Option.some.inj H; have H := K162
 obtain rfl := Option.some.inj H; have H := K155
 exact FE H hS
 replace H := pifb_f hb H
 refine GO ?_
 refine OJ.split (t := 46) Z (fun hb => ?_) (fun hb => ?_)
 replace H := pif_t (of_decide_eq_true hb) H
 refine GO ?_
 refine OJ.st Z Z Z (SR.build (C := cSpot) oU oI Z Z Z (zs := [.int .i8 0, .int .i8 0]) Z Z Z (⟨y5, y4⟩ : Spot) Z) ?_
 refine oB H hS hb66 (q1g.c _ a0 (hS.ca (i := 0) Z) (⟨y5, y4⟩ : Spot)) fun t9 w1 H hS => ?_
 refine CB H (fun H => GO ?_) (fun H => ?_)
 obtain rfl := Option.some.inj H; have H := K164
 obtain rfl := Option.some.inj H; have H := K162
 obtain rfl := Option.some.inj H; have H := K155
 exact FE H hS
 exact MD H hS
 replace H := pif_f (of_decide_eq_false hb) H
 refine GO ?_
 refine CJ.condF Z ?_
 exact MD H hS
 exact MD H hS
 rintro F w1 ⟨⟨⟩, rfl, hS⟩
 have H := K164
 refine EJ.next ?_
 refine GO ?_
 refine oS (SL (CA.fld (hS.ca (i := 0) Z) (mid_part (fe_Pasture_0 _) (fl_Pasture_0 _) ((ci .i8).len _)))) ?_
 obtain ⟨u10, hu10, H⟩ := pbind H
 refine OJ.st Z Z Z (SR.shl Z Z Z (chk_some hu10)) ?_
 refine GO ?_
 refine oS (SL (CA.fld (hS.ca (i := 0) Z) (mid_part (fe_Pasture_1 _) (fl_Pasture_1 _) ((ci .i8).len _)))) ?_
 refine CP H (fun H => GO ?_) (fun H => ?_)
 obtain ⟨t11, ht11, H⟩ := pbind H
 refine OJ.st Z Z Z (SR.idxA oU oI Z Z Z Z Z (Arr.lt ht11)) ?_
 refine oS (SL (CA.idx (CA.fld (hS.ca (i := 0) Z) (mid_part (fe_Pasture_3 _) (fl_Pasture_3 _) ((carr 10 (ci .u16)).len _))) ht11)) ?_
 refine OJ.st rfl rfl rfl (SR.shr rfl rfl rfl (by decide)) ?_
 refine GO ?_
 refine CP H (fun H => GO ?_) (fun H => ?_)
 obtain rfl := Option.some.inj H; have H := K162
 obtain rfl := Option.some.inj H; have H := K155
 exact FE H hS
 refine GO ?_
 refine oS (SL (CA.fld (hS.ca (i := 0) Z) (mid_part (fe_Pasture_1 _) (fl_Pasture_1 _) ((ci .i8).len _)))) ?_
 refine CP H (fun H => GO ?_) (fun H => ?_)
 obtain ⟨t12, ht12, H⟩ := pbind H
 refine OJ.st Z Z Z (SR.idxA oU oI Z Z Z Z Z (Arr.lt ht12)) ?_
 refine oS (SL (CA.idx (CA.fld (hS.ca (i := 0) Z) (mid_part (fe_Pasture_4 _) (fl_Pasture_4 _) ((carr 10 (ci .u16)).len _))) ht12)) ?_
 refine CP H (fun H => GO ?_) (fun H => ?_)
 obtain rfl := Option.some.inj H; have H := K162
 obtain rfl := Option.some.inj H; have H := K155
 exact FE H hS
 exact MD H hS
 refine GO ?_
 obtain ⟨t13, ht13, H⟩ := pbind H
 refine OJ.st Z Z Z (SR.idxA oU oI Z Z Z Z Z (Arr.lt ht13)) ?_
 refine oS (SL (CA.idx (CA.fld (hS.ca (i := 0) Z) (mid_part (fe_Pasture_4 _) (fl_Pasture_4 _) ((carr 10 (ci .u16)).len _))) ht13)) ?_
 refine CP H (fun H => GO ?_) (fun H => ?_)
 obtain rfl := Option.some.inj H; have H := K162
 obtain rfl := Option.some.inj H; have H := K155
 exact FE H hS
 exact MD H hS
 refine GO ?_
 obtain ⟨t14, ht14, H⟩ := pbind H
 refine OJ.st Z Z Z (SR.idxA oU oI Z Z Z Z Z (Arr.lt ht14)) ?_
 refine oS (SL (CA.idx (CA.fld (hS.ca (i := 0) Z) (mid_part (fe_Pasture_3 _) (fl_Pasture_3 _) ((carr 10 (ci .u16)).len _))) ht14)) ?_
 refine OJ.st rfl rfl rfl (SR.shr rfl rfl rfl (by decide)) ?_
 refine GO ?_
 refine CP H (fun H => GO ?_) (fun H => ?_)
 obtain rfl := Option.some.inj H; have H := K162
 obtain rfl := Option.some.inj H; have H := K155
 exact FE H hS
 refine GO ?_
 refine oS (SL (CA.fld (hS.ca (i := 0) Z) (mid_part (fe_Pasture_1 _) (fl_Pasture_1 _) ((ci .i8).len _)))) ?_
 refine CP H (fun H => GO ?_) (fun H => ?_)
 obtain ⟨t15, ht15, H⟩ := pbind H
 refine OJ.st Z Z Z (SR.idxA oU oI Z Z Z Z Z (Arr.lt ht15)) ?_
 refine oS (SL (CA.idx (CA.fld (hS.ca (i := 0) Z) (mid_part (fe_Pasture_4 _) (fl_Pasture_4 _) ((carr 10 (ci .u16)).len _))) ht15)) ?_
 refine CP H (fun H => GO ?_) (fun H => ?_)
 obtain rfl := Option.some.inj H; have H := K162
 obtain rfl := Option.some.inj H; have H := K155
 exact FE H hS
 exact MD H hS
 refine GO ?_
 obtain ⟨t16, ht16, H⟩ := pbind H
 refine OJ.st Z Z Z (SR.idxA oU oI Z Z Z Z Z (Arr.lt ht16)) ?_
 refine oS (SL (CA.idx (CA.fld (hS.ca (i := 0) Z) (mid_part (fe_Pasture_4 _) (fl_Pasture_4 _) ((carr 10 (ci .u16)).len _))) ht16)) ?_
 refine CP H (fun H => GO ?_) (fun H => ?_)
 obtain rfl := Option.some.inj H; have H := K162
 obtain rfl := Option.some.inj H; have H := K155
 exact FE H hS
 exact MD H hS
 rintro F w1 ⟨⟨⟩, rfl, hS⟩
 have H := K162
 exact MD H hS
 exact MD H hS
 rintro F w1 ⟨⟨⟩, rfl, hS⟩
 have H := K155
 refine EJ.next ?_
 exact FE H hS

def q1y.l1 (a0 : Pasture) (a1 : List Spot) : Nat → Int → Option (Int ⊕ Unit)
  | 0, _ => none
  | k + 1, y2 => if y2 < (a1.length : Int) then ((getI a1 y2).bind fun t3 => (q1g.f a0 t3).bind fun t4 => if (!t4) = true then (some (Sum.inl 2)) else (q1y.l1 a0 a1 k (IntKind.i64.wrap (y2 + 1)))) else (some (Sum.inr ()))
def q1y.f (k : Nat) (a0 : Pasture) (a1 : List Spot) : Option Int := (q13.f k a0).bind fun t1 => if (!t1) = true then (some 1) else ((q1y.l1 a0 a1 k 0).bind fun s165 => match s165 with | .inl r => some r | .inr _ => some 0)
theorem q1y.c {k w} (pa0 : Addr) (a0 : Pasture) (hp0 : CA w pa0 (cPasture.enc a0)) {Aa1 ca1} {a1 : List Spot} (hr1 : Rd cSpot w Aa1 a1) (hc1 : a1.length ≤ ca1) (r : Int) (H : q1y.f k a0 a1 = some r) :
 CV Tryz.prog 123 [.pointer (some pa0), sl Aa1 a1 ca1].toArray w fun v w' => v = .int .i64 r ∧ Ext w w' := by
 have hS := (((St.init w no).paramP pa0 (cPasture.enc a0) hp0).param cSpot Aa1 ca1 a1 hr1 hc1)
 unfold q1y.f at H
 refine CV.body Tryz.func123 Z Tryz.ntmps123 Z ?_
 refine GO ?_
 refine oB H hS hb152 (q13.c _ a0 (hS.ca (i := 0) Z)) fun t1 w1 H hS => ?_
 refine CB H (fun H => ?_) (fun H => ?_)
 exact FE H hS
 refine GO ?_
 obtain ⟨j165, H, K165⟩ := pbind H
 refine CJ.cut1 (fun F w1 => some j165 = some (Sum.inr ()) ∧ F = [] ∧ St w no w1 [] [roP pa0 (cPasture.enc a0), roC cSpot Aa1 ca1 a1]) ?_ ?_
 refine CJ.block ?_
 refine LQ (fun k F w1 => ∃ (y2 : Int), F = [(0, .pointer (some pa0)), (1, sl Aa1 a1 ca1), (5, i6 y2)] ∧ St w no w1 [] [roP pa0 (cPasture.enc a0), roC cSpot Aa1 ca1 a1] ∧ q1y.l1 a0 a1 k y2 = some j165) k H hS ?_
 rintro k F w1 ⟨y2, rfl, hS, H⟩
 rw [q1y.l1] at H
 refine GO ?_
 refine CP H (fun H => GO ?_) (fun H => ?_)
 refine CJ.block ?_
 refine GO ?_
 obtain ⟨t3, ht3, H⟩ := pbind H
 obtain ⟨ad3, e3⟩ := (rA hS 1 Z).some' ht3
 refine OS (SI e3 (getI_some ht3).1) ?_
 refine OS (SE ((rA hS 1 Z).at_ e3 ht3)) ?_
 refine oB H hS hb66 (q1g.c _ a0 (hS.ca (i := 0) Z) t3) fun t4 w1 H hS => ?_
 refine CB H (fun H => GO ?_) (fun H => ?_)
 obtain rfl := Option.some.inj H; have H := K165
 exact FE H hS
 exact MD H hS
 exact MD H hS
 rintro F w1 ⟨⟨⟩, rfl, hS⟩
 have H := K165
 refine EJ.next ?_
 exact FE H hS

def q3e.f (k : Nat) (a0 : Pasture) (a1 : List Spot) (a2 : List Spot) : Option Int := (q1y.f k a0 a1).bind fun t1 => if t1 ≠ 0 then (some t1) else ((q1y.f k a0 a2).bind fun t2 => some t2)
theorem q3e.c {k w} (pa0 : Addr) (a0 : Pasture) (hp0 : CA w pa0 (cPasture.enc a0)) {Aa1 ca1} {a1 : List Spot} (hr1 : Rd cSpot w Aa1 a1) (hc1 : a1.length ≤ ca1) {Aa2 ca2} {a2 : List Spot} (hr2 : Rd cSpot w Aa2 a2) (hc2 : a2.length ≤ ca2) (r : Int) (H : q3e.f k a0 a1 a2 = some r) :
 CV Tryz.prog 79 [.pointer (some pa0), sl Aa1 a1 ca1, sl Aa2 a2 ca2].toArray w fun v w' => v = .int .i64 r ∧ Ext w w' := by
 have hS := ((((St.init w no).paramP pa0 (cPasture.enc a0) hp0).param cSpot Aa1 ca1 a1 hr1 hc1).param cSpot Aa2 ca2 a2 hr2 hc2)
 unfold q3e.f at H
 refine CV.body Tryz.func79 Z Tryz.ntmps79 Z ?_
 refine GO ?_
 refine oB H hS hb123 (q1y.c _ a0 (hS.ca (i := 0) Z) (rA hS 1 Z) (rB hS 1 Z)) fun t1 w1 H hS => ?_
 refine CP H (fun H => ?_) (fun H => ?_)
 exact FE H hS
 refine GO ?_
 refine OB H hS hb123 (q1y.c _ a0 (hS.ca (i := 0) Z) (rA hS 2 Z) (rB hS 2 Z)) fun t2 w1 H hS => ?_
 exact FE H hS

def q1n.l1 (a0 : List Spot) : Nat → (Arr 10 (Arr 10 Bool)) → Int → Option (Arr 10 (Arr 10 Bool))
  | 0, _, _ => none
  | k + 1, y4, y5 => if y5 < (a0.length : Int) then ((getI a0 y5).bind fun t6 => (getI a0 y5).bind fun t7 => (getI y4.l t6.Y).bind fun t8 => (getI t8.l t7.X).bind fun t9 => q1n.l1 a0 k (aset y4 t6.Y.toNat (aset t8 t7.X.toNat true)) (IntKind.i64.wrap (y5 + 1))) else (some y4)
def q1n.f (k : Nat) (a0 : List Spot) : Option (Arr 10 (Arr 10 Bool)) := (q1n.l1 a0 k (Arr.mk' (Arr.mk' false : Arr 10 Bool) : Arr 10 (Arr 10 Bool)) 0).bind fun y3 => some y3
theorem q1n.c {k w Aa0 ca0} {a0 : List Spot} (hr0 : Rd cSpot w Aa0 a0) (hc0 : a0.length ≤ ca0) (r : Arr 10 (Arr 10 Bool)) (H : q1n.f k a0 = some r) :
 CV Tryz.prog 80 [sl Aa0 a0 ca0].toArray w fun v w' => v = .agg ((carr 10 (carr 10 cb)).enc r).toArray ∧ Ext w w' := by
 have hS := ((St.init w no).param cSpot Aa0 ca0 a0 hr0 hc0)
 unfold q1n.f at H
 refine CV.body Tryz.func80 Z Tryz.ntmps80 Z ?_
 refine GO ?_
 refine OJ.ef rfl rfl rfl (Ef.alloc hS oI rfl rfl ((carr 10 (carr 10 cb)).enc (Arr.mk' (Arr.mk' false : Arr 10 Bool) : Arr 10 (Arr 10 Bool))) (by kernel_rfl)) ?_
 rintro _ w1 ⟨b1, rfl, hS⟩
 refine GO ?_
 refine OJ.st rfl rfl rfl (SR.buildA oU oI rfl rfl rfl rfl (zs := [.bool false, .bool false, .bool false, .bool false, .bool false, .bool false, .bool false, .bool false, .bool false, .bool false, .bool false, .bool false, .bool false, .bool false, .bool false, .bool false, .bool false, .bool false, .bool false, .bool false, .bool false, .bool false, .bool false, .bool false, .bool false, .bool false, .bool false, .bool false, .bool false, .bool false, .bool false, .bool false, .bool false, .bool false, .bool false, .bool false, .bool false, .bool false, .bool false, .bool false, .bool false, .bool false, .bool false, .bool false, .bool false, .bool false, .bool false, .bool false, .bool false, .bool false, .bool false, .bool false, .bool false, .bool false, .bool false, .bool false, .bool false, .bool false, .bool false, .bool false, .bool false, .bool false, .bool false, .bool false, .bool false, .bool false, .bool false, .bool false, .bool false, .bool false, .bool false, .bool false, .bool false, .bool false, .bool false, .bool false, .bool false, .bool false, .bool false, .bool false, .bool false, .bool false, .bool false, .bool false, .bool false, .bool false, .bool false, .bool false, .bool false, .bool false, .bool false, .bool false, .bool false, .bool false, .bool false, .bool false, .bool false, .bool false, .bool false, .bool false]) rfl rfl ((carr 10 (carr 10 cb)).enc (Arr.mk' (Arr.mk' false : Arr 10 Bool) : Arr 10 (Arr 10 Bool))) (by kernel_rfl)) ?_
 refine OJ.ef rfl rfl rfl (Ef.alloc hS oI rfl rfl ((carr 10 (carr 10 cb)).enc (Arr.mk' (Arr.mk' false : Arr 10 Bool) : Arr 10 (Arr 10 Bool))) (by kernel_rfl)) ?_
 rintro _ w1 ⟨b2, rfl, hS⟩
 refine OJ.es rfl rfl (Es.put oI hS (i := 1) rfl rfl rfl rfl rfl (vs := (carr 10 (carr 10 cb)).enc (Arr.mk' (Arr.mk' false : Arr 10 Bool) : Arr 10 (Arr 10 Bool))) rfl ((carr 10 (carr 10 cb)).len _) ((carr 10 (carr 10 cb)).one _) (Put.all (carr 10 (carr 10 cb)) (Arr.mk' (Arr.mk' false : Arr 10 Bool) : Arr 10 (Arr 10 Bool)) (Arr.mk' (Arr.mk' false : Arr 10 Bool) : Arr 10 (Arr 10 Bool))) (by (try simp only [add_lit, Nat.add_assoc, Nat.zero_add, Nat.add_zero]) <;> first | rfl | (congr 1; exact Nat.zero_add _))) ?_
 intro w1 hS
 refine GO ?_
 obtain ⟨j166, H, K166⟩ := pbind H
 refine CJ.cut1 (fun F w1 => ∃ y3, some y3 = some j166 ∧ F = [(2, pt b1), (3, pt b2)] ∧ St w no w1 [box b1 ((carr 10 (carr 10 cb)).enc (Arr.mk' (Arr.mk' false : Arr 10 Bool) : Arr 10 (Arr 10 Bool))) 72, box b2 ((carr 10 (carr 10 cb)).enc y3) 72] [roC cSpot Aa0 ca0 a0]) ?_ ?_
 refine CJ.block ?_
 refine LQ (fun k F w1 => ∃ (y4 : Arr 10 (Arr 10 Bool)) (y5 : Int), F = [(0, sl Aa0 a0 ca0), (2, pt b1), (3, pt b2), (4, i6 y5)] ∧ St w no w1 [box b1 ((carr 10 (carr 10 cb)).enc (Arr.mk' (Arr.mk' false : Arr 10 Bool) : Arr 10 (Arr 10 Bool))) 72, box b2 ((carr 10 (carr 10 cb)).enc y4) 72] [roC cSpot Aa0 ca0 a0] ∧ q1n.l1 a0 k y4 y5 = some j166) k H hS ?_
 rintro k F w1 ⟨y4, y5, rfl, hS, H⟩
 rw [q1n.l1] at H
 refine GO ?_
 refine CP H (fun H => GO ?_) (fun H => ?_)
 refine CJ.block ?_
 refine CJ.draw [] [0, 1, 2, 3, 4, 5, 6, 7, 8, 9, 10, 11, 12] mixed (by kernel_rfl) hS fun w1 hS => ?_
 refine GO ?_
 obtain ⟨t6, ht6, H⟩ := pbind H
 obtain ⟨ad6, e6⟩ := (rA hS 0 Z).some' ht6
 refine dS (SI e6 (getI_some ht6).1) ?_
 refine dS (SL (CA.sub ((rA hS 0 Z).at_ e6 ht6) 1)) ?_
 obtain ⟨t7, ht7, H⟩ := pbind H
 obtain ⟨ad7, e7⟩ := (rA hS 0 Z).some' ht7
 refine dS (SI e7 (getI_some ht7).1) ?_
 refine DS (SL (CA.sub ((rA hS 0 Z).at_ e7 ht7) 0)) ?_
 obtain ⟨t8, ht8, H⟩ := pbind H
 refine DJ.st Z Z Z Z Z (SR.idxA oU oI Z Z Z Z Z (Arr.lt ht8)) ?_
 obtain ⟨t9, ht9, H⟩ := pbind H
 refine DJ.st Z Z Z Z Z (SR.idxA oU oI Z Z Z Z Z (Arr.lt ht9)) ?_
 refine DJ.es rfl rfl rfl rfl (Es.put oI hS (i := 1) rfl rfl rfl rfl rfl (vs := cb.enc true) rfl rfl (one1 rfl) (Put.idx (Put.idx (Put.all cb t9 true) ht9) ht8) (by (try simp only [add_lit, Nat.add_assoc, Nat.zero_add, Nat.add_zero]) <;> first | rfl | (congr 1; exact Nat.zero_add _))) ?_
 intro w1 hS
 exact MD H hS
 exact MD H hS
 rintro F w1 ⟨y3, he, rfl, hS⟩
 obtain rfl := Option.some.inj he
 have H := K166
 refine EJ.next ?_
 refine GO ?_
 refine OS (SE (ce hS 1)) ?_
 refine OJ.es rfl rfl (Es.put oI hS (i := 0) rfl rfl rfl rfl rfl (vs := (carr 10 (carr 10 cb)).enc y3) rfl ((carr 10 (carr 10 cb)).len _) ((carr 10 (carr 10 cb)).one _) (Put.all (carr 10 (carr 10 cb)) (Arr.mk' (Arr.mk' false : Arr 10 Bool) : Arr 10 (Arr 10 Bool)) y3) (by (try simp only [add_lit, Nat.add_assoc, Nat.zero_add, Nat.add_zero]) <;> first | rfl | (congr 1; exact Nat.zero_add _))) ?_
 intro w1 hS
 refine GO ?_
 obtain rfl := Option.some.inj H
 exact EJ.fin Z (.cell Z (ldE oU oI Z Z Z (hS.cells (i := 0) Z) Z) .nil) ⟨Z, hS.ext⟩

def q19.l1 (a2 : List Spot) (t2 : Arr 10 (Arr 10 Bool)) : Nat → Int → Option (Int ⊕ Unit)
  | 0, _ => none
  | k + 1, y4 => if y4 < (a2.length : Int) then ((getI a2 y4).bind fun t5 => (getI a2 y4).bind fun t6 => (getI t2.l t5.Y).bind fun t7 => (getI t7.l t6.X).bind fun t8 => if t8 = true then (some (Sum.inl 4)) else (q19.l1 a2 t2 k (IntKind.i64.wrap (y4 + 1)))) else (some (Sum.inr ()))
def q19.f (k : Nat) (a0 : Pasture) (a1 : List Spot) (a2 : List Spot) : Option Int := (q3e.f k a0 a1 a2).bind fun t1 => if t1 ≠ 0 then (some t1) else ((q1n.f k a1).bind fun t2 => (q19.l1 a2 t2 k 0).bind fun s167 => match s167 with | .inl r => some r | .inr _ => some 0)
theorem q19.c {k w} (pa0 : Addr) (a0 : Pasture) (hp0 : CA w pa0 (cPasture.enc a0)) {Aa1 ca1} {a1 : List Spot} (hr1 : Rd cSpot w Aa1 a1) (hc1 : a1.length ≤ ca1) {Aa2 ca2} {a2 : List Spot} (hr2 : Rd cSpot w Aa2 a2) (hc2 : a2.length ≤ ca2) (r : Int) (H : q19.f k a0 a1 a2 = some r) :
 CV Tryz.prog 32 [.pointer (some pa0), sl Aa1 a1 ca1, sl Aa2 a2 ca2].toArray w fun v w' => v = .int .i64 r ∧ Ext w w' := by
 have hS := ((((St.init w no).paramP pa0 (cPasture.enc a0) hp0).param cSpot Aa1 ca1 a1 hr1 hc1).param cSpot Aa2 ca2 a2 hr2 hc2)
 unfold q19.f at H
 refine CV.body Tryz.func32 Z Tryz.ntmps32 Z ?_
 refine GO ?_
 refine oB H hS hb79 (q3e.c _ a0 (hS.ca (i := 0) Z) (rA hS 1 Z) (rB hS 1 Z) (rA hS 2 Z) (rB hS 2 Z)) fun t1 w1 H hS => ?_
 refine CP H (fun H => ?_) (fun H => ?_)
 exact FE H hS
 refine GO ?_
 refine OB H hS hb80 (q1n.c (rA hS 1 Z) (rB hS 1 Z)) fun t2 w1 H hS => ?_
 refine OJ.ef rfl rfl rfl (Ef.alloc hS oI rfl rfl ((carr 10 (carr 10 cb)).enc (Arr.mk' (Arr.mk' false : Arr 10 Bool) : Arr 10 (Arr 10 Bool))) (by kernel_rfl)) ?_
 rintro _ w1 ⟨b3, rfl, hS⟩
 refine OJ.es rfl rfl (Es.put oI hS (i := 0) rfl rfl rfl rfl rfl (vs := (carr 10 (carr 10 cb)).enc t2) rfl ((carr 10 (carr 10 cb)).len _) ((carr 10 (carr 10 cb)).one _) (Put.all (carr 10 (carr 10 cb)) (Arr.mk' (Arr.mk' false : Arr 10 Bool) : Arr 10 (Arr 10 Bool)) t2) (by (try simp only [add_lit, Nat.add_assoc, Nat.zero_add, Nat.add_zero]) <;> first | rfl | (congr 1; exact Nat.zero_add _))) ?_
 intro w1 hS
 refine GO ?_
 obtain ⟨j167, H, K167⟩ := pbind H
 refine CJ.cut1 (fun F w1 => some j167 = some (Sum.inr ()) ∧ F = [] ∧ St w no w1 [] [roP pa0 (cPasture.enc a0), roC cSpot Aa1 ca1 a1, roC cSpot Aa2 ca2 a2]) ?_ ?_
 refine CJ.block ?_
 refine LQ (fun k F w1 => ∃ (y4 : Int), F = [(2, sl Aa2 a2 ca2), (8, pt b3), (9, i6 y4)] ∧ St w no w1 [box b3 ((carr 10 (carr 10 cb)).enc t2) 72] [roP pa0 (cPasture.enc a0), roC cSpot Aa1 ca1 a1, roC cSpot Aa2 ca2 a2] ∧ q19.l1 a2 t2 k y4 = some j167) k H hS ?_
 rintro k F w1 ⟨y4, rfl, hS, H⟩
 rw [q19.l1] at H
 refine GO ?_
 refine CP H (fun H => GO ?_) (fun H => ?_)
 refine CJ.block ?_
 refine GO ?_
 refine CJ.draw [] [0, 1, 2, 3, 4, 5, 6, 7, 8, 9, 10, 11, 12] mixed (by kernel_rfl) hS fun w1 hS => ?_
 refine GO ?_
 obtain ⟨t5, ht5, H⟩ := pbind H
 obtain ⟨ad5, e5⟩ := (rA hS 2 Z).some' ht5
 refine dS (SI e5 (getI_some ht5).1) ?_
 refine dS (SL (CA.sub ((rA hS 2 Z).at_ e5 ht5) 1)) ?_
 obtain ⟨t6, ht6, H⟩ := pbind H
 obtain ⟨ad6, e6⟩ := (rA hS 2 Z).some' ht6
 refine dS (SI e6 (getI_some ht6).1) ?_
 refine DS (SL (CA.sub ((rA hS 2 Z).at_ e6 ht6) 0)) ?_
 obtain ⟨t7, ht7, H⟩ := pbind H
 refine DJ.st Z Z Z Z Z (SR.idxA oU oI Z Z Z Z Z (Arr.lt ht7)) ?_
 obtain ⟨t8, ht8, H⟩ := pbind H
 refine DJ.st Z Z Z Z Z (SR.idxA oU oI Z Z Z Z Z (Arr.lt ht8)) ?_
 refine dS (SL (CA.idx (CA.idx (ce hS 0) ht7) ht8)) ?_
 refine CB H (fun H => GO ?_) (fun H => ?_)
 obtain rfl := Option.some.inj H; have H := K167
 exact FE H hS
 exact MD H hS
 exact MD H hS
 rintro F w1 ⟨⟨⟩, rfl, hS⟩
 have H := K167
 refine EJ.next ?_
 exact FE H hS

def q2q.f (a0 : l03Flow) (a1 : Spot) (a2 : Int) : Option l03Flow := (q0y.f a1 a2).bind fun t2 => if a2 = 0 then ((getI a0.south.l t2.Y).bind fun t4 => (getI t4.l t2.X).bind fun t5 => (getI a0.south.l t2.Y).bind fun t6 => (getI t6.l t2.X).bind fun t7 => some (⟨a0.east, (aset a0.south t2.Y.toNat (aset t6 t2.X.toNat (IntKind.i8.wrap (t5 - 1))))⟩ : l03Flow)) else (if a2 = 1 then ((getI a0.east.l a1.Y).bind fun t8 => (getI t8.l a1.X).bind fun t9 => (getI a0.east.l a1.Y).bind fun t10 => (getI t10.l a1.X).bind fun t11 => some (⟨(aset a0.east a1.Y.toNat (aset t10 a1.X.toNat (IntKind.i8.wrap (t9 + 1)))), a0.south⟩ : l03Flow)) else (if a2 = 2 then ((getI a0.south.l a1.Y).bind fun t12 => (getI t12.l a1.X).bind fun t13 => (getI a0.south.l a1.Y).bind fun t14 => (getI t14.l a1.X).bind fun t15 => some (⟨a0.east, (aset a0.south a1.Y.toNat (aset t14 a1.X.toNat (IntKind.i8.wrap (t13 + 1))))⟩ : l03Flow)) else ((getI a0.east.l t2.Y).bind fun t16 => (getI t16.l t2.X).bind fun t17 => (getI a0.east.l t2.Y).bind fun t18 => (getI t18.l t2.X).bind fun t19 => some (⟨(aset a0.east t2.Y.toNat (aset t18 t2.X.toNat (IntKind.i8.wrap (t17 - 1)))), a0.south⟩ : l03Flow))))
theorem q2q.c {w} (ba0 : Nat) (a0 : l03Flow) (a1 : Spot) {a2 : Int} (hin : St w (fpU [box ba0 (cl03Flow.enc a0) 127]) w [box ba0 (cl03Flow.enc a0) 127] []) (r : l03Flow) (H : q2q.f a0 a1 a2 = some r) :
 CV Tryz.prog 124 [pt ba0, .agg (cSpot.enc a1).toArray, .int .i64 a2].toArray w fun v w' => v = .tuple #[] ∧ St w (fpU [box ba0 (cl03Flow.enc a0) 127]) w' [box ba0 (cl03Flow.enc r) 127] [] := by
 have hS := hin
 unfold q2q.f at H
 refine CV.body Tryz.func124 Z Tryz.ntmps124 Z ?_
 refine GO ?_
 refine oX hS (cSpot.enc a1) fun b1 w1 hS => ?_
 refine oS (SE (ce hS 1)) ?_
 refine OB H hS hb67 (q0y.c a1) fun t2 w1 H hS => ?_
 refine OF (EA hS (cSpot.enc (⟨0, 0⟩ : Spot))) ?_
 rintro _ w1 ⟨b3, rfl, hS⟩
 refine OJ.es Z Z (eS cSpot t2 hS (i := 2) Z Z Z Z Z Z Z Z Z Z) ?_
 intro w1 hS
 refine GO ?_
 refine CJ.block ?_
 refine GO ?_
 refine CP H (fun H => ?_) (fun H => ?_)
 refine CJ.draw [] [0, 1, 2, 3, 4, 5, 6, 7, 8, 9, 10, 11, 12, 13, 14, 15] mixed (by kernel_rfl) hS fun w1 hS => ?_
 refine GO ?_
 refine dS (SL (cf hS 2 1)) ?_
 refine dS (SL (cf hS 2 0)) ?_
 obtain ⟨t4, ht4, H⟩ := pbind H
 refine DJ.st Z Z Z Z Z (SR.idxA oU oI Z Z Z Z Z (Arr.lt ht4)) ?_
 obtain ⟨t5, ht5, H⟩ := pbind H
 refine DJ.st Z Z Z Z Z (SR.idxA oU oI Z Z Z Z Z (Arr.lt ht5)) ?_
 refine dS (SL (CA.idx (CA.idx (CA.fld (ce hS 0) (mid_part (fe_l03Flow_1 _) (fl_l03Flow_1 _) ((carr 10 (carr 10 (ci .i8))).len _))) ht4) ht5)) ?_
 obtain ⟨t6, ht6, H⟩ := pbind H
 refine DJ.st Z Z Z Z Z (SR.idxA oU oI Z Z Z Z Z (Arr.lt ht6)) ?_
 obtain ⟨t7, ht7, H⟩ := pbind H
 refine DJ.st Z Z Z Z Z (SR.idxA oU oI Z Z Z Z Z (Arr.lt ht7)) ?_
 refine DJ.es rfl rfl rfl rfl (Es.put oI hS (i := 0) rfl rfl rfl rfl rfl (vs := (ci .i8).enc (IntKind.i8.wrap (t5 - 1))) rfl rfl (one1 rfl) (put_l03Flow_1 (Put.idx (Put.idx (Put.all (ci .i8) t7 (IntKind.i8.wrap (t5 - 1))) ht7) ht6)) (by (try simp only [add_lit, Nat.add_assoc, Nat.zero_add, Nat.add_zero]) <;> first | rfl | (congr 1; exact Nat.zero_add _))) ?_
 intro w1 hS
 refine GO ?_
 obtain rfl := Option.some.inj H
 exact EJ.fin' Z .nil ⟨Z, hS.pick [0] [] Z⟩
 refine GO ?_
 refine CP H (fun H => ?_) (fun H => ?_)
 refine CJ.draw [] [0, 1, 2, 3, 4, 5, 6, 7, 8, 9, 10, 11, 12, 13, 14, 15] mixed (by kernel_rfl) hS fun w1 hS => ?_
 refine GO ?_
 refine dS (SL (cf hS 1 1)) ?_
 refine dS (SL (cf hS 1 0)) ?_
 obtain ⟨t8, ht8, H⟩ := pbind H
 refine DJ.st Z Z Z Z Z (SR.idxA oU oI Z Z Z Z Z (Arr.lt ht8)) ?_
 obtain ⟨t9, ht9, H⟩ := pbind H
 refine DJ.st Z Z Z Z Z (SR.idxA oU oI Z Z Z Z Z (Arr.lt ht9)) ?_
 refine dS (SL (CA.idx (CA.idx (CA.fld (ce hS 0) (mid_part (fe_l03Flow_0 _) (fl_l03Flow_0 _) ((carr 10 (carr 10 (ci .i8))).len _))) ht8) ht9)) ?_
 obtain ⟨t10, ht10, H⟩ := pbind H
 refine DJ.st Z Z Z Z Z (SR.idxA oU oI Z Z Z Z Z (Arr.lt ht10)) ?_
 obtain ⟨t11, ht11, H⟩ := pbind H
 refine DJ.st Z Z Z Z Z (SR.idxA oU oI Z Z Z Z Z (Arr.lt ht11)) ?_
 refine DJ.es rfl rfl rfl rfl (Es.put oI hS (i := 0) rfl rfl rfl rfl rfl (vs := (ci .i8).enc (IntKind.i8.wrap (t9 + 1))) rfl rfl (one1 rfl) (put_l03Flow_0 (Put.idx (Put.idx (Put.all (ci .i8) t11 (IntKind.i8.wrap (t9 + 1))) ht11) ht10)) (by (try simp only [add_lit, Nat.add_assoc, Nat.zero_add, Nat.add_zero]) <;> first | rfl | (congr 1; exact Nat.zero_add _))) ?_
 intro w1 hS
 refine GO ?_
 obtain rfl := Option.some.inj H
 exact EJ.fin' Z .nil ⟨Z, hS.pick [0] [] Z⟩
 refine GO ?_
 refine CP H (fun H => ?_) (fun H => ?_)
 refine CJ.draw [] [0, 1, 2, 3, 4, 5, 6, 7, 8, 9, 10, 11, 12, 13, 14, 15] mixed (by kernel_rfl) hS fun w1 hS => ?_
 refine GO ?_
 refine dS (SL (cf hS 1 1)) ?_
 refine dS (SL (cf hS 1 0)) ?_
 obtain ⟨t12, ht12, H⟩ := pbind H
 refine DJ.st Z Z Z Z Z (SR.idxA oU oI Z Z Z Z Z (Arr.lt ht12)) ?_
 obtain ⟨t13, ht13, H⟩ := pbind H
 refine DJ.st Z Z Z Z Z (SR.idxA oU oI Z Z Z Z Z (Arr.lt ht13)) ?_
 refine dS (SL (CA.idx (CA.idx (CA.fld (ce hS 0) (mid_part (fe_l03Flow_1 _) (fl_l03Flow_1 _) ((carr 10 (carr 10 (ci .i8))).len _))) ht12) ht13)) ?_
 obtain ⟨t14, ht14, H⟩ := pbind H
 refine DJ.st Z Z Z Z Z (SR.idxA oU oI Z Z Z Z Z (Arr.lt ht14)) ?_
 obtain ⟨t15, ht15, H⟩ := pbind H
 refine DJ.st Z Z Z Z Z (SR.idxA oU oI Z Z Z Z Z (Arr.lt ht15)) ?_
 refine DJ.es rfl rfl rfl rfl (Es.put oI hS (i := 0) rfl rfl rfl rfl rfl (vs := (ci .i8).enc (IntKind.i8.wrap (t13 + 1))) rfl rfl (one1 rfl) (put_l03Flow_1 (Put.idx (Put.idx (Put.all (ci .i8) t15 (IntKind.i8.wrap (t13 + 1))) ht15) ht14)) (by (try simp only [add_lit, Nat.add_assoc, Nat.zero_add, Nat.add_zero]) <;> first | rfl | (congr 1; exact Nat.zero_add _))) ?_
 intro w1 hS
 refine GO ?_
 obtain rfl := Option.some.inj H
 exact EJ.fin' Z .nil ⟨Z, hS.pick [0] [] Z⟩
 refine CJ.draw [] [0, 1, 2, 3, 4, 5, 6, 7, 8, 9, 10, 11, 12, 13, 14, 15] mixed (by kernel_rfl) hS fun w1 hS => ?_
 refine GO ?_
 refine dS (SL (cf hS 2 1)) ?_
 refine dS (SL (cf hS 2 0)) ?_
 obtain ⟨t16, ht16, H⟩ := pbind H
 refine DJ.st Z Z Z Z Z (SR.idxA oU oI Z Z Z Z Z (Arr.lt ht16)) ?_
 obtain ⟨t17, ht17, H⟩ := pbind H
 refine DJ.st Z Z Z Z Z (SR.idxA oU oI Z Z Z Z Z (Arr.lt ht17)) ?_
 refine dS (SL (CA.idx (CA.idx (CA.fld (ce hS 0) (mid_part (fe_l03Flow_0 _) (fl_l03Flow_0 _) ((carr 10 (carr 10 (ci .i8))).len _))) ht16) ht17)) ?_
 obtain ⟨t18, ht18, H⟩ := pbind H
 refine DJ.st Z Z Z Z Z (SR.idxA oU oI Z Z Z Z Z (Arr.lt ht18)) ?_
 obtain ⟨t19, ht19, H⟩ := pbind H
 refine DJ.st Z Z Z Z Z (SR.idxA oU oI Z Z Z Z Z (Arr.lt ht19)) ?_
 refine DJ.es rfl rfl rfl rfl (Es.put oI hS (i := 0) rfl rfl rfl rfl rfl (vs := (ci .i8).enc (IntKind.i8.wrap (t17 - 1))) rfl rfl (one1 rfl) (put_l03Flow_0 (Put.idx (Put.idx (Put.all (ci .i8) t19 (IntKind.i8.wrap (t17 - 1))) ht19) ht18)) (by (try simp only [add_lit, Nat.add_assoc, Nat.zero_add, Nat.add_zero]) <;> first | rfl | (congr 1; exact Nat.zero_add _))) ?_
 intro w1 hS
 refine GO ?_
 obtain rfl := Option.some.inj H
 exact EJ.fin' Z .nil ⟨Z, hS.pick [0] [] Z⟩

def q23.f (a0 : Pasture) (a1 : Spot) (a2 : Int) : Option Bool := (q0y.f a1 a2).bind fun t2 => (q1g.f a0 t2).bind fun t4 => if (!t4) = true then (some true) else (if a2 = 0 then ((getI a0.South.l t2.Y).bind fun t5 => (chk (0 ≤ (IntKind.u64.wrap a1.X))).bind fun u6 => some (decide ((andI .u16 (shrI .u16 t5 (IntKind.u64.wrap a1.X)) 1) = 1))) else (if a2 = 1 then ((getI a0.East.l a1.Y).bind fun t7 => (chk (0 ≤ (IntKind.u64.wrap a1.X))).bind fun u8 => some (decide ((andI .u16 (shrI .u16 t7 (IntKind.u64.wrap a1.X)) 1) = 1))) else (if a2 = 2 then ((getI a0.South.l a1.Y).bind fun t9 => (chk (0 ≤ (IntKind.u64.wrap a1.X))).bind fun u10 => some (decide ((andI .u16 (shrI .u16 t9 (IntKind.u64.wrap a1.X)) 1) = 1))) else ((getI a0.East.l a1.Y).bind fun t11 => (chk (0 ≤ (IntKind.u64.wrap t2.X))).bind fun u12 => some (decide ((andI .u16 (shrI .u16 t11 (IntKind.u64.wrap t2.X)) 1) = 1))))))
theorem q23.c {w} (pa0 : Addr) (a0 : Pasture) (hp0 : CA w pa0 (cPasture.enc a0)) (a1 : Spot) {a2 : Int} (r : Bool) (H : q23.f a0 a1 a2 = some r) :
 CV Tryz.prog 125 [.pointer (some pa0), .agg (cSpot.enc a1).toArray, .int .i64 a2].toArray w fun v w' => v = .bool r ∧ Ext w w' := by
 have hS := ((St.init w no).paramP pa0 (cPasture.enc a0) hp0)
 unfold q23.f at H
 refine CV.body Tryz.func125 Z Tryz.ntmps125 Z ?_
 refine GO ?_
 refine oX hS (cSpot.enc a1) fun b1 w1 hS => ?_
 refine oS (SE (ce hS 0)) ?_
 refine OB H hS hb67 (q0y.c a1) fun t2 w1 H hS => ?_
 refine OF (EA hS (cSpot.enc (⟨0, 0⟩ : Spot))) ?_
 rintro _ w1 ⟨b3, rfl, hS⟩
 refine OJ.es Z Z (eS cSpot t2 hS (i := 1) Z Z Z Z Z Z Z Z Z Z) ?_
 intro w1 hS
 refine GO ?_
 refine OS (SE (ce hS 1)) ?_
 refine oB H hS hb66 (q1g.c _ a0 (hS.ca (i := 0) Z) t2) fun t4 w1 H hS => ?_
 refine CB H (fun H => ?_) (fun H => ?_)
 exact FE H hS
 refine GO ?_
 refine CJ.block ?_
 refine GO ?_
 refine CP H (fun H => GO ?_) (fun H => ?_)
 refine CJ.draw [] [0, 1, 2, 3, 4, 5, 6, 7, 8, 9, 10, 11, 12, 13] mixed (by kernel_rfl) hS fun w1 hS => ?_
 refine GO ?_
 refine dS (SL (cf hS 1 1)) ?_
 obtain ⟨t5, ht5, H⟩ := pbind H
 refine DJ.st Z Z Z Z Z (SR.idxA oU oI Z Z Z Z Z (Arr.lt ht5)) ?_
 refine dS (SL (CA.idx (CA.fld (hS.ca (i := 0) Z) (mid_part (fe_Pasture_4 _) (fl_Pasture_4 _) ((carr 10 (ci .u16)).len _))) ht5)) ?_
 refine dS (SL (cf hS 0 0)) ?_
 obtain ⟨u6, hu6, H⟩ := pbind H
 refine DJ.st Z Z Z Z Z (SR.shr Z Z Z (chk_some hu6)) ?_
 exact FE H hS
 refine GO ?_
 refine CP H (fun H => GO ?_) (fun H => ?_)
 refine CJ.draw [] [0, 1, 2, 3, 4, 5, 6, 7, 8, 9, 10, 11, 12, 13] mixed (by kernel_rfl) hS fun w1 hS => ?_
 refine GO ?_
 refine dS (SL (cf hS 0 1)) ?_
 obtain ⟨t7, ht7, H⟩ := pbind H
 refine DJ.st Z Z Z Z Z (SR.idxA oU oI Z Z Z Z Z (Arr.lt ht7)) ?_
 refine dS (SL (CA.idx (CA.fld (hS.ca (i := 0) Z) (mid_part (fe_Pasture_3 _) (fl_Pasture_3 _) ((carr 10 (ci .u16)).len _))) ht7)) ?_
 refine dS (SL (cf hS 0 0)) ?_
 obtain ⟨u8, hu8, H⟩ := pbind H
 refine DJ.st Z Z Z Z Z (SR.shr Z Z Z (chk_some hu8)) ?_
 exact FE H hS
 refine GO ?_
 refine CP H (fun H => GO ?_) (fun H => ?_)
 refine CJ.draw [] [0, 1, 2, 3, 4, 5, 6, 7, 8, 9, 10, 11, 12, 13] mixed (by kernel_rfl) hS fun w1 hS => ?_
 refine GO ?_
 refine dS (SL (cf hS 0 1)) ?_
 obtain ⟨t9, ht9, H⟩ := pbind H
 refine DJ.st Z Z Z Z Z (SR.idxA oU oI Z Z Z Z Z (Arr.lt ht9)) ?_
 refine dS (SL (CA.idx (CA.fld (hS.ca (i := 0) Z) (mid_part (fe_Pasture_4 _) (fl_Pasture_4 _) ((carr 10 (ci .u16)).len _))) ht9)) ?_
 refine dS (SL (cf hS 0 0)) ?_
 obtain ⟨u10, hu10, H⟩ := pbind H
 refine DJ.st Z Z Z Z Z (SR.shr Z Z Z (chk_some hu10)) ?_
 exact FE H hS
 refine GO ?_
 refine CJ.draw [] [0, 1, 2, 3, 4, 5, 6, 7, 8, 9, 10, 11, 12, 13] mixed (by kernel_rfl) hS fun w1 hS => ?_
 refine GO ?_
 refine dS (SL (cf hS 0 1)) ?_
 obtain ⟨t11, ht11, H⟩ := pbind H
 refine DJ.st Z Z Z Z Z (SR.idxA oU oI Z Z Z Z Z (Arr.lt ht11)) ?_
 refine dS (SL (CA.idx (CA.fld (hS.ca (i := 0) Z) (mid_part (fe_Pasture_3 _) (fl_Pasture_3 _) ((carr 10 (ci .u16)).len _))) ht11)) ?_
 refine dS (SL (cf hS 1 0)) ?_
 obtain ⟨u12, hu12, H⟩ := pbind H
 refine DJ.st Z Z Z Z Z (SR.shr Z Z Z (chk_some hu12)) ?_
 exact FE H hS

def q2n.f (a0 : l03Flow) (a1 : Spot) (a2 : Int) : Option Int := (q0y.f a1 a2).bind fun t2 => if a2 = 0 then ((getI a0.south.l t2.Y).bind fun t4 => (getI t4.l t2.X).bind fun t5 => some (IntKind.i8.wrap (0 - t5))) else (if a2 = 1 then ((getI a0.east.l a1.Y).bind fun t6 => (getI t6.l a1.X).bind fun t7 => some t7) else (if a2 = 2 then ((getI a0.south.l a1.Y).bind fun t8 => (getI t8.l a1.X).bind fun t9 => some t9) else ((getI a0.east.l t2.Y).bind fun t10 => (getI t10.l t2.X).bind fun t11 => some (IntKind.i8.wrap (0 - t11)))))
theorem q2n.c {w} (pa0 : Addr) (a0 : l03Flow) (hp0 : CA w pa0 (cl03Flow.enc a0)) (a1 : Spot) {a2 : Int} (r : Int) (H : q2n.f a0 a1 a2 = some r) :
 CV Tryz.prog 126 [.pointer (some pa0), .agg (cSpot.enc a1).toArray, .int .i64 a2].toArray w fun v w' => v = .int .i8 r ∧ Ext w w' := by
 have hS := ((St.init w no).paramP pa0 (cl03Flow.enc a0) hp0)
 unfold q2n.f at H
 refine CV.body Tryz.func126 Z Tryz.ntmps126 Z ?_
 refine GO ?_
 refine oX hS (cSpot.enc a1) fun b1 w1 hS => ?_
 refine oS (SE (ce hS 0)) ?_
 refine OB H hS hb67 (q0y.c a1) fun t2 w1 H hS => ?_
 refine OF (EA hS (cSpot.enc (⟨0, 0⟩ : Spot))) ?_
 rintro _ w1 ⟨b3, rfl, hS⟩
 refine OJ.es Z Z (eS cSpot t2 hS (i := 1) Z Z Z Z Z Z Z Z Z Z) ?_
 intro w1 hS
 refine GO ?_
 refine CJ.block ?_
 refine GO ?_
 refine CP H (fun H => GO ?_) (fun H => ?_)
 refine CJ.draw [] [0, 1, 2, 3, 4, 5, 6, 7, 8, 9, 10, 11] mixed (by kernel_rfl) hS fun w1 hS => ?_
 refine GO ?_
 refine dS (SL (cf hS 1 1)) ?_
 refine dS (SL (cf hS 1 0)) ?_
 obtain ⟨t4, ht4, H⟩ := pbind H
 refine DJ.st Z Z Z Z Z (SR.idxA oU oI Z Z Z Z Z (Arr.lt ht4)) ?_
 obtain ⟨t5, ht5, H⟩ := pbind H
 refine DJ.st Z Z Z Z Z (SR.idxA oU oI Z Z Z Z Z (Arr.lt ht5)) ?_
 refine DS (SL (CA.idx (CA.idx (CA.fld (hS.ca (i := 0) Z) (mid_part (fe_l03Flow_1 _) (fl_l03Flow_1 _) ((carr 10 (carr 10 (ci .i8))).len _))) ht4) ht5)) ?_
 exact FE H hS
 refine GO ?_
 refine CP H (fun H => GO ?_) (fun H => ?_)
 refine CJ.draw [] [0, 1, 2, 3, 4, 5, 6, 7, 8, 9, 10] mixed (by kernel_rfl) hS fun w1 hS => ?_
 refine GO ?_
 refine dS (SL (cf hS 0 1)) ?_
 refine dS (SL (cf hS 0 0)) ?_
 obtain ⟨t6, ht6, H⟩ := pbind H
 refine DJ.st Z Z Z Z Z (SR.idxA oU oI Z Z Z Z Z (Arr.lt ht6)) ?_
 obtain ⟨t7, ht7, H⟩ := pbind H
 refine DJ.st Z Z Z Z Z (SR.idxA oU oI Z Z Z Z Z (Arr.lt ht7)) ?_
 refine DS (SL (CA.idx (CA.idx (CA.fld (hS.ca (i := 0) Z) (mid_part (fe_l03Flow_0 _) (fl_l03Flow_0 _) ((carr 10 (carr 10 (ci .i8))).len _))) ht6) ht7)) ?_
 exact FE H hS
 refine GO ?_
 refine CP H (fun H => GO ?_) (fun H => ?_)
 refine CJ.draw [] [0, 1, 2, 3, 4, 5, 6, 7, 8, 9, 10] mixed (by kernel_rfl) hS fun w1 hS => ?_
 refine GO ?_
 refine dS (SL (cf hS 0 1)) ?_
 refine dS (SL (cf hS 0 0)) ?_
 obtain ⟨t8, ht8, H⟩ := pbind H
 refine DJ.st Z Z Z Z Z (SR.idxA oU oI Z Z Z Z Z (Arr.lt ht8)) ?_
 obtain ⟨t9, ht9, H⟩ := pbind H
 refine DJ.st Z Z Z Z Z (SR.idxA oU oI Z Z Z Z Z (Arr.lt ht9)) ?_
 refine DS (SL (CA.idx (CA.idx (CA.fld (hS.ca (i := 0) Z) (mid_part (fe_l03Flow_1 _) (fl_l03Flow_1 _) ((carr 10 (carr 10 (ci .i8))).len _))) ht8) ht9)) ?_
 exact FE H hS
 refine GO ?_
 refine CJ.draw [] [0, 1, 2, 3, 4, 5, 6, 7, 8, 9, 10, 11] mixed (by kernel_rfl) hS fun w1 hS => ?_
 refine GO ?_
 refine dS (SL (cf hS 1 1)) ?_
 refine dS (SL (cf hS 1 0)) ?_
 obtain ⟨t10, ht10, H⟩ := pbind H
 refine DJ.st Z Z Z Z Z (SR.idxA oU oI Z Z Z Z Z (Arr.lt ht10)) ?_
 obtain ⟨t11, ht11, H⟩ := pbind H
 refine DJ.st Z Z Z Z Z (SR.idxA oU oI Z Z Z Z Z (Arr.lt ht11)) ?_
 refine DS (SL (CA.idx (CA.idx (CA.fld (hS.ca (i := 0) Z) (mid_part (fe_l03Flow_0 _) (fl_l03Flow_0 _) ((carr 10 (carr 10 (ci .i8))).len _))) ht10) ht11)) ?_
 exact FE H hS

def q07.l2 (a0 : Pasture) (a2 : Arr 10 (Arr 10 Bool)) (y15 : Int) : Nat → (Arr 10 (Arr 10 Bool)) → (Arr 10 (Arr 10 Int)) → (List Spot) → Int → Option ((Arr 10 (Arr 10 Bool)) × (Arr 10 (Arr 10 Int)) × (List Spot))
  | 0, _, _, _, _ => none
  | k + 1, y26, y27, y28, y31 => if y31 < a0.Wide then ((getI a2.l y15).bind fun t32 => (getI t32.l y31).bind fun t33 => if t33 = true then ((getI y26.l y15).bind fun t34 => (getI t34.l y31).bind fun t35 => (getI y27.l y15).bind fun t36 => (getI t36.l y31).bind fun t37 => (chk (y28.length + ([(⟨y31, y15⟩ : Spot)] : List Spot).length ≤ 4294967296)).bind fun u39 => q07.l2 a0 a2 y15 k (aset y26 y15.toNat (aset t34 y31.toNat true)) (aset y27 y15.toNat (aset t36 y31.toNat (-1))) (y28 ++ ([(⟨y31, y15⟩ : Spot)] : List Spot)) (IntKind.i8.wrap (y31 + 1))) else (q07.l2 a0 a2 y15 k y26 y27 y28 (IntKind.i8.wrap (y31 + 1)))) else (some (y26, y27, y28))
def q07.l1 (a0 : Pasture) (a2 : Arr 10 (Arr 10 Bool)) : Nat → (Arr 10 (Arr 10 Bool)) → (Arr 10 (Arr 10 Int)) → (List Spot) → Int → Option ((Arr 10 (Arr 10 Bool)) × (Arr 10 (Arr 10 Int)) × (List Spot))
  | 0, _, _, _, _ => none
  | k + 1, y10, y11, y12, y15 => if y15 < a0.High then (((q07.l2 a0 a2 y15 k y10 y11 y12 0).bind fun (y21, y22, y23) => some (y21, y22, y23)).bind fun (y16, y17, y18) => q07.l1 a0 a2 k y16 y17 y18 (IntKind.i8.wrap (y15 + 1))) else (some (y10, y11, y12))
def q07.l4 (y44 : Arr 10 (Arr 10 Int)) : Nat → l03Flow → Spot → Option l03Flow
  | 0, _, _ => none
  | k + 1, y59, y60 => (getI y44.l y60.Y).bind fun t61 => (getI t61.l y60.X).bind fun t62 => if 0 ≤ t62 then ((getI y44.l y60.Y).bind fun t63 => (getI t63.l y60.X).bind fun t64 => (q0y.f y60 t64).bind fun t65 => (getI y44.l y60.Y).bind fun t69 => (getI t69.l y60.X).bind fun t70 => (q2q.f y59 t65 (Int.tmod (IntKind.i64.wrap (t70 + 2)) 4)).bind fun t71 => q07.l4 y44 k t71 t65) else (some y59)
def q07.l5 (a0 : Pasture) (a1 : l03Flow) (t54 : Spot) : Nat → (Arr 10 (Arr 10 Bool)) → (Arr 10 (Arr 10 Int)) → (List Spot) → Int → Option ((Arr 10 (Arr 10 Bool)) × (Arr 10 (Arr 10 Int)) × (List Spot))
  | 0, _, _, _, _ => none
  | k + 1, y77, y78, y79, y82 => if y82 < 4 then ((q0y.f t54 y82).bind fun t83 => ((q23.f a0 t54 y82).bind fun t86 => if t86 = true then (some true) else ((getI y77.l t83.Y).bind fun t87 => (getI t87.l t83.X).bind fun t88 => if t88 = true then (some true) else ((q2n.f a1 t54 y82).bind fun t89 => some (decide (0 < t89))))).bind fun y85 => if y85 = true then (q07.l5 a0 a1 t54 k y77 y78 y79 (IntKind.i64.wrap (y82 + 1))) else ((getI y77.l t83.Y).bind fun t90 => (getI t90.l t83.X).bind fun t91 => (getI y78.l t83.Y).bind fun t92 => (getI t92.l t83.X).bind fun t93 => (chk (y79.length + ([t83] : List Spot).length ≤ 4294967296)).bind fun u95 => q07.l5 a0 a1 t54 k (aset y77 t83.Y.toNat (aset t90 t83.X.toNat true)) (aset y78 t83.Y.toNat (aset t92 t83.X.toNat (Int.tmod (IntKind.i64.wrap (y82 + 2)) 4))) (y79 ++ ([t83] : List Spot)) (IntKind.i64.wrap (y82 + 1)))) else (some (y77, y78, y79))
def q07.l3 (a0 : Pasture) (a1 : l03Flow) (a3 : Arr 10 (Arr 10 Bool)) : Nat → (Arr 10 (Arr 10 Bool)) → (Arr 10 (Arr 10 Int)) → (List Spot) → Int → Option ((Arr 10 (Arr 10 Bool) × Bool × l03Flow) ⊕ (Arr 10 (Arr 10 Bool)))
  | 0, _, _, _, _ => none
  | k + 1, y43, y44, y45, y48 => if y48 < (y45.length : Int) then (((getI y45 y48).bind fun t54 => (getI a3.l t54.Y).bind fun t56 => (getI t56.l t54.X).bind fun t57 => if t57 = true then ((q07.l4 y44 k a1 t54).bind fun y58 => some (Sum.inl (Sum.inl (y43, true, y58)))) else ((q07.l5 a0 a1 t54 k y43 y44 y45 0).bind fun (y72, y73, y74) => some (Sum.inr (y72, y73, y74)))).bind fun s214 => match s214 with | .inl r => some r | .inr (y49, y50, y51) => q07.l3 a0 a1 a3 k y49 y50 y51 (IntKind.i64.wrap (y48 + 1))) else (some (Sum.inr y43))
def q07.f (k : Nat) (a0 : Pasture) (a1 : l03Flow) (a2 : Arr 10 (Arr 10 Bool)) (a3 : Arr 10 (Arr 10 Bool)) : Option (Arr 10 (Arr 10 Bool) × Bool × l03Flow) := (q07.l1 a0 a2 k (Arr.mk' (Arr.mk' false : Arr 10 Bool) : Arr 10 (Arr 10 Bool)) (Arr.mk' (Arr.mk' 0 : Arr 10 Int) : Arr 10 (Arr 10 Int)) ([] : List Spot) 0).bind fun (y5, y6, y7) => (q07.l3 a0 a1 a3 k y5 y6 y7 0).bind fun s191 => match s191 with | .inl r => some r | .inr y42 => some (y42, false, a1)
theorem q07.c {k w} (pa0 : Addr) (a0 : Pasture) (ba1 : Nat) (a1 : l03Flow) (pa2 : Addr) (a2 : Arr 10 (Arr 10 Bool)) (pa3 : Addr) (a3 : Arr 10 (Arr 10 Bool)) (hin : St w (fpU [box ba1 (cl03Flow.enc a1) 127]) w [box ba1 (cl03Flow.enc a1) 127] [roP pa0 (cPasture.enc a0), roP pa2 ((carr 10 (carr 10 cb)).enc a2), roP pa3 ((carr 10 (carr 10 cb)).enc a3)]) (r : Arr 10 (Arr 10 Bool) × Bool × l03Flow) (H : q07.f k a0 a1 a2 a3 = some r) :
 CV Tryz.prog 81 [.pointer (some pa0), pt ba1, .pointer (some pa2), .pointer (some pa3)].toArray w fun v w' => v = .tuple #[.agg ((carr 10 (carr 10 cb)).enc r.1).toArray, .bool r.2.1] ∧ St w (fpU [box ba1 (cl03Flow.enc a1) 127]) w' [box ba1 (cl03Flow.enc r.2.2) 127] [] := by
 have hS := hin
 unfold q07.f at H
 refine CV.body Tryz.func81 Z Tryz.ntmps81 Z ?_
 refine GO ?_
 refine OJ.ef rfl rfl rfl (Ef.alloc hS oI rfl rfl ((carr 10 (carr 10 cb)).enc (Arr.mk' (Arr.mk' false : Arr 10 Bool) : Arr 10 (Arr 10 Bool))) (by kernel_rfl)) ?_
 rintro _ w1 ⟨b1, rfl, hS⟩
 refine GO ?_
 refine OJ.st rfl rfl rfl (SR.buildA oU oI rfl rfl rfl rfl (zs := [.bool false, .bool false, .bool false, .bool false, .bool false, .bool false, .bool false, .bool false, .bool false, .bool false, .bool false, .bool false, .bool false, .bool false, .bool false, .bool false, .bool false, .bool false, .bool false, .bool false, .bool false, .bool false, .bool false, .bool false, .bool false, .bool false, .bool false, .bool false, .bool false, .bool false, .bool false, .bool false, .bool false, .bool false, .bool false, .bool false, .bool false, .bool false, .bool false, .bool false, .bool false, .bool false, .bool false, .bool false, .bool false, .bool false, .bool false, .bool false, .bool false, .bool false, .bool false, .bool false, .bool false, .bool false, .bool false, .bool false, .bool false, .bool false, .bool false, .bool false, .bool false, .bool false, .bool false, .bool false, .bool false, .bool false, .bool false, .bool false, .bool false, .bool false, .bool false, .bool false, .bool false, .bool false, .bool false, .bool false, .bool false, .bool false, .bool false, .bool false, .bool false, .bool false, .bool false, .bool false, .bool false, .bool false, .bool false, .bool false, .bool false, .bool false, .bool false, .bool false, .bool false, .bool false, .bool false, .bool false, .bool false, .bool false, .bool false, .bool false]) rfl rfl ((carr 10 (carr 10 cb)).enc (Arr.mk' (Arr.mk' false : Arr 10 Bool) : Arr 10 (Arr 10 Bool))) (by kernel_rfl)) ?_
 refine OJ.ef rfl rfl rfl (Ef.alloc hS oI rfl rfl ((carr 10 (carr 10 cb)).enc (Arr.mk' (Arr.mk' false : Arr 10 Bool) : Arr 10 (Arr 10 Bool))) (by kernel_rfl)) ?_
 rintro _ w1 ⟨b2, rfl, hS⟩
 refine OJ.es rfl rfl (Es.put oI hS (i := 2) rfl rfl rfl rfl rfl (vs := (carr 10 (carr 10 cb)).enc (Arr.mk' (Arr.mk' false : Arr 10 Bool) : Arr 10 (Arr 10 Bool))) rfl ((carr 10 (carr 10 cb)).len _) ((carr 10 (carr 10 cb)).one _) (Put.all (carr 10 (carr 10 cb)) (Arr.mk' (Arr.mk' false : Arr 10 Bool) : Arr 10 (Arr 10 Bool)) (Arr.mk' (Arr.mk' false : Arr 10 Bool) : Arr 10 (Arr 10 Bool))) (by (try simp only [add_lit, Nat.add_assoc, Nat.zero_add, Nat.add_zero]) <;> first | rfl | (congr 1; exact Nat.zero_add _))) ?_
 intro w1 hS
 refine GO ?_
 refine OJ.st rfl rfl rfl (SR.buildA oU oI rfl rfl rfl rfl (zs := [.int .i64 0, i6 0, i6 0, i6 0, i6 0, i6 0, i6 0, i6 0, i6 0, i6 0, i6 0, i6 0, i6 0, i6 0, i6 0, i6 0, i6 0, i6 0, i6 0, i6 0, i6 0, i6 0, i6 0, i6 0, i6 0, i6 0, i6 0, i6 0, i6 0, i6 0, i6 0, i6 0, i6 0, i6 0, i6 0, i6 0, i6 0, i6 0, i6 0, i6 0, i6 0, i6 0, i6 0, i6 0, i6 0, i6 0, i6 0, i6 0, i6 0, i6 0, i6 0, i6 0, i6 0, i6 0, i6 0, i6 0, i6 0, i6 0, i6 0, i6 0, i6 0, i6 0, i6 0, i6 0, i6 0, i6 0, i6 0, i6 0, i6 0, i6 0, i6 0, i6 0, i6 0, i6 0, i6 0, i6 0, i6 0, i6 0, i6 0, i6 0, i6 0, i6 0, i6 0, i6 0, i6 0, i6 0, i6 0, i6 0, i6 0, i6 0, i6 0, i6 0, i6 0, i6 0, i6 0, i6 0, i6 0, i6 0, i6 0, i6 0]) rfl rfl ((carr 10 (carr 10 (ci .i64))).enc (Arr.mk' (Arr.mk' 0 : Arr 10 Int) : Arr 10 (Arr 10 Int))) (by kernel_rfl)) ?_
 refine OJ.ef rfl rfl rfl (Ef.alloc hS oI rfl rfl ((carr 10 (carr 10 (ci .i64))).enc (Arr.mk' (Arr.mk' 0 : Arr 10 Int) : Arr 10 (Arr 10 Int))) (by kernel_rfl)) ?_
 rintro _ w1 ⟨b3, rfl, hS⟩
 refine OJ.es rfl rfl (Es.put oI hS (i := 3) rfl rfl rfl rfl rfl (vs := (carr 10 (carr 10 (ci .i64))).enc (Arr.mk' (Arr.mk' 0 : Arr 10 Int) : Arr 10 (Arr 10 Int))) rfl ((carr 10 (carr 10 (ci .i64))).len _) ((carr 10 (carr 10 (ci .i64))).one _) (Put.all (carr 10 (carr 10 (ci .i64))) (Arr.mk' (Arr.mk' 0 : Arr 10 Int) : Arr 10 (Arr 10 Int)) (Arr.mk' (Arr.mk' 0 : Arr 10 Int) : Arr 10 (Arr 10 Int))) (by (try simp only [add_lit, Nat.add_assoc, Nat.zero_add, Nat.add_zero]) <;> first | rfl | (congr 1; exact Nat.zero_add _))) ?_
 intro w1 hS
 refine GO ?_
 refine OF (EL hS cSpot ([] : List Spot)) ?_
 rintro _ w1 ⟨A4, rfl, hS⟩
 refine GO ?_
 obtain ⟨j181, H, K181⟩ := pbind H
 refine CJ.cut1 (fun F w1 => ∃ y5 y6 y7 A8 c9, some j181 = some (y5, y6, y7) ∧ F = [(0, .pointer (some pa0)), (1, pt ba1), (3, .pointer (some pa3)), (8, pt b1), (10, pt b2), (11, pt b3), (12, sl A8 y7 c9)] ∧ St w (fpU [box ba1 (cl03Flow.enc a1) 127]) w1 [box ba1 (cl03Flow.enc a1) 127, box b1 ((carr 10 (carr 10 cb)).enc (Arr.mk' (Arr.mk' false : Arr 10 Bool) : Arr 10 (Arr 10 Bool))) 72, box b2 ((carr 10 (carr 10 cb)).enc y5) 72, box b3 ((carr 10 (carr 10 (ci .i64))).enc y6) 174, rowC cSpot A8 c9 55 y7] [roP pa0 (cPasture.enc a0), roP pa2 ((carr 10 (carr 10 cb)).enc a2), roP pa3 ((carr 10 (carr 10 cb)).enc a3)]) ?_ ?_
 refine CJ.block ?_
 refine LQ (fun k F w1 => ∃ (y10 : Arr 10 (Arr 10 Bool)) (y11 : Arr 10 (Arr 10 Int)) (y12 : List Spot) (y15 : Int) (A13 c14 : _), F = [(0, .pointer (some pa0)), (1, pt ba1), (2, .pointer (some pa2)), (3, .pointer (some pa3)), (8, pt b1), (10, pt b2), (11, pt b3), (12, sl A13 y12 c14), (13, .int .i8 y15)] ∧ St w (fpU [box ba1 (cl03Flow.enc a1) 127]) w1 [box ba1 (cl03Flow.enc a1) 127, box b1 ((carr 10 (carr 10 cb)).enc (Arr.mk' (Arr.mk' false : Arr 10 Bool) : Arr 10 (Arr 10 Bool))) 72, box b2 ((carr 10 (carr 10 cb)).enc y10) 72, box b3 ((carr 10 (carr 10 (ci .i64))).enc y11) 174, rowC cSpot A13 c14 55 y12] [roP pa0 (cPasture.enc a0), roP pa2 ((carr 10 (carr 10 cb)).enc a2), roP pa3 ((carr 10 (carr 10 cb)).enc a3)] ∧ q07.l1 a0 a2 k y10 y11 y12 y15 = some j181) k H hS ?_
 rintro k F w1 ⟨y10, y11, y12, y15, A13, c14, rfl, hS, H⟩
 rw [q07.l1] at H
 refine GO ?_
 refine oS (SL (CA.fld (hS.ca (i := 0) Z) (mid_part (fe_Pasture_1 _) (fl_Pasture_1 _) ((ci .i8).len _)))) ?_
 refine CP H (fun H => ?_) (fun H => ?_)
 refine CJ.skip (EJ.next ?_)
 obtain ⟨j188, H, K188⟩ := pbind H
 refine CJ.cut (fun F w1 => ∃ y16 y17 y18 A19 c20, some j188 = some (y16, y17, y18) ∧ F = [(0, .pointer (some pa0)), (1, pt ba1), (2, .pointer (some pa2)), (3, .pointer (some pa3)), (8, pt b1), (10, pt b2), (11, pt b3), (12, sl A19 y18 c20), (13, .int .i8 y15)] ∧ St w (fpU [box ba1 (cl03Flow.enc a1) 127]) w1 [box ba1 (cl03Flow.enc a1) 127, box b1 ((carr 10 (carr 10 cb)).enc (Arr.mk' (Arr.mk' false : Arr 10 Bool) : Arr 10 (Arr 10 Bool))) 72, box b2 ((carr 10 (carr 10 cb)).enc y16) 72, box b3 ((carr 10 (carr 10 (ci .i64))).enc y17) 174, rowC cSpot A19 c20 55 y18] [roP pa0 (cPasture.enc a0), roP pa2 ((carr 10 (carr 10 cb)).enc a2), roP pa3 ((carr 10 (carr 10 cb)).enc a3)]) ?_ ?_
 refine CJ.block ?_
 refine GO ?_
 obtain ⟨j190, H, K190⟩ := pbind H
 refine CJ.cut1 (fun F w1 => ∃ y21 y22 y23 A24 c25, some j190 = some (y21, y22, y23) ∧ F = [(0, .pointer (some pa0)), (1, pt ba1), (2, .pointer (some pa2)), (3, .pointer (some pa3)), (8, pt b1), (10, pt b2), (11, pt b3), (12, sl A24 y23 c25), (13, .int .i8 y15)] ∧ St w (fpU [box ba1 (cl03Flow.enc a1) 127]) w1 [box ba1 (cl03Flow.enc a1) 127, box b1 ((carr 10 (carr 10 cb)).enc (Arr.mk' (Arr.mk' false : Arr 10 Bool) : Arr 10 (Arr 10 Bool))) 72, box b2 ((carr 10 (carr 10 cb)).enc y21) 72, box b3 ((carr 10 (carr 10 (ci .i64))).enc y22) 174, rowC cSpot A24 c25 55 y23] [roP pa0 (cPasture.enc a0), roP pa2 ((carr 10 (carr 10 cb)).enc a2), roP pa3 ((carr 10 (carr 10 cb)).enc a3)]) ?_ ?_
 refine CJ.block ?_
 refine LQ (fun k F w1 => ∃ (y26 : Arr 10 (Arr 10 Bool)) (y27 : Arr 10 (Arr 10 Int)) (y28 : List Spot) (y31 : Int) (A29 c30 : _), F = [(0, .pointer (some pa0)), (1, pt ba1), (2, .pointer (some pa2)), (3, .pointer (some pa3)), (8, pt b1), (10, pt b2), (11, pt b3), (12, sl A29 y28 c30), (13, .int .i8 y15), (14, .int .i8 y31)] ∧ St w (fpU [box ba1 (cl03Flow.enc a1) 127]) w1 [box ba1 (cl03Flow.enc a1) 127, box b1 ((carr 10 (carr 10 cb)).enc (Arr.mk' (Arr.mk' false : Arr 10 Bool) : Arr 10 (Arr 10 Bool))) 72, box b2 ((carr 10 (carr 10 cb)).enc y26) 72, box b3 ((carr 10 (carr 10 (ci .i64))).enc y27) 174, rowC cSpot A29 c30 55 y28] [roP pa0 (cPasture.enc a0), roP pa2 ((carr 10 (carr 10 cb)).enc a2), roP pa3 ((carr 10 (carr 10 cb)).enc a3)] ∧ q07.l2 a0 a2 y15 k y26 y27 y28 y31 = some j190) k H hS ?_
 rintro k F w1 ⟨y26, y27, y28, y31, A29, c30, rfl, hS, H⟩
 rw [q07.l2] at H
 refine GO ?_
 refine oS (SL (CA.fld (hS.ca (i := 0) Z) (mid_part (fe_Pasture_0 _) (fl_Pasture_0 _) ((ci .i8).len _)))) ?_
 refine CP H (fun H => GO ?_) (fun H => ?_)
 refine CJ.block ?_
 refine GO ?_
 obtain ⟨t32, ht32, H⟩ := pbind H
 refine OJ.st Z Z Z (SR.idxA oU oI Z Z Z Z Z (Arr.lt ht32)) ?_
 obtain ⟨t33, ht33, H⟩ := pbind H
 refine OJ.st Z Z Z (SR.idxA oU oI Z Z Z Z Z (Arr.lt ht33)) ?_
 refine oS (SL (CA.idx (CA.idx (hS.ca (i := 1) Z) ht32) ht33)) ?_
 refine CB H (fun H => GO ?_) (fun H => ?_)
 obtain ⟨t34, ht34, H⟩ := pbind H
 refine OJ.st Z Z Z (SR.idxA oU oI Z Z Z Z Z (Arr.lt ht34)) ?_
 obtain ⟨t35, ht35, H⟩ := pbind H
 refine OJ.st Z Z Z (SR.idxA oU oI Z Z Z Z Z (Arr.lt ht35)) ?_
 refine OJ.es rfl rfl (Es.put oI hS (i := 2) rfl rfl rfl rfl rfl (vs := cb.enc true) rfl rfl (one1 rfl) (Put.idx (Put.idx (Put.all cb t35 true) ht35) ht34) (by (try simp only [add_lit, Nat.add_assoc, Nat.zero_add, Nat.add_zero]) <;> first | rfl | (congr 1; exact Nat.zero_add _))) ?_
 intro w1 hS
 refine GO ?_
 obtain ⟨t36, ht36, H⟩ := pbind H
 refine OJ.st Z Z Z (SR.idxA oU oI Z Z Z Z Z (Arr.lt ht36)) ?_
 obtain ⟨t37, ht37, H⟩ := pbind H
 refine OJ.st Z Z Z (SR.idxA oU oI Z Z Z Z Z (Arr.lt ht37)) ?_
 refine OJ.es rfl rfl (Es.put oI hS (i := 3) rfl rfl rfl rfl rfl (vs := (ci .i64).enc (-1)) rfl rfl (one1 rfl) (Put.idx (Put.idx (Put.all (ci .i64) t37 (-1)) ht37) ht36) (by (try simp only [add_lit, Nat.add_assoc, Nat.zero_add, Nat.add_zero]) <;> first | rfl | (congr 1; exact Nat.zero_add _))) ?_
 intro w1 hS
 refine GO ?_
 refine OJ.st Z Z Z (SR.build (C := cSpot) oU oI Z Z Z (zs := [.int .i8 0, .int .i8 0]) Z Z Z (⟨y31, y15⟩ : Spot) Z) ?_
 refine OF (EL hS cSpot ([(⟨y31, y15⟩ : Spot)] : List Spot)) ?_
 rintro _ w1 ⟨A38, rfl, hS⟩
 obtain ⟨u39, hu39, H⟩ := pbind H
 refine OW (AP hS 4 (rC hS 5 Z) (chk_some hu39)) ?_
 rintro _ w1 ⟨A40, c41, rfl, hS⟩
 exact MD H hS
 exact MD H hS
 exact MD H hS
 rintro F w1 ⟨y21, y22, y23, A24, c25, ⟨⟩, rfl, hS⟩
 have H := K190
 refine EJ.blk (?_)
 exact MD H hS
 rintro F w1 ⟨y16, y17, y18, A19, c20, ⟨⟩, rfl, hS⟩
 have H := K188
 exact MD H hS
 exact MD H hS
 rintro F w1 ⟨y5, y6, y7, A8, c9, ⟨⟩, rfl, hS⟩
 have H := K181
 refine EJ.next ?_
 refine GO ?_
 obtain ⟨j191, H, K191⟩ := pbind H
 refine CJ.cut1 (fun F w1 => ∃ y42, some j191 = some (Sum.inr y42) ∧ F = [(8, pt b1), (10, pt b2)] ∧ St w (fpU [box ba1 (cl03Flow.enc a1) 127]) w1 [box ba1 (cl03Flow.enc a1) 127, box b1 ((carr 10 (carr 10 cb)).enc (Arr.mk' (Arr.mk' false : Arr 10 Bool) : Arr 10 (Arr 10 Bool))) 72, box b2 ((carr 10 (carr 10 cb)).enc y42) 72] [roP pa0 (cPasture.enc a0), roP pa2 ((carr 10 (carr 10 cb)).enc a2), roP pa3 ((carr 10 (carr 10 cb)).enc a3)]) ?_ ?_
 refine CJ.block ?_
 refine LQ (fun k F w1 => ∃ (y43 : Arr 10 (Arr 10 Bool)) (y44 : Arr 10 (Arr 10 Int)) (y45 : List Spot) (y48 : Int) (A46 c47 : _), F = [(0, .pointer (some pa0)), (1, pt ba1), (3, .pointer (some pa3)), (8, pt b1), (10, pt b2), (11, pt b3), (12, sl A46 y45 c47), (15, i6 y48)] ∧ St w (fpU [box ba1 (cl03Flow.enc a1) 127]) w1 [box ba1 (cl03Flow.enc a1) 127, box b1 ((carr 10 (carr 10 cb)).enc (Arr.mk' (Arr.mk' false : Arr 10 Bool) : Arr 10 (Arr 10 Bool))) 72, box b2 ((carr 10 (carr 10 cb)).enc y43) 72, box b3 ((carr 10 (carr 10 (ci .i64))).enc y44) 174, rowC cSpot A46 c47 55 y45] [roP pa0 (cPasture.enc a0), roP pa2 ((carr 10 (carr 10 cb)).enc a2), roP pa3 ((carr 10 (carr 10 cb)).enc a3)] ∧ q07.l3 a0 a1 a3 k y43 y44 y45 y48 = some j191) k H hS ?_
 rintro k F w1 ⟨y43, y44, y45, y48, A46, c47, rfl, hS, H⟩
 rw [q07.l3] at H
 refine GO ?_
 refine CP H (fun H => ?_) (fun H => ?_)
 refine CJ.skip (EJ.next ?_)
 obtain ⟨j214, H, K214⟩ := pbind H
 refine CJ.cut (fun F w1 => ∃ y49 y50 y51 A52 c53, some j214 = some (Sum.inr (y49, y50, y51)) ∧ F = [(0, .pointer (some pa0)), (1, pt ba1), (3, .pointer (some pa3)), (8, pt b1), (10, pt b2), (11, pt b3), (12, sl A52 y51 c53), (15, i6 y48)] ∧ St w (fpU [box ba1 (cl03Flow.enc a1) 127]) w1 [box ba1 (cl03Flow.enc a1) 127, box b1 ((carr 10 (carr 10 cb)).enc (Arr.mk' (Arr.mk' false : Arr 10 Bool) : Arr 10 (Arr 10 Bool))) 72, box b2 ((carr 10 (carr 10 cb)).enc y49) 72, box b3 ((carr 10 (carr 10 (ci .i64))).enc y50) 174, rowC cSpot A52 c53 55 y51] [roP pa0 (cPasture.enc a0), roP pa2 ((carr 10 (carr 10 cb)).enc a2), roP pa3 ((carr 10 (carr 10 cb)).enc a3)]) ?_ ?_
 refine CJ.block ?_
 refine GO ?_
 obtain ⟨t54, ht54, H⟩ := pbind H
 obtain ⟨ad54, e54⟩ := (rC hS 4 Z).some' ht54
 refine OS (SI e54 (getI_some ht54).1) ?_
 refine OS (SE ((rC hS 4 Z).at_ e54 ht54)) ?_
 refine OF (EA hS (cSpot.enc (⟨0, 0⟩ : Spot))) ?_
 rintro _ w1 ⟨b55, rfl, hS⟩
 refine OJ.es Z Z (eS cSpot t54 hS (i := 5) Z Z Z Z Z Z Z Z Z Z) ?_
 intro w1 hS
 refine GO ?_
 refine CJ.draw [] [0, 1, 2, 3, 4, 5, 6, 7, 8] mixed (by kernel_rfl) hS fun w1 hS => ?_
 refine GO ?_
 refine dS (SL (cf hS 5 1)) ?_
 refine dS (SL (cf hS 5 0)) ?_
 obtain ⟨t56, ht56, H⟩ := pbind H
 refine DJ.st Z Z Z Z Z (SR.idxA oU oI Z Z Z Z Z (Arr.lt ht56)) ?_
 obtain ⟨t57, ht57, H⟩ := pbind H
 refine DJ.st Z Z Z Z Z (SR.idxA oU oI Z Z Z Z Z (Arr.lt ht57)) ?_
 refine dS (SL (CA.idx (CA.idx (hS.ca (i := 2) Z) ht56) ht57)) ?_
 refine CB H (fun H => ?_) (fun H => ?_)
 obtain ⟨j220, H, K220⟩ := pbind H
 refine CJ.cut (fun F w1 => ∃ y58, some y58 = some j220 ∧ F = [(8, pt b1), (10, pt b2)] ∧ St w (fpU [box ba1 (cl03Flow.enc a1) 127]) w1 [box ba1 (cl03Flow.enc y58) 127, box b1 ((carr 10 (carr 10 cb)).enc (Arr.mk' (Arr.mk' false : Arr 10 Bool) : Arr 10 (Arr 10 Bool))) 72, box b2 ((carr 10 (carr 10 cb)).enc y43) 72] [roP pa0 (cPasture.enc a0), roP pa2 ((carr 10 (carr 10 cb)).enc a2), roP pa3 ((carr 10 (carr 10 cb)).enc a3)]) ?_ ?_
 refine CJ.block ?_
 refine LQ (fun k F w1 => ∃ (y59 : l03Flow) (y60 : Spot), F = [(1, pt ba1), (8, pt b1), (10, pt b2), (11, pt b3), (16, pt b55)] ∧ St w (fpU [box ba1 (cl03Flow.enc a1) 127]) w1 [box ba1 (cl03Flow.enc y59) 127, box b1 ((carr 10 (carr 10 cb)).enc (Arr.mk' (Arr.mk' false : Arr 10 Bool) : Arr 10 (Arr 10 Bool))) 72, box b2 ((carr 10 (carr 10 cb)).enc y43) 72, box b3 ((carr 10 (carr 10 (ci .i64))).enc y44) 174, box b55 (cSpot.enc y60) 55] [roP pa0 (cPasture.enc a0), roP pa2 ((carr 10 (carr 10 cb)).enc a2), roP pa3 ((carr 10 (carr 10 cb)).enc a3)] ∧ q07.l4 y44 k y59 y60 = some j220) k H hS ?_
 rintro k F w1 ⟨y59, y60, rfl, hS, H⟩
 rw [q07.l4] at H
 refine GO ?_
 refine CJ.draw [] [0, 1, 2, 3, 4, 5, 6, 7] mixed (by kernel_rfl) hS fun w1 hS => ?_
 refine GO ?_
 refine dS (SL (cf hS 4 1)) ?_
 refine DS (SL (cf hS 4 0)) ?_
 obtain ⟨t61, ht61, H⟩ := pbind H
 refine DJ.st Z Z Z Z Z (SR.idxA oU oI Z Z Z Z Z (Arr.lt ht61)) ?_
 obtain ⟨t62, ht62, H⟩ := pbind H
 refine DJ.st Z Z Z Z Z (SR.idxA oU oI Z Z Z Z Z (Arr.lt ht62)) ?_
 refine dS (SL (CA.idx (CA.idx (ce hS 3) ht61) ht62)) ?_
 refine CP H (fun H => GO ?_) (fun H => ?_)
 refine CJ.block ?_
 refine GO ?_
 obtain ⟨t63, ht63, H⟩ := pbind H
 obtain ⟨t64, ht64, H⟩ := pbind H
 obtain ⟨t65, ht65, H⟩ := pbind H
 refine CJ.cut1 (fun F w1 => ∃ (b66 : Nat), F = [(1, pt ba1), (8, pt b1), (10, pt b2), (11, pt b3), (16, pt b55), (17, pt b66)] ∧ St w (fpU [box ba1 (cl03Flow.enc a1) 127]) w1 [box ba1 (cl03Flow.enc y59) 127, box b1 ((carr 10 (carr 10 cb)).enc (Arr.mk' (Arr.mk' false : Arr 10 Bool) : Arr 10 (Arr 10 Bool))) 72, box b2 ((carr 10 (carr 10 cb)).enc y43) 72, box b3 ((carr 10 (carr 10 (ci .i64))).enc y44) 174, box b55 (cSpot.enc y60) 55, box b66 (cSpot.enc t65) 55] [roP pa0 (cPasture.enc a0), roP pa2 ((carr 10 (carr 10 cb)).enc a2), roP pa3 ((carr 10 (carr 10 cb)).enc a3)]) ?_ ?_
 refine CJ.drawT [] [8, 9, 10] (.one 0 (.one 1 (.one 2 (.one 3 (.one 4 (.one 5 (.one 6 (.one 7 (.br (.alt 8 (.one 9 (.one 10 (.fin))) (.alt 9 (.one 8 (.one 10 (.fin))) (.stop)))))))))))) mixed (by kernel_rfl) hS [3, 4] fun w1 hS hY hV => ?_
 refine TJ.st hY Z Z Z Z Z (fun w2 hY => SR.load Z Z (fun w' hx => ldE oU oI Z Z Z (CA.ext ((hV w2 hY).cellsR (i := 4) Z) hx) Z)) ?_
 refine TP (fun _ => SF) ?_
 refine TL hY (fun w2 hY => SL (CA.sub ((hV w2 hY).cellsR (i := 4) Z) 1)) ?_
 refine TP (fun _ => SF) ?_
 refine TL hY (fun w2 hY => SL (CA.sub ((hV w2 hY).cellsR (i := 4) Z) 0)) ?_
 refine TJ.sp Z Z Z Z Z (fun w2 => SR.idxA oU oI Z Z Z Z Z (Arr.lt ht63)) ?_
 refine TJ.sp Z Z Z Z Z (fun w2 => SR.idxA oU oI Z Z Z Z Z (Arr.lt ht64)) ?_
 refine TL hY (fun w2 hY => SL (CA.idx (CA.idx ((hV w2 hY).cellsR (i := 3) Z) ht63) ht64)) ?_
 refine TJ.br ?_
 refine TJ.alt ?_ ?_
 refine TJ.callF hY rfl rfl rfl rfl rfl rfl rfl hb67 rfl (q0y.c y60 _ ht65) (by rintro v w' ⟨rfl, hs⟩; exact hs) ?_
 rintro _ w1 hY ⟨rfl, hs⟩
 replace hS := hS.grow hs
 refine TF hY (EA hS (cSpot.enc (⟨0, 0⟩ : Spot))) ?_
 rintro _ w1 hY ⟨b67, rfl, hS⟩
 have hO := hS
 refine TJ.es rfl rfl rfl rfl (Es.store oI (hS.inn [3, 4]) (i := 5) rfl rfl rfl rfl rfl rfl (vs := cSpot.enc t65) rfl (cSpot.len _) (cSpot.one _) (Nat.le_of_ble_eq_true rfl) (cSpot.enc t65) rfl) (by intro w1 hS; exact hY.wr (hO.inY [3, 4] 3 rfl rfl) hS.chg) ?_
 intro w1 hY hS
 have hS : St _ _ _ [_, _, _, _, _, _] _ := hO.out [3, 4] hS
 exact MD H hS
 refine TJ.alt ?_ ?_
 refine TF hY (EA hS (cSpot.enc (⟨0, 0⟩ : Spot))) ?_
 rintro _ w1 hY ⟨b68, rfl, hS⟩
 refine TJ.callF hY rfl rfl rfl rfl rfl rfl rfl hb67 rfl (q0y.c y60 _ ht65) (by rintro v w' ⟨rfl, hs⟩; exact hs) ?_
 rintro _ w1 hY ⟨rfl, hs⟩
 replace hS := hS.grow hs
 have hO := hS
 refine TJ.es rfl rfl rfl rfl (Es.store oI (hS.inn [3, 4]) (i := 5) rfl rfl rfl rfl rfl rfl (vs := cSpot.enc t65) rfl (cSpot.len _) (cSpot.one _) (Nat.le_of_ble_eq_true rfl) (cSpot.enc t65) rfl) (by intro w1 hS; exact hY.wr (hO.inY [3, 4] 3 rfl rfl) hS.chg) ?_
 intro w1 hY hS
 have hS : St _ _ _ [_, _, _, _, _, _] _ := hO.out [3, 4] hS
 exact MD H hS
 exact TJ.stop
 rintro F w1 ⟨b66, rfl, hS⟩
 refine EJ.next ?_
 refine GO ?_
 refine CJ.draw [11] [0, 1, 2, 3, 4, 5, 6, 7, 8, 9, 10, 11] mixed (by kernel_rfl) hS fun w1 hS => ?_
 refine GO ?_
 refine dS (SE (ce hS 5)) ?_
 refine dS (SL (cf hS 4 1)) ?_
 refine DS (SL (cf hS 4 0)) ?_
 obtain ⟨t69, ht69, H⟩ := pbind H
 refine DJ.st Z Z Z Z Z (SR.idxA oU oI Z Z Z Z Z (Arr.lt ht69)) ?_
 obtain ⟨t70, ht70, H⟩ := pbind H
 refine DJ.st Z Z Z Z Z (SR.idxA oU oI Z Z Z Z Z (Arr.lt ht70)) ?_
 refine dS (SL (CA.idx (CA.idx (ce hS 3) ht69) ht70)) ?_
 refine DJ.st rfl rfl rfl rfl rfl (SR.rem rfl rfl rfl (by decide)) ?_
 obtain ⟨t71, ht71, H⟩ := pbind H
 refine DJ.callFw Z Z Z Z Z Z Z hb124 Z (q2q.c ba1 y59 t65 ((hS.subs [0] [] [] Z).pick [0] [] Z) _ ht71) ?_
 rintro _ w1 ⟨rfl, hs⟩
 replace hS := hS.back [0] Z Z [box ba1 (cl03Flow.enc t71) 127] [] hs ⟨fun _ => Iff.rfl, trivial⟩
 have hS : St _ _ _ [_, _, _, _, _, _] _ := hS
 have hS : St _ _ _ [_, _, _, _, _, _] _ := hS
 refine GO ?_
 refine OS (SE (ce hS 5)) ?_
 refine OJ.es Z Z (eS cSpot t65 hS (i := 4) Z Z Z Z Z Z Z Z Z Z) ?_
 intro w1 hS
 exact MD H hS
 exact MD H hS
 rintro F w1 ⟨y58, he, rfl, hS⟩
 obtain rfl := Option.some.inj he
 have H := K220
 refine GO ?_
 refine OS (SE (ce hS 2)) ?_
 refine OJ.es rfl rfl (Es.put oI hS (i := 1) rfl rfl rfl rfl rfl (vs := (carr 10 (carr 10 cb)).enc y43) rfl ((carr 10 (carr 10 cb)).len _) ((carr 10 (carr 10 cb)).one _) (Put.all (carr 10 (carr 10 cb)) (Arr.mk' (Arr.mk' false : Arr 10 Bool) : Arr 10 (Arr 10 Bool)) y43) (by (try simp only [add_lit, Nat.add_assoc, Nat.zero_add, Nat.add_zero]) <;> first | rfl | (congr 1; exact Nat.zero_add _))) ?_
 intro w1 hS
 refine GO ?_
 obtain rfl := Option.some.inj H; have H := K214
 obtain rfl := Option.some.inj H; have H := K191
 obtain rfl := Option.some.inj H
 exact EJ.fin Z (.cell Z (ldE oU oI Z Z Z (hS.cells (i := 1) Z) Z) (.tmp Z .nil)) ⟨Z, hS.pick [0] [] Z⟩
 refine GO ?_
 obtain ⟨j221, H, K221⟩ := pbind H
 refine CJ.cut1 (fun F w1 => ∃ y72 y73 y74 A75 c76, some j221 = some (y72, y73, y74) ∧ F = [(0, .pointer (some pa0)), (1, pt ba1), (3, .pointer (some pa3)), (8, pt b1), (10, pt b2), (11, pt b3), (12, sl A75 y74 c76), (15, i6 y48)] ∧ St w (fpU [box ba1 (cl03Flow.enc a1) 127]) w1 [box ba1 (cl03Flow.enc a1) 127, box b1 ((carr 10 (carr 10 cb)).enc (Arr.mk' (Arr.mk' false : Arr 10 Bool) : Arr 10 (Arr 10 Bool))) 72, box b2 ((carr 10 (carr 10 cb)).enc y72) 72, box b3 ((carr 10 (carr 10 (ci .i64))).enc y73) 174, rowC cSpot A75 c76 55 y74] [roP pa0 (cPasture.enc a0), roP pa2 ((carr 10 (carr 10 cb)).enc a2), roP pa3 ((carr 10 (carr 10 cb)).enc a3)]) ?_ ?_
 refine CJ.block ?_
 refine LQ (fun k F w1 => ∃ (y77 : Arr 10 (Arr 10 Bool)) (y78 : Arr 10 (Arr 10 Int)) (y79 : List Spot) (y82 : Int) (A80 c81 : _), F = [(0, .pointer (some pa0)), (1, pt ba1), (3, .pointer (some pa3)), (8, pt b1), (10, pt b2), (11, pt b3), (12, sl A80 y79 c81), (15, i6 y48), (16, pt b55), (18, i6 y82)] ∧ St w (fpU [box ba1 (cl03Flow.enc a1) 127]) w1 [box ba1 (cl03Flow.enc a1) 127, box b1 ((carr 10 (carr 10 cb)).enc (Arr.mk' (Arr.mk' false : Arr 10 Bool) : Arr 10 (Arr 10 Bool))) 72, box b2 ((carr 10 (carr 10 cb)).enc y77) 72, box b3 ((carr 10 (carr 10 (ci .i64))).enc y78) 174, rowC cSpot A80 c81 55 y79, box b55 (cSpot.enc t54) 55] [roP pa0 (cPasture.enc a0), roP pa2 ((carr 10 (carr 10 cb)).enc a2), roP pa3 ((carr 10 (carr 10 cb)).enc a3)] ∧ q07.l5 a0 a1 t54 k y77 y78 y79 y82 = some j221) k H hS ?_
 rintro k F w1 ⟨y77, y78, y79, y82, A80, c81, rfl, hS, H⟩
 rw [q07.l5] at H
 refine GO ?_
 refine CP H (fun H => GO ?_) (fun H => ?_)
 refine CJ.block ?_
 refine GO ?_
 refine oS (SE (ce hS 5)) ?_
 refine OB H hS hb67 (q0y.c t54) fun t83 w1 H hS => ?_
 refine OF (EA hS (cSpot.enc (⟨0, 0⟩ : Spot))) ?_
 rintro _ w1 ⟨b84, rfl, hS⟩
 refine OJ.es Z Z (eS cSpot t83 hS (i := 6) Z Z Z Z Z Z Z Z Z Z) ?_
 intro w1 hS
 refine NX ?_
 refine CJ.seq ?_
 obtain ⟨j224, H, K224⟩ := pbind H
 refine CJ.cut (fun F w1 => ∃ y85, some y85 = some j224 ∧ F = [(0, .pointer (some pa0)), (1, pt ba1), (3, .pointer (some pa3)), (8, pt b1), (10, pt b2), (11, pt b3), (12, sl A80 y79 c81), (15, i6 y48), (16, pt b55), (18, i6 y82), (19, pt b84), (136, .bool y85)] ∧ St w (fpU [box ba1 (cl03Flow.enc a1) 127]) w1 [box ba1 (cl03Flow.enc a1) 127, box b1 ((carr 10 (carr 10 cb)).enc (Arr.mk' (Arr.mk' false : Arr 10 Bool) : Arr 10 (Arr 10 Bool))) 72, box b2 ((carr 10 (carr 10 cb)).enc y77) 72, box b3 ((carr 10 (carr 10 (ci .i64))).enc y78) 174, rowC cSpot A80 c81 55 y79, box b55 (cSpot.enc t54) 55, box b84 (cSpot.enc t83) 55] [roP pa0 (cPasture.enc a0), roP pa2 ((carr 10 (carr 10 cb)).enc a2), roP pa3 ((carr 10 (carr 10 cb)).enc a3)]) ?_ ?_
 refine CJ.draw [] [0, 1, 2, 3, 4, 5, 6, 7, 8, 9, 10, 11, 12, 13, 14, 15, 16, 17, 18, 19] mixed (by kernel_rfl) hS fun w1 hS => ?_
 refine GO ?_
 refine dS (SE (ce hS 5)) ?_
 obtain ⟨t86, ht86, H⟩ := pbind H
 refine DJ.callF rfl rfl rfl rfl rfl rfl rfl hb125 rfl (q23.c _ a0 (hS.ca (i := 0) rfl) t54 _ ht86) (by rintro v w' ⟨rfl, hs⟩; exact hs) ?_
 rintro _ w1 ⟨rfl, hs⟩
 replace hS := hS.grow hs
 refine GO ?_
 refine DJ.split (t := 121) Z (fun hb => ?_) (fun hb => ?_)
 replace H := pif_t hb H
 exact MD H hS
 replace H := pifb_f hb H
 refine GO ?_
 refine dS (SL (cf hS 6 1)) ?_
 refine DS (SL (cf hS 6 0)) ?_
 obtain ⟨t87, ht87, H⟩ := pbind H
 refine DJ.st Z Z Z Z Z (SR.idxA oU oI Z Z Z Z Z (Arr.lt ht87)) ?_
 obtain ⟨t88, ht88, H⟩ := pbind H
 refine DJ.st Z Z Z Z Z (SR.idxA oU oI Z Z Z Z Z (Arr.lt ht88)) ?_
 refine dS (SL (CA.idx (CA.idx (ce hS 2) ht87) ht88)) ?_
 refine DJ.split (t := 130) Z (fun hb => ?_) (fun hb => ?_)
 replace H := pif_t hb H
 exact MD H hS
 replace H := pifb_f hb H
 refine GO ?_
 refine dS (SE (ce hS 5)) ?_
 obtain ⟨t89, ht89, H⟩ := pbind H
 refine DJ.callF rfl rfl rfl rfl rfl rfl rfl hb126 rfl (q2n.c _ a1 (hS.cells (i := 0) rfl) t54 _ ht89) (by rintro v w' ⟨rfl, hs⟩; exact hs) ?_
 rintro _ w1 ⟨rfl, hs⟩
 replace hS := hS.grow hs
 exact MD H hS
 rintro F w1 ⟨y85, he, rfl, hS⟩
 obtain rfl := Option.some.inj he
 have H := K224
 refine CB H (fun H => ?_) (fun H => ?_)
 exact MD H hS
 refine GO ?_
 refine CJ.draw [] [0, 1, 2, 3, 4, 5, 6] mixed (by kernel_rfl) hS fun w1 hS => ?_
 refine GO ?_
 refine dS (SL (cf hS 6 1)) ?_
 refine DS (SL (cf hS 6 0)) ?_
 obtain ⟨t90, ht90, H⟩ := pbind H
 refine DJ.st Z Z Z Z Z (SR.idxA oU oI Z Z Z Z Z (Arr.lt ht90)) ?_
 obtain ⟨t91, ht91, H⟩ := pbind H
 refine DJ.st Z Z Z Z Z (SR.idxA oU oI Z Z Z Z Z (Arr.lt ht91)) ?_
 refine DJ.es rfl rfl rfl rfl (Es.put oI hS (i := 2) rfl rfl rfl rfl rfl (vs := cb.enc true) rfl rfl (one1 rfl) (Put.idx (Put.idx (Put.all cb t91 true) ht91) ht90) (by (try simp only [add_lit, Nat.add_assoc, Nat.zero_add, Nat.add_zero]) <;> first | rfl | (congr 1; exact Nat.zero_add _))) ?_
 intro w1 hS
 refine GO ?_
 refine CJ.draw [] [0, 1, 2, 3, 4, 5, 6, 7, 8, 9] mixed (by kernel_rfl) hS fun w1 hS => ?_
 refine GO ?_
 refine dS (SL (cf hS 6 1)) ?_
 refine dS (SL (cf hS 6 0)) ?_
 refine DJ.st rfl rfl rfl rfl rfl (SR.rem rfl rfl rfl (by decide)) ?_
 obtain ⟨t92, ht92, H⟩ := pbind H
 refine DJ.st Z Z Z Z Z (SR.idxA oU oI Z Z Z Z Z (Arr.lt ht92)) ?_
 obtain ⟨t93, ht93, H⟩ := pbind H
 refine DJ.st Z Z Z Z Z (SR.idxA oU oI Z Z Z Z Z (Arr.lt ht93)) ?_
 refine DJ.es rfl rfl rfl rfl (Es.put oI hS (i := 3) rfl rfl rfl rfl rfl (vs := (ci .i64).enc (Int.tmod (IntKind.i64.wrap (y82 + 2)) 4)) rfl rfl (one1 rfl) (Put.idx (Put.idx (Put.all (ci .i64) t93 (Int.tmod (IntKind.i64.wrap (y82 + 2)) 4)) ht93) ht92) (by (try simp only [add_lit, Nat.add_assoc, Nat.zero_add, Nat.add_zero]) <;> first | rfl | (congr 1; exact Nat.zero_add _))) ?_
 intro w1 hS
 refine GO ?_
 refine OS (SE (ce hS 6)) ?_
 refine OF (EL hS cSpot ([t83] : List Spot)) ?_
 rintro _ w1 ⟨A94, rfl, hS⟩
 obtain ⟨u95, hu95, H⟩ := pbind H
 refine OW (AP hS 4 (rC hS 7 Z) (chk_some hu95)) ?_
 rintro _ w1 ⟨A96, c97, rfl, hS⟩
 exact MD H hS
 exact MD H hS
 rintro F w1 ⟨y72, y73, y74, A75, c76, ⟨⟩, rfl, hS⟩
 have H := K221
 refine EJ.blk (?_)
 exact MD H hS
 rintro F w1 ⟨y49, y50, y51, A52, c53, ⟨⟩, rfl, hS⟩
 have H := K214
 exact MD H hS
 exact MD H hS
 rintro F w1 ⟨y42, ⟨⟩, rfl, hS⟩
 have H := K191
 refine EJ.next ?_
 refine GO ?_
 refine OS (SE (ce hS 2)) ?_
 refine OJ.es rfl rfl (Es.put oI hS (i := 1) rfl rfl rfl rfl rfl (vs := (carr 10 (carr 10 cb)).enc y42) rfl ((carr 10 (carr 10 cb)).len _) ((carr 10 (carr 10 cb)).one _) (Put.all (carr 10 (carr 10 cb)) (Arr.mk' (Arr.mk' false : Arr 10 Bool) : Arr 10 (Arr 10 Bool)) y42) (by (try simp only [add_lit, Nat.add_assoc, Nat.zero_add, Nat.add_zero]) <;> first | rfl | (congr 1; exact Nat.zero_add _))) ?_
 intro w1 hS
 refine GO ?_
 obtain rfl := Option.some.inj H
 exact EJ.fin Z (.cell Z (ldE oU oI Z Z Z (hS.cells (i := 1) Z) Z) (.tmp Z .nil)) ⟨Z, hS.pick [0] [] Z⟩

def q1c.l1 (a0 : Pasture) (t2 : Arr 10 (Arr 10 Bool)) (t4 : Arr 10 (Arr 10 Bool)) : Nat → l03Flow → (Arr 10 (Arr 10 Bool)) → Bool → Option (Arr 10 (Arr 10 Bool))
  | 0, _, _, _ => none
  | k + 1, y10, y11, y12 => if y12 = true then ((q07.f k a0 y10 t2 t4).bind fun t13 => q1c.l1 a0 t2 t4 k t13.2.2 t13.1 t13.2.1) else (some y11)
def q1c.f (k : Nat) (a0 : Pasture) (a1 : List Spot) (a2 : List Spot) : Option (Arr 10 (Arr 10 Bool)) := (q1n.f k a1).bind fun t2 => (q1n.f k a2).bind fun t4 => (q07.f k a0 (⟨(Arr.mk' (Arr.mk' 0 : Arr 10 Int) : Arr 10 (Arr 10 Int)), (Arr.mk' (Arr.mk' 0 : Arr 10 Int) : Arr 10 (Arr 10 Int))⟩ : l03Flow) t2 t4).bind fun t7 => (q1c.l1 a0 t2 t4 k t7.2.2 t7.1 t7.2.1).bind fun y9 => some y9
theorem q1c.c {k w} (pa0 : Addr) (a0 : Pasture) (hp0 : CA w pa0 (cPasture.enc a0)) {Aa1 ca1} {a1 : List Spot} (hr1 : Rd cSpot w Aa1 a1) (hc1 : a1.length ≤ ca1) {Aa2 ca2} {a2 : List Spot} (hr2 : Rd cSpot w Aa2 a2) (hc2 : a2.length ≤ ca2) (r : Arr 10 (Arr 10 Bool)) (H : q1c.f k a0 a1 a2 = some r) :
 CV Tryz.prog 33 [.pointer (some pa0), sl Aa1 a1 ca1, sl Aa2 a2 ca2].toArray w fun v w' => v = .agg ((carr 10 (carr 10 cb)).enc r).toArray ∧ Ext w w' := by
 have hS := ((((St.init w no).paramP pa0 (cPasture.enc a0) hp0).param cSpot Aa1 ca1 a1 hr1 hc1).param cSpot Aa2 ca2 a2 hr2 hc2)
 unfold q1c.f at H
 refine CV.body Tryz.func33 Z Tryz.ntmps33 Z ?_
 refine GO ?_
 refine OJ.ef rfl rfl rfl (Ef.alloc hS oI rfl rfl ((carr 10 (carr 10 cb)).enc (Arr.mk' (Arr.mk' false : Arr 10 Bool) : Arr 10 (Arr 10 Bool))) (by kernel_rfl)) ?_
 rintro _ w1 ⟨b1, rfl, hS⟩
 refine GO ?_
 refine OB H hS hb80 (q1n.c (rA hS 1 Z) (rB hS 1 Z)) fun t2 w1 H hS => ?_
 refine OJ.ef rfl rfl rfl (Ef.alloc hS oI rfl rfl ((carr 10 (carr 10 cb)).enc (Arr.mk' (Arr.mk' false : Arr 10 Bool) : Arr 10 (Arr 10 Bool))) (by kernel_rfl)) ?_
 rintro _ w1 ⟨b3, rfl, hS⟩
 refine OJ.es rfl rfl (Es.put oI hS (i := 1) rfl rfl rfl rfl rfl (vs := (carr 10 (carr 10 cb)).enc t2) rfl ((carr 10 (carr 10 cb)).len _) ((carr 10 (carr 10 cb)).one _) (Put.all (carr 10 (carr 10 cb)) (Arr.mk' (Arr.mk' false : Arr 10 Bool) : Arr 10 (Arr 10 Bool)) t2) (by (try simp only [add_lit, Nat.add_assoc, Nat.zero_add, Nat.add_zero]) <;> first | rfl | (congr 1; exact Nat.zero_add _))) ?_
 intro w1 hS
 refine GO ?_
 refine OB H hS hb80 (q1n.c (rA hS 2 Z) (rB hS 2 Z)) fun t4 w1 H hS => ?_
 refine OJ.ef rfl rfl rfl (Ef.alloc hS oI rfl rfl ((carr 10 (carr 10 cb)).enc (Arr.mk' (Arr.mk' false : Arr 10 Bool) : Arr 10 (Arr 10 Bool))) (by kernel_rfl)) ?_
 rintro _ w1 ⟨b5, rfl, hS⟩
 refine OJ.es rfl rfl (Es.put oI hS (i := 2) rfl rfl rfl rfl rfl (vs := (carr 10 (carr 10 cb)).enc t4) rfl ((carr 10 (carr 10 cb)).len _) ((carr 10 (carr 10 cb)).one _) (Put.all (carr 10 (carr 10 cb)) (Arr.mk' (Arr.mk' false : Arr 10 Bool) : Arr 10 (Arr 10 Bool)) t4) (by (try simp only [add_lit, Nat.add_assoc, Nat.zero_add, Nat.add_zero]) <;> first | rfl | (congr 1; exact Nat.zero_add _))) ?_
 intro w1 hS
 refine GO ?_
 refine OJ.st Z Z Z (SR.build (C := cl03Flow) oU oI Z Z Z (zs := [.int .i8 0, .int .i8 0, .int .i8 0, .int .i8 0, .int .i8 0, .int .i8 0, .int .i8 0, .int .i8 0, .int .i8 0, .int .i8 0, .int .i8 0, .int .i8 0, .int .i8 0, .int .i8 0, .int .i8 0, .int .i8 0, .int .i8 0, .int .i8 0, .int .i8 0, .int .i8 0, .int .i8 0, .int .i8 0, .int .i8 0, .int .i8 0, .int .i8 0, .int .i8 0, .int .i8 0, .int .i8 0, .int .i8 0, .int .i8 0, .int .i8 0, .int .i8 0, .int .i8 0, .int .i8 0, .int .i8 0, .int .i8 0, .int .i8 0, .int .i8 0, .int .i8 0, .int .i8 0, .int .i8 0, .int .i8 0, .int .i8 0, .int .i8 0, .int .i8 0, .int .i8 0, .int .i8 0, .int .i8 0, .int .i8 0, .int .i8 0, .int .i8 0, .int .i8 0, .int .i8 0, .int .i8 0, .int .i8 0, .int .i8 0, .int .i8 0, .int .i8 0, .int .i8 0, .int .i8 0, .int .i8 0, .int .i8 0, .int .i8 0, .int .i8 0, .int .i8 0, .int .i8 0, .int .i8 0, .int .i8 0, .int .i8 0, .int .i8 0, .int .i8 0, .int .i8 0, .int .i8 0, .int .i8 0, .int .i8 0, .int .i8 0, .int .i8 0, .int .i8 0, .int .i8 0, .int .i8 0, .int .i8 0, .int .i8 0, .int .i8 0, .int .i8 0, .int .i8 0, .int .i8 0, .int .i8 0, .int .i8 0, .int .i8 0, .int .i8 0, .int .i8 0, .int .i8 0, .int .i8 0, .int .i8 0, .int .i8 0, .int .i8 0, .int .i8 0, .int .i8 0, .int .i8 0, .int .i8 0, .int .i8 0, .int .i8 0, .int .i8 0, .int .i8 0, .int .i8 0, .int .i8 0, .int .i8 0, .int .i8 0, .int .i8 0, .int .i8 0, .int .i8 0, .int .i8 0, .int .i8 0, .int .i8 0, .int .i8 0, .int .i8 0, .int .i8 0, .int .i8 0, .int .i8 0, .int .i8 0, .int .i8 0, .int .i8 0, .int .i8 0, .int .i8 0, .int .i8 0, .int .i8 0, .int .i8 0, .int .i8 0, .int .i8 0, .int .i8 0, .int .i8 0, .int .i8 0, .int .i8 0, .int .i8 0, .int .i8 0, .int .i8 0, .int .i8 0, .int .i8 0, .int .i8 0, .int .i8 0, .int .i8 0, .int .i8 0, .int .i8 0, .int .i8 0, .int .i8 0, .int .i8 0, .int .i8 0, .int .i8 0, .int .i8 0, .int .i8 0, .int .i8 0, .int .i8 0, .int .i8 0, .int .i8 0, .int .i8 0, .int .i8 0, .int .i8 0, .int .i8 0, .int .i8 0, .int .i8 0, .int .i8 0, .int .i8 0, .int .i8 0, .int .i8 0, .int .i8 0, .int .i8 0, .int .i8 0, .int .i8 0, .int .i8 0, .int .i8 0, .int .i8 0, .int .i8 0, .int .i8 0, .int .i8 0, .int .i8 0, .int .i8 0, .int .i8 0, .int .i8 0, .int .i8 0, .int .i8 0, .int .i8 0, .int .i8 0, .int .i8 0, .int .i8 0, .int .i8 0, .int .i8 0, .int .i8 0, .int .i8 0, .int .i8 0, .int .i8 0, .int .i8 0, .int .i8 0, .int .i8 0, .int .i8 0, .int .i8 0, .int .i8 0, .int .i8 0, .int .i8 0, .int .i8 0, .int .i8 0]) Z Z Z (⟨(Arr.mk' (Arr.mk' 0 : Arr 10 Int) : Arr 10 (Arr 10 Int)), (Arr.mk' (Arr.mk' 0 : Arr 10 Int) : Arr 10 (Arr 10 Int))⟩ : l03Flow) Z) ?_
 refine OJ.ef rfl rfl rfl (Ef.alloc hS oI rfl rfl (cl03Flow.enc (⟨(Arr.mk' (Arr.mk' 0 : Arr 10 Int) : Arr 10 (Arr 10 Int)), (Arr.mk' (Arr.mk' 0 : Arr 10 Int) : Arr 10 (Arr 10 Int))⟩ : l03Flow)) (by kernel_rfl)) ?_
 rintro _ w1 ⟨b6, rfl, hS⟩
 refine OJ.es rfl rfl (Es.put oI hS (i := 3) rfl rfl rfl rfl rfl (vs := cl03Flow.enc (⟨(Arr.mk' (Arr.mk' 0 : Arr 10 Int) : Arr 10 (Arr 10 Int)), (Arr.mk' (Arr.mk' 0 : Arr 10 Int) : Arr 10 (Arr 10 Int))⟩ : l03Flow)) rfl (cl03Flow.len _) (cl03Flow.one _) (Put.all cl03Flow (⟨(Arr.mk' (Arr.mk' 0 : Arr 10 Int) : Arr 10 (Arr 10 Int)), (Arr.mk' (Arr.mk' 0 : Arr 10 Int) : Arr 10 (Arr 10 Int))⟩ : l03Flow) (⟨(Arr.mk' (Arr.mk' 0 : Arr 10 Int) : Arr 10 (Arr 10 Int)), (Arr.mk' (Arr.mk' 0 : Arr 10 Int) : Arr 10 (Arr 10 Int))⟩ : l03Flow)) (by (try simp only [add_lit, Nat.add_assoc, Nat.zero_add, Nat.add_zero]) <;> first | rfl | (congr 1; exact Nat.zero_add _))) ?_
 intro w1 hS
 refine GO ?_
 obtain ⟨t7, ht7, H⟩ := pbind H
 refine OC hb81 (q07.c pa0 a0 b6 (⟨(Arr.mk' (Arr.mk' 0 : Arr 10 Int) : Arr 10 (Arr 10 Int)), (Arr.mk' (Arr.mk' 0 : Arr 10 Int) : Arr 10 (Arr 10 Int))⟩ : l03Flow) ⟨b3, 0, none⟩ t2 ⟨b5, 0, none⟩ t4 ((((hS.subs [3] [0] [1, 2] Z).rToRoP (i := 1) Z).rToRoP (i := 2) Z).pick [0] [0, 1, 2] Z) _ ht7) ?_
 rintro _ w1 ⟨rfl, hs⟩
 replace hS := hS.back [3] Z Z [box b6 (cl03Flow.enc t7.2.2) 127] [] hs ⟨fun _ => Iff.rfl, trivial⟩
 refine GO ?_
 refine OJ.ef rfl rfl rfl (Ef.alloc hS oI rfl rfl ((carr 10 (carr 10 cb)).enc (Arr.mk' (Arr.mk' false : Arr 10 Bool) : Arr 10 (Arr 10 Bool))) (by kernel_rfl)) ?_
 rintro _ w1 ⟨b8, rfl, hS⟩
 refine OJ.es rfl rfl (Es.put oI hS (i := 4) rfl rfl rfl rfl rfl (vs := (carr 10 (carr 10 cb)).enc t7.1) rfl ((carr 10 (carr 10 cb)).len _) ((carr 10 (carr 10 cb)).one _) (Put.all (carr 10 (carr 10 cb)) (Arr.mk' (Arr.mk' false : Arr 10 Bool) : Arr 10 (Arr 10 Bool)) t7.1) (by (try simp only [add_lit, Nat.add_assoc, Nat.zero_add, Nat.add_zero]) <;> first | rfl | (congr 1; exact Nat.zero_add _))) ?_
 intro w1 hS
 refine PX 1 ?_
 obtain ⟨j225, H, K225⟩ := pbind H
 refine CJ.cut (fun F w1 => ∃ y9, some y9 = some j225 ∧ F = [(6, pt b1), (10, pt b8)] ∧ St w no w1 [box b1 ((carr 10 (carr 10 cb)).enc (Arr.mk' (Arr.mk' false : Arr 10 Bool) : Arr 10 (Arr 10 Bool))) 72, box b8 ((carr 10 (carr 10 cb)).enc y9) 72] [roP pa0 (cPasture.enc a0), roC cSpot Aa1 ca1 a1, roC cSpot Aa2 ca2 a2]) ?_ ?_
 refine CJ.block ?_
 refine LQ (fun k F w1 => ∃ (y10 : l03Flow) (y11 : Arr 10 (Arr 10 Bool)) (y12 : Bool), F = [(0, .pointer (some pa0)), (6, pt b1), (7, pt b3), (8, pt b5), (9, pt b6), (10, pt b8), (11, .bool y12)] ∧ St w no w1 [box b1 ((carr 10 (carr 10 cb)).enc (Arr.mk' (Arr.mk' false : Arr 10 Bool) : Arr 10 (Arr 10 Bool))) 72, box b3 ((carr 10 (carr 10 cb)).enc t2) 72, box b5 ((carr 10 (carr 10 cb)).enc t4) 72, box b6 (cl03Flow.enc y10) 127, box b8 ((carr 10 (carr 10 cb)).enc y11) 72] [roP pa0 (cPasture.enc a0), roC cSpot Aa1 ca1 a1, roC cSpot Aa2 ca2 a2] ∧ q1c.l1 a0 t2 t4 k y10 y11 y12 = some j225) k H hS ?_
 rintro k F w1 ⟨y10, y11, y12, rfl, hS, H⟩
 rw [q1c.l1] at H
 refine GO ?_
 refine CB H (fun H => GO ?_) (fun H => ?_)
 refine CJ.block ?_
 refine GO ?_
 obtain ⟨t13, ht13, H⟩ := pbind H
 refine OC hb81 (q07.c pa0 a0 b6 y10 ⟨b3, 0, none⟩ t2 ⟨b5, 0, none⟩ t4 ((((hS.subs [3] [0] [1, 2] Z).rToRoP (i := 1) Z).rToRoP (i := 2) Z).pick [0] [0, 1, 2] Z) _ ht13) ?_
 rintro _ w1 ⟨rfl, hs⟩
 replace hS := hS.back [3] Z Z [box b6 (cl03Flow.enc t13.2.2) 127] [] hs ⟨fun _ => Iff.rfl, trivial⟩
 refine GO ?_
 refine OJ.es rfl rfl (Es.put oI hS (i := 4) rfl rfl rfl rfl rfl (vs := (carr 10 (carr 10 cb)).enc t13.1) rfl ((carr 10 (carr 10 cb)).len _) ((carr 10 (carr 10 cb)).one _) (Put.all (carr 10 (carr 10 cb)) y11 t13.1) (by (try simp only [add_lit, Nat.add_assoc, Nat.zero_add, Nat.add_zero]) <;> first | rfl | (congr 1; exact Nat.zero_add _))) ?_
 intro w1 hS
 exact MD H hS
 exact MD H hS
 rintro F w1 ⟨y9, he, rfl, hS⟩
 obtain rfl := Option.some.inj he
 have H := K225
 refine GO ?_
 refine OS (SE (ce hS 1)) ?_
 refine OJ.es rfl rfl (Es.put oI hS (i := 0) rfl rfl rfl rfl rfl (vs := (carr 10 (carr 10 cb)).enc y9) rfl ((carr 10 (carr 10 cb)).len _) ((carr 10 (carr 10 cb)).one _) (Put.all (carr 10 (carr 10 cb)) (Arr.mk' (Arr.mk' false : Arr 10 Bool) : Arr 10 (Arr 10 Bool)) y9) (by (try simp only [add_lit, Nat.add_assoc, Nat.zero_add, Nat.add_zero]) <;> first | rfl | (congr 1; exact Nat.zero_add _))) ?_
 intro w1 hS
 refine GO ?_
 obtain rfl := Option.some.inj H
 exact EJ.fin Z (.cell Z (ldE oU oI Z Z Z (hS.cells (i := 0) Z) Z) .nil) ⟨Z, hS.ext⟩

def q25.f (a0 : Hurdle) : Option Int := if a0.South = true then (some 2) else (some 1)
theorem q25.c {w} (a0 : Hurdle) (r : Int) (H : q25.f a0 = some r) :
 CV Tryz.prog 44 [.agg (cHurdle.enc a0).toArray].toArray w fun v w' => v = .int .i64 r ∧ Ext w w' := by
 have hS := (St.init w no)
 unfold q25.f at H
 refine CV.body Tryz.func44 Z Tryz.ntmps44 Z ?_
 refine GO ?_
 refine oX hS (cHurdle.enc a0) fun b1 w1 hS => ?_
 refine oS (SL (cf hS 0 2)) ?_
 refine CB H (fun H => ?_) (fun H => ?_)
 exact FE H hS
 exact FE H hS

def q2x.f (a0 : Pasture) (a1 : Hurdle) : Option Bool := (q1g.f a0 a1.At).bind fun t2 => if t2 = true then ((q25.f a1).bind fun t3 => (q0y.f a1.At t3).bind fun t4 => (q1g.f a0 t4).bind fun t5 => some t5) else (some false)
theorem q2x.c {w} (pa0 : Addr) (a0 : Pasture) (hp0 : CA w pa0 (cPasture.enc a0)) (a1 : Hurdle) (r : Bool) (H : q2x.f a0 a1 = some r) :
 CV Tryz.prog 127 [.pointer (some pa0), .agg (cHurdle.enc a1).toArray].toArray w fun v w' => v = .bool r ∧ Ext w w' := by
 have hS := ((St.init w no).paramP pa0 (cPasture.enc a0) hp0)
 unfold q2x.f at H
 refine CV.body Tryz.func127 Z Tryz.ntmps127 Z ?_
 refine GO ?_
 refine oX hS (cHurdle.enc a1) fun b1 w1 hS => ?_
 refine CJ.draw [] [0, 1, 2, 3, 4, 5, 6, 7, 8, 9, 10, 11, 12, 13] mixed (by kernel_rfl) hS fun w1 hS => ?_
 refine GO ?_
 refine DJ.st Z Z Z Z Z (SR.load Z Z (fun w' hx => ldN oU oI Z Z Z (CA.ext (CA.sub (hS.cells (i := 0) Z) 0) hx) (cSpot.len _) Z)) ?_
 obtain ⟨t2, ht2, H⟩ := pbind H
 refine DJ.callF rfl rfl rfl rfl rfl rfl rfl hb66 rfl (q1g.c _ a0 (hS.ca (i := 0) rfl) a1.At _ ht2) (by rintro v w' ⟨rfl, hs⟩; exact hs) ?_
 rintro _ w1 ⟨rfl, hs⟩
 replace hS := hS.grow hs
 refine GO ?_
 refine DJ.split (t := 9) Z (fun hb => ?_) (fun hb => ?_)
 replace H := pif_t hb H
 refine GO ?_
 refine DJ.st Z Z Z Z Z (SR.load Z Z (fun w' hx => ldN oU oI Z Z Z (CA.ext (CA.sub (hS.cells (i := 0) Z) 0) hx) (cSpot.len _) Z)) ?_
 refine DS (SE (ce hS 0)) ?_
 obtain ⟨t3, ht3, H⟩ := pbind H
 refine DJ.callF rfl rfl rfl rfl rfl rfl rfl hb44 rfl (q25.c a1 _ ht3) (by rintro v w' ⟨rfl, hs⟩; exact hs) ?_
 rintro _ w1 ⟨rfl, hs⟩
 replace hS := hS.grow hs
 obtain ⟨t4, ht4, H⟩ := pbind H
 refine DJ.callF rfl rfl rfl rfl rfl rfl rfl hb67 rfl (q0y.c a1.At _ ht4) (by rintro v w' ⟨rfl, hs⟩; exact hs) ?_
 rintro _ w1 ⟨rfl, hs⟩
 replace hS := hS.grow hs
 obtain ⟨t5, ht5, H⟩ := pbind H
 refine DJ.callF rfl rfl rfl rfl rfl rfl rfl hb66 rfl (q1g.c _ a0 (hS.ca (i := 0) rfl) t4 _ ht5) (by rintro v w' ⟨rfl, hs⟩; exact hs) ?_
 rintro _ w1 ⟨rfl, hs⟩
 replace hS := hS.grow hs
 exact FE H hS
 replace H := pifb_f hb H
 exact FE H hS

def q11.l2 (a0 : Pasture) (y8 : Int) : Nat → (List Hurdle) → Int → Option (List Hurdle)
  | 0, _, _ => none
  | k + 1, y15, y18 => if y18 < a0.Wide then ((q2x.f a0 (⟨(⟨y18, y8⟩ : Spot), false⟩ : Hurdle)).bind fun t21 => if t21 = true then ((chk (y15.length + ([(⟨(⟨y18, y8⟩ : Spot), false⟩ : Hurdle)] : List Hurdle).length ≤ 4294967296)).bind fun u23 => (q2x.f a0 (⟨(⟨y18, y8⟩ : Spot), true⟩ : Hurdle)).bind fun t26 => if t26 = true then ((chk ((y15 ++ ([(⟨(⟨y18, y8⟩ : Spot), false⟩ : Hurdle)] : List Hurdle)).length + ([(⟨(⟨y18, y8⟩ : Spot), true⟩ : Hurdle)] : List Hurdle).length ≤ 4294967296)).bind fun u28 => q11.l2 a0 y8 k ((y15 ++ ([(⟨(⟨y18, y8⟩ : Spot), false⟩ : Hurdle)] : List Hurdle)) ++ ([(⟨(⟨y18, y8⟩ : Spot), true⟩ : Hurdle)] : List Hurdle)) (IntKind.i8.wrap (y18 + 1))) else (q11.l2 a0 y8 k (y15 ++ ([(⟨(⟨y18, y8⟩ : Spot), false⟩ : Hurdle)] : List Hurdle)) (IntKind.i8.wrap (y18 + 1)))) else ((q2x.f a0 (⟨(⟨y18, y8⟩ : Spot), true⟩ : Hurdle)).bind fun t31 => if t31 = true then ((chk (y15.length + ([(⟨(⟨y18, y8⟩ : Spot), true⟩ : Hurdle)] : List Hurdle).length ≤ 4294967296)).bind fun u33 => q11.l2 a0 y8 k (y15 ++ ([(⟨(⟨y18, y8⟩ : Spot), true⟩ : Hurdle)] : List Hurdle)) (IntKind.i8.wrap (y18 + 1))) else (q11.l2 a0 y8 k y15 (IntKind.i8.wrap (y18 + 1))))) else (some y15)
def q11.l1 (a0 : Pasture) : Nat → (List Hurdle) → Int → Option (List Hurdle)
  | 0, _, _ => none
  | k + 1, y5, y8 => if y8 < a0.High then (((q11.l2 a0 y8 k y5 0).bind fun y12 => some y12).bind fun y9 => q11.l1 a0 k y9 (IntKind.i8.wrap (y8 + 1))) else (some y5)
def q11.f (k : Nat) (a0 : Pasture) : Option (List Hurdle) := (q11.l1 a0 k ([] : List Hurdle) 0).bind fun y2 => some y2
theorem q11.c {k w} (pa0 : Addr) (a0 : Pasture) (hp0 : CA w pa0 (cPasture.enc a0)) (r : List Hurdle) (H : q11.f k a0 = some r) :
 CV Tryz.prog 82 [.pointer (some pa0)].toArray w fun v w' => ∃ (A0 : Option Addr) (c0 : Nat), v = .slice A0 r.length c0 ∧ St w no w' [rowC cHurdle A0 c0 58 r] [] := by
 have hS := ((St.init w no).paramP pa0 (cPasture.enc a0) hp0)
 unfold q11.f at H
 refine CV.body Tryz.func82 Z Tryz.ntmps82 Z ?_
 refine GO ?_
 refine OF (EL hS cHurdle ([] : List Hurdle)) ?_
 rintro _ w1 ⟨A1, rfl, hS⟩
 refine GO ?_
 obtain ⟨j226, H, K226⟩ := pbind H
 refine CJ.cut1 (fun F w1 => ∃ y2 A3 c4, some y2 = some j226 ∧ F = [(3, sl A3 y2 c4)] ∧ St w no w1 [rowC cHurdle A3 c4 58 y2] [roP pa0 (cPasture.enc a0)]) ?_ ?_
 refine CJ.block ?_
 refine LQ (fun k F w1 => ∃ (y5 : List Hurdle) (y8 : Int) (A6 c7 : _), F = [(0, .pointer (some pa0)), (3, sl A6 y5 c7), (4, .int .i8 y8)] ∧ St w no w1 [rowC cHurdle A6 c7 58 y5] [roP pa0 (cPasture.enc a0)] ∧ q11.l1 a0 k y5 y8 = some j226) k H hS ?_
 rintro k F w1 ⟨y5, y8, A6, c7, rfl, hS, H⟩
 rw [q11.l1] at H
 refine GO ?_
 refine oS (SL (CA.fld (hS.ca (i := 0) Z) (mid_part (fe_Pasture_1 _) (fl_Pasture_1 _) ((ci .i8).len _)))) ?_
 refine CP H (fun H => ?_) (fun H => ?_)
 refine CJ.skip (EJ.next ?_)
 obtain ⟨j233, H, K233⟩ := pbind H
 refine CJ.cut (fun F w1 => ∃ y9 A10 c11, some y9 = some j233 ∧ F = [(0, .pointer (some pa0)), (3, sl A10 y9 c11), (4, .int .i8 y8)] ∧ St w no w1 [rowC cHurdle A10 c11 58 y9] [roP pa0 (cPasture.enc a0)]) ?_ ?_
 refine CJ.block ?_
 refine GO ?_
 obtain ⟨j235, H, K235⟩ := pbind H
 refine CJ.cut1 (fun F w1 => ∃ y12 A13 c14, some y12 = some j235 ∧ F = [(0, .pointer (some pa0)), (3, sl A13 y12 c14), (4, .int .i8 y8)] ∧ St w no w1 [rowC cHurdle A13 c14 58 y12] [roP pa0 (cPasture.enc a0)]) ?_ ?_
 refine CJ.block ?_
 refine LQ (fun k F w1 => ∃ (y15 : List Hurdle) (y18 : Int) (A16 c17 : _), F = [(0, .pointer (some pa0)), (3, sl A16 y15 c17), (4, .int .i8 y8), (5, .int .i8 y18)] ∧ St w no w1 [rowC cHurdle A16 c17 58 y15] [roP pa0 (cPasture.enc a0)] ∧ q11.l2 a0 y8 k y15 y18 = some j235) k H hS ?_
 rintro k F w1 ⟨y15, y18, A16, c17, rfl, hS, H⟩
 rw [q11.l2] at H
 refine GO ?_
 refine oS (SL (CA.fld (hS.ca (i := 0) Z) (mid_part (fe_Pasture_0 _) (fl_Pasture_0 _) ((ci .i8).len _)))) ?_
 refine CP H (fun H => GO ?_) (fun H => ?_)
 refine CJ.block ?_
 refine GO ?_
 refine OJ.st Z Z Z (SR.build (C := cSpot) oU oI Z Z Z (zs := [.int .i8 0, .int .i8 0]) Z Z Z (⟨y18, y8⟩ : Spot) Z) ?_
 refine OJ.st Z Z Z (SR.build (C := cHurdle) oU oI Z Z Z (zs := [.int .i8 0, .int .i8 0, .bool false]) Z Z Z (⟨(⟨y18, y8⟩ : Spot), false⟩ : Hurdle) Z) ?_
 refine OF (EA hS (cHurdle.enc (⟨(⟨0, 0⟩ : Spot), false⟩ : Hurdle))) ?_
 rintro _ w1 ⟨b19, rfl, hS⟩
 refine OJ.es Z Z (eS cHurdle (⟨(⟨y18, y8⟩ : Spot), false⟩ : Hurdle) hS (i := 1) Z Z Z Z Z Z Z Z Z Z) ?_
 intro w1 hS
 refine GO ?_
 refine OJ.st Z Z Z (SR.build (C := cSpot) oU oI Z Z Z (zs := [.int .i8 0, .int .i8 0]) Z Z Z (⟨y18, y8⟩ : Spot) Z) ?_
 refine OJ.st Z Z Z (SR.build (C := cHurdle) oU oI Z Z Z (zs := [.int .i8 0, .int .i8 0, .bool false]) Z Z Z (⟨(⟨y18, y8⟩ : Spot), true⟩ : Hurdle) Z) ?_
 refine OF (EA hS (cHurdle.enc (⟨(⟨0, 0⟩ : Spot), false⟩ : Hurdle))) ?_
 rintro _ w1 ⟨b20, rfl, hS⟩
 refine OJ.es Z Z (eS cHurdle (⟨(⟨y18, y8⟩ : Spot), true⟩ : Hurdle) hS (i := 2) Z Z Z Z Z Z Z Z Z Z) ?_
 intro w1 hS
 refine GO ?_
 refine OS (SE (ce hS 1)) ?_
 refine oB H hS hb127 (q2x.c _ a0 (hS.ca (i := 0) Z) (⟨(⟨y18, y8⟩ : Spot), false⟩ : Hurdle)) fun t21 w1 H hS => ?_
 refine CB H (fun H => GO ?_) (fun H => ?_)
 refine OS (SE (ce hS 1)) ?_
 refine OF (EL hS cHurdle ([(⟨(⟨y18, y8⟩ : Spot), false⟩ : Hurdle)] : List Hurdle)) ?_
 rintro _ w1 ⟨A22, rfl, hS⟩
 obtain ⟨u23, hu23, H⟩ := pbind H
 refine OW (AP hS 0 (rC hS 3 Z) (chk_some hu23)) ?_
 rintro _ w1 ⟨A24, c25, rfl, hS⟩
 refine GO ?_
 refine OS (SE (ce hS 2)) ?_
 refine oB H hS hb127 (q2x.c _ a0 (hS.ca (i := 0) Z) (⟨(⟨y18, y8⟩ : Spot), true⟩ : Hurdle)) fun t26 w1 H hS => ?_
 refine CB H (fun H => GO ?_) (fun H => ?_)
 refine OS (SE (ce hS 2)) ?_
 refine OF (EL hS cHurdle ([(⟨(⟨y18, y8⟩ : Spot), true⟩ : Hurdle)] : List Hurdle)) ?_
 rintro _ w1 ⟨A27, rfl, hS⟩
 obtain ⟨u28, hu28, H⟩ := pbind H
 refine OW (AP hS 0 (rC hS 4 Z) (chk_some hu28)) ?_
 rintro _ w1 ⟨A29, c30, rfl, hS⟩
 exact MD H hS
 exact MD H hS
 refine GO ?_
 refine OS (SE (ce hS 2)) ?_
 refine oB H hS hb127 (q2x.c _ a0 (hS.ca (i := 0) Z) (⟨(⟨y18, y8⟩ : Spot), true⟩ : Hurdle)) fun t31 w1 H hS => ?_
 refine CB H (fun H => GO ?_) (fun H => ?_)
 refine OS (SE (ce hS 2)) ?_
 refine OF (EL hS cHurdle ([(⟨(⟨y18, y8⟩ : Spot), true⟩ : Hurdle)] : List Hurdle)) ?_
 rintro _ w1 ⟨A32, rfl, hS⟩
 obtain ⟨u33, hu33, H⟩ := pbind H
 refine OW (AP hS 0 (rC hS 3 Z) (chk_some hu33)) ?_
 rintro _ w1 ⟨A34, c35, rfl, hS⟩
 exact MD H hS
 exact MD H hS
 exact MD H hS
 rintro F w1 ⟨y12, A13, c14, he, rfl, hS⟩
 obtain rfl := Option.some.inj he
 have H := K235
 refine EJ.blk (?_)
 exact MD H hS
 rintro F w1 ⟨y9, A10, c11, he, rfl, hS⟩
 obtain rfl := Option.some.inj he
 have H := K233
 exact MD H hS
 exact MD H hS
 rintro F w1 ⟨y2, A3, c4, he, rfl, hS⟩
 obtain rfl := Option.some.inj he
 have H := K226
 refine EJ.next ?_
 refine GO ?_
 obtain rfl := Option.some.inj H
 exact FT ⟨A3, c4, Z, hS.pick [0] [] Z⟩

def q2s.f (a0 : Pasture) (a1 : Hurdle) : Option Bool := (q25.f a1).bind fun t2 => (q23.f a0 a1.At t2).bind fun t3 => some t3
theorem q2s.c {w} (pa0 : Addr) (a0 : Pasture) (hp0 : CA w pa0 (cPasture.enc a0)) (a1 : Hurdle) (r : Bool) (H : q2s.f a0 a1 = some r) :
 CV Tryz.prog 83 [.pointer (some pa0), .agg (cHurdle.enc a1).toArray].toArray w fun v w' => v = .bool r ∧ Ext w w' := by
 have hS := ((St.init w no).paramP pa0 (cPasture.enc a0) hp0)
 unfold q2s.f at H
 refine CV.body Tryz.func83 Z Tryz.ntmps83 Z ?_
 refine GO ?_
 refine oX hS (cHurdle.enc a1) fun b1 w1 hS => ?_
 refine CJ.draw [] [0, 1, 2, 3, 4, 5, 6] mixed (by kernel_rfl) hS fun w1 hS => ?_
 refine GO ?_
 refine DJ.st Z Z Z Z Z (SR.load Z Z (fun w' hx => ldN oU oI Z Z Z (CA.ext (CA.sub (hS.cells (i := 0) Z) 0) hx) (cSpot.len _) Z)) ?_
 refine DS (SE (ce hS 0)) ?_
 obtain ⟨t2, ht2, H⟩ := pbind H
 refine DJ.callF rfl rfl rfl rfl rfl rfl rfl hb44 rfl (q25.c a1 _ ht2) (by rintro v w' ⟨rfl, hs⟩; exact hs) ?_
 rintro _ w1 ⟨rfl, hs⟩
 replace hS := hS.grow hs
 obtain ⟨t3, ht3, H⟩ := pbind H
 refine DJ.callF rfl rfl rfl rfl rfl rfl rfl hb125 rfl (q23.c _ a0 (hS.ca (i := 0) rfl) a1.At _ ht3) (by rintro v w' ⟨rfl, hs⟩; exact hs) ?_
 rintro _ w1 ⟨rfl, hs⟩
 replace hS := hS.grow hs
 exact FE H hS
end Go.Proofs.YtegibnmfiogebaaGreatDoor
