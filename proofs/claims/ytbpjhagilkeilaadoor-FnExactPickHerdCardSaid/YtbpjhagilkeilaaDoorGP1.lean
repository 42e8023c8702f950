/-
  What the functions come to.
-/
import Derived.Test.YtbpjhagilkeilaaDoorGP0
namespace Go.Proofs.YtbpjhagilkeilaaDoor
open G
set_option linter.unusedVariables false
set_option linter.unusedSimpArgs false
set_option maxRecDepth 100000
set_option maxHeartbeats 4000000
def impl_PickHerd.l2 (a0 : Herd) (a1 : List Int) (y19 : Int) (y20 : List ByteArray) (y23 : List Int) (t33 : Int) (t34 : ByteArray) (t35 : Int) : Nat → (List Int) → Int → Option (List Int)
  | 0, _, _ => none
  | k + 1, y63, y64 => if y64 < (((a1.drop 0).take (y19.toNat - 0)).length : Int) then ((getI ((a1.drop 0).take (y19.toNat - 0)) y64).bind fun t65 => (impl_Herd_areFoes.f a0 t33 t65).bind fun t66 => (impl_Herd_set.f (⟨y20 ++ ([t34] : List ByteArray), y23 ++ ([t35] : List Int), y63⟩ : Herd) y19 y64 t66).bind fun t67 => impl_PickHerd.l2 a0 a1 y19 y20 y23 t33 t34 t35 k t67 (IntKind.i64.wrap (y64 + 1))) else (some y63)
def impl_PickHerd.l1 (a0 : Herd) (a1 : List Int) : Nat → (List Int) → Int → (List ByteArray) → (List Int) → Option ((List Int) × (List ByteArray) × (List Int))
  | 0, _, _, _, _ => none
  | k + 1, y18, y19, y20, y23 => if y19 < (a1.length : Int) then (((getI a1 y19).bind fun t33 => (getI a0.Names t33).bind fun t34 => (getI a0.Eats t33).bind fun t35 => (chk (y20.length + ([t34] : List ByteArray).length ≤ 4294967296)).bind fun u37 => (chk (y23.length + ([t35] : List Int).length ≤ 4294967296)).bind fun u41 => (chk ((0 : Int) ≤ 0 ∧ 0 ≤ y19 ∧ y19 ≤ (a1.length : Int))).bind fun u61 => (impl_PickHerd.l2 a0 a1 y19 y20 y23 t33 t34 t35 k y18 0).bind fun y62 => some (y62, y20 ++ ([t34] : List ByteArray), y23 ++ ([t35] : List Int))).bind fun (y26, y27, y30) => impl_PickHerd.l1 a0 a1 k y26 (IntKind.i64.wrap (y19 + 1)) y27 y30) else (some (y18, y20, y23))
def impl_PickHerd.f (k : Nat) (a0 : Herd) (a1 : List Int) : Option (Herd × Int) := (impl_herdCode.f k a0 a1).bind fun t3 => (impl_isEach.f a1).bind fun t4 => (impl_unless.f t4 4).bind fun t5 => (impl_firstOf.f k ([t3, t5] : List Int)).bind fun t7 => if t7 ≠ 0 then (some ((⟨[], [], []⟩ : Herd), t7)) else ((chk (0 ≤ (a1.length : Int) ∧ (a1.length : Int) ≤ 4294967296)).bind fun u8 => (impl_PickHerd.l1 a0 a1 k (List.replicate ((a1.length : Int).toNat) 0) 0 ([] : List ByteArray) ([] : List Int)).bind fun (y11, y12, y15) => some ((⟨y12, y15, y11⟩ : Herd), 0))
theorem impl_PickHerd.c (k : Nat) (w : World) (Aa0_0 : Option Addr) (ca0_0 : Nat) (Aa0_1 : Option Addr) (ca0_1 : Nat) (Aa0_2 : Option Addr) (ca0_2 : Nat) (a0 : Herd) (hr0_0 : Rd G.cs w Aa0_0 a0.Names) (hc0_0 : a0.Names.length ≤ ca0_0) (hr0_1 : Rd (ci .i16) w Aa0_1 a0.Eats) (hc0_1 : a0.Eats.length ≤ ca0_1) (hr0_2 : Rd (ci .u16) w Aa0_2 a0.Foes) (hc0_2 : a0.Foes.length ≤ ca0_2) (Aa1 : Option Addr) (ca1 : Nat) (a1 : List Int) (hr1 : Rd (ci .i64) w Aa1 a1) (hc1 : a1.length ≤ ca1) (r : Herd × Int) (H : impl_PickHerd.f k a0 a1 = some r) :
    CV Tryd.prog 11 [.agg [.slice Aa0_0 a0.Names.length ca0_0, .slice Aa0_1 a0.Eats.length ca0_1, .slice Aa0_2 a0.Foes.length ca0_2].toArray, .slice Aa1 a1.length ca1].toArray w fun v w' => ∃ (A0_0 : Option Addr) (c0_0 : Nat) (A0_1 : Option Addr) (c0_1 : Nat) (A0_2 : Option Addr) (c0_2 : Nat), v = .tuple #[.agg [.slice A0_0 r.1.Names.length c0_0, .slice A0_1 r.1.Eats.length c0_1, .slice A0_2 r.1.Foes.length c0_2].toArray, .int .i64 r.2] ∧ St w no w' [rowC G.cs A0_0 c0_0 9 r.1.Names, rowC (ci .i16) A0_1 c0_1 50 r.1.Eats, rowC (ci .u16) A0_2 c0_2 51 r.1.Foes] [] := by
  have hS := (((((St.init w no).param G.cs Aa0_0 ca0_0 a0.Names hr0_0 hc0_0).param (ci .i16) Aa0_1 ca0_1 a0.Eats hr0_1 hc0_1).param (ci .u16) Aa0_2 ca0_2 a0.Foes hr0_2 hc0_2).param (ci .i64) Aa1 ca1 a1 hr1 hc1)
  unfold impl_PickHerd.f at H
  refine CV.body Tryd.func11 rfl Tryd.ntmps11 rfl ?_
  refine CJ.seq ?_
  refine CJ.region ?_
  refine OJ.ef rfl rfl rfl (Ef.box hS rfl rfl ([.slice Aa0_0 a0.Names.length ca0_0, .slice Aa0_1 a0.Eats.length ca0_1, .slice Aa0_2 a0.Foes.length ca0_2]) rfl) ?_
  rintro _ w1 ⟨b1, rfl, hS⟩
  refine OJ.ef rfl rfl rfl (Ef.alloc hS tI_ok rfl rfl ([.slice none 0 0, .slice none 0 0, .slice none 0 0]) rfl) ?_
  rintro _ w1 ⟨b2, rfl, hS⟩
  refine OJ.pures tU_ok 1 rfl ?_
  refine OJ.nil (EJ.next ?_)
  refine CJ.seq ?_
  refine CJ.seq ?_
  refine CJ.region ?_
  refine OJ.st rfl rfl rfl (SR.load rfl rfl (fun w' hx => ldN tU_ok tI_ok rfl rfl rfl (CA.ext (hS.cells (i := 0) rfl) hx) (ds := [.slice Aa0_0 a0.Names.length ca0_0, .slice Aa0_1 a0.Eats.length ca0_1, .slice Aa0_2 a0.Foes.length ca0_2]) rfl rfl)) ?_
  refine OJ.pures tU_ok 1 rfl ?_
  obtain ⟨t3, ht3, H⟩ := pbind H
  refine OJ.callF rfl rfl rfl rfl rfl hb34 rfl (impl_herdCode.c k _ Aa0_0 ca0_0 Aa0_1 ca0_1 Aa0_2 ca0_2 a0 (hS.rd' (i := 0) rfl) (hS.le' (i := 0) rfl) (hS.rd' (i := 1) rfl) (hS.le' (i := 1) rfl) (hS.rd' (i := 2) rfl) (hS.le' (i := 2) rfl) Aa1 ca1 a1 (hS.rd' (i := 3) rfl) (hS.le' (i := 3) rfl) _ ht3) ?_
  rintro _ w1 ⟨rfl, hs⟩
  replace hS := hS.grow hs
  refine OJ.pures tU_ok 1 rfl ?_
  obtain ⟨t4, ht4, H⟩ := pbind H
  refine OJ.callF rfl rfl rfl rfl rfl hb36 rfl (impl_isEach.c _ Aa1 ca1 a1 (hS.rd' (i := 3) rfl) (hS.le' (i := 3) rfl) _ ht4) ?_
  rintro _ w1 ⟨rfl, hs⟩
  replace hS := hS.grow hs
  obtain ⟨t5, ht5, H⟩ := pbind H
  refine OJ.callF rfl rfl rfl rfl rfl hb35 rfl (impl_unless.c _ t4 4 _ ht5) ?_
  rintro _ w1 ⟨rfl, hs⟩
  replace hS := hS.grow hs
  refine OJ.ef rfl rfl rfl (Ef.lit tU_ok tI_ok hS (C := (ci .i64)) rfl rfl rfl rfl rfl rfl ([t3, t5] : List Int) rfl rfl rfl rfl) ?_
  rintro _ w1 ⟨A6, rfl, hS⟩
  obtain ⟨t7, ht7, H⟩ := pbind H
  refine OJ.callF rfl rfl rfl rfl rfl hb33 rfl (impl_firstOf.c k _ A6 (([t3, t5] : List Int).length) ([t3, t5] : List Int) (hS.rd (i := 2) rfl) (hS.le (i := 2) rfl) _ ht7) ?_
  rintro _ w1 ⟨rfl, hs⟩
  replace hS := hS.grow hs
  refine OJ.pures tU_ok 1 rfl ?_
  refine OJ.nil (EJ.next ?_)
  refine CJ.seq ?_
  refine CJ.region ?_
  refine OJ.pures tU_ok 2 rfl ?_
  refine OJ.nil (EJ.next ?_)
  refine CJ.cond rfl (fun hb => ?_) (fun hb => ?_)
  · replace H := pif_t (of_decide_eq_true hb) H
    refine CJ.seq ?_
    refine CJ.region ?_
    refine OJ.st rfl rfl rfl (SR.build' tU_ok tI_ok rfl rfl rfl (zs := [.slice none 0 0, .slice none 0 0, .slice none 0 0]) rfl rfl rfl ([.slice none 0 0, .slice none 0 0, .slice none 0 0]) rfl) ?_
    refine OJ.pures tU_ok 1 rfl ?_
    refine OJ.es rfl rfl (Es.store tI_ok hS (i := 1) (vs := [.slice none 0 0, .slice none 0 0, .slice none 0 0]) rfl rfl rfl rfl rfl rfl rfl rfl (by intro u hu; simp only [List.mem_cons, List.not_mem_nil, or_false] at hu; rcases hu with rfl | rfl | rfl <;> rfl) (Nat.le_of_ble_eq_true rfl) ([.slice none 0 0, .slice none 0 0, .slice none 0 0]) rfl) ?_
    intro w1 hS
    refine OJ.pures tU_ok 1 rfl ?_
    refine OJ.nil (EJ.next ?_)
    refine CJ.ret (EJ.skR (?_))
    replace hS := hS.addNil G.cs 9 none
    replace hS := hS.addNil (ci .i16) 50 none
    replace hS := hS.addNil (ci .u16) 51 none
    obtain rfl := Option.some.inj H
    exact EJ.fin rfl (.cell rfl (ldN tU_ok tI_ok rfl rfl rfl (hS.cells (i := 1) rfl) (ds := [.slice none 0 0, .slice none 0 0, .slice none 0 0]) rfl rfl) (.tmp rfl .nil)) ⟨none, 0, none, 0, none, 0, rfl, hS.pick [3, 4, 5] [] rfl⟩
  · replace H := pif_f (of_decide_eq_false hb) H
    refine CJ.skip (EJ.next ?_)
    refine CJ.seq ?_
    refine CJ.region ?_
    refine OJ.pures tU_ok 2 rfl ?_
    obtain ⟨u8, hu8, H⟩ := pbind H
    refine OJ.ef rfl rfl rfl (Ef.make tU_ok tI_ok hS (C := (ci .u16)) rfl rfl rfl rfl rfl rfl rfl rfl (chk_some hu8) 0 rfl) ?_
    rintro _ w1 ⟨A9, rfl, hS⟩
    refine OJ.st rfl rfl rfl (SR.build' tU_ok tI_ok rfl rfl rfl (zs := [.slice none 0 0, .slice none 0 0, .slice none 0 0]) rfl rfl rfl ([.slice none 0 0, .slice none 0 0, .slice A9 (List.replicate ((a1.length : Int).toNat) 0).length ((a1.length : Int).toNat)]) rfl) ?_
    refine OJ.ef rfl rfl rfl (Ef.alloc hS tI_ok rfl rfl ([.slice none 0 0, .slice none 0 0, .slice none 0 0]) rfl) ?_
    rintro _ w1 ⟨b10, rfl, hS⟩
    refine OJ.es rfl rfl (Es.store tI_ok hS (i := 4) (vs := [.slice none 0 0, .slice none 0 0, .slice A9 (List.replicate ((a1.length : Int).toNat) 0).length ((a1.length : Int).toNat)]) rfl rfl rfl rfl rfl rfl rfl rfl (by intro u hu; simp only [List.mem_cons, List.not_mem_nil, or_false] at hu; rcases hu with rfl | rfl | rfl <;> rfl) (Nat.le_of_ble_eq_true rfl) ([.slice none 0 0, .slice none 0 0, .slice A9 (List.replicate ((a1.length : Int).toNat) 0).length ((a1.length : Int).toNat)]) rfl) ?_
    intro w1 hS
    refine OJ.nil (EJ.next ?_)
    refine CJ.seq ?_
    refine CJ.seq ?_
    refine CJ.region ?_
    refine OJ.pures tU_ok 3 rfl ?_
    refine OJ.nil (EJ.next ?_)
    obtain ⟨j78, H, K78⟩ := pbind H
    refine CJ.cut1 (fun F w1 => ∃ (y11 : List Int) (y12 : List ByteArray) (y15 : List Int) (A13 : Option Addr) (c14 : Nat) (A16 : Option Addr) (c17 : Nat), (some (y11, y12, y15) : Option ((List Int) × (List ByteArray) × (List Int))) = some j78 ∧ F = [(4, .pointer (some ⟨b2, 0, none⟩)), (7, .pointer (some ⟨b10, 0, none⟩))] ∧ St w no w1 [box b2 ([.slice none 0 0, .slice none 0 0, .slice none 0 0]) 29, rowC (ci .u16) A9 ((a1.length : Int).toNat) 51 y11, box b10 ([.slice A13 y12.length c14, .slice A16 y15.length c17, .slice A9 y11.length ((a1.length : Int).toNat)]) 29, rowC G.cs A13 c14 9 y12, rowC (ci .i16) A16 c17 50 y15] [roC G.cs Aa0_0 ca0_0 a0.Names, roC (ci .i16) Aa0_1 ca0_1 a0.Eats, roC (ci .u16) Aa0_2 ca0_2 a0.Foes, roC (ci .i64) Aa1 ca1 a1]) ?_ ?_
    · skip
      refine CJ.block ?_
      replace hS := hS.addNil G.cs 9 none
      replace hS := hS.addNil (ci .i16) 50 none
      refine CJ.loop (fun k F w1 => ∃ (y18 : List Int) (y19 : Int) (y20 : List ByteArray) (y23 : List Int) (A21 : Option Addr) (c22 : Nat) (A24 : Option Addr) (c25 : Nat), F = [(1, .slice Aa1 a1.length ca1), (2, .pointer (some ⟨b1, 0, none⟩)), (4, .pointer (some ⟨b2, 0, none⟩)), (7, .pointer (some ⟨b10, 0, none⟩)), (28, .slice Aa1 a1.length ca1), (29, .int .i64 (a1.length : Int)), (30, .int .i64 y19)] ∧ St w no w1 [box b1 ([.slice Aa0_0 a0.Names.length ca0_0, .slice Aa0_1 a0.Eats.length ca0_1, .slice Aa0_2 a0.Foes.length ca0_2]) 29, box b2 ([.slice none 0 0, .slice none 0 0, .slice none 0 0]) 29, rowC (ci .u16) A9 ((a1.length : Int).toNat) 51 y18, box b10 ([.slice A21 y20.length c22, .slice A24 y23.length c25, .slice A9 y18.length ((a1.length : Int).toNat)]) 29, rowC G.cs A21 c22 9 y20, rowC (ci .i16) A24 c25 50 y23] [roC G.cs Aa0_0 ca0_0 a0.Names, roC (ci .i16) Aa0_1 ca0_1 a0.Eats, roC (ci .u16) Aa0_2 ca0_2 a0.Foes, roC (ci .i64) Aa1 ca1 a1] ∧ impl_PickHerd.l1 a0 a1 k y18 y19 y20 y23 = some j78) k (F' := [(1, .slice Aa1 a1.length ca1), (2, .pointer (some ⟨b1, 0, none⟩)), (4, .pointer (some ⟨b2, 0, none⟩)), (7, .pointer (some ⟨b10, 0, none⟩)), (28, .slice Aa1 a1.length ca1), (29, .int .i64 (a1.length : Int)), (30, .int .i64 0)]) ⟨rfl, rfl, rfl, rfl, rfl, rfl, rfl, trivial⟩ ⟨(List.replicate ((a1.length : Int).toNat) 0), 0, ([] : List ByteArray), ([] : List Int), none, 0, none, 0, rfl, hS.pick [0, 1, 3, 4, 5, 6] [0, 1, 2, 3] rfl, H⟩ ?_
      rintro k F w1 ⟨y18, y19, y20, y23, A21, c22, A24, c25, rfl, hS, H⟩
      cases k with
      | zero => rw [impl_PickHerd.l1] at H; cases H
      | succ k =>
        rw [impl_PickHerd.l1] at H
        refine CJ.seq ?_
        refine CJ.region ?_
        refine OJ.pures tU_ok 1 rfl ?_
        refine OJ.nil (EJ.next ?_)
        refine CJ.seq ?_
        refine CJ.cond rfl (fun hb => ?_) (fun hb => ?_)
        · replace H := pif_t (of_decide_eq_true hb) H
          refine CJ.skip (EJ.next ?_)
          obtain ⟨j85, H, K85⟩ := pbind H
          refine CJ.cut (fun F w1 => ∃ (y26 : List Int) (y27 : List ByteArray) (y30 : List Int) (A28 : Option Addr) (c29 : Nat) (A31 : Option Addr) (c32 : Nat), (some (y26, y27, y30) : Option ((List Int) × (List ByteArray) × (List Int))) = some j85 ∧ F = [(1, .slice Aa1 a1.length ca1), (2, .pointer (some ⟨b1, 0, none⟩)), (4, .pointer (some ⟨b2, 0, none⟩)), (7, .pointer (some ⟨b10, 0, none⟩)), (28, .slice Aa1 a1.length ca1), (29, .int .i64 (a1.length : Int)), (30, .int .i64 y19)] ∧ St w no w1 [box b1 ([.slice Aa0_0 a0.Names.length ca0_0, .slice Aa0_1 a0.Eats.length ca0_1, .slice Aa0_2 a0.Foes.length ca0_2]) 29, box b2 ([.slice none 0 0, .slice none 0 0, .slice none 0 0]) 29, rowC (ci .u16) A9 ((a1.length : Int).toNat) 51 y26, box b10 ([.slice A28 y27.length c29, .slice A31 y30.length c32, .slice A9 y26.length ((a1.length : Int).toNat)]) 29, rowC G.cs A28 c29 9 y27, rowC (ci .i16) A31 c32 50 y30] [roC G.cs Aa0_0 ca0_0 a0.Names, roC (ci .i16) Aa0_1 ca0_1 a0.Eats, roC (ci .u16) Aa0_2 ca0_2 a0.Foes, roC (ci .i64) Aa1 ca1 a1]) ?_ ?_
          · skip
            refine CJ.block ?_
            refine CJ.seq ?_
            refine CJ.region ?_
            refine OJ.pures tU_ok 1 rfl ?_
            obtain ⟨t33, ht33, H⟩ := pbind H
            obtain ⟨ad33, e33⟩ := (hS.rd' (i := 3) rfl).some' ht33
            refine OJ.st rfl rfl rfl (SR.idxS tU_ok tI_ok rfl rfl rfl rfl e33 rfl (getI_some ht33).1) ?_
            refine OJ.st rfl rfl rfl (SR.load rfl rfl (fun w' hx => ld1 tU_ok rfl rfl (CA.ext ((hS.rd' (i := 3) rfl).at_ e33 ht33) hx) rfl)) ?_
            refine OJ.pures tU_ok 2 rfl ?_
            refine OJ.nil (EJ.next ?_)
            refine CJ.seq ?_
            obtain ⟨t34, ht34, H⟩ := pbind H
            obtain ⟨t35, ht35, H⟩ := pbind H
            obtain ⟨u37, hu37, H⟩ := pbind H
            obtain ⟨u41, hu41, H⟩ := pbind H
            refine CJ.cut1 (fun F w1 => ∃ (A36 : Option Addr) (A38 : Option Addr) (c39 : Nat) (A40 : Option Addr) (A42 : Option Addr) (c43 : Nat), F = [(1, .slice Aa1 a1.length ca1), (2, .pointer (some ⟨b1, 0, none⟩)), (4, .pointer (some ⟨b2, 0, none⟩)), (7, .pointer (some ⟨b10, 0, none⟩)), (8, .int .i64 y19), (9, .int .i64 t33), (28, .slice Aa1 a1.length ca1), (29, .int .i64 (a1.length : Int)), (30, .int .i64 y19)] ∧ St w no w1 [box b1 ([.slice Aa0_0 a0.Names.length ca0_0, .slice Aa0_1 a0.Eats.length ca0_1, .slice Aa0_2 a0.Foes.length ca0_2]) 29, box b2 ([.slice none 0 0, .slice none 0 0, .slice none 0 0]) 29, rowC (ci .u16) A9 ((a1.length : Int).toNat) 51 y18, box b10 ([.slice A38 (y20 ++ ([t34] : List ByteArray)).length c39, .slice A42 (y23 ++ ([t35] : List Int)).length c43, .slice A9 y18.length ((a1.length : Int).toNat)]) 29, rowC G.cs A38 c39 9 (y20 ++ ([t34] : List ByteArray)), rowC (ci .i16) A42 c43 50 (y23 ++ ([t35] : List Int)), rowC G.cs A36 (([t34] : List ByteArray).length) 9 ([t34] : List ByteArray), rowC (ci .i16) A40 (([t35] : List Int).length) 50 ([t35] : List Int)] [roC G.cs Aa0_0 ca0_0 a0.Names, roC (ci .i16) Aa0_1 ca0_1 a0.Eats, roC (ci .u16) Aa0_2 ca0_2 a0.Foes, roC (ci .i64) Aa1 ca1 a1]) ?_ ?_
            · skip
              refine CJ.drawT [19, 21] [7, 8, 16, 17] (.one 0 (.one 1 (.one 2 (.one 3 (.one 4 (.one 5 (.one 6 (.one 9 (.one 10 (.one 11 (.one 12 (.one 13 (.one 14 (.one 15 (.br (.alt 7 (.br (.alt 8 (.one 18 (.one 16 (.one 17 (.one 19 (.one 20 (.one 21 (.fin))))))) (.alt 16 (.one 8 (.one 18 (.one 17 (.one 19 (.one 20 (.one 21 (.fin))))))) (.stop)))) (.alt 16 (.one 7 (.one 8 (.one 18 (.one 17 (.one 19 (.one 20 (.one 21 (.fin)))))))) (.stop)))))))))))))))))) mixed (by kernel_rfl) hS [0, 3] fun w1 hS hY hV => ?_
              refine TJ.sp rfl rfl rfl rfl rfl (fun w2 => SR.fieldAddr tU_ok tI_ok rfl rfl rfl rfl rfl rfl) ?_
              refine TJ.st hY rfl rfl rfl rfl rfl (fun w2 hY => SR.load rfl rfl (fun w' hx => ld1 tU_ok rfl rfl (CA.ext (CA.sub ((hV w2 hY).cellsR (i := 5) rfl) 0) hx) rfl)) ?_
              refine TJ.sp rfl rfl rfl rfl rfl (fun w2 => SR.fieldAddr tU_ok tI_ok rfl rfl rfl rfl rfl rfl) ?_
              refine TJ.st hY rfl rfl rfl rfl rfl (fun w2 hY => SR.load rfl rfl (fun w' hx => ld1 tU_ok rfl rfl (CA.ext (CA.sub ((hV w2 hY).cellsR (i := 4) rfl) 0) hx) rfl)) ?_
              refine TJ.pures tU_ok 1 rfl ?_
              obtain ⟨ad34, e34⟩ := (hS.rd' (i := 0) rfl).some' ht34
              refine TJ.sp rfl rfl rfl rfl rfl (fun w2 => SR.idxS tU_ok tI_ok rfl rfl rfl rfl e34 rfl (getI_some ht34).1) ?_
              refine TJ.st hY rfl rfl rfl rfl rfl (fun w2 hY => SR.load rfl rfl (fun w' hx => ld1 tU_ok rfl rfl (CA.ext (((hV w2 hY).rd' (i := 0) rfl).at_ e34 ht34) hx) rfl)) ?_
              refine TJ.sp rfl rfl rfl rfl rfl (fun w2 => SR.fieldAddr tU_ok tI_ok rfl rfl rfl rfl rfl rfl) ?_
              refine TJ.st hY rfl rfl rfl rfl rfl (fun w2 hY => SR.load rfl rfl (fun w' hx => ld1 tU_ok rfl rfl (CA.ext (CA.sub ((hV w2 hY).cellsR (i := 5) rfl) 1) hx) rfl)) ?_
              refine TJ.sp rfl rfl rfl rfl rfl (fun w2 => SR.fieldAddr tU_ok tI_ok rfl rfl rfl rfl rfl rfl) ?_
              refine TJ.st hY rfl rfl rfl rfl rfl (fun w2 hY => SR.load rfl rfl (fun w' hx => ld1 tU_ok rfl rfl (CA.ext (CA.sub ((hV w2 hY).cellsR (i := 4) rfl) 1) hx) rfl)) ?_
              refine TJ.pures tU_ok 1 rfl ?_
              obtain ⟨ad35, e35⟩ := (hS.rd' (i := 1) rfl).some' ht35
              refine TJ.sp rfl rfl rfl rfl rfl (fun w2 => SR.idxS tU_ok tI_ok rfl rfl rfl rfl e35 rfl (getI_some ht35).1) ?_
              refine TJ.st hY rfl rfl rfl rfl rfl (fun w2 hY => SR.load rfl rfl (fun w' hx => ld1 tU_ok rfl rfl (CA.ext (((hV w2 hY).rd' (i := 1) rfl).at_ e35 ht35) hx) rfl)) ?_
              refine TJ.br ?_
              refine TJ.alt ?_ ?_
              · skip
                refine TJ.ef hY rfl rfl rfl rfl rfl (Ef.lit tU_ok tI_ok hS (C := G.cs) rfl rfl rfl rfl rfl rfl ([t34] : List ByteArray) rfl rfl rfl rfl) ?_
                rintro _ w1 hY ⟨A44, rfl, hS⟩
                refine TJ.br ?_
                refine TJ.alt ?_ ?_
                · skip
                  have hO := hS
                  refine TJ.ew rfl rfl rfl rfl rfl (Ew.append tU_ok tI_ok (C := G.cs) (xs := y20) (ys := ([t34] : List ByteArray)) (hS.inn [0, 3]) (i := 4) rfl rfl rfl rfl rfl rfl rfl rfl rfl rfl rfl rfl rfl (hS.rd (i := 6) rfl) (chk_some hu37)) (by rintro _ w1 ⟨A45, c46, rfl, hS⟩; exact hY.wr (hO.inY [0, 3] 4 rfl rfl) hS.chg) ?_
                  rintro _ w1 hY ⟨A45, c46, rfl, hS⟩
                  have hS : St w no w1 [box b1 ([.slice Aa0_0 a0.Names.length ca0_0, .slice Aa0_1 a0.Eats.length ca0_1, .slice Aa0_2 a0.Foes.length ca0_2]) 29, box b2 ([.slice none 0 0, .slice none 0 0, .slice none 0 0]) 29, rowC (ci .u16) A9 ((a1.length : Int).toNat) 51 y18, box b10 ([.slice A21 y20.length c22, .slice A24 y23.length c25, .slice A9 y18.length ((a1.length : Int).toNat)]) 29, rowC G.cs A45 c46 9 (y20 ++ ([t34] : List ByteArray)), rowC (ci .i16) A24 c25 50 y23, rowC G.cs A44 (([t34] : List ByteArray).length) 9 ([t34] : List ByteArray)] [roC G.cs Aa0_0 ca0_0 a0.Names, roC (ci .i16) Aa0_1 ca0_1 a0.Eats, roC (ci .u16) Aa0_2 ca0_2 a0.Foes, roC (ci .i64) Aa1 ca1 a1] := hO.out [0, 3] hS
                  refine TJ.sp rfl rfl rfl rfl rfl (fun w2 => SR.fieldAddr tU_ok tI_ok rfl rfl rfl rfl rfl rfl) ?_
                  refine TJ.ef hY rfl rfl rfl rfl rfl (Ef.lit tU_ok tI_ok hS (C := (ci .i16)) rfl rfl rfl rfl rfl rfl ([t35] : List Int) rfl rfl rfl rfl) ?_
                  rintro _ w1 hY ⟨A47, rfl, hS⟩
                  have hO := hS
                  refine TJ.ew rfl rfl rfl rfl rfl (Ew.append tU_ok tI_ok (C := (ci .i16)) (xs := y23) (ys := ([t35] : List Int)) (hS.inn [0, 3]) (i := 5) rfl rfl rfl rfl rfl rfl rfl rfl rfl rfl rfl rfl rfl (hS.rd (i := 7) rfl) (chk_some hu41)) (by rintro _ w1 ⟨A48, c49, rfl, hS⟩; exact hY.wr (hO.inY [0, 3] 4 rfl rfl) hS.chg) ?_
                  rintro _ w1 hY ⟨A48, c49, rfl, hS⟩
                  have hS : St w no w1 [box b1 ([.slice Aa0_0 a0.Names.length ca0_0, .slice Aa0_1 a0.Eats.length ca0_1, .slice Aa0_2 a0.Foes.length ca0_2]) 29, box b2 ([.slice none 0 0, .slice none 0 0, .slice none 0 0]) 29, rowC (ci .u16) A9 ((a1.length : Int).toNat) 51 y18, box b10 ([.slice A21 y20.length c22, .slice A24 y23.length c25, .slice A9 y18.length ((a1.length : Int).toNat)]) 29, rowC G.cs A45 c46 9 (y20 ++ ([t34] : List ByteArray)), rowC (ci .i16) A48 c49 50 (y23 ++ ([t35] : List Int)), rowC G.cs A44 (([t34] : List ByteArray).length) 9 ([t34] : List ByteArray), rowC (ci .i16) A47 (([t35] : List Int).length) 50 ([t35] : List Int)] [roC G.cs Aa0_0 ca0_0 a0.Names, roC (ci .i16) Aa0_1 ca0_1 a0.Eats, roC (ci .u16) Aa0_2 ca0_2 a0.Foes, roC (ci .i64) Aa1 ca1 a1] := hO.out [0, 3] hS
                  refine TJ.esb rfl rfl rfl rfl (Es.store tI_ok hS (i := 3) (vs := [.slice A45 (y20 ++ ([t34] : List ByteArray)).length c46]) rfl rfl rfl (ad1 _ _) rfl rfl rfl rfl (one1 rfl) (Nat.le_of_ble_eq_true rfl) ([.slice A45 (y20 ++ ([t34] : List ByteArray)).length c46, .slice A24 y23.length c25, .slice A9 y18.length ((a1.length : Int).toNat)]) rfl) ?_
                  intro w1 hS
                  refine TJ.sp rfl rfl rfl rfl rfl (fun w2 => SR.fieldAddr tU_ok tI_ok rfl rfl rfl rfl rfl rfl) ?_
                  refine TJ.esb rfl rfl rfl rfl (Es.store tI_ok hS (i := 3) (vs := [.slice A48 (y23 ++ ([t35] : List Int)).length c49]) rfl rfl rfl (ad1 _ _) rfl rfl rfl rfl (one1 rfl) (Nat.le_of_ble_eq_true rfl) ([.slice A45 (y20 ++ ([t34] : List ByteArray)).length c46, .slice A48 (y23 ++ ([t35] : List Int)).length c49, .slice A9 y18.length ((a1.length : Int).toNat)]) rfl) ?_
                  intro w1 hS
                  refine TJ.nil ?_
                  exact EJ.meet (F' := [(1, .slice Aa1 a1.length ca1), (2, .pointer (some ⟨b1, 0, none⟩)), (4, .pointer (some ⟨b2, 0, none⟩)), (7, .pointer (some ⟨b10, 0, none⟩)), (8, .int .i64 y19), (9, .int .i64 t33), (28, .slice Aa1 a1.length ca1), (29, .int .i64 (a1.length : Int)), (30, .int .i64 y19)]) ⟨rfl, rfl, rfl, rfl, rfl, rfl, rfl, rfl, rfl, trivial⟩ ⟨A44, A45, c46, A47, A48, c49, rfl, hS.pick [0, 1, 2, 3, 4, 5, 6, 7] [0, 1, 2, 3] rfl⟩
                refine TJ.alt ?_ ?_
                · skip
                  refine TJ.ef hY rfl rfl rfl rfl rfl (Ef.lit tU_ok tI_ok hS (C := (ci .i16)) rfl rfl rfl rfl rfl rfl ([t35] : List Int) rfl rfl rfl rfl) ?_
                  rintro _ w1 hY ⟨A50, rfl, hS⟩
                  have hO := hS
                  refine TJ.ew rfl rfl rfl rfl rfl (Ew.append tU_ok tI_ok (C := G.cs) (xs := y20) (ys := ([t34] : List ByteArray)) (hS.inn [0, 3]) (i := 4) rfl rfl rfl rfl rfl rfl rfl rfl rfl rfl rfl rfl rfl (hS.rd (i := 6) rfl) (chk_some hu37)) (by rintro _ w1 ⟨A51, c52, rfl, hS⟩; exact hY.wr (hO.inY [0, 3] 4 rfl rfl) hS.chg) ?_
                  rintro _ w1 hY ⟨A51, c52, rfl, hS⟩
                  have hS : St w no w1 [box b1 ([.slice Aa0_0 a0.Names.length ca0_0, .slice Aa0_1 a0.Eats.length ca0_1, .slice Aa0_2 a0.Foes.length ca0_2]) 29, box b2 ([.slice none 0 0, .slice none 0 0, .slice none 0 0]) 29, rowC (ci .u16) A9 ((a1.length : Int).toNat) 51 y18, box b10 ([.slice A21 y20.length c22, .slice A24 y23.length c25, .slice A9 y18.length ((a1.length : Int).toNat)]) 29, rowC G.cs A51 c52 9 (y20 ++ ([t34] : List ByteArray)), rowC (ci .i16) A24 c25 50 y23, rowC G.cs A44 (([t34] : List ByteArray).length) 9 ([t34] : List ByteArray), rowC (ci .i16) A50 (([t35] : List Int).length) 50 ([t35] : List Int)] [roC G.cs Aa0_0 ca0_0 a0.Names, roC (ci .i16) Aa0_1 ca0_1 a0.Eats, roC (ci .u16) Aa0_2 ca0_2 a0.Foes, roC (ci .i64) Aa1 ca1 a1] := hO.out [0, 3] hS
                  refine TJ.sp rfl rfl rfl rfl rfl (fun w2 => SR.fieldAddr tU_ok tI_ok rfl rfl rfl rfl rfl rfl) ?_
                  have hO := hS
                  refine TJ.ew rfl rfl rfl rfl rfl (Ew.append tU_ok tI_ok (C := (ci .i16)) (xs := y23) (ys := ([t35] : List Int)) (hS.inn [0, 3]) (i := 5) rfl rfl rfl rfl rfl rfl rfl rfl rfl rfl rfl rfl rfl (hS.rd (i := 7) rfl) (chk_some hu41)) (by rintro _ w1 ⟨A53, c54, rfl, hS⟩; exact hY.wr (hO.inY [0, 3] 4 rfl rfl) hS.chg) ?_
                  rintro _ w1 hY ⟨A53, c54, rfl, hS⟩
                  have hS : St w no w1 [box b1 ([.slice Aa0_0 a0.Names.length ca0_0, .slice Aa0_1 a0.Eats.length ca0_1, .slice Aa0_2 a0.Foes.length ca0_2]) 29, box b2 ([.slice none 0 0, .slice none 0 0, .slice none 0 0]) 29, rowC (ci .u16) A9 ((a1.length : Int).toNat) 51 y18, box b10 ([.slice A21 y20.length c22, .slice A24 y23.length c25, .slice A9 y18.length ((a1.length : Int).toNat)]) 29, rowC G.cs A51 c52 9 (y20 ++ ([t34] : List ByteArray)), rowC (ci .i16) A53 c54 50 (y23 ++ ([t35] : List Int)), rowC G.cs A44 (([t34] : List ByteArray).length) 9 ([t34] : List ByteArray), rowC (ci .i16) A50 (([t35] : List Int).length) 50 ([t35] : List Int)] [roC G.cs Aa0_0 ca0_0 a0.Names, roC (ci .i16) Aa0_1 ca0_1 a0.Eats, roC (ci .u16) Aa0_2 ca0_2 a0.Foes, roC (ci .i64) Aa1 ca1 a1] := hO.out [0, 3] hS
                  refine TJ.esb rfl rfl rfl rfl (Es.store tI_ok hS (i := 3) (vs := [.slice A51 (y20 ++ ([t34] : List ByteArray)).length c52]) rfl rfl rfl (ad1 _ _) rfl rfl rfl rfl (one1 rfl) (Nat.le_of_ble_eq_true rfl) ([.slice A51 (y20 ++ ([t34] : List ByteArray)).length c52, .slice A24 y23.length c25, .slice A9 y18.length ((a1.length : Int).toNat)]) rfl) ?_
                  intro w1 hS
                  refine TJ.sp rfl rfl rfl rfl rfl (fun w2 => SR.fieldAddr tU_ok tI_ok rfl rfl rfl rfl rfl rfl) ?_
                  refine TJ.esb rfl rfl rfl rfl (Es.store tI_ok hS (i := 3) (vs := [.slice A53 (y23 ++ ([t35] : List Int)).length c54]) rfl rfl rfl (ad1 _ _) rfl rfl rfl rfl (one1 rfl) (Nat.le_of_ble_eq_true rfl) ([.slice A51 (y20 ++ ([t34] : List ByteArray)).length c52, .slice A53 (y23 ++ ([t35] : List Int)).length c54, .slice A9 y18.length ((a1.length : Int).toNat)]) rfl) ?_
                  intro w1 hS
                  refine TJ.nil ?_
                  exact EJ.meet (F' := [(1, .slice Aa1 a1.length ca1), (2, .pointer (some ⟨b1, 0, none⟩)), (4, .pointer (some ⟨b2, 0, none⟩)), (7, .pointer (some ⟨b10, 0, none⟩)), (8, .int .i64 y19), (9, .int .i64 t33), (28, .slice Aa1 a1.length ca1), (29, .int .i64 (a1.length : Int)), (30, .int .i64 y19)]) ⟨rfl, rfl, rfl, rfl, rfl, rfl, rfl, rfl, rfl, trivial⟩ ⟨A44, A51, c52, A50, A53, c54, rfl, hS.pick [0, 1, 2, 3, 4, 5, 6, 7] [0, 1, 2, 3] rfl⟩
                exact TJ.stop
              refine TJ.alt ?_ ?_
              · skip
                refine TJ.ef hY rfl rfl rfl rfl rfl (Ef.lit tU_ok tI_ok hS (C := (ci .i16)) rfl rfl rfl rfl rfl rfl ([t35] : List Int) rfl rfl rfl rfl) ?_
                rintro _ w1 hY ⟨A55, rfl, hS⟩
                refine TJ.ef hY rfl rfl rfl rfl rfl (Ef.lit tU_ok tI_ok hS (C := G.cs) rfl rfl rfl rfl rfl rfl ([t34] : List ByteArray) rfl rfl rfl rfl) ?_
                rintro _ w1 hY ⟨A56, rfl, hS⟩
                have hO := hS
                refine TJ.ew rfl rfl rfl rfl rfl (Ew.append tU_ok tI_ok (C := G.cs) (xs := y20) (ys := ([t34] : List ByteArray)) (hS.inn [0, 3]) (i := 4) rfl rfl rfl rfl rfl rfl rfl rfl rfl rfl rfl rfl rfl (hS.rd (i := 7) rfl) (chk_some hu37)) (by rintro _ w1 ⟨A57, c58, rfl, hS⟩; exact hY.wr (hO.inY [0, 3] 4 rfl rfl) hS.chg) ?_
                rintro _ w1 hY ⟨A57, c58, rfl, hS⟩
                have hS : St w no w1 [box b1 ([.slice Aa0_0 a0.Names.length ca0_0, .slice Aa0_1 a0.Eats.length ca0_1, .slice Aa0_2 a0.Foes.length ca0_2]) 29, box b2 ([.slice none 0 0, .slice none 0 0, .slice none 0 0]) 29, rowC (ci .u16) A9 ((a1.length : Int).toNat) 51 y18, box b10 ([.slice A21 y20.length c22, .slice A24 y23.length c25, .slice A9 y18.length ((a1.length : Int).toNat)]) 29, rowC G.cs A57 c58 9 (y20 ++ ([t34] : List ByteArray)), rowC (ci .i16) A24 c25 50 y23, rowC (ci .i16) A55 (([t35] : List Int).length) 50 ([t35] : List Int), rowC G.cs A56 (([t34] : List ByteArray).length) 9 ([t34] : List ByteArray)] [roC G.cs Aa0_0 ca0_0 a0.Names, roC (ci .i16) Aa0_1 ca0_1 a0.Eats, roC (ci .u16) Aa0_2 ca0_2 a0.Foes, roC (ci .i64) Aa1 ca1 a1] := hO.out [0, 3] hS
                refine TJ.sp rfl rfl rfl rfl rfl (fun w2 => SR.fieldAddr tU_ok tI_ok rfl rfl rfl rfl rfl rfl) ?_
                have hO := hS
                refine TJ.ew rfl rfl rfl rfl rfl (Ew.append tU_ok tI_ok (C := (ci .i16)) (xs := y23) (ys := ([t35] : List Int)) (hS.inn [0, 3]) (i := 5) rfl rfl rfl rfl rfl rfl rfl rfl rfl rfl rfl rfl rfl (hS.rd (i := 6) rfl) (chk_some hu41)) (by rintro _ w1 ⟨A59, c60, rfl, hS⟩; exact hY.wr (hO.inY [0, 3] 4 rfl rfl) hS.chg) ?_
                rintro _ w1 hY ⟨A59, c60, rfl, hS⟩
                have hS : St w no w1 [box b1 ([.slice Aa0_0 a0.Names.length ca0_0, .slice Aa0_1 a0.Eats.length ca0_1, .slice Aa0_2 a0.Foes.length ca0_2]) 29, box b2 ([.slice none 0 0, .slice none 0 0, .slice none 0 0]) 29, rowC (ci .u16) A9 ((a1.length : Int).toNat) 51 y18, box b10 ([.slice A21 y20.length c22, .slice A24 y23.length c25, .slice A9 y18.length ((a1.length : Int).toNat)]) 29, rowC G.cs A57 c58 9 (y20 ++ ([t34] : List ByteArray)), rowC (ci .i16) A59 c60 50 (y23 ++ ([t35] : List Int)), rowC (ci .i16) A55 (([t35] : List Int).length) 50 ([t35] : List Int), rowC G.cs A56 (([t34] : List ByteArray).length) 9 ([t34] : List ByteArray)] [roC G.cs Aa0_0 ca0_0 a0.Names, roC (ci .i16) Aa0_1 ca0_1 a0.Eats, roC (ci .u16) Aa0_2 ca0_2 a0.Foes, roC (ci .i64) Aa1 ca1 a1] := hO.out [0, 3] hS
                refine TJ.esb rfl rfl rfl rfl (Es.store tI_ok hS (i := 3) (vs := [.slice A57 (y20 ++ ([t34] : List ByteArray)).length c58]) rfl rfl rfl (ad1 _ _) rfl rfl rfl rfl (one1 rfl) (Nat.le_of_ble_eq_true rfl) ([.slice A57 (y20 ++ ([t34] : List ByteArray)).length c58, .slice A24 y23.length c25, .slice A9 y18.length ((a1.length : Int).toNat)]) rfl) ?_
                intro w1 hS
                refine TJ.sp rfl rfl rfl rfl rfl (fun w2 => SR.fieldAddr tU_ok tI_ok rfl rfl rfl rfl rfl rfl) ?_
                refine TJ.esb rfl rfl rfl rfl (Es.store tI_ok hS (i := 3) (vs := [.slice A59 (y23 ++ ([t35] : List Int)).length c60]) rfl rfl rfl (ad1 _ _) rfl rfl rfl rfl (one1 rfl) (Nat.le_of_ble_eq_true rfl) ([.slice A57 (y20 ++ ([t34] : List ByteArray)).length c58, .slice A59 (y23 ++ ([t35] : List Int)).length c60, .slice A9 y18.length ((a1.length : Int).toNat)]) rfl) ?_
                intro w1 hS
                refine TJ.nil ?_
                exact EJ.meet (F' := [(1, .slice Aa1 a1.length ca1), (2, .pointer (some ⟨b1, 0, none⟩)), (4, .pointer (some ⟨b2, 0, none⟩)), (7, .pointer (some ⟨b10, 0, none⟩)), (8, .int .i64 y19), (9, .int .i64 t33), (28, .slice Aa1 a1.length ca1), (29, .int .i64 (a1.length : Int)), (30, .int .i64 y19)]) ⟨rfl, rfl, rfl, rfl, rfl, rfl, rfl, rfl, rfl, trivial⟩ ⟨A56, A57, c58, A55, A59, c60, rfl, hS.pick [0, 1, 2, 3, 4, 5, 7, 6] [0, 1, 2, 3] rfl⟩
              exact TJ.stop
            · rintro F w1 ⟨A36, A38, c39, A40, A42, c43, rfl, hS⟩
              refine EJ.next ?_
              refine CJ.seq ?_
              refine CJ.region ?_
              refine OJ.pures tU_ok 2 rfl ?_
              obtain ⟨u61, hu61, H⟩ := pbind H
              refine OJ.st rfl rfl rfl (SR.cutS tU_ok tI_ok (0) (y19.toNat) rfl rfl rfl rfl rfl rfl (.inl ⟨rfl, rfl⟩) (.inr ⟨_, _, rfl, (by have := (chk_some hu61); omega), rfl⟩) (by have := (chk_some hu61); omega) (by have := (chk_some hu61); have := (hS.le' (i := 3) rfl : a1.length ≤ ca1); omega)) ?_
              replace hS := hS.cutR (i := 3) (lo := 0) (hi := y19.toNat) rfl (by have := (chk_some hu61); omega) (by have := (chk_some hu61); omega)
              refine OJ.as (t := 57) rfl (show _ = (.slice (cutA Aa1 ca1 0 (ci .i64).sz) ((a1.drop 0).take (y19.toNat - 0)).length (ca1 - 0) : Value) by rw [cutLen (by have := (chk_some hu61); omega) (by have := (chk_some hu61); omega)]; rfl) ?_
              refine OJ.pures tU_ok 2 rfl ?_
              refine OJ.nil (EJ.next ?_)
              obtain ⟨j87, H, K87⟩ := pbind H
              refine CJ.cut1 (fun F w1 => ∃ (y62 : List Int) , (some y62 : Option (List Int)) = some j87 ∧ F = [(1, .slice Aa1 a1.length ca1), (2, .pointer (some ⟨b1, 0, none⟩)), (4, .pointer (some ⟨b2, 0, none⟩)), (7, .pointer (some ⟨b10, 0, none⟩)), (28, .slice Aa1 a1.length ca1), (29, .int .i64 (a1.length : Int)), (30, .int .i64 y19)] ∧ St w no w1 [box b1 ([.slice Aa0_0 a0.Names.length ca0_0, .slice Aa0_1 a0.Eats.length ca0_1, .slice Aa0_2 a0.Foes.length ca0_2]) 29, box b2 ([.slice none 0 0, .slice none 0 0, .slice none 0 0]) 29, rowC (ci .u16) A9 ((a1.length : Int).toNat) 51 y62, box b10 ([.slice A38 (y20 ++ ([t34] : List ByteArray)).length c39, .slice A42 (y23 ++ ([t35] : List Int)).length c43, .slice A9 y62.length ((a1.length : Int).toNat)]) 29, rowC G.cs A38 c39 9 (y20 ++ ([t34] : List ByteArray)), rowC (ci .i16) A42 c43 50 (y23 ++ ([t35] : List Int))] [roC G.cs Aa0_0 ca0_0 a0.Names, roC (ci .i16) Aa0_1 ca0_1 a0.Eats, roC (ci .u16) Aa0_2 ca0_2 a0.Foes, roC (ci .i64) Aa1 ca1 a1, roC (ci .i64) (cutA Aa1 ca1 0 (ci .i64).sz) (ca1 - 0) ((a1.drop 0).take (y19.toNat - 0))]) ?_ ?_
              · skip
                refine CJ.block ?_
                refine CJ.loop (fun k F w1 => ∃ (y63 : List Int) (y64 : Int), F = [(1, .slice Aa1 a1.length ca1), (2, .pointer (some ⟨b1, 0, none⟩)), (4, .pointer (some ⟨b2, 0, none⟩)), (7, .pointer (some ⟨b10, 0, none⟩)), (8, .int .i64 y19), (9, .int .i64 t33), (28, .slice Aa1 a1.length ca1), (29, .int .i64 (a1.length : Int)), (30, .int .i64 y19), (57, .slice (cutA Aa1 ca1 0 (ci .i64).sz) ((a1.drop 0).take (y19.toNat - 0)).length (ca1 - 0)), (58, .int .i64 (((a1.drop 0).take (y19.toNat - 0)).length : Int)), (59, .int .i64 y64)] ∧ St w no w1 [box b1 ([.slice Aa0_0 a0.Names.length ca0_0, .slice Aa0_1 a0.Eats.length ca0_1, .slice Aa0_2 a0.Foes.length ca0_2]) 29, box b2 ([.slice none 0 0, .slice none 0 0, .slice none 0 0]) 29, rowC (ci .u16) A9 ((a1.length : Int).toNat) 51 y63, box b10 ([.slice A38 (y20 ++ ([t34] : List ByteArray)).length c39, .slice A42 (y23 ++ ([t35] : List Int)).length c43, .slice A9 y63.length ((a1.length : Int).toNat)]) 29, rowC G.cs A38 c39 9 (y20 ++ ([t34] : List ByteArray)), rowC (ci .i16) A42 c43 50 (y23 ++ ([t35] : List Int))] [roC G.cs Aa0_0 ca0_0 a0.Names, roC (ci .i16) Aa0_1 ca0_1 a0.Eats, roC (ci .u16) Aa0_2 ca0_2 a0.Foes, roC (ci .i64) Aa1 ca1 a1, roC (ci .i64) (cutA Aa1 ca1 0 (ci .i64).sz) (ca1 - 0) ((a1.drop 0).take (y19.toNat - 0))] ∧ impl_PickHerd.l2 a0 a1 y19 y20 y23 t33 t34 t35 k y63 y64 = some j87) k (F' := [(1, .slice Aa1 a1.length ca1), (2, .pointer (some ⟨b1, 0, none⟩)), (4, .pointer (some ⟨b2, 0, none⟩)), (7, .pointer (some ⟨b10, 0, none⟩)), (8, .int .i64 y19), (9, .int .i64 t33), (28, .slice Aa1 a1.length ca1), (29, .int .i64 (a1.length : Int)), (30, .int .i64 y19), (57, .slice (cutA Aa1 ca1 0 (ci .i64).sz) ((a1.drop 0).take (y19.toNat - 0)).length (ca1 - 0)), (58, .int .i64 (((a1.drop 0).take (y19.toNat - 0)).length : Int)), (59, .int .i64 0)]) ⟨rfl, rfl, rfl, rfl, rfl, rfl, rfl, rfl, rfl, rfl, rfl, rfl, trivial⟩ ⟨y18, 0, rfl, hS.pick [0, 1, 2, 3, 4, 5] [0, 1, 2, 3, 4] rfl, H⟩ ?_
                rintro k F w1 ⟨y63, y64, rfl, hS, H⟩
                cases k with
                | zero => rw [impl_PickHerd.l2] at H; cases H
                | succ k =>
                  rw [impl_PickHerd.l2] at H
                  refine CJ.seq ?_
                  refine CJ.region ?_
                  refine OJ.pures tU_ok 1 rfl ?_
                  refine OJ.nil (EJ.next ?_)
                  refine CJ.seq ?_
                  refine CJ.cond rfl (fun hb => ?_) (fun hb => ?_)
                  · replace H := pif_t (of_decide_eq_true hb) H
                    refine CJ.skip (EJ.next ?_)
                    refine CJ.seq ?_
                    refine CJ.block ?_
                    refine CJ.seq ?_
                    refine CJ.region ?_
                    refine OJ.pures tU_ok 1 rfl ?_
                    obtain ⟨t65, ht65, H⟩ := pbind H
                    obtain ⟨ad65, e65⟩ := (hS.rd' (i := 4) rfl).some' ht65
                    refine OJ.st rfl rfl rfl (SR.idxS tU_ok tI_ok rfl rfl rfl rfl e65 rfl (getI_some ht65).1) ?_
                    refine OJ.st rfl rfl rfl (SR.load rfl rfl (fun w' hx => ld1 tU_ok rfl rfl (CA.ext ((hS.rd' (i := 4) rfl).at_ e65 ht65) hx) rfl)) ?_
                    refine OJ.pures tU_ok 2 rfl ?_
                    refine OJ.nil (EJ.next ?_)
                    refine CJ.draw [7] [0, 1, 2, 3, 4, 5, 6, 7] mixed (by kernel_rfl) hS fun w1 hS => ?_
                    refine DJ.st rfl rfl rfl rfl rfl (SR.load rfl rfl (fun w' hx => ldN tU_ok tI_ok rfl rfl rfl (CA.ext (hS.cells (i := 3) rfl) hx) (ds := [.slice A38 (y20 ++ ([t34] : List ByteArray)).length c39, .slice A42 (y23 ++ ([t35] : List Int)).length c43, .slice A9 y63.length ((a1.length : Int).toNat)]) rfl rfl)) ?_
                    refine DJ.pures tU_ok 2 rfl ?_
                    refine DJ.st rfl rfl rfl rfl rfl (SR.load rfl rfl (fun w' hx => ldN tU_ok tI_ok rfl rfl rfl (CA.ext (hS.cells (i := 0) rfl) hx) (ds := [.slice Aa0_0 a0.Names.length ca0_0, .slice Aa0_1 a0.Eats.length ca0_1, .slice Aa0_2 a0.Foes.length ca0_2]) rfl rfl)) ?_
                    refine DJ.pures tU_ok 2 rfl ?_
                    obtain ⟨t66, ht66, H⟩ := pbind H
                    refine DJ.callF rfl rfl rfl rfl rfl rfl rfl hb38 rfl (impl_Herd_areFoes.c _ Aa0_0 ca0_0 Aa0_1 ca0_1 Aa0_2 ca0_2 a0 (hS.rd' (i := 0) rfl) (hS.le' (i := 0) rfl) (hS.rd' (i := 1) rfl) (hS.le' (i := 1) rfl) (hS.rd' (i := 2) rfl) (hS.le' (i := 2) rfl) t33 t65 _ ht66) (by rintro v w' ⟨rfl, hs⟩; exact hs) ?_
                    rintro _ w1 ⟨rfl, hs⟩
                    replace hS := hS.grow hs
                    obtain ⟨t67, ht67, H⟩ := pbind H
                    refine DJ.callFw rfl rfl rfl rfl rfl rfl rfl hb37 rfl (impl_Herd_set.c _ A38 c39 A42 c43 A9 ((a1.length : Int).toNat) (⟨y20 ++ ([t34] : List ByteArray), y23 ++ ([t35] : List Int), y63⟩ : Herd) y19 y64 t66 ((hS.subs [2] [] [] rfl).pick [0] [] rfl) _ ht67) ?_
                    rintro _ w1 ⟨rfl, hs, hlc0⟩
                    replace hS := hS.back [2] rfl rfl [rowC (ci .u16) A9 ((a1.length : Int).toNat) 51 t67] [] hs ⟨fun _ => Iff.rfl, trivial⟩
                    have hS : St w no w1 [box b1 ([.slice Aa0_0 a0.Names.length ca0_0, .slice Aa0_1 a0.Eats.length ca0_1, .slice Aa0_2 a0.Foes.length ca0_2]) 29, box b2 ([.slice none 0 0, .slice none 0 0, .slice none 0 0]) 29, rowC (ci .u16) A9 ((a1.length : Int).toNat) 51 t67, box b10 ([.slice A38 (y20 ++ ([t34] : List ByteArray)).length c39, .slice A42 (y23 ++ ([t35] : List Int)).length c43, .slice A9 y63.length ((a1.length : Int).toNat)]) 29, rowC G.cs A38 c39 9 (y20 ++ ([t34] : List ByteArray)), rowC (ci .i16) A42 c43 50 (y23 ++ ([t35] : List Int))] [roC G.cs Aa0_0 ca0_0 a0.Names, roC (ci .i16) Aa0_1 ca0_1 a0.Eats, roC (ci .u16) Aa0_2 ca0_2 a0.Foes, roC (ci .i64) Aa1 ca1 a1, roC (ci .i64) (cutA Aa1 ca1 0 (ci .i64).sz) (ca1 - 0) ((a1.drop 0).take (y19.toNat - 0))] := hS
                    refine DJ.as (t := 64) rfl (show _ = (.agg [.slice A38 (y20 ++ ([t34] : List ByteArray)).length c39, .slice A42 (y23 ++ ([t35] : List Int)).length c43, .slice A9 t67.length ((a1.length : Int).toNat)].toArray : Value) by simp only [hlc0]) ?_
                    replace hS := hS.boxAs (i := 3) rfl (show _ = ([.slice A38 (y20 ++ ([t34] : List ByteArray)).length c39, .slice A42 (y23 ++ ([t35] : List Int)).length c43, .slice A9 t67.length ((a1.length : Int).toNat)] : List Value) by simp only [hlc0])
                    have hS : St w no w1 [box b1 ([.slice Aa0_0 a0.Names.length ca0_0, .slice Aa0_1 a0.Eats.length ca0_1, .slice Aa0_2 a0.Foes.length ca0_2]) 29, box b2 ([.slice none 0 0, .slice none 0 0, .slice none 0 0]) 29, rowC (ci .u16) A9 ((a1.length : Int).toNat) 51 t67, box b10 ([.slice A38 (y20 ++ ([t34] : List ByteArray)).length c39, .slice A42 (y23 ++ ([t35] : List Int)).length c43, .slice A9 t67.length ((a1.length : Int).toNat)]) 29, rowC G.cs A38 c39 9 (y20 ++ ([t34] : List ByteArray)), rowC (ci .i16) A42 c43 50 (y23 ++ ([t35] : List Int))] [roC G.cs Aa0_0 ca0_0 a0.Names, roC (ci .i16) Aa0_1 ca0_1 a0.Eats, roC (ci .u16) Aa0_2 ca0_2 a0.Foes, roC (ci .i64) Aa1 ca1 a1, roC (ci .i64) (cutA Aa1 ca1 0 (ci .i64).sz) (ca1 - 0) ((a1.drop 0).take (y19.toNat - 0))] := hS
                    refine DJ.nil (EJ.blk (EJ.next ?_))
                    refine CJ.region ?_
                    refine OJ.pures tU_ok 2 rfl ?_
                    refine OJ.nil ?_
                    exact EJ.round k (F' := [(1, .slice Aa1 a1.length ca1), (2, .pointer (some ⟨b1, 0, none⟩)), (4, .pointer (some ⟨b2, 0, none⟩)), (7, .pointer (some ⟨b10, 0, none⟩)), (8, .int .i64 y19), (9, .int .i64 t33), (28, .slice Aa1 a1.length ca1), (29, .int .i64 (a1.length : Int)), (30, .int .i64 y19), (57, .slice (cutA Aa1 ca1 0 (ci .i64).sz) ((a1.drop 0).take (y19.toNat - 0)).length (ca1 - 0)), (58, .int .i64 (((a1.drop 0).take (y19.toNat - 0)).length : Int)), (59, .int .i64 (IntKind.i64.wrap (y64 + 1)))]) ⟨rfl, rfl, rfl, rfl, rfl, rfl, rfl, rfl, rfl, rfl, rfl, rfl, trivial⟩ (Nat.lt_succ_self _) ⟨t67, (IntKind.i64.wrap (y64 + 1)), rfl, hS.pick [0, 1, 2, 3, 4, 5] [0, 1, 2, 3, 4] rfl, H⟩
                  · replace H := pif_f (of_decide_eq_false hb) H
                    refine CJ.exit (EJ.skE (EJ.skE (EJ.hit (?_))))
                    exact EJ.meet (F' := [(1, .slice Aa1 a1.length ca1), (2, .pointer (some ⟨b1, 0, none⟩)), (4, .pointer (some ⟨b2, 0, none⟩)), (7, .pointer (some ⟨b10, 0, none⟩)), (28, .slice Aa1 a1.length ca1), (29, .int .i64 (a1.length : Int)), (30, .int .i64 y19)]) ⟨rfl, rfl, rfl, rfl, rfl, rfl, rfl, trivial⟩ ⟨y63, H, rfl, hS.pick [0, 1, 2, 3, 4, 5] [0, 1, 2, 3, 4] rfl⟩
              · rintro F w1 ⟨y62, he, rfl, hS⟩
                obtain rfl := Option.some.inj he
                have H := K87
                refine EJ.blk (?_)
                exact EJ.meet (F' := [(1, .slice Aa1 a1.length ca1), (2, .pointer (some ⟨b1, 0, none⟩)), (4, .pointer (some ⟨b2, 0, none⟩)), (7, .pointer (some ⟨b10, 0, none⟩)), (28, .slice Aa1 a1.length ca1), (29, .int .i64 (a1.length : Int)), (30, .int .i64 y19)]) ⟨rfl, rfl, rfl, rfl, rfl, rfl, rfl, trivial⟩ ⟨y62, (y20 ++ ([t34] : List ByteArray)), (y23 ++ ([t35] : List Int)), A38, c39, A42, c43, H, rfl, hS.pick [0, 1, 2, 3, 4, 5] [0, 1, 2, 3] rfl⟩
          · rintro F w1 ⟨y26, y27, y30, A28, c29, A31, c32, he, rfl, hS⟩
            obtain rfl := Option.some.inj he
            have H := K85
            refine CJ.region ?_
            refine OJ.pures tU_ok 2 rfl ?_
            refine OJ.nil ?_
            exact EJ.round k (F' := [(1, .slice Aa1 a1.length ca1), (2, .pointer (some ⟨b1, 0, none⟩)), (4, .pointer (some ⟨b2, 0, none⟩)), (7, .pointer (some ⟨b10, 0, none⟩)), (28, .slice Aa1 a1.length ca1), (29, .int .i64 (a1.length : Int)), (30, .int .i64 (IntKind.i64.wrap (y19 + 1)))]) ⟨rfl, rfl, rfl, rfl, rfl, rfl, rfl, trivial⟩ (Nat.lt_succ_self _) ⟨y26, (IntKind.i64.wrap (y19 + 1)), y27, y30, A28, c29, A31, c32, rfl, hS.pick [0, 1, 2, 3, 4, 5] [0, 1, 2, 3] rfl, H⟩
        · replace H := pif_f (of_decide_eq_false hb) H
          refine CJ.exit (EJ.skE (EJ.skE (EJ.hit (?_))))
          exact EJ.meet (F' := [(4, .pointer (some ⟨b2, 0, none⟩)), (7, .pointer (some ⟨b10, 0, none⟩))]) ⟨rfl, rfl, trivial⟩ ⟨y18, y20, y23, A21, c22, A24, c25, H, rfl, hS.pick [1, 2, 3, 4, 5] [0, 1, 2, 3] rfl⟩
    · rintro F w1 ⟨y11, y12, y15, A13, c14, A16, c17, he, rfl, hS⟩
      obtain rfl := Option.some.inj he
      have H := K78
      refine EJ.next ?_
      refine CJ.seq ?_
      refine CJ.region ?_
      refine OJ.st rfl rfl rfl (SR.load rfl rfl (fun w' hx => ldN tU_ok tI_ok rfl rfl rfl (CA.ext (hS.cells (i := 2) rfl) hx) (ds := [.slice A13 y12.length c14, .slice A16 y15.length c17, .slice A9 y11.length ((a1.length : Int).toNat)]) rfl rfl)) ?_
      refine OJ.es rfl rfl (Es.store tI_ok hS (i := 0) (vs := [.slice A13 y12.length c14, .slice A16 y15.length c17, .slice A9 y11.length ((a1.length : Int).toNat)]) rfl rfl rfl rfl rfl rfl rfl rfl (by intro u hu; simp only [List.mem_cons, List.not_mem_nil, or_false] at hu; rcases hu with rfl | rfl | rfl <;> rfl) (Nat.le_of_ble_eq_true rfl) ([.slice A13 y12.length c14, .slice A16 y15.length c17, .slice A9 y11.length ((a1.length : Int).toNat)]) rfl) ?_
      intro w1 hS
      refine OJ.pures tU_ok 1 rfl ?_
      refine OJ.nil (EJ.next ?_)
      refine CJ.ret (?_)
      obtain rfl := Option.some.inj H
      exact EJ.fin rfl (.cell rfl (ldN tU_ok tI_ok rfl rfl rfl (hS.cells (i := 0) rfl) (ds := [.slice A13 y12.length c14, .slice A16 y15.length c17, .slice A9 y11.length ((a1.length : Int).toNat)]) rfl rfl) (.tmp rfl .nil)) ⟨A13, c14, A16, c17, A9, ((a1.length : Int).toNat), rfl, hS.pick [3, 4, 1] [] rfl⟩

def laws_eqStringS.l1 (a0 : List ByteArray) (a1 : List ByteArray) : Nat → Int → Option (Bool ⊕ Unit)
  | 0, _ => none
  | k + 1, y1 => if y1 < (a0.length : Int) then ((getI a0 y1).bind fun t2 => (getI a1 y1).bind fun t3 => if t2 ≠ t3 then (some (Sum.inl false)) else (laws_eqStringS.l1 a0 a1 k (IntKind.i64.wrap (y1 + 1)))) else (some (Sum.inr ()))
def laws_eqStringS.f (k : Nat) (a0 : List ByteArray) (a1 : List ByteArray) : Option Bool := if (a0.length : Int) ≠ (a1.length : Int) then (some false) else ((laws_eqStringS.l1 a0 a1 k 0).bind fun s89 => match s89 with | .inl r => some r | .inr _ => some true)
theorem laws_eqStringS.c (k : Nat) (w : World) (Aa0 : Option Addr) (ca0 : Nat) (a0 : List ByteArray) (hr0 : Rd G.cs w Aa0 a0) (hc0 : a0.length ≤ ca0) (Aa1 : Option Addr) (ca1 : Nat) (a1 : List ByteArray) (hr1 : Rd G.cs w Aa1 a1) (hc1 : a1.length ≤ ca1) (r : Bool) (H : laws_eqStringS.f k a0 a1 = some r) :
    CV Tryd.prog 39 [.slice Aa0 a0.length ca0, .slice Aa1 a1.length ca1].toArray w fun v w' => v = .bool r ∧ Ext w w' := by
  have hS := (((St.init w no).param G.cs Aa0 ca0 a0 hr0 hc0).param G.cs Aa1 ca1 a1 hr1 hc1)
  unfold laws_eqStringS.f at H
  refine CV.body Tryd.func39 rfl Tryd.ntmps39 rfl ?_
  refine CJ.seq ?_
  refine CJ.region ?_
  refine OJ.pures tU_ok 1 rfl ?_
  refine OJ.nil (EJ.next ?_)
  refine CJ.seq ?_
  refine CJ.seq ?_
  refine CJ.region ?_
  refine OJ.pures tU_ok 5 rfl ?_
  refine OJ.nil (EJ.next ?_)
  refine CJ.cond rfl (fun hb => ?_) (fun hb => ?_)
  · replace H := pif_t (of_decide_eq_true hb) H
    refine CJ.seq ?_
    refine CJ.region ?_
    refine OJ.pures tU_ok 1 rfl ?_
    refine OJ.nil (EJ.next ?_)
    refine CJ.ret (EJ.skR (?_))
    obtain rfl := Option.some.inj H
    exact EJ.fin rfl (.tmp rfl .nil) ⟨rfl, hS.ext⟩
  · replace H := pif_f (of_decide_eq_false hb) H
    refine CJ.skip (EJ.next ?_)
    refine CJ.seq ?_
    refine CJ.seq ?_
    refine CJ.region ?_
    refine OJ.pures tU_ok 1 rfl ?_
    refine OJ.nil (EJ.next ?_)
    obtain ⟨j89, H, K89⟩ := pbind H
    refine CJ.cut1 (fun F w1 => (some (Sum.inr ()) : Option (Bool ⊕ Unit)) = some j89 ∧ F = [] ∧ St w no w1 [] [roC G.cs Aa0 ca0 a0, roC G.cs Aa1 ca1 a1]) ?_ ?_
    · skip
      refine CJ.block ?_
      refine CJ.loop (fun k F w1 => ∃ (y1 : Int), F = [(0, .slice Aa0 a0.length ca0), (1, .slice Aa1 a1.length ca1), (5, .int .i64 y1)] ∧ St w no w1 [] [roC G.cs Aa0 ca0 a0, roC G.cs Aa1 ca1 a1] ∧ laws_eqStringS.l1 a0 a1 k y1 = some j89) k (F' := [(0, .slice Aa0 a0.length ca0), (1, .slice Aa1 a1.length ca1), (5, .int .i64 0)]) ⟨rfl, rfl, rfl, trivial⟩ ⟨0, rfl, hS.pick [] [0, 1] rfl, H⟩ ?_
      rintro k F w1 ⟨y1, rfl, hS, H⟩
      cases k with
      | zero => rw [laws_eqStringS.l1] at H; cases H
      | succ k =>
        rw [laws_eqStringS.l1] at H
        refine CJ.seq ?_
        refine CJ.seq ?_
        refine CJ.region ?_
        refine OJ.pures tU_ok 4 rfl ?_
        refine OJ.nil (EJ.next ?_)
        refine CJ.cond rfl (fun hb => ?_) (fun hb => ?_)
        · replace H := pif_t (of_decide_eq_true hb) H
          refine CJ.skip (EJ.next ?_)
          refine CJ.seq ?_
          refine CJ.block ?_
          refine CJ.seq ?_
          refine CJ.draw [] [0, 1, 2, 3, 4, 5, 6, 7, 8] mixed (by kernel_rfl) hS fun w1 hS => ?_
          refine DJ.pures tU_ok 2 rfl ?_
          obtain ⟨t2, ht2, H⟩ := pbind H
          obtain ⟨ad2, e2⟩ := (hS.rd' (i := 0) rfl).some' ht2
          refine DJ.st rfl rfl rfl rfl rfl (SR.idxS tU_ok tI_ok rfl rfl rfl rfl e2 rfl (getI_some ht2).1) ?_
          refine DJ.st rfl rfl rfl rfl rfl (SR.load rfl rfl (fun w' hx => ld1 tU_ok rfl rfl (CA.ext ((hS.rd' (i := 0) rfl).at_ e2 ht2) hx) rfl)) ?_
          refine DJ.pures tU_ok 2 rfl ?_
          obtain ⟨t3, ht3, H⟩ := pbind H
          obtain ⟨ad3, e3⟩ := (hS.rd' (i := 1) rfl).some' ht3
          refine DJ.st rfl rfl rfl rfl rfl (SR.idxS tU_ok tI_ok rfl rfl rfl rfl e3 rfl (getI_some ht3).1) ?_
          refine DJ.st rfl rfl rfl rfl rfl (SR.load rfl rfl (fun w' hx => ld1 tU_ok rfl rfl (CA.ext ((hS.rd' (i := 1) rfl).at_ e3 ht3) hx) rfl)) ?_
          refine DJ.pures tU_ok 1 rfl ?_
          refine DJ.nil (EJ.next ?_)
          refine CJ.cond rfl (fun hb => ?_) (fun hb => ?_)
          · replace H := pif_t (of_decide_eq_true hb) H
            refine CJ.seq ?_
            refine CJ.region ?_
            refine OJ.pures tU_ok 1 rfl ?_
            refine OJ.nil (EJ.next ?_)
            refine CJ.ret (EJ.bkR (EJ.skR (EJ.skR (EJ.bkR (EJ.skR (EJ.skR (?_)))))))
            first | (obtain rfl := Option.some.inj H; have H := K89) | (obtain ⟨q89, H2, e89⟩ := pbind H; obtain rfl := Option.some.inj e89; obtain rfl := Option.some.inj K89; have H := H2)
            obtain rfl := Option.some.inj H
            exact EJ.fin rfl (.tmp rfl .nil) ⟨rfl, hS.ext⟩
          · replace H := pif_f (of_decide_eq_false hb) H
            refine CJ.skip (EJ.blk (EJ.next ?_))
            refine CJ.region ?_
            refine OJ.pures tU_ok 3 rfl ?_
            refine OJ.nil ?_
            exact EJ.round k (F' := [(0, .slice Aa0 a0.length ca0), (1, .slice Aa1 a1.length ca1), (5, .int .i64 (IntKind.i64.wrap (y1 + 1)))]) ⟨rfl, rfl, rfl, trivial⟩ (Nat.lt_succ_self _) ⟨(IntKind.i64.wrap (y1 + 1)), rfl, hS.pick [] [0, 1] rfl, H⟩
        · replace H := pif_f (of_decide_eq_false hb) H
          refine CJ.exit (EJ.skE (EJ.skE (EJ.hit (?_))))
          exact EJ.meet (F' := []) trivial ⟨H, rfl, hS.pick [] [0, 1] rfl⟩
    · rintro F w1 ⟨he, rfl, hS⟩
      obtain rfl := Option.some.inj he
      have H := K89
      refine EJ.next ?_
      refine CJ.seq ?_
      refine CJ.region ?_
      refine OJ.pures tU_ok 1 rfl ?_
      refine OJ.nil (EJ.next ?_)
      refine CJ.ret (?_)
      obtain rfl := Option.some.inj H
      exact EJ.fin rfl (.tmp rfl .nil) ⟨rfl, hS.ext⟩

def laws_eqInt16S.l1 (a0 : List Int) (a1 : List Int) : Nat → Int → Option (Bool ⊕ Unit)
  | 0, _ => none
  | k + 1, y1 => if y1 < (a0.length : Int) then ((getI a0 y1).bind fun t2 => (getI a1 y1).bind fun t3 => if t2 ≠ t3 then (some (Sum.inl false)) else (laws_eqInt16S.l1 a0 a1 k (IntKind.i64.wrap (y1 + 1)))) else (some (Sum.inr ()))
def laws_eqInt16S.f (k : Nat) (a0 : List Int) (a1 : List Int) : Option Bool := if (a0.length : Int) ≠ (a1.length : Int) then (some false) else ((laws_eqInt16S.l1 a0 a1 k 0).bind fun s90 => match s90 with | .inl r => some r | .inr _ => some true)
theorem laws_eqInt16S.c (k : Nat) (w : World) (Aa0 : Option Addr) (ca0 : Nat) (a0 : List Int) (hr0 : Rd (ci .i16) w Aa0 a0) (hc0 : a0.length ≤ ca0) (Aa1 : Option Addr) (ca1 : Nat) (a1 : List Int) (hr1 : Rd (ci .i16) w Aa1 a1) (hc1 : a1.length ≤ ca1) (r : Bool) (H : laws_eqInt16S.f k a0 a1 = some r) :
    CV Tryd.prog 40 [.slice Aa0 a0.length ca0, .slice Aa1 a1.length ca1].toArray w fun v w' => v = .bool r ∧ Ext w w' := by
  have hS := (((St.init w no).param (ci .i16) Aa0 ca0 a0 hr0 hc0).param (ci .i16) Aa1 ca1 a1 hr1 hc1)
  unfold laws_eqInt16S.f at H
  refine CV.body Tryd.func40 rfl Tryd.ntmps40 rfl ?_
  refine CJ.seq ?_
  refine CJ.region ?_
  refine OJ.pures tU_ok 1 rfl ?_
  refine OJ.nil (EJ.next ?_)
  refine CJ.seq ?_
  refine CJ.seq ?_
  refine CJ.region ?_
  refine OJ.pures tU_ok 5 rfl ?_
  refine OJ.nil (EJ.next ?_)
  refine CJ.cond rfl (fun hb => ?_) (fun hb => ?_)
  · replace H := pif_t (of_decide_eq_true hb) H
    refine CJ.seq ?_
    refine CJ.region ?_
    refine OJ.pures tU_ok 1 rfl ?_
    refine OJ.nil (EJ.next ?_)
    refine CJ.ret (EJ.skR (?_))
    obtain rfl := Option.some.inj H
    exact EJ.fin rfl (.tmp rfl .nil) ⟨rfl, hS.ext⟩
  · replace H := pif_f (of_decide_eq_false hb) H
    refine CJ.skip (EJ.next ?_)
    refine CJ.seq ?_
    refine CJ.seq ?_
    refine CJ.region ?_
    refine OJ.pures tU_ok 1 rfl ?_
    refine OJ.nil (EJ.next ?_)
    obtain ⟨j90, H, K90⟩ := pbind H
    refine CJ.cut1 (fun F w1 => (some (Sum.inr ()) : Option (Bool ⊕ Unit)) = some j90 ∧ F = [] ∧ St w no w1 [] [roC (ci .i16) Aa0 ca0 a0, roC (ci .i16) Aa1 ca1 a1]) ?_ ?_
    · skip
      refine CJ.block ?_
      refine CJ.loop (fun k F w1 => ∃ (y1 : Int), F = [(0, .slice Aa0 a0.length ca0), (1, .slice Aa1 a1.length ca1), (5, .int .i64 y1)] ∧ St w no w1 [] [roC (ci .i16) Aa0 ca0 a0, roC (ci .i16) Aa1 ca1 a1] ∧ laws_eqInt16S.l1 a0 a1 k y1 = some j90) k (F' := [(0, .slice Aa0 a0.length ca0), (1, .slice Aa1 a1.length ca1), (5, .int .i64 0)]) ⟨rfl, rfl, rfl, trivial⟩ ⟨0, rfl, hS.pick [] [0, 1] rfl, H⟩ ?_
      rintro k F w1 ⟨y1, rfl, hS, H⟩
      cases k with
      | zero => rw [laws_eqInt16S.l1] at H; cases H
      | succ k =>
        rw [laws_eqInt16S.l1] at H
        refine CJ.seq ?_
        refine CJ.seq ?_
        refine CJ.region ?_
        refine OJ.pures tU_ok 4 rfl ?_
        refine OJ.nil (EJ.next ?_)
        refine CJ.cond rfl (fun hb => ?_) (fun hb => ?_)
        · replace H := pif_t (of_decide_eq_true hb) H
          refine CJ.skip (EJ.next ?_)
          refine CJ.seq ?_
          refine CJ.block ?_
          refine CJ.seq ?_
          refine CJ.draw [] [0, 1, 2, 3, 4, 5, 6, 7, 8] mixed (by kernel_rfl) hS fun w1 hS => ?_
          refine DJ.pures tU_ok 2 rfl ?_
          obtain ⟨t2, ht2, H⟩ := pbind H
          obtain ⟨ad2, e2⟩ := (hS.rd' (i := 0) rfl).some' ht2
          refine DJ.st rfl rfl rfl rfl rfl (SR.idxS tU_ok tI_ok rfl rfl rfl rfl e2 rfl (getI_some ht2).1) ?_
          refine DJ.st rfl rfl rfl rfl rfl (SR.load rfl rfl (fun w' hx => ld1 tU_ok rfl rfl (CA.ext ((hS.rd' (i := 0) rfl).at_ e2 ht2) hx) rfl)) ?_
          refine DJ.pures tU_ok 2 rfl ?_
          obtain ⟨t3, ht3, H⟩ := pbind H
          obtain ⟨ad3, e3⟩ := (hS.rd' (i := 1) rfl).some' ht3
          refine DJ.st rfl rfl rfl rfl rfl (SR.idxS tU_ok tI_ok rfl rfl rfl rfl e3 rfl (getI_some ht3).1) ?_
          refine DJ.st rfl rfl rfl rfl rfl (SR.load rfl rfl (fun w' hx => ld1 tU_ok rfl rfl (CA.ext ((hS.rd' (i := 1) rfl).at_ e3 ht3) hx) rfl)) ?_
          refine DJ.pures tU_ok 1 rfl ?_
          refine DJ.nil (EJ.next ?_)
          refine CJ.cond rfl (fun hb => ?_) (fun hb => ?_)
          · replace H := pif_t (of_decide_eq_true hb) H
            refine CJ.seq ?_
            refine CJ.region ?_
            refine OJ.pures tU_ok 1 rfl ?_
            refine OJ.nil (EJ.next ?_)
            refine CJ.ret (EJ.bkR (EJ.skR (EJ.skR (EJ.bkR (EJ.skR (EJ.skR (?_)))))))
            first | (obtain rfl := Option.some.inj H; have H := K90) | (obtain ⟨q90, H2, e90⟩ := pbind H; obtain rfl := Option.some.inj e90; obtain rfl := Option.some.inj K90; have H := H2)
            obtain rfl := Option.some.inj H
            exact EJ.fin rfl (.tmp rfl .nil) ⟨rfl, hS.ext⟩
          · replace H := pif_f (of_decide_eq_false hb) H
            refine CJ.skip (EJ.blk (EJ.next ?_))
            refine CJ.region ?_
            refine OJ.pures tU_ok 3 rfl ?_
            refine OJ.nil ?_
            exact EJ.round k (F' := [(0, .slice Aa0 a0.length ca0), (1, .slice Aa1 a1.length ca1), (5, .int .i64 (IntKind.i64.wrap (y1 + 1)))]) ⟨rfl, rfl, rfl, trivial⟩ (Nat.lt_succ_self _) ⟨(IntKind.i64.wrap (y1 + 1)), rfl, hS.pick [] [0, 1] rfl, H⟩
        · replace H := pif_f (of_decide_eq_false hb) H
          refine CJ.exit (EJ.skE (EJ.skE (EJ.hit (?_))))
          exact EJ.meet (F' := []) trivial ⟨H, rfl, hS.pick [] [0, 1] rfl⟩
    · rintro F w1 ⟨he, rfl, hS⟩
      obtain rfl := Option.some.inj he
      have H := K90
      refine EJ.next ?_
      refine CJ.seq ?_
      refine CJ.region ?_
      refine OJ.pures tU_ok 1 rfl ?_
      refine OJ.nil (EJ.next ?_)
      refine CJ.ret (?_)
      obtain rfl := Option.some.inj H
      exact EJ.fin rfl (.tmp rfl .nil) ⟨rfl, hS.ext⟩

def laws_eqUint16S.l1 (a0 : List Int) (a1 : List Int) : Nat → Int → Option (Bool ⊕ Unit)
  | 0, _ => none
  | k + 1, y1 => if y1 < (a0.length : Int) then ((getI a0 y1).bind fun t2 => (getI a1 y1).bind fun t3 => if t2 ≠ t3 then (some (Sum.inl false)) else (laws_eqUint16S.l1 a0 a1 k (IntKind.i64.wrap (y1 + 1)))) else (some (Sum.inr ()))
def laws_eqUint16S.f (k : Nat) (a0 : List Int) (a1 : List Int) : Option Bool := if (a0.length : Int) ≠ (a1.length : Int) then (some false) else ((laws_eqUint16S.l1 a0 a1 k 0).bind fun s91 => match s91 with | .inl r => some r | .inr _ => some true)
theorem laws_eqUint16S.c (k : Nat) (w : World) (Aa0 : Option Addr) (ca0 : Nat) (a0 : List Int) (hr0 : Rd (ci .u16) w Aa0 a0) (hc0 : a0.length ≤ ca0) (Aa1 : Option Addr) (ca1 : Nat) (a1 : List Int) (hr1 : Rd (ci .u16) w Aa1 a1) (hc1 : a1.length ≤ ca1) (r : Bool) (H : laws_eqUint16S.f k a0 a1 = some r) :
    CV Tryd.prog 41 [.slice Aa0 a0.length ca0, .slice Aa1 a1.length ca1].toArray w fun v w' => v = .bool r ∧ Ext w w' := by
  have hS := (((St.init w no).param (ci .u16) Aa0 ca0 a0 hr0 hc0).param (ci .u16) Aa1 ca1 a1 hr1 hc1)
  unfold laws_eqUint16S.f at H
  refine CV.body Tryd.func41 rfl Tryd.ntmps41 rfl ?_
  refine CJ.seq ?_
  refine CJ.region ?_
  refine OJ.pures tU_ok 1 rfl ?_
  refine OJ.nil (EJ.next ?_)
  refine CJ.seq ?_
  refine CJ.seq ?_
  refine CJ.region ?_
  refine OJ.pures tU_ok 5 rfl ?_
  refine OJ.nil (EJ.next ?_)
  refine CJ.cond rfl (fun hb => ?_) (fun hb => ?_)
  · replace H := pif_t (of_decide_eq_true hb) H
    refine CJ.seq ?_
    refine CJ.region ?_
    refine OJ.pures tU_ok 1 rfl ?_
    refine OJ.nil (EJ.next ?_)
    refine CJ.ret (EJ.skR (?_))
    obtain rfl := Option.some.inj H
    exact EJ.fin rfl (.tmp rfl .nil) ⟨rfl, hS.ext⟩
  · replace H := pif_f (of_decide_eq_false hb) H
    refine CJ.skip (EJ.next ?_)
    refine CJ.seq ?_
    refine CJ.seq ?_
    refine CJ.region ?_
    refine OJ.pures tU_ok 1 rfl ?_
    refine OJ.nil (EJ.next ?_)
    obtain ⟨j91, H, K91⟩ := pbind H
    refine CJ.cut1 (fun F w1 => (some (Sum.inr ()) : Option (Bool ⊕ Unit)) = some j91 ∧ F = [] ∧ St w no w1 [] [roC (ci .u16) Aa0 ca0 a0, roC (ci .u16) Aa1 ca1 a1]) ?_ ?_
    · skip
      refine CJ.block ?_
      refine CJ.loop (fun k F w1 => ∃ (y1 : Int), F = [(0, .slice Aa0 a0.length ca0), (1, .slice Aa1 a1.length ca1), (5, .int .i64 y1)] ∧ St w no w1 [] [roC (ci .u16) Aa0 ca0 a0, roC (ci .u16) Aa1 ca1 a1] ∧ laws_eqUint16S.l1 a0 a1 k y1 = some j91) k (F' := [(0, .slice Aa0 a0.length ca0), (1, .slice Aa1 a1.length ca1), (5, .int .i64 0)]) ⟨rfl, rfl, rfl, trivial⟩ ⟨0, rfl, hS.pick [] [0, 1] rfl, H⟩ ?_
      rintro k F w1 ⟨y1, rfl, hS, H⟩
      cases k with
      | zero => rw [laws_eqUint16S.l1] at H; cases H
      | succ k =>
        rw [laws_eqUint16S.l1] at H
        refine CJ.seq ?_
        refine CJ.seq ?_
        refine CJ.region ?_
        refine OJ.pures tU_ok 4 rfl ?_
        refine OJ.nil (EJ.next ?_)
        refine CJ.cond rfl (fun hb => ?_) (fun hb => ?_)
        · replace H := pif_t (of_decide_eq_true hb) H
          refine CJ.skip (EJ.next ?_)
          refine CJ.seq ?_
          refine CJ.block ?_
          refine CJ.seq ?_
          refine CJ.draw [] [0, 1, 2, 3, 4, 5, 6, 7, 8] mixed (by kernel_rfl) hS fun w1 hS => ?_
          refine DJ.pures tU_ok 2 rfl ?_
          obtain ⟨t2, ht2, H⟩ := pbind H
          obtain ⟨ad2, e2⟩ := (hS.rd' (i := 0) rfl).some' ht2
          refine DJ.st rfl rfl rfl rfl rfl (SR.idxS tU_ok tI_ok rfl rfl rfl rfl e2 rfl (getI_some ht2).1) ?_
          refine DJ.st rfl rfl rfl rfl rfl (SR.load rfl rfl (fun w' hx => ld1 tU_ok rfl rfl (CA.ext ((hS.rd' (i := 0) rfl).at_ e2 ht2) hx) rfl)) ?_
          refine DJ.pures tU_ok 2 rfl ?_
          obtain ⟨t3, ht3, H⟩ := pbind H
          obtain ⟨ad3, e3⟩ := (hS.rd' (i := 1) rfl).some' ht3
          refine DJ.st rfl rfl rfl rfl rfl (SR.idxS tU_ok tI_ok rfl rfl rfl rfl e3 rfl (getI_some ht3).1) ?_
          refine DJ.st rfl rfl rfl rfl rfl (SR.load rfl rfl (fun w' hx => ld1 tU_ok rfl rfl (CA.ext ((hS.rd' (i := 1) rfl).at_ e3 ht3) hx) rfl)) ?_
          refine DJ.pures tU_ok 1 rfl ?_
          refine DJ.nil (EJ.next ?_)
          refine CJ.cond rfl (fun hb => ?_) (fun hb => ?_)
          · replace H := pif_t (of_decide_eq_true hb) H
            refine CJ.seq ?_
            refine CJ.region ?_
            refine OJ.pures tU_ok 1 rfl ?_
            refine OJ.nil (EJ.next ?_)
            refine CJ.ret (EJ.bkR (EJ.skR (EJ.skR (EJ.bkR (EJ.skR (EJ.skR (?_)))))))
            first | (obtain rfl := Option.some.inj H; have H := K91) | (obtain ⟨q91, H2, e91⟩ := pbind H; obtain rfl := Option.some.inj e91; obtain rfl := Option.some.inj K91; have H := H2)
            obtain rfl := Option.some.inj H
            exact EJ.fin rfl (.tmp rfl .nil) ⟨rfl, hS.ext⟩
          · replace H := pif_f (of_decide_eq_false hb) H
            refine CJ.skip (EJ.blk (EJ.next ?_))
            refine CJ.region ?_
            refine OJ.pures tU_ok 3 rfl ?_
            refine OJ.nil ?_
            exact EJ.round k (F' := [(0, .slice Aa0 a0.length ca0), (1, .slice Aa1 a1.length ca1), (5, .int .i64 (IntKind.i64.wrap (y1 + 1)))]) ⟨rfl, rfl, rfl, trivial⟩ (Nat.lt_succ_self _) ⟨(IntKind.i64.wrap (y1 + 1)), rfl, hS.pick [] [0, 1] rfl, H⟩
        · replace H := pif_f (of_decide_eq_false hb) H
          refine CJ.exit (EJ.skE (EJ.skE (EJ.hit (?_))))
          exact EJ.meet (F' := []) trivial ⟨H, rfl, hS.pick [] [0, 1] rfl⟩
    · rintro F w1 ⟨he, rfl, hS⟩
      obtain rfl := Option.some.inj he
      have H := K91
      refine EJ.next ?_
      refine CJ.seq ?_
      refine CJ.region ?_
      refine OJ.pures tU_ok 1 rfl ?_
      refine OJ.nil (EJ.next ?_)
      refine CJ.ret (?_)
      obtain rfl := Option.some.inj H
      exact EJ.fin rfl (.tmp rfl .nil) ⟨rfl, hS.ext⟩

def laws_eqHerd.f (k : Nat) (a0 : Herd) (a1 : Herd) : Option Bool := (laws_eqStringS.f k a0.Names a1.Names).bind fun t3 => if (!t3) = true then (some false) else ((laws_eqInt16S.f k a0.Eats a1.Eats).bind fun t4 => if (!t4) = true then (some false) else ((laws_eqUint16S.f k a0.Foes a1.Foes).bind fun t5 => if (!t5) = true then (some false) else (some true)))
theorem laws_eqHerd.c (k : Nat) (w : World) (Aa0_0 : Option Addr) (ca0_0 : Nat) (Aa0_1 : Option Addr) (ca0_1 : Nat) (Aa0_2 : Option Addr) (ca0_2 : Nat) (a0 : Herd) (hr0_0 : Rd G.cs w Aa0_0 a0.Names) (hc0_0 : a0.Names.length ≤ ca0_0) (hr0_1 : Rd (ci .i16) w Aa0_1 a0.Eats) (hc0_1 : a0.Eats.length ≤ ca0_1) (hr0_2 : Rd (ci .u16) w Aa0_2 a0.Foes) (hc0_2 : a0.Foes.length ≤ ca0_2) (Aa1_0 : Option Addr) (ca1_0 : Nat) (Aa1_1 : Option Addr) (ca1_1 : Nat) (Aa1_2 : Option Addr) (ca1_2 : Nat) (a1 : Herd) (hr1_0 : Rd G.cs w Aa1_0 a1.Names) (hc1_0 : a1.Names.length ≤ ca1_0) (hr1_1 : Rd (ci .i16) w Aa1_1 a1.Eats) (hc1_1 : a1.Eats.length ≤ ca1_1) (hr1_2 : Rd (ci .u16) w Aa1_2 a1.Foes) (hc1_2 : a1.Foes.length ≤ ca1_2) (r : Bool) (H : laws_eqHerd.f k a0 a1 = some r) :
    CV Tryd.prog 12 [.agg [.slice Aa0_0 a0.Names.length ca0_0, .slice Aa0_1 a0.Eats.length ca0_1, .slice Aa0_2 a0.Foes.length ca0_2].toArray, .agg [.slice Aa1_0 a1.Names.length ca1_0, .slice Aa1_1 a1.Eats.length ca1_1, .slice Aa1_2 a1.Foes.length ca1_2].toArray].toArray w fun v w' => v = .bool r ∧ Ext w w' := by
  have hS := (((((((St.init w no).param G.cs Aa0_0 ca0_0 a0.Names hr0_0 hc0_0).param (ci .i16) Aa0_1 ca0_1 a0.Eats hr0_1 hc0_1).param (ci .u16) Aa0_2 ca0_2 a0.Foes hr0_2 hc0_2).param G.cs Aa1_0 ca1_0 a1.Names hr1_0 hc1_0).param (ci .i16) Aa1_1 ca1_1 a1.Eats hr1_1 hc1_1).param (ci .u16) Aa1_2 ca1_2 a1.Foes hr1_2 hc1_2)
  unfold laws_eqHerd.f at H
  refine CV.body Tryd.func12 rfl Tryd.ntmps12 rfl ?_
  refine CJ.seq ?_
  refine CJ.region ?_
  refine OJ.ef rfl rfl rfl (Ef.box hS rfl rfl ([.slice Aa0_0 a0.Names.length ca0_0, .slice Aa0_1 a0.Eats.length ca0_1, .slice Aa0_2 a0.Foes.length ca0_2]) rfl) ?_
  rintro _ w1 ⟨b1, rfl, hS⟩
  refine OJ.ef rfl rfl rfl (Ef.box hS rfl rfl ([.slice Aa1_0 a1.Names.length ca1_0, .slice Aa1_1 a1.Eats.length ca1_1, .slice Aa1_2 a1.Foes.length ca1_2]) rfl) ?_
  rintro _ w1 ⟨b2, rfl, hS⟩
  refine OJ.pures tU_ok 1 rfl ?_
  refine OJ.nil (EJ.next ?_)
  refine CJ.seq ?_
  refine CJ.seq ?_
  refine CJ.region ?_
  refine OJ.st rfl rfl rfl (SR.fieldAddr tU_ok tI_ok rfl rfl rfl rfl rfl rfl) ?_
  refine OJ.st rfl rfl rfl (SR.load rfl rfl (fun w' hx => ld1 tU_ok rfl rfl (CA.ext (CA.sub (hS.cells (i := 0) rfl) 0) hx) rfl)) ?_
  refine OJ.st rfl rfl rfl (SR.fieldAddr tU_ok tI_ok rfl rfl rfl rfl rfl rfl) ?_
  refine OJ.st rfl rfl rfl (SR.load rfl rfl (fun w' hx => ld1 tU_ok rfl rfl (CA.ext (CA.sub (hS.cells (i := 1) rfl) 0) hx) rfl)) ?_
  obtain ⟨t3, ht3, H⟩ := pbind H
  refine OJ.callF rfl rfl rfl rfl rfl hb39 rfl (laws_eqStringS.c k _ Aa0_0 ca0_0 a0.Names (hS.rd' (i := 0) rfl) (hS.le' (i := 0) rfl) Aa1_0 ca1_0 a1.Names (hS.rd' (i := 3) rfl) (hS.le' (i := 3) rfl) _ ht3) ?_
  rintro _ w1 ⟨rfl, hs⟩
  replace hS := hS.grow hs
  refine OJ.pures tU_ok 1 rfl ?_
  refine OJ.nil (EJ.next ?_)
  refine CJ.cond rfl (fun hb => ?_) (fun hb => ?_)
  · replace H := pif_t hb H
    refine CJ.seq ?_
    refine CJ.region ?_
    refine OJ.pures tU_ok 1 rfl ?_
    refine OJ.nil (EJ.next ?_)
    refine CJ.ret (EJ.skR (?_))
    obtain rfl := Option.some.inj H
    exact EJ.fin rfl (.tmp rfl .nil) ⟨rfl, hS.ext⟩
  · replace H := pifb_f hb H
    refine CJ.skip (EJ.next ?_)
    refine CJ.seq ?_
    refine CJ.seq ?_
    refine CJ.region ?_
    refine OJ.st rfl rfl rfl (SR.fieldAddr tU_ok tI_ok rfl rfl rfl rfl rfl rfl) ?_
    refine OJ.st rfl rfl rfl (SR.load rfl rfl (fun w' hx => ld1 tU_ok rfl rfl (CA.ext (CA.sub (hS.cells (i := 0) rfl) 1) hx) rfl)) ?_
    refine OJ.st rfl rfl rfl (SR.fieldAddr tU_ok tI_ok rfl rfl rfl rfl rfl rfl) ?_
    refine OJ.st rfl rfl rfl (SR.load rfl rfl (fun w' hx => ld1 tU_ok rfl rfl (CA.ext (CA.sub (hS.cells (i := 1) rfl) 1) hx) rfl)) ?_
    obtain ⟨t4, ht4, H⟩ := pbind H
    refine OJ.callF rfl rfl rfl rfl rfl hb40 rfl (laws_eqInt16S.c k _ Aa0_1 ca0_1 a0.Eats (hS.rd' (i := 1) rfl) (hS.le' (i := 1) rfl) Aa1_1 ca1_1 a1.Eats (hS.rd' (i := 4) rfl) (hS.le' (i := 4) rfl) _ ht4) ?_
    rintro _ w1 ⟨rfl, hs⟩
    replace hS := hS.grow hs
    refine OJ.pures tU_ok 1 rfl ?_
    refine OJ.nil (EJ.next ?_)
    refine CJ.cond rfl (fun hb => ?_) (fun hb => ?_)
    · replace H := pif_t hb H
      refine CJ.seq ?_
      refine CJ.region ?_
      refine OJ.pures tU_ok 1 rfl ?_
      refine OJ.nil (EJ.next ?_)
      refine CJ.ret (EJ.skR (?_))
      obtain rfl := Option.some.inj H
      exact EJ.fin rfl (.tmp rfl .nil) ⟨rfl, hS.ext⟩
    · replace H := pifb_f hb H
      refine CJ.skip (EJ.next ?_)
      refine CJ.seq ?_
      refine CJ.seq ?_
      refine CJ.region ?_
      refine OJ.st rfl rfl rfl (SR.fieldAddr tU_ok tI_ok rfl rfl rfl rfl rfl rfl) ?_
      refine OJ.st rfl rfl rfl (SR.load rfl rfl (fun w' hx => ld1 tU_ok rfl rfl (CA.ext (CA.sub (hS.cells (i := 0) rfl) 2) hx) rfl)) ?_
      refine OJ.st rfl rfl rfl (SR.fieldAddr tU_ok tI_ok rfl rfl rfl rfl rfl rfl) ?_
      refine OJ.st rfl rfl rfl (SR.load rfl rfl (fun w' hx => ld1 tU_ok rfl rfl (CA.ext (CA.sub (hS.cells (i := 1) rfl) 2) hx) rfl)) ?_
      obtain ⟨t5, ht5, H⟩ := pbind H
      refine OJ.callF rfl rfl rfl rfl rfl hb41 rfl (laws_eqUint16S.c k _ Aa0_2 ca0_2 a0.Foes (hS.rd' (i := 2) rfl) (hS.le' (i := 2) rfl) Aa1_2 ca1_2 a1.Foes (hS.rd' (i := 5) rfl) (hS.le' (i := 5) rfl) _ ht5) ?_
      rintro _ w1 ⟨rfl, hs⟩
      replace hS := hS.grow hs
      refine OJ.pures tU_ok 1 rfl ?_
      refine OJ.nil (EJ.next ?_)
      refine CJ.cond rfl (fun hb => ?_) (fun hb => ?_)
      · replace H := pif_t hb H
        refine CJ.seq ?_
        refine CJ.region ?_
        refine OJ.pures tU_ok 1 rfl ?_
        refine OJ.nil (EJ.next ?_)
        refine CJ.ret (EJ.skR (?_))
        obtain rfl := Option.some.inj H
        exact EJ.fin rfl (.tmp rfl .nil) ⟨rfl, hS.ext⟩
      · replace H := pifb_f hb H
        refine CJ.skip (EJ.next ?_)
        refine CJ.seq ?_
        refine CJ.region ?_
        refine OJ.pures tU_ok 1 rfl ?_
        refine OJ.nil (EJ.next ?_)
        refine CJ.ret (?_)
        obtain rfl := Option.some.inj H
        exact EJ.fin rfl (.tmp rfl .nil) ⟨rfl, hS.ext⟩

def laws_eqInt64S.l1 (a0 : List Int) (a1 : List Int) : Nat → Int → Option (Bool ⊕ Unit)
  | 0, _ => none
  | k + 1, y1 => if y1 < (a0.length : Int) then ((getI a0 y1).bind fun t2 => (getI a1 y1).bind fun t3 => if t2 ≠ t3 then (some (Sum.inl false)) else (laws_eqInt64S.l1 a0 a1 k (IntKind.i64.wrap (y1 + 1)))) else (some (Sum.inr ()))
def laws_eqInt64S.f (k : Nat) (a0 : List Int) (a1 : List Int) : Option Bool := if (a0.length : Int) ≠ (a1.length : Int) then (some false) else ((laws_eqInt64S.l1 a0 a1 k 0).bind fun s92 => match s92 with | .inl r => some r | .inr _ => some true)
theorem laws_eqInt64S.c (k : Nat) (w : World) (Aa0 : Option Addr) (ca0 : Nat) (a0 : List Int) (hr0 : Rd (ci .i64) w Aa0 a0) (hc0 : a0.length ≤ ca0) (Aa1 : Option Addr) (ca1 : Nat) (a1 : List Int) (hr1 : Rd (ci .i64) w Aa1 a1) (hc1 : a1.length ≤ ca1) (r : Bool) (H : laws_eqInt64S.f k a0 a1 = some r) :
    CV Tryd.prog 13 [.slice Aa0 a0.length ca0, .slice Aa1 a1.length ca1].toArray w fun v w' => v = .bool r ∧ Ext w w' := by
  have hS := (((St.init w no).param (ci .i64) Aa0 ca0 a0 hr0 hc0).param (ci .i64) Aa1 ca1 a1 hr1 hc1)
  unfold laws_eqInt64S.f at H
  refine CV.body Tryd.func13 rfl Tryd.ntmps13 rfl ?_
  refine CJ.seq ?_
  refine CJ.region ?_
  refine OJ.pures tU_ok 1 rfl ?_
  refine OJ.nil (EJ.next ?_)
  refine CJ.seq ?_
  refine CJ.seq ?_
  refine CJ.region ?_
  refine OJ.pures tU_ok 5 rfl ?_
  refine OJ.nil (EJ.next ?_)
  refine CJ.cond rfl (fun hb => ?_) (fun hb => ?_)
  · replace H := pif_t (of_decide_eq_true hb) H
    refine CJ.seq ?_
    refine CJ.region ?_
    refine OJ.pures tU_ok 1 rfl ?_
    refine OJ.nil (EJ.next ?_)
    refine CJ.ret (EJ.skR (?_))
    obtain rfl := Option.some.inj H
    exact EJ.fin rfl (.tmp rfl .nil) ⟨rfl, hS.ext⟩
  · replace H := pif_f (of_decide_eq_false hb) H
    refine CJ.skip (EJ.next ?_)
    refine CJ.seq ?_
    refine CJ.seq ?_
    refine CJ.region ?_
    refine OJ.pures tU_ok 1 rfl ?_
    refine OJ.nil (EJ.next ?_)
    obtain ⟨j92, H, K92⟩ := pbind H
    refine CJ.cut1 (fun F w1 => (some (Sum.inr ()) : Option (Bool ⊕ Unit)) = some j92 ∧ F = [] ∧ St w no w1 [] [roC (ci .i64) Aa0 ca0 a0, roC (ci .i64) Aa1 ca1 a1]) ?_ ?_
    · skip
      refine CJ.block ?_
      refine CJ.loop (fun k F w1 => ∃ (y1 : Int), F = [(0, .slice Aa0 a0.length ca0), (1, .slice Aa1 a1.length ca1), (5, .int .i64 y1)] ∧ St w no w1 [] [roC (ci .i64) Aa0 ca0 a0, roC (ci .i64) Aa1 ca1 a1] ∧ laws_eqInt64S.l1 a0 a1 k y1 = some j92) k (F' := [(0, .slice Aa0 a0.length ca0), (1, .slice Aa1 a1.length ca1), (5, .int .i64 0)]) ⟨rfl, rfl, rfl, trivial⟩ ⟨0, rfl, hS.pick [] [0, 1] rfl, H⟩ ?_
      rintro k F w1 ⟨y1, rfl, hS, H⟩
      cases k with
      | zero => rw [laws_eqInt64S.l1] at H; cases H
      | succ k =>
        rw [laws_eqInt64S.l1] at H
        refine CJ.seq ?_
        refine CJ.seq ?_
        refine CJ.region ?_
        refine OJ.pures tU_ok 4 rfl ?_
        refine OJ.nil (EJ.next ?_)
        refine CJ.cond rfl (fun hb => ?_) (fun hb => ?_)
        · replace H := pif_t (of_decide_eq_true hb) H
          refine CJ.skip (EJ.next ?_)
          refine CJ.seq ?_
          refine CJ.block ?_
          refine CJ.seq ?_
          refine CJ.draw [] [0, 1, 2, 3, 4, 5, 6, 7, 8] mixed (by kernel_rfl) hS fun w1 hS => ?_
          refine DJ.pures tU_ok 2 rfl ?_
          obtain ⟨t2, ht2, H⟩ := pbind H
          obtain ⟨ad2, e2⟩ := (hS.rd' (i := 0) rfl).some' ht2
          refine DJ.st rfl rfl rfl rfl rfl (SR.idxS tU_ok tI_ok rfl rfl rfl rfl e2 rfl (getI_some ht2).1) ?_
          refine DJ.st rfl rfl rfl rfl rfl (SR.load rfl rfl (fun w' hx => ld1 tU_ok rfl rfl (CA.ext ((hS.rd' (i := 0) rfl).at_ e2 ht2) hx) rfl)) ?_
          refine DJ.pures tU_ok 2 rfl ?_
          obtain ⟨t3, ht3, H⟩ := pbind H
          obtain ⟨ad3, e3⟩ := (hS.rd' (i := 1) rfl).some' ht3
          refine DJ.st rfl rfl rfl rfl rfl (SR.idxS tU_ok tI_ok rfl rfl rfl rfl e3 rfl (getI_some ht3).1) ?_
          refine DJ.st rfl rfl rfl rfl rfl (SR.load rfl rfl (fun w' hx => ld1 tU_ok rfl rfl (CA.ext ((hS.rd' (i := 1) rfl).at_ e3 ht3) hx) rfl)) ?_
          refine DJ.pures tU_ok 1 rfl ?_
          refine DJ.nil (EJ.next ?_)
          refine CJ.cond rfl (fun hb => ?_) (fun hb => ?_)
          · replace H := pif_t (of_decide_eq_true hb) H
            refine CJ.seq ?_
            refine CJ.region ?_
            refine OJ.pures tU_ok 1 rfl ?_
            refine OJ.nil (EJ.next ?_)
            refine CJ.ret (EJ.bkR (EJ.skR (EJ.skR (EJ.bkR (EJ.skR (EJ.skR (?_)))))))
            first | (obtain rfl := Option.some.inj H; have H := K92) | (obtain ⟨q92, H2, e92⟩ := pbind H; obtain rfl := Option.some.inj e92; obtain rfl := Option.some.inj K92; have H := H2)
            obtain rfl := Option.some.inj H
            exact EJ.fin rfl (.tmp rfl .nil) ⟨rfl, hS.ext⟩
          · replace H := pif_f (of_decide_eq_false hb) H
            refine CJ.skip (EJ.blk (EJ.next ?_))
            refine CJ.region ?_
            refine OJ.pures tU_ok 3 rfl ?_
            refine OJ.nil ?_
            exact EJ.round k (F' := [(0, .slice Aa0 a0.length ca0), (1, .slice Aa1 a1.length ca1), (5, .int .i64 (IntKind.i64.wrap (y1 + 1)))]) ⟨rfl, rfl, rfl, trivial⟩ (Nat.lt_succ_self _) ⟨(IntKind.i64.wrap (y1 + 1)), rfl, hS.pick [] [0, 1] rfl, H⟩
        · replace H := pif_f (of_decide_eq_false hb) H
          refine CJ.exit (EJ.skE (EJ.skE (EJ.hit (?_))))
          exact EJ.meet (F' := []) trivial ⟨H, rfl, hS.pick [] [0, 1] rfl⟩
    · rintro F w1 ⟨he, rfl, hS⟩
      obtain rfl := Option.some.inj he
      have H := K92
      refine EJ.next ?_
      refine CJ.seq ?_
      refine CJ.region ?_
      refine OJ.pures tU_ok 1 rfl ?_
      refine OJ.nil (EJ.next ?_)
      refine CJ.ret (?_)
      obtain rfl := Option.some.inj H
      exact EJ.fin rfl (.tmp rfl .nil) ⟨rfl, hS.ext⟩

def laws_markText.l1 : Nat → Int → ByteArray → Option ByteArray
  | 0, _, _ => none
  | k + 1, y2, y3 => if 0 < y2 then ((chk ((bstr ([IntKind.u8.wrap (IntKind.i64.wrap (48 + (Int.tmod y2 10)))] : List Int)).size + y3.size ≤ 4294967296)).bind fun u5 => laws_markText.l1 k (IntKind.i64.wrap (Int.tdiv y2 10)) ((bstr ([IntKind.u8.wrap (IntKind.i64.wrap (48 + (Int.tmod y2 10)))] : List Int)) ++ y3)) else (some y3)
def laws_markText.f (k : Nat) (a0 : Int) : Option ByteArray := if a0 ≤ 0 then (some (⟨#[109, 48]⟩ : ByteArray)) else ((laws_markText.l1 k a0 ByteArray.empty).bind fun y1 => (chk ((⟨#[109]⟩ : ByteArray).size + y1.size ≤ 4294967296)).bind fun u6 => some ((⟨#[109]⟩ : ByteArray) ++ y1))
theorem laws_markText.c (k : Nat) (w : World) (a0 : Int) (r : ByteArray) (H : laws_markText.f k a0 = some r) :
    CV Tryd.prog 76 [.int .i64 a0].toArray w fun v w' => v = .string r ∧ Ext w w' := by
  have hS := (St.init w no)
  unfold laws_markText.f at H
  refine CV.body Tryd.func76 rfl Tryd.ntmps76 rfl ?_
  refine CJ.seq ?_
  refine CJ.region ?_
  refine OJ.pures tU_ok 1 rfl ?_
  refine OJ.nil (EJ.next ?_)
  refine CJ.seq ?_
  refine CJ.seq ?_
  refine CJ.region ?_
  refine OJ.pures tU_ok 2 rfl ?_
  refine OJ.nil (EJ.next ?_)
  refine CJ.cond rfl (fun hb => ?_) (fun hb => ?_)
  · replace H := pif_t (of_decide_eq_true hb) H
    refine CJ.seq ?_
    refine CJ.region ?_
    refine OJ.pures tU_ok 1 rfl ?_
    refine OJ.nil (EJ.next ?_)
    refine CJ.ret (EJ.skR (?_))
    obtain rfl := Option.some.inj H
    exact EJ.fin rfl (.tmp rfl .nil) ⟨rfl, hS.ext⟩
  · replace H := pif_f (of_decide_eq_false hb) H
    refine CJ.skip (EJ.next ?_)
    refine CJ.seq ?_
    refine CJ.region ?_
    refine OJ.pures tU_ok 1 rfl ?_
    refine OJ.nil (EJ.next ?_)
    obtain ⟨j94, H, K94⟩ := pbind H
    refine CJ.cut (fun F w1 => ∃ (y1 : ByteArray) , (some y1 : Option ByteArray) = some j94 ∧ F = [(3, .string y1)] ∧ St w no w1 [] []) ?_ ?_
    · skip
      refine CJ.block ?_
      refine CJ.loop (fun k F w1 => ∃ (y2 : Int) (y3 : ByteArray), F = [(0, .int .i64 y2), (3, .string y3)] ∧ St w no w1 [] [] ∧ laws_markText.l1 k y2 y3 = some j94) k (F' := [(0, .int .i64 a0), (3, .string ByteArray.empty)]) ⟨rfl, rfl, trivial⟩ ⟨a0, ByteArray.empty, rfl, hS.pick [] [] rfl, H⟩ ?_
      rintro k F w1 ⟨y2, y3, rfl, hS, H⟩
      cases k with
      | zero => rw [laws_markText.l1] at H; cases H
      | succ k =>
        rw [laws_markText.l1] at H
        refine CJ.seq ?_
        refine CJ.seq ?_
        refine CJ.region ?_
        refine OJ.pures tU_ok 2 rfl ?_
        refine OJ.nil (EJ.next ?_)
        refine CJ.cond rfl (fun hb => ?_) (fun hb => ?_)
        · replace H := pif_t (of_decide_eq_true hb) H
          refine CJ.skip (EJ.next ?_)
          refine CJ.block ?_
          refine CJ.seq ?_
          refine CJ.region ?_
          refine OJ.pures tU_ok 1 rfl ?_
          refine OJ.st rfl rfl rfl (SR.rem rfl rfl rfl (by decide)) ?_
          refine OJ.pures tU_ok 2 rfl ?_
          refine OJ.ef rfl rfl rfl (Ef.lit tU_ok tI_ok hS (C := (ci .u8)) rfl rfl rfl rfl rfl rfl ([IntKind.u8.wrap (IntKind.i64.wrap (48 + (Int.tmod y2 10)))] : List Int) rfl rfl rfl rfl) ?_
          rintro _ w1 ⟨A4, rfl, hS⟩
          refine OJ.st rfl rfl rfl (SR.b2s tU_ok rfl rfl rfl rfl rfl (hS.rd (i := 0) rfl)) ?_
          refine OJ.pures tU_ok 1 rfl ?_
          obtain ⟨u5, hu5, H⟩ := pbind H
          refine OJ.st rfl rfl rfl (SR.concat rfl rfl rfl (chk_some hu5)) ?_
          refine OJ.pures tU_ok 1 rfl ?_
          refine OJ.nil (EJ.next ?_)
          refine CJ.region ?_
          refine OJ.pures tU_ok 1 rfl ?_
          refine OJ.st rfl rfl rfl (SR.quo rfl rfl rfl (by decide)) ?_
          refine OJ.pures tU_ok 1 rfl ?_
          refine OJ.nil (EJ.blk (?_))
          exact EJ.round k (F' := [(0, .int .i64 (IntKind.i64.wrap (Int.tdiv y2 10))), (3, .string ((bstr ([IntKind.u8.wrap (IntKind.i64.wrap (48 + (Int.tmod y2 10)))] : List Int)) ++ y3))]) ⟨rfl, rfl, trivial⟩ (Nat.lt_succ_self _) ⟨(IntKind.i64.wrap (Int.tdiv y2 10)), ((bstr ([IntKind.u8.wrap (IntKind.i64.wrap (48 + (Int.tmod y2 10)))] : List Int)) ++ y3), rfl, hS.pick [] [] rfl, H⟩
        · replace H := pif_f (of_decide_eq_false hb) H
          refine CJ.exit (EJ.skE (EJ.skE (EJ.hit (?_))))
          exact EJ.meet (F' := [(3, .string y3)]) ⟨rfl, trivial⟩ ⟨y3, H, rfl, hS.pick [] [] rfl⟩
    · rintro F w1 ⟨y1, he, rfl, hS⟩
      obtain rfl := Option.some.inj he
      have H := K94
      refine CJ.seq ?_
      refine CJ.region ?_
      refine OJ.pures tU_ok 1 rfl ?_
      obtain ⟨u6, hu6, H⟩ := pbind H
      refine OJ.st rfl rfl rfl (SR.concat rfl rfl rfl (chk_some hu6)) ?_
      refine OJ.pures tU_ok 1 rfl ?_
      refine OJ.nil (EJ.next ?_)
      refine CJ.ret (?_)
      obtain rfl := Option.some.inj H
      exact EJ.fin rfl (.tmp rfl .nil) ⟨rfl, hS.ext⟩

def laws_markStringS.l1 (a0 : List ByteArray) : Nat → (List ByteArray) → Int → Int → Option ((List ByteArray) × Int)
  | 0, _, _, _ => none
  | k + 1, y3, y4, y5 => if y5 < (a0.length : Int) then ((laws_markText.f k y4).bind fun t6 => (getI y3 y5).bind fun t7 => laws_markStringS.l1 a0 k (y3.set y5.toNat t6) (IntKind.i64.wrap (y4 + 1)) (IntKind.i64.wrap (y5 + 1))) else (some (y3, y4))
def laws_markStringS.f (k : Nat) (a0 : List ByteArray) (a1 : Int) : Option (Int × List ByteArray) := (laws_markStringS.l1 a0 k a0 a1 0).bind fun (y1, y2) => some (y2, y1)
theorem laws_markStringS.c (k : Nat) (w : World) (Aa0 : Option Addr) (ca0 : Nat) (a0 : List ByteArray) (a1 : Int) (hin : St w (fpU [rowC G.cs Aa0 ca0 9 a0]) w [rowC G.cs Aa0 ca0 9 a0] []) (r : Int × List ByteArray) (H : laws_markStringS.f k a0 a1 = some r) :
    CV Tryd.prog 42 [.slice Aa0 a0.length ca0, .int .i64 a1].toArray w fun v w' => v = .int .i64 r.1 ∧ St w (fpU [rowC G.cs Aa0 ca0 9 a0]) w' [rowC G.cs Aa0 ca0 9 r.2] [] ∧ r.2.length = a0.length := by
  have hS := hin
  unfold laws_markStringS.f at H
  refine CV.body Tryd.func42 rfl Tryd.ntmps42 rfl ?_
  have hl0 : a0.length = a0.length := rfl
  refine CJ.seq ?_
  refine CJ.region ?_
  refine OJ.pures tU_ok 1 rfl ?_
  refine OJ.nil (EJ.next ?_)
  refine CJ.seq ?_
  refine CJ.seq ?_
  refine CJ.region ?_
  refine OJ.pures tU_ok 1 rfl ?_
  refine OJ.nil (EJ.next ?_)
  obtain ⟨j95, H, K95⟩ := pbind H
  refine CJ.cut1 (fun F w1 => ∃ (y1 : List ByteArray) (y2 : Int) , (some (y1, y2) : Option ((List ByteArray) × Int)) = some j95 ∧ F = [(1, .int .i64 y2)] ∧ St w (fpU [rowC G.cs Aa0 ca0 9 a0]) w1 [rowC G.cs Aa0 ca0 9 y1] [] ∧ y1.length = a0.length) ?_ ?_
  · skip
    refine CJ.block ?_
    refine CJ.loop (fun k F w1 => ∃ (y3 : List ByteArray) (y4 : Int) (y5 : Int), F = [(0, .slice Aa0 a0.length ca0), (1, .int .i64 y4), (5, .int .i64 y5)] ∧ St w (fpU [rowC G.cs Aa0 ca0 9 a0]) w1 [rowC G.cs Aa0 ca0 9 y3] [] ∧ y3.length = a0.length ∧ laws_markStringS.l1 a0 k y3 y4 y5 = some j95) k (F' := [(0, .slice Aa0 a0.length ca0), (1, .int .i64 a1), (5, .int .i64 0)]) ⟨rfl, rfl, rfl, trivial⟩ ⟨a0, a1, 0, rfl, hS.pick [0] [] rfl, (by first | exact hl0 | (simp only [List.length_set]; exact hl0) | (simp only [List.length_set]; done)), H⟩ ?_
    rintro k F w1 ⟨y3, y4, y5, rfl, hS, hl0, H⟩
    cases k with
    | zero => rw [laws_markStringS.l1] at H; cases H
    | succ k =>
      rw [laws_markStringS.l1] at H
      refine CJ.seq ?_
      refine CJ.seq ?_
      refine CJ.region ?_
      refine OJ.pures tU_ok 4 rfl ?_
      refine OJ.nil (EJ.next ?_)
      refine CJ.cond rfl (fun hb => ?_) (fun hb => ?_)
      · replace H := pif_t (of_decide_eq_true hb) H
        refine CJ.skip (EJ.next ?_)
        refine CJ.seq ?_
        refine CJ.block ?_
        refine CJ.seq ?_
        refine CJ.region ?_
        refine OJ.pures tU_ok 3 rfl ?_
        obtain ⟨t6, ht6, H⟩ := pbind H
        refine OJ.callF rfl rfl rfl rfl rfl hb76 rfl (laws_markText.c k _ y4 _ ht6) ?_
        rintro _ w1 ⟨rfl, hs⟩
        replace hS := hS.grow hs
        obtain ⟨t7, ht7, H⟩ := pbind H
        obtain ⟨ad7, e7⟩ := (hS.rd (i := 0) rfl).some' ht7
        refine OJ.st rfl rfl rfl (SR.idxS tU_ok tI_ok rfl rfl rfl rfl e7 rfl (by have hg := (getI_some ht7).1; (first | rw [hl0] at hg | (simp only [List.length_set] at hg; rw [hl0] at hg)); exact hg)) ?_
        refine OJ.es rfl rfl (Es.storeR tI_ok hS (i := 0) (off := 0) rfl rfl ht7 e7 rfl rfl rfl rfl (vs := G.cs.enc t6) rfl rfl (one1 rfl) (Nat.le_of_ble_eq_true rfl) t6 rfl) ?_
        intro w1 hS
        refine OJ.nil (EJ.next ?_)
        refine CJ.region ?_
        refine OJ.pures tU_ok 3 rfl ?_
        refine OJ.nil (EJ.blk (EJ.next ?_))
        refine CJ.region ?_
        refine OJ.pures tU_ok 3 rfl ?_
        refine OJ.nil ?_
        exact EJ.round k (F' := [(0, .slice Aa0 a0.length ca0), (1, .int .i64 (IntKind.i64.wrap (y4 + 1))), (5, .int .i64 (IntKind.i64.wrap (y5 + 1)))]) ⟨rfl, rfl, rfl, trivial⟩ (Nat.lt_succ_self _) ⟨(y3.set y5.toNat t6), (IntKind.i64.wrap (y4 + 1)), (IntKind.i64.wrap (y5 + 1)), rfl, hS.pick [0] [] rfl, (by first | exact hl0 | (simp only [List.length_set]; exact hl0) | (simp only [List.length_set]; done)), H⟩
      · replace H := pif_f (of_decide_eq_false hb) H
        refine CJ.exit (EJ.skE (EJ.skE (EJ.hit (?_))))
        exact EJ.meet (F' := [(1, .int .i64 y4)]) ⟨rfl, trivial⟩ ⟨y3, y4, H, rfl, hS.pick [0] [] rfl, (by first | exact hl0 | (simp only [List.length_set]; exact hl0) | (simp only [List.length_set]; done))⟩
  · rintro F w1 ⟨y1, y2, he, rfl, hS, hl0⟩
    obtain rfl := Option.some.inj he
    have H := K95
    refine EJ.next ?_
    refine CJ.seq ?_
    refine CJ.region ?_
    refine OJ.pures tU_ok 2 rfl ?_
    refine OJ.nil (EJ.next ?_)
    refine CJ.ret (?_)
    obtain rfl := Option.some.inj H
    exact EJ.fin rfl (.tmp rfl .nil) ⟨rfl, hS.pick [0] [] rfl, (by first | exact hl0 | (simp only [List.length_set]; exact hl0) | (simp only [List.length_set]; done))⟩

def laws_markInt16S.l1 (a0 : List Int) : Nat → (List Int) → Int → Int → Option ((List Int) × Int)
  | 0, _, _, _ => none
  | k + 1, y3, y4, y5 => if y5 < (a0.length : Int) then ((getI y3 y5).bind fun t6 => laws_markInt16S.l1 a0 k (y3.set y5.toNat (IntKind.i16.wrap y4)) (IntKind.i64.wrap (y4 + 1)) (IntKind.i64.wrap (y5 + 1))) else (some (y3, y4))
def laws_markInt16S.f (k : Nat) (a0 : List Int) (a1 : Int) : Option (Int × List Int) := (laws_markInt16S.l1 a0 k a0 a1 0).bind fun (y1, y2) => some (y2, y1)
theorem laws_markInt16S.c (k : Nat) (w : World) (Aa0 : Option Addr) (ca0 : Nat) (a0 : List Int) (a1 : Int) (hin : St w (fpU [rowC (ci .i16) Aa0 ca0 50 a0]) w [rowC (ci .i16) Aa0 ca0 50 a0] []) (r : Int × List Int) (H : laws_markInt16S.f k a0 a1 = some r) :
    CV Tryd.prog 43 [.slice Aa0 a0.length ca0, .int .i64 a1].toArray w fun v w' => v = .int .i64 r.1 ∧ St w (fpU [rowC (ci .i16) Aa0 ca0 50 a0]) w' [rowC (ci .i16) Aa0 ca0 50 r.2] [] ∧ r.2.length = a0.length := by
  have hS := hin
  unfold laws_markInt16S.f at H
  refine CV.body Tryd.func43 rfl Tryd.ntmps43 rfl ?_
  have hl0 : a0.length = a0.length := rfl
  refine CJ.seq ?_
  refine CJ.region ?_
  refine OJ.pures tU_ok 1 rfl ?_
  refine OJ.nil (EJ.next ?_)
  refine CJ.seq ?_
  refine CJ.seq ?_
  refine CJ.region ?_
  refine OJ.pures tU_ok 1 rfl ?_
  refine OJ.nil (EJ.next ?_)
  obtain ⟨j97, H, K97⟩ := pbind H
  refine CJ.cut1 (fun F w1 => ∃ (y1 : List Int) (y2 : Int) , (some (y1, y2) : Option ((List Int) × Int)) = some j97 ∧ F = [(1, .int .i64 y2)] ∧ St w (fpU [rowC (ci .i16) Aa0 ca0 50 a0]) w1 [rowC (ci .i16) Aa0 ca0 50 y1] [] ∧ y1.length = a0.length) ?_ ?_
  · skip
    refine CJ.block ?_
    refine CJ.loop (fun k F w1 => ∃ (y3 : List Int) (y4 : Int) (y5 : Int), F = [(0, .slice Aa0 a0.length ca0), (1, .int .i64 y4), (5, .int .i64 y5)] ∧ St w (fpU [rowC (ci .i16) Aa0 ca0 50 a0]) w1 [rowC (ci .i16) Aa0 ca0 50 y3] [] ∧ y3.length = a0.length ∧ laws_markInt16S.l1 a0 k y3 y4 y5 = some j97) k (F' := [(0, .slice Aa0 a0.length ca0), (1, .int .i64 a1), (5, .int .i64 0)]) ⟨rfl, rfl, rfl, trivial⟩ ⟨a0, a1, 0, rfl, hS.pick [0] [] rfl, (by first | exact hl0 | (simp only [List.length_set]; exact hl0) | (simp only [List.length_set]; done)), H⟩ ?_
    rintro k F w1 ⟨y3, y4, y5, rfl, hS, hl0, H⟩
    cases k with
    | zero => rw [laws_markInt16S.l1] at H; cases H
    | succ k =>
      rw [laws_markInt16S.l1] at H
      refine CJ.seq ?_
      refine CJ.seq ?_
      refine CJ.region ?_
      refine OJ.pures tU_ok 4 rfl ?_
      refine OJ.nil (EJ.next ?_)
      refine CJ.cond rfl (fun hb => ?_) (fun hb => ?_)
      · replace H := pif_t (of_decide_eq_true hb) H
        refine CJ.skip (EJ.next ?_)
        refine CJ.seq ?_
        refine CJ.block ?_
        refine CJ.seq ?_
        refine CJ.region ?_
        refine OJ.pures tU_ok 4 rfl ?_
        obtain ⟨t6, ht6, H⟩ := pbind H
        obtain ⟨ad6, e6⟩ := (hS.rd (i := 0) rfl).some' ht6
        refine OJ.st rfl rfl rfl (SR.idxS tU_ok tI_ok rfl rfl rfl rfl e6 rfl (by have hg := (getI_some ht6).1; (first | rw [hl0] at hg | (simp only [List.length_set] at hg; rw [hl0] at hg)); exact hg)) ?_
        refine OJ.es rfl rfl (Es.storeR tI_ok hS (i := 0) (off := 0) rfl rfl ht6 e6 rfl rfl rfl rfl (vs := (ci .i16).enc (IntKind.i16.wrap y4)) rfl rfl (one1 rfl) (Nat.le_of_ble_eq_true rfl) (IntKind.i16.wrap y4) rfl) ?_
        intro w1 hS
        refine OJ.nil (EJ.next ?_)
        refine CJ.region ?_
        refine OJ.pures tU_ok 3 rfl ?_
        refine OJ.nil (EJ.blk (EJ.next ?_))
        refine CJ.region ?_
        refine OJ.pures tU_ok 3 rfl ?_
        refine OJ.nil ?_
        exact EJ.round k (F' := [(0, .slice Aa0 a0.length ca0), (1, .int .i64 (IntKind.i64.wrap (y4 + 1))), (5, .int .i64 (IntKind.i64.wrap (y5 + 1)))]) ⟨rfl, rfl, rfl, trivial⟩ (Nat.lt_succ_self _) ⟨(y3.set y5.toNat (IntKind.i16.wrap y4)), (IntKind.i64.wrap (y4 + 1)), (IntKind.i64.wrap (y5 + 1)), rfl, hS.pick [0] [] rfl, (by first | exact hl0 | (simp only [List.length_set]; exact hl0) | (simp only [List.length_set]; done)), H⟩
      · replace H := pif_f (of_decide_eq_false hb) H
        refine CJ.exit (EJ.skE (EJ.skE (EJ.hit (?_))))
        exact EJ.meet (F' := [(1, .int .i64 y4)]) ⟨rfl, trivial⟩ ⟨y3, y4, H, rfl, hS.pick [0] [] rfl, (by first | exact hl0 | (simp only [List.length_set]; exact hl0) | (simp only [List.length_set]; done))⟩
  · rintro F w1 ⟨y1, y2, he, rfl, hS, hl0⟩
    obtain rfl := Option.some.inj he
    have H := K97
    refine EJ.next ?_
    refine CJ.seq ?_
    refine CJ.region ?_
    refine OJ.pures tU_ok 2 rfl ?_
    refine OJ.nil (EJ.next ?_)
    refine CJ.ret (?_)
    obtain rfl := Option.some.inj H
    exact EJ.fin rfl (.tmp rfl .nil) ⟨rfl, hS.pick [0] [] rfl, (by first | exact hl0 | (simp only [List.length_set]; exact hl0) | (simp only [List.length_set]; done))⟩

def laws_markUint16S.l1 (a0 : List Int) : Nat → (List Int) → Int → Int → Option ((List Int) × Int)
  | 0, _, _, _ => none
  | k + 1, y3, y4, y5 => if y5 < (a0.length : Int) then ((getI y3 y5).bind fun t6 => laws_markUint16S.l1 a0 k (y3.set y5.toNat (IntKind.u16.wrap y4)) (IntKind.i64.wrap (y4 + 1)) (IntKind.i64.wrap (y5 + 1))) else (some (y3, y4))
def laws_markUint16S.f (k : Nat) (a0 : List Int) (a1 : Int) : Option (Int × List Int) := (laws_markUint16S.l1 a0 k a0 a1 0).bind fun (y1, y2) => some (y2, y1)
theorem laws_markUint16S.c (k : Nat) (w : World) (Aa0 : Option Addr) (ca0 : Nat) (a0 : List Int) (a1 : Int) (hin : St w (fpU [rowC (ci .u16) Aa0 ca0 51 a0]) w [rowC (ci .u16) Aa0 ca0 51 a0] []) (r : Int × List Int) (H : laws_markUint16S.f k a0 a1 = some r) :
    CV Tryd.prog 44 [.slice Aa0 a0.length ca0, .int .i64 a1].toArray w fun v w' => v = .int .i64 r.1 ∧ St w (fpU [rowC (ci .u16) Aa0 ca0 51 a0]) w' [rowC (ci .u16) Aa0 ca0 51 r.2] [] ∧ r.2.length = a0.length := by
  have hS := hin
  unfold laws_markUint16S.f at H
  refine CV.body Tryd.func44 rfl Tryd.ntmps44 rfl ?_
  have hl0 : a0.length = a0.length := rfl
  refine CJ.seq ?_
  refine CJ.region ?_
  refine OJ.pures tU_ok 1 rfl ?_
  refine OJ.nil (EJ.next ?_)
  refine CJ.seq ?_
  refine CJ.seq ?_
  refine CJ.region ?_
  refine OJ.pures tU_ok 1 rfl ?_
  refine OJ.nil (EJ.next ?_)
  obtain ⟨j99, H, K99⟩ := pbind H
  refine CJ.cut1 (fun F w1 => ∃ (y1 : List Int) (y2 : Int) , (some (y1, y2) : Option ((List Int) × Int)) = some j99 ∧ F = [(1, .int .i64 y2)] ∧ St w (fpU [rowC (ci .u16) Aa0 ca0 51 a0]) w1 [rowC (ci .u16) Aa0 ca0 51 y1] [] ∧ y1.length = a0.length) ?_ ?_
  · skip
    refine CJ.block ?_
    refine CJ.loop (fun k F w1 => ∃ (y3 : List Int) (y4 : Int) (y5 : Int), F = [(0, .slice Aa0 a0.length ca0), (1, .int .i64 y4), (5, .int .i64 y5)] ∧ St w (fpU [rowC (ci .u16) Aa0 ca0 51 a0]) w1 [rowC (ci .u16) Aa0 ca0 51 y3] [] ∧ y3.length = a0.length ∧ laws_markUint16S.l1 a0 k y3 y4 y5 = some j99) k (F' := [(0, .slice Aa0 a0.length ca0), (1, .int .i64 a1), (5, .int .i64 0)]) ⟨rfl, rfl, rfl, trivial⟩ ⟨a0, a1, 0, rfl, hS.pick [0] [] rfl, (by first | exact hl0 | (simp only [List.length_set]; exact hl0) | (simp only [List.length_set]; done)), H⟩ ?_
    rintro k F w1 ⟨y3, y4, y5, rfl, hS, hl0, H⟩
    cases k with
    | zero => rw [laws_markUint16S.l1] at H; cases H
    | succ k =>
      rw [laws_markUint16S.l1] at H
      refine CJ.seq ?_
      refine CJ.seq ?_
      refine CJ.region ?_
      refine OJ.pures tU_ok 4 rfl ?_
      refine OJ.nil (EJ.next ?_)
      refine CJ.cond rfl (fun hb => ?_) (fun hb => ?_)
      · replace H := pif_t (of_decide_eq_true hb) H
        refine CJ.skip (EJ.next ?_)
        refine CJ.seq ?_
        refine CJ.block ?_
        refine CJ.seq ?_
        refine CJ.region ?_
        refine OJ.pures tU_ok 4 rfl ?_
        obtain ⟨t6, ht6, H⟩ := pbind H
        obtain ⟨ad6, e6⟩ := (hS.rd (i := 0) rfl).some' ht6
        refine OJ.st rfl rfl rfl (SR.idxS tU_ok tI_ok rfl rfl rfl rfl e6 rfl (by have hg := (getI_some ht6).1; (first | rw [hl0] at hg | (simp only [List.length_set] at hg; rw [hl0] at hg)); exact hg)) ?_
        refine OJ.es rfl rfl (Es.storeR tI_ok hS (i := 0) (off := 0) rfl rfl ht6 e6 rfl rfl rfl rfl (vs := (ci .u16).enc (IntKind.u16.wrap y4)) rfl rfl (one1 rfl) (Nat.le_of_ble_eq_true rfl) (IntKind.u16.wrap y4) rfl) ?_
        intro w1 hS
        refine OJ.nil (EJ.next ?_)
        refine CJ.region ?_
        refine OJ.pures tU_ok 3 rfl ?_
        refine OJ.nil (EJ.blk (EJ.next ?_))
        refine CJ.region ?_
        refine OJ.pures tU_ok 3 rfl ?_
        refine OJ.nil ?_
        exact EJ.round k (F' := [(0, .slice Aa0 a0.length ca0), (1, .int .i64 (IntKind.i64.wrap (y4 + 1))), (5, .int .i64 (IntKind.i64.wrap (y5 + 1)))]) ⟨rfl, rfl, rfl, trivial⟩ (Nat.lt_succ_self _) ⟨(y3.set y5.toNat (IntKind.u16.wrap y4)), (IntKind.i64.wrap (y4 + 1)), (IntKind.i64.wrap (y5 + 1)), rfl, hS.pick [0] [] rfl, (by first | exact hl0 | (simp only [List.length_set]; exact hl0) | (simp only [List.length_set]; done)), H⟩
      · replace H := pif_f (of_decide_eq_false hb) H
        refine CJ.exit (EJ.skE (EJ.skE (EJ.hit (?_))))
        exact EJ.meet (F' := [(1, .int .i64 y4)]) ⟨rfl, trivial⟩ ⟨y3, y4, H, rfl, hS.pick [0] [] rfl, (by first | exact hl0 | (simp only [List.length_set]; exact hl0) | (simp only [List.length_set]; done))⟩
  · rintro F w1 ⟨y1, y2, he, rfl, hS, hl0⟩
    obtain rfl := Option.some.inj he
    have H := K99
    refine EJ.next ?_
    refine CJ.seq ?_
    refine CJ.region ?_
    refine OJ.pures tU_ok 2 rfl ?_
    refine OJ.nil (EJ.next ?_)
    refine CJ.ret (?_)
    obtain rfl := Option.some.inj H
    exact EJ.fin rfl (.tmp rfl .nil) ⟨rfl, hS.pick [0] [] rfl, (by first | exact hl0 | (simp only [List.length_set]; exact hl0) | (simp only [List.length_set]; done))⟩

def laws_markHerd.f (k : Nat) (a0 : Herd) (a1 : Int) : Option (Int × List ByteArray × List Int × List Int) := (laws_markStringS.f k a0.Names a1).bind fun t2 => (laws_markInt16S.f k a0.Eats t2.1).bind fun t3 => (laws_markUint16S.f k a0.Foes t3.1).bind fun t4 => some (t4.1, t2.2, t3.2, t4.2)
theorem laws_markHerd.c (k : Nat) (w : World) (Aa0_0 : Option Addr) (ca0_0 : Nat) (Aa0_1 : Option Addr) (ca0_1 : Nat) (Aa0_2 : Option Addr) (ca0_2 : Nat) (a0 : Herd) (a1 : Int) (hin : St w (fpU [rowC G.cs Aa0_0 ca0_0 9 a0.Names, rowC (ci .i16) Aa0_1 ca0_1 50 a0.Eats, rowC (ci .u16) Aa0_2 ca0_2 51 a0.Foes]) w [rowC G.cs Aa0_0 ca0_0 9 a0.Names, rowC (ci .i16) Aa0_1 ca0_1 50 a0.Eats, rowC (ci .u16) Aa0_2 ca0_2 51 a0.Foes] []) (r : Int × List ByteArray × List Int × List Int) (H : laws_markHerd.f k a0 a1 = some r) :
    CV Tryd.prog 14 [.agg [.slice Aa0_0 a0.Names.length ca0_0, .slice Aa0_1 a0.Eats.length ca0_1, .slice Aa0_2 a0.Foes.length ca0_2].toArray, .int .i64 a1].toArray w fun v w' => v = .int .i64 r.1 ∧ St w (fpU [rowC G.cs Aa0_0 ca0_0 9 a0.Names, rowC (ci .i16) Aa0_1 ca0_1 50 a0.Eats, rowC (ci .u16) Aa0_2 ca0_2 51 a0.Foes]) w' [rowC G.cs Aa0_0 ca0_0 9 r.2.1, rowC (ci .i16) Aa0_1 ca0_1 50 r.2.2.1, rowC (ci .u16) Aa0_2 ca0_2 51 r.2.2.2] [] ∧ r.2.1.length = a0.Names.length ∧ r.2.2.1.length = a0.Eats.length ∧ r.2.2.2.length = a0.Foes.length := by
  have hS := hin
  unfold laws_markHerd.f at H
  refine CV.body Tryd.func14 rfl Tryd.ntmps14 rfl ?_
  have hl0 : a0.Names.length = a0.Names.length := rfl
  have hl1 : a0.Eats.length = a0.Eats.length := rfl
  have hl2 : a0.Foes.length = a0.Foes.length := rfl
  refine CJ.seq ?_
  refine CJ.region ?_
  refine OJ.ef rfl rfl rfl (Ef.box hS rfl rfl ([.slice Aa0_0 a0.Names.length ca0_0, .slice Aa0_1 a0.Eats.length ca0_1, .slice Aa0_2 a0.Foes.length ca0_2]) rfl) ?_
  rintro _ w1 ⟨b1, rfl, hS⟩
  refine OJ.pures tU_ok 1 rfl ?_
  refine OJ.nil (EJ.next ?_)
  refine CJ.seq ?_
  refine CJ.region ?_
  refine OJ.st rfl rfl rfl (SR.fieldAddr tU_ok tI_ok rfl rfl rfl rfl rfl rfl) ?_
  refine OJ.st rfl rfl rfl (SR.load rfl rfl (fun w' hx => ld1 tU_ok rfl rfl (CA.ext (CA.sub (hS.cells (i := 3) rfl) 0) hx) rfl)) ?_
  refine OJ.pures tU_ok 1 rfl ?_
  obtain ⟨t2, ht2, H⟩ := pbind H
  refine OJ.callF rfl rfl rfl rfl rfl hb42 rfl (laws_markStringS.c k _ Aa0_0 ca0_0 a0.Names a1 ((hS.subs [0] [] [] rfl).pick [0] [] rfl) _ ht2) ?_
  rintro _ w1 ⟨rfl, hs, hlc0⟩
  replace hS := hS.back [0] rfl rfl [rowC G.cs Aa0_0 ca0_0 9 t2.2] [] hs ⟨fun _ => Iff.rfl, trivial⟩
  have hl0 := hlc0.trans (by first | exact hl0 | (simp only [List.length_set]; exact hl0) | (simp only [List.length_set]; done))
  refine OJ.pures tU_ok 1 rfl ?_
  refine OJ.nil (EJ.next ?_)
  refine CJ.seq ?_
  refine CJ.region ?_
  refine OJ.st rfl rfl rfl (SR.fieldAddr tU_ok tI_ok rfl rfl rfl rfl rfl rfl) ?_
  refine OJ.st rfl rfl rfl (SR.load rfl rfl (fun w' hx => ld1 tU_ok rfl rfl (CA.ext (CA.sub (hS.cells (i := 3) rfl) 1) hx) rfl)) ?_
  refine OJ.pures tU_ok 1 rfl ?_
  obtain ⟨t3, ht3, H⟩ := pbind H
  refine OJ.callF rfl rfl rfl rfl rfl hb43 rfl (laws_markInt16S.c k _ Aa0_1 ca0_1 a0.Eats t2.1 ((hS.subs [1] [] [] rfl).pick [0] [] rfl) _ ht3) ?_
  rintro _ w1 ⟨rfl, hs, hlc0⟩
  replace hS := hS.back [1] rfl rfl [rowC (ci .i16) Aa0_1 ca0_1 50 t3.2] [] hs ⟨fun _ => Iff.rfl, trivial⟩
  have hl1 := hlc0.trans (by first | exact hl1 | (simp only [List.length_set]; exact hl1) | (simp only [List.length_set]; done))
  refine OJ.pures tU_ok 1 rfl ?_
  refine OJ.nil (EJ.next ?_)
  refine CJ.seq ?_
  refine CJ.region ?_
  refine OJ.st rfl rfl rfl (SR.fieldAddr tU_ok tI_ok rfl rfl rfl rfl rfl rfl) ?_
  refine OJ.st rfl rfl rfl (SR.load rfl rfl (fun w' hx => ld1 tU_ok rfl rfl (CA.ext (CA.sub (hS.cells (i := 3) rfl) 2) hx) rfl)) ?_
  refine OJ.pures tU_ok 1 rfl ?_
  obtain ⟨t4, ht4, H⟩ := pbind H
  refine OJ.callF rfl rfl rfl rfl rfl hb44 rfl (laws_markUint16S.c k _ Aa0_2 ca0_2 a0.Foes t3.1 ((hS.subs [2] [] [] rfl).pick [0] [] rfl) _ ht4) ?_
  rintro _ w1 ⟨rfl, hs, hlc0⟩
  replace hS := hS.back [2] rfl rfl [rowC (ci .u16) Aa0_2 ca0_2 51 t4.2] [] hs ⟨fun _ => Iff.rfl, trivial⟩
  have hl2 := hlc0.trans (by first | exact hl2 | (simp only [List.length_set]; exact hl2) | (simp only [List.length_set]; done))
  refine OJ.pures tU_ok 1 rfl ?_
  refine OJ.nil (EJ.next ?_)
  refine CJ.seq ?_
  refine CJ.region ?_
  refine OJ.pures tU_ok 2 rfl ?_
  refine OJ.nil (EJ.next ?_)
  refine CJ.ret (?_)
  obtain rfl := Option.some.inj H
  exact EJ.fin rfl (.tmp rfl .nil) ⟨rfl, hS.pick [0, 1, 2] [] rfl, (by first | exact hl0 | (simp only [List.length_set]; exact hl0) | (simp only [List.length_set]; done)), (by first | exact hl1 | (simp only [List.length_set]; exact hl1) | (simp only [List.length_set]; done)), (by first | exact hl2 | (simp only [List.length_set]; exact hl2) | (simp only [List.length_set]; done))⟩

def laws_markInt64S.l1 (a0 : List Int) : Nat → (List Int) → Int → Int → Option ((List Int) × Int)
  | 0, _, _, _ => none
  | k + 1, y3, y4, y5 => if y5 < (a0.length : Int) then ((getI y3 y5).bind fun t6 => laws_markInt64S.l1 a0 k (y3.set y5.toNat y4) (IntKind.i64.wrap (y4 + 1)) (IntKind.i64.wrap (y5 + 1))) else (some (y3, y4))
def laws_markInt64S.f (k : Nat) (a0 : List Int) (a1 : Int) : Option (Int × List Int) := (laws_markInt64S.l1 a0 k a0 a1 0).bind fun (y1, y2) => some (y2, y1)
theorem laws_markInt64S.c (k : Nat) (w : World) (Aa0 : Option Addr) (ca0 : Nat) (a0 : List Int) (a1 : Int) (hin : St w (fpU [rowC (ci .i64) Aa0 ca0 2 a0]) w [rowC (ci .i64) Aa0 ca0 2 a0] []) (r : Int × List Int) (H : laws_markInt64S.f k a0 a1 = some r) :
    CV Tryd.prog 15 [.slice Aa0 a0.length ca0, .int .i64 a1].toArray w fun v w' => v = .int .i64 r.1 ∧ St w (fpU [rowC (ci .i64) Aa0 ca0 2 a0]) w' [rowC (ci .i64) Aa0 ca0 2 r.2] [] ∧ r.2.length = a0.length := by
  have hS := hin
  unfold laws_markInt64S.f at H
  refine CV.body Tryd.func15 rfl Tryd.ntmps15 rfl ?_
  have hl0 : a0.length = a0.length := rfl
  refine CJ.seq ?_
  refine CJ.region ?_
  refine OJ.pures tU_ok 1 rfl ?_
  refine OJ.nil (EJ.next ?_)
  refine CJ.seq ?_
  refine CJ.seq ?_
  refine CJ.region ?_
  refine OJ.pures tU_ok 1 rfl ?_
  refine OJ.nil (EJ.next ?_)
  obtain ⟨j101, H, K101⟩ := pbind H
  refine CJ.cut1 (fun F w1 => ∃ (y1 : List Int) (y2 : Int) , (some (y1, y2) : Option ((List Int) × Int)) = some j101 ∧ F = [(1, .int .i64 y2)] ∧ St w (fpU [rowC (ci .i64) Aa0 ca0 2 a0]) w1 [rowC (ci .i64) Aa0 ca0 2 y1] [] ∧ y1.length = a0.length) ?_ ?_
  · skip
    refine CJ.block ?_
    refine CJ.loop (fun k F w1 => ∃ (y3 : List Int) (y4 : Int) (y5 : Int), F = [(0, .slice Aa0 a0.length ca0), (1, .int .i64 y4), (5, .int .i64 y5)] ∧ St w (fpU [rowC (ci .i64) Aa0 ca0 2 a0]) w1 [rowC (ci .i64) Aa0 ca0 2 y3] [] ∧ y3.length = a0.length ∧ laws_markInt64S.l1 a0 k y3 y4 y5 = some j101) k (F' := [(0, .slice Aa0 a0.length ca0), (1, .int .i64 a1), (5, .int .i64 0)]) ⟨rfl, rfl, rfl, trivial⟩ ⟨a0, a1, 0, rfl, hS.pick [0] [] rfl, (by first | exact hl0 | (simp only [List.length_set]; exact hl0) | (simp only [List.length_set]; done)), H⟩ ?_
    rintro k F w1 ⟨y3, y4, y5, rfl, hS, hl0, H⟩
    cases k with
    | zero => rw [laws_markInt64S.l1] at H; cases H
    | succ k =>
      rw [laws_markInt64S.l1] at H
      refine CJ.seq ?_
      refine CJ.seq ?_
      refine CJ.region ?_
      refine OJ.pures tU_ok 4 rfl ?_
      refine OJ.nil (EJ.next ?_)
      refine CJ.cond rfl (fun hb => ?_) (fun hb => ?_)
      · replace H := pif_t (of_decide_eq_true hb) H
        refine CJ.skip (EJ.next ?_)
        refine CJ.seq ?_
        refine CJ.block ?_
        refine CJ.seq ?_
        refine CJ.region ?_
        refine OJ.pures tU_ok 3 rfl ?_
        obtain ⟨t6, ht6, H⟩ := pbind H
        obtain ⟨ad6, e6⟩ := (hS.rd (i := 0) rfl).some' ht6
        refine OJ.st rfl rfl rfl (SR.idxS tU_ok tI_ok rfl rfl rfl rfl e6 rfl (by have hg := (getI_some ht6).1; (first | rw [hl0] at hg | (simp only [List.length_set] at hg; rw [hl0] at hg)); exact hg)) ?_
        refine OJ.es rfl rfl (Es.storeR tI_ok hS (i := 0) (off := 0) rfl rfl ht6 e6 rfl rfl rfl rfl (vs := (ci .i64).enc y4) rfl rfl (one1 rfl) (Nat.le_of_ble_eq_true rfl) y4 rfl) ?_
        intro w1 hS
        refine OJ.nil (EJ.next ?_)
        refine CJ.region ?_
        refine OJ.pures tU_ok 3 rfl ?_
        refine OJ.nil (EJ.blk (EJ.next ?_))
        refine CJ.region ?_
        refine OJ.pures tU_ok 3 rfl ?_
        refine OJ.nil ?_
        exact EJ.round k (F' := [(0, .slice Aa0 a0.length ca0), (1, .int .i64 (IntKind.i64.wrap (y4 + 1))), (5, .int .i64 (IntKind.i64.wrap (y5 + 1)))]) ⟨rfl, rfl, rfl, trivial⟩ (Nat.lt_succ_self _) ⟨(y3.set y5.toNat y4), (IntKind.i64.wrap (y4 + 1)), (IntKind.i64.wrap (y5 + 1)), rfl, hS.pick [0] [] rfl, (by first | exact hl0 | (simp only [List.length_set]; exact hl0) | (simp only [List.length_set]; done)), H⟩
      · replace H := pif_f (of_decide_eq_false hb) H
        refine CJ.exit (EJ.skE (EJ.skE (EJ.hit (?_))))
        exact EJ.meet (F' := [(1, .int .i64 y4)]) ⟨rfl, trivial⟩ ⟨y3, y4, H, rfl, hS.pick [0] [] rfl, (by first | exact hl0 | (simp only [List.length_set]; exact hl0) | (simp only [List.length_set]; done))⟩
  · rintro F w1 ⟨y1, y2, he, rfl, hS, hl0⟩
    obtain rfl := Option.some.inj he
    have H := K101
    refine EJ.next ?_
    refine CJ.seq ?_
    refine CJ.region ?_
    refine OJ.pures tU_ok 2 rfl ?_
    refine OJ.nil (EJ.next ?_)
    refine CJ.ret (?_)
    obtain rfl := Option.some.inj H
    exact EJ.fin rfl (.tmp rfl .nil) ⟨rfl, hS.pick [0] [] rfl, (by first | exact hl0 | (simp only [List.length_set]; exact hl0) | (simp only [List.length_set]; done))⟩

def laws_heldStringS.l1 (a0 : List ByteArray) : Nat → Int → Int → Option (Int ⊕ Int)
  | 0, _, _ => none
  | k + 1, y2, y3 => if y3 < (a0.length : Int) then ((getI a0 y3).bind fun t4 => (laws_markText.f k y2).bind fun t5 => if t4 ≠ t5 then (some (Sum.inl (-1))) else (laws_heldStringS.l1 a0 k (IntKind.i64.wrap (y2 + 1)) (IntKind.i64.wrap (y3 + 1)))) else (some (Sum.inr y2))
def laws_heldStringS.f (k : Nat) (a0 : List ByteArray) (a1 : Int) : Option Int := (laws_heldStringS.l1 a0 k a1 0).bind fun s103 => match s103 with | .inl r => some r | .inr y1 => some y1
theorem laws_heldStringS.c (k : Nat) (w : World) (Aa0 : Option Addr) (ca0 : Nat) (a0 : List ByteArray) (hr0 : Rd G.cs w Aa0 a0) (hc0 : a0.length ≤ ca0) (a1 : Int) (r : Int) (H : laws_heldStringS.f k a0 a1 = some r) :
    CV Tryd.prog 45 [.slice Aa0 a0.length ca0, .int .i64 a1].toArray w fun v w' => v = .int .i64 r ∧ Ext w w' := by
  have hS := ((St.init w no).param G.cs Aa0 ca0 a0 hr0 hc0)
  unfold laws_heldStringS.f at H
  refine CV.body Tryd.func45 rfl Tryd.ntmps45 rfl ?_
  refine CJ.seq ?_
  refine CJ.region ?_
  refine OJ.pures tU_ok 1 rfl ?_
  refine OJ.nil (EJ.next ?_)
  refine CJ.seq ?_
  refine CJ.seq ?_
  refine CJ.region ?_
  refine OJ.pures tU_ok 1 rfl ?_
  refine OJ.nil (EJ.next ?_)
  obtain ⟨j103, H, K103⟩ := pbind H
  refine CJ.cut1 (fun F w1 => ∃ (y1 : Int) , (some (Sum.inr y1) : Option (Int ⊕ Int)) = some j103 ∧ F = [(1, .int .i64 y1)] ∧ St w no w1 [] [roC G.cs Aa0 ca0 a0]) ?_ ?_
  · skip
    refine CJ.block ?_
    refine CJ.loop (fun k F w1 => ∃ (y2 : Int) (y3 : Int), F = [(0, .slice Aa0 a0.length ca0), (1, .int .i64 y2), (5, .int .i64 y3)] ∧ St w no w1 [] [roC G.cs Aa0 ca0 a0] ∧ laws_heldStringS.l1 a0 k y2 y3 = some j103) k (F' := [(0, .slice Aa0 a0.length ca0), (1, .int .i64 a1), (5, .int .i64 0)]) ⟨rfl, rfl, rfl, trivial⟩ ⟨a1, 0, rfl, hS.pick [] [0] rfl, H⟩ ?_
    rintro k F w1 ⟨y2, y3, rfl, hS, H⟩
    cases k with
    | zero => rw [laws_heldStringS.l1] at H; cases H
    | succ k =>
      rw [laws_heldStringS.l1] at H
      refine CJ.seq ?_
      refine CJ.seq ?_
      refine CJ.region ?_
      refine OJ.pures tU_ok 4 rfl ?_
      refine OJ.nil (EJ.next ?_)
      refine CJ.cond rfl (fun hb => ?_) (fun hb => ?_)
      · replace H := pif_t (of_decide_eq_true hb) H
        refine CJ.skip (EJ.next ?_)
        refine CJ.seq ?_
        refine CJ.block ?_
        refine CJ.seq ?_
        refine CJ.seq ?_
        refine CJ.draw [] [0, 1, 2, 3, 4, 5, 6] mixed (by kernel_rfl) hS fun w1 hS => ?_
        refine DJ.pures tU_ok 2 rfl ?_
        obtain ⟨t4, ht4, H⟩ := pbind H
        obtain ⟨ad4, e4⟩ := (hS.rd' (i := 0) rfl).some' ht4
        refine DJ.st rfl rfl rfl rfl rfl (SR.idxS tU_ok tI_ok rfl rfl rfl rfl e4 rfl (getI_some ht4).1) ?_
        refine DJ.st rfl rfl rfl rfl rfl (SR.load rfl rfl (fun w' hx => ld1 tU_ok rfl rfl (CA.ext ((hS.rd' (i := 0) rfl).at_ e4 ht4) hx) rfl)) ?_
        refine DJ.pures tU_ok 1 rfl ?_
        obtain ⟨t5, ht5, H⟩ := pbind H
        refine DJ.callF rfl rfl rfl rfl rfl rfl rfl hb76 rfl (laws_markText.c k _ y2 _ ht5) (by rintro v w' ⟨rfl, hs⟩; exact hs) ?_
        rintro _ w1 ⟨rfl, hs⟩
        replace hS := hS.grow hs
        refine DJ.pures tU_ok 1 rfl ?_
        refine DJ.nil (EJ.next ?_)
        refine CJ.cond rfl (fun hb => ?_) (fun hb => ?_)
        · replace H := pif_t (of_decide_eq_true hb) H
          refine CJ.seq ?_
          refine CJ.region ?_
          refine OJ.pures tU_ok 1 rfl ?_
          refine OJ.nil (EJ.next ?_)
          refine CJ.ret (EJ.skR (EJ.bkR (EJ.skR (EJ.skR (EJ.bkR (EJ.skR (EJ.skR (?_))))))))
          first | (obtain rfl := Option.some.inj H; have H := K103) | (obtain ⟨q103, H2, e103⟩ := pbind H; obtain rfl := Option.some.inj e103; obtain rfl := Option.some.inj K103; have H := H2)
          obtain rfl := Option.some.inj H
          exact EJ.fin rfl (.tmp rfl .nil) ⟨rfl, hS.ext⟩
        · replace H := pif_f (of_decide_eq_false hb) H
          refine CJ.skip (EJ.next ?_)
          refine CJ.region ?_
          refine OJ.pures tU_ok 3 rfl ?_
          refine OJ.nil (EJ.blk (EJ.next ?_))
          refine CJ.region ?_
          refine OJ.pures tU_ok 3 rfl ?_
          refine OJ.nil ?_
          exact EJ.round k (F' := [(0, .slice Aa0 a0.length ca0), (1, .int .i64 (IntKind.i64.wrap (y2 + 1))), (5, .int .i64 (IntKind.i64.wrap (y3 + 1)))]) ⟨rfl, rfl, rfl, trivial⟩ (Nat.lt_succ_self _) ⟨(IntKind.i64.wrap (y2 + 1)), (IntKind.i64.wrap (y3 + 1)), rfl, hS.pick [] [0] rfl, H⟩
      · replace H := pif_f (of_decide_eq_false hb) H
        refine CJ.exit (EJ.skE (EJ.skE (EJ.hit (?_))))
        exact EJ.meet (F' := [(1, .int .i64 y2)]) ⟨rfl, trivial⟩ ⟨y2, H, rfl, hS.pick [] [0] rfl⟩
  · rintro F w1 ⟨y1, he, rfl, hS⟩
    obtain rfl := Option.some.inj he
    have H := K103
    refine EJ.next ?_
    refine CJ.seq ?_
    refine CJ.region ?_
    refine OJ.pures tU_ok 2 rfl ?_
    refine OJ.nil (EJ.next ?_)
    refine CJ.ret (?_)
    obtain rfl := Option.some.inj H
    exact EJ.fin rfl (.tmp rfl .nil) ⟨rfl, hS.ext⟩

def laws_heldInt16S.l1 (a0 : List Int) : Nat → Int → Int → Option (Int ⊕ Int)
  | 0, _, _ => none
  | k + 1, y2, y3 => if y3 < (a0.length : Int) then ((getI a0 y3).bind fun t4 => if t4 ≠ (IntKind.i16.wrap y2) then (some (Sum.inl (-1))) else (laws_heldInt16S.l1 a0 k (IntKind.i64.wrap (y2 + 1)) (IntKind.i64.wrap (y3 + 1)))) else (some (Sum.inr y2))
def laws_heldInt16S.f (k : Nat) (a0 : List Int) (a1 : Int) : Option Int := (laws_heldInt16S.l1 a0 k a1 0).bind fun s104 => match s104 with | .inl r => some r | .inr y1 => some y1
theorem laws_heldInt16S.c (k : Nat) (w : World) (Aa0 : Option Addr) (ca0 : Nat) (a0 : List Int) (hr0 : Rd (ci .i16) w Aa0 a0) (hc0 : a0.length ≤ ca0) (a1 : Int) (r : Int) (H : laws_heldInt16S.f k a0 a1 = some r) :
    CV Tryd.prog 46 [.slice Aa0 a0.length ca0, .int .i64 a1].toArray w fun v w' => v = .int .i64 r ∧ Ext w w' := by
  have hS := ((St.init w no).param (ci .i16) Aa0 ca0 a0 hr0 hc0)
  unfold laws_heldInt16S.f at H
  refine CV.body Tryd.func46 rfl Tryd.ntmps46 rfl ?_
  refine CJ.seq ?_
  refine CJ.region ?_
  refine OJ.pures tU_ok 1 rfl ?_
  refine OJ.nil (EJ.next ?_)
  refine CJ.seq ?_
  refine CJ.seq ?_
  refine CJ.region ?_
  refine OJ.pures tU_ok 1 rfl ?_
  refine OJ.nil (EJ.next ?_)
  obtain ⟨j104, H, K104⟩ := pbind H
  refine CJ.cut1 (fun F w1 => ∃ (y1 : Int) , (some (Sum.inr y1) : Option (Int ⊕ Int)) = some j104 ∧ F = [(1, .int .i64 y1)] ∧ St w no w1 [] [roC (ci .i16) Aa0 ca0 a0]) ?_ ?_
  · skip
    refine CJ.block ?_
    refine CJ.loop (fun k F w1 => ∃ (y2 : Int) (y3 : Int), F = [(0, .slice Aa0 a0.length ca0), (1, .int .i64 y2), (5, .int .i64 y3)] ∧ St w no w1 [] [roC (ci .i16) Aa0 ca0 a0] ∧ laws_heldInt16S.l1 a0 k y2 y3 = some j104) k (F' := [(0, .slice Aa0 a0.length ca0), (1, .int .i64 a1), (5, .int .i64 0)]) ⟨rfl, rfl, rfl, trivial⟩ ⟨a1, 0, rfl, hS.pick [] [0] rfl, H⟩ ?_
    rintro k F w1 ⟨y2, y3, rfl, hS, H⟩
    cases k with
    | zero => rw [laws_heldInt16S.l1] at H; cases H
    | succ k =>
      rw [laws_heldInt16S.l1] at H
      refine CJ.seq ?_
      refine CJ.seq ?_
      refine CJ.region ?_
      refine OJ.pures tU_ok 4 rfl ?_
      refine OJ.nil (EJ.next ?_)
      refine CJ.cond rfl (fun hb => ?_) (fun hb => ?_)
      · replace H := pif_t (of_decide_eq_true hb) H
        refine CJ.skip (EJ.next ?_)
        refine CJ.seq ?_
        refine CJ.block ?_
        refine CJ.seq ?_
        refine CJ.seq ?_
        refine CJ.region ?_
        refine OJ.pures tU_ok 2 rfl ?_
        obtain ⟨t4, ht4, H⟩ := pbind H
        obtain ⟨ad4, e4⟩ := (hS.rd' (i := 0) rfl).some' ht4
        refine OJ.st rfl rfl rfl (SR.idxS tU_ok tI_ok rfl rfl rfl rfl e4 rfl (getI_some ht4).1) ?_
        refine OJ.st rfl rfl rfl (SR.load rfl rfl (fun w' hx => ld1 tU_ok rfl rfl (CA.ext ((hS.rd' (i := 0) rfl).at_ e4 ht4) hx) rfl)) ?_
        refine OJ.pures tU_ok 3 rfl ?_
        refine OJ.nil (EJ.next ?_)
        refine CJ.cond rfl (fun hb => ?_) (fun hb => ?_)
        · replace H := pif_t (of_decide_eq_true hb) H
          refine CJ.seq ?_
          refine CJ.region ?_
          refine OJ.pures tU_ok 1 rfl ?_
          refine OJ.nil (EJ.next ?_)
          refine CJ.ret (EJ.skR (EJ.bkR (EJ.skR (EJ.skR (EJ.bkR (EJ.skR (EJ.skR (?_))))))))
          first | (obtain rfl := Option.some.inj H; have H := K104) | (obtain ⟨q104, H2, e104⟩ := pbind H; obtain rfl := Option.some.inj e104; obtain rfl := Option.some.inj K104; have H := H2)
          obtain rfl := Option.some.inj H
          exact EJ.fin rfl (.tmp rfl .nil) ⟨rfl, hS.ext⟩
        · replace H := pif_f (of_decide_eq_false hb) H
          refine CJ.skip (EJ.next ?_)
          refine CJ.region ?_
          refine OJ.pures tU_ok 3 rfl ?_
          refine OJ.nil (EJ.blk (EJ.next ?_))
          refine CJ.region ?_
          refine OJ.pures tU_ok 3 rfl ?_
          refine OJ.nil ?_
          exact EJ.round k (F' := [(0, .slice Aa0 a0.length ca0), (1, .int .i64 (IntKind.i64.wrap (y2 + 1))), (5, .int .i64 (IntKind.i64.wrap (y3 + 1)))]) ⟨rfl, rfl, rfl, trivial⟩ (Nat.lt_succ_self _) ⟨(IntKind.i64.wrap (y2 + 1)), (IntKind.i64.wrap (y3 + 1)), rfl, hS.pick [] [0] rfl, H⟩
      · replace H := pif_f (of_decide_eq_false hb) H
        refine CJ.exit (EJ.skE (EJ.skE (EJ.hit (?_))))
        exact EJ.meet (F' := [(1, .int .i64 y2)]) ⟨rfl, trivial⟩ ⟨y2, H, rfl, hS.pick [] [0] rfl⟩
  · rintro F w1 ⟨y1, he, rfl, hS⟩
    obtain rfl := Option.some.inj he
    have H := K104
    refine EJ.next ?_
    refine CJ.seq ?_
    refine CJ.region ?_
    refine OJ.pures tU_ok 2 rfl ?_
    refine OJ.nil (EJ.next ?_)
    refine CJ.ret (?_)
    obtain rfl := Option.some.inj H
    exact EJ.fin rfl (.tmp rfl .nil) ⟨rfl, hS.ext⟩

def laws_heldUint16S.l1 (a0 : List Int) : Nat → Int → Int → Option (Int ⊕ Int)
  | 0, _, _ => none
  | k + 1, y2, y3 => if y3 < (a0.length : Int) then ((getI a0 y3).bind fun t4 => if t4 ≠ (IntKind.u16.wrap y2) then (some (Sum.inl (-1))) else (laws_heldUint16S.l1 a0 k (IntKind.i64.wrap (y2 + 1)) (IntKind.i64.wrap (y3 + 1)))) else (some (Sum.inr y2))
def laws_heldUint16S.f (k : Nat) (a0 : List Int) (a1 : Int) : Option Int := (laws_heldUint16S.l1 a0 k a1 0).bind fun s105 => match s105 with | .inl r => some r | .inr y1 => some y1
theorem laws_heldUint16S.c (k : Nat) (w : World) (Aa0 : Option Addr) (ca0 : Nat) (a0 : List Int) (hr0 : Rd (ci .u16) w Aa0 a0) (hc0 : a0.length ≤ ca0) (a1 : Int) (r : Int) (H : laws_heldUint16S.f k a0 a1 = some r) :
    CV Tryd.prog 47 [.slice Aa0 a0.length ca0, .int .i64 a1].toArray w fun v w' => v = .int .i64 r ∧ Ext w w' := by
  have hS := ((St.init w no).param (ci .u16) Aa0 ca0 a0 hr0 hc0)
  unfold laws_heldUint16S.f at H
  refine CV.body Tryd.func47 rfl Tryd.ntmps47 rfl ?_
  refine CJ.seq ?_
  refine CJ.region ?_
  refine OJ.pures tU_ok 1 rfl ?_
  refine OJ.nil (EJ.next ?_)
  refine CJ.seq ?_
  refine CJ.seq ?_
  refine CJ.region ?_
  refine OJ.pures tU_ok 1 rfl ?_
  refine OJ.nil (EJ.next ?_)
  obtain ⟨j105, H, K105⟩ := pbind H
  refine CJ.cut1 (fun F w1 => ∃ (y1 : Int) , (some (Sum.inr y1) : Option (Int ⊕ Int)) = some j105 ∧ F = [(1, .int .i64 y1)] ∧ St w no w1 [] [roC (ci .u16) Aa0 ca0 a0]) ?_ ?_
  · skip
    refine CJ.block ?_
    refine CJ.loop (fun k F w1 => ∃ (y2 : Int) (y3 : Int), F = [(0, .slice Aa0 a0.length ca0), (1, .int .i64 y2), (5, .int .i64 y3)] ∧ St w no w1 [] [roC (ci .u16) Aa0 ca0 a0] ∧ laws_heldUint16S.l1 a0 k y2 y3 = some j105) k (F' := [(0, .slice Aa0 a0.length ca0), (1, .int .i64 a1), (5, .int .i64 0)]) ⟨rfl, rfl, rfl, trivial⟩ ⟨a1, 0, rfl, hS.pick [] [0] rfl, H⟩ ?_
    rintro k F w1 ⟨y2, y3, rfl, hS, H⟩
    cases k with
    | zero => rw [laws_heldUint16S.l1] at H; cases H
    | succ k =>
      rw [laws_heldUint16S.l1] at H
      refine CJ.seq ?_
      refine CJ.seq ?_
      refine CJ.region ?_
      refine OJ.pures tU_ok 4 rfl ?_
      refine OJ.nil (EJ.next ?_)
      refine CJ.cond rfl (fun hb => ?_) (fun hb => ?_)
      · replace H := pif_t (of_decide_eq_true hb) H
        refine CJ.skip (EJ.next ?_)
        refine CJ.seq ?_
        refine CJ.block ?_
        refine CJ.seq ?_
        refine CJ.seq ?_
        refine CJ.region ?_
        refine OJ.pures tU_ok 2 rfl ?_
        obtain ⟨t4, ht4, H⟩ := pbind H
        obtain ⟨ad4, e4⟩ := (hS.rd' (i := 0) rfl).some' ht4
        refine OJ.st rfl rfl rfl (SR.idxS tU_ok tI_ok rfl rfl rfl rfl e4 rfl (getI_some ht4).1) ?_
        refine OJ.st rfl rfl rfl (SR.load rfl rfl (fun w' hx => ld1 tU_ok rfl rfl (CA.ext ((hS.rd' (i := 0) rfl).at_ e4 ht4) hx) rfl)) ?_
        refine OJ.pures tU_ok 3 rfl ?_
        refine OJ.nil (EJ.next ?_)
        refine CJ.cond rfl (fun hb => ?_) (fun hb => ?_)
        · replace H := pif_t (of_decide_eq_true hb) H
          refine CJ.seq ?_
          refine CJ.region ?_
          refine OJ.pures tU_ok 1 rfl ?_
          refine OJ.nil (EJ.next ?_)
          refine CJ.ret (EJ.skR (EJ.bkR (EJ.skR (EJ.skR (EJ.bkR (EJ.skR (EJ.skR (?_))))))))
          first | (obtain rfl := Option.some.inj H; have H := K105) | (obtain ⟨q105, H2, e105⟩ := pbind H; obtain rfl := Option.some.inj e105; obtain rfl := Option.some.inj K105; have H := H2)
          obtain rfl := Option.some.inj H
          exact EJ.fin rfl (.tmp rfl .nil) ⟨rfl, hS.ext⟩
        · replace H := pif_f (of_decide_eq_false hb) H
          refine CJ.skip (EJ.next ?_)
          refine CJ.region ?_
          refine OJ.pures tU_ok 3 rfl ?_
          refine OJ.nil (EJ.blk (EJ.next ?_))
          refine CJ.region ?_
          refine OJ.pures tU_ok 3 rfl ?_
          refine OJ.nil ?_
          exact EJ.round k (F' := [(0, .slice Aa0 a0.length ca0), (1, .int .i64 (IntKind.i64.wrap (y2 + 1))), (5, .int .i64 (IntKind.i64.wrap (y3 + 1)))]) ⟨rfl, rfl, rfl, trivial⟩ (Nat.lt_succ_self _) ⟨(IntKind.i64.wrap (y2 + 1)), (IntKind.i64.wrap (y3 + 1)), rfl, hS.pick [] [0] rfl, H⟩
      · replace H := pif_f (of_decide_eq_false hb) H
        refine CJ.exit (EJ.skE (EJ.skE (EJ.hit (?_))))
        exact EJ.meet (F' := [(1, .int .i64 y2)]) ⟨rfl, trivial⟩ ⟨y2, H, rfl, hS.pick [] [0] rfl⟩
  · rintro F w1 ⟨y1, he, rfl, hS⟩
    obtain rfl := Option.some.inj he
    have H := K105
    refine EJ.next ?_
    refine CJ.seq ?_
    refine CJ.region ?_
    refine OJ.pures tU_ok 2 rfl ?_
    refine OJ.nil (EJ.next ?_)
    refine CJ.ret (?_)
    obtain rfl := Option.some.inj H
    exact EJ.fin rfl (.tmp rfl .nil) ⟨rfl, hS.ext⟩

def laws_heldHerd.f (k : Nat) (a0 : Herd) (a1 : Int) : Option Int := (laws_heldStringS.f k a0.Names a1).bind fun t2 => if t2 < 0 then (some (-1)) else ((laws_heldInt16S.f k a0.Eats t2).bind fun t3 => if t3 < 0 then (some (-1)) else ((laws_heldUint16S.f k a0.Foes t3).bind fun t4 => if t4 < 0 then (some (-1)) else (some t4)))
theorem laws_heldHerd.c (k : Nat) (w : World) (Aa0_0 : Option Addr) (ca0_0 : Nat) (Aa0_1 : Option Addr) (ca0_1 : Nat) (Aa0_2 : Option Addr) (ca0_2 : Nat) (a0 : Herd) (hr0_0 : Rd G.cs w Aa0_0 a0.Names) (hc0_0 : a0.Names.length ≤ ca0_0) (hr0_1 : Rd (ci .i16) w Aa0_1 a0.Eats) (hc0_1 : a0.Eats.length ≤ ca0_1) (hr0_2 : Rd (ci .u16) w Aa0_2 a0.Foes) (hc0_2 : a0.Foes.length ≤ ca0_2) (a1 : Int) (r : Int) (H : laws_heldHerd.f k a0 a1 = some r) :
    CV Tryd.prog 16 [.agg [.slice Aa0_0 a0.Names.length ca0_0, .slice Aa0_1 a0.Eats.length ca0_1, .slice Aa0_2 a0.Foes.length ca0_2].toArray, .int .i64 a1].toArray w fun v w' => v = .int .i64 r ∧ Ext w w' := by
  have hS := ((((St.init w no).param G.cs Aa0_0 ca0_0 a0.Names hr0_0 hc0_0).param (ci .i16) Aa0_1 ca0_1 a0.Eats hr0_1 hc0_1).param (ci .u16) Aa0_2 ca0_2 a0.Foes hr0_2 hc0_2)
  unfold laws_heldHerd.f at H
  refine CV.body Tryd.func16 rfl Tryd.ntmps16 rfl ?_
  refine CJ.seq ?_
  refine CJ.region ?_
  refine OJ.ef rfl rfl rfl (Ef.box hS rfl rfl ([.slice Aa0_0 a0.Names.length ca0_0, .slice Aa0_1 a0.Eats.length ca0_1, .slice Aa0_2 a0.Foes.length ca0_2]) rfl) ?_
  rintro _ w1 ⟨b1, rfl, hS⟩
  refine OJ.pures tU_ok 1 rfl ?_
  refine OJ.nil (EJ.next ?_)
  refine CJ.seq ?_
  refine CJ.region ?_
  refine OJ.st rfl rfl rfl (SR.fieldAddr tU_ok tI_ok rfl rfl rfl rfl rfl rfl) ?_
  refine OJ.st rfl rfl rfl (SR.load rfl rfl (fun w' hx => ld1 tU_ok rfl rfl (CA.ext (CA.sub (hS.cells (i := 0) rfl) 0) hx) rfl)) ?_
  refine OJ.pures tU_ok 1 rfl ?_
  obtain ⟨t2, ht2, H⟩ := pbind H
  refine OJ.callF rfl rfl rfl rfl rfl hb45 rfl (laws_heldStringS.c k _ Aa0_0 ca0_0 a0.Names (hS.rd' (i := 0) rfl) (hS.le' (i := 0) rfl) a1 _ ht2) ?_
  rintro _ w1 ⟨rfl, hs⟩
  replace hS := hS.grow hs
  refine OJ.pures tU_ok 1 rfl ?_
  refine OJ.nil (EJ.next ?_)
  refine CJ.seq ?_
  refine CJ.seq ?_
  refine CJ.region ?_
  refine OJ.pures tU_ok 2 rfl ?_
  refine OJ.nil (EJ.next ?_)
  refine CJ.cond rfl (fun hb => ?_) (fun hb => ?_)
  · replace H := pif_t (of_decide_eq_true hb) H
    refine CJ.seq ?_
    refine CJ.region ?_
    refine OJ.pures tU_ok 1 rfl ?_
    refine OJ.nil (EJ.next ?_)
    refine CJ.ret (EJ.skR (?_))
    obtain rfl := Option.some.inj H
    exact EJ.fin rfl (.tmp rfl .nil) ⟨rfl, hS.ext⟩
  · replace H := pif_f (of_decide_eq_false hb) H
    refine CJ.skip (EJ.next ?_)
    refine CJ.seq ?_
    refine CJ.region ?_
    refine OJ.st rfl rfl rfl (SR.fieldAddr tU_ok tI_ok rfl rfl rfl rfl rfl rfl) ?_
    refine OJ.st rfl rfl rfl (SR.load rfl rfl (fun w' hx => ld1 tU_ok rfl rfl (CA.ext (CA.sub (hS.cells (i := 0) rfl) 1) hx) rfl)) ?_
    refine OJ.pures tU_ok 1 rfl ?_
    obtain ⟨t3, ht3, H⟩ := pbind H
    refine OJ.callF rfl rfl rfl rfl rfl hb46 rfl (laws_heldInt16S.c k _ Aa0_1 ca0_1 a0.Eats (hS.rd' (i := 1) rfl) (hS.le' (i := 1) rfl) t2 _ ht3) ?_
    rintro _ w1 ⟨rfl, hs⟩
    replace hS := hS.grow hs
    refine OJ.pures tU_ok 1 rfl ?_
    refine OJ.nil (EJ.next ?_)
    refine CJ.seq ?_
    refine CJ.seq ?_
    refine CJ.region ?_
    refine OJ.pures tU_ok 2 rfl ?_
    refine OJ.nil (EJ.next ?_)
    refine CJ.cond rfl (fun hb => ?_) (fun hb => ?_)
    · replace H := pif_t (of_decide_eq_true hb) H
      refine CJ.seq ?_
      refine CJ.region ?_
      refine OJ.pures tU_ok 1 rfl ?_
      refine OJ.nil (EJ.next ?_)
      refine CJ.ret (EJ.skR (?_))
      obtain rfl := Option.some.inj H
      exact EJ.fin rfl (.tmp rfl .nil) ⟨rfl, hS.ext⟩
    · replace H := pif_f (of_decide_eq_false hb) H
      refine CJ.skip (EJ.next ?_)
      refine CJ.seq ?_
      refine CJ.region ?_
      refine OJ.st rfl rfl rfl (SR.fieldAddr tU_ok tI_ok rfl rfl rfl rfl rfl rfl) ?_
      refine OJ.st rfl rfl rfl (SR.load rfl rfl (fun w' hx => ld1 tU_ok rfl rfl (CA.ext (CA.sub (hS.cells (i := 0) rfl) 2) hx) rfl)) ?_
      refine OJ.pures tU_ok 1 rfl ?_
      obtain ⟨t4, ht4, H⟩ := pbind H
      refine OJ.callF rfl rfl rfl rfl rfl hb47 rfl (laws_heldUint16S.c k _ Aa0_2 ca0_2 a0.Foes (hS.rd' (i := 2) rfl) (hS.le' (i := 2) rfl) t3 _ ht4) ?_
      rintro _ w1 ⟨rfl, hs⟩
      replace hS := hS.grow hs
      refine OJ.pures tU_ok 1 rfl ?_
      refine OJ.nil (EJ.next ?_)
      refine CJ.seq ?_
      refine CJ.seq ?_
      refine CJ.region ?_
      refine OJ.pures tU_ok 2 rfl ?_
      refine OJ.nil (EJ.next ?_)
      refine CJ.cond rfl (fun hb => ?_) (fun hb => ?_)
      · replace H := pif_t (of_decide_eq_true hb) H
        refine CJ.seq ?_
        refine CJ.region ?_
        refine OJ.pures tU_ok 1 rfl ?_
        refine OJ.nil (EJ.next ?_)
        refine CJ.ret (EJ.skR (?_))
        obtain rfl := Option.some.inj H
        exact EJ.fin rfl (.tmp rfl .nil) ⟨rfl, hS.ext⟩
      · replace H := pif_f (of_decide_eq_false hb) H
        refine CJ.skip (EJ.next ?_)
        refine CJ.seq ?_
        refine CJ.region ?_
        refine OJ.pures tU_ok 2 rfl ?_
        refine OJ.nil (EJ.next ?_)
        refine CJ.ret (?_)
        obtain rfl := Option.some.inj H
        exact EJ.fin rfl (.tmp rfl .nil) ⟨rfl, hS.ext⟩

def laws_FnExactPickHerd.f (k : Nat) (a0 : Herd) (a1 : List Int) : Option Bool := if 1048576 < (a1.length : Int) then (some true) else ((laws_szHerd.f k a0 1048576).bind fun t2 => if t2 < 0 then (some true) else ((laws_toHerd.f k a0).bind fun t3 => (laws_toInt64S.f k a1).bind fun t10 => (spec_PickHerd.f k t3 t10).bind fun t13 => (laws_toHerd.f k a0).bind fun t21 => (laws_toInt64S.f k a1).bind fun t29 => (impl_PickHerd.f k t21 t29).bind fun t32 => ((laws_eqHerd.f k t32.1 t13.1).bind fun t41 => if (!t41) = true then (some true) else (some (decide (t32.2 ≠ t13.2)))).bind fun y40 => if y40 = true then (some false) else ((laws_toHerd.f k a0).bind fun t42 => (laws_eqHerd.f k t21 t42).bind fun t49 => if (!t49) = true then (some false) else ((laws_toInt64S.f k a1).bind fun t50 => (laws_eqInt64S.f k t29 t50).bind fun t53 => if (!t53) = true then (some false) else ((laws_markHerd.f k t21 1).bind fun t54 => (laws_markInt64S.f k t29 t54.1).bind fun t55 => (if t55.1 < 0 then (some true) else ((laws_eqHerd.f k t32.1 t13.1).bind fun t57 => if (!t57) = true then (some true) else (some (decide (t32.2 ≠ t13.2))))).bind fun y56 => if y56 = true then (some false) else ((laws_markHerd.f k t32.1 1).bind fun t58 => (laws_heldHerd.f k (⟨t58.2.1, t58.2.2.1, t58.2.2.2⟩ : Herd) 1).bind fun t59 => if t59 < 0 then (some false) else (if t59 ≠ t58.1 then (some false) else ((laws_toHerd.f k a0).bind fun t60 => (laws_toInt64S.f k a1).bind fun t67 => (impl_PickHerd.f k t60 t67).bind fun t70 => ((laws_eqHerd.f k t70.1 t13.1).bind fun t79 => if (!t79) = true then (some true) else (some (decide (t70.2 ≠ t13.2)))).bind fun y78 => if y78 = true then (some false) else ((laws_heldHerd.f k (⟨t58.2.1, t58.2.2.1, t58.2.2.2⟩ : Herd) 1).bind fun t80 => if t80 < 0 then (some false) else (if t80 ≠ t58.1 then (some false) else (some true)))))))))))
theorem laws_FnExactPickHerd.c (k : Nat) (w : World) (Aa0_0 : Option Addr) (ca0_0 : Nat) (Aa0_1 : Option Addr) (ca0_1 : Nat) (Aa0_2 : Option Addr) (ca0_2 : Nat) (a0 : Herd) (hr0_0 : Rd G.cs w Aa0_0 a0.Names) (hc0_0 : a0.Names.length ≤ ca0_0) (hr0_1 : Rd (ci .i16) w Aa0_1 a0.Eats) (hc0_1 : a0.Eats.length ≤ ca0_1) (hr0_2 : Rd (ci .u16) w Aa0_2 a0.Foes) (hc0_2 : a0.Foes.length ≤ ca0_2) (Aa1 : Option Addr) (ca1 : Nat) (a1 : List Int) (hr1 : Rd (ci .i64) w Aa1 a1) (hc1 : a1.length ≤ ca1) (r : Bool) (H : laws_FnExactPickHerd.f k a0 a1 = some r) :
    CV Tryd.prog 3 [.agg [.slice Aa0_0 a0.Names.length ca0_0, .slice Aa0_1 a0.Eats.length ca0_1, .slice Aa0_2 a0.Foes.length ca0_2].toArray, .slice Aa1 a1.length ca1].toArray w fun v w' => v = .bool r ∧ Ext w w' := by
  have hS := (((((St.init w no).param G.cs Aa0_0 ca0_0 a0.Names hr0_0 hc0_0).param (ci .i16) Aa0_1 ca0_1 a0.Eats hr0_1 hc0_1).param (ci .u16) Aa0_2 ca0_2 a0.Foes hr0_2 hc0_2).param (ci .i64) Aa1 ca1 a1 hr1 hc1)
  unfold laws_FnExactPickHerd.f at H
  refine CV.body Tryd.func3 rfl Tryd.ntmps3 rfl ?_
  refine CJ.seq ?_
  refine CJ.region ?_
  refine OJ.ef rfl rfl rfl (Ef.box hS rfl rfl ([.slice Aa0_0 a0.Names.length ca0_0, .slice Aa0_1 a0.Eats.length ca0_1, .slice Aa0_2 a0.Foes.length ca0_2]) rfl) ?_
  rintro _ w1 ⟨b1, rfl, hS⟩
  refine OJ.pures tU_ok 1 rfl ?_
  refine OJ.nil (EJ.next ?_)
  refine CJ.seq ?_
  refine CJ.seq ?_
  refine CJ.region ?_
  refine OJ.pures tU_ok 3 rfl ?_
  refine OJ.nil (EJ.next ?_)
  refine CJ.cond rfl (fun hb => ?_) (fun hb => ?_)
  · replace H := pif_t (of_decide_eq_true hb) H
    refine CJ.seq ?_
    refine CJ.region ?_
    refine OJ.pures tU_ok 1 rfl ?_
    refine OJ.nil (EJ.next ?_)
    refine CJ.ret (EJ.skR (?_))
    obtain rfl := Option.some.inj H
    exact EJ.fin rfl (.tmp rfl .nil) ⟨rfl, hS.ext⟩
  · replace H := pif_f (of_decide_eq_false hb) H
    refine CJ.skip (EJ.next ?_)
    refine CJ.seq ?_
    refine CJ.region ?_
    refine OJ.pures tU_ok 1 rfl ?_
    refine OJ.nil (EJ.next ?_)
    refine CJ.seq ?_
    refine CJ.region ?_
    refine OJ.st rfl rfl rfl (SR.load rfl rfl (fun w' hx => ldN tU_ok tI_ok rfl rfl rfl (CA.ext (hS.cells (i := 0) rfl) hx) (ds := [.slice Aa0_0 a0.Names.length ca0_0, .slice Aa0_1 a0.Eats.length ca0_1, .slice Aa0_2 a0.Foes.length ca0_2]) rfl rfl)) ?_
    refine OJ.pures tU_ok 1 rfl ?_
    obtain ⟨t2, ht2, H⟩ := pbind H
    refine OJ.callF rfl rfl rfl rfl rfl hb7 rfl (laws_szHerd.c k _ Aa0_0 ca0_0 Aa0_1 ca0_1 Aa0_2 ca0_2 a0 (hS.rd' (i := 0) rfl) (hS.le' (i := 0) rfl) (hS.rd' (i := 1) rfl) (hS.le' (i := 1) rfl) (hS.rd' (i := 2) rfl) (hS.le' (i := 2) rfl) 1048576 _ ht2) ?_
    rintro _ w1 ⟨rfl, hs⟩
    replace hS := hS.grow hs
    refine OJ.pures tU_ok 1 rfl ?_
    refine OJ.nil (EJ.next ?_)
    refine CJ.seq ?_
    refine CJ.seq ?_
    refine CJ.region ?_
    refine OJ.pures tU_ok 2 rfl ?_
    refine OJ.nil (EJ.next ?_)
    refine CJ.cond rfl (fun hb => ?_) (fun hb => ?_)
    · replace H := pif_t (of_decide_eq_true hb) H
      refine CJ.seq ?_
      refine CJ.region ?_
      refine OJ.pures tU_ok 1 rfl ?_
      refine OJ.nil (EJ.next ?_)
      refine CJ.ret (EJ.skR (?_))
      obtain rfl := Option.some.inj H
      exact EJ.fin rfl (.tmp rfl .nil) ⟨rfl, hS.ext⟩
    · replace H := pif_f (of_decide_eq_false hb) H
      refine CJ.skip (EJ.next ?_)
      refine CJ.seq ?_
      refine CJ.region ?_
      refine OJ.st rfl rfl rfl (SR.load rfl rfl (fun w' hx => ldN tU_ok tI_ok rfl rfl rfl (CA.ext (hS.cells (i := 0) rfl) hx) (ds := [.slice Aa0_0 a0.Names.length ca0_0, .slice Aa0_1 a0.Eats.length ca0_1, .slice Aa0_2 a0.Foes.length ca0_2]) rfl rfl)) ?_
      obtain ⟨t3, ht3, H⟩ := pbind H
      refine OJ.callF rfl rfl rfl rfl rfl hb9 rfl (laws_toHerd.c k _ Aa0_0 ca0_0 Aa0_1 ca0_1 Aa0_2 ca0_2 a0 (hS.rd' (i := 0) rfl) (hS.le' (i := 0) rfl) (hS.rd' (i := 1) rfl) (hS.le' (i := 1) rfl) (hS.rd' (i := 2) rfl) (hS.le' (i := 2) rfl) _ ht3) ?_
      rintro _ w1 ⟨A4, c5, A6, c7, A8, c9, rfl, hs⟩
      replace hS := hS.addN hs
      refine OJ.pures tU_ok 1 rfl ?_
      obtain ⟨t10, ht10, H⟩ := pbind H
      refine OJ.callF rfl rfl rfl rfl rfl hb10 rfl (laws_toInt64S.c k _ Aa1 ca1 a1 (hS.rd' (i := 3) rfl) (hS.le' (i := 3) rfl) _ ht10) ?_
      rintro _ w1 ⟨A11, c12, rfl, hs⟩
      replace hS := hS.addN hs
      obtain ⟨t13, ht13, H⟩ := pbind H
      refine OJ.callF rfl rfl rfl rfl rfl hb8 rfl (spec_PickHerd.c k _ A4 c5 A6 c7 A8 c9 t3 (hS.rd (i := 1) rfl) (hS.le (i := 1) rfl) (hS.rd (i := 2) rfl) (hS.le (i := 2) rfl) (hS.rd (i := 3) rfl) (hS.le (i := 3) rfl) A11 c12 t10 (hS.rd (i := 4) rfl) (hS.le (i := 4) rfl) _ ht13) ?_
      rintro _ w1 ⟨A14, c15, A16, c17, A18, c19, rfl, hs⟩
      replace hS := hS.addN hs
      have hS : St w no w1 [box b1 ([.slice Aa0_0 a0.Names.length ca0_0, .slice Aa0_1 a0.Eats.length ca0_1, .slice Aa0_2 a0.Foes.length ca0_2]) 26, rowC G.cs A4 c5 9 t3.Names, rowC (ci .i16) A6 c7 50 t3.Eats, rowC (ci .u16) A8 c9 51 t3.Foes, rowC (ci .i64) A11 c12 2 t10, rowC G.cs A14 c15 9 t13.1.Names, rowC (ci .i16) A16 c17 50 t13.1.Eats, rowC (ci .u16) A18 c19 51 t13.1.Foes] [roC G.cs Aa0_0 ca0_0 a0.Names, roC (ci .i16) Aa0_1 ca0_1 a0.Eats, roC (ci .u16) Aa0_2 ca0_2 a0.Foes, roC (ci .i64) Aa1 ca1 a1] := hS
      refine OJ.pures tU_ok 3 rfl ?_
      refine OJ.ef rfl rfl rfl (Ef.alloc hS tI_ok rfl rfl ([.slice none 0 0, .slice none 0 0, .slice none 0 0]) rfl) ?_
      rintro _ w1 ⟨b20, rfl, hS⟩
      refine OJ.es rfl rfl (Es.store tI_ok hS (i := 8) (vs := [.slice A14 t13.1.Names.length c15, .slice A16 t13.1.Eats.length c17, .slice A18 t13.1.Foes.length c19]) rfl rfl rfl rfl rfl rfl rfl rfl (by intro u hu; simp only [List.mem_cons, List.not_mem_nil, or_false] at hu; rcases hu with rfl | rfl | rfl <;> rfl) (Nat.le_of_ble_eq_true rfl) ([.slice A14 t13.1.Names.length c15, .slice A16 t13.1.Eats.length c17, .slice A18 t13.1.Foes.length c19]) rfl) ?_
      intro w1 hS
      refine OJ.pures tU_ok 1 rfl ?_
      refine OJ.nil (EJ.next ?_)
      refine CJ.seq ?_
      refine CJ.region ?_
      refine OJ.st rfl rfl rfl (SR.load rfl rfl (fun w' hx => ldN tU_ok tI_ok rfl rfl rfl (CA.ext (hS.cells (i := 0) rfl) hx) (ds := [.slice Aa0_0 a0.Names.length ca0_0, .slice Aa0_1 a0.Eats.length ca0_1, .slice Aa0_2 a0.Foes.length ca0_2]) rfl rfl)) ?_
      obtain ⟨t21, ht21, H⟩ := pbind H
      refine OJ.callF rfl rfl rfl rfl rfl hb9 rfl (laws_toHerd.c k _ Aa0_0 ca0_0 Aa0_1 ca0_1 Aa0_2 ca0_2 a0 (hS.rd' (i := 0) rfl) (hS.le' (i := 0) rfl) (hS.rd' (i := 1) rfl) (hS.le' (i := 1) rfl) (hS.rd' (i := 2) rfl) (hS.le' (i := 2) rfl) _ ht21) ?_
      rintro _ w1 ⟨A22, c23, A24, c25, A26, c27, rfl, hs⟩
      replace hS := hS.addN hs
      have hS : St w no w1 [box b1 ([.slice Aa0_0 a0.Names.length ca0_0, .slice Aa0_1 a0.Eats.length ca0_1, .slice Aa0_2 a0.Foes.length ca0_2]) 26, rowC G.cs A4 c5 9 t3.Names, rowC (ci .i16) A6 c7 50 t3.Eats, rowC (ci .u16) A8 c9 51 t3.Foes, rowC (ci .i64) A11 c12 2 t10, rowC G.cs A14 c15 9 t13.1.Names, rowC (ci .i16) A16 c17 50 t13.1.Eats, rowC (ci .u16) A18 c19 51 t13.1.Foes, box b20 ([.slice A14 t13.1.Names.length c15, .slice A16 t13.1.Eats.length c17, .slice A18 t13.1.Foes.length c19]) 29, rowC G.cs A22 c23 9 t21.Names, rowC (ci .i16) A24 c25 50 t21.Eats, rowC (ci .u16) A26 c27 51 t21.Foes] [roC G.cs Aa0_0 ca0_0 a0.Names, roC (ci .i16) Aa0_1 ca0_1 a0.Eats, roC (ci .u16) Aa0_2 ca0_2 a0.Foes, roC (ci .i64) Aa1 ca1 a1] := hS
      refine OJ.ef rfl rfl rfl (Ef.alloc hS tI_ok rfl rfl ([.slice none 0 0, .slice none 0 0, .slice none 0 0]) rfl) ?_
      rintro _ w1 ⟨b28, rfl, hS⟩
      refine OJ.es rfl rfl (Es.store tI_ok hS (i := 12) (vs := [.slice A22 t21.Names.length c23, .slice A24 t21.Eats.length c25, .slice A26 t21.Foes.length c27]) rfl rfl rfl rfl rfl rfl rfl rfl (by intro u hu; simp only [List.mem_cons, List.not_mem_nil, or_false] at hu; rcases hu with rfl | rfl | rfl <;> rfl) (Nat.le_of_ble_eq_true rfl) ([.slice A22 t21.Names.length c23, .slice A24 t21.Eats.length c25, .slice A26 t21.Foes.length c27]) rfl) ?_
      intro w1 hS
      refine OJ.nil (EJ.next ?_)
      refine CJ.seq ?_
      refine CJ.region ?_
      refine OJ.pures tU_ok 1 rfl ?_
      obtain ⟨t29, ht29, H⟩ := pbind H
      refine OJ.callF rfl rfl rfl rfl rfl hb10 rfl (laws_toInt64S.c k _ Aa1 ca1 a1 (hS.rd' (i := 3) rfl) (hS.le' (i := 3) rfl) _ ht29) ?_
      rintro _ w1 ⟨A30, c31, rfl, hs⟩
      replace hS := hS.addN hs
      have hS : St w no w1 [box b1 ([.slice Aa0_0 a0.Names.length ca0_0, .slice Aa0_1 a0.Eats.length ca0_1, .slice Aa0_2 a0.Foes.length ca0_2]) 26, rowC G.cs A4 c5 9 t3.Names, rowC (ci .i16) A6 c7 50 t3.Eats, rowC (ci .u16) A8 c9 51 t3.Foes, rowC (ci .i64) A11 c12 2 t10, rowC G.cs A14 c15 9 t13.1.Names, rowC (ci .i16) A16 c17 50 t13.1.Eats, rowC (ci .u16) A18 c19 51 t13.1.Foes, box b20 ([.slice A14 t13.1.Names.length c15, .slice A16 t13.1.Eats.length c17, .slice A18 t13.1.Foes.length c19]) 29, rowC G.cs A22 c23 9 t21.Names, rowC (ci .i16) A24 c25 50 t21.Eats, rowC (ci .u16) A26 c27 51 t21.Foes, box b28 ([.slice A22 t21.Names.length c23, .slice A24 t21.Eats.length c25, .slice A26 t21.Foes.length c27]) 29, rowC (ci .i64) A30 c31 2 t29] [roC G.cs Aa0_0 ca0_0 a0.Names, roC (ci .i16) Aa0_1 ca0_1 a0.Eats, roC (ci .u16) Aa0_2 ca0_2 a0.Foes, roC (ci .i64) Aa1 ca1 a1] := hS
      refine OJ.pures tU_ok 1 rfl ?_
      refine OJ.nil (EJ.next ?_)
      refine CJ.seq ?_
      refine CJ.region ?_
      refine OJ.st rfl rfl rfl (SR.load rfl rfl (fun w' hx => ldN tU_ok tI_ok rfl rfl rfl (CA.ext (hS.cells (i := 12) rfl) hx) (ds := [.slice A22 t21.Names.length c23, .slice A24 t21.Eats.length c25, .slice A26 t21.Foes.length c27]) rfl rfl)) ?_
      refine OJ.pures tU_ok 1 rfl ?_
      obtain ⟨t32, ht32, H⟩ := pbind H
      refine OJ.callF rfl rfl rfl rfl rfl hb11 rfl (impl_PickHerd.c k _ A22 c23 A24 c25 A26 c27 t21 (hS.rd (i := 9) rfl) (hS.le (i := 9) rfl) (hS.rd (i := 10) rfl) (hS.le (i := 10) rfl) (hS.rd (i := 11) rfl) (hS.le (i := 11) rfl) A30 c31 t29 (hS.rd (i := 13) rfl) (hS.le (i := 13) rfl) _ ht32) ?_
      rintro _ w1 ⟨A33, c34, A35, c36, A37, c38, rfl, hs⟩
      replace hS := hS.addN hs
      have hS : St w no w1 [box b1 ([.slice Aa0_0 a0.Names.length ca0_0, .slice Aa0_1 a0.Eats.length ca0_1, .slice Aa0_2 a0.Foes.length ca0_2]) 26, rowC G.cs A4 c5 9 t3.Names, rowC (ci .i16) A6 c7 50 t3.Eats, rowC (ci .u16) A8 c9 51 t3.Foes, rowC (ci .i64) A11 c12 2 t10, rowC G.cs A14 c15 9 t13.1.Names, rowC (ci .i16) A16 c17 50 t13.1.Eats, rowC (ci .u16) A18 c19 51 t13.1.Foes, box b20 ([.slice A14 t13.1.Names.length c15, .slice A16 t13.1.Eats.length c17, .slice A18 t13.1.Foes.length c19]) 29, rowC G.cs A22 c23 9 t21.Names, rowC (ci .i16) A24 c25 50 t21.Eats, rowC (ci .u16) A26 c27 51 t21.Foes, box b28 ([.slice A22 t21.Names.length c23, .slice A24 t21.Eats.length c25, .slice A26 t21.Foes.length c27]) 29, rowC (ci .i64) A30 c31 2 t29, rowC G.cs A33 c34 9 t32.1.Names, rowC (ci .i16) A35 c36 50 t32.1.Eats, rowC (ci .u16) A37 c38 51 t32.1.Foes] [roC G.cs Aa0_0 ca0_0 a0.Names, roC (ci .i16) Aa0_1 ca0_1 a0.Eats, roC (ci .u16) Aa0_2 ca0_2 a0.Foes, roC (ci .i64) Aa1 ca1 a1] := hS
      refine OJ.pures tU_ok 3 rfl ?_
      refine OJ.ef rfl rfl rfl (Ef.alloc hS tI_ok rfl rfl ([.slice none 0 0, .slice none 0 0, .slice none 0 0]) rfl) ?_
      rintro _ w1 ⟨b39, rfl, hS⟩
      refine OJ.es rfl rfl (Es.store tI_ok hS (i := 17) (vs := [.slice A33 t32.1.Names.length c34, .slice A35 t32.1.Eats.length c36, .slice A37 t32.1.Foes.length c38]) rfl rfl rfl rfl rfl rfl rfl rfl (by intro u hu; simp only [List.mem_cons, List.not_mem_nil, or_false] at hu; rcases hu with rfl | rfl | rfl <;> rfl) (Nat.le_of_ble_eq_true rfl) ([.slice A33 t32.1.Names.length c34, .slice A35 t32.1.Eats.length c36, .slice A37 t32.1.Foes.length c38]) rfl) ?_
      intro w1 hS
      refine OJ.pures tU_ok 1 rfl ?_
      refine OJ.nil (EJ.next ?_)
      refine CJ.seq ?_
      obtain ⟨j88, H, K88⟩ := pbind H
      refine CJ.cut (fun F w1 => ∃ (y40 : Bool) , (some y40 : Option Bool) = some j88 ∧ F = [(1, .slice Aa1 a1.length ca1), (2, .pointer (some ⟨b1, 0, none⟩)), (6, .pointer (some ⟨b20, 0, none⟩)), (7, .int .i64 t13.2), (8, .pointer (some ⟨b28, 0, none⟩)), (9, .slice A30 t29.length c31), (10, .pointer (some ⟨b39, 0, none⟩)), (11, .int .i64 t32.2), (51, .bool y40)] ∧ St w no w1 [box b1 ([.slice Aa0_0 a0.Names.length ca0_0, .slice Aa0_1 a0.Eats.length ca0_1, .slice Aa0_2 a0.Foes.length ca0_2]) 26, rowC G.cs A14 c15 9 t13.1.Names, rowC (ci .i16) A16 c17 50 t13.1.Eats, rowC (ci .u16) A18 c19 51 t13.1.Foes, box b20 ([.slice A14 t13.1.Names.length c15, .slice A16 t13.1.Eats.length c17, .slice A18 t13.1.Foes.length c19]) 29, rowC G.cs A22 c23 9 t21.Names, rowC (ci .i16) A24 c25 50 t21.Eats, rowC (ci .u16) A26 c27 51 t21.Foes, box b28 ([.slice A22 t21.Names.length c23, .slice A24 t21.Eats.length c25, .slice A26 t21.Foes.length c27]) 29, rowC (ci .i64) A30 c31 2 t29, rowC G.cs A33 c34 9 t32.1.Names, rowC (ci .i16) A35 c36 50 t32.1.Eats, rowC (ci .u16) A37 c38 51 t32.1.Foes, box b39 ([.slice A33 t32.1.Names.length c34, .slice A35 t32.1.Eats.length c36, .slice A37 t32.1.Foes.length c38]) 29] [roC G.cs Aa0_0 ca0_0 a0.Names, roC (ci .i16) Aa0_1 ca0_1 a0.Eats, roC (ci .u16) Aa0_2 ca0_2 a0.Foes, roC (ci .i64) Aa1 ca1 a1]) ?_ ?_
      · skip
        refine CJ.region ?_
        refine OJ.st rfl rfl rfl (SR.load rfl rfl (fun w' hx => ldN tU_ok tI_ok rfl rfl rfl (CA.ext (hS.cells (i := 17) rfl) hx) (ds := [.slice A33 t32.1.Names.length c34, .slice A35 t32.1.Eats.length c36, .slice A37 t32.1.Foes.length c38]) rfl rfl)) ?_
        refine OJ.st rfl rfl rfl (SR.load rfl rfl (fun w' hx => ldN tU_ok tI_ok rfl rfl rfl (CA.ext (hS.cells (i := 8) rfl) hx) (ds := [.slice A14 t13.1.Names.length c15, .slice A16 t13.1.Eats.length c17, .slice A18 t13.1.Foes.length c19]) rfl rfl)) ?_
        obtain ⟨t41, ht41, H⟩ := pbind H
        refine OJ.callF rfl rfl rfl rfl rfl hb12 rfl (laws_eqHerd.c k _ A33 c34 A35 c36 A37 c38 t32.1 (hS.rd (i := 14) rfl) (hS.le (i := 14) rfl) (hS.rd (i := 15) rfl) (hS.le (i := 15) rfl) (hS.rd (i := 16) rfl) (hS.le (i := 16) rfl) A14 c15 A16 c17 A18 c19 t13.1 (hS.rd (i := 5) rfl) (hS.le (i := 5) rfl) (hS.rd (i := 6) rfl) (hS.le (i := 6) rfl) (hS.rd (i := 7) rfl) (hS.le (i := 7) rfl) _ ht41) ?_
        rintro _ w1 ⟨rfl, hs⟩
        replace hS := hS.grow hs
        refine OJ.pures tU_ok 2 rfl ?_
        refine OJ.split (t := 47) rfl (fun hb => ?_) (fun hb => ?_)
        · replace H := pif_t hb H
          refine OJ.pures tU_ok 4 rfl ?_
          refine OJ.nil ?_
          exact EJ.meet (F' := [(1, .slice Aa1 a1.length ca1), (2, .pointer (some ⟨b1, 0, none⟩)), (6, .pointer (some ⟨b20, 0, none⟩)), (7, .int .i64 t13.2), (8, .pointer (some ⟨b28, 0, none⟩)), (9, .slice A30 t29.length c31), (10, .pointer (some ⟨b39, 0, none⟩)), (11, .int .i64 t32.2), (51, .bool true)]) ⟨rfl, rfl, rfl, rfl, rfl, rfl, rfl, rfl, rfl, trivial⟩ ⟨true, H, rfl, hS.pick [0, 5, 6, 7, 8, 9, 10, 11, 12, 13, 14, 15, 16, 17] [0, 1, 2, 3] rfl⟩
        · replace H := pifb_f hb H
          refine OJ.pures tU_ok 4 rfl ?_
          refine OJ.nil ?_
          exact EJ.meet (F' := [(1, .slice Aa1 a1.length ca1), (2, .pointer (some ⟨b1, 0, none⟩)), (6, .pointer (some ⟨b20, 0, none⟩)), (7, .int .i64 t13.2), (8, .pointer (some ⟨b28, 0, none⟩)), (9, .slice A30 t29.length c31), (10, .pointer (some ⟨b39, 0, none⟩)), (11, .int .i64 t32.2), (51, .bool (decide (t32.2 ≠ t13.2)))]) ⟨rfl, rfl, rfl, rfl, rfl, rfl, rfl, rfl, rfl, trivial⟩ ⟨(decide (t32.2 ≠ t13.2)), H, rfl, hS.pick [0, 5, 6, 7, 8, 9, 10, 11, 12, 13, 14, 15, 16, 17] [0, 1, 2, 3] rfl⟩
      · rintro F w1 ⟨y40, he, rfl, hS⟩
        obtain rfl := Option.some.inj he
        have H := K88
        refine CJ.cond rfl (fun hb => ?_) (fun hb => ?_)
        · replace H := pif_t hb H
          refine CJ.seq ?_
          refine CJ.region ?_
          refine OJ.pures tU_ok 1 rfl ?_
          refine OJ.nil (EJ.next ?_)
          refine CJ.ret (EJ.skR (?_))
          obtain rfl := Option.some.inj H
          exact EJ.fin rfl (.tmp rfl .nil) ⟨rfl, hS.ext⟩
        · replace H := pifb_f hb H
          refine CJ.skip (EJ.next ?_)
          refine CJ.seq ?_
          refine CJ.seq ?_
          refine CJ.draw [] [0, 1, 2, 3, 4] mixed (by kernel_rfl) hS fun w1 hS => ?_
          refine DJ.st rfl rfl rfl rfl rfl (SR.load rfl rfl (fun w' hx => ldN tU_ok tI_ok rfl rfl rfl (CA.ext (hS.cells (i := 8) rfl) hx) (ds := [.slice A22 t21.Names.length c23, .slice A24 t21.Eats.length c25, .slice A26 t21.Foes.length c27]) rfl rfl)) ?_
          refine DJ.st rfl rfl rfl rfl rfl (SR.load rfl rfl (fun w' hx => ldN tU_ok tI_ok rfl rfl rfl (CA.ext (hS.cells (i := 0) rfl) hx) (ds := [.slice Aa0_0 a0.Names.length ca0_0, .slice Aa0_1 a0.Eats.length ca0_1, .slice Aa0_2 a0.Foes.length ca0_2]) rfl rfl)) ?_
          obtain ⟨t42, ht42, H⟩ := pbind H
          refine DJ.callF rfl rfl rfl rfl rfl rfl rfl hb9 rfl (laws_toHerd.c k _ Aa0_0 ca0_0 Aa0_1 ca0_1 Aa0_2 ca0_2 a0 (hS.rd' (i := 0) rfl) (hS.le' (i := 0) rfl) (hS.rd' (i := 1) rfl) (hS.le' (i := 1) rfl) (hS.rd' (i := 2) rfl) (hS.le' (i := 2) rfl) _ ht42) (by rintro v w' ⟨A43, c44, A45, c46, A47, c48, rfl, hs⟩; exact hs.ext) ?_
          rintro _ w1 ⟨A43, c44, A45, c46, A47, c48, rfl, hs⟩
          replace hS := hS.addN hs
          have hS : St w no w1 [box b1 ([.slice Aa0_0 a0.Names.length ca0_0, .slice Aa0_1 a0.Eats.length ca0_1, .slice Aa0_2 a0.Foes.length ca0_2]) 26, rowC G.cs A14 c15 9 t13.1.Names, rowC (ci .i16) A16 c17 50 t13.1.Eats, rowC (ci .u16) A18 c19 51 t13.1.Foes, box b20 ([.slice A14 t13.1.Names.length c15, .slice A16 t13.1.Eats.length c17, .slice A18 t13.1.Foes.length c19]) 29, rowC G.cs A22 c23 9 t21.Names, rowC (ci .i16) A24 c25 50 t21.Eats, rowC (ci .u16) A26 c27 51 t21.Foes, box b28 ([.slice A22 t21.Names.length c23, .slice A24 t21.Eats.length c25, .slice A26 t21.Foes.length c27]) 29, rowC (ci .i64) A30 c31 2 t29, rowC G.cs A33 c34 9 t32.1.Names, rowC (ci .i16) A35 c36 50 t32.1.Eats, rowC (ci .u16) A37 c38 51 t32.1.Foes, box b39 ([.slice A33 t32.1.Names.length c34, .slice A35 t32.1.Eats.length c36, .slice A37 t32.1.Foes.length c38]) 29, rowC G.cs A43 c44 9 t42.Names, rowC (ci .i16) A45 c46 50 t42.Eats, rowC (ci .u16) A47 c48 51 t42.Foes] [roC G.cs Aa0_0 ca0_0 a0.Names, roC (ci .i16) Aa0_1 ca0_1 a0.Eats, roC (ci .u16) Aa0_2 ca0_2 a0.Foes, roC (ci .i64) Aa1 ca1 a1] := hS
          obtain ⟨t49, ht49, H⟩ := pbind H
          refine DJ.callF rfl rfl rfl rfl rfl rfl rfl hb12 rfl (laws_eqHerd.c k _ A22 c23 A24 c25 A26 c27 t21 (hS.rd (i := 5) rfl) (hS.le (i := 5) rfl) (hS.rd (i := 6) rfl) (hS.le (i := 6) rfl) (hS.rd (i := 7) rfl) (hS.le (i := 7) rfl) A43 c44 A45 c46 A47 c48 t42 (hS.rd (i := 14) rfl) (hS.le (i := 14) rfl) (hS.rd (i := 15) rfl) (hS.le (i := 15) rfl) (hS.rd (i := 16) rfl) (hS.le (i := 16) rfl) _ ht49) (by rintro v w' ⟨rfl, hs⟩; exact hs) ?_
          rintro _ w1 ⟨rfl, hs⟩
          replace hS := hS.grow hs
          refine DJ.pures tU_ok 1 rfl ?_
          refine DJ.nil (EJ.next ?_)
          refine CJ.cond rfl (fun hb => ?_) (fun hb => ?_)
          · replace H := pif_t hb H
            refine CJ.seq ?_
            refine CJ.region ?_
            refine OJ.pures tU_ok 1 rfl ?_
            refine OJ.nil (EJ.next ?_)
            refine CJ.ret (EJ.skR (?_))
            obtain rfl := Option.some.inj H
            exact EJ.fin rfl (.tmp rfl .nil) ⟨rfl, hS.ext⟩
          · replace H := pifb_f hb H
            refine CJ.skip (EJ.next ?_)
            refine CJ.seq ?_
            refine CJ.seq ?_
            refine CJ.region ?_
            refine OJ.pures tU_ok 2 rfl ?_
            obtain ⟨t50, ht50, H⟩ := pbind H
            refine OJ.callF rfl rfl rfl rfl rfl hb10 rfl (laws_toInt64S.c k _ Aa1 ca1 a1 (hS.rd' (i := 3) rfl) (hS.le' (i := 3) rfl) _ ht50) ?_
            rintro _ w1 ⟨A51, c52, rfl, hs⟩
            replace hS := hS.addN hs
            have hS : St w no w1 [box b1 ([.slice Aa0_0 a0.Names.length ca0_0, .slice Aa0_1 a0.Eats.length ca0_1, .slice Aa0_2 a0.Foes.length ca0_2]) 26, rowC G.cs A14 c15 9 t13.1.Names, rowC (ci .i16) A16 c17 50 t13.1.Eats, rowC (ci .u16) A18 c19 51 t13.1.Foes, box b20 ([.slice A14 t13.1.Names.length c15, .slice A16 t13.1.Eats.length c17, .slice A18 t13.1.Foes.length c19]) 29, rowC G.cs A22 c23 9 t21.Names, rowC (ci .i16) A24 c25 50 t21.Eats, rowC (ci .u16) A26 c27 51 t21.Foes, box b28 ([.slice A22 t21.Names.length c23, .slice A24 t21.Eats.length c25, .slice A26 t21.Foes.length c27]) 29, rowC (ci .i64) A30 c31 2 t29, rowC G.cs A33 c34 9 t32.1.Names, rowC (ci .i16) A35 c36 50 t32.1.Eats, rowC (ci .u16) A37 c38 51 t32.1.Foes, box b39 ([.slice A33 t32.1.Names.length c34, .slice A35 t32.1.Eats.length c36, .slice A37 t32.1.Foes.length c38]) 29, rowC G.cs A43 c44 9 t42.Names, rowC (ci .i16) A45 c46 50 t42.Eats, rowC (ci .u16) A47 c48 51 t42.Foes, rowC (ci .i64) A51 c52 2 t50] [roC G.cs Aa0_0 ca0_0 a0.Names, roC (ci .i16) Aa0_1 ca0_1 a0.Eats, roC (ci .u16) Aa0_2 ca0_2 a0.Foes, roC (ci .i64) Aa1 ca1 a1] := hS
            obtain ⟨t53, ht53, H⟩ := pbind H
            refine OJ.callF rfl rfl rfl rfl rfl hb13 rfl (laws_eqInt64S.c k _ A30 c31 t29 (hS.rd (i := 9) rfl) (hS.le (i := 9) rfl) A51 c52 t50 (hS.rd (i := 17) rfl) (hS.le (i := 17) rfl) _ ht53) ?_
            rintro _ w1 ⟨rfl, hs⟩
            replace hS := hS.grow hs
            refine OJ.pures tU_ok 1 rfl ?_
            refine OJ.nil (EJ.next ?_)
            refine CJ.cond rfl (fun hb => ?_) (fun hb => ?_)
            · replace H := pif_t hb H
              refine CJ.seq ?_
              refine CJ.region ?_
              refine OJ.pures tU_ok 1 rfl ?_
              refine OJ.nil (EJ.next ?_)
              refine CJ.ret (EJ.skR (?_))
              obtain rfl := Option.some.inj H
              exact EJ.fin rfl (.tmp rfl .nil) ⟨rfl, hS.ext⟩
            · replace H := pifb_f hb H
              refine CJ.skip (EJ.next ?_)
              refine CJ.seq ?_
              refine CJ.region ?_
              refine OJ.pures tU_ok 1 rfl ?_
              refine OJ.nil (EJ.next ?_)
              refine CJ.seq ?_
              refine CJ.region ?_
              refine OJ.st rfl rfl rfl (SR.load rfl rfl (fun w' hx => ldN tU_ok tI_ok rfl rfl rfl (CA.ext (hS.cells (i := 8) rfl) hx) (ds := [.slice A22 t21.Names.length c23, .slice A24 t21.Eats.length c25, .slice A26 t21.Foes.length c27]) rfl rfl)) ?_
              refine OJ.pures tU_ok 1 rfl ?_
              obtain ⟨t54, ht54, H⟩ := pbind H
              refine OJ.callF rfl rfl rfl rfl rfl hb14 rfl (laws_markHerd.c k _ A22 c23 A24 c25 A26 c27 t21 1 ((hS.subs [5, 6, 7] [] [] rfl).pick [0, 1, 2] [] rfl) _ ht54) ?_
              rintro _ w1 ⟨rfl, hs, hlc0, hlc1, hlc2⟩
              replace hS := hS.back [5, 6, 7] rfl rfl [rowC G.cs A22 c23 9 t54.2.1, rowC (ci .i16) A24 c25 50 t54.2.2.1, rowC (ci .u16) A26 c27 51 t54.2.2.2] [] hs ⟨fun _ => Iff.rfl, fun _ => Iff.rfl, fun _ => Iff.rfl, trivial⟩
              have hS : St w no w1 [box b1 ([.slice Aa0_0 a0.Names.length ca0_0, .slice Aa0_1 a0.Eats.length ca0_1, .slice Aa0_2 a0.Foes.length ca0_2]) 26, rowC G.cs A14 c15 9 t13.1.Names, rowC (ci .i16) A16 c17 50 t13.1.Eats, rowC (ci .u16) A18 c19 51 t13.1.Foes, box b20 ([.slice A14 t13.1.Names.length c15, .slice A16 t13.1.Eats.length c17, .slice A18 t13.1.Foes.length c19]) 29, rowC G.cs A22 c23 9 t54.2.1, rowC (ci .i16) A24 c25 50 t54.2.2.1, rowC (ci .u16) A26 c27 51 t54.2.2.2, box b28 ([.slice A22 t21.Names.length c23, .slice A24 t21.Eats.length c25, .slice A26 t21.Foes.length c27]) 29, rowC (ci .i64) A30 c31 2 t29, rowC G.cs A33 c34 9 t32.1.Names, rowC (ci .i16) A35 c36 50 t32.1.Eats, rowC (ci .u16) A37 c38 51 t32.1.Foes, box b39 ([.slice A33 t32.1.Names.length c34, .slice A35 t32.1.Eats.length c36, .slice A37 t32.1.Foes.length c38]) 29, rowC G.cs A43 c44 9 t42.Names, rowC (ci .i16) A45 c46 50 t42.Eats, rowC (ci .u16) A47 c48 51 t42.Foes, rowC (ci .i64) A51 c52 2 t50] [roC G.cs Aa0_0 ca0_0 a0.Names, roC (ci .i16) Aa0_1 ca0_1 a0.Eats, roC (ci .u16) Aa0_2 ca0_2 a0.Foes, roC (ci .i64) Aa1 ca1 a1] := hS
              refine OJ.as (t := 52) rfl (show _ = (.agg [.slice A22 t54.2.1.length c23, .slice A24 t21.Eats.length c25, .slice A26 t21.Foes.length c27].toArray : Value) by simp only [hlc0]) ?_
              refine OJ.as (t := 62) rfl (show _ = (.agg [.slice A22 t54.2.1.length c23, .slice A24 t21.Eats.length c25, .slice A26 t21.Foes.length c27].toArray : Value) by simp only [hlc0]) ?_
              replace hS := hS.boxAs (i := 8) rfl (show _ = ([.slice A22 t54.2.1.length c23, .slice A24 t21.Eats.length c25, .slice A26 t21.Foes.length c27] : List Value) by simp only [hlc0])
              refine OJ.as (t := 52) rfl (show _ = (.agg [.slice A22 t54.2.1.length c23, .slice A24 t54.2.2.1.length c25, .slice A26 t21.Foes.length c27].toArray : Value) by simp only [hlc1]) ?_
              refine OJ.as (t := 62) rfl (show _ = (.agg [.slice A22 t54.2.1.length c23, .slice A24 t54.2.2.1.length c25, .slice A26 t21.Foes.length c27].toArray : Value) by simp only [hlc1]) ?_
              replace hS := hS.boxAs (i := 8) rfl (show _ = ([.slice A22 t54.2.1.length c23, .slice A24 t54.2.2.1.length c25, .slice A26 t21.Foes.length c27] : List Value) by simp only [hlc1])
              refine OJ.as (t := 52) rfl (show _ = (.agg [.slice A22 t54.2.1.length c23, .slice A24 t54.2.2.1.length c25, .slice A26 t54.2.2.2.length c27].toArray : Value) by simp only [hlc2]) ?_
              refine OJ.as (t := 62) rfl (show _ = (.agg [.slice A22 t54.2.1.length c23, .slice A24 t54.2.2.1.length c25, .slice A26 t54.2.2.2.length c27].toArray : Value) by simp only [hlc2]) ?_
              replace hS := hS.boxAs (i := 8) rfl (show _ = ([.slice A22 t54.2.1.length c23, .slice A24 t54.2.2.1.length c25, .slice A26 t54.2.2.2.length c27] : List Value) by simp only [hlc2])
              have hS : St w no w1 [box b1 ([.slice Aa0_0 a0.Names.length ca0_0, .slice Aa0_1 a0.Eats.length ca0_1, .slice Aa0_2 a0.Foes.length ca0_2]) 26, rowC G.cs A14 c15 9 t13.1.Names, rowC (ci .i16) A16 c17 50 t13.1.Eats, rowC (ci .u16) A18 c19 51 t13.1.Foes, box b20 ([.slice A14 t13.1.Names.length c15, .slice A16 t13.1.Eats.length c17, .slice A18 t13.1.Foes.length c19]) 29, rowC G.cs A22 c23 9 t54.2.1, rowC (ci .i16) A24 c25 50 t54.2.2.1, rowC (ci .u16) A26 c27 51 t54.2.2.2, box b28 ([.slice A22 t54.2.1.length c23, .slice A24 t54.2.2.1.length c25, .slice A26 t54.2.2.2.length c27]) 29, rowC (ci .i64) A30 c31 2 t29, rowC G.cs A33 c34 9 t32.1.Names, rowC (ci .i16) A35 c36 50 t32.1.Eats, rowC (ci .u16) A37 c38 51 t32.1.Foes, box b39 ([.slice A33 t32.1.Names.length c34, .slice A35 t32.1.Eats.length c36, .slice A37 t32.1.Foes.length c38]) 29, rowC G.cs A43 c44 9 t42.Names, rowC (ci .i16) A45 c46 50 t42.Eats, rowC (ci .u16) A47 c48 51 t42.Foes, rowC (ci .i64) A51 c52 2 t50] [roC G.cs Aa0_0 ca0_0 a0.Names, roC (ci .i16) Aa0_1 ca0_1 a0.Eats, roC (ci .u16) Aa0_2 ca0_2 a0.Foes, roC (ci .i64) Aa1 ca1 a1] := hS
              refine OJ.pures tU_ok 1 rfl ?_
              refine OJ.nil (EJ.next ?_)
              refine CJ.seq ?_
              refine CJ.region ?_
              refine OJ.pures tU_ok 2 rfl ?_
              obtain ⟨t55, ht55, H⟩ := pbind H
              refine OJ.callF rfl rfl rfl rfl rfl hb15 rfl (laws_markInt64S.c k _ A30 c31 t29 t54.1 ((hS.subs [9] [] [] rfl).pick [0] [] rfl) _ ht55) ?_
              rintro _ w1 ⟨rfl, hs, hlc0⟩
              replace hS := hS.back [9] rfl rfl [rowC (ci .i64) A30 c31 2 t55.2] [] hs ⟨fun _ => Iff.rfl, trivial⟩
              have hS : St w no w1 [box b1 ([.slice Aa0_0 a0.Names.length ca0_0, .slice Aa0_1 a0.Eats.length ca0_1, .slice Aa0_2 a0.Foes.length ca0_2]) 26, rowC G.cs A14 c15 9 t13.1.Names, rowC (ci .i16) A16 c17 50 t13.1.Eats, rowC (ci .u16) A18 c19 51 t13.1.Foes, box b20 ([.slice A14 t13.1.Names.length c15, .slice A16 t13.1.Eats.length c17, .slice A18 t13.1.Foes.length c19]) 29, rowC G.cs A22 c23 9 t54.2.1, rowC (ci .i16) A24 c25 50 t54.2.2.1, rowC (ci .u16) A26 c27 51 t54.2.2.2, box b28 ([.slice A22 t54.2.1.length c23, .slice A24 t54.2.2.1.length c25, .slice A26 t54.2.2.2.length c27]) 29, rowC (ci .i64) A30 c31 2 t55.2, rowC G.cs A33 c34 9 t32.1.Names, rowC (ci .i16) A35 c36 50 t32.1.Eats, rowC (ci .u16) A37 c38 51 t32.1.Foes, box b39 ([.slice A33 t32.1.Names.length c34, .slice A35 t32.1.Eats.length c36, .slice A37 t32.1.Foes.length c38]) 29, rowC G.cs A43 c44 9 t42.Names, rowC (ci .i16) A45 c46 50 t42.Eats, rowC (ci .u16) A47 c48 51 t42.Foes, rowC (ci .i64) A51 c52 2 t50] [roC G.cs Aa0_0 ca0_0 a0.Names, roC (ci .i16) Aa0_1 ca0_1 a0.Eats, roC (ci .u16) Aa0_2 ca0_2 a0.Foes, roC (ci .i64) Aa1 ca1 a1] := hS
              refine OJ.as (t := 9) rfl (show _ = (.slice A30 t55.2.length c31 : Value) by simp only [hlc0]) ?_
              refine OJ.as (t := 57) rfl (show _ = (.slice A30 t55.2.length c31 : Value) by simp only [hlc0]) ?_
              refine OJ.as (t := 65) rfl (show _ = (.slice A30 t55.2.length c31 : Value) by simp only [hlc0]) ?_
              have hS : St w no w1 [box b1 ([.slice Aa0_0 a0.Names.length ca0_0, .slice Aa0_1 a0.Eats.length ca0_1, .slice Aa0_2 a0.Foes.length ca0_2]) 26, rowC G.cs A14 c15 9 t13.1.Names, rowC (ci .i16) A16 c17 50 t13.1.Eats, rowC (ci .u16) A18 c19 51 t13.1.Foes, box b20 ([.slice A14 t13.1.Names.length c15, .slice A16 t13.1.Eats.length c17, .slice A18 t13.1.Foes.length c19]) 29, rowC G.cs A22 c23 9 t54.2.1, rowC (ci .i16) A24 c25 50 t54.2.2.1, rowC (ci .u16) A26 c27 51 t54.2.2.2, box b28 ([.slice A22 t54.2.1.length c23, .slice A24 t54.2.2.1.length c25, .slice A26 t54.2.2.2.length c27]) 29, rowC (ci .i64) A30 c31 2 t55.2, rowC G.cs A33 c34 9 t32.1.Names, rowC (ci .i16) A35 c36 50 t32.1.Eats, rowC (ci .u16) A37 c38 51 t32.1.Foes, box b39 ([.slice A33 t32.1.Names.length c34, .slice A35 t32.1.Eats.length c36, .slice A37 t32.1.Foes.length c38]) 29, rowC G.cs A43 c44 9 t42.Names, rowC (ci .i16) A45 c46 50 t42.Eats, rowC (ci .u16) A47 c48 51 t42.Foes, rowC (ci .i64) A51 c52 2 t50] [roC G.cs Aa0_0 ca0_0 a0.Names, roC (ci .i16) Aa0_1 ca0_1 a0.Eats, roC (ci .u16) Aa0_2 ca0_2 a0.Foes, roC (ci .i64) Aa1 ca1 a1] := hS
              refine OJ.pures tU_ok 1 rfl ?_
              refine OJ.nil (EJ.next ?_)
              refine CJ.seq ?_
              obtain ⟨j102, H, K102⟩ := pbind H
              refine CJ.cut (fun F w1 => ∃ (y56 : Bool) , (some y56 : Option Bool) = some j102 ∧ F = [(1, .slice Aa1 a1.length ca1), (2, .pointer (some ⟨b1, 0, none⟩)), (6, .pointer (some ⟨b20, 0, none⟩)), (7, .int .i64 t13.2), (10, .pointer (some ⟨b39, 0, none⟩)), (80, .bool y56)] ∧ St w no w1 [box b1 ([.slice Aa0_0 a0.Names.length ca0_0, .slice Aa0_1 a0.Eats.length ca0_1, .slice Aa0_2 a0.Foes.length ca0_2]) 26, rowC G.cs A14 c15 9 t13.1.Names, rowC (ci .i16) A16 c17 50 t13.1.Eats, rowC (ci .u16) A18 c19 51 t13.1.Foes, box b20 ([.slice A14 t13.1.Names.length c15, .slice A16 t13.1.Eats.length c17, .slice A18 t13.1.Foes.length c19]) 29, rowC G.cs A33 c34 9 t32.1.Names, rowC (ci .i16) A35 c36 50 t32.1.Eats, rowC (ci .u16) A37 c38 51 t32.1.Foes, box b39 ([.slice A33 t32.1.Names.length c34, .slice A35 t32.1.Eats.length c36, .slice A37 t32.1.Foes.length c38]) 29] [roC G.cs Aa0_0 ca0_0 a0.Names, roC (ci .i16) Aa0_1 ca0_1 a0.Eats, roC (ci .u16) Aa0_2 ca0_2 a0.Foes, roC (ci .i64) Aa1 ca1 a1]) ?_ ?_
              · skip
                refine CJ.region ?_
                refine OJ.pures tU_ok 3 rfl ?_
                refine OJ.split (t := 70) rfl (fun hb => ?_) (fun hb => ?_)
                · replace H := pif_t (of_decide_eq_true hb) H
                  refine OJ.pures tU_ok 10 rfl ?_
                  refine OJ.nil ?_
                  exact EJ.meet (F' := [(1, .slice Aa1 a1.length ca1), (2, .pointer (some ⟨b1, 0, none⟩)), (6, .pointer (some ⟨b20, 0, none⟩)), (7, .int .i64 t13.2), (10, .pointer (some ⟨b39, 0, none⟩)), (80, .bool true)]) ⟨rfl, rfl, rfl, rfl, rfl, rfl, trivial⟩ ⟨true, H, rfl, hS.pick [0, 1, 2, 3, 4, 10, 11, 12, 13] [0, 1, 2, 3] rfl⟩
                · replace H := pif_f (of_decide_eq_false hb) H
                  refine OJ.st rfl rfl rfl (SR.load rfl rfl (fun w' hx => ldN tU_ok tI_ok rfl rfl rfl (CA.ext (hS.cells (i := 13) rfl) hx) (ds := [.slice A33 t32.1.Names.length c34, .slice A35 t32.1.Eats.length c36, .slice A37 t32.1.Foes.length c38]) rfl rfl)) ?_
                  refine OJ.st rfl rfl rfl (SR.load rfl rfl (fun w' hx => ldN tU_ok tI_ok rfl rfl rfl (CA.ext (hS.cells (i := 4) rfl) hx) (ds := [.slice A14 t13.1.Names.length c15, .slice A16 t13.1.Eats.length c17, .slice A18 t13.1.Foes.length c19]) rfl rfl)) ?_
                  obtain ⟨t57, ht57, H⟩ := pbind H
                  refine OJ.callF rfl rfl rfl rfl rfl hb12 rfl (laws_eqHerd.c k _ A33 c34 A35 c36 A37 c38 t32.1 (hS.rd (i := 10) rfl) (hS.le (i := 10) rfl) (hS.rd (i := 11) rfl) (hS.le (i := 11) rfl) (hS.rd (i := 12) rfl) (hS.le (i := 12) rfl) A14 c15 A16 c17 A18 c19 t13.1 (hS.rd (i := 1) rfl) (hS.le (i := 1) rfl) (hS.rd (i := 2) rfl) (hS.le (i := 2) rfl) (hS.rd (i := 3) rfl) (hS.le (i := 3) rfl) _ ht57) ?_
                  rintro _ w1 ⟨rfl, hs⟩
                  replace hS := hS.grow hs
                  refine OJ.pures tU_ok 3 rfl ?_
                  refine OJ.split (t := 76) rfl (fun hb => ?_) (fun hb => ?_)
                  · replace H := pif_t hb H
                    refine OJ.pures tU_ok 4 rfl ?_
                    refine OJ.nil ?_
                    exact EJ.meet (F' := [(1, .slice Aa1 a1.length ca1), (2, .pointer (some ⟨b1, 0, none⟩)), (6, .pointer (some ⟨b20, 0, none⟩)), (7, .int .i64 t13.2), (10, .pointer (some ⟨b39, 0, none⟩)), (80, .bool true)]) ⟨rfl, rfl, rfl, rfl, rfl, rfl, trivial⟩ ⟨true, H, rfl, hS.pick [0, 1, 2, 3, 4, 10, 11, 12, 13] [0, 1, 2, 3] rfl⟩
                  · replace H := pifb_f hb H
                    refine OJ.pures tU_ok 4 rfl ?_
                    refine OJ.nil ?_
                    exact EJ.meet (F' := [(1, .slice Aa1 a1.length ca1), (2, .pointer (some ⟨b1, 0, none⟩)), (6, .pointer (some ⟨b20, 0, none⟩)), (7, .int .i64 t13.2), (10, .pointer (some ⟨b39, 0, none⟩)), (80, .bool (decide (t32.2 ≠ t13.2)))]) ⟨rfl, rfl, rfl, rfl, rfl, rfl, trivial⟩ ⟨(decide (t32.2 ≠ t13.2)), H, rfl, hS.pick [0, 1, 2, 3, 4, 10, 11, 12, 13] [0, 1, 2, 3] rfl⟩
              · rintro F w1 ⟨y56, he, rfl, hS⟩
                obtain rfl := Option.some.inj he
                have H := K102
                refine CJ.cond rfl (fun hb => ?_) (fun hb => ?_)
                · replace H := pif_t hb H
                  refine CJ.seq ?_
                  refine CJ.region ?_
                  refine OJ.pures tU_ok 1 rfl ?_
                  refine OJ.nil (EJ.next ?_)
                  refine CJ.ret (EJ.skR (?_))
                  obtain rfl := Option.some.inj H
                  exact EJ.fin rfl (.tmp rfl .nil) ⟨rfl, hS.ext⟩
                · replace H := pifb_f hb H
                  refine CJ.skip (EJ.next ?_)
                  refine CJ.seq ?_
                  refine CJ.region ?_
                  refine OJ.pures tU_ok 1 rfl ?_
                  refine OJ.nil (EJ.next ?_)
                  refine CJ.seq ?_
                  refine CJ.region ?_
                  refine OJ.st rfl rfl rfl (SR.load rfl rfl (fun w' hx => ldN tU_ok tI_ok rfl rfl rfl (CA.ext (hS.cells (i := 8) rfl) hx) (ds := [.slice A33 t32.1.Names.length c34, .slice A35 t32.1.Eats.length c36, .slice A37 t32.1.Foes.length c38]) rfl rfl)) ?_
                  refine OJ.pures tU_ok 1 rfl ?_
                  obtain ⟨t58, ht58, H⟩ := pbind H
                  refine OJ.callF rfl rfl rfl rfl rfl hb14 rfl (laws_markHerd.c k _ A33 c34 A35 c36 A37 c38 t32.1 1 ((hS.subs [5, 6, 7] [] [] rfl).pick [0, 1, 2] [] rfl) _ ht58) ?_
                  rintro _ w1 ⟨rfl, hs, hlc0, hlc1, hlc2⟩
                  replace hS := hS.back [5, 6, 7] rfl rfl [rowC G.cs A33 c34 9 t58.2.1, rowC (ci .i16) A35 c36 50 t58.2.2.1, rowC (ci .u16) A37 c38 51 t58.2.2.2] [] hs ⟨fun _ => Iff.rfl, fun _ => Iff.rfl, fun _ => Iff.rfl, trivial⟩
                  have hS : St w no w1 [box b1 ([.slice Aa0_0 a0.Names.length ca0_0, .slice Aa0_1 a0.Eats.length ca0_1, .slice Aa0_2 a0.Foes.length ca0_2]) 26, rowC G.cs A14 c15 9 t13.1.Names, rowC (ci .i16) A16 c17 50 t13.1.Eats, rowC (ci .u16) A18 c19 51 t13.1.Foes, box b20 ([.slice A14 t13.1.Names.length c15, .slice A16 t13.1.Eats.length c17, .slice A18 t13.1.Foes.length c19]) 29, rowC G.cs A33 c34 9 t58.2.1, rowC (ci .i16) A35 c36 50 t58.2.2.1, rowC (ci .u16) A37 c38 51 t58.2.2.2, box b39 ([.slice A33 t32.1.Names.length c34, .slice A35 t32.1.Eats.length c36, .slice A37 t32.1.Foes.length c38]) 29] [roC G.cs Aa0_0 ca0_0 a0.Names, roC (ci .i16) Aa0_1 ca0_1 a0.Eats, roC (ci .u16) Aa0_2 ca0_2 a0.Foes, roC (ci .i64) Aa1 ca1 a1] := hS
                  refine OJ.as (t := 81) rfl (show _ = (.agg [.slice A33 t58.2.1.length c34, .slice A35 t32.1.Eats.length c36, .slice A37 t32.1.Foes.length c38].toArray : Value) by simp only [hlc0]) ?_
                  replace hS := hS.boxAs (i := 8) rfl (show _ = ([.slice A33 t58.2.1.length c34, .slice A35 t32.1.Eats.length c36, .slice A37 t32.1.Foes.length c38] : List Value) by simp only [hlc0])
                  refine OJ.as (t := 81) rfl (show _ = (.agg [.slice A33 t58.2.1.length c34, .slice A35 t58.2.2.1.length c36, .slice A37 t32.1.Foes.length c38].toArray : Value) by simp only [hlc1]) ?_
                  replace hS := hS.boxAs (i := 8) rfl (show _ = ([.slice A33 t58.2.1.length c34, .slice A35 t58.2.2.1.length c36, .slice A37 t32.1.Foes.length c38] : List Value) by simp only [hlc1])
                  refine OJ.as (t := 81) rfl (show _ = (.agg [.slice A33 t58.2.1.length c34, .slice A35 t58.2.2.1.length c36, .slice A37 t58.2.2.2.length c38].toArray : Value) by simp only [hlc2]) ?_
                  replace hS := hS.boxAs (i := 8) rfl (show _ = ([.slice A33 t58.2.1.length c34, .slice A35 t58.2.2.1.length c36, .slice A37 t58.2.2.2.length c38] : List Value) by simp only [hlc2])
                  have hS : St w no w1 [box b1 ([.slice Aa0_0 a0.Names.length ca0_0, .slice Aa0_1 a0.Eats.length ca0_1, .slice Aa0_2 a0.Foes.length ca0_2]) 26, rowC G.cs A14 c15 9 t13.1.Names, rowC (ci .i16) A16 c17 50 t13.1.Eats, rowC (ci .u16) A18 c19 51 t13.1.Foes, box b20 ([.slice A14 t13.1.Names.length c15, .slice A16 t13.1.Eats.length c17, .slice A18 t13.1.Foes.length c19]) 29, rowC G.cs A33 c34 9 t58.2.1, rowC (ci .i16) A35 c36 50 t58.2.2.1, rowC (ci .u16) A37 c38 51 t58.2.2.2, box b39 ([.slice A33 t58.2.1.length c34, .slice A35 t58.2.2.1.length c36, .slice A37 t58.2.2.2.length c38]) 29] [roC G.cs Aa0_0 ca0_0 a0.Names, roC (ci .i16) Aa0_1 ca0_1 a0.Eats, roC (ci .u16) Aa0_2 ca0_2 a0.Foes, roC (ci .i64) Aa1 ca1 a1] := hS
                  refine OJ.pures tU_ok 1 rfl ?_
                  refine OJ.nil (EJ.next ?_)
                  refine CJ.seq ?_
                  refine CJ.region ?_
                  refine OJ.pures tU_ok 1 rfl ?_
                  refine OJ.nil (EJ.next ?_)
                  refine CJ.seq ?_
                  refine CJ.region ?_
                  refine OJ.st rfl rfl rfl (SR.load rfl rfl (fun w' hx => ldN tU_ok tI_ok rfl rfl rfl (CA.ext (hS.cells (i := 8) rfl) hx) (ds := [.slice A33 t58.2.1.length c34, .slice A35 t58.2.2.1.length c36, .slice A37 t58.2.2.2.length c38]) rfl rfl)) ?_
                  refine OJ.pures tU_ok 1 rfl ?_
                  obtain ⟨t59, ht59, H⟩ := pbind H
                  refine OJ.callF rfl rfl rfl rfl rfl hb16 rfl (laws_heldHerd.c k _ A33 c34 A35 c36 A37 c38 (⟨t58.2.1, t58.2.2.1, t58.2.2.2⟩ : Herd) (hS.rd (i := 5) rfl) (hS.le (i := 5) rfl) (hS.rd (i := 6) rfl) (hS.le (i := 6) rfl) (hS.rd (i := 7) rfl) (hS.le (i := 7) rfl) 1 _ ht59) ?_
                  rintro _ w1 ⟨rfl, hs⟩
                  replace hS := hS.grow hs
                  refine OJ.pures tU_ok 1 rfl ?_
                  refine OJ.nil (EJ.next ?_)
                  refine CJ.seq ?_
                  refine CJ.seq ?_
                  refine CJ.region ?_
                  refine OJ.pures tU_ok 2 rfl ?_
                  refine OJ.nil (EJ.next ?_)
                  refine CJ.cond rfl (fun hb => ?_) (fun hb => ?_)
                  · replace H := pif_t (of_decide_eq_true hb) H
                    refine CJ.seq ?_
                    refine CJ.region ?_
                    refine OJ.pures tU_ok 1 rfl ?_
                    refine OJ.nil (EJ.next ?_)
                    refine CJ.ret (EJ.skR (?_))
                    obtain rfl := Option.some.inj H
                    exact EJ.fin rfl (.tmp rfl .nil) ⟨rfl, hS.ext⟩
                  · replace H := pif_f (of_decide_eq_false hb) H
                    refine CJ.skip (EJ.next ?_)
                    refine CJ.seq ?_
                    refine CJ.seq ?_
                    refine CJ.region ?_
                    refine OJ.pures tU_ok 3 rfl ?_
                    refine OJ.nil (EJ.next ?_)
                    refine CJ.cond rfl (fun hb => ?_) (fun hb => ?_)
                    · replace H := pif_t (of_decide_eq_true hb) H
                      refine CJ.seq ?_
                      refine CJ.region ?_
                      refine OJ.pures tU_ok 1 rfl ?_
                      refine OJ.nil (EJ.next ?_)
                      refine CJ.ret (EJ.skR (?_))
                      obtain rfl := Option.some.inj H
                      exact EJ.fin rfl (.tmp rfl .nil) ⟨rfl, hS.ext⟩
                    · replace H := pif_f (of_decide_eq_false hb) H
                      refine CJ.skip (EJ.next ?_)
                      refine CJ.seq ?_
                      refine CJ.region ?_
                      refine OJ.st rfl rfl rfl (SR.load rfl rfl (fun w' hx => ldN tU_ok tI_ok rfl rfl rfl (CA.ext (hS.cells (i := 0) rfl) hx) (ds := [.slice Aa0_0 a0.Names.length ca0_0, .slice Aa0_1 a0.Eats.length ca0_1, .slice Aa0_2 a0.Foes.length ca0_2]) rfl rfl)) ?_
                      obtain ⟨t60, ht60, H⟩ := pbind H
                      refine OJ.callF rfl rfl rfl rfl rfl hb9 rfl (laws_toHerd.c k _ Aa0_0 ca0_0 Aa0_1 ca0_1 Aa0_2 ca0_2 a0 (hS.rd' (i := 0) rfl) (hS.le' (i := 0) rfl) (hS.rd' (i := 1) rfl) (hS.le' (i := 1) rfl) (hS.rd' (i := 2) rfl) (hS.le' (i := 2) rfl) _ ht60) ?_
                      rintro _ w1 ⟨A61, c62, A63, c64, A65, c66, rfl, hs⟩
                      replace hS := hS.addN hs
                      have hS : St w no w1 [box b1 ([.slice Aa0_0 a0.Names.length ca0_0, .slice Aa0_1 a0.Eats.length ca0_1, .slice Aa0_2 a0.Foes.length ca0_2]) 26, rowC G.cs A14 c15 9 t13.1.Names, rowC (ci .i16) A16 c17 50 t13.1.Eats, rowC (ci .u16) A18 c19 51 t13.1.Foes, box b20 ([.slice A14 t13.1.Names.length c15, .slice A16 t13.1.Eats.length c17, .slice A18 t13.1.Foes.length c19]) 29, rowC G.cs A33 c34 9 t58.2.1, rowC (ci .i16) A35 c36 50 t58.2.2.1, rowC (ci .u16) A37 c38 51 t58.2.2.2, box b39 ([.slice A33 t58.2.1.length c34, .slice A35 t58.2.2.1.length c36, .slice A37 t58.2.2.2.length c38]) 29, rowC G.cs A61 c62 9 t60.Names, rowC (ci .i16) A63 c64 50 t60.Eats, rowC (ci .u16) A65 c66 51 t60.Foes] [roC G.cs Aa0_0 ca0_0 a0.Names, roC (ci .i16) Aa0_1 ca0_1 a0.Eats, roC (ci .u16) Aa0_2 ca0_2 a0.Foes, roC (ci .i64) Aa1 ca1 a1] := hS
                      refine OJ.pures tU_ok 1 rfl ?_
                      obtain ⟨t67, ht67, H⟩ := pbind H
                      refine OJ.callF rfl rfl rfl rfl rfl hb10 rfl (laws_toInt64S.c k _ Aa1 ca1 a1 (hS.rd' (i := 3) rfl) (hS.le' (i := 3) rfl) _ ht67) ?_
                      rintro _ w1 ⟨A68, c69, rfl, hs⟩
                      replace hS := hS.addN hs
                      have hS : St w no w1 [box b1 ([.slice Aa0_0 a0.Names.length ca0_0, .slice Aa0_1 a0.Eats.length ca0_1, .slice Aa0_2 a0.Foes.length ca0_2]) 26, rowC G.cs A14 c15 9 t13.1.Names, rowC (ci .i16) A16 c17 50 t13.1.Eats, rowC (ci .u16) A18 c19 51 t13.1.Foes, box b20 ([.slice A14 t13.1.Names.length c15, .slice A16 t13.1.Eats.length c17, .slice A18 t13.1.Foes.length c19]) 29, rowC G.cs A33 c34 9 t58.2.1, rowC (ci .i16) A35 c36 50 t58.2.2.1, rowC (ci .u16) A37 c38 51 t58.2.2.2, box b39 ([.slice A33 t58.2.1.length c34, .slice A35 t58.2.2.1.length c36, .slice A37 t58.2.2.2.length c38]) 29, rowC G.cs A61 c62 9 t60.Names, rowC (ci .i16) A63 c64 50 t60.Eats, rowC (ci .u16) A65 c66 51 t60.Foes, rowC (ci .i64) A68 c69 2 t67] [roC G.cs Aa0_0 ca0_0 a0.Names, roC (ci .i16) Aa0_1 ca0_1 a0.Eats, roC (ci .u16) Aa0_2 ca0_2 a0.Foes, roC (ci .i64) Aa1 ca1 a1] := hS
                      obtain ⟨t70, ht70, H⟩ := pbind H
                      refine OJ.callF rfl rfl rfl rfl rfl hb11 rfl (impl_PickHerd.c k _ A61 c62 A63 c64 A65 c66 t60 (hS.rd (i := 9) rfl) (hS.le (i := 9) rfl) (hS.rd (i := 10) rfl) (hS.le (i := 10) rfl) (hS.rd (i := 11) rfl) (hS.le (i := 11) rfl) A68 c69 t67 (hS.rd (i := 12) rfl) (hS.le (i := 12) rfl) _ ht70) ?_
                      rintro _ w1 ⟨A71, c72, A73, c74, A75, c76, rfl, hs⟩
                      replace hS := hS.addN hs
                      have hS : St w no w1 [box b1 ([.slice Aa0_0 a0.Names.length ca0_0, .slice Aa0_1 a0.Eats.length ca0_1, .slice Aa0_2 a0.Foes.length ca0_2]) 26, rowC G.cs A14 c15 9 t13.1.Names, rowC (ci .i16) A16 c17 50 t13.1.Eats, rowC (ci .u16) A18 c19 51 t13.1.Foes, box b20 ([.slice A14 t13.1.Names.length c15, .slice A16 t13.1.Eats.length c17, .slice A18 t13.1.Foes.length c19]) 29, rowC G.cs A33 c34 9 t58.2.1, rowC (ci .i16) A35 c36 50 t58.2.2.1, rowC (ci .u16) A37 c38 51 t58.2.2.2, box b39 ([.slice A33 t58.2.1.length c34, .slice A35 t58.2.2.1.length c36, .slice A37 t58.2.2.2.length c38]) 29, rowC G.cs A61 c62 9 t60.Names, rowC (ci .i16) A63 c64 50 t60.Eats, rowC (ci .u16) A65 c66 51 t60.Foes, rowC (ci .i64) A68 c69 2 t67, rowC G.cs A71 c72 9 t70.1.Names, rowC (ci .i16) A73 c74 50 t70.1.Eats, rowC (ci .u16) A75 c76 51 t70.1.Foes] [roC G.cs Aa0_0 ca0_0 a0.Names, roC (ci .i16) Aa0_1 ca0_1 a0.Eats, roC (ci .u16) Aa0_2 ca0_2 a0.Foes, roC (ci .i64) Aa1 ca1 a1] := hS
                      refine OJ.pures tU_ok 3 rfl ?_
                      refine OJ.ef rfl rfl rfl (Ef.alloc hS tI_ok rfl rfl ([.slice none 0 0, .slice none 0 0, .slice none 0 0]) rfl) ?_
                      rintro _ w1 ⟨b77, rfl, hS⟩
                      refine OJ.es rfl rfl (Es.store tI_ok hS (i := 16) (vs := [.slice A71 t70.1.Names.length c72, .slice A73 t70.1.Eats.length c74, .slice A75 t70.1.Foes.length c76]) rfl rfl rfl rfl rfl rfl rfl rfl (by intro u hu; simp only [List.mem_cons, List.not_mem_nil, or_false] at hu; rcases hu with rfl | rfl | rfl <;> rfl) (Nat.le_of_ble_eq_true rfl) ([.slice A71 t70.1.Names.length c72, .slice A73 t70.1.Eats.length c74, .slice A75 t70.1.Foes.length c76]) rfl) ?_
                      intro w1 hS
                      refine OJ.pures tU_ok 1 rfl ?_
                      refine OJ.nil (EJ.next ?_)
                      refine CJ.seq ?_
                      obtain ⟨j106, H, K106⟩ := pbind H
                      refine CJ.cut (fun F w1 => ∃ (y78 : Bool) , (some y78 : Option Bool) = some j106 ∧ F = [(10, .pointer (some ⟨b39, 0, none⟩)), (13, .int .i64 t58.1), (108, .bool y78)] ∧ St w no w1 [rowC G.cs A33 c34 9 t58.2.1, rowC (ci .i16) A35 c36 50 t58.2.2.1, rowC (ci .u16) A37 c38 51 t58.2.2.2, box b39 ([.slice A33 t58.2.1.length c34, .slice A35 t58.2.2.1.length c36, .slice A37 t58.2.2.2.length c38]) 29] [roC G.cs Aa0_0 ca0_0 a0.Names, roC (ci .i16) Aa0_1 ca0_1 a0.Eats, roC (ci .u16) Aa0_2 ca0_2 a0.Foes, roC (ci .i64) Aa1 ca1 a1]) ?_ ?_
                      · skip
                        refine CJ.region ?_
                        refine OJ.st rfl rfl rfl (SR.load rfl rfl (fun w' hx => ldN tU_ok tI_ok rfl rfl rfl (CA.ext (hS.cells (i := 16) rfl) hx) (ds := [.slice A71 t70.1.Names.length c72, .slice A73 t70.1.Eats.length c74, .slice A75 t70.1.Foes.length c76]) rfl rfl)) ?_
                        refine OJ.st rfl rfl rfl (SR.load rfl rfl (fun w' hx => ldN tU_ok tI_ok rfl rfl rfl (CA.ext (hS.cells (i := 4) rfl) hx) (ds := [.slice A14 t13.1.Names.length c15, .slice A16 t13.1.Eats.length c17, .slice A18 t13.1.Foes.length c19]) rfl rfl)) ?_
                        obtain ⟨t79, ht79, H⟩ := pbind H
                        refine OJ.callF rfl rfl rfl rfl rfl hb12 rfl (laws_eqHerd.c k _ A71 c72 A73 c74 A75 c76 t70.1 (hS.rd (i := 13) rfl) (hS.le (i := 13) rfl) (hS.rd (i := 14) rfl) (hS.le (i := 14) rfl) (hS.rd (i := 15) rfl) (hS.le (i := 15) rfl) A14 c15 A16 c17 A18 c19 t13.1 (hS.rd (i := 1) rfl) (hS.le (i := 1) rfl) (hS.rd (i := 2) rfl) (hS.le (i := 2) rfl) (hS.rd (i := 3) rfl) (hS.le (i := 3) rfl) _ ht79) ?_
                        rintro _ w1 ⟨rfl, hs⟩
                        replace hS := hS.grow hs
                        refine OJ.pures tU_ok 2 rfl ?_
                        refine OJ.split (t := 104) rfl (fun hb => ?_) (fun hb => ?_)
                        · replace H := pif_t hb H
                          refine OJ.pures tU_ok 4 rfl ?_
                          refine OJ.nil ?_
                          exact EJ.meet (F' := [(10, .pointer (some ⟨b39, 0, none⟩)), (13, .int .i64 t58.1), (108, .bool true)]) ⟨rfl, rfl, rfl, trivial⟩ ⟨true, H, rfl, hS.pick [5, 6, 7, 8] [0, 1, 2, 3] rfl⟩
                        · replace H := pifb_f hb H
                          refine OJ.pures tU_ok 4 rfl ?_
                          refine OJ.nil ?_
                          exact EJ.meet (F' := [(10, .pointer (some ⟨b39, 0, none⟩)), (13, .int .i64 t58.1), (108, .bool (decide (t70.2 ≠ t13.2)))]) ⟨rfl, rfl, rfl, trivial⟩ ⟨(decide (t70.2 ≠ t13.2)), H, rfl, hS.pick [5, 6, 7, 8] [0, 1, 2, 3] rfl⟩
                      · rintro F w1 ⟨y78, he, rfl, hS⟩
                        obtain rfl := Option.some.inj he
                        have H := K106
                        refine CJ.cond rfl (fun hb => ?_) (fun hb => ?_)
                        · replace H := pif_t hb H
                          refine CJ.seq ?_
                          refine CJ.region ?_
                          refine OJ.pures tU_ok 1 rfl ?_
                          refine OJ.nil (EJ.next ?_)
                          refine CJ.ret (EJ.skR (?_))
                          obtain rfl := Option.some.inj H
                          exact EJ.fin rfl (.tmp rfl .nil) ⟨rfl, hS.ext⟩
                        · replace H := pifb_f hb H
                          refine CJ.skip (EJ.next ?_)
                          refine CJ.seq ?_
                          refine CJ.region ?_
                          refine OJ.pures tU_ok 1 rfl ?_
                          refine OJ.nil (EJ.next ?_)
                          refine CJ.seq ?_
                          refine CJ.region ?_
                          refine OJ.st rfl rfl rfl (SR.load rfl rfl (fun w' hx => ldN tU_ok tI_ok rfl rfl rfl (CA.ext (hS.cells (i := 3) rfl) hx) (ds := [.slice A33 t58.2.1.length c34, .slice A35 t58.2.2.1.length c36, .slice A37 t58.2.2.2.length c38]) rfl rfl)) ?_
                          refine OJ.pures tU_ok 1 rfl ?_
                          obtain ⟨t80, ht80, H⟩ := pbind H
                          refine OJ.callF rfl rfl rfl rfl rfl hb16 rfl (laws_heldHerd.c k _ A33 c34 A35 c36 A37 c38 (⟨t58.2.1, t58.2.2.1, t58.2.2.2⟩ : Herd) (hS.rd (i := 0) rfl) (hS.le (i := 0) rfl) (hS.rd (i := 1) rfl) (hS.le (i := 1) rfl) (hS.rd (i := 2) rfl) (hS.le (i := 2) rfl) 1 _ ht80) ?_
                          rintro _ w1 ⟨rfl, hs⟩
                          replace hS := hS.grow hs
                          refine OJ.pures tU_ok 1 rfl ?_
                          refine OJ.nil (EJ.next ?_)
                          refine CJ.seq ?_
                          refine CJ.seq ?_
                          refine CJ.region ?_
                          refine OJ.pures tU_ok 2 rfl ?_
                          refine OJ.nil (EJ.next ?_)
                          refine CJ.cond rfl (fun hb => ?_) (fun hb => ?_)
                          · replace H := pif_t (of_decide_eq_true hb) H
                            refine CJ.seq ?_
                            refine CJ.region ?_
                            refine OJ.pures tU_ok 1 rfl ?_
                            refine OJ.nil (EJ.next ?_)
                            refine CJ.ret (EJ.skR (?_))
                            obtain rfl := Option.some.inj H
                            exact EJ.fin rfl (.tmp rfl .nil) ⟨rfl, hS.ext⟩
                          · replace H := pif_f (of_decide_eq_false hb) H
                            refine CJ.skip (EJ.next ?_)
                            refine CJ.seq ?_
                            refine CJ.seq ?_
                            refine CJ.region ?_
                            refine OJ.pures tU_ok 3 rfl ?_
                            refine OJ.nil (EJ.next ?_)
                            refine CJ.cond rfl (fun hb => ?_) (fun hb => ?_)
                            · replace H := pif_t (of_decide_eq_true hb) H
                              refine CJ.seq ?_
                              refine CJ.region ?_
                              refine OJ.pures tU_ok 1 rfl ?_
                              refine OJ.nil (EJ.next ?_)
                              refine CJ.ret (EJ.skR (?_))
                              obtain rfl := Option.some.inj H
                              exact EJ.fin rfl (.tmp rfl .nil) ⟨rfl, hS.ext⟩
                            · replace H := pif_f (of_decide_eq_false hb) H
                              refine CJ.skip (EJ.next ?_)
                              refine CJ.seq ?_
                              refine CJ.region ?_
                              refine OJ.pures tU_ok 1 rfl ?_
                              refine OJ.nil (EJ.next ?_)
                              refine CJ.ret (?_)
                              obtain rfl := Option.some.inj H
                              exact EJ.fin rfl (.tmp rfl .nil) ⟨rfl, hS.ext⟩

def impl_listed.l1 (a0 : Int) : Nat → (List Int) → Int → Option (List Int)
  | 0, _, _ => none
  | k + 1, y5, y8 => if y8 < 16 then ((chk (0 ≤ y8)).bind fun u9 => if (andI .u16 (shrI .u16 a0 y8) 1) = 1 then ((chk (y5.length + ([y8] : List Int).length ≤ 4294967296)).bind fun u11 => impl_listed.l1 a0 k (y5 ++ ([y8] : List Int)) (IntKind.i64.wrap (y8 + 1))) else (impl_listed.l1 a0 k y5 (IntKind.i64.wrap (y8 + 1)))) else (some y5)
def impl_listed.f (k : Nat) (a0 : Int) : Option (List Int) := (impl_listed.l1 a0 k ([] : List Int) 0).bind fun y2 => some y2
theorem impl_listed.c (k : Nat) (w : World) (a0 : Int) (r : List Int) (H : impl_listed.f k a0 = some r) :
    CV Tryd.prog 56 [.int .u16 a0].toArray w fun v w' => ∃ (A0 : Option Addr) (c0 : Nat), v = .slice A0 r.length c0 ∧ St w no w' [rowC (ci .i64) A0 c0 2 r] [] := by
  have hS := (St.init w no)
  unfold impl_listed.f at H
  refine CV.body Tryd.func56 rfl Tryd.ntmps56 rfl ?_
  refine CJ.seq ?_
  refine CJ.region ?_
  refine OJ.pures tU_ok 1 rfl ?_
  refine OJ.nil (EJ.next ?_)
  refine CJ.seq ?_
  refine CJ.region ?_
  refine OJ.ef rfl rfl rfl (Ef.lit tU_ok tI_ok hS (C := (ci .i64)) rfl rfl rfl rfl rfl rfl ([] : List Int) rfl rfl rfl rfl) ?_
  rintro _ w1 ⟨A1, rfl, hS⟩
  refine OJ.pures tU_ok 1 rfl ?_
  refine OJ.nil (EJ.next ?_)
  refine CJ.seq ?_
  refine CJ.seq ?_
  refine CJ.region ?_
  refine OJ.pures tU_ok 1 rfl ?_
  refine OJ.nil (EJ.next ?_)
  obtain ⟨j107, H, K107⟩ := pbind H
  refine CJ.cut1 (fun F w1 => ∃ (y2 : List Int) (A3 : Option Addr) (c4 : Nat), (some y2 : Option (List Int)) = some j107 ∧ F = [(3, .slice A3 y2.length c4)] ∧ St w no w1 [rowC (ci .i64) A3 c4 2 y2] []) ?_ ?_
  · skip
    refine CJ.block ?_
    refine CJ.loop (fun k F w1 => ∃ (y5 : List Int) (y8 : Int) (A6 : Option Addr) (c7 : Nat), F = [(0, .int .u16 a0), (3, .slice A6 y5.length c7), (6, .int .i64 y8)] ∧ St w no w1 [rowC (ci .i64) A6 c7 2 y5] [] ∧ impl_listed.l1 a0 k y5 y8 = some j107) k (F' := [(0, .int .u16 a0), (3, .slice A1 ([] : List Int).length (([] : List Int).length)), (6, .int .i64 0)]) ⟨rfl, rfl, rfl, trivial⟩ ⟨([] : List Int), 0, A1, (([] : List Int).length), rfl, hS.pick [0] [] rfl, H⟩ ?_
    rintro k F w1 ⟨y5, y8, A6, c7, rfl, hS, H⟩
    cases k with
    | zero => rw [impl_listed.l1] at H; cases H
    | succ k =>
      rw [impl_listed.l1] at H
      refine CJ.seq ?_
      refine CJ.region ?_
      refine OJ.pures tU_ok 1 rfl ?_
      refine OJ.nil (EJ.next ?_)
      refine CJ.seq ?_
      refine CJ.cond rfl (fun hb => ?_) (fun hb => ?_)
      · replace H := pif_t (of_decide_eq_true hb) H
        refine CJ.skip (EJ.next ?_)
        refine CJ.seq ?_
        refine CJ.block ?_
        refine CJ.seq ?_
        refine CJ.region ?_
        refine OJ.pures tU_ok 2 rfl ?_
        refine OJ.nil (EJ.next ?_)
        refine CJ.seq ?_
        refine CJ.region ?_
        refine OJ.pures tU_ok 2 rfl ?_
        obtain ⟨u9, hu9, H⟩ := pbind H
        refine OJ.st rfl rfl rfl (SR.shr rfl rfl rfl (chk_some hu9)) ?_
        refine OJ.pures tU_ok 2 rfl ?_
        refine OJ.nil (EJ.next ?_)
        refine CJ.cond rfl (fun hb => ?_) (fun hb => ?_)
        · replace H := pif_t (of_decide_eq_true hb) H
          refine CJ.region ?_
          refine OJ.pures tU_ok 2 rfl ?_
          refine OJ.ef rfl rfl rfl (Ef.lit tU_ok tI_ok hS (C := (ci .i64)) rfl rfl rfl rfl rfl rfl ([y8] : List Int) rfl rfl rfl rfl) ?_
          rintro _ w1 ⟨A10, rfl, hS⟩
          obtain ⟨u11, hu11, H⟩ := pbind H
          refine OJ.ew rfl rfl rfl (Ew.append tU_ok tI_ok (C := (ci .i64)) (xs := y5) (ys := ([y8] : List Int)) hS (i := 0) rfl rfl rfl rfl rfl rfl rfl rfl rfl rfl rfl rfl rfl (hS.rd (i := 1) rfl) (chk_some hu11)) ?_
          rintro _ w1 ⟨A12, c13, rfl, hS⟩
          refine OJ.pures tU_ok 1 rfl ?_
          refine OJ.nil (EJ.blk (EJ.next ?_))
          refine CJ.region ?_
          refine OJ.pures tU_ok 2 rfl ?_
          refine OJ.nil ?_
          exact EJ.round k (F' := [(0, .int .u16 a0), (3, .slice A12 (y5 ++ ([y8] : List Int)).length c13), (6, .int .i64 (IntKind.i64.wrap (y8 + 1)))]) ⟨rfl, rfl, rfl, trivial⟩ (Nat.lt_succ_self _) ⟨(y5 ++ ([y8] : List Int)), (IntKind.i64.wrap (y8 + 1)), A12, c13, rfl, hS.pick [0] [] rfl, H⟩
        · replace H := pif_f (of_decide_eq_false hb) H
          refine CJ.skip (EJ.blk (EJ.next ?_))
          refine CJ.region ?_
          refine OJ.pures tU_ok 2 rfl ?_
          refine OJ.nil ?_
          exact EJ.round k (F' := [(0, .int .u16 a0), (3, .slice A6 y5.length c7), (6, .int .i64 (IntKind.i64.wrap (y8 + 1)))]) ⟨rfl, rfl, rfl, trivial⟩ (Nat.lt_succ_self _) ⟨y5, (IntKind.i64.wrap (y8 + 1)), A6, c7, rfl, hS.pick [0] [] rfl, H⟩
      · replace H := pif_f (of_decide_eq_false hb) H
        refine CJ.exit (EJ.skE (EJ.skE (EJ.hit (?_))))
        exact EJ.meet (F' := [(3, .slice A6 y5.length c7)]) ⟨rfl, trivial⟩ ⟨y5, A6, c7, H, rfl, hS.pick [0] [] rfl⟩
  · rintro F w1 ⟨y2, A3, c4, he, rfl, hS⟩
    obtain rfl := Option.some.inj he
    have H := K107
    refine EJ.next ?_
    refine CJ.seq ?_
    refine CJ.region ?_
    refine OJ.pures tU_ok 2 rfl ?_
    refine OJ.nil (EJ.next ?_)
    refine CJ.ret (?_)
    obtain rfl := Option.some.inj H
    exact EJ.fin rfl (.tmp rfl .nil) ⟨A3, c4, rfl, hS.pick [0] [] rfl⟩
end Go.Proofs.YtbpjhagilkeilaaDoor
