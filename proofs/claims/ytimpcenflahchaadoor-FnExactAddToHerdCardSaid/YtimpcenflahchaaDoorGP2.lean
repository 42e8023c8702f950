/-
  What the functions come to.
-/
import Derived.Test.YtimpcenflahchaaDoorGP1
namespace Go.Proofs.YtimpcenflahchaaDoor
open G
set_option linter.unusedVariables false
set_option linter.unusedSimpArgs false
set_option maxRecDepth 100000
set_option maxHeartbeats 4000000
def spec_AddToHerd.f (k : Nat) (a0 : Herd) (a1 : ByteArray) (a2 : Int) : Option (Herd × Int) := (spec_l06Ok.f k a0).bind fun t3 => if (!t3) = true then (some ((⟨[], [], []⟩ : Herd), 1)) else ((spec_l00In.f a2 0 100).bind fun t4 => if (!t4) = true then (some ((⟨[], [], []⟩ : Herd), 2)) else (((spec_l06Name.f k a1).bind fun t6 => if (!t6) = true then (some true) else ((spec_l06Named.f k a0 a1).bind fun t7 => some t7)).bind fun y5 => if y5 = true then (some ((⟨[], [], []⟩ : Herd), 4)) else (if (a0.Names.length : Int) = 14 then (some ((⟨[], [], []⟩ : Herd), 3)) else ((spec_l06Own.f a0).bind fun t8 => (chk (t8.Names.length + ([a1] : List ByteArray).length ≤ 4294967296)).bind fun u17 => (chk (t8.Eats.length + ([IntKind.i16.wrap a2] : List Int).length ≤ 4294967296)).bind fun u21 => (chk (t8.Foes.length + ([0] : List Int).length ≤ 4294967296)).bind fun u25 => some ((⟨t8.Names ++ ([a1] : List ByteArray), t8.Eats ++ ([IntKind.i16.wrap a2] : List Int), t8.Foes ++ ([0] : List Int)⟩ : Herd), 0)))))
theorem spec_AddToHerd.c (k : Nat) (w : World) (Aa0_0 : Option Addr) (ca0_0 : Nat) (Aa0_1 : Option Addr) (ca0_1 : Nat) (Aa0_2 : Option Addr) (ca0_2 : Nat) (a0 : Herd) (hr0_0 : Rd G.cs w Aa0_0 a0.Names) (hc0_0 : a0.Names.length ≤ ca0_0) (hr0_1 : Rd (ci .i16) w Aa0_1 a0.Eats) (hc0_1 : a0.Eats.length ≤ ca0_1) (hr0_2 : Rd (ci .u16) w Aa0_2 a0.Foes) (hc0_2 : a0.Foes.length ≤ ca0_2) (a1 : ByteArray) (a2 : Int) (r : Herd × Int) (H : spec_AddToHerd.f k a0 a1 a2 = some r) :
    CV Tryd.prog 44 [.agg [.slice Aa0_0 a0.Names.length ca0_0, .slice Aa0_1 a0.Eats.length ca0_1, .slice Aa0_2 a0.Foes.length ca0_2].toArray, .string a1, .int .i64 a2].toArray w fun v w' => ∃ (A0_0 : Option Addr) (c0_0 : Nat) (A0_1 : Option Addr) (c0_1 : Nat) (A0_2 : Option Addr) (c0_2 : Nat), v = .tuple #[.agg [.slice A0_0 r.1.Names.length c0_0, .slice A0_1 r.1.Eats.length c0_1, .slice A0_2 r.1.Foes.length c0_2].toArray, .int .i64 r.2] ∧ St w no w' [rowC G.cs A0_0 c0_0 9 r.1.Names, rowC (ci .i16) A0_1 c0_1 73 r.1.Eats, rowC (ci .u16) A0_2 c0_2 74 r.1.Foes] [] := by
  have hS := ((((St.init w no).param G.cs Aa0_0 ca0_0 a0.Names hr0_0 hc0_0).param (ci .i16) Aa0_1 ca0_1 a0.Eats hr0_1 hc0_1).param (ci .u16) Aa0_2 ca0_2 a0.Foes hr0_2 hc0_2)
  unfold spec_AddToHerd.f at H
  refine CV.body Tryd.func44 rfl Tryd.ntmps44 rfl ?_
  refine CJ.seq ?_
  refine CJ.region ?_
  refine OJ.ef rfl rfl rfl (Ef.box hS rfl rfl ([.slice Aa0_0 a0.Names.length ca0_0, .slice Aa0_1 a0.Eats.length ca0_1, .slice Aa0_2 a0.Foes.length ca0_2]) rfl) ?_
  rintro _ w1 ⟨b1, rfl, hS⟩
  refine OJ.ef rfl rfl rfl (Ef.alloc hS tI_ok rfl rfl ([.slice none 0 0, .slice none 0 0, .slice none 0 0]) rfl) ?_
  rintro _ w1 ⟨b2, rfl, hS⟩
  refine OJ.pures tU_ok 1 rfl ?_
  refine OJ.nil (EJ.next ?_)
  refine CJ.seq ?_
  refine CJ.block ?_
  refine CJ.seq ?_
  refine CJ.region ?_
  obtain ⟨t3, ht3, H⟩ := pbind H
  refine OJ.callF rfl rfl rfl rfl rfl hb51 rfl (spec_l06Ok.c k _ Aa0_0 ca0_0 Aa0_1 ca0_1 Aa0_2 ca0_2 a0 (hS.rd' (i := 0) rfl) (hS.le' (i := 0) rfl) (hS.rd' (i := 1) rfl) (hS.le' (i := 1) rfl) (hS.rd' (i := 2) rfl) (hS.le' (i := 2) rfl) ⟨b1, 0, none⟩ (hS.cells (i := 0) rfl) _ ht3) ?_
  rintro _ w1 ⟨rfl, hs⟩
  replace hS := hS.grow hs
  refine OJ.pures tU_ok 2 rfl ?_
  refine OJ.nil (EJ.next ?_)
  refine CJ.cond rfl (fun hb => ?_) (fun hb => ?_)
  · replace H := pif_t hb H
    refine CJ.seq ?_
    refine CJ.region ?_
    refine OJ.st rfl rfl rfl (SR.build' tU_ok tI_ok rfl rfl rfl (zs := [.slice none 0 0, .slice none 0 0, .slice none 0 0]) rfl rfl rfl ([.slice none 0 0, .slice none 0 0, .slice none 0 0]) rfl) ?_
    refine OJ.es rfl rfl (Es.store tI_ok hS (i := 1) (vs := [.slice none 0 0, .slice none 0 0, .slice none 0 0]) rfl rfl rfl rfl rfl rfl rfl rfl (by intro u hu; simp only [List.mem_cons, List.not_mem_nil, or_false] at hu; rcases hu with rfl | rfl | rfl <;> rfl) (Nat.le_of_ble_eq_true rfl) ([.slice none 0 0, .slice none 0 0, .slice none 0 0]) rfl) ?_
    intro w1 hS
    refine OJ.pures tU_ok 1 rfl ?_
    refine OJ.nil (EJ.next ?_)
    refine CJ.ret (EJ.bkR (EJ.skR (?_)))
    replace hS := hS.addNil G.cs 9 none
    replace hS := hS.addNil (ci .i16) 73 none
    replace hS := hS.addNil (ci .u16) 74 none
    obtain rfl := Option.some.inj H
    exact EJ.fin rfl (.cell rfl (ldN tU_ok tI_ok rfl rfl rfl (hS.cells (i := 1) rfl) (ds := [.slice none 0 0, .slice none 0 0, .slice none 0 0]) rfl rfl) (.tmp rfl .nil)) ⟨none, 0, none, 0, none, 0, rfl, hS.pick [2, 3, 4] [] rfl⟩
  · replace H := pifb_f hb H
    refine CJ.seq ?_
    refine CJ.region ?_
    refine OJ.pures tU_ok 1 rfl ?_
    obtain ⟨t4, ht4, H⟩ := pbind H
    refine OJ.callF rfl rfl rfl rfl rfl hb87 rfl (spec_l00In.c _ a2 0 100 _ ht4) ?_
    rintro _ w1 ⟨rfl, hs⟩
    replace hS := hS.grow hs
    refine OJ.pures tU_ok 2 rfl ?_
    refine OJ.nil (EJ.next ?_)
    refine CJ.cond rfl (fun hb => ?_) (fun hb => ?_)
    · replace H := pif_t hb H
      refine CJ.seq ?_
      refine CJ.region ?_
      refine OJ.st rfl rfl rfl (SR.build' tU_ok tI_ok rfl rfl rfl (zs := [.slice none 0 0, .slice none 0 0, .slice none 0 0]) rfl rfl rfl ([.slice none 0 0, .slice none 0 0, .slice none 0 0]) rfl) ?_
      refine OJ.es rfl rfl (Es.store tI_ok hS (i := 1) (vs := [.slice none 0 0, .slice none 0 0, .slice none 0 0]) rfl rfl rfl rfl rfl rfl rfl rfl (by intro u hu; simp only [List.mem_cons, List.not_mem_nil, or_false] at hu; rcases hu with rfl | rfl | rfl <;> rfl) (Nat.le_of_ble_eq_true rfl) ([.slice none 0 0, .slice none 0 0, .slice none 0 0]) rfl) ?_
      intro w1 hS
      refine OJ.pures tU_ok 1 rfl ?_
      refine OJ.nil (EJ.next ?_)
      refine CJ.ret (EJ.bkR (EJ.skR (?_)))
      replace hS := hS.addNil G.cs 9 none
      replace hS := hS.addNil (ci .i16) 73 none
      replace hS := hS.addNil (ci .u16) 74 none
      obtain rfl := Option.some.inj H
      exact EJ.fin rfl (.cell rfl (ldN tU_ok tI_ok rfl rfl rfl (hS.cells (i := 1) rfl) (ds := [.slice none 0 0, .slice none 0 0, .slice none 0 0]) rfl rfl) (.tmp rfl .nil)) ⟨none, 0, none, 0, none, 0, rfl, hS.pick [2, 3, 4] [] rfl⟩
    · replace H := pifb_f hb H
      obtain ⟨j77, H, K77⟩ := pbind H
      refine CJ.cut (fun F w1 => ∃ (y5 : Bool) , (some y5 : Option Bool) = some j77 ∧ F = [(1, .string a1), (2, .int .i64 a2), (3, .pointer (some ⟨b1, 0, none⟩)), (6, .pointer (some ⟨b2, 0, none⟩)), (18, .bool y5)] ∧ St w no w1 [box b1 ([.slice Aa0_0 a0.Names.length ca0_0, .slice Aa0_1 a0.Eats.length ca0_1, .slice Aa0_2 a0.Foes.length ca0_2]) 29, box b2 ([.slice none 0 0, .slice none 0 0, .slice none 0 0]) 29] [roC G.cs Aa0_0 ca0_0 a0.Names, roC (ci .i16) Aa0_1 ca0_1 a0.Eats, roC (ci .u16) Aa0_2 ca0_2 a0.Foes]) ?_ ?_
      · skip
        refine CJ.region ?_
        refine OJ.pures tU_ok 1 rfl ?_
        obtain ⟨t6, ht6, H⟩ := pbind H
        refine OJ.callF rfl rfl rfl rfl rfl hb88 rfl (spec_l06Name.c k _ a1 _ ht6) ?_
        rintro _ w1 ⟨rfl, hs⟩
        replace hS := hS.grow hs
        refine OJ.pures tU_ok 2 rfl ?_
        refine OJ.split (t := 22) rfl (fun hb => ?_) (fun hb => ?_)
        · replace H := pif_t hb H
          refine OJ.pures tU_ok 4 rfl ?_
          refine OJ.nil ?_
          exact EJ.meet (F' := [(1, .string a1), (2, .int .i64 a2), (3, .pointer (some ⟨b1, 0, none⟩)), (6, .pointer (some ⟨b2, 0, none⟩)), (18, .bool true)]) ⟨rfl, rfl, rfl, rfl, rfl, trivial⟩ ⟨true, H, rfl, hS.pick [0, 1] [0, 1, 2] rfl⟩
        · replace H := pifb_f hb H
          refine OJ.pures tU_ok 1 rfl ?_
          obtain ⟨t7, ht7, H⟩ := pbind H
          refine OJ.callF rfl rfl rfl rfl rfl hb74 rfl (spec_l06Named.c k _ Aa0_0 ca0_0 Aa0_1 ca0_1 Aa0_2 ca0_2 a0 (hS.rd' (i := 0) rfl) (hS.le' (i := 0) rfl) (hS.rd' (i := 1) rfl) (hS.le' (i := 1) rfl) (hS.rd' (i := 2) rfl) (hS.le' (i := 2) rfl) ⟨b1, 0, none⟩ (hS.cells (i := 0) rfl) a1 _ ht7) ?_
          rintro _ w1 ⟨rfl, hs⟩
          replace hS := hS.grow hs
          refine OJ.pures tU_ok 2 rfl ?_
          refine OJ.nil ?_
          exact EJ.meet (F' := [(1, .string a1), (2, .int .i64 a2), (3, .pointer (some ⟨b1, 0, none⟩)), (6, .pointer (some ⟨b2, 0, none⟩)), (18, .bool t7)]) ⟨rfl, rfl, rfl, rfl, rfl, trivial⟩ ⟨t7, H, rfl, hS.pick [0, 1] [0, 1, 2] rfl⟩
      · rintro F w1 ⟨y5, he, rfl, hS⟩
        obtain rfl := Option.some.inj he
        have H := K77
        refine CJ.cond rfl (fun hb => ?_) (fun hb => ?_)
        · replace H := pif_t hb H
          refine CJ.seq ?_
          refine CJ.region ?_
          refine OJ.st rfl rfl rfl (SR.build' tU_ok tI_ok rfl rfl rfl (zs := [.slice none 0 0, .slice none 0 0, .slice none 0 0]) rfl rfl rfl ([.slice none 0 0, .slice none 0 0, .slice none 0 0]) rfl) ?_
          refine OJ.es rfl rfl (Es.store tI_ok hS (i := 1) (vs := [.slice none 0 0, .slice none 0 0, .slice none 0 0]) rfl rfl rfl rfl rfl rfl rfl rfl (by intro u hu; simp only [List.mem_cons, List.not_mem_nil, or_false] at hu; rcases hu with rfl | rfl | rfl <;> rfl) (Nat.le_of_ble_eq_true rfl) ([.slice none 0 0, .slice none 0 0, .slice none 0 0]) rfl) ?_
          intro w1 hS
          refine OJ.pures tU_ok 1 rfl ?_
          refine OJ.nil (EJ.next ?_)
          refine CJ.ret (EJ.bkR (EJ.skR (?_)))
          replace hS := hS.addNil G.cs 9 none
          replace hS := hS.addNil (ci .i16) 73 none
          replace hS := hS.addNil (ci .u16) 74 none
          obtain rfl := Option.some.inj H
          exact EJ.fin rfl (.cell rfl (ldN tU_ok tI_ok rfl rfl rfl (hS.cells (i := 1) rfl) (ds := [.slice none 0 0, .slice none 0 0, .slice none 0 0]) rfl rfl) (.tmp rfl .nil)) ⟨none, 0, none, 0, none, 0, rfl, hS.pick [2, 3, 4] [] rfl⟩
        · replace H := pifb_f hb H
          refine CJ.seq ?_
          refine CJ.region ?_
          refine OJ.st rfl rfl rfl (SR.fieldAddr tU_ok tI_ok rfl rfl rfl rfl rfl rfl) ?_
          refine OJ.st rfl rfl rfl (SR.load rfl rfl (fun w' hx => ld1 tU_ok rfl rfl (CA.ext (CA.sub (hS.cells (i := 0) rfl) 0) hx) rfl)) ?_
          refine OJ.pures tU_ok 3 rfl ?_
          refine OJ.nil (EJ.next ?_)
          refine CJ.cond rfl (fun hb => ?_) (fun hb => ?_)
          · replace H := pif_t (of_decide_eq_true hb) H
            refine CJ.seq ?_
            refine CJ.region ?_
            refine OJ.st rfl rfl rfl (SR.build' tU_ok tI_ok rfl rfl rfl (zs := [.slice none 0 0, .slice none 0 0, .slice none 0 0]) rfl rfl rfl ([.slice none 0 0, .slice none 0 0, .slice none 0 0]) rfl) ?_
            refine OJ.es rfl rfl (Es.store tI_ok hS (i := 1) (vs := [.slice none 0 0, .slice none 0 0, .slice none 0 0]) rfl rfl rfl rfl rfl rfl rfl rfl (by intro u hu; simp only [List.mem_cons, List.not_mem_nil, or_false] at hu; rcases hu with rfl | rfl | rfl <;> rfl) (Nat.le_of_ble_eq_true rfl) ([.slice none 0 0, .slice none 0 0, .slice none 0 0]) rfl) ?_
            intro w1 hS
            refine OJ.pures tU_ok 1 rfl ?_
            refine OJ.nil (EJ.next ?_)
            refine CJ.ret (EJ.bkR (EJ.skR (?_)))
            replace hS := hS.addNil G.cs 9 none
            replace hS := hS.addNil (ci .i16) 73 none
            replace hS := hS.addNil (ci .u16) 74 none
            obtain rfl := Option.some.inj H
            exact EJ.fin rfl (.cell rfl (ldN tU_ok tI_ok rfl rfl rfl (hS.cells (i := 1) rfl) (ds := [.slice none 0 0, .slice none 0 0, .slice none 0 0]) rfl rfl) (.tmp rfl .nil)) ⟨none, 0, none, 0, none, 0, rfl, hS.pick [2, 3, 4] [] rfl⟩
          · replace H := pif_f (of_decide_eq_false hb) H
            refine CJ.skip (EJ.blk (EJ.next ?_))
            refine CJ.seq ?_
            refine CJ.region ?_
            obtain ⟨t8, ht8, H⟩ := pbind H
            refine OJ.callF rfl rfl rfl rfl rfl hb75 rfl (spec_l06Own.c _ Aa0_0 ca0_0 Aa0_1 ca0_1 Aa0_2 ca0_2 a0 (hS.rd' (i := 0) rfl) (hS.le' (i := 0) rfl) (hS.rd' (i := 1) rfl) (hS.le' (i := 1) rfl) (hS.rd' (i := 2) rfl) (hS.le' (i := 2) rfl) ⟨b1, 0, none⟩ (hS.cells (i := 0) rfl) _ ht8) ?_
            rintro _ w1 ⟨A9, c10, A11, c12, A13, c14, rfl, hs⟩
            replace hS := hS.addN hs
            refine OJ.ef rfl rfl rfl (Ef.alloc hS tI_ok rfl rfl ([.slice none 0 0, .slice none 0 0, .slice none 0 0]) rfl) ?_
            rintro _ w1 ⟨b15, rfl, hS⟩
            refine OJ.es rfl rfl (Es.store tI_ok hS (i := 5) (vs := [.slice A9 t8.Names.length c10, .slice A11 t8.Eats.length c12, .slice A13 t8.Foes.length c14]) rfl rfl rfl rfl rfl rfl rfl rfl (by intro u hu; simp only [List.mem_cons, List.not_mem_nil, or_false] at hu; rcases hu with rfl | rfl | rfl <;> rfl) (Nat.le_of_ble_eq_true rfl) ([.slice A9 t8.Names.length c10, .slice A11 t8.Eats.length c12, .slice A13 t8.Foes.length c14]) rfl) ?_
            intro w1 hS
            refine OJ.nil (EJ.next ?_)
            refine CJ.seq ?_
            refine CJ.region ?_
            refine OJ.st rfl rfl rfl (SR.fieldAddr tU_ok tI_ok rfl rfl rfl rfl rfl rfl) ?_
            refine OJ.st rfl rfl rfl (SR.load rfl rfl (fun w' hx => ld1 tU_ok rfl rfl (CA.ext (CA.sub (hS.cells (i := 5) rfl) 0) hx) rfl)) ?_
            refine OJ.pures tU_ok 1 rfl ?_
            refine OJ.ef rfl rfl rfl (Ef.lit tU_ok tI_ok hS (C := G.cs) rfl rfl rfl rfl rfl rfl ([a1] : List ByteArray) rfl rfl rfl rfl) ?_
            rintro _ w1 ⟨A16, rfl, hS⟩
            obtain ⟨u17, hu17, H⟩ := pbind H
            refine OJ.ew rfl rfl rfl (Ew.append tU_ok tI_ok (C := G.cs) (xs := t8.Names) (ys := ([a1] : List ByteArray)) hS (i := 2) rfl rfl rfl rfl rfl rfl rfl rfl rfl rfl rfl rfl rfl (hS.rd (i := 6) rfl) (chk_some hu17)) ?_
            rintro _ w1 ⟨A18, c19, rfl, hS⟩
            refine OJ.st rfl rfl rfl (SR.fieldAddr tU_ok tI_ok rfl rfl rfl rfl rfl rfl) ?_
            refine OJ.es rfl rfl (Es.store tI_ok hS (i := 5) (vs := [.slice A18 (t8.Names ++ ([a1] : List ByteArray)).length c19]) rfl rfl rfl (ad1 _ _) rfl rfl rfl rfl (one1 rfl) (Nat.le_of_ble_eq_true rfl) ([.slice A18 (t8.Names ++ ([a1] : List ByteArray)).length c19, .slice A11 t8.Eats.length c12, .slice A13 t8.Foes.length c14]) rfl) ?_
            intro w1 hS
            refine OJ.nil (EJ.next ?_)
            refine CJ.seq ?_
            refine CJ.region ?_
            refine OJ.st rfl rfl rfl (SR.fieldAddr tU_ok tI_ok rfl rfl rfl rfl rfl rfl) ?_
            refine OJ.st rfl rfl rfl (SR.load rfl rfl (fun w' hx => ld1 tU_ok rfl rfl (CA.ext (CA.sub (hS.cells (i := 5) rfl) 1) hx) rfl)) ?_
            refine OJ.pures tU_ok 2 rfl ?_
            refine OJ.ef rfl rfl rfl (Ef.lit tU_ok tI_ok hS (C := (ci .i16)) rfl rfl rfl rfl rfl rfl ([IntKind.i16.wrap a2] : List Int) rfl rfl rfl rfl) ?_
            rintro _ w1 ⟨A20, rfl, hS⟩
            obtain ⟨u21, hu21, H⟩ := pbind H
            refine OJ.ew rfl rfl rfl (Ew.append tU_ok tI_ok (C := (ci .i16)) (xs := t8.Eats) (ys := ([IntKind.i16.wrap a2] : List Int)) hS (i := 3) rfl rfl rfl rfl rfl rfl rfl rfl rfl rfl rfl rfl rfl (hS.rd (i := 7) rfl) (chk_some hu21)) ?_
            rintro _ w1 ⟨A22, c23, rfl, hS⟩
            refine OJ.st rfl rfl rfl (SR.fieldAddr tU_ok tI_ok rfl rfl rfl rfl rfl rfl) ?_
            refine OJ.es rfl rfl (Es.store tI_ok hS (i := 5) (vs := [.slice A22 (t8.Eats ++ ([IntKind.i16.wrap a2] : List Int)).length c23]) rfl rfl rfl (ad1 _ _) rfl rfl rfl rfl (one1 rfl) (Nat.le_of_ble_eq_true rfl) ([.slice A18 (t8.Names ++ ([a1] : List ByteArray)).length c19, .slice A22 (t8.Eats ++ ([IntKind.i16.wrap a2] : List Int)).length c23, .slice A13 t8.Foes.length c14]) rfl) ?_
            intro w1 hS
            refine OJ.nil (EJ.next ?_)
            refine CJ.seq ?_
            refine CJ.region ?_
            refine OJ.st rfl rfl rfl (SR.fieldAddr tU_ok tI_ok rfl rfl rfl rfl rfl rfl) ?_
            refine OJ.st rfl rfl rfl (SR.load rfl rfl (fun w' hx => ld1 tU_ok rfl rfl (CA.ext (CA.sub (hS.cells (i := 5) rfl) 2) hx) rfl)) ?_
            refine OJ.ef rfl rfl rfl (Ef.lit tU_ok tI_ok hS (C := (ci .u16)) rfl rfl rfl rfl rfl rfl ([0] : List Int) rfl rfl rfl rfl) ?_
            rintro _ w1 ⟨A24, rfl, hS⟩
            obtain ⟨u25, hu25, H⟩ := pbind H
            refine OJ.ew rfl rfl rfl (Ew.append tU_ok tI_ok (C := (ci .u16)) (xs := t8.Foes) (ys := ([0] : List Int)) hS (i := 4) rfl rfl rfl rfl rfl rfl rfl rfl rfl rfl rfl rfl rfl (hS.rd (i := 8) rfl) (chk_some hu25)) ?_
            rintro _ w1 ⟨A26, c27, rfl, hS⟩
            refine OJ.st rfl rfl rfl (SR.fieldAddr tU_ok tI_ok rfl rfl rfl rfl rfl rfl) ?_
            refine OJ.es rfl rfl (Es.store tI_ok hS (i := 5) (vs := [.slice A26 (t8.Foes ++ ([0] : List Int)).length c27]) rfl rfl rfl (ad1 _ _) rfl rfl rfl rfl (one1 rfl) (Nat.le_of_ble_eq_true rfl) ([.slice A18 (t8.Names ++ ([a1] : List ByteArray)).length c19, .slice A22 (t8.Eats ++ ([IntKind.i16.wrap a2] : List Int)).length c23, .slice A26 (t8.Foes ++ ([0] : List Int)).length c27]) rfl) ?_
            intro w1 hS
            refine OJ.nil (EJ.next ?_)
            refine CJ.seq ?_
            refine CJ.region ?_
            refine OJ.st rfl rfl rfl (SR.load rfl rfl (fun w' hx => ldN tU_ok tI_ok rfl rfl rfl (CA.ext (hS.cells (i := 5) rfl) hx) (ds := [.slice A18 (t8.Names ++ ([a1] : List ByteArray)).length c19, .slice A22 (t8.Eats ++ ([IntKind.i16.wrap a2] : List Int)).length c23, .slice A26 (t8.Foes ++ ([0] : List Int)).length c27]) rfl rfl)) ?_
            refine OJ.es rfl rfl (Es.store tI_ok hS (i := 1) (vs := [.slice A18 (t8.Names ++ ([a1] : List ByteArray)).length c19, .slice A22 (t8.Eats ++ ([IntKind.i16.wrap a2] : List Int)).length c23, .slice A26 (t8.Foes ++ ([0] : List Int)).length c27]) rfl rfl rfl rfl rfl rfl rfl rfl (by intro u hu; simp only [List.mem_cons, List.not_mem_nil, or_false] at hu; rcases hu with rfl | rfl | rfl <;> rfl) (Nat.le_of_ble_eq_true rfl) ([.slice A18 (t8.Names ++ ([a1] : List ByteArray)).length c19, .slice A22 (t8.Eats ++ ([IntKind.i16.wrap a2] : List Int)).length c23, .slice A26 (t8.Foes ++ ([0] : List Int)).length c27]) rfl) ?_
            intro w1 hS
            refine OJ.pures tU_ok 1 rfl ?_
            refine OJ.nil (EJ.next ?_)
            refine CJ.ret (?_)
            obtain rfl := Option.some.inj H
            exact EJ.fin rfl (.cell rfl (ldN tU_ok tI_ok rfl rfl rfl (hS.cells (i := 1) rfl) (ds := [.slice A18 (t8.Names ++ ([a1] : List ByteArray)).length c19, .slice A22 (t8.Eats ++ ([IntKind.i16.wrap a2] : List Int)).length c23, .slice A26 (t8.Foes ++ ([0] : List Int)).length c27]) rfl rfl) (.tmp rfl .nil)) ⟨A18, c19, A22, c23, A26, c27, rfl, hS.pick [2, 3, 4] [] rfl⟩

def slices_IndexFunc_int64_int64.l1 (a0 : List Int) (a1 : Int → Option Bool) : Nat → Int → Option (Int ⊕ Unit)
  | 0, _ => none
  | k + 1, y1 => if y1 < (a0.length : Int) then ((getI a0 y1).bind fun t2 => (a1 t2).bind fun t3 => if t3 = true then (some (Sum.inl y1)) else (slices_IndexFunc_int64_int64.l1 a0 a1 k (IntKind.i64.wrap (y1 + 1)))) else (some (Sum.inr ()))
def slices_IndexFunc_int64_int64.f (k : Nat) (a0 : List Int) (a1 : Int → Option Bool) : Option Int := (slices_IndexFunc_int64_int64.l1 a0 a1 k 0).bind fun s79 => match s79 with | .inl r => some r | .inr _ => some (-1)
theorem slices_IndexFunc_int64_int64.c (k : Nat) (w : World) (Aa0 : Option Addr) (ca0 : Nat) (a0 : List Int) (hr0 : Rd (ci .i64) w Aa0 a0) (hc0 : a0.length ≤ ca0) (na1 : Nat) (fsa1 capa1 : Array Value) (hb1 : hasBody Tryd.prog na1) (a1 : Int → Option Bool) (hf1 : ∀ (z0 : Int) (r : Bool), a1 z0 = some r → ∀ w', Chg no w w' → CV Tryd.prog na1 (fsa1 ++ [.int .i64 z0].toArray ++ capa1) w' fun v w'' => v = .bool r ∧ Ext w' w'') (r : Int) (H : slices_IndexFunc_int64_int64.f k a0 a1 = some r) :
    CV Tryd.prog 118 [.slice Aa0 a0.length ca0, .func (.func na1) fsa1 capa1].toArray w fun v w' => v = .int .i64 r ∧ Ext w w' := by
  have hS := ((St.init w no).param (ci .i64) Aa0 ca0 a0 hr0 hc0)
  unfold slices_IndexFunc_int64_int64.f at H
  refine CV.body Tryd.func118 rfl Tryd.ntmps118 rfl ?_
  refine CJ.seq ?_
  refine CJ.region ?_
  refine OJ.pures tU_ok 1 rfl ?_
  refine OJ.nil (EJ.next ?_)
  refine CJ.seq ?_
  refine CJ.seq ?_
  refine CJ.region ?_
  refine OJ.pures tU_ok 3 rfl ?_
  refine OJ.nil (EJ.next ?_)
  obtain ⟨j79, H, K79⟩ := pbind H
  refine CJ.cut1 (fun F w1 => (some (Sum.inr ()) : Option (Int ⊕ Unit)) = some j79 ∧ F = [] ∧ St w no w1 [] [roC (ci .i64) Aa0 ca0 a0]) ?_ ?_
  · skip
    refine CJ.block ?_
    refine CJ.loop (fun k F w1 => ∃ (y1 : Int), F = [(0, .slice Aa0 a0.length ca0), (1, .func (.func na1) fsa1 capa1), (7, .int .i64 (a0.length : Int)), (8, .int .i64 y1)] ∧ St w no w1 [] [roC (ci .i64) Aa0 ca0 a0] ∧ slices_IndexFunc_int64_int64.l1 a0 a1 k y1 = some j79) k (F' := [(0, .slice Aa0 a0.length ca0), (1, .func (.func na1) fsa1 capa1), (7, .int .i64 (a0.length : Int)), (8, .int .i64 0)]) ⟨rfl, rfl, rfl, rfl, trivial⟩ ⟨0, rfl, hS.pick [] [0] rfl, H⟩ ?_
    rintro k F w1 ⟨y1, rfl, hS, H⟩
    cases k with
    | zero => rw [slices_IndexFunc_int64_int64.l1] at H; cases H
    | succ k =>
      rw [slices_IndexFunc_int64_int64.l1] at H
      refine CJ.seq ?_
      refine CJ.region ?_
      refine OJ.pures tU_ok 1 rfl ?_
      refine OJ.nil (EJ.next ?_)
      refine CJ.seq ?_
      refine CJ.cond rfl (fun hb => ?_) (fun hb => ?_)
      · replace H := pif_t (of_decide_eq_true hb) H
        refine CJ.skip (EJ.next ?_)
        refine CJ.seq ?_
        refine CJ.block ?_
        refine CJ.seq ?_
        refine CJ.region ?_
        refine OJ.pures tU_ok 2 rfl ?_
        refine OJ.nil (EJ.next ?_)
        refine CJ.seq ?_
        refine CJ.region ?_
        refine OJ.pures tU_ok 3 rfl ?_
        obtain ⟨t2, ht2, H⟩ := pbind H
        obtain ⟨ad2, e2⟩ := (hS.rd' (i := 0) rfl).some' ht2
        refine OJ.st rfl rfl rfl (SR.idxS tU_ok tI_ok rfl rfl rfl rfl e2 rfl (getI_some ht2).1) ?_
        refine OJ.st rfl rfl rfl (SR.load rfl rfl (fun w' hx => ld1 tU_ok rfl rfl (CA.ext ((hS.rd' (i := 0) rfl).at_ e2 ht2) hx) rfl)) ?_
        obtain ⟨t3, ht3, H⟩ := pbind H
        refine OJ.call rfl rfl (Nat.le_of_ble_eq_true rfl) rfl rfl rfl hb1 rfl (hf1 t2 _ ht3 _ hS.chg) ?_
        rintro _ w1 ⟨rfl, hs⟩
        replace hS := hS.grow hs
        refine OJ.nil (EJ.next ?_)
        refine CJ.cond rfl (fun hb => ?_) (fun hb => ?_)
        · replace H := pif_t hb H
          refine CJ.seq ?_
          refine CJ.region ?_
          refine OJ.pures tU_ok 2 rfl ?_
          refine OJ.nil (EJ.next ?_)
          refine CJ.ret (EJ.bkR (EJ.skR (EJ.skR (EJ.bkR (EJ.skR (EJ.skR (?_)))))))
          first | (obtain rfl := Option.some.inj H; have H := K79) | (obtain ⟨q79, H2, e79⟩ := pbind H; obtain rfl := Option.some.inj e79; obtain rfl := Option.some.inj K79; have H := H2)
          obtain rfl := Option.some.inj H
          exact EJ.fin rfl (.tmp rfl .nil) ⟨rfl, hS.ext⟩
        · replace H := pifb_f hb H
          refine CJ.skip (EJ.blk (EJ.next ?_))
          refine CJ.region ?_
          refine OJ.pures tU_ok 2 rfl ?_
          refine OJ.nil ?_
          exact EJ.round k (F' := [(0, .slice Aa0 a0.length ca0), (1, .func (.func na1) fsa1 capa1), (7, .int .i64 (a0.length : Int)), (8, .int .i64 (IntKind.i64.wrap (y1 + 1)))]) ⟨rfl, rfl, rfl, rfl, trivial⟩ (Nat.lt_succ_self _) ⟨(IntKind.i64.wrap (y1 + 1)), rfl, hS.pick [] [0] rfl, H⟩
      · replace H := pif_f (of_decide_eq_false hb) H
        refine CJ.exit (EJ.skE (EJ.skE (EJ.hit (?_))))
        exact EJ.meet (F' := []) trivial ⟨H, rfl, hS.pick [] [0] rfl⟩
  · rintro F w1 ⟨he, rfl, hS⟩
    obtain rfl := Option.some.inj he
    have H := K79
    refine EJ.next ?_
    refine CJ.seq ?_
    refine CJ.region ?_
    refine OJ.pures tU_ok 1 rfl ?_
    refine OJ.nil (EJ.next ?_)
    refine CJ.ret (?_)
    obtain rfl := Option.some.inj H
    exact EJ.fin rfl (.tmp rfl .nil) ⟨rfl, hS.ext⟩

def slices_ContainsFunc_int64_int64.f (k : Nat) (a0 : List Int) (a1 : Int → Option Bool) : Option Bool := (slices_IndexFunc_int64_int64.f k a0 a1).bind fun t1 => some (decide (0 ≤ t1))
theorem slices_ContainsFunc_int64_int64.c (k : Nat) (w : World) (Aa0 : Option Addr) (ca0 : Nat) (a0 : List Int) (hr0 : Rd (ci .i64) w Aa0 a0) (hc0 : a0.length ≤ ca0) (na1 : Nat) (fsa1 capa1 : Array Value) (hb1 : hasBody Tryd.prog na1) (a1 : Int → Option Bool) (hf1 : ∀ (z0 : Int) (r : Bool), a1 z0 = some r → ∀ w', Chg no w w' → CV Tryd.prog na1 (fsa1 ++ [.int .i64 z0].toArray ++ capa1) w' fun v w'' => v = .bool r ∧ Ext w' w'') (r : Bool) (H : slices_ContainsFunc_int64_int64.f k a0 a1 = some r) :
    CV Tryd.prog 95 [.slice Aa0 a0.length ca0, .func (.func na1) fsa1 capa1].toArray w fun v w' => v = .bool r ∧ Ext w w' := by
  have hS := ((St.init w no).param (ci .i64) Aa0 ca0 a0 hr0 hc0)
  unfold slices_ContainsFunc_int64_int64.f at H
  refine CV.body Tryd.func95 rfl Tryd.ntmps95 rfl ?_
  refine CJ.seq ?_
  refine CJ.region ?_
  refine OJ.pures tU_ok 1 rfl ?_
  refine OJ.nil (EJ.next ?_)
  refine CJ.seq ?_
  refine CJ.region ?_
  refine OJ.pures tU_ok 2 rfl ?_
  obtain ⟨t1, ht1, H⟩ := pbind H
  refine OJ.callF rfl rfl rfl rfl rfl hb118 rfl (slices_IndexFunc_int64_int64.c k _ Aa0 ca0 a0 (hS.rd' (i := 0) rfl) (hS.le' (i := 0) rfl) na1 fsa1 capa1 hb1 a1 (fun z0 r h w' hx => hf1 z0 r h w' (hS.chg.then hx (fun _ _ e => e.elim))) _ ht1) ?_
  rintro _ w1 ⟨rfl, hs⟩
  replace hS := hS.grow hs
  refine OJ.pures tU_ok 2 rfl ?_
  refine OJ.nil (EJ.next ?_)
  refine CJ.ret (?_)
  obtain rfl := Option.some.inj H
  exact EJ.fin rfl (.tmp rfl .nil) ⟨rfl, hS.ext⟩

def impl_herdCode_1.f (a1 : Herd) (a0 : Int) : Option Bool := (impl_Herd_many.f a1).bind fun t1 => (impl_within.f a0 0 (IntKind.i64.wrap (t1 - 1))).bind fun t2 => some (!t2)
theorem impl_herdCode_1.c (w : World) (Aa1_0 : Option Addr) (ca1_0 : Nat) (Aa1_1 : Option Addr) (ca1_1 : Nat) (Aa1_2 : Option Addr) (ca1_2 : Nat) (a1 : Herd) (hr1_0 : Rd G.cs w Aa1_0 a1.Names) (hc1_0 : a1.Names.length ≤ ca1_0) (hr1_1 : Rd (ci .i16) w Aa1_1 a1.Eats) (hc1_1 : a1.Eats.length ≤ ca1_1) (hr1_2 : Rd (ci .u16) w Aa1_2 a1.Foes) (hc1_2 : a1.Foes.length ≤ ca1_2) (pa1 : Addr) (hp1 : CA w pa1 ([.slice Aa1_0 a1.Names.length ca1_0, .slice Aa1_1 a1.Eats.length ca1_1, .slice Aa1_2 a1.Foes.length ca1_2])) (a0 : Int) (r : Bool) (H : impl_herdCode_1.f a1 a0 = some r) :
    CV Tryd.prog 96 [.int .i64 a0, .pointer (some pa1)].toArray w fun v w' => v = .bool r ∧ Ext w w' := by
  have hS := (((((St.init w no).param G.cs Aa1_0 ca1_0 a1.Names hr1_0 hc1_0).param (ci .i16) Aa1_1 ca1_1 a1.Eats hr1_1 hc1_1).param (ci .u16) Aa1_2 ca1_2 a1.Foes hr1_2 hc1_2).paramP pa1 ([.slice Aa1_0 a1.Names.length ca1_0, .slice Aa1_1 a1.Eats.length ca1_1, .slice Aa1_2 a1.Foes.length ca1_2]) hp1)
  unfold impl_herdCode_1.f at H
  refine CV.body Tryd.func96 rfl Tryd.ntmps96 rfl ?_
  refine CJ.seq ?_
  refine CJ.region ?_
  refine OJ.pures tU_ok 1 rfl ?_
  refine OJ.nil (EJ.next ?_)
  refine CJ.seq ?_
  refine CJ.region ?_
  refine OJ.pures tU_ok 1 rfl ?_
  refine OJ.st rfl rfl rfl (SR.load rfl rfl (fun w' hx => ldN tU_ok tI_ok rfl rfl rfl (CA.ext (hS.ca (i := 3) rfl) hx) (ds := [.slice Aa1_0 a1.Names.length ca1_0, .slice Aa1_1 a1.Eats.length ca1_1, .slice Aa1_2 a1.Foes.length ca1_2]) rfl rfl)) ?_
  obtain ⟨t1, ht1, H⟩ := pbind H
  refine OJ.callF rfl rfl rfl rfl rfl hb78 rfl (impl_Herd_many.c _ Aa1_0 ca1_0 Aa1_1 ca1_1 Aa1_2 ca1_2 a1 (hS.rd' (i := 0) rfl) (hS.le' (i := 0) rfl) (hS.rd' (i := 1) rfl) (hS.le' (i := 1) rfl) (hS.rd' (i := 2) rfl) (hS.le' (i := 2) rfl) _ ht1) ?_
  rintro _ w1 ⟨rfl, hs⟩
  replace hS := hS.grow hs
  refine OJ.pures tU_ok 1 rfl ?_
  obtain ⟨t2, ht2, H⟩ := pbind H
  refine OJ.callF rfl rfl rfl rfl rfl hb57 rfl (impl_within.c _ a0 0 (IntKind.i64.wrap (t1 - 1)) _ ht2) ?_
  rintro _ w1 ⟨rfl, hs⟩
  replace hS := hS.grow hs
  refine OJ.pures tU_ok 2 rfl ?_
  refine OJ.nil (EJ.next ?_)
  refine CJ.ret (?_)
  obtain rfl := Option.some.inj H
  exact EJ.fin rfl (.tmp rfl .nil) ⟨rfl, hS.ext⟩

def impl_unless.f (a0 : Bool) (a1 : Int) : Option Int := if a0 = true then (some 0) else (some a1)
theorem impl_unless.c (w : World) (a0 : Bool) (a1 : Int) (r : Int) (H : impl_unless.f a0 a1 = some r) :
    CV Tryd.prog 90 [.bool a0, .int .i64 a1].toArray w fun v w' => v = .int .i64 r ∧ Ext w w' := by
  have hS := (St.init w no)
  unfold impl_unless.f at H
  refine CV.body Tryd.func90 rfl Tryd.ntmps90 rfl ?_
  refine CJ.seq ?_
  refine CJ.region ?_
  refine OJ.pures tU_ok 1 rfl ?_
  refine OJ.nil (EJ.next ?_)
  refine CJ.seq ?_
  refine CJ.seq ?_
  refine CJ.region ?_
  refine OJ.pures tU_ok 1 rfl ?_
  refine OJ.nil (EJ.next ?_)
  refine CJ.cond rfl (fun hb => ?_) (fun hb => ?_)
  · replace H := pif_t hb H
    refine CJ.seq ?_
    refine CJ.region ?_
    refine OJ.pures tU_ok 1 rfl ?_
    refine OJ.nil (EJ.next ?_)
    refine CJ.ret (EJ.skR (?_))
    obtain rfl := Option.some.inj H
    exact EJ.fin rfl (.tmp rfl .nil) ⟨rfl, hS.ext⟩
  · replace H := pifb_f hb H
    refine CJ.skip (EJ.next ?_)
    refine CJ.seq ?_
    refine CJ.region ?_
    refine OJ.pures tU_ok 2 rfl ?_
    refine OJ.nil (EJ.next ?_)
    refine CJ.ret (?_)
    obtain rfl := Option.some.inj H
    exact EJ.fin rfl (.tmp rfl .nil) ⟨rfl, hS.ext⟩

def impl_herdCode.f (k : Nat) (a0 : Herd) (a1 : List Int) : Option Int := (impl_ValidHerd.f k a0).bind fun t2 => if (!t2) = true then (some 1) else ((slices_ContainsFunc_int64_int64.f k a1 (impl_herdCode_1.f a0)).bind fun t3 => (impl_unless.f (!t3) 2).bind fun t4 => some t4)
theorem impl_herdCode.c (k : Nat) (w : World) (Aa0_0 : Option Addr) (ca0_0 : Nat) (Aa0_1 : Option Addr) (ca0_1 : Nat) (Aa0_2 : Option Addr) (ca0_2 : Nat) (a0 : Herd) (hr0_0 : Rd G.cs w Aa0_0 a0.Names) (hc0_0 : a0.Names.length ≤ ca0_0) (hr0_1 : Rd (ci .i16) w Aa0_1 a0.Eats) (hc0_1 : a0.Eats.length ≤ ca0_1) (hr0_2 : Rd (ci .u16) w Aa0_2 a0.Foes) (hc0_2 : a0.Foes.length ≤ ca0_2) (Aa1 : Option Addr) (ca1 : Nat) (a1 : List Int) (hr1 : Rd (ci .i64) w Aa1 a1) (hc1 : a1.length ≤ ca1) (r : Int) (H : impl_herdCode.f k a0 a1 = some r) :
    CV Tryd.prog 64 [.agg [.slice Aa0_0 a0.Names.length ca0_0, .slice Aa0_1 a0.Eats.length ca0_1, .slice Aa0_2 a0.Foes.length ca0_2].toArray, .slice Aa1 a1.length ca1].toArray w fun v w' => v = .int .i64 r ∧ Ext w w' := by
  have hS := (((((St.init w no).param G.cs Aa0_0 ca0_0 a0.Names hr0_0 hc0_0).param (ci .i16) Aa0_1 ca0_1 a0.Eats hr0_1 hc0_1).param (ci .u16) Aa0_2 ca0_2 a0.Foes hr0_2 hc0_2).param (ci .i64) Aa1 ca1 a1 hr1 hc1)
  unfold impl_herdCode.f at H
  refine CV.body Tryd.func64 rfl Tryd.ntmps64 rfl ?_
  refine CJ.seq ?_
  refine CJ.region ?_
  refine OJ.ef rfl rfl rfl (Ef.box hS rfl rfl ([.slice Aa0_0 a0.Names.length ca0_0, .slice Aa0_1 a0.Eats.length ca0_1, .slice Aa0_2 a0.Foes.length ca0_2]) rfl) ?_
  rintro _ w1 ⟨b1, rfl, hS⟩
  refine OJ.pures tU_ok 1 rfl ?_
  refine OJ.nil (EJ.next ?_)
  refine CJ.seq ?_
  refine CJ.seq ?_
  refine CJ.region ?_
  refine OJ.st rfl rfl rfl (SR.load rfl rfl (fun w' hx => ldN tU_ok tI_ok rfl rfl rfl (CA.ext (hS.cells (i := 0) rfl) hx) (ds := [.slice Aa0_0 a0.Names.length ca0_0, .slice Aa0_1 a0.Eats.length ca0_1, .slice Aa0_2 a0.Foes.length ca0_2]) rfl rfl)) ?_
  obtain ⟨t2, ht2, H⟩ := pbind H
  refine OJ.callF rfl rfl rfl rfl rfl hb17 rfl (impl_ValidHerd.c k _ Aa0_0 ca0_0 Aa0_1 ca0_1 Aa0_2 ca0_2 a0 (hS.rd' (i := 0) rfl) (hS.le' (i := 0) rfl) (hS.rd' (i := 1) rfl) (hS.le' (i := 1) rfl) (hS.rd' (i := 2) rfl) (hS.le' (i := 2) rfl) _ ht2) ?_
  rintro _ w1 ⟨rfl, hs⟩
  replace hS := hS.grow hs
  refine OJ.pures tU_ok 1 rfl ?_
  refine OJ.nil (EJ.next ?_)
  refine CJ.cond rfl (fun hb => ?_) (fun hb => ?_)
  · replace H := pif_t hb H
    refine CJ.seq ?_
    refine CJ.region ?_
    refine OJ.pures tU_ok 1 rfl ?_
    refine OJ.nil (EJ.next ?_)
    refine CJ.ret (EJ.skR (?_))
    obtain rfl := Option.some.inj H
    exact EJ.fin rfl (.tmp rfl .nil) ⟨rfl, hS.ext⟩
  · replace H := pifb_f hb H
    refine CJ.skip (EJ.next ?_)
    refine CJ.seq ?_
    refine CJ.region ?_
    refine OJ.pures tU_ok 2 rfl ?_
    obtain ⟨t3, ht3, H⟩ := pbind H
    refine OJ.callF rfl rfl rfl rfl rfl hb95 rfl (slices_ContainsFunc_int64_int64.c k _ Aa1 ca1 a1 (hS.rd' (i := 3) rfl) (hS.le' (i := 3) rfl) 96 #[] #[.pointer (some ⟨b1, 0, none⟩)] hb96 (impl_herdCode_1.f a0) (fun z0 r h w' hx => CV.cast (impl_herdCode_1.c w' Aa0_0 ca0_0 Aa0_1 ca0_1 Aa0_2 ca0_2 a0 ((hS.rd' (i := 0) rfl).ext hx) (hS.le' (i := 0) rfl) ((hS.rd' (i := 1) rfl).ext hx) (hS.le' (i := 1) rfl) ((hS.rd' (i := 2) rfl).ext hx) (hS.le' (i := 2) rfl) ⟨b1, 0, none⟩ (CA.ext (hS.cells (i := 0) rfl) hx)  z0 r h) (by simp)) _ ht3) ?_
    rintro _ w1 ⟨rfl, hs⟩
    replace hS := hS.grow hs
    refine OJ.pures tU_ok 1 rfl ?_
    obtain ⟨t4, ht4, H⟩ := pbind H
    refine OJ.callF rfl rfl rfl rfl rfl hb90 rfl (impl_unless.c _ (!t3) 2 _ ht4) ?_
    rintro _ w1 ⟨rfl, hs⟩
    replace hS := hS.grow hs
    refine OJ.pures tU_ok 1 rfl ?_
    refine OJ.nil (EJ.next ?_)
    refine CJ.ret (?_)
    obtain rfl := Option.some.inj H
    exact EJ.fin rfl (.tmp rfl .nil) ⟨rfl, hS.ext⟩

def impl_firstOf.l1 (a0 : List Int) : Nat → Int → Option (Int ⊕ Unit)
  | 0, _ => none
  | k + 1, y1 => if y1 < (a0.length : Int) then ((getI a0 y1).bind fun t2 => if t2 ≠ 0 then (some (Sum.inl t2)) else (impl_firstOf.l1 a0 k (IntKind.i64.wrap (y1 + 1)))) else (some (Sum.inr ()))
def impl_firstOf.f (k : Nat) (a0 : List Int) : Option Int := (impl_firstOf.l1 a0 k 0).bind fun s80 => match s80 with | .inl r => some r | .inr _ => some 0
theorem impl_firstOf.c (k : Nat) (w : World) (Aa0 : Option Addr) (ca0 : Nat) (a0 : List Int) (hr0 : Rd (ci .i64) w Aa0 a0) (hc0 : a0.length ≤ ca0) (r : Int) (H : impl_firstOf.f k a0 = some r) :
    CV Tryd.prog 89 [.slice Aa0 a0.length ca0].toArray w fun v w' => v = .int .i64 r ∧ Ext w w' := by
  have hS := ((St.init w no).param (ci .i64) Aa0 ca0 a0 hr0 hc0)
  unfold impl_firstOf.f at H
  refine CV.body Tryd.func89 rfl Tryd.ntmps89 rfl ?_
  refine CJ.seq ?_
  refine CJ.region ?_
  refine OJ.pures tU_ok 1 rfl ?_
  refine OJ.nil (EJ.next ?_)
  refine CJ.seq ?_
  refine CJ.seq ?_
  refine CJ.region ?_
  refine OJ.pures tU_ok 3 rfl ?_
  refine OJ.nil (EJ.next ?_)
  obtain ⟨j80, H, K80⟩ := pbind H
  refine CJ.cut1 (fun F w1 => (some (Sum.inr ()) : Option (Int ⊕ Unit)) = some j80 ∧ F = [] ∧ St w no w1 [] [roC (ci .i64) Aa0 ca0 a0]) ?_ ?_
  · skip
    refine CJ.block ?_
    refine CJ.loop (fun k F w1 => ∃ (y1 : Int), F = [(5, .slice Aa0 a0.length ca0), (6, .int .i64 (a0.length : Int)), (7, .int .i64 y1)] ∧ St w no w1 [] [roC (ci .i64) Aa0 ca0 a0] ∧ impl_firstOf.l1 a0 k y1 = some j80) k (F' := [(5, .slice Aa0 a0.length ca0), (6, .int .i64 (a0.length : Int)), (7, .int .i64 0)]) ⟨rfl, rfl, rfl, trivial⟩ ⟨0, rfl, hS.pick [] [0] rfl, H⟩ ?_
    rintro k F w1 ⟨y1, rfl, hS, H⟩
    cases k with
    | zero => rw [impl_firstOf.l1] at H; cases H
    | succ k =>
      rw [impl_firstOf.l1] at H
      refine CJ.seq ?_
      refine CJ.region ?_
      refine OJ.pures tU_ok 1 rfl ?_
      refine OJ.nil (EJ.next ?_)
      refine CJ.seq ?_
      refine CJ.cond rfl (fun hb => ?_) (fun hb => ?_)
      · replace H := pif_t (of_decide_eq_true hb) H
        refine CJ.skip (EJ.next ?_)
        refine CJ.seq ?_
        refine CJ.block ?_
        refine CJ.seq ?_
        refine CJ.region ?_
        obtain ⟨t2, ht2, H⟩ := pbind H
        obtain ⟨ad2, e2⟩ := (hS.rd' (i := 0) rfl).some' ht2
        refine OJ.st rfl rfl rfl (SR.idxS tU_ok tI_ok rfl rfl rfl rfl e2 rfl (getI_some ht2).1) ?_
        refine OJ.st rfl rfl rfl (SR.load rfl rfl (fun w' hx => ld1 tU_ok rfl rfl (CA.ext ((hS.rd' (i := 0) rfl).at_ e2 ht2) hx) rfl)) ?_
        refine OJ.pures tU_ok 1 rfl ?_
        refine OJ.nil (EJ.next ?_)
        refine CJ.seq ?_
        refine CJ.region ?_
        refine OJ.pures tU_ok 2 rfl ?_
        refine OJ.nil (EJ.next ?_)
        refine CJ.cond rfl (fun hb => ?_) (fun hb => ?_)
        · replace H := pif_t (of_decide_eq_true hb) H
          refine CJ.seq ?_
          refine CJ.region ?_
          refine OJ.pures tU_ok 2 rfl ?_
          refine OJ.nil (EJ.next ?_)
          refine CJ.ret (EJ.bkR (EJ.skR (EJ.skR (EJ.bkR (EJ.skR (EJ.skR (?_)))))))
          first | (obtain rfl := Option.some.inj H; have H := K80) | (obtain ⟨q80, H2, e80⟩ := pbind H; obtain rfl := Option.some.inj e80; obtain rfl := Option.some.inj K80; have H := H2)
          obtain rfl := Option.some.inj H
          exact EJ.fin rfl (.tmp rfl .nil) ⟨rfl, hS.ext⟩
        · replace H := pif_f (of_decide_eq_false hb) H
          refine CJ.skip (EJ.blk (EJ.next ?_))
          refine CJ.region ?_
          refine OJ.pures tU_ok 2 rfl ?_
          refine OJ.nil ?_
          exact EJ.round k (F' := [(5, .slice Aa0 a0.length ca0), (6, .int .i64 (a0.length : Int)), (7, .int .i64 (IntKind.i64.wrap (y1 + 1)))]) ⟨rfl, rfl, rfl, trivial⟩ (Nat.lt_succ_self _) ⟨(IntKind.i64.wrap (y1 + 1)), rfl, hS.pick [] [0] rfl, H⟩
      · replace H := pif_f (of_decide_eq_false hb) H
        refine CJ.exit (EJ.skE (EJ.skE (EJ.hit (?_))))
        exact EJ.meet (F' := []) trivial ⟨H, rfl, hS.pick [] [0] rfl⟩
  · rintro F w1 ⟨he, rfl, hS⟩
    obtain rfl := Option.some.inj he
    have H := K80
    refine EJ.next ?_
    refine CJ.seq ?_
    refine CJ.region ?_
    refine OJ.pures tU_ok 1 rfl ?_
    refine OJ.nil (EJ.next ?_)
    refine CJ.ret (?_)
    obtain rfl := Option.some.inj H
    exact EJ.fin rfl (.tmp rfl .nil) ⟨rfl, hS.ext⟩

def impl_AddToHerd.f (k : Nat) (a0 : Herd) (a1 : ByteArray) (a2 : Int) : Option (Herd × Int) := ((impl_isName.f k a1).bind fun t4 => if t4 = true then ((slices_Contains_string_string.f k a0.Names a1).bind fun t5 => some (!t5)) else (some false)).bind fun y3 => (impl_herdCode.f k a0 []).bind fun t6 => (impl_within.f a2 0 100).bind fun t7 => (impl_unless.f t7 2).bind fun t8 => (impl_unless.f y3 4).bind fun t9 => (impl_Herd_many.f a0).bind fun t10 => (impl_unless.f (decide (t10 < 14)) 3).bind fun t11 => (impl_firstOf.f k ([t6, t8, t9, t11] : List Int)).bind fun t13 => if t13 ≠ 0 then (some ((⟨[], [], []⟩ : Herd), t13)) else ((impl_Herd_own.f a0).bind fun t14 => (chk (t14.Names.length + ([a1] : List ByteArray).length ≤ 4294967296)).bind fun u23 => (chk (t14.Eats.length + ([IntKind.i16.wrap a2] : List Int).length ≤ 4294967296)).bind fun u27 => (chk (t14.Foes.length + ([0] : List Int).length ≤ 4294967296)).bind fun u31 => some ((⟨t14.Names ++ ([a1] : List ByteArray), t14.Eats ++ ([IntKind.i16.wrap a2] : List Int), t14.Foes ++ ([0] : List Int)⟩ : Herd), 0))
theorem impl_AddToHerd.c (k : Nat) (w : World) (Aa0_0 : Option Addr) (ca0_0 : Nat) (Aa0_1 : Option Addr) (ca0_1 : Nat) (Aa0_2 : Option Addr) (ca0_2 : Nat) (a0 : Herd) (hr0_0 : Rd G.cs w Aa0_0 a0.Names) (hc0_0 : a0.Names.length ≤ ca0_0) (hr0_1 : Rd (ci .i16) w Aa0_1 a0.Eats) (hc0_1 : a0.Eats.length ≤ ca0_1) (hr0_2 : Rd (ci .u16) w Aa0_2 a0.Foes) (hc0_2 : a0.Foes.length ≤ ca0_2) (a1 : ByteArray) (a2 : Int) (r : Herd × Int) (H : impl_AddToHerd.f k a0 a1 a2 = some r) :
    CV Tryd.prog 45 [.agg [.slice Aa0_0 a0.Names.length ca0_0, .slice Aa0_1 a0.Eats.length ca0_1, .slice Aa0_2 a0.Foes.length ca0_2].toArray, .string a1, .int .i64 a2].toArray w fun v w' => ∃ (A0_0 : Option Addr) (c0_0 : Nat) (A0_1 : Option Addr) (c0_1 : Nat) (A0_2 : Option Addr) (c0_2 : Nat), v = .tuple #[.agg [.slice A0_0 r.1.Names.length c0_0, .slice A0_1 r.1.Eats.length c0_1, .slice A0_2 r.1.Foes.length c0_2].toArray, .int .i64 r.2] ∧ St w no w' [rowC G.cs A0_0 c0_0 9 r.1.Names, rowC (ci .i16) A0_1 c0_1 73 r.1.Eats, rowC (ci .u16) A0_2 c0_2 74 r.1.Foes] [] := by
  have hS := ((((St.init w no).param G.cs Aa0_0 ca0_0 a0.Names hr0_0 hc0_0).param (ci .i16) Aa0_1 ca0_1 a0.Eats hr0_1 hc0_1).param (ci .u16) Aa0_2 ca0_2 a0.Foes hr0_2 hc0_2)
  unfold impl_AddToHerd.f at H
  refine CV.body Tryd.func45 rfl Tryd.ntmps45 rfl ?_
  refine CJ.seq ?_
  refine CJ.region ?_
  refine OJ.ef rfl rfl rfl (Ef.box hS rfl rfl ([.slice Aa0_0 a0.Names.length ca0_0, .slice Aa0_1 a0.Eats.length ca0_1, .slice Aa0_2 a0.Foes.length ca0_2]) rfl) ?_
  rintro _ w1 ⟨b1, rfl, hS⟩
  refine OJ.ef rfl rfl rfl (Ef.alloc hS tI_ok rfl rfl ([.slice none 0 0, .slice none 0 0, .slice none 0 0]) rfl) ?_
  rintro _ w1 ⟨b2, rfl, hS⟩
  refine OJ.pures tU_ok 1 rfl ?_
  refine OJ.nil (EJ.next ?_)
  obtain ⟨j78, H, K78⟩ := pbind H
  refine CJ.cut (fun F w1 => ∃ (y3 : Bool) , (some y3 : Option Bool) = some j78 ∧ F = [(1, .string a1), (2, .int .i64 a2), (3, .pointer (some ⟨b1, 0, none⟩)), (6, .pointer (some ⟨b2, 0, none⟩)), (8, .bool y3)] ∧ St w no w1 [box b1 ([.slice Aa0_0 a0.Names.length ca0_0, .slice Aa0_1 a0.Eats.length ca0_1, .slice Aa0_2 a0.Foes.length ca0_2]) 29, box b2 ([.slice none 0 0, .slice none 0 0, .slice none 0 0]) 29] [roC G.cs Aa0_0 ca0_0 a0.Names, roC (ci .i16) Aa0_1 ca0_1 a0.Eats, roC (ci .u16) Aa0_2 ca0_2 a0.Foes]) ?_ ?_
  · skip
    refine CJ.region ?_
    refine OJ.pures tU_ok 1 rfl ?_
    obtain ⟨t4, ht4, H⟩ := pbind H
    refine OJ.callF rfl rfl rfl rfl rfl hb55 rfl (impl_isName.c k _ a1 _ ht4) ?_
    rintro _ w1 ⟨rfl, hs⟩
    replace hS := hS.grow hs
    refine OJ.pures tU_ok 1 rfl ?_
    refine OJ.split (t := 13) rfl (fun hb => ?_) (fun hb => ?_)
    · replace H := pif_t hb H
      refine OJ.st rfl rfl rfl (SR.fieldAddr tU_ok tI_ok rfl rfl rfl rfl rfl rfl) ?_
      refine OJ.st rfl rfl rfl (SR.load rfl rfl (fun w' hx => ld1 tU_ok rfl rfl (CA.ext (CA.sub (hS.cells (i := 0) rfl) 0) hx) rfl)) ?_
      refine OJ.pures tU_ok 1 rfl ?_
      obtain ⟨t5, ht5, H⟩ := pbind H
      refine OJ.callF rfl rfl rfl rfl rfl hb56 rfl (slices_Contains_string_string.c k _ Aa0_0 ca0_0 a0.Names (hS.rd' (i := 0) rfl) (hS.le' (i := 0) rfl) a1 _ ht5) ?_
      rintro _ w1 ⟨rfl, hs⟩
      replace hS := hS.grow hs
      refine OJ.pures tU_ok 3 rfl ?_
      refine OJ.nil ?_
      exact EJ.meet (F' := [(1, .string a1), (2, .int .i64 a2), (3, .pointer (some ⟨b1, 0, none⟩)), (6, .pointer (some ⟨b2, 0, none⟩)), (8, .bool (!t5))]) ⟨rfl, rfl, rfl, rfl, rfl, trivial⟩ ⟨(!t5), H, rfl, hS.pick [0, 1] [0, 1, 2] rfl⟩
    · replace H := pifb_f hb H
      refine OJ.pures tU_ok 7 rfl ?_
      refine OJ.nil ?_
      exact EJ.meet (F' := [(1, .string a1), (2, .int .i64 a2), (3, .pointer (some ⟨b1, 0, none⟩)), (6, .pointer (some ⟨b2, 0, none⟩)), (8, .bool false)]) ⟨rfl, rfl, rfl, rfl, rfl, trivial⟩ ⟨false, H, rfl, hS.pick [0, 1] [0, 1, 2] rfl⟩
  · rintro F w1 ⟨y3, he, rfl, hS⟩
    obtain rfl := Option.some.inj he
    have H := K78
    refine CJ.seq ?_
    refine CJ.seq ?_
    refine CJ.draw [] [0, 2, 5, 7, 1, 3, 4, 6, 8, 9, 10, 11, 12, 13] mixed (by kernel_rfl) hS fun w1 hS => ?_
    refine DJ.st rfl rfl rfl rfl rfl (SR.load rfl rfl (fun w' hx => ldN tU_ok tI_ok rfl rfl rfl (CA.ext (hS.cells (i := 0) rfl) hx) (ds := [.slice Aa0_0 a0.Names.length ca0_0, .slice Aa0_1 a0.Eats.length ca0_1, .slice Aa0_2 a0.Foes.length ca0_2]) rfl rfl)) ?_
    refine DJ.pures tU_ok 2 rfl ?_
    refine DJ.st rfl rfl rfl rfl rfl (SR.load rfl rfl (fun w' hx => ldN tU_ok tI_ok rfl rfl rfl (CA.ext (hS.cells (i := 0) rfl) hx) (ds := [.slice Aa0_0 a0.Names.length ca0_0, .slice Aa0_1 a0.Eats.length ca0_1, .slice Aa0_2 a0.Foes.length ca0_2]) rfl rfl)) ?_
    obtain ⟨t6, ht6, H⟩ := pbind H
    refine DJ.callF rfl rfl rfl rfl rfl rfl rfl hb64 rfl (impl_herdCode.c k _ Aa0_0 ca0_0 Aa0_1 ca0_1 Aa0_2 ca0_2 a0 (hS.rd' (i := 0) rfl) (hS.le' (i := 0) rfl) (hS.rd' (i := 1) rfl) (hS.le' (i := 1) rfl) (hS.rd' (i := 2) rfl) (hS.le' (i := 2) rfl) none 0 [] (Rd.nil (ci .i64) _ _) (Nat.le_refl _) _ ht6) (by rintro v w' ⟨rfl, hs⟩; exact hs) ?_
    rintro _ w1 ⟨rfl, hs⟩
    replace hS := hS.grow hs
    obtain ⟨t7, ht7, H⟩ := pbind H
    refine DJ.callF rfl rfl rfl rfl rfl rfl rfl hb57 rfl (impl_within.c _ a2 0 100 _ ht7) (by rintro v w' ⟨rfl, hs⟩; exact hs) ?_
    rintro _ w1 ⟨rfl, hs⟩
    replace hS := hS.grow hs
    obtain ⟨t8, ht8, H⟩ := pbind H
    refine DJ.callF rfl rfl rfl rfl rfl rfl rfl hb90 rfl (impl_unless.c _ t7 2 _ ht8) (by rintro v w' ⟨rfl, hs⟩; exact hs) ?_
    rintro _ w1 ⟨rfl, hs⟩
    replace hS := hS.grow hs
    obtain ⟨t9, ht9, H⟩ := pbind H
    refine DJ.callF rfl rfl rfl rfl rfl rfl rfl hb90 rfl (impl_unless.c _ y3 4 _ ht9) (by rintro v w' ⟨rfl, hs⟩; exact hs) ?_
    rintro _ w1 ⟨rfl, hs⟩
    replace hS := hS.grow hs
    obtain ⟨t10, ht10, H⟩ := pbind H
    refine DJ.callF rfl rfl rfl rfl rfl rfl rfl hb78 rfl (impl_Herd_many.c _ Aa0_0 ca0_0 Aa0_1 ca0_1 Aa0_2 ca0_2 a0 (hS.rd' (i := 0) rfl) (hS.le' (i := 0) rfl) (hS.rd' (i := 1) rfl) (hS.le' (i := 1) rfl) (hS.rd' (i := 2) rfl) (hS.le' (i := 2) rfl) _ ht10) (by rintro v w' ⟨rfl, hs⟩; exact hs) ?_
    rintro _ w1 ⟨rfl, hs⟩
    replace hS := hS.grow hs
    refine DJ.pures tU_ok 1 rfl ?_
    obtain ⟨t11, ht11, H⟩ := pbind H
    refine DJ.callF rfl rfl rfl rfl rfl rfl rfl hb90 rfl (impl_unless.c _ (decide (t10 < 14)) 3 _ ht11) (by rintro v w' ⟨rfl, hs⟩; exact hs) ?_
    rintro _ w1 ⟨rfl, hs⟩
    replace hS := hS.grow hs
    refine DJ.ef rfl rfl rfl rfl rfl (Ef.lit tU_ok tI_ok hS (C := (ci .i64)) rfl rfl rfl rfl rfl rfl ([t6, t8, t9, t11] : List Int) rfl rfl rfl rfl) ?_
    rintro _ w1 ⟨A12, rfl, hS⟩
    obtain ⟨t13, ht13, H⟩ := pbind H
    refine DJ.callF rfl rfl rfl rfl rfl rfl rfl hb89 rfl (impl_firstOf.c k _ A12 (([t6, t8, t9, t11] : List Int).length) ([t6, t8, t9, t11] : List Int) (hS.rd (i := 2) rfl) (hS.le (i := 2) rfl) _ ht13) (by rintro v w' ⟨rfl, hs⟩; exact hs) ?_
    rintro _ w1 ⟨rfl, hs⟩
    replace hS := hS.grow hs
    refine DJ.pures tU_ok 1 rfl ?_
    refine DJ.nil (EJ.next ?_)
    refine CJ.seq ?_
    refine CJ.region ?_
    refine OJ.pures tU_ok 2 rfl ?_
    refine OJ.nil (EJ.next ?_)
    refine CJ.cond rfl (fun hb => ?_) (fun hb => ?_)
    · replace H := pif_t (of_decide_eq_true hb) H
      refine CJ.seq ?_
      refine CJ.region ?_
      refine OJ.st rfl rfl rfl (SR.build' tU_ok tI_ok rfl rfl rfl (zs := [.slice none 0 0, .slice none 0 0, .slice none 0 0]) rfl rfl rfl ([.slice none 0 0, .slice none 0 0, .slice none 0 0]) rfl) ?_
      refine OJ.pures tU_ok 1 rfl ?_
      refine OJ.es rfl rfl (Es.store tI_ok hS (i := 1) (vs := [.slice none 0 0, .slice none 0 0, .slice none 0 0]) rfl rfl rfl rfl rfl rfl rfl rfl (by intro u hu; simp only [List.mem_cons, List.not_mem_nil, or_false] at hu; rcases hu with rfl | rfl | rfl <;> rfl) (Nat.le_of_ble_eq_true rfl) ([.slice none 0 0, .slice none 0 0, .slice none 0 0]) rfl) ?_
      intro w1 hS
      refine OJ.pures tU_ok 1 rfl ?_
      refine OJ.nil (EJ.next ?_)
      refine CJ.ret (EJ.skR (?_))
      replace hS := hS.addNil G.cs 9 none
      replace hS := hS.addNil (ci .i16) 73 none
      replace hS := hS.addNil (ci .u16) 74 none
      obtain rfl := Option.some.inj H
      exact EJ.fin rfl (.cell rfl (ldN tU_ok tI_ok rfl rfl rfl (hS.cells (i := 1) rfl) (ds := [.slice none 0 0, .slice none 0 0, .slice none 0 0]) rfl rfl) (.tmp rfl .nil)) ⟨none, 0, none, 0, none, 0, rfl, hS.pick [3, 4, 5] [] rfl⟩
    · replace H := pif_f (of_decide_eq_false hb) H
      refine CJ.skip (EJ.next ?_)
      refine CJ.seq ?_
      refine CJ.region ?_
      refine OJ.st rfl rfl rfl (SR.load rfl rfl (fun w' hx => ldN tU_ok tI_ok rfl rfl rfl (CA.ext (hS.cells (i := 0) rfl) hx) (ds := [.slice Aa0_0 a0.Names.length ca0_0, .slice Aa0_1 a0.Eats.length ca0_1, .slice Aa0_2 a0.Foes.length ca0_2]) rfl rfl)) ?_
      obtain ⟨t14, ht14, H⟩ := pbind H
      refine OJ.callF rfl rfl rfl rfl rfl hb79 rfl (impl_Herd_own.c _ Aa0_0 ca0_0 Aa0_1 ca0_1 Aa0_2 ca0_2 a0 (hS.rd' (i := 0) rfl) (hS.le' (i := 0) rfl) (hS.rd' (i := 1) rfl) (hS.le' (i := 1) rfl) (hS.rd' (i := 2) rfl) (hS.le' (i := 2) rfl) _ ht14) ?_
      rintro _ w1 ⟨A15, c16, A17, c18, A19, c20, rfl, hs⟩
      replace hS := hS.addN hs
      have hS : St w no w1 [box b1 ([.slice Aa0_0 a0.Names.length ca0_0, .slice Aa0_1 a0.Eats.length ca0_1, .slice Aa0_2 a0.Foes.length ca0_2]) 29, box b2 ([.slice none 0 0, .slice none 0 0, .slice none 0 0]) 29, rowC (ci .i64) A12 (([t6, t8, t9, t11] : List Int).length) 2 ([t6, t8, t9, t11] : List Int), rowC G.cs A15 c16 9 t14.Names, rowC (ci .i16) A17 c18 73 t14.Eats, rowC (ci .u16) A19 c20 74 t14.Foes] [roC G.cs Aa0_0 ca0_0 a0.Names, roC (ci .i16) Aa0_1 ca0_1 a0.Eats, roC (ci .u16) Aa0_2 ca0_2 a0.Foes] := hS
      refine OJ.ef rfl rfl rfl (Ef.alloc hS tI_ok rfl rfl ([.slice none 0 0, .slice none 0 0, .slice none 0 0]) rfl) ?_
      rintro _ w1 ⟨b21, rfl, hS⟩
      refine OJ.es rfl rfl (Es.store tI_ok hS (i := 6) (vs := [.slice A15 t14.Names.length c16, .slice A17 t14.Eats.length c18, .slice A19 t14.Foes.length c20]) rfl rfl rfl rfl rfl rfl rfl rfl (by intro u hu; simp only [List.mem_cons, List.not_mem_nil, or_false] at hu; rcases hu with rfl | rfl | rfl <;> rfl) (Nat.le_of_ble_eq_true rfl) ([.slice A15 t14.Names.length c16, .slice A17 t14.Eats.length c18, .slice A19 t14.Foes.length c20]) rfl) ?_
      intro w1 hS
      refine OJ.nil (EJ.next ?_)
      refine CJ.seq ?_
      obtain ⟨u23, hu23, H⟩ := pbind H
      obtain ⟨u27, hu27, H⟩ := pbind H
      obtain ⟨u31, hu31, H⟩ := pbind H
      refine CJ.cut1 (fun F w1 => ∃ (A22 : Option Addr) (A24 : Option Addr) (c25 : Nat) (A26 : Option Addr) (A28 : Option Addr) (c29 : Nat) (A30 : Option Addr) (A32 : Option Addr) (c33 : Nat), F = [(6, .pointer (some ⟨b2, 0, none⟩)), (7, .int .i64 0)] ∧ St w no w1 [box b1 ([.slice Aa0_0 a0.Names.length ca0_0, .slice Aa0_1 a0.Eats.length ca0_1, .slice Aa0_2 a0.Foes.length ca0_2]) 29, box b2 ([.slice A24 (t14.Names ++ ([a1] : List ByteArray)).length c25, .slice A28 (t14.Eats ++ ([IntKind.i16.wrap a2] : List Int)).length c29, .slice A32 (t14.Foes ++ ([0] : List Int)).length c33]) 29, rowC (ci .i64) A12 (([t6, t8, t9, t11] : List Int).length) 2 ([t6, t8, t9, t11] : List Int), rowC G.cs A24 c25 9 (t14.Names ++ ([a1] : List ByteArray)), rowC (ci .i16) A28 c29 73 (t14.Eats ++ ([IntKind.i16.wrap a2] : List Int)), rowC (ci .u16) A32 c33 74 (t14.Foes ++ ([0] : List Int)), box b21 ([.slice A15 t14.Names.length c16, .slice A17 t14.Eats.length c18, .slice A19 t14.Foes.length c20]) 29, rowC G.cs A22 (([a1] : List ByteArray).length) 9 ([a1] : List ByteArray), rowC (ci .i16) A26 (([IntKind.i16.wrap a2] : List Int).length) 73 ([IntKind.i16.wrap a2] : List Int), rowC (ci .u16) A30 (([0] : List Int).length) 74 ([0] : List Int)] [roC G.cs Aa0_0 ca0_0 a0.Names, roC (ci .i16) Aa0_1 ca0_1 a0.Eats, roC (ci .u16) Aa0_2 ca0_2 a0.Foes]) ?_ ?_
      · skip
        refine CJ.drawT [] [3, 4, 9, 10, 13, 14, 15, 16] (.one 0 (.one 1 (.one 2 (.one 5 (.one 6 (.one 7 (.one 8 (.one 11 (.one 12 (.br (.alt 3 (.br (.alt 4 (.br (.alt 9 (.br (.alt 10 (.one 13 (.one 14 (.one 15 (.one 16 (.one 17 (.fin)))))) (.alt 13 (.one 10 (.one 14 (.one 15 (.one 16 (.one 17 (.fin)))))) (.stop)))) (.alt 13 (.one 9 (.one 10 (.one 14 (.one 15 (.one 16 (.one 17 (.fin))))))) (.stop)))) (.alt 9 (.br (.alt 4 (.br (.alt 10 (.one 13 (.one 14 (.one 15 (.one 16 (.one 17 (.fin)))))) (.alt 13 (.one 10 (.one 14 (.one 15 (.one 16 (.one 17 (.fin)))))) (.stop)))) (.alt 13 (.one 4 (.one 10 (.one 14 (.one 15 (.one 16 (.one 17 (.fin))))))) (.stop)))) (.alt 13 (.br (.alt 4 (.one 9 (.one 10 (.one 14 (.one 15 (.one 16 (.one 17 (.fin))))))) (.alt 9 (.one 4 (.one 10 (.one 14 (.one 15 (.one 16 (.one 17 (.fin))))))) (.stop)))) (.stop))))) (.alt 9 (.br (.alt 3 (.br (.alt 4 (.br (.alt 10 (.one 13 (.one 14 (.one 15 (.one 16 (.one 17 (.fin)))))) (.alt 13 (.one 10 (.one 14 (.one 15 (.one 16 (.one 17 (.fin)))))) (.stop)))) (.alt 13 (.one 4 (.one 10 (.one 14 (.one 15 (.one 16 (.one 17 (.fin))))))) (.stop)))) (.alt 13 (.one 3 (.one 4 (.one 10 (.one 14 (.one 15 (.one 16 (.one 17 (.fin)))))))) (.stop)))) (.alt 13 (.br (.alt 3 (.br (.alt 4 (.one 9 (.one 10 (.one 14 (.one 15 (.one 16 (.one 17 (.fin))))))) (.alt 9 (.one 4 (.one 10 (.one 14 (.one 15 (.one 16 (.one 17 (.fin))))))) (.stop)))) (.alt 9 (.one 3 (.one 4 (.one 10 (.one 14 (.one 15 (.one 16 (.one 17 (.fin)))))))) (.stop)))) (.stop)))))))))))))) mixed (by kernel_rfl) hS [6] fun w1 hS hY hV => ?_
        refine TJ.sp rfl rfl rfl rfl rfl (fun w2 => SR.fieldAddr tU_ok tI_ok rfl rfl rfl rfl rfl rfl) ?_
        refine TJ.st hY rfl rfl rfl rfl rfl (fun w2 hY => SR.load rfl rfl (fun w' hx => ld1 tU_ok rfl rfl (CA.ext (CA.sub ((hV w2 hY).cellsR (i := 3) rfl) 0) hx) rfl)) ?_
        refine TJ.pures tU_ok 1 rfl ?_
        refine TJ.sp rfl rfl rfl rfl rfl (fun w2 => SR.fieldAddr tU_ok tI_ok rfl rfl rfl rfl rfl rfl) ?_
        refine TJ.st hY rfl rfl rfl rfl rfl (fun w2 hY => SR.load rfl rfl (fun w' hx => ld1 tU_ok rfl rfl (CA.ext (CA.sub ((hV w2 hY).cellsR (i := 3) rfl) 1) hx) rfl)) ?_
        refine TJ.pures tU_ok 2 rfl ?_
        refine TJ.sp rfl rfl rfl rfl rfl (fun w2 => SR.fieldAddr tU_ok tI_ok rfl rfl rfl rfl rfl rfl) ?_
        refine TJ.st hY rfl rfl rfl rfl rfl (fun w2 hY => SR.load rfl rfl (fun w' hx => ld1 tU_ok rfl rfl (CA.ext (CA.sub ((hV w2 hY).cellsR (i := 3) rfl) 2) hx) rfl)) ?_
        refine TJ.br ?_
        refine TJ.alt ?_ ?_
        · skip
          refine TJ.ef hY rfl rfl rfl rfl rfl (Ef.lit tU_ok tI_ok hS (C := G.cs) rfl rfl rfl rfl rfl rfl ([a1] : List ByteArray) rfl rfl rfl rfl) ?_
          rintro _ w1 hY ⟨A34, rfl, hS⟩
          refine TJ.br ?_
          refine TJ.alt ?_ ?_
          · skip
            have hO := hS
            refine TJ.ew rfl rfl rfl rfl rfl (Ew.append tU_ok tI_ok (C := G.cs) (xs := t14.Names) (ys := ([a1] : List ByteArray)) (hS.inn [6]) (i := 3) rfl rfl rfl rfl rfl rfl rfl rfl rfl rfl rfl rfl rfl (hS.rd (i := 7) rfl) (chk_some hu23)) (by rintro _ w1 ⟨A35, c36, rfl, hS⟩; exact hY.wr (hO.inY [6] 3 rfl rfl) hS.chg) ?_
            rintro _ w1 hY ⟨A35, c36, rfl, hS⟩
            have hS : St w no w1 [box b1 ([.slice Aa0_0 a0.Names.length ca0_0, .slice Aa0_1 a0.Eats.length ca0_1, .slice Aa0_2 a0.Foes.length ca0_2]) 29, box b2 ([.slice none 0 0, .slice none 0 0, .slice none 0 0]) 29, rowC (ci .i64) A12 (([t6, t8, t9, t11] : List Int).length) 2 ([t6, t8, t9, t11] : List Int), rowC G.cs A35 c36 9 (t14.Names ++ ([a1] : List ByteArray)), rowC (ci .i16) A17 c18 73 t14.Eats, rowC (ci .u16) A19 c20 74 t14.Foes, box b21 ([.slice A15 t14.Names.length c16, .slice A17 t14.Eats.length c18, .slice A19 t14.Foes.length c20]) 29, rowC G.cs A34 (([a1] : List ByteArray).length) 9 ([a1] : List ByteArray)] [roC G.cs Aa0_0 ca0_0 a0.Names, roC (ci .i16) Aa0_1 ca0_1 a0.Eats, roC (ci .u16) Aa0_2 ca0_2 a0.Foes] := hO.out [6] hS
            refine TJ.br ?_
            refine TJ.alt ?_ ?_
            · skip
              refine TJ.ef hY rfl rfl rfl rfl rfl (Ef.lit tU_ok tI_ok hS (C := (ci .i16)) rfl rfl rfl rfl rfl rfl ([IntKind.i16.wrap a2] : List Int) rfl rfl rfl rfl) ?_
              rintro _ w1 hY ⟨A37, rfl, hS⟩
              refine TJ.br ?_
              refine TJ.alt ?_ ?_
              · skip
                have hO := hS
                refine TJ.ew rfl rfl rfl rfl rfl (Ew.append tU_ok tI_ok (C := (ci .i16)) (xs := t14.Eats) (ys := ([IntKind.i16.wrap a2] : List Int)) (hS.inn [6]) (i := 4) rfl rfl rfl rfl rfl rfl rfl rfl rfl rfl rfl rfl rfl (hS.rd (i := 8) rfl) (chk_some hu27)) (by rintro _ w1 ⟨A38, c39, rfl, hS⟩; exact hY.wr (hO.inY [6] 3 rfl rfl) hS.chg) ?_
                rintro _ w1 hY ⟨A38, c39, rfl, hS⟩
                have hS : St w no w1 [box b1 ([.slice Aa0_0 a0.Names.length ca0_0, .slice Aa0_1 a0.Eats.length ca0_1, .slice Aa0_2 a0.Foes.length ca0_2]) 29, box b2 ([.slice none 0 0, .slice none 0 0, .slice none 0 0]) 29, rowC (ci .i64) A12 (([t6, t8, t9, t11] : List Int).length) 2 ([t6, t8, t9, t11] : List Int), rowC G.cs A35 c36 9 (t14.Names ++ ([a1] : List ByteArray)), rowC (ci .i16) A38 c39 73 (t14.Eats ++ ([IntKind.i16.wrap a2] : List Int)), rowC (ci .u16) A19 c20 74 t14.Foes, box b21 ([.slice A15 t14.Names.length c16, .slice A17 t14.Eats.length c18, .slice A19 t14.Foes.length c20]) 29, rowC G.cs A34 (([a1] : List ByteArray).length) 9 ([a1] : List ByteArray), rowC (ci .i16) A37 (([IntKind.i16.wrap a2] : List Int).length) 73 ([IntKind.i16.wrap a2] : List Int)] [roC G.cs Aa0_0 ca0_0 a0.Names, roC (ci .i16) Aa0_1 ca0_1 a0.Eats, roC (ci .u16) Aa0_2 ca0_2 a0.Foes] := hO.out [6] hS
                refine TJ.ef hY rfl rfl rfl rfl rfl (Ef.lit tU_ok tI_ok hS (C := (ci .u16)) rfl rfl rfl rfl rfl rfl ([0] : List Int) rfl rfl rfl rfl) ?_
                rintro _ w1 hY ⟨A40, rfl, hS⟩
                have hO := hS
                refine TJ.ew rfl rfl rfl rfl rfl (Ew.append tU_ok tI_ok (C := (ci .u16)) (xs := t14.Foes) (ys := ([0] : List Int)) (hS.inn [6]) (i := 5) rfl rfl rfl rfl rfl rfl rfl rfl rfl rfl rfl rfl rfl (hS.rd (i := 9) rfl) (chk_some hu31)) (by rintro _ w1 ⟨A41, c42, rfl, hS⟩; exact hY.wr (hO.inY [6] 3 rfl rfl) hS.chg) ?_
                rintro _ w1 hY ⟨A41, c42, rfl, hS⟩
                have hS : St w no w1 [box b1 ([.slice Aa0_0 a0.Names.length ca0_0, .slice Aa0_1 a0.Eats.length ca0_1, .slice Aa0_2 a0.Foes.length ca0_2]) 29, box b2 ([.slice none 0 0, .slice none 0 0, .slice none 0 0]) 29, rowC (ci .i64) A12 (([t6, t8, t9, t11] : List Int).length) 2 ([t6, t8, t9, t11] : List Int), rowC G.cs A35 c36 9 (t14.Names ++ ([a1] : List ByteArray)), rowC (ci .i16) A38 c39 73 (t14.Eats ++ ([IntKind.i16.wrap a2] : List Int)), rowC (ci .u16) A41 c42 74 (t14.Foes ++ ([0] : List Int)), box b21 ([.slice A15 t14.Names.length c16, .slice A17 t14.Eats.length c18, .slice A19 t14.Foes.length c20]) 29, rowC G.cs A34 (([a1] : List ByteArray).length) 9 ([a1] : List ByteArray), rowC (ci .i16) A37 (([IntKind.i16.wrap a2] : List Int).length) 73 ([IntKind.i16.wrap a2] : List Int), rowC (ci .u16) A40 (([0] : List Int).length) 74 ([0] : List Int)] [roC G.cs Aa0_0 ca0_0 a0.Names, roC (ci .i16) Aa0_1 ca0_1 a0.Eats, roC (ci .u16) Aa0_2 ca0_2 a0.Foes] := hO.out [6] hS
                refine TJ.ef hY rfl rfl rfl rfl rfl ((SR.build' tU_ok tI_ok rfl rfl rfl (zs := [.slice none 0 0, .slice none 0 0, .slice none 0 0]) rfl rfl rfl ([.slice A35 (t14.Names ++ ([a1] : List ByteArray)).length c36, .slice A38 (t14.Eats ++ ([IntKind.i16.wrap a2] : List Int)).length c39, .slice A41 (t14.Foes ++ ([0] : List Int)).length c42]) rfl).ef) ?_
                rintro _ w1 hY ⟨rfl, hx⟩
                replace hS := hS.grow hx
                have hO := hS
                refine TJ.es rfl rfl rfl rfl (Es.store tI_ok (hS.inn [6]) (i := 1) (vs := [.slice A35 (t14.Names ++ ([a1] : List ByteArray)).length c36, .slice A38 (t14.Eats ++ ([IntKind.i16.wrap a2] : List Int)).length c39, .slice A41 (t14.Foes ++ ([0] : List Int)).length c42]) rfl rfl rfl rfl rfl rfl rfl rfl (by intro u hu; simp only [List.mem_cons, List.not_mem_nil, or_false] at hu; rcases hu with rfl | rfl | rfl <;> rfl) (Nat.le_of_ble_eq_true rfl) ([.slice A35 (t14.Names ++ ([a1] : List ByteArray)).length c36, .slice A38 (t14.Eats ++ ([IntKind.i16.wrap a2] : List Int)).length c39, .slice A41 (t14.Foes ++ ([0] : List Int)).length c42]) rfl) (by intro w1 hS; exact hY.wr (hO.inY [6] 3 rfl rfl) hS.chg) ?_
                intro w1 hY hS
                have hS : St w no w1 [box b1 ([.slice Aa0_0 a0.Names.length ca0_0, .slice Aa0_1 a0.Eats.length ca0_1, .slice Aa0_2 a0.Foes.length ca0_2]) 29, box b2 ([.slice A35 (t14.Names ++ ([a1] : List ByteArray)).length c36, .slice A38 (t14.Eats ++ ([IntKind.i16.wrap a2] : List Int)).length c39, .slice A41 (t14.Foes ++ ([0] : List Int)).length c42]) 29, rowC (ci .i64) A12 (([t6, t8, t9, t11] : List Int).length) 2 ([t6, t8, t9, t11] : List Int), rowC G.cs A35 c36 9 (t14.Names ++ ([a1] : List ByteArray)), rowC (ci .i16) A38 c39 73 (t14.Eats ++ ([IntKind.i16.wrap a2] : List Int)), rowC (ci .u16) A41 c42 74 (t14.Foes ++ ([0] : List Int)), box b21 ([.slice A15 t14.Names.length c16, .slice A17 t14.Eats.length c18, .slice A19 t14.Foes.length c20]) 29, rowC G.cs A34 (([a1] : List ByteArray).length) 9 ([a1] : List ByteArray), rowC (ci .i16) A37 (([IntKind.i16.wrap a2] : List Int).length) 73 ([IntKind.i16.wrap a2] : List Int), rowC (ci .u16) A40 (([0] : List Int).length) 74 ([0] : List Int)] [roC G.cs Aa0_0 ca0_0 a0.Names, roC (ci .i16) Aa0_1 ca0_1 a0.Eats, roC (ci .u16) Aa0_2 ca0_2 a0.Foes] := hO.out [6] hS
                refine TJ.pures tU_ok 1 rfl ?_
                refine TJ.nil ?_
                exact EJ.meet (F' := [(6, .pointer (some ⟨b2, 0, none⟩)), (7, .int .i64 0)]) ⟨rfl, rfl, trivial⟩ ⟨A34, A35, c36, A37, A38, c39, A40, A41, c42, rfl, hS.pick [0, 1, 2, 3, 4, 5, 6, 7, 8, 9] [0, 1, 2] rfl⟩
              refine TJ.alt ?_ ?_
              · skip
                refine TJ.ef hY rfl rfl rfl rfl rfl (Ef.lit tU_ok tI_ok hS (C := (ci .u16)) rfl rfl rfl rfl rfl rfl ([0] : List Int) rfl rfl rfl rfl) ?_
                rintro _ w1 hY ⟨A43, rfl, hS⟩
                have hO := hS
                refine TJ.ew rfl rfl rfl rfl rfl (Ew.append tU_ok tI_ok (C := (ci .i16)) (xs := t14.Eats) (ys := ([IntKind.i16.wrap a2] : List Int)) (hS.inn [6]) (i := 4) rfl rfl rfl rfl rfl rfl rfl rfl rfl rfl rfl rfl rfl (hS.rd (i := 8) rfl) (chk_some hu27)) (by rintro _ w1 ⟨A44, c45, rfl, hS⟩; exact hY.wr (hO.inY [6] 3 rfl rfl) hS.chg) ?_
                rintro _ w1 hY ⟨A44, c45, rfl, hS⟩
                have hS : St w no w1 [box b1 ([.slice Aa0_0 a0.Names.length ca0_0, .slice Aa0_1 a0.Eats.length ca0_1, .slice Aa0_2 a0.Foes.length ca0_2]) 29, box b2 ([.slice none 0 0, .slice none 0 0, .slice none 0 0]) 29, rowC (ci .i64) A12 (([t6, t8, t9, t11] : List Int).length) 2 ([t6, t8, t9, t11] : List Int), rowC G.cs A35 c36 9 (t14.Names ++ ([a1] : List ByteArray)), rowC (ci .i16) A44 c45 73 (t14.Eats ++ ([IntKind.i16.wrap a2] : List Int)), rowC (ci .u16) A19 c20 74 t14.Foes, box b21 ([.slice A15 t14.Names.length c16, .slice A17 t14.Eats.length c18, .slice A19 t14.Foes.length c20]) 29, rowC G.cs A34 (([a1] : List ByteArray).length) 9 ([a1] : List ByteArray), rowC (ci .i16) A37 (([IntKind.i16.wrap a2] : List Int).length) 73 ([IntKind.i16.wrap a2] : List Int), rowC (ci .u16) A43 (([0] : List Int).length) 74 ([0] : List Int)] [roC G.cs Aa0_0 ca0_0 a0.Names, roC (ci .i16) Aa0_1 ca0_1 a0.Eats, roC (ci .u16) Aa0_2 ca0_2 a0.Foes] := hO.out [6] hS
                have hO := hS
                refine TJ.ew rfl rfl rfl rfl rfl (Ew.append tU_ok tI_ok (C := (ci .u16)) (xs := t14.Foes) (ys := ([0] : List Int)) (hS.inn [6]) (i := 5) rfl rfl rfl rfl rfl rfl rfl rfl rfl rfl rfl rfl rfl (hS.rd (i := 9) rfl) (chk_some hu31)) (by rintro _ w1 ⟨A46, c47, rfl, hS⟩; exact hY.wr (hO.inY [6] 3 rfl rfl) hS.chg) ?_
                rintro _ w1 hY ⟨A46, c47, rfl, hS⟩
                have hS : St w no w1 [box b1 ([.slice Aa0_0 a0.Names.length ca0_0, .slice Aa0_1 a0.Eats.length ca0_1, .slice Aa0_2 a0.Foes.length ca0_2]) 29, box b2 ([.slice none 0 0, .slice none 0 0, .slice none 0 0]) 29, rowC (ci .i64) A12 (([t6, t8, t9, t11] : List Int).length) 2 ([t6, t8, t9, t11] : List Int), rowC G.cs A35 c36 9 (t14.Names ++ ([a1] : List ByteArray)), rowC (ci .i16) A44 c45 73 (t14.Eats ++ ([IntKind.i16.wrap a2] : List Int)), rowC (ci .u16) A46 c47 74 (t14.Foes ++ ([0] : List Int)), box b21 ([.slice A15 t14.Names.length c16, .slice A17 t14.Eats.length c18, .slice A19 t14.Foes.length c20]) 29, rowC G.cs A34 (([a1] : List ByteArray).length) 9 ([a1] : List ByteArray), rowC (ci .i16) A37 (([IntKind.i16.wrap a2] : List Int).length) 73 ([IntKind.i16.wrap a2] : List Int), rowC (ci .u16) A43 (([0] : List Int).length) 74 ([0] : List Int)] [roC G.cs Aa0_0 ca0_0 a0.Names, roC (ci .i16) Aa0_1 ca0_1 a0.Eats, roC (ci .u16) Aa0_2 ca0_2 a0.Foes] := hO.out [6] hS
                refine TJ.ef hY rfl rfl rfl rfl rfl ((SR.build' tU_ok tI_ok rfl rfl rfl (zs := [.slice none 0 0, .slice none 0 0, .slice none 0 0]) rfl rfl rfl ([.slice A35 (t14.Names ++ ([a1] : List ByteArray)).length c36, .slice A44 (t14.Eats ++ ([IntKind.i16.wrap a2] : List Int)).length c45, .slice A46 (t14.Foes ++ ([0] : List Int)).length c47]) rfl).ef) ?_
                rintro _ w1 hY ⟨rfl, hx⟩
                replace hS := hS.grow hx
                have hO := hS
                refine TJ.es rfl rfl rfl rfl (Es.store tI_ok (hS.inn [6]) (i := 1) (vs := [.slice A35 (t14.Names ++ ([a1] : List ByteArray)).length c36, .slice A44 (t14.Eats ++ ([IntKind.i16.wrap a2] : List Int)).length c45, .slice A46 (t14.Foes ++ ([0] : List Int)).length c47]) rfl rfl rfl rfl rfl rfl rfl rfl (by intro u hu; simp only [List.mem_cons, List.not_mem_nil, or_false] at hu; rcases hu with rfl | rfl | rfl <;> rfl) (Nat.le_of_ble_eq_true rfl) ([.slice A35 (t14.Names ++ ([a1] : List ByteArray)).length c36, .slice A44 (t14.Eats ++ ([IntKind.i16.wrap a2] : List Int)).length c45, .slice A46 (t14.Foes ++ ([0] : List Int)).length c47]) rfl) (by intro w1 hS; exact hY.wr (hO.inY [6] 3 rfl rfl) hS.chg) ?_
                intro w1 hY hS
                have hS : St w no w1 [box b1 ([.slice Aa0_0 a0.Names.length ca0_0, .slice Aa0_1 a0.Eats.length ca0_1, .slice Aa0_2 a0.Foes.length ca0_2]) 29, box b2 ([.slice A35 (t14.Names ++ ([a1] : List ByteArray)).length c36, .slice A44 (t14.Eats ++ ([IntKind.i16.wrap a2] : List Int)).length c45, .slice A46 (t14.Foes ++ ([0] : List Int)).length c47]) 29, rowC (ci .i64) A12 (([t6, t8, t9, t11] : List Int).length) 2 ([t6, t8, t9, t11] : List Int), rowC G.cs A35 c36 9 (t14.Names ++ ([a1] : List ByteArray)), rowC (ci .i16) A44 c45 73 (t14.Eats ++ ([IntKind.i16.wrap a2] : List Int)), rowC (ci .u16) A46 c47 74 (t14.Foes ++ ([0] : List Int)), box b21 ([.slice A15 t14.Names.length c16, .slice A17 t14.Eats.length c18, .slice A19 t14.Foes.length c20]) 29, rowC G.cs A34 (([a1] : List ByteArray).length) 9 ([a1] : List ByteArray), rowC (ci .i16) A37 (([IntKind.i16.wrap a2] : List Int).length) 73 ([IntKind.i16.wrap a2] : List Int), rowC (ci .u16) A43 (([0] : List Int).length) 74 ([0] : List Int)] [roC G.cs Aa0_0 ca0_0 a0.Names, roC (ci .i16) Aa0_1 ca0_1 a0.Eats, roC (ci .u16) Aa0_2 ca0_2 a0.Foes] := hO.out [6] hS
                refine TJ.pures tU_ok 1 rfl ?_
                refine TJ.nil ?_
                exact EJ.meet (F' := [(6, .pointer (some ⟨b2, 0, none⟩)), (7, .int .i64 0)]) ⟨rfl, rfl, trivial⟩ ⟨A34, A35, c36, A37, A44, c45, A43, A46, c47, rfl, hS.pick [0, 1, 2, 3, 4, 5, 6, 7, 8, 9] [0, 1, 2] rfl⟩
              exact TJ.stop
            refine TJ.alt ?_ ?_
            · skip
              refine TJ.ef hY rfl rfl rfl rfl rfl (Ef.lit tU_ok tI_ok hS (C := (ci .u16)) rfl rfl rfl rfl rfl rfl ([0] : List Int) rfl rfl rfl rfl) ?_
              rintro _ w1 hY ⟨A48, rfl, hS⟩
              refine TJ.ef hY rfl rfl rfl rfl rfl (Ef.lit tU_ok tI_ok hS (C := (ci .i16)) rfl rfl rfl rfl rfl rfl ([IntKind.i16.wrap a2] : List Int) rfl rfl rfl rfl) ?_
              rintro _ w1 hY ⟨A49, rfl, hS⟩
              have hO := hS
              refine TJ.ew rfl rfl rfl rfl rfl (Ew.append tU_ok tI_ok (C := (ci .i16)) (xs := t14.Eats) (ys := ([IntKind.i16.wrap a2] : List Int)) (hS.inn [6]) (i := 4) rfl rfl rfl rfl rfl rfl rfl rfl rfl rfl rfl rfl rfl (hS.rd (i := 9) rfl) (chk_some hu27)) (by rintro _ w1 ⟨A50, c51, rfl, hS⟩; exact hY.wr (hO.inY [6] 3 rfl rfl) hS.chg) ?_
              rintro _ w1 hY ⟨A50, c51, rfl, hS⟩
              have hS : St w no w1 [box b1 ([.slice Aa0_0 a0.Names.length ca0_0, .slice Aa0_1 a0.Eats.length ca0_1, .slice Aa0_2 a0.Foes.length ca0_2]) 29, box b2 ([.slice none 0 0, .slice none 0 0, .slice none 0 0]) 29, rowC (ci .i64) A12 (([t6, t8, t9, t11] : List Int).length) 2 ([t6, t8, t9, t11] : List Int), rowC G.cs A35 c36 9 (t14.Names ++ ([a1] : List ByteArray)), rowC (ci .i16) A50 c51 73 (t14.Eats ++ ([IntKind.i16.wrap a2] : List Int)), rowC (ci .u16) A19 c20 74 t14.Foes, box b21 ([.slice A15 t14.Names.length c16, .slice A17 t14.Eats.length c18, .slice A19 t14.Foes.length c20]) 29, rowC G.cs A34 (([a1] : List ByteArray).length) 9 ([a1] : List ByteArray), rowC (ci .u16) A48 (([0] : List Int).length) 74 ([0] : List Int), rowC (ci .i16) A49 (([IntKind.i16.wrap a2] : List Int).length) 73 ([IntKind.i16.wrap a2] : List Int)] [roC G.cs Aa0_0 ca0_0 a0.Names, roC (ci .i16) Aa0_1 ca0_1 a0.Eats, roC (ci .u16) Aa0_2 ca0_2 a0.Foes] := hO.out [6] hS
              have hO := hS
              refine TJ.ew rfl rfl rfl rfl rfl (Ew.append tU_ok tI_ok (C := (ci .u16)) (xs := t14.Foes) (ys := ([0] : List Int)) (hS.inn [6]) (i := 5) rfl rfl rfl rfl rfl rfl rfl rfl rfl rfl rfl rfl rfl (hS.rd (i := 8) rfl) (chk_some hu31)) (by rintro _ w1 ⟨A52, c53, rfl, hS⟩; exact hY.wr (hO.inY [6] 3 rfl rfl) hS.chg) ?_
              rintro _ w1 hY ⟨A52, c53, rfl, hS⟩
              have hS : St w no w1 [box b1 ([.slice Aa0_0 a0.Names.length ca0_0, .slice Aa0_1 a0.Eats.length ca0_1, .slice Aa0_2 a0.Foes.length ca0_2]) 29, box b2 ([.slice none 0 0, .slice none 0 0, .slice none 0 0]) 29, rowC (ci .i64) A12 (([t6, t8, t9, t11] : List Int).length) 2 ([t6, t8, t9, t11] : List Int), rowC G.cs A35 c36 9 (t14.Names ++ ([a1] : List ByteArray)), rowC (ci .i16) A50 c51 73 (t14.Eats ++ ([IntKind.i16.wrap a2] : List Int)), rowC (ci .u16) A52 c53 74 (t14.Foes ++ ([0] : List Int)), box b21 ([.slice A15 t14.Names.length c16, .slice A17 t14.Eats.length c18, .slice A19 t14.Foes.length c20]) 29, rowC G.cs A34 (([a1] : List ByteArray).length) 9 ([a1] : List ByteArray), rowC (ci .u16) A48 (([0] : List Int).length) 74 ([0] : List Int), rowC (ci .i16) A49 (([IntKind.i16.wrap a2] : List Int).length) 73 ([IntKind.i16.wrap a2] : List Int)] [roC G.cs Aa0_0 ca0_0 a0.Names, roC (ci .i16) Aa0_1 ca0_1 a0.Eats, roC (ci .u16) Aa0_2 ca0_2 a0.Foes] := hO.out [6] hS
              refine TJ.ef hY rfl rfl rfl rfl rfl ((SR.build' tU_ok tI_ok rfl rfl rfl (zs := [.slice none 0 0, .slice none 0 0, .slice none 0 0]) rfl rfl rfl ([.slice A35 (t14.Names ++ ([a1] : List ByteArray)).length c36, .slice A50 (t14.Eats ++ ([IntKind.i16.wrap a2] : List Int)).length c51, .slice A52 (t14.Foes ++ ([0] : List Int)).length c53]) rfl).ef) ?_
              rintro _ w1 hY ⟨rfl, hx⟩
              replace hS := hS.grow hx
              have hO := hS
              refine TJ.es rfl rfl rfl rfl (Es.store tI_ok (hS.inn [6]) (i := 1) (vs := [.slice A35 (t14.Names ++ ([a1] : List ByteArray)).length c36, .slice A50 (t14.Eats ++ ([IntKind.i16.wrap a2] : List Int)).length c51, .slice A52 (t14.Foes ++ ([0] : List Int)).length c53]) rfl rfl rfl rfl rfl rfl rfl rfl (by intro u hu; simp only [List.mem_cons, List.not_mem_nil, or_false] at hu; rcases hu with rfl | rfl | rfl <;> rfl) (Nat.le_of_ble_eq_true rfl) ([.slice A35 (t14.Names ++ ([a1] : List ByteArray)).length c36, .slice A50 (t14.Eats ++ ([IntKind.i16.wrap a2] : List Int)).length c51, .slice A52 (t14.Foes ++ ([0] : List Int)).length c53]) rfl) (by intro w1 hS; exact hY.wr (hO.inY [6] 3 rfl rfl) hS.chg) ?_
              intro w1 hY hS
              have hS : St w no w1 [box b1 ([.slice Aa0_0 a0.Names.length ca0_0, .slice Aa0_1 a0.Eats.length ca0_1, .slice Aa0_2 a0.Foes.length ca0_2]) 29, box b2 ([.slice A35 (t14.Names ++ ([a1] : List ByteArray)).length c36, .slice A50 (t14.Eats ++ ([IntKind.i16.wrap a2] : List Int)).length c51, .slice A52 (t14.Foes ++ ([0] : List Int)).length c53]) 29, rowC (ci .i64) A12 (([t6, t8, t9, t11] : List Int).length) 2 ([t6, t8, t9, t11] : List Int), rowC G.cs A35 c36 9 (t14.Names ++ ([a1] : List ByteArray)), rowC (ci .i16) A50 c51 73 (t14.Eats ++ ([IntKind.i16.wrap a2] : List Int)), rowC (ci .u16) A52 c53 74 (t14.Foes ++ ([0] : List Int)), box b21 ([.slice A15 t14.Names.length c16, .slice A17 t14.Eats.length c18, .slice A19 t14.Foes.length c20]) 29, rowC G.cs A34 (([a1] : List ByteArray).length) 9 ([a1] : List ByteArray), rowC (ci .u16) A48 (([0] : List Int).length) 74 ([0] : List Int), rowC (ci .i16) A49 (([IntKind.i16.wrap a2] : List Int).length) 73 ([IntKind.i16.wrap a2] : List Int)] [roC G.cs Aa0_0 ca0_0 a0.Names, roC (ci .i16) Aa0_1 ca0_1 a0.Eats, roC (ci .u16) Aa0_2 ca0_2 a0.Foes] := hO.out [6] hS
              refine TJ.pures tU_ok 1 rfl ?_
              refine TJ.nil ?_
              exact EJ.meet (F' := [(6, .pointer (some ⟨b2, 0, none⟩)), (7, .int .i64 0)]) ⟨rfl, rfl, trivial⟩ ⟨A34, A35, c36, A49, A50, c51, A48, A52, c53, rfl, hS.pick [0, 1, 2, 3, 4, 5, 6, 7, 9, 8] [0, 1, 2] rfl⟩
            exact TJ.stop
          refine TJ.alt ?_ ?_
          · skip
            refine TJ.ef hY rfl rfl rfl rfl rfl (Ef.lit tU_ok tI_ok hS (C := (ci .i16)) rfl rfl rfl rfl rfl rfl ([IntKind.i16.wrap a2] : List Int) rfl rfl rfl rfl) ?_
            rintro _ w1 hY ⟨A54, rfl, hS⟩
            refine TJ.br ?_
            refine TJ.alt ?_ ?_
            · skip
              have hO := hS
              refine TJ.ew rfl rfl rfl rfl rfl (Ew.append tU_ok tI_ok (C := G.cs) (xs := t14.Names) (ys := ([a1] : List ByteArray)) (hS.inn [6]) (i := 3) rfl rfl rfl rfl rfl rfl rfl rfl rfl rfl rfl rfl rfl (hS.rd (i := 7) rfl) (chk_some hu23)) (by rintro _ w1 ⟨A55, c56, rfl, hS⟩; exact hY.wr (hO.inY [6] 3 rfl rfl) hS.chg) ?_
              rintro _ w1 hY ⟨A55, c56, rfl, hS⟩
              have hS : St w no w1 [box b1 ([.slice Aa0_0 a0.Names.length ca0_0, .slice Aa0_1 a0.Eats.length ca0_1, .slice Aa0_2 a0.Foes.length ca0_2]) 29, box b2 ([.slice none 0 0, .slice none 0 0, .slice none 0 0]) 29, rowC (ci .i64) A12 (([t6, t8, t9, t11] : List Int).length) 2 ([t6, t8, t9, t11] : List Int), rowC G.cs A55 c56 9 (t14.Names ++ ([a1] : List ByteArray)), rowC (ci .i16) A17 c18 73 t14.Eats, rowC (ci .u16) A19 c20 74 t14.Foes, box b21 ([.slice A15 t14.Names.length c16, .slice A17 t14.Eats.length c18, .slice A19 t14.Foes.length c20]) 29, rowC G.cs A34 (([a1] : List ByteArray).length) 9 ([a1] : List ByteArray), rowC (ci .i16) A54 (([IntKind.i16.wrap a2] : List Int).length) 73 ([IntKind.i16.wrap a2] : List Int)] [roC G.cs Aa0_0 ca0_0 a0.Names, roC (ci .i16) Aa0_1 ca0_1 a0.Eats, roC (ci .u16) Aa0_2 ca0_2 a0.Foes] := hO.out [6] hS
              refine TJ.br ?_
              refine TJ.alt ?_ ?_
              · skip
                have hO := hS
                refine TJ.ew rfl rfl rfl rfl rfl (Ew.append tU_ok tI_ok (C := (ci .i16)) (xs := t14.Eats) (ys := ([IntKind.i16.wrap a2] : List Int)) (hS.inn [6]) (i := 4) rfl rfl rfl rfl rfl rfl rfl rfl rfl rfl rfl rfl rfl (hS.rd (i := 8) rfl) (chk_some hu27)) (by rintro _ w1 ⟨A57, c58, rfl, hS⟩; exact hY.wr (hO.inY [6] 3 rfl rfl) hS.chg) ?_
                rintro _ w1 hY ⟨A57, c58, rfl, hS⟩
                have hS : St w no w1 [box b1 ([.slice Aa0_0 a0.Names.length ca0_0, .slice Aa0_1 a0.Eats.length ca0_1, .slice Aa0_2 a0.Foes.length ca0_2]) 29, box b2 ([.slice none 0 0, .slice none 0 0, .slice none 0 0]) 29, rowC (ci .i64) A12 (([t6, t8, t9, t11] : List Int).length) 2 ([t6, t8, t9, t11] : List Int), rowC G.cs A55 c56 9 (t14.Names ++ ([a1] : List ByteArray)), rowC (ci .i16) A57 c58 73 (t14.Eats ++ ([IntKind.i16.wrap a2] : List Int)), rowC (ci .u16) A19 c20 74 t14.Foes, box b21 ([.slice A15 t14.Names.length c16, .slice A17 t14.Eats.length c18, .slice A19 t14.Foes.length c20]) 29, rowC G.cs A34 (([a1] : List ByteArray).length) 9 ([a1] : List ByteArray), rowC (ci .i16) A54 (([IntKind.i16.wrap a2] : List Int).length) 73 ([IntKind.i16.wrap a2] : List Int)] [roC G.cs Aa0_0 ca0_0 a0.Names, roC (ci .i16) Aa0_1 ca0_1 a0.Eats, roC (ci .u16) Aa0_2 ca0_2 a0.Foes] := hO.out [6] hS
                refine TJ.ef hY rfl rfl rfl rfl rfl (Ef.lit tU_ok tI_ok hS (C := (ci .u16)) rfl rfl rfl rfl rfl rfl ([0] : List Int) rfl rfl rfl rfl) ?_
                rintro _ w1 hY ⟨A59, rfl, hS⟩
                have hO := hS
                refine TJ.ew rfl rfl rfl rfl rfl (Ew.append tU_ok tI_ok (C := (ci .u16)) (xs := t14.Foes) (ys := ([0] : List Int)) (hS.inn [6]) (i := 5) rfl rfl rfl rfl rfl rfl rfl rfl rfl rfl rfl rfl rfl (hS.rd (i := 9) rfl) (chk_some hu31)) (by rintro _ w1 ⟨A60, c61, rfl, hS⟩; exact hY.wr (hO.inY [6] 3 rfl rfl) hS.chg) ?_
                rintro _ w1 hY ⟨A60, c61, rfl, hS⟩
                have hS : St w no w1 [box b1 ([.slice Aa0_0 a0.Names.length ca0_0, .slice Aa0_1 a0.Eats.length ca0_1, .slice Aa0_2 a0.Foes.length ca0_2]) 29, box b2 ([.slice none 0 0, .slice none 0 0, .slice none 0 0]) 29, rowC (ci .i64) A12 (([t6, t8, t9, t11] : List Int).length) 2 ([t6, t8, t9, t11] : List Int), rowC G.cs A55 c56 9 (t14.Names ++ ([a1] : List ByteArray)), rowC (ci .i16) A57 c58 73 (t14.Eats ++ ([IntKind.i16.wrap a2] : List Int)), rowC (ci .u16) A60 c61 74 (t14.Foes ++ ([0] : List Int)), box b21 ([.slice A15 t14.Names.length c16, .slice A17 t14.Eats.length c18, .slice A19 t14.Foes.length c20]) 29, rowC G.cs A34 (([a1] : List ByteArray).length) 9 ([a1] : List ByteArray), rowC (ci .i16) A54 (([IntKind.i16.wrap a2] : List Int).length) 73 ([IntKind.i16.wrap a2] : List Int), rowC (ci .u16) A59 (([0] : List Int).length) 74 ([0] : List Int)] [roC G.cs Aa0_0 ca0_0 a0.Names, roC (ci .i16) Aa0_1 ca0_1 a0.Eats, roC (ci .u16) Aa0_2 ca0_2 a0.Foes] := hO.out [6] hS
                refine TJ.ef hY rfl rfl rfl rfl rfl ((SR.build' tU_ok tI_ok rfl rfl rfl (zs := [.slice none 0 0, .slice none 0 0, .slice none 0 0]) rfl rfl rfl ([.slice A55 (t14.Names ++ ([a1] : List ByteArray)).length c56, .slice A57 (t14.Eats ++ ([IntKind.i16.wrap a2] : List Int)).length c58, .slice A60 (t14.Foes ++ ([0] : List Int)).length c61]) rfl).ef) ?_
                rintro _ w1 hY ⟨rfl, hx⟩
                replace hS := hS.grow hx
                have hO := hS
                refine TJ.es rfl rfl rfl rfl (Es.store tI_ok (hS.inn [6]) (i := 1) (vs := [.slice A55 (t14.Names ++ ([a1] : List ByteArray)).length c56, .slice A57 (t14.Eats ++ ([IntKind.i16.wrap a2] : List Int)).length c58, .slice A60 (t14.Foes ++ ([0] : List Int)).length c61]) rfl rfl rfl rfl rfl rfl rfl rfl (by intro u hu; simp only [List.mem_cons, List.not_mem_nil, or_false] at hu; rcases hu with rfl | rfl | rfl <;> rfl) (Nat.le_of_ble_eq_true rfl) ([.slice A55 (t14.Names ++ ([a1] : List ByteArray)).length c56, .slice A57 (t14.Eats ++ ([IntKind.i16.wrap a2] : List Int)).length c58, .slice A60 (t14.Foes ++ ([0] : List Int)).length c61]) rfl) (by intro w1 hS; exact hY.wr (hO.inY [6] 3 rfl rfl) hS.chg) ?_
                intro w1 hY hS
                have hS : St w no w1 [box b1 ([.slice Aa0_0 a0.Names.length ca0_0, .slice Aa0_1 a0.Eats.length ca0_1, .slice Aa0_2 a0.Foes.length ca0_2]) 29, box b2 ([.slice A55 (t14.Names ++ ([a1] : List ByteArray)).length c56, .slice A57 (t14.Eats ++ ([IntKind.i16.wrap a2] : List Int)).length c58, .slice A60 (t14.Foes ++ ([0] : List Int)).length c61]) 29, rowC (ci .i64) A12 (([t6, t8, t9, t11] : List Int).length) 2 ([t6, t8, t9, t11] : List Int), rowC G.cs A55 c56 9 (t14.Names ++ ([a1] : List ByteArray)), rowC (ci .i16) A57 c58 73 (t14.Eats ++ ([IntKind.i16.wrap a2] : List Int)), rowC (ci .u16) A60 c61 74 (t14.Foes ++ ([0] : List Int)), box b21 ([.slice A15 t14.Names.length c16, .slice A17 t14.Eats.length c18, .slice A19 t14.Foes.length c20]) 29, rowC G.cs A34 (([a1] : List ByteArray).length) 9 ([a1] : List ByteArray), rowC (ci .i16) A54 (([IntKind.i16.wrap a2] : List Int).length) 73 ([IntKind.i16.wrap a2] : List Int), rowC (ci .u16) A59 (([0] : List Int).length) 74 ([0] : List Int)] [roC G.cs Aa0_0 ca0_0 a0.Names, roC (ci .i16) Aa0_1 ca0_1 a0.Eats, roC (ci .u16) Aa0_2 ca0_2 a0.Foes] := hO.out [6] hS
                refine TJ.pures tU_ok 1 rfl ?_
                refine TJ.nil ?_
                exact EJ.meet (F' := [(6, .pointer (some ⟨b2, 0, none⟩)), (7, .int .i64 0)]) ⟨rfl, rfl, trivial⟩ ⟨A34, A55, c56, A54, A57, c58, A59, A60, c61, rfl, hS.pick [0, 1, 2, 3, 4, 5, 6, 7, 8, 9] [0, 1, 2] rfl⟩
              refine TJ.alt ?_ ?_
              · skip
                refine TJ.ef hY rfl rfl rfl rfl rfl (Ef.lit tU_ok tI_ok hS (C := (ci .u16)) rfl rfl rfl rfl rfl rfl ([0] : List Int) rfl rfl rfl rfl) ?_
                rintro _ w1 hY ⟨A62, rfl, hS⟩
                have hO := hS
                refine TJ.ew rfl rfl rfl rfl rfl (Ew.append tU_ok tI_ok (C := (ci .i16)) (xs := t14.Eats) (ys := ([IntKind.i16.wrap a2] : List Int)) (hS.inn [6]) (i := 4) rfl rfl rfl rfl rfl rfl rfl rfl rfl rfl rfl rfl rfl (hS.rd (i := 8) rfl) (chk_some hu27)) (by rintro _ w1 ⟨A63, c64, rfl, hS⟩; exact hY.wr (hO.inY [6] 3 rfl rfl) hS.chg) ?_
                rintro _ w1 hY ⟨A63, c64, rfl, hS⟩
                have hS : St w no w1 [box b1 ([.slice Aa0_0 a0.Names.length ca0_0, .slice Aa0_1 a0.Eats.length ca0_1, .slice Aa0_2 a0.Foes.length ca0_2]) 29, box b2 ([.slice none 0 0, .slice none 0 0, .slice none 0 0]) 29, rowC (ci .i64) A12 (([t6, t8, t9, t11] : List Int).length) 2 ([t6, t8, t9, t11] : List Int), rowC G.cs A55 c56 9 (t14.Names ++ ([a1] : List ByteArray)), rowC (ci .i16) A63 c64 73 (t14.Eats ++ ([IntKind.i16.wrap a2] : List Int)), rowC (ci .u16) A19 c20 74 t14.Foes, box b21 ([.slice A15 t14.Names.length c16, .slice A17 t14.Eats.length c18, .slice A19 t14.Foes.length c20]) 29, rowC G.cs A34 (([a1] : List ByteArray).length) 9 ([a1] : List ByteArray), rowC (ci .i16) A54 (([IntKind.i16.wrap a2] : List Int).length) 73 ([IntKind.i16.wrap a2] : List Int), rowC (ci .u16) A62 (([0] : List Int).length) 74 ([0] : List Int)] [roC G.cs Aa0_0 ca0_0 a0.Names, roC (ci .i16) Aa0_1 ca0_1 a0.Eats, roC (ci .u16) Aa0_2 ca0_2 a0.Foes] := hO.out [6] hS
                have hO := hS
                refine TJ.ew rfl rfl rfl rfl rfl (Ew.append tU_ok tI_ok (C := (ci .u16)) (xs := t14.Foes) (ys := ([0] : List Int)) (hS.inn [6]) (i := 5) rfl rfl rfl rfl rfl rfl rfl rfl rfl rfl rfl rfl rfl (hS.rd (i := 9) rfl) (chk_some hu31)) (by rintro _ w1 ⟨A65, c66, rfl, hS⟩; exact hY.wr (hO.inY [6] 3 rfl rfl) hS.chg) ?_
                rintro _ w1 hY ⟨A65, c66, rfl, hS⟩
                have hS : St w no w1 [box b1 ([.slice Aa0_0 a0.Names.length ca0_0, .slice Aa0_1 a0.Eats.length ca0_1, .slice Aa0_2 a0.Foes.length ca0_2]) 29, box b2 ([.slice none 0 0, .slice none 0 0, .slice none 0 0]) 29, rowC (ci .i64) A12 (([t6, t8, t9, t11] : List Int).length) 2 ([t6, t8, t9, t11] : List Int), rowC G.cs A55 c56 9 (t14.Names ++ ([a1] : List ByteArray)), rowC (ci .i16) A63 c64 73 (t14.Eats ++ ([IntKind.i16.wrap a2] : List Int)), rowC (ci .u16) A65 c66 74 (t14.Foes ++ ([0] : List Int)), box b21 ([.slice A15 t14.Names.length c16, .slice A17 t14.Eats.length c18, .slice A19 t14.Foes.length c20]) 29, rowC G.cs A34 (([a1] : List ByteArray).length) 9 ([a1] : List ByteArray), rowC (ci .i16) A54 (([IntKind.i16.wrap a2] : List Int).length) 73 ([IntKind.i16.wrap a2] : List Int), rowC (ci .u16) A62 (([0] : List Int).length) 74 ([0] : List Int)] [roC G.cs Aa0_0 ca0_0 a0.Names, roC (ci .i16) Aa0_1 ca0_1 a0.Eats, roC (ci .u16) Aa0_2 ca0_2 a0.Foes] := hO.out [6] hS
                refine TJ.ef hY rfl rfl rfl rfl rfl ((SR.build' tU_ok tI_ok rfl rfl rfl (zs := [.slice none 0 0, .slice none 0 0, .slice none 0 0]) rfl rfl rfl ([.slice A55 (t14.Names ++ ([a1] : List ByteArray)).length c56, .slice A63 (t14.Eats ++ ([IntKind.i16.wrap a2] : List Int)).length c64, .slice A65 (t14.Foes ++ ([0] : List Int)).length c66]) rfl).ef) ?_
                rintro _ w1 hY ⟨rfl, hx⟩
                replace hS := hS.grow hx
                have hO := hS
                refine TJ.es rfl rfl rfl rfl (Es.store tI_ok (hS.inn [6]) (i := 1) (vs := [.slice A55 (t14.Names ++ ([a1] : List ByteArray)).length c56, .slice A63 (t14.Eats ++ ([IntKind.i16.wrap a2] : List Int)).length c64, .slice A65 (t14.Foes ++ ([0] : List Int)).length c66]) rfl rfl rfl rfl rfl rfl rfl rfl (by intro u hu; simp only [List.mem_cons, List.not_mem_nil, or_false] at hu; rcases hu with rfl | rfl | rfl <;> rfl) (Nat.le_of_ble_eq_true rfl) ([.slice A55 (t14.Names ++ ([a1] : List ByteArray)).length c56, .slice A63 (t14.Eats ++ ([IntKind.i16.wrap a2] : List Int)).length c64, .slice A65 (t14.Foes ++ ([0] : List Int)).length c66]) rfl) (by intro w1 hS; exact hY.wr (hO.inY [6] 3 rfl rfl) hS.chg) ?_
                intro w1 hY hS
                have hS : St w no w1 [box b1 ([.slice Aa0_0 a0.Names.length ca0_0, .slice Aa0_1 a0.Eats.length ca0_1, .slice Aa0_2 a0.Foes.length ca0_2]) 29, box b2 ([.slice A55 (t14.Names ++ ([a1] : List ByteArray)).length c56, .slice A63 (t14.Eats ++ ([IntKind.i16.wrap a2] : List Int)).length c64, .slice A65 (t14.Foes ++ ([0] : List Int)).length c66]) 29, rowC (ci .i64) A12 (([t6, t8, t9, t11] : List Int).length) 2 ([t6, t8, t9, t11] : List Int), rowC G.cs A55 c56 9 (t14.Names ++ ([a1] : List ByteArray)), rowC (ci .i16) A63 c64 73 (t14.Eats ++ ([IntKind.i16.wrap a2] : List Int)), rowC (ci .u16) A65 c66 74 (t14.Foes ++ ([0] : List Int)), box b21 ([.slice A15 t14.Names.length c16, .slice A17 t14.Eats.length c18, .slice A19 t14.Foes.length c20]) 29, rowC G.cs A34 (([a1] : List ByteArray).length) 9 ([a1] : List ByteArray), rowC (ci .i16) A54 (([IntKind.i16.wrap a2] : List Int).length) 73 ([IntKind.i16.wrap a2] : List Int), rowC (ci .u16) A62 (([0] : List Int).length) 74 ([0] : List Int)] [roC G.cs Aa0_0 ca0_0 a0.Names, roC (ci .i16) Aa0_1 ca0_1 a0.Eats, roC (ci .u16) Aa0_2 ca0_2 a0.Foes] := hO.out [6] hS
                refine TJ.pures tU_ok 1 rfl ?_
                refine TJ.nil ?_
                exact EJ.meet (F' := [(6, .pointer (some ⟨b2, 0, none⟩)), (7, .int .i64 0)]) ⟨rfl, rfl, trivial⟩ ⟨A34, A55, c56, A54, A63, c64, A62, A65, c66, rfl, hS.pick [0, 1, 2, 3, 4, 5, 6, 7, 8, 9] [0, 1, 2] rfl⟩
              exact TJ.stop
            refine TJ.alt ?_ ?_
            · skip
              refine TJ.ef hY rfl rfl rfl rfl rfl (Ef.lit tU_ok tI_ok hS (C := (ci .u16)) rfl rfl rfl rfl rfl rfl ([0] : List Int) rfl rfl rfl rfl) ?_
              rintro _ w1 hY ⟨A67, rfl, hS⟩
              have hO := hS
              refine TJ.ew rfl rfl rfl rfl rfl (Ew.append tU_ok tI_ok (C := G.cs) (xs := t14.Names) (ys := ([a1] : List ByteArray)) (hS.inn [6]) (i := 3) rfl rfl rfl rfl rfl rfl rfl rfl rfl rfl rfl rfl rfl (hS.rd (i := 7) rfl) (chk_some hu23)) (by rintro _ w1 ⟨A68, c69, rfl, hS⟩; exact hY.wr (hO.inY [6] 3 rfl rfl) hS.chg) ?_
              rintro _ w1 hY ⟨A68, c69, rfl, hS⟩
              have hS : St w no w1 [box b1 ([.slice Aa0_0 a0.Names.length ca0_0, .slice Aa0_1 a0.Eats.length ca0_1, .slice Aa0_2 a0.Foes.length ca0_2]) 29, box b2 ([.slice none 0 0, .slice none 0 0, .slice none 0 0]) 29, rowC (ci .i64) A12 (([t6, t8, t9, t11] : List Int).length) 2 ([t6, t8, t9, t11] : List Int), rowC G.cs A68 c69 9 (t14.Names ++ ([a1] : List ByteArray)), rowC (ci .i16) A17 c18 73 t14.Eats, rowC (ci .u16) A19 c20 74 t14.Foes, box b21 ([.slice A15 t14.Names.length c16, .slice A17 t14.Eats.length c18, .slice A19 t14.Foes.length c20]) 29, rowC G.cs A34 (([a1] : List ByteArray).length) 9 ([a1] : List ByteArray), rowC (ci .i16) A54 (([IntKind.i16.wrap a2] : List Int).length) 73 ([IntKind.i16.wrap a2] : List Int), rowC (ci .u16) A67 (([0] : List Int).length) 74 ([0] : List Int)] [roC G.cs Aa0_0 ca0_0 a0.Names, roC (ci .i16) Aa0_1 ca0_1 a0.Eats, roC (ci .u16) Aa0_2 ca0_2 a0.Foes] := hO.out [6] hS
              have hO := hS
              refine TJ.ew rfl rfl rfl rfl rfl (Ew.append tU_ok tI_ok (C := (ci .i16)) (xs := t14.Eats) (ys := ([IntKind.i16.wrap a2] : List Int)) (hS.inn [6]) (i := 4) rfl rfl rfl rfl rfl rfl rfl rfl rfl rfl rfl rfl rfl (hS.rd (i := 8) rfl) (chk_some hu27)) (by rintro _ w1 ⟨A70, c71, rfl, hS⟩; exact hY.wr (hO.inY [6] 3 rfl rfl) hS.chg) ?_
              rintro _ w1 hY ⟨A70, c71, rfl, hS⟩
              have hS : St w no w1 [box b1 ([.slice Aa0_0 a0.Names.length ca0_0, .slice Aa0_1 a0.Eats.length ca0_1, .slice Aa0_2 a0.Foes.length ca0_2]) 29, box b2 ([.slice none 0 0, .slice none 0 0, .slice none 0 0]) 29, rowC (ci .i64) A12 (([t6, t8, t9, t11] : List Int).length) 2 ([t6, t8, t9, t11] : List Int), rowC G.cs A68 c69 9 (t14.Names ++ ([a1] : List ByteArray)), rowC (ci .i16) A70 c71 73 (t14.Eats ++ ([IntKind.i16.wrap a2] : List Int)), rowC (ci .u16) A19 c20 74 t14.Foes, box b21 ([.slice A15 t14.Names.length c16, .slice A17 t14.Eats.length c18, .slice A19 t14.Foes.length c20]) 29, rowC G.cs A34 (([a1] : List ByteArray).length) 9 ([a1] : List ByteArray), rowC (ci .i16) A54 (([IntKind.i16.wrap a2] : List Int).length) 73 ([IntKind.i16.wrap a2] : List Int), rowC (ci .u16) A67 (([0] : List Int).length) 74 ([0] : List Int)] [roC G.cs Aa0_0 ca0_0 a0.Names, roC (ci .i16) Aa0_1 ca0_1 a0.Eats, roC (ci .u16) Aa0_2 ca0_2 a0.Foes] := hO.out [6] hS
              have hO := hS
              refine TJ.ew rfl rfl rfl rfl rfl (Ew.append tU_ok tI_ok (C := (ci .u16)) (xs := t14.Foes) (ys := ([0] : List Int)) (hS.inn [6]) (i := 5) rfl rfl rfl rfl rfl rfl rfl rfl rfl rfl rfl rfl rfl (hS.rd (i := 9) rfl) (chk_some hu31)) (by rintro _ w1 ⟨A72, c73, rfl, hS⟩; exact hY.wr (hO.inY [6] 3 rfl rfl) hS.chg) ?_
              rintro _ w1 hY ⟨A72, c73, rfl, hS⟩
              have hS : St w no w1 [box b1 ([.slice Aa0_0 a0.Names.length ca0_0, .slice Aa0_1 a0.Eats.length ca0_1, .slice Aa0_2 a0.Foes.length ca0_2]) 29, box b2 ([.slice none 0 0, .slice none 0 0, .slice none 0 0]) 29, rowC (ci .i64) A12 (([t6, t8, t9, t11] : List Int).length) 2 ([t6, t8, t9, t11] : List Int), rowC G.cs A68 c69 9 (t14.Names ++ ([a1] : List ByteArray)), rowC (ci .i16) A70 c71 73 (t14.Eats ++ ([IntKind.i16.wrap a2] : List Int)), rowC (ci .u16) A72 c73 74 (t14.Foes ++ ([0] : List Int)), box b21 ([.slice A15 t14.Names.length c16, .slice A17 t14.Eats.length c18, .slice A19 t14.Foes.length c20]) 29, rowC G.cs A34 (([a1] : List ByteArray).length) 9 ([a1] : List ByteArray), rowC (ci .i16) A54 (([IntKind.i16.wrap a2] : List Int).length) 73 ([IntKind.i16.wrap a2] : List Int), rowC (ci .u16) A67 (([0] : List Int).length) 74 ([0] : List Int)] [roC G.cs Aa0_0 ca0_0 a0.Names, roC (ci .i16) Aa0_1 ca0_1 a0.Eats, roC (ci .u16) Aa0_2 ca0_2 a0.Foes] := hO.out [6] hS
              refine TJ.ef hY rfl rfl rfl rfl rfl ((SR.build' tU_ok tI_ok rfl rfl rfl (zs := [.slice none 0 0, .slice none 0 0, .slice none 0 0]) rfl rfl rfl ([.slice A68 (t14.Names ++ ([a1] : List ByteArray)).length c69, .slice A70 (t14.Eats ++ ([IntKind.i16.wrap a2] : List Int)).length c71, .slice A72 (t14.Foes ++ ([0] : List Int)).length c73]) rfl).ef) ?_
              rintro _ w1 hY ⟨rfl, hx⟩
              replace hS := hS.grow hx
              have hO := hS
              refine TJ.es rfl rfl rfl rfl (Es.store tI_ok (hS.inn [6]) (i := 1) (vs := [.slice A68 (t14.Names ++ ([a1] : List ByteArray)).length c69, .slice A70 (t14.Eats ++ ([IntKind.i16.wrap a2] : List Int)).length c71, .slice A72 (t14.Foes ++ ([0] : List Int)).length c73]) rfl rfl rfl rfl rfl rfl rfl rfl (by intro u hu; simp only [List.mem_cons, List.not_mem_nil, or_false] at hu; rcases hu with rfl | rfl | rfl <;> rfl) (Nat.le_of_ble_eq_true rfl) ([.slice A68 (t14.Names ++ ([a1] : List ByteArray)).length c69, .slice A70 (t14.Eats ++ ([IntKind.i16.wrap a2] : List Int)).length c71, .slice A72 (t14.Foes ++ ([0] : List Int)).length c73]) rfl) (by intro w1 hS; exact hY.wr (hO.inY [6] 3 rfl rfl) hS.chg) ?_
              intro w1 hY hS
              have hS : St w no w1 [box b1 ([.slice Aa0_0 a0.Names.length ca0_0, .slice Aa0_1 a0.Eats.length ca0_1, .slice Aa0_2 a0.Foes.length ca0_2]) 29, box b2 ([.slice A68 (t14.Names ++ ([a1] : List ByteArray)).length c69, .slice A70 (t14.Eats ++ ([IntKind.i16.wrap a2] : List Int)).length c71, .slice A72 (t14.Foes ++ ([0] : List Int)).length c73]) 29, rowC (ci .i64) A12 (([t6, t8, t9, t11] : List Int).length) 2 ([t6, t8, t9, t11] : List Int), rowC G.cs A68 c69 9 (t14.Names ++ ([a1] : List ByteArray)), rowC (ci .i16) A70 c71 73 (t14.Eats ++ ([IntKind.i16.wrap a2] : List Int)), rowC (ci .u16) A72 c73 74 (t14.Foes ++ ([0] : List Int)), box b21 ([.slice A15 t14.Names.length c16, .slice A17 t14.Eats.length c18, .slice A19 t14.Foes.length c20]) 29, rowC G.cs A34 (([a1] : List ByteArray).length) 9 ([a1] : List ByteArray), rowC (ci .i16) A54 (([IntKind.i16.wrap a2] : List Int).length) 73 ([IntKind.i16.wrap a2] : List Int), rowC (ci .u16) A67 (([0] : List Int).length) 74 ([0] : List Int)] [roC G.cs Aa0_0 ca0_0 a0.Names, roC (ci .i16) Aa0_1 ca0_1 a0.Eats, roC (ci .u16) Aa0_2 ca0_2 a0.Foes] := hO.out [6] hS
              refine TJ.pures tU_ok 1 rfl ?_
              refine TJ.nil ?_
              exact EJ.meet (F' := [(6, .pointer (some ⟨b2, 0, none⟩)), (7, .int .i64 0)]) ⟨rfl, rfl, trivial⟩ ⟨A34, A68, c69, A54, A70, c71, A67, A72, c73, rfl, hS.pick [0, 1, 2, 3, 4, 5, 6, 7, 8, 9] [0, 1, 2] rfl⟩
            exact TJ.stop
          refine TJ.alt ?_ ?_
          · skip
            refine TJ.ef hY rfl rfl rfl rfl rfl (Ef.lit tU_ok tI_ok hS (C := (ci .u16)) rfl rfl rfl rfl rfl rfl ([0] : List Int) rfl rfl rfl rfl) ?_
            rintro _ w1 hY ⟨A74, rfl, hS⟩
            refine TJ.br ?_
            refine TJ.alt ?_ ?_
            · skip
              have hO := hS
              refine TJ.ew rfl rfl rfl rfl rfl (Ew.append tU_ok tI_ok (C := G.cs) (xs := t14.Names) (ys := ([a1] : List ByteArray)) (hS.inn [6]) (i := 3) rfl rfl rfl rfl rfl rfl rfl rfl rfl rfl rfl rfl rfl (hS.rd (i := 7) rfl) (chk_some hu23)) (by rintro _ w1 ⟨A75, c76, rfl, hS⟩; exact hY.wr (hO.inY [6] 3 rfl rfl) hS.chg) ?_
              rintro _ w1 hY ⟨A75, c76, rfl, hS⟩
              have hS : St w no w1 [box b1 ([.slice Aa0_0 a0.Names.length ca0_0, .slice Aa0_1 a0.Eats.length ca0_1, .slice Aa0_2 a0.Foes.length ca0_2]) 29, box b2 ([.slice none 0 0, .slice none 0 0, .slice none 0 0]) 29, rowC (ci .i64) A12 (([t6, t8, t9, t11] : List Int).length) 2 ([t6, t8, t9, t11] : List Int), rowC G.cs A75 c76 9 (t14.Names ++ ([a1] : List ByteArray)), rowC (ci .i16) A17 c18 73 t14.Eats, rowC (ci .u16) A19 c20 74 t14.Foes, box b21 ([.slice A15 t14.Names.length c16, .slice A17 t14.Eats.length c18, .slice A19 t14.Foes.length c20]) 29, rowC G.cs A34 (([a1] : List ByteArray).length) 9 ([a1] : List ByteArray), rowC (ci .u16) A74 (([0] : List Int).length) 74 ([0] : List Int)] [roC G.cs Aa0_0 ca0_0 a0.Names, roC (ci .i16) Aa0_1 ca0_1 a0.Eats, roC (ci .u16) Aa0_2 ca0_2 a0.Foes] := hO.out [6] hS
              refine TJ.ef hY rfl rfl rfl rfl rfl (Ef.lit tU_ok tI_ok hS (C := (ci .i16)) rfl rfl rfl rfl rfl rfl ([IntKind.i16.wrap a2] : List Int) rfl rfl rfl rfl) ?_
              rintro _ w1 hY ⟨A77, rfl, hS⟩
              have hO := hS
              refine TJ.ew rfl rfl rfl rfl rfl (Ew.append tU_ok tI_ok (C := (ci .i16)) (xs := t14.Eats) (ys := ([IntKind.i16.wrap a2] : List Int)) (hS.inn [6]) (i := 4) rfl rfl rfl rfl rfl rfl rfl rfl rfl rfl rfl rfl rfl (hS.rd (i := 9) rfl) (chk_some hu27)) (by rintro _ w1 ⟨A78, c79, rfl, hS⟩; exact hY.wr (hO.inY [6] 3 rfl rfl) hS.chg) ?_
              rintro _ w1 hY ⟨A78, c79, rfl, hS⟩
              have hS : St w no w1 [box b1 ([.slice Aa0_0 a0.Names.length ca0_0, .slice Aa0_1 a0.Eats.length ca0_1, .slice Aa0_2 a0.Foes.length ca0_2]) 29, box b2 ([.slice none 0 0, .slice none 0 0, .slice none 0 0]) 29, rowC (ci .i64) A12 (([t6, t8, t9, t11] : List Int).length) 2 ([t6, t8, t9, t11] : List Int), rowC G.cs A75 c76 9 (t14.Names ++ ([a1] : List ByteArray)), rowC (ci .i16) A78 c79 73 (t14.Eats ++ ([IntKind.i16.wrap a2] : List Int)), rowC (ci .u16) A19 c20 74 t14.Foes, box b21 ([.slice A15 t14.Names.length c16, .slice A17 t14.Eats.length c18, .slice A19 t14.Foes.length c20]) 29, rowC G.cs A34 (([a1] : List ByteArray).length) 9 ([a1] : List ByteArray), rowC (ci .u16) A74 (([0] : List Int).length) 74 ([0] : List Int), rowC (ci .i16) A77 (([IntKind.i16.wrap a2] : List Int).length) 73 ([IntKind.i16.wrap a2] : List Int)] [roC G.cs Aa0_0 ca0_0 a0.Names, roC (ci .i16) Aa0_1 ca0_1 a0.Eats, roC (ci .u16) Aa0_2 ca0_2 a0.Foes] := hO.out [6] hS
              have hO := hS
              refine TJ.ew rfl rfl rfl rfl rfl (Ew.append tU_ok tI_ok (C := (ci .u16)) (xs := t14.Foes) (ys := ([0] : List Int)) (hS.inn [6]) (i := 5) rfl rfl rfl rfl rfl rfl rfl rfl rfl rfl rfl rfl rfl (hS.rd (i := 8) rfl) (chk_some hu31)) (by rintro _ w1 ⟨A80, c81, rfl, hS⟩; exact hY.wr (hO.inY [6] 3 rfl rfl) hS.chg) ?_
              rintro _ w1 hY ⟨A80, c81, rfl, hS⟩
              have hS : St w no w1 [box b1 ([.slice Aa0_0 a0.Names.length ca0_0, .slice Aa0_1 a0.Eats.length ca0_1, .slice Aa0_2 a0.Foes.length ca0_2]) 29, box b2 ([.slice none 0 0, .slice none 0 0, .slice none 0 0]) 29, rowC (ci .i64) A12 (([t6, t8, t9, t11] : List Int).length) 2 ([t6, t8, t9, t11] : List Int), rowC G.cs A75 c76 9 (t14.Names ++ ([a1] : List ByteArray)), rowC (ci .i16) A78 c79 73 (t14.Eats ++ ([IntKind.i16.wrap a2] : List Int)), rowC (ci .u16) A80 c81 74 (t14.Foes ++ ([0] : List Int)), box b21 ([.slice A15 t14.Names.length c16, .slice A17 t14.Eats.length c18, .slice A19 t14.Foes.length c20]) 29, rowC G.cs A34 (([a1] : List ByteArray).length) 9 ([a1] : List ByteArray), rowC (ci .u16) A74 (([0] : List Int).length) 74 ([0] : List Int), rowC (ci .i16) A77 (([IntKind.i16.wrap a2] : List Int).length) 73 ([IntKind.i16.wrap a2] : List Int)] [roC G.cs Aa0_0 ca0_0 a0.Names, roC (ci .i16) Aa0_1 ca0_1 a0.Eats, roC (ci .u16) Aa0_2 ca0_2 a0.Foes] := hO.out [6] hS
              refine TJ.ef hY rfl rfl rfl rfl rfl ((SR.build' tU_ok tI_ok rfl rfl rfl (zs := [.slice none 0 0, .slice none 0 0, .slice none 0 0]) rfl rfl rfl ([.slice A75 (t14.Names ++ ([a1] : List ByteArray)).length c76, .slice A78 (t14.Eats ++ ([IntKind.i16.wrap a2] : List Int)).length c79, .slice A80 (t14.Foes ++ ([0] : List Int)).length c81]) rfl).ef) ?_
              rintro _ w1 hY ⟨rfl, hx⟩
              replace hS := hS.grow hx
              have hO := hS
              refine TJ.es rfl rfl rfl rfl (Es.store tI_ok (hS.inn [6]) (i := 1) (vs := [.slice A75 (t14.Names ++ ([a1] : List ByteArray)).length c76, .slice A78 (t14.Eats ++ ([IntKind.i16.wrap a2] : List Int)).length c79, .slice A80 (t14.Foes ++ ([0] : List Int)).length c81]) rfl rfl rfl rfl rfl rfl rfl rfl (by intro u hu; simp only [List.mem_cons, List.not_mem_nil, or_false] at hu; rcases hu with rfl | rfl | rfl <;> rfl) (Nat.le_of_ble_eq_true rfl) ([.slice A75 (t14.Names ++ ([a1] : List ByteArray)).length c76, .slice A78 (t14.Eats ++ ([IntKind.i16.wrap a2] : List Int)).length c79, .slice A80 (t14.Foes ++ ([0] : List Int)).length c81]) rfl) (by intro w1 hS; exact hY.wr (hO.inY [6] 3 rfl rfl) hS.chg) ?_
              intro w1 hY hS
              have hS : St w no w1 [box b1 ([.slice Aa0_0 a0.Names.length ca0_0, .slice Aa0_1 a0.Eats.length ca0_1, .slice Aa0_2 a0.Foes.length ca0_2]) 29, box b2 ([.slice A75 (t14.Names ++ ([a1] : List ByteArray)).length c76, .slice A78 (t14.Eats ++ ([IntKind.i16.wrap a2] : List Int)).length c79, .slice A80 (t14.Foes ++ ([0] : List Int)).length c81]) 29, rowC (ci .i64) A12 (([t6, t8, t9, t11] : List Int).length) 2 ([t6, t8, t9, t11] : List Int), rowC G.cs A75 c76 9 (t14.Names ++ ([a1] : List ByteArray)), rowC (ci .i16) A78 c79 73 (t14.Eats ++ ([IntKind.i16.wrap a2] : List Int)), rowC (ci .u16) A80 c81 74 (t14.Foes ++ ([0] : List Int)), box b21 ([.slice A15 t14.Names.length c16, .slice A17 t14.Eats.length c18, .slice A19 t14.Foes.length c20]) 29, rowC G.cs A34 (([a1] : List ByteArray).length) 9 ([a1] : List ByteArray), rowC (ci .u16) A74 (([0] : List Int).length) 74 ([0] : List Int), rowC (ci .i16) A77 (([IntKind.i16.wrap a2] : List Int).length) 73 ([IntKind.i16.wrap a2] : List Int)] [roC G.cs Aa0_0 ca0_0 a0.Names, roC (ci .i16) Aa0_1 ca0_1 a0.Eats, roC (ci .u16) Aa0_2 ca0_2 a0.Foes] := hO.out [6] hS
              refine TJ.pures tU_ok 1 rfl ?_
              refine TJ.nil ?_
              exact EJ.meet (F' := [(6, .pointer (some ⟨b2, 0, none⟩)), (7, .int .i64 0)]) ⟨rfl, rfl, trivial⟩ ⟨A34, A75, c76, A77, A78, c79, A74, A80, c81, rfl, hS.pick [0, 1, 2, 3, 4, 5, 6, 7, 9, 8] [0, 1, 2] rfl⟩
            refine TJ.alt ?_ ?_
            · skip
              refine TJ.ef hY rfl rfl rfl rfl rfl (Ef.lit tU_ok tI_ok hS (C := (ci .i16)) rfl rfl rfl rfl rfl rfl ([IntKind.i16.wrap a2] : List Int) rfl rfl rfl rfl) ?_
              rintro _ w1 hY ⟨A82, rfl, hS⟩
              have hO := hS
              refine TJ.ew rfl rfl rfl rfl rfl (Ew.append tU_ok tI_ok (C := G.cs) (xs := t14.Names) (ys := ([a1] : List ByteArray)) (hS.inn [6]) (i := 3) rfl rfl rfl rfl rfl rfl rfl rfl rfl rfl rfl rfl rfl (hS.rd (i := 7) rfl) (chk_some hu23)) (by rintro _ w1 ⟨A83, c84, rfl, hS⟩; exact hY.wr (hO.inY [6] 3 rfl rfl) hS.chg) ?_
              rintro _ w1 hY ⟨A83, c84, rfl, hS⟩
              have hS : St w no w1 [box b1 ([.slice Aa0_0 a0.Names.length ca0_0, .slice Aa0_1 a0.Eats.length ca0_1, .slice Aa0_2 a0.Foes.length ca0_2]) 29, box b2 ([.slice none 0 0, .slice none 0 0, .slice none 0 0]) 29, rowC (ci .i64) A12 (([t6, t8, t9, t11] : List Int).length) 2 ([t6, t8, t9, t11] : List Int), rowC G.cs A83 c84 9 (t14.Names ++ ([a1] : List ByteArray)), rowC (ci .i16) A17 c18 73 t14.Eats, rowC (ci .u16) A19 c20 74 t14.Foes, box b21 ([.slice A15 t14.Names.length c16, .slice A17 t14.Eats.length c18, .slice A19 t14.Foes.length c20]) 29, rowC G.cs A34 (([a1] : List ByteArray).length) 9 ([a1] : List ByteArray), rowC (ci .u16) A74 (([0] : List Int).length) 74 ([0] : List Int), rowC (ci .i16) A82 (([IntKind.i16.wrap a2] : List Int).length) 73 ([IntKind.i16.wrap a2] : List Int)] [roC G.cs Aa0_0 ca0_0 a0.Names, roC (ci .i16) Aa0_1 ca0_1 a0.Eats, roC (ci .u16) Aa0_2 ca0_2 a0.Foes] := hO.out [6] hS
              have hO := hS
              refine TJ.ew rfl rfl rfl rfl rfl (Ew.append tU_ok tI_ok (C := (ci .i16)) (xs := t14.Eats) (ys := ([IntKind.i16.wrap a2] : List Int)) (hS.inn [6]) (i := 4) rfl rfl rfl rfl rfl rfl rfl rfl rfl rfl rfl rfl rfl (hS.rd (i := 9) rfl) (chk_some hu27)) (by rintro _ w1 ⟨A85, c86, rfl, hS⟩; exact hY.wr (hO.inY [6] 3 rfl rfl) hS.chg) ?_
              rintro _ w1 hY ⟨A85, c86, rfl, hS⟩
              have hS : St w no w1 [box b1 ([.slice Aa0_0 a0.Names.length ca0_0, .slice Aa0_1 a0.Eats.length ca0_1, .slice Aa0_2 a0.Foes.length ca0_2]) 29, box b2 ([.slice none 0 0, .slice none 0 0, .slice none 0 0]) 29, rowC (ci .i64) A12 (([t6, t8, t9, t11] : List Int).length) 2 ([t6, t8, t9, t11] : List Int), rowC G.cs A83 c84 9 (t14.Names ++ ([a1] : List ByteArray)), rowC (ci .i16) A85 c86 73 (t14.Eats ++ ([IntKind.i16.wrap a2] : List Int)), rowC (ci .u16) A19 c20 74 t14.Foes, box b21 ([.slice A15 t14.Names.length c16, .slice A17 t14.Eats.length c18, .slice A19 t14.Foes.length c20]) 29, rowC G.cs A34 (([a1] : List ByteArray).length) 9 ([a1] : List ByteArray), rowC (ci .u16) A74 (([0] : List Int).length) 74 ([0] : List Int), rowC (ci .i16) A82 (([IntKind.i16.wrap a2] : List Int).length) 73 ([IntKind.i16.wrap a2] : List Int)] [roC G.cs Aa0_0 ca0_0 a0.Names, roC (ci .i16) Aa0_1 ca0_1 a0.Eats, roC (ci .u16) Aa0_2 ca0_2 a0.Foes] := hO.out [6] hS
              have hO := hS
              refine TJ.ew rfl rfl rfl rfl rfl (Ew.append tU_ok tI_ok (C := (ci .u16)) (xs := t14.Foes) (ys := ([0] : List Int)) (hS.inn [6]) (i := 5) rfl rfl rfl rfl rfl rfl rfl rfl rfl rfl rfl rfl rfl (hS.rd (i := 8) rfl) (chk_some hu31)) (by rintro _ w1 ⟨A87, c88, rfl, hS⟩; exact hY.wr (hO.inY [6] 3 rfl rfl) hS.chg) ?_
              rintro _ w1 hY ⟨A87, c88, rfl, hS⟩
              have hS : St w no w1 [box b1 ([.slice Aa0_0 a0.Names.length ca0_0, .slice Aa0_1 a0.Eats.length ca0_1, .slice Aa0_2 a0.Foes.length ca0_2]) 29, box b2 ([.slice none 0 0, .slice none 0 0, .slice none 0 0]) 29, rowC (ci .i64) A12 (([t6, t8, t9, t11] : List Int).length) 2 ([t6, t8, t9, t11] : List Int), rowC G.cs A83 c84 9 (t14.Names ++ ([a1] : List ByteArray)), rowC (ci .i16) A85 c86 73 (t14.Eats ++ ([IntKind.i16.wrap a2] : List Int)), rowC (ci .u16) A87 c88 74 (t14.Foes ++ ([0] : List Int)), box b21 ([.slice A15 t14.Names.length c16, .slice A17 t14.Eats.length c18, .slice A19 t14.Foes.length c20]) 29, rowC G.cs A34 (([a1] : List ByteArray).length) 9 ([a1] : List ByteArray), rowC (ci .u16) A74 (([0] : List Int).length) 74 ([0] : List Int), rowC (ci .i16) A82 (([IntKind.i16.wrap a2] : List Int).length) 73 ([IntKind.i16.wrap a2] : List Int)] [roC G.cs Aa0_0 ca0_0 a0.Names, roC (ci .i16) Aa0_1 ca0_1 a0.Eats, roC (ci .u16) Aa0_2 ca0_2 a0.Foes] := hO.out [6] hS
              refine TJ.ef hY rfl rfl rfl rfl rfl ((SR.build' tU_ok tI_ok rfl rfl rfl (zs := [.slice none 0 0, .slice none 0 0, .slice none 0 0]) rfl rfl rfl ([.slice A83 (t14.Names ++ ([a1] : List ByteArray)).length c84, .slice A85 (t14.Eats ++ ([IntKind.i16.wrap a2] : List Int)).length c86, .slice A87 (t14.Foes ++ ([0] : List Int)).length c88]) rfl).ef) ?_
              rintro _ w1 hY ⟨rfl, hx⟩
              replace hS := hS.grow hx
              have hO := hS
              refine TJ.es rfl rfl rfl rfl (Es.store tI_ok (hS.inn [6]) (i := 1) (vs := [.slice A83 (t14.Names ++ ([a1] : List ByteArray)).length c84, .slice A85 (t14.Eats ++ ([IntKind.i16.wrap a2] : List Int)).length c86, .slice A87 (t14.Foes ++ ([0] : List Int)).length c88]) rfl rfl rfl rfl rfl rfl rfl rfl (by intro u hu; simp only [List.mem_cons, List.not_mem_nil, or_false] at hu; rcases hu with rfl | rfl | rfl <;> rfl) (Nat.le_of_ble_eq_true rfl) ([.slice A83 (t14.Names ++ ([a1] : List ByteArray)).length c84, .slice A85 (t14.Eats ++ ([IntKind.i16.wrap a2] : List Int)).length c86, .slice A87 (t14.Foes ++ ([0] : List Int)).length c88]) rfl) (by intro w1 hS; exact hY.wr (hO.inY [6] 3 rfl rfl) hS.chg) ?_
              intro w1 hY hS
              have hS : St w no w1 [box b1 ([.slice Aa0_0 a0.Names.length ca0_0, .slice Aa0_1 a0.Eats.length ca0_1, .slice Aa0_2 a0.Foes.length ca0_2]) 29, box b2 ([.slice A83 (t14.Names ++ ([a1] : List ByteArray)).length c84, .slice A85 (t14.Eats ++ ([IntKind.i16.wrap a2] : List Int)).length c86, .slice A87 (t14.Foes ++ ([0] : List Int)).length c88]) 29, rowC (ci .i64) A12 (([t6, t8, t9, t11] : List Int).length) 2 ([t6, t8, t9, t11] : List Int), rowC G.cs A83 c84 9 (t14.Names ++ ([a1] : List ByteArray)), rowC (ci .i16) A85 c86 73 (t14.Eats ++ ([IntKind.i16.wrap a2] : List Int)), rowC (ci .u16) A87 c88 74 (t14.Foes ++ ([0] : List Int)), box b21 ([.slice A15 t14.Names.length c16, .slice A17 t14.Eats.length c18, .slice A19 t14.Foes.length c20]) 29, rowC G.cs A34 (([a1] : List ByteArray).length) 9 ([a1] : List ByteArray), rowC (ci .u16) A74 (([0] : List Int).length) 74 ([0] : List Int), rowC (ci .i16) A82 (([IntKind.i16.wrap a2] : List Int).length) 73 ([IntKind.i16.wrap a2] : List Int)] [roC G.cs Aa0_0 ca0_0 a0.Names, roC (ci .i16) Aa0_1 ca0_1 a0.Eats, roC (ci .u16) Aa0_2 ca0_2 a0.Foes] := hO.out [6] hS
              refine TJ.pures tU_ok 1 rfl ?_
              refine TJ.nil ?_
              exact EJ.meet (F' := [(6, .pointer (some ⟨b2, 0, none⟩)), (7, .int .i64 0)]) ⟨rfl, rfl, trivial⟩ ⟨A34, A83, c84, A82, A85, c86, A74, A87, c88, rfl, hS.pick [0, 1, 2, 3, 4, 5, 6, 7, 9, 8] [0, 1, 2] rfl⟩
            exact TJ.stop
          exact TJ.stop
        refine TJ.alt ?_ ?_
        · skip
          refine TJ.ef hY rfl rfl rfl rfl rfl (Ef.lit tU_ok tI_ok hS (C := (ci .i16)) rfl rfl rfl rfl rfl rfl ([IntKind.i16.wrap a2] : List Int) rfl rfl rfl rfl) ?_
          rintro _ w1 hY ⟨A89, rfl, hS⟩
          refine TJ.br ?_
          refine TJ.alt ?_ ?_
          · skip
            refine TJ.ef hY rfl rfl rfl rfl rfl (Ef.lit tU_ok tI_ok hS (C := G.cs) rfl rfl rfl rfl rfl rfl ([a1] : List ByteArray) rfl rfl rfl rfl) ?_
            rintro _ w1 hY ⟨A90, rfl, hS⟩
            refine TJ.br ?_
            refine TJ.alt ?_ ?_
            · skip
              have hO := hS
              refine TJ.ew rfl rfl rfl rfl rfl (Ew.append tU_ok tI_ok (C := G.cs) (xs := t14.Names) (ys := ([a1] : List ByteArray)) (hS.inn [6]) (i := 3) rfl rfl rfl rfl rfl rfl rfl rfl rfl rfl rfl rfl rfl (hS.rd (i := 8) rfl) (chk_some hu23)) (by rintro _ w1 ⟨A91, c92, rfl, hS⟩; exact hY.wr (hO.inY [6] 3 rfl rfl) hS.chg) ?_
              rintro _ w1 hY ⟨A91, c92, rfl, hS⟩
              have hS : St w no w1 [box b1 ([.slice Aa0_0 a0.Names.length ca0_0, .slice Aa0_1 a0.Eats.length ca0_1, .slice Aa0_2 a0.Foes.length ca0_2]) 29, box b2 ([.slice none 0 0, .slice none 0 0, .slice none 0 0]) 29, rowC (ci .i64) A12 (([t6, t8, t9, t11] : List Int).length) 2 ([t6, t8, t9, t11] : List Int), rowC G.cs A91 c92 9 (t14.Names ++ ([a1] : List ByteArray)), rowC (ci .i16) A17 c18 73 t14.Eats, rowC (ci .u16) A19 c20 74 t14.Foes, box b21 ([.slice A15 t14.Names.length c16, .slice A17 t14.Eats.length c18, .slice A19 t14.Foes.length c20]) 29, rowC (ci .i16) A89 (([IntKind.i16.wrap a2] : List Int).length) 73 ([IntKind.i16.wrap a2] : List Int), rowC G.cs A90 (([a1] : List ByteArray).length) 9 ([a1] : List ByteArray)] [roC G.cs Aa0_0 ca0_0 a0.Names, roC (ci .i16) Aa0_1 ca0_1 a0.Eats, roC (ci .u16) Aa0_2 ca0_2 a0.Foes] := hO.out [6] hS
              refine TJ.br ?_
              refine TJ.alt ?_ ?_
              · skip
                have hO := hS
                refine TJ.ew rfl rfl rfl rfl rfl (Ew.append tU_ok tI_ok (C := (ci .i16)) (xs := t14.Eats) (ys := ([IntKind.i16.wrap a2] : List Int)) (hS.inn [6]) (i := 4) rfl rfl rfl rfl rfl rfl rfl rfl rfl rfl rfl rfl rfl (hS.rd (i := 7) rfl) (chk_some hu27)) (by rintro _ w1 ⟨A93, c94, rfl, hS⟩; exact hY.wr (hO.inY [6] 3 rfl rfl) hS.chg) ?_
                rintro _ w1 hY ⟨A93, c94, rfl, hS⟩
                have hS : St w no w1 [box b1 ([.slice Aa0_0 a0.Names.length ca0_0, .slice Aa0_1 a0.Eats.length ca0_1, .slice Aa0_2 a0.Foes.length ca0_2]) 29, box b2 ([.slice none 0 0, .slice none 0 0, .slice none 0 0]) 29, rowC (ci .i64) A12 (([t6, t8, t9, t11] : List Int).length) 2 ([t6, t8, t9, t11] : List Int), rowC G.cs A91 c92 9 (t14.Names ++ ([a1] : List ByteArray)), rowC (ci .i16) A93 c94 73 (t14.Eats ++ ([IntKind.i16.wrap a2] : List Int)), rowC (ci .u16) A19 c20 74 t14.Foes, box b21 ([.slice A15 t14.Names.length c16, .slice A17 t14.Eats.length c18, .slice A19 t14.Foes.length c20]) 29, rowC (ci .i16) A89 (([IntKind.i16.wrap a2] : List Int).length) 73 ([IntKind.i16.wrap a2] : List Int), rowC G.cs A90 (([a1] : List ByteArray).length) 9 ([a1] : List ByteArray)] [roC G.cs Aa0_0 ca0_0 a0.Names, roC (ci .i16) Aa0_1 ca0_1 a0.Eats, roC (ci .u16) Aa0_2 ca0_2 a0.Foes] := hO.out [6] hS
                refine TJ.ef hY rfl rfl rfl rfl rfl (Ef.lit tU_ok tI_ok hS (C := (ci .u16)) rfl rfl rfl rfl rfl rfl ([0] : List Int) rfl rfl rfl rfl) ?_
                rintro _ w1 hY ⟨A95, rfl, hS⟩
                have hO := hS
                refine TJ.ew rfl rfl rfl rfl rfl (Ew.append tU_ok tI_ok (C := (ci .u16)) (xs := t14.Foes) (ys := ([0] : List Int)) (hS.inn [6]) (i := 5) rfl rfl rfl rfl rfl rfl rfl rfl rfl rfl rfl rfl rfl (hS.rd (i := 9) rfl) (chk_some hu31)) (by rintro _ w1 ⟨A96, c97, rfl, hS⟩; exact hY.wr (hO.inY [6] 3 rfl rfl) hS.chg) ?_
                rintro _ w1 hY ⟨A96, c97, rfl, hS⟩
                have hS : St w no w1 [box b1 ([.slice Aa0_0 a0.Names.length ca0_0, .slice Aa0_1 a0.Eats.length ca0_1, .slice Aa0_2 a0.Foes.length ca0_2]) 29, box b2 ([.slice none 0 0, .slice none 0 0, .slice none 0 0]) 29, rowC (ci .i64) A12 (([t6, t8, t9, t11] : List Int).length) 2 ([t6, t8, t9, t11] : List Int), rowC G.cs A91 c92 9 (t14.Names ++ ([a1] : List ByteArray)), rowC (ci .i16) A93 c94 73 (t14.Eats ++ ([IntKind.i16.wrap a2] : List Int)), rowC (ci .u16) A96 c97 74 (t14.Foes ++ ([0] : List Int)), box b21 ([.slice A15 t14.Names.length c16, .slice A17 t14.Eats.length c18, .slice A19 t14.Foes.length c20]) 29, rowC (ci .i16) A89 (([IntKind.i16.wrap a2] : List Int).length) 73 ([IntKind.i16.wrap a2] : List Int), rowC G.cs A90 (([a1] : List ByteArray).length) 9 ([a1] : List ByteArray), rowC (ci .u16) A95 (([0] : List Int).length) 74 ([0] : List Int)] [roC G.cs Aa0_0 ca0_0 a0.Names, roC (ci .i16) Aa0_1 ca0_1 a0.Eats, roC (ci .u16) Aa0_2 ca0_2 a0.Foes] := hO.out [6] hS
                refine TJ.ef hY rfl rfl rfl rfl rfl ((SR.build' tU_ok tI_ok rfl rfl rfl (zs := [.slice none 0 0, .slice none 0 0, .slice none 0 0]) rfl rfl rfl ([.slice A91 (t14.Names ++ ([a1] : List ByteArray)).length c92, .slice A93 (t14.Eats ++ ([IntKind.i16.wrap a2] : List Int)).length c94, .slice A96 (t14.Foes ++ ([0] : List Int)).length c97]) rfl).ef) ?_
                rintro _ w1 hY ⟨rfl, hx⟩
                replace hS := hS.grow hx
                have hO := hS
                refine TJ.es rfl rfl rfl rfl (Es.store tI_ok (hS.inn [6]) (i := 1) (vs := [.slice A91 (t14.Names ++ ([a1] : List ByteArray)).length c92, .slice A93 (t14.Eats ++ ([IntKind.i16.wrap a2] : List Int)).length c94, .slice A96 (t14.Foes ++ ([0] : List Int)).length c97]) rfl rfl rfl rfl rfl rfl rfl rfl (by intro u hu; simp only [List.mem_cons, List.not_mem_nil, or_false] at hu; rcases hu with rfl | rfl | rfl <;> rfl) (Nat.le_of_ble_eq_true rfl) ([.slice A91 (t14.Names ++ ([a1] : List ByteArray)).length c92, .slice A93 (t14.Eats ++ ([IntKind.i16.wrap a2] : List Int)).length c94, .slice A96 (t14.Foes ++ ([0] : List Int)).length c97]) rfl) (by intro w1 hS; exact hY.wr (hO.inY [6] 3 rfl rfl) hS.chg) ?_
                intro w1 hY hS
                have hS : St w no w1 [box b1 ([.slice Aa0_0 a0.Names.length ca0_0, .slice Aa0_1 a0.Eats.length ca0_1, .slice Aa0_2 a0.Foes.length ca0_2]) 29, box b2 ([.slice A91 (t14.Names ++ ([a1] : List ByteArray)).length c92, .slice A93 (t14.Eats ++ ([IntKind.i16.wrap a2] : List Int)).length c94, .slice A96 (t14.Foes ++ ([0] : List Int)).length c97]) 29, rowC (ci .i64) A12 (([t6, t8, t9, t11] : List Int).length) 2 ([t6, t8, t9, t11] : List Int), rowC G.cs A91 c92 9 (t14.Names ++ ([a1] : List ByteArray)), rowC (ci .i16) A93 c94 73 (t14.Eats ++ ([IntKind.i16.wrap a2] : List Int)), rowC (ci .u16) A96 c97 74 (t14.Foes ++ ([0] : List Int)), box b21 ([.slice A15 t14.Names.length c16, .slice A17 t14.Eats.length c18, .slice A19 t14.Foes.length c20]) 29, rowC (ci .i16) A89 (([IntKind.i16.wrap a2] : List Int).length) 73 ([IntKind.i16.wrap a2] : List Int), rowC G.cs A90 (([a1] : List ByteArray).length) 9 ([a1] : List ByteArray), rowC (ci .u16) A95 (([0] : List Int).length) 74 ([0] : List Int)] [roC G.cs Aa0_0 ca0_0 a0.Names, roC (ci .i16) Aa0_1 ca0_1 a0.Eats, roC (ci .u16) Aa0_2 ca0_2 a0.Foes] := hO.out [6] hS
                refine TJ.pures tU_ok 1 rfl ?_
                refine TJ.nil ?_
                exact EJ.meet (F' := [(6, .pointer (some ⟨b2, 0, none⟩)), (7, .int .i64 0)]) ⟨rfl, rfl, trivial⟩ ⟨A90, A91, c92, A89, A93, c94, A95, A96, c97, rfl, hS.pick [0, 1, 2, 3, 4, 5, 6, 8, 7, 9] [0, 1, 2] rfl⟩
              refine TJ.alt ?_ ?_
              · skip
                refine TJ.ef hY rfl rfl rfl rfl rfl (Ef.lit tU_ok tI_ok hS (C := (ci .u16)) rfl rfl rfl rfl rfl rfl ([0] : List Int) rfl rfl rfl rfl) ?_
                rintro _ w1 hY ⟨A98, rfl, hS⟩
                have hO := hS
                refine TJ.ew rfl rfl rfl rfl rfl (Ew.append tU_ok tI_ok (C := (ci .i16)) (xs := t14.Eats) (ys := ([IntKind.i16.wrap a2] : List Int)) (hS.inn [6]) (i := 4) rfl rfl rfl rfl rfl rfl rfl rfl rfl rfl rfl rfl rfl (hS.rd (i := 7) rfl) (chk_some hu27)) (by rintro _ w1 ⟨A99, c100, rfl, hS⟩; exact hY.wr (hO.inY [6] 3 rfl rfl) hS.chg) ?_
                rintro _ w1 hY ⟨A99, c100, rfl, hS⟩
                have hS : St w no w1 [box b1 ([.slice Aa0_0 a0.Names.length ca0_0, .slice Aa0_1 a0.Eats.length ca0_1, .slice Aa0_2 a0.Foes.length ca0_2]) 29, box b2 ([.slice none 0 0, .slice none 0 0, .slice none 0 0]) 29, rowC (ci .i64) A12 (([t6, t8, t9, t11] : List Int).length) 2 ([t6, t8, t9, t11] : List Int), rowC G.cs A91 c92 9 (t14.Names ++ ([a1] : List ByteArray)), rowC (ci .i16) A99 c100 73 (t14.Eats ++ ([IntKind.i16.wrap a2] : List Int)), rowC (ci .u16) A19 c20 74 t14.Foes, box b21 ([.slice A15 t14.Names.length c16, .slice A17 t14.Eats.length c18, .slice A19 t14.Foes.length c20]) 29, rowC (ci .i16) A89 (([IntKind.i16.wrap a2] : List Int).length) 73 ([IntKind.i16.wrap a2] : List Int), rowC G.cs A90 (([a1] : List ByteArray).length) 9 ([a1] : List ByteArray), rowC (ci .u16) A98 (([0] : List Int).length) 74 ([0] : List Int)] [roC G.cs Aa0_0 ca0_0 a0.Names, roC (ci .i16) Aa0_1 ca0_1 a0.Eats, roC (ci .u16) Aa0_2 ca0_2 a0.Foes] := hO.out [6] hS
                have hO := hS
                refine TJ.ew rfl rfl rfl rfl rfl (Ew.append tU_ok tI_ok (C := (ci .u16)) (xs := t14.Foes) (ys := ([0] : List Int)) (hS.inn [6]) (i := 5) rfl rfl rfl rfl rfl rfl rfl rfl rfl rfl rfl rfl rfl (hS.rd (i := 9) rfl) (chk_some hu31)) (by rintro _ w1 ⟨A101, c102, rfl, hS⟩; exact hY.wr (hO.inY [6] 3 rfl rfl) hS.chg) ?_
                rintro _ w1 hY ⟨A101, c102, rfl, hS⟩
                have hS : St w no w1 [box b1 ([.slice Aa0_0 a0.Names.length ca0_0, .slice Aa0_1 a0.Eats.length ca0_1, .slice Aa0_2 a0.Foes.length ca0_2]) 29, box b2 ([.slice none 0 0, .slice none 0 0, .slice none 0 0]) 29, rowC (ci .i64) A12 (([t6, t8, t9, t11] : List Int).length) 2 ([t6, t8, t9, t11] : List Int), rowC G.cs A91 c92 9 (t14.Names ++ ([a1] : List ByteArray)), rowC (ci .i16) A99 c100 73 (t14.Eats ++ ([IntKind.i16.wrap a2] : List Int)), rowC (ci .u16) A101 c102 74 (t14.Foes ++ ([0] : List Int)), box b21 ([.slice A15 t14.Names.length c16, .slice A17 t14.Eats.length c18, .slice A19 t14.Foes.length c20]) 29, rowC (ci .i16) A89 (([IntKind.i16.wrap a2] : List Int).length) 73 ([IntKind.i16.wrap a2] : List Int), rowC G.cs A90 (([a1] : List ByteArray).length) 9 ([a1] : List ByteArray), rowC (ci .u16) A98 (([0] : List Int).length) 74 ([0] : List Int)] [roC G.cs Aa0_0 ca0_0 a0.Names, roC (ci .i16) Aa0_1 ca0_1 a0.Eats, roC (ci .u16) Aa0_2 ca0_2 a0.Foes] := hO.out [6] hS
                refine TJ.ef hY rfl rfl rfl rfl rfl ((SR.build' tU_ok tI_ok rfl rfl rfl (zs := [.slice none 0 0, .slice none 0 0, .slice none 0 0]) rfl rfl rfl ([.slice A91 (t14.Names ++ ([a1] : List ByteArray)).length c92, .slice A99 (t14.Eats ++ ([IntKind.i16.wrap a2] : List Int)).length c100, .slice A101 (t14.Foes ++ ([0] : List Int)).length c102]) rfl).ef) ?_
                rintro _ w1 hY ⟨rfl, hx⟩
                replace hS := hS.grow hx
                have hO := hS
                refine TJ.es rfl rfl rfl rfl (Es.store tI_ok (hS.inn [6]) (i := 1) (vs := [.slice A91 (t14.Names ++ ([a1] : List ByteArray)).length c92, .slice A99 (t14.Eats ++ ([IntKind.i16.wrap a2] : List Int)).length c100, .slice A101 (t14.Foes ++ ([0] : List Int)).length c102]) rfl rfl rfl rfl rfl rfl rfl rfl (by intro u hu; simp only [List.mem_cons, List.not_mem_nil, or_false] at hu; rcases hu with rfl | rfl | rfl <;> rfl) (Nat.le_of_ble_eq_true rfl) ([.slice A91 (t14.Names ++ ([a1] : List ByteArray)).length c92, .slice A99 (t14.Eats ++ ([IntKind.i16.wrap a2] : List Int)).length c100, .slice A101 (t14.Foes ++ ([0] : List Int)).length c102]) rfl) (by intro w1 hS; exact hY.wr (hO.inY [6] 3 rfl rfl) hS.chg) ?_
                intro w1 hY hS
                have hS : St w no w1 [box b1 ([.slice Aa0_0 a0.Names.length ca0_0, .slice Aa0_1 a0.Eats.length ca0_1, .slice Aa0_2 a0.Foes.length ca0_2]) 29, box b2 ([.slice A91 (t14.Names ++ ([a1] : List ByteArray)).length c92, .slice A99 (t14.Eats ++ ([IntKind.i16.wrap a2] : List Int)).length c100, .slice A101 (t14.Foes ++ ([0] : List Int)).length c102]) 29, rowC (ci .i64) A12 (([t6, t8, t9, t11] : List Int).length) 2 ([t6, t8, t9, t11] : List Int), rowC G.cs A91 c92 9 (t14.Names ++ ([a1] : List ByteArray)), rowC (ci .i16) A99 c100 73 (t14.Eats ++ ([IntKind.i16.wrap a2] : List Int)), rowC (ci .u16) A101 c102 74 (t14.Foes ++ ([0] : List Int)), box b21 ([.slice A15 t14.Names.length c16, .slice A17 t14.Eats.length c18, .slice A19 t14.Foes.length c20]) 29, rowC (ci .i16) A89 (([IntKind.i16.wrap a2] : List Int).length) 73 ([IntKind.i16.wrap a2] : List Int), rowC G.cs A90 (([a1] : List ByteArray).length) 9 ([a1] : List ByteArray), rowC (ci .u16) A98 (([0] : List Int).length) 74 ([0] : List Int)] [roC G.cs Aa0_0 ca0_0 a0.Names, roC (ci .i16) Aa0_1 ca0_1 a0.Eats, roC (ci .u16) Aa0_2 ca0_2 a0.Foes] := hO.out [6] hS
                refine TJ.pures tU_ok 1 rfl ?_
                refine TJ.nil ?_
                exact EJ.meet (F' := [(6, .pointer (some ⟨b2, 0, none⟩)), (7, .int .i64 0)]) ⟨rfl, rfl, trivial⟩ ⟨A90, A91, c92, A89, A99, c100, A98, A101, c102, rfl, hS.pick [0, 1, 2, 3, 4, 5, 6, 8, 7, 9] [0, 1, 2] rfl⟩
              exact TJ.stop
            refine TJ.alt ?_ ?_
            · skip
              refine TJ.ef hY rfl rfl rfl rfl rfl (Ef.lit tU_ok tI_ok hS (C := (ci .u16)) rfl rfl rfl rfl rfl rfl ([0] : List Int) rfl rfl rfl rfl) ?_
              rintro _ w1 hY ⟨A103, rfl, hS⟩
              have hO := hS
              refine TJ.ew rfl rfl rfl rfl rfl (Ew.append tU_ok tI_ok (C := G.cs) (xs := t14.Names) (ys := ([a1] : List ByteArray)) (hS.inn [6]) (i := 3) rfl rfl rfl rfl rfl rfl rfl rfl rfl rfl rfl rfl rfl (hS.rd (i := 8) rfl) (chk_some hu23)) (by rintro _ w1 ⟨A104, c105, rfl, hS⟩; exact hY.wr (hO.inY [6] 3 rfl rfl) hS.chg) ?_
              rintro _ w1 hY ⟨A104, c105, rfl, hS⟩
              have hS : St w no w1 [box b1 ([.slice Aa0_0 a0.Names.length ca0_0, .slice Aa0_1 a0.Eats.length ca0_1, .slice Aa0_2 a0.Foes.length ca0_2]) 29, box b2 ([.slice none 0 0, .slice none 0 0, .slice none 0 0]) 29, rowC (ci .i64) A12 (([t6, t8, t9, t11] : List Int).length) 2 ([t6, t8, t9, t11] : List Int), rowC G.cs A104 c105 9 (t14.Names ++ ([a1] : List ByteArray)), rowC (ci .i16) A17 c18 73 t14.Eats, rowC (ci .u16) A19 c20 74 t14.Foes, box b21 ([.slice A15 t14.Names.length c16, .slice A17 t14.Eats.length c18, .slice A19 t14.Foes.length c20]) 29, rowC (ci .i16) A89 (([IntKind.i16.wrap a2] : List Int).length) 73 ([IntKind.i16.wrap a2] : List Int), rowC G.cs A90 (([a1] : List ByteArray).length) 9 ([a1] : List ByteArray), rowC (ci .u16) A103 (([0] : List Int).length) 74 ([0] : List Int)] [roC G.cs Aa0_0 ca0_0 a0.Names, roC (ci .i16) Aa0_1 ca0_1 a0.Eats, roC (ci .u16) Aa0_2 ca0_2 a0.Foes] := hO.out [6] hS
              have hO := hS
              refine TJ.ew rfl rfl rfl rfl rfl (Ew.append tU_ok tI_ok (C := (ci .i16)) (xs := t14.Eats) (ys := ([IntKind.i16.wrap a2] : List Int)) (hS.inn [6]) (i := 4) rfl rfl rfl rfl rfl rfl rfl rfl rfl rfl rfl rfl rfl (hS.rd (i := 7) rfl) (chk_some hu27)) (by rintro _ w1 ⟨A106, c107, rfl, hS⟩; exact hY.wr (hO.inY [6] 3 rfl rfl) hS.chg) ?_
              rintro _ w1 hY ⟨A106, c107, rfl, hS⟩
              have hS : St w no w1 [box b1 ([.slice Aa0_0 a0.Names.length ca0_0, .slice Aa0_1 a0.Eats.length ca0_1, .slice Aa0_2 a0.Foes.length ca0_2]) 29, box b2 ([.slice none 0 0, .slice none 0 0, .slice none 0 0]) 29, rowC (ci .i64) A12 (([t6, t8, t9, t11] : List Int).length) 2 ([t6, t8, t9, t11] : List Int), rowC G.cs A104 c105 9 (t14.Names ++ ([a1] : List ByteArray)), rowC (ci .i16) A106 c107 73 (t14.Eats ++ ([IntKind.i16.wrap a2] : List Int)), rowC (ci .u16) A19 c20 74 t14.Foes, box b21 ([.slice A15 t14.Names.length c16, .slice A17 t14.Eats.length c18, .slice A19 t14.Foes.length c20]) 29, rowC (ci .i16) A89 (([IntKind.i16.wrap a2] : List Int).length) 73 ([IntKind.i16.wrap a2] : List Int), rowC G.cs A90 (([a1] : List ByteArray).length) 9 ([a1] : List ByteArray), rowC (ci .u16) A103 (([0] : List Int).length) 74 ([0] : List Int)] [roC G.cs Aa0_0 ca0_0 a0.Names, roC (ci .i16) Aa0_1 ca0_1 a0.Eats, roC (ci .u16) Aa0_2 ca0_2 a0.Foes] := hO.out [6] hS
              have hO := hS
              refine TJ.ew rfl rfl rfl rfl rfl (Ew.append tU_ok tI_ok (C := (ci .u16)) (xs := t14.Foes) (ys := ([0] : List Int)) (hS.inn [6]) (i := 5) rfl rfl rfl rfl rfl rfl rfl rfl rfl rfl rfl rfl rfl (hS.rd (i := 9) rfl) (chk_some hu31)) (by rintro _ w1 ⟨A108, c109, rfl, hS⟩; exact hY.wr (hO.inY [6] 3 rfl rfl) hS.chg) ?_
              rintro _ w1 hY ⟨A108, c109, rfl, hS⟩
              have hS : St w no w1 [box b1 ([.slice Aa0_0 a0.Names.length ca0_0, .slice Aa0_1 a0.Eats.length ca0_1, .slice Aa0_2 a0.Foes.length ca0_2]) 29, box b2 ([.slice none 0 0, .slice none 0 0, .slice none 0 0]) 29, rowC (ci .i64) A12 (([t6, t8, t9, t11] : List Int).length) 2 ([t6, t8, t9, t11] : List Int), rowC G.cs A104 c105 9 (t14.Names ++ ([a1] : List ByteArray)), rowC (ci .i16) A106 c107 73 (t14.Eats ++ ([IntKind.i16.wrap a2] : List Int)), rowC (ci .u16) A108 c109 74 (t14.Foes ++ ([0] : List Int)), box b21 ([.slice A15 t14.Names.length c16, .slice A17 t14.Eats.length c18, .slice A19 t14.Foes.length c20]) 29, rowC (ci .i16) A89 (([IntKind.i16.wrap a2] : List Int).length) 73 ([IntKind.i16.wrap a2] : List Int), rowC G.cs A90 (([a1] : List ByteArray).length) 9 ([a1] : List ByteArray), rowC (ci .u16) A103 (([0] : List Int).length) 74 ([0] : List Int)] [roC G.cs Aa0_0 ca0_0 a0.Names, roC (ci .i16) Aa0_1 ca0_1 a0.Eats, roC (ci .u16) Aa0_2 ca0_2 a0.Foes] := hO.out [6] hS
              refine TJ.ef hY rfl rfl rfl rfl rfl ((SR.build' tU_ok tI_ok rfl rfl rfl (zs := [.slice none 0 0, .slice none 0 0, .slice none 0 0]) rfl rfl rfl ([.slice A104 (t14.Names ++ ([a1] : List ByteArray)).length c105, .slice A106 (t14.Eats ++ ([IntKind.i16.wrap a2] : List Int)).length c107, .slice A108 (t14.Foes ++ ([0] : List Int)).length c109]) rfl).ef) ?_
              rintro _ w1 hY ⟨rfl, hx⟩
              replace hS := hS.grow hx
              have hO := hS
              refine TJ.es rfl rfl rfl rfl (Es.store tI_ok (hS.inn [6]) (i := 1) (vs := [.slice A104 (t14.Names ++ ([a1] : List ByteArray)).length c105, .slice A106 (t14.Eats ++ ([IntKind.i16.wrap a2] : List Int)).length c107, .slice A108 (t14.Foes ++ ([0] : List Int)).length c109]) rfl rfl rfl rfl rfl rfl rfl rfl (by intro u hu; simp only [List.mem_cons, List.not_mem_nil, or_false] at hu; rcases hu with rfl | rfl | rfl <;> rfl) (Nat.le_of_ble_eq_true rfl) ([.slice A104 (t14.Names ++ ([a1] : List ByteArray)).length c105, .slice A106 (t14.Eats ++ ([IntKind.i16.wrap a2] : List Int)).length c107, .slice A108 (t14.Foes ++ ([0] : List Int)).length c109]) rfl) (by intro w1 hS; exact hY.wr (hO.inY [6] 3 rfl rfl) hS.chg) ?_
              intro w1 hY hS
              have hS : St w no w1 [box b1 ([.slice Aa0_0 a0.Names.length ca0_0, .slice Aa0_1 a0.Eats.length ca0_1, .slice Aa0_2 a0.Foes.length ca0_2]) 29, box b2 ([.slice A104 (t14.Names ++ ([a1] : List ByteArray)).length c105, .slice A106 (t14.Eats ++ ([IntKind.i16.wrap a2] : List Int)).length c107, .slice A108 (t14.Foes ++ ([0] : List Int)).length c109]) 29, rowC (ci .i64) A12 (([t6, t8, t9, t11] : List Int).length) 2 ([t6, t8, t9, t11] : List Int), rowC G.cs A104 c105 9 (t14.Names ++ ([a1] : List ByteArray)), rowC (ci .i16) A106 c107 73 (t14.Eats ++ ([IntKind.i16.wrap a2] : List Int)), rowC (ci .u16) A108 c109 74 (t14.Foes ++ ([0] : List Int)), box b21 ([.slice A15 t14.Names.length c16, .slice A17 t14.Eats.length c18, .slice A19 t14.Foes.length c20]) 29, rowC (ci .i16) A89 (([IntKind.i16.wrap a2] : List Int).length) 73 ([IntKind.i16.wrap a2] : List Int), rowC G.cs A90 (([a1] : List ByteArray).length) 9 ([a1] : List ByteArray), rowC (ci .u16) A103 (([0] : List Int).length) 74 ([0] : List Int)] [roC G.cs Aa0_0 ca0_0 a0.Names, roC (ci .i16) Aa0_1 ca0_1 a0.Eats, roC (ci .u16) Aa0_2 ca0_2 a0.Foes] := hO.out [6] hS
              refine TJ.pures tU_ok 1 rfl ?_
              refine TJ.nil ?_
              exact EJ.meet (F' := [(6, .pointer (some ⟨b2, 0, none⟩)), (7, .int .i64 0)]) ⟨rfl, rfl, trivial⟩ ⟨A90, A104, c105, A89, A106, c107, A103, A108, c109, rfl, hS.pick [0, 1, 2, 3, 4, 5, 6, 8, 7, 9] [0, 1, 2] rfl⟩
            exact TJ.stop
          refine TJ.alt ?_ ?_
          · skip
            refine TJ.ef hY rfl rfl rfl rfl rfl (Ef.lit tU_ok tI_ok hS (C := (ci .u16)) rfl rfl rfl rfl rfl rfl ([0] : List Int) rfl rfl rfl rfl) ?_
            rintro _ w1 hY ⟨A110, rfl, hS⟩
            refine TJ.ef hY rfl rfl rfl rfl rfl (Ef.lit tU_ok tI_ok hS (C := G.cs) rfl rfl rfl rfl rfl rfl ([a1] : List ByteArray) rfl rfl rfl rfl) ?_
            rintro _ w1 hY ⟨A111, rfl, hS⟩
            have hO := hS
            refine TJ.ew rfl rfl rfl rfl rfl (Ew.append tU_ok tI_ok (C := G.cs) (xs := t14.Names) (ys := ([a1] : List ByteArray)) (hS.inn [6]) (i := 3) rfl rfl rfl rfl rfl rfl rfl rfl rfl rfl rfl rfl rfl (hS.rd (i := 9) rfl) (chk_some hu23)) (by rintro _ w1 ⟨A112, c113, rfl, hS⟩; exact hY.wr (hO.inY [6] 3 rfl rfl) hS.chg) ?_
            rintro _ w1 hY ⟨A112, c113, rfl, hS⟩
            have hS : St w no w1 [box b1 ([.slice Aa0_0 a0.Names.length ca0_0, .slice Aa0_1 a0.Eats.length ca0_1, .slice Aa0_2 a0.Foes.length ca0_2]) 29, box b2 ([.slice none 0 0, .slice none 0 0, .slice none 0 0]) 29, rowC (ci .i64) A12 (([t6, t8, t9, t11] : List Int).length) 2 ([t6, t8, t9, t11] : List Int), rowC G.cs A112 c113 9 (t14.Names ++ ([a1] : List ByteArray)), rowC (ci .i16) A17 c18 73 t14.Eats, rowC (ci .u16) A19 c20 74 t14.Foes, box b21 ([.slice A15 t14.Names.length c16, .slice A17 t14.Eats.length c18, .slice A19 t14.Foes.length c20]) 29, rowC (ci .i16) A89 (([IntKind.i16.wrap a2] : List Int).length) 73 ([IntKind.i16.wrap a2] : List Int), rowC (ci .u16) A110 (([0] : List Int).length) 74 ([0] : List Int), rowC G.cs A111 (([a1] : List ByteArray).length) 9 ([a1] : List ByteArray)] [roC G.cs Aa0_0 ca0_0 a0.Names, roC (ci .i16) Aa0_1 ca0_1 a0.Eats, roC (ci .u16) Aa0_2 ca0_2 a0.Foes] := hO.out [6] hS
            have hO := hS
            refine TJ.ew rfl rfl rfl rfl rfl (Ew.append tU_ok tI_ok (C := (ci .i16)) (xs := t14.Eats) (ys := ([IntKind.i16.wrap a2] : List Int)) (hS.inn [6]) (i := 4) rfl rfl rfl rfl rfl rfl rfl rfl rfl rfl rfl rfl rfl (hS.rd (i := 7) rfl) (chk_some hu27)) (by rintro _ w1 ⟨A114, c115, rfl, hS⟩; exact hY.wr (hO.inY [6] 3 rfl rfl) hS.chg) ?_
            rintro _ w1 hY ⟨A114, c115, rfl, hS⟩
            have hS : St w no w1 [box b1 ([.slice Aa0_0 a0.Names.length ca0_0, .slice Aa0_1 a0.Eats.length ca0_1, .slice Aa0_2 a0.Foes.length ca0_2]) 29, box b2 ([.slice none 0 0, .slice none 0 0, .slice none 0 0]) 29, rowC (ci .i64) A12 (([t6, t8, t9, t11] : List Int).length) 2 ([t6, t8, t9, t11] : List Int), rowC G.cs A112 c113 9 (t14.Names ++ ([a1] : List ByteArray)), rowC (ci .i16) A114 c115 73 (t14.Eats ++ ([IntKind.i16.wrap a2] : List Int)), rowC (ci .u16) A19 c20 74 t14.Foes, box b21 ([.slice A15 t14.Names.length c16, .slice A17 t14.Eats.length c18, .slice A19 t14.Foes.length c20]) 29, rowC (ci .i16) A89 (([IntKind.i16.wrap a2] : List Int).length) 73 ([IntKind.i16.wrap a2] : List Int), rowC (ci .u16) A110 (([0] : List Int).length) 74 ([0] : List Int), rowC G.cs A111 (([a1] : List ByteArray).length) 9 ([a1] : List ByteArray)] [roC G.cs Aa0_0 ca0_0 a0.Names, roC (ci .i16) Aa0_1 ca0_1 a0.Eats, roC (ci .u16) Aa0_2 ca0_2 a0.Foes] := hO.out [6] hS
            have hO := hS
            refine TJ.ew rfl rfl rfl rfl rfl (Ew.append tU_ok tI_ok (C := (ci .u16)) (xs := t14.Foes) (ys := ([0] : List Int)) (hS.inn [6]) (i := 5) rfl rfl rfl rfl rfl rfl rfl rfl rfl rfl rfl rfl rfl (hS.rd (i := 8) rfl) (chk_some hu31)) (by rintro _ w1 ⟨A116, c117, rfl, hS⟩; exact hY.wr (hO.inY [6] 3 rfl rfl) hS.chg) ?_
            rintro _ w1 hY ⟨A116, c117, rfl, hS⟩
            have hS : St w no w1 [box b1 ([.slice Aa0_0 a0.Names.length ca0_0, .slice Aa0_1 a0.Eats.length ca0_1, .slice Aa0_2 a0.Foes.length ca0_2]) 29, box b2 ([.slice none 0 0, .slice none 0 0, .slice none 0 0]) 29, rowC (ci .i64) A12 (([t6, t8, t9, t11] : List Int).length) 2 ([t6, t8, t9, t11] : List Int), rowC G.cs A112 c113 9 (t14.Names ++ ([a1] : List ByteArray)), rowC (ci .i16) A114 c115 73 (t14.Eats ++ ([IntKind.i16.wrap a2] : List Int)), rowC (ci .u16) A116 c117 74 (t14.Foes ++ ([0] : List Int)), box b21 ([.slice A15 t14.Names.length c16, .slice A17 t14.Eats.length c18, .slice A19 t14.Foes.length c20]) 29, rowC (ci .i16) A89 (([IntKind.i16.wrap a2] : List Int).length) 73 ([IntKind.i16.wrap a2] : List Int), rowC (ci .u16) A110 (([0] : List Int).length) 74 ([0] : List Int), rowC G.cs A111 (([a1] : List ByteArray).length) 9 ([a1] : List ByteArray)] [roC G.cs Aa0_0 ca0_0 a0.Names, roC (ci .i16) Aa0_1 ca0_1 a0.Eats, roC (ci .u16) Aa0_2 ca0_2 a0.Foes] := hO.out [6] hS
            refine TJ.ef hY rfl rfl rfl rfl rfl ((SR.build' tU_ok tI_ok rfl rfl rfl (zs := [.slice none 0 0, .slice none 0 0, .slice none 0 0]) rfl rfl rfl ([.slice A112 (t14.Names ++ ([a1] : List ByteArray)).length c113, .slice A114 (t14.Eats ++ ([IntKind.i16.wrap a2] : List Int)).length c115, .slice A116 (t14.Foes ++ ([0] : List Int)).length c117]) rfl).ef) ?_
            rintro _ w1 hY ⟨rfl, hx⟩
            replace hS := hS.grow hx
            have hO := hS
            refine TJ.es rfl rfl rfl rfl (Es.store tI_ok (hS.inn [6]) (i := 1) (vs := [.slice A112 (t14.Names ++ ([a1] : List ByteArray)).length c113, .slice A114 (t14.Eats ++ ([IntKind.i16.wrap a2] : List Int)).length c115, .slice A116 (t14.Foes ++ ([0] : List Int)).length c117]) rfl rfl rfl rfl rfl rfl rfl rfl (by intro u hu; simp only [List.mem_cons, List.not_mem_nil, or_false] at hu; rcases hu with rfl | rfl | rfl <;> rfl) (Nat.le_of_ble_eq_true rfl) ([.slice A112 (t14.Names ++ ([a1] : List ByteArray)).length c113, .slice A114 (t14.Eats ++ ([IntKind.i16.wrap a2] : List Int)).length c115, .slice A116 (t14.Foes ++ ([0] : List Int)).length c117]) rfl) (by intro w1 hS; exact hY.wr (hO.inY [6] 3 rfl rfl) hS.chg) ?_
            intro w1 hY hS
            have hS : St w no w1 [box b1 ([.slice Aa0_0 a0.Names.length ca0_0, .slice Aa0_1 a0.Eats.length ca0_1, .slice Aa0_2 a0.Foes.length ca0_2]) 29, box b2 ([.slice A112 (t14.Names ++ ([a1] : List ByteArray)).length c113, .slice A114 (t14.Eats ++ ([IntKind.i16.wrap a2] : List Int)).length c115, .slice A116 (t14.Foes ++ ([0] : List Int)).length c117]) 29, rowC (ci .i64) A12 (([t6, t8, t9, t11] : List Int).length) 2 ([t6, t8, t9, t11] : List Int), rowC G.cs A112 c113 9 (t14.Names ++ ([a1] : List ByteArray)), rowC (ci .i16) A114 c115 73 (t14.Eats ++ ([IntKind.i16.wrap a2] : List Int)), rowC (ci .u16) A116 c117 74 (t14.Foes ++ ([0] : List Int)), box b21 ([.slice A15 t14.Names.length c16, .slice A17 t14.Eats.length c18, .slice A19 t14.Foes.length c20]) 29, rowC (ci .i16) A89 (([IntKind.i16.wrap a2] : List Int).length) 73 ([IntKind.i16.wrap a2] : List Int), rowC (ci .u16) A110 (([0] : List Int).length) 74 ([0] : List Int), rowC G.cs A111 (([a1] : List ByteArray).length) 9 ([a1] : List ByteArray)] [roC G.cs Aa0_0 ca0_0 a0.Names, roC (ci .i16) Aa0_1 ca0_1 a0.Eats, roC (ci .u16) Aa0_2 ca0_2 a0.Foes] := hO.out [6] hS
            refine TJ.pures tU_ok 1 rfl ?_
            refine TJ.nil ?_
            exact EJ.meet (F' := [(6, .pointer (some ⟨b2, 0, none⟩)), (7, .int .i64 0)]) ⟨rfl, rfl, trivial⟩ ⟨A111, A112, c113, A89, A114, c115, A110, A116, c117, rfl, hS.pick [0, 1, 2, 3, 4, 5, 6, 9, 7, 8] [0, 1, 2] rfl⟩
          exact TJ.stop
        refine TJ.alt ?_ ?_
        · skip
          refine TJ.ef hY rfl rfl rfl rfl rfl (Ef.lit tU_ok tI_ok hS (C := (ci .u16)) rfl rfl rfl rfl rfl rfl ([0] : List Int) rfl rfl rfl rfl) ?_
          rintro _ w1 hY ⟨A118, rfl, hS⟩
          refine TJ.br ?_
          refine TJ.alt ?_ ?_
          · skip
            refine TJ.ef hY rfl rfl rfl rfl rfl (Ef.lit tU_ok tI_ok hS (C := G.cs) rfl rfl rfl rfl rfl rfl ([a1] : List ByteArray) rfl rfl rfl rfl) ?_
            rintro _ w1 hY ⟨A119, rfl, hS⟩
            refine TJ.br ?_
            refine TJ.alt ?_ ?_
            · skip
              have hO := hS
              refine TJ.ew rfl rfl rfl rfl rfl (Ew.append tU_ok tI_ok (C := G.cs) (xs := t14.Names) (ys := ([a1] : List ByteArray)) (hS.inn [6]) (i := 3) rfl rfl rfl rfl rfl rfl rfl rfl rfl rfl rfl rfl rfl (hS.rd (i := 8) rfl) (chk_some hu23)) (by rintro _ w1 ⟨A120, c121, rfl, hS⟩; exact hY.wr (hO.inY [6] 3 rfl rfl) hS.chg) ?_
              rintro _ w1 hY ⟨A120, c121, rfl, hS⟩
              have hS : St w no w1 [box b1 ([.slice Aa0_0 a0.Names.length ca0_0, .slice Aa0_1 a0.Eats.length ca0_1, .slice Aa0_2 a0.Foes.length ca0_2]) 29, box b2 ([.slice none 0 0, .slice none 0 0, .slice none 0 0]) 29, rowC (ci .i64) A12 (([t6, t8, t9, t11] : List Int).length) 2 ([t6, t8, t9, t11] : List Int), rowC G.cs A120 c121 9 (t14.Names ++ ([a1] : List ByteArray)), rowC (ci .i16) A17 c18 73 t14.Eats, rowC (ci .u16) A19 c20 74 t14.Foes, box b21 ([.slice A15 t14.Names.length c16, .slice A17 t14.Eats.length c18, .slice A19 t14.Foes.length c20]) 29, rowC (ci .u16) A118 (([0] : List Int).length) 74 ([0] : List Int), rowC G.cs A119 (([a1] : List ByteArray).length) 9 ([a1] : List ByteArray)] [roC G.cs Aa0_0 ca0_0 a0.Names, roC (ci .i16) Aa0_1 ca0_1 a0.Eats, roC (ci .u16) Aa0_2 ca0_2 a0.Foes] := hO.out [6] hS
              refine TJ.ef hY rfl rfl rfl rfl rfl (Ef.lit tU_ok tI_ok hS (C := (ci .i16)) rfl rfl rfl rfl rfl rfl ([IntKind.i16.wrap a2] : List Int) rfl rfl rfl rfl) ?_
              rintro _ w1 hY ⟨A122, rfl, hS⟩
              have hO := hS
              refine TJ.ew rfl rfl rfl rfl rfl (Ew.append tU_ok tI_ok (C := (ci .i16)) (xs := t14.Eats) (ys := ([IntKind.i16.wrap a2] : List Int)) (hS.inn [6]) (i := 4) rfl rfl rfl rfl rfl rfl rfl rfl rfl rfl rfl rfl rfl (hS.rd (i := 9) rfl) (chk_some hu27)) (by rintro _ w1 ⟨A123, c124, rfl, hS⟩; exact hY.wr (hO.inY [6] 3 rfl rfl) hS.chg) ?_
              rintro _ w1 hY ⟨A123, c124, rfl, hS⟩
              have hS : St w no w1 [box b1 ([.slice Aa0_0 a0.Names.length ca0_0, .slice Aa0_1 a0.Eats.length ca0_1, .slice Aa0_2 a0.Foes.length ca0_2]) 29, box b2 ([.slice none 0 0, .slice none 0 0, .slice none 0 0]) 29, rowC (ci .i64) A12 (([t6, t8, t9, t11] : List Int).length) 2 ([t6, t8, t9, t11] : List Int), rowC G.cs A120 c121 9 (t14.Names ++ ([a1] : List ByteArray)), rowC (ci .i16) A123 c124 73 (t14.Eats ++ ([IntKind.i16.wrap a2] : List Int)), rowC (ci .u16) A19 c20 74 t14.Foes, box b21 ([.slice A15 t14.Names.length c16, .slice A17 t14.Eats.length c18, .slice A19 t14.Foes.length c20]) 29, rowC (ci .u16) A118 (([0] : List Int).length) 74 ([0] : List Int), rowC G.cs A119 (([a1] : List ByteArray).length) 9 ([a1] : List ByteArray), rowC (ci .i16) A122 (([IntKind.i16.wrap a2] : List Int).length) 73 ([IntKind.i16.wrap a2] : List Int)] [roC G.cs Aa0_0 ca0_0 a0.Names, roC (ci .i16) Aa0_1 ca0_1 a0.Eats, roC (ci .u16) Aa0_2 ca0_2 a0.Foes] := hO.out [6] hS
              have hO := hS
              refine TJ.ew rfl rfl rfl rfl rfl (Ew.append tU_ok tI_ok (C := (ci .u16)) (xs := t14.Foes) (ys := ([0] : List Int)) (hS.inn [6]) (i := 5) rfl rfl rfl rfl rfl rfl rfl rfl rfl rfl rfl rfl rfl (hS.rd (i := 7) rfl) (chk_some hu31)) (by rintro _ w1 ⟨A125, c126, rfl, hS⟩; exact hY.wr (hO.inY [6] 3 rfl rfl) hS.chg) ?_
              rintro _ w1 hY ⟨A125, c126, rfl, hS⟩
              have hS : St w no w1 [box b1 ([.slice Aa0_0 a0.Names.length ca0_0, .slice Aa0_1 a0.Eats.length ca0_1, .slice Aa0_2 a0.Foes.length ca0_2]) 29, box b2 ([.slice none 0 0, .slice none 0 0, .slice none 0 0]) 29, rowC (ci .i64) A12 (([t6, t8, t9, t11] : List Int).length) 2 ([t6, t8, t9, t11] : List Int), rowC G.cs A120 c121 9 (t14.Names ++ ([a1] : List ByteArray)), rowC (ci .i16) A123 c124 73 (t14.Eats ++ ([IntKind.i16.wrap a2] : List Int)), rowC (ci .u16) A125 c126 74 (t14.Foes ++ ([0] : List Int)), box b21 ([.slice A15 t14.Names.length c16, .slice A17 t14.Eats.length c18, .slice A19 t14.Foes.length c20]) 29, rowC (ci .u16) A118 (([0] : List Int).length) 74 ([0] : List Int), rowC G.cs A119 (([a1] : List ByteArray).length) 9 ([a1] : List ByteArray), rowC (ci .i16) A122 (([IntKind.i16.wrap a2] : List Int).length) 73 ([IntKind.i16.wrap a2] : List Int)] [roC G.cs Aa0_0 ca0_0 a0.Names, roC (ci .i16) Aa0_1 ca0_1 a0.Eats, roC (ci .u16) Aa0_2 ca0_2 a0.Foes] := hO.out [6] hS
              refine TJ.ef hY rfl rfl rfl rfl rfl ((SR.build' tU_ok tI_ok rfl rfl rfl (zs := [.slice none 0 0, .slice none 0 0, .slice none 0 0]) rfl rfl rfl ([.slice A120 (t14.Names ++ ([a1] : List ByteArray)).length c121, .slice A123 (t14.Eats ++ ([IntKind.i16.wrap a2] : List Int)).length c124, .slice A125 (t14.Foes ++ ([0] : List Int)).length c126]) rfl).ef) ?_
              rintro _ w1 hY ⟨rfl, hx⟩
              replace hS := hS.grow hx
              have hO := hS
              refine TJ.es rfl rfl rfl rfl (Es.store tI_ok (hS.inn [6]) (i := 1) (vs := [.slice A120 (t14.Names ++ ([a1] : List ByteArray)).length c121, .slice A123 (t14.Eats ++ ([IntKind.i16.wrap a2] : List Int)).length c124, .slice A125 (t14.Foes ++ ([0] : List Int)).length c126]) rfl rfl rfl rfl rfl rfl rfl rfl (by intro u hu; simp only [List.mem_cons, List.not_mem_nil, or_false] at hu; rcases hu with rfl | rfl | rfl <;> rfl) (Nat.le_of_ble_eq_true rfl) ([.slice A120 (t14.Names ++ ([a1] : List ByteArray)).length c121, .slice A123 (t14.Eats ++ ([IntKind.i16.wrap a2] : List Int)).length c124, .slice A125 (t14.Foes ++ ([0] : List Int)).length c126]) rfl) (by intro w1 hS; exact hY.wr (hO.inY [6] 3 rfl rfl) hS.chg) ?_
              intro w1 hY hS
              have hS : St w no w1 [box b1 ([.slice Aa0_0 a0.Names.length ca0_0, .slice Aa0_1 a0.Eats.length ca0_1, .slice Aa0_2 a0.Foes.length ca0_2]) 29, box b2 ([.slice A120 (t14.Names ++ ([a1] : List ByteArray)).length c121, .slice A123 (t14.Eats ++ ([IntKind.i16.wrap a2] : List Int)).length c124, .slice A125 (t14.Foes ++ ([0] : List Int)).length c126]) 29, rowC (ci .i64) A12 (([t6, t8, t9, t11] : List Int).length) 2 ([t6, t8, t9, t11] : List Int), rowC G.cs A120 c121 9 (t14.Names ++ ([a1] : List ByteArray)), rowC (ci .i16) A123 c124 73 (t14.Eats ++ ([IntKind.i16.wrap a2] : List Int)), rowC (ci .u16) A125 c126 74 (t14.Foes ++ ([0] : List Int)), box b21 ([.slice A15 t14.Names.length c16, .slice A17 t14.Eats.length c18, .slice A19 t14.Foes.length c20]) 29, rowC (ci .u16) A118 (([0] : List Int).length) 74 ([0] : List Int), rowC G.cs A119 (([a1] : List ByteArray).length) 9 ([a1] : List ByteArray), rowC (ci .i16) A122 (([IntKind.i16.wrap a2] : List Int).length) 73 ([IntKind.i16.wrap a2] : List Int)] [roC G.cs Aa0_0 ca0_0 a0.Names, roC (ci .i16) Aa0_1 ca0_1 a0.Eats, roC (ci .u16) Aa0_2 ca0_2 a0.Foes] := hO.out [6] hS
              refine TJ.pures tU_ok 1 rfl ?_
              refine TJ.nil ?_
              exact EJ.meet (F' := [(6, .pointer (some ⟨b2, 0, none⟩)), (7, .int .i64 0)]) ⟨rfl, rfl, trivial⟩ ⟨A119, A120, c121, A122, A123, c124, A118, A125, c126, rfl, hS.pick [0, 1, 2, 3, 4, 5, 6, 8, 9, 7] [0, 1, 2] rfl⟩
            refine TJ.alt ?_ ?_
            · skip
              refine TJ.ef hY rfl rfl rfl rfl rfl (Ef.lit tU_ok tI_ok hS (C := (ci .i16)) rfl rfl rfl rfl rfl rfl ([IntKind.i16.wrap a2] : List Int) rfl rfl rfl rfl) ?_
              rintro _ w1 hY ⟨A127, rfl, hS⟩
              have hO := hS
              refine TJ.ew rfl rfl rfl rfl rfl (Ew.append tU_ok tI_ok (C := G.cs) (xs := t14.Names) (ys := ([a1] : List ByteArray)) (hS.inn [6]) (i := 3) rfl rfl rfl rfl rfl rfl rfl rfl rfl rfl rfl rfl rfl (hS.rd (i := 8) rfl) (chk_some hu23)) (by rintro _ w1 ⟨A128, c129, rfl, hS⟩; exact hY.wr (hO.inY [6] 3 rfl rfl) hS.chg) ?_
              rintro _ w1 hY ⟨A128, c129, rfl, hS⟩
              have hS : St w no w1 [box b1 ([.slice Aa0_0 a0.Names.length ca0_0, .slice Aa0_1 a0.Eats.length ca0_1, .slice Aa0_2 a0.Foes.length ca0_2]) 29, box b2 ([.slice none 0 0, .slice none 0 0, .slice none 0 0]) 29, rowC (ci .i64) A12 (([t6, t8, t9, t11] : List Int).length) 2 ([t6, t8, t9, t11] : List Int), rowC G.cs A128 c129 9 (t14.Names ++ ([a1] : List ByteArray)), rowC (ci .i16) A17 c18 73 t14.Eats, rowC (ci .u16) A19 c20 74 t14.Foes, box b21 ([.slice A15 t14.Names.length c16, .slice A17 t14.Eats.length c18, .slice A19 t14.Foes.length c20]) 29, rowC (ci .u16) A118 (([0] : List Int).length) 74 ([0] : List Int), rowC G.cs A119 (([a1] : List ByteArray).length) 9 ([a1] : List ByteArray), rowC (ci .i16) A127 (([IntKind.i16.wrap a2] : List Int).length) 73 ([IntKind.i16.wrap a2] : List Int)] [roC G.cs Aa0_0 ca0_0 a0.Names, roC (ci .i16) Aa0_1 ca0_1 a0.Eats, roC (ci .u16) Aa0_2 ca0_2 a0.Foes] := hO.out [6] hS
              have hO := hS
              refine TJ.ew rfl rfl rfl rfl rfl (Ew.append tU_ok tI_ok (C := (ci .i16)) (xs := t14.Eats) (ys := ([IntKind.i16.wrap a2] : List Int)) (hS.inn [6]) (i := 4) rfl rfl rfl rfl rfl rfl rfl rfl rfl rfl rfl rfl rfl (hS.rd (i := 9) rfl) (chk_some hu27)) (by rintro _ w1 ⟨A130, c131, rfl, hS⟩; exact hY.wr (hO.inY [6] 3 rfl rfl) hS.chg) ?_
              rintro _ w1 hY ⟨A130, c131, rfl, hS⟩
              have hS : St w no w1 [box b1 ([.slice Aa0_0 a0.Names.length ca0_0, .slice Aa0_1 a0.Eats.length ca0_1, .slice Aa0_2 a0.Foes.length ca0_2]) 29, box b2 ([.slice none 0 0, .slice none 0 0, .slice none 0 0]) 29, rowC (ci .i64) A12 (([t6, t8, t9, t11] : List Int).length) 2 ([t6, t8, t9, t11] : List Int), rowC G.cs A128 c129 9 (t14.Names ++ ([a1] : List ByteArray)), rowC (ci .i16) A130 c131 73 (t14.Eats ++ ([IntKind.i16.wrap a2] : List Int)), rowC (ci .u16) A19 c20 74 t14.Foes, box b21 ([.slice A15 t14.Names.length c16, .slice A17 t14.Eats.length c18, .slice A19 t14.Foes.length c20]) 29, rowC (ci .u16) A118 (([0] : List Int).length) 74 ([0] : List Int), rowC G.cs A119 (([a1] : List ByteArray).length) 9 ([a1] : List ByteArray), rowC (ci .i16) A127 (([IntKind.i16.wrap a2] : List Int).length) 73 ([IntKind.i16.wrap a2] : List Int)] [roC G.cs Aa0_0 ca0_0 a0.Names, roC (ci .i16) Aa0_1 ca0_1 a0.Eats, roC (ci .u16) Aa0_2 ca0_2 a0.Foes] := hO.out [6] hS
              have hO := hS
              refine TJ.ew rfl rfl rfl rfl rfl (Ew.append tU_ok tI_ok (C := (ci .u16)) (xs := t14.Foes) (ys := ([0] : List Int)) (hS.inn [6]) (i := 5) rfl rfl rfl rfl rfl rfl rfl rfl rfl rfl rfl rfl rfl (hS.rd (i := 7) rfl) (chk_some hu31)) (by rintro _ w1 ⟨A132, c133, rfl, hS⟩; exact hY.wr (hO.inY [6] 3 rfl rfl) hS.chg) ?_
              rintro _ w1 hY ⟨A132, c133, rfl, hS⟩
              have hS : St w no w1 [box b1 ([.slice Aa0_0 a0.Names.length ca0_0, .slice Aa0_1 a0.Eats.length ca0_1, .slice Aa0_2 a0.Foes.length ca0_2]) 29, box b2 ([.slice none 0 0, .slice none 0 0, .slice none 0 0]) 29, rowC (ci .i64) A12 (([t6, t8, t9, t11] : List Int).length) 2 ([t6, t8, t9, t11] : List Int), rowC G.cs A128 c129 9 (t14.Names ++ ([a1] : List ByteArray)), rowC (ci .i16) A130 c131 73 (t14.Eats ++ ([IntKind.i16.wrap a2] : List Int)), rowC (ci .u16) A132 c133 74 (t14.Foes ++ ([0] : List Int)), box b21 ([.slice A15 t14.Names.length c16, .slice A17 t14.Eats.length c18, .slice A19 t14.Foes.length c20]) 29, rowC (ci .u16) A118 (([0] : List Int).length) 74 ([0] : List Int), rowC G.cs A119 (([a1] : List ByteArray).length) 9 ([a1] : List ByteArray), rowC (ci .i16) A127 (([IntKind.i16.wrap a2] : List Int).length) 73 ([IntKind.i16.wrap a2] : List Int)] [roC G.cs Aa0_0 ca0_0 a0.Names, roC (ci .i16) Aa0_1 ca0_1 a0.Eats, roC (ci .u16) Aa0_2 ca0_2 a0.Foes] := hO.out [6] hS
              refine TJ.ef hY rfl rfl rfl rfl rfl ((SR.build' tU_ok tI_ok rfl rfl rfl (zs := [.slice none 0 0, .slice none 0 0, .slice none 0 0]) rfl rfl rfl ([.slice A128 (t14.Names ++ ([a1] : List ByteArray)).length c129, .slice A130 (t14.Eats ++ ([IntKind.i16.wrap a2] : List Int)).length c131, .slice A132 (t14.Foes ++ ([0] : List Int)).length c133]) rfl).ef) ?_
              rintro _ w1 hY ⟨rfl, hx⟩
              replace hS := hS.grow hx
              have hO := hS
              refine TJ.es rfl rfl rfl rfl (Es.store tI_ok (hS.inn [6]) (i := 1) (vs := [.slice A128 (t14.Names ++ ([a1] : List ByteArray)).length c129, .slice A130 (t14.Eats ++ ([IntKind.i16.wrap a2] : List Int)).length c131, .slice A132 (t14.Foes ++ ([0] : List Int)).length c133]) rfl rfl rfl rfl rfl rfl rfl rfl (by intro u hu; simp only [List.mem_cons, List.not_mem_nil, or_false] at hu; rcases hu with rfl | rfl | rfl <;> rfl) (Nat.le_of_ble_eq_true rfl) ([.slice A128 (t14.Names ++ ([a1] : List ByteArray)).length c129, .slice A130 (t14.Eats ++ ([IntKind.i16.wrap a2] : List Int)).length c131, .slice A132 (t14.Foes ++ ([0] : List Int)).length c133]) rfl) (by intro w1 hS; exact hY.wr (hO.inY [6] 3 rfl rfl) hS.chg) ?_
              intro w1 hY hS
              have hS : St w no w1 [box b1 ([.slice Aa0_0 a0.Names.length ca0_0, .slice Aa0_1 a0.Eats.length ca0_1, .slice Aa0_2 a0.Foes.length ca0_2]) 29, box b2 ([.slice A128 (t14.Names ++ ([a1] : List ByteArray)).length c129, .slice A130 (t14.Eats ++ ([IntKind.i16.wrap a2] : List Int)).length c131, .slice A132 (t14.Foes ++ ([0] : List Int)).length c133]) 29, rowC (ci .i64) A12 (([t6, t8, t9, t11] : List Int).length) 2 ([t6, t8, t9, t11] : List Int), rowC G.cs A128 c129 9 (t14.Names ++ ([a1] : List ByteArray)), rowC (ci .i16) A130 c131 73 (t14.Eats ++ ([IntKind.i16.wrap a2] : List Int)), rowC (ci .u16) A132 c133 74 (t14.Foes ++ ([0] : List Int)), box b21 ([.slice A15 t14.Names.length c16, .slice A17 t14.Eats.length c18, .slice A19 t14.Foes.length c20]) 29, rowC (ci .u16) A118 (([0] : List Int).length) 74 ([0] : List Int), rowC G.cs A119 (([a1] : List ByteArray).length) 9 ([a1] : List ByteArray), rowC (ci .i16) A127 (([IntKind.i16.wrap a2] : List Int).length) 73 ([IntKind.i16.wrap a2] : List Int)] [roC G.cs Aa0_0 ca0_0 a0.Names, roC (ci .i16) Aa0_1 ca0_1 a0.Eats, roC (ci .u16) Aa0_2 ca0_2 a0.Foes] := hO.out [6] hS
              refine TJ.pures tU_ok 1 rfl ?_
              refine TJ.nil ?_
              exact EJ.meet (F' := [(6, .pointer (some ⟨b2, 0, none⟩)), (7, .int .i64 0)]) ⟨rfl, rfl, trivial⟩ ⟨A119, A128, c129, A127, A130, c131, A118, A132, c133, rfl, hS.pick [0, 1, 2, 3, 4, 5, 6, 8, 9, 7] [0, 1, 2] rfl⟩
            exact TJ.stop
          refine TJ.alt ?_ ?_
          · skip
            refine TJ.ef hY rfl rfl rfl rfl rfl (Ef.lit tU_ok tI_ok hS (C := (ci .i16)) rfl rfl rfl rfl rfl rfl ([IntKind.i16.wrap a2] : List Int) rfl rfl rfl rfl) ?_
            rintro _ w1 hY ⟨A134, rfl, hS⟩
            refine TJ.ef hY rfl rfl rfl rfl rfl (Ef.lit tU_ok tI_ok hS (C := G.cs) rfl rfl rfl rfl rfl rfl ([a1] : List ByteArray) rfl rfl rfl rfl) ?_
            rintro _ w1 hY ⟨A135, rfl, hS⟩
            have hO := hS
            refine TJ.ew rfl rfl rfl rfl rfl (Ew.append tU_ok tI_ok (C := G.cs) (xs := t14.Names) (ys := ([a1] : List ByteArray)) (hS.inn [6]) (i := 3) rfl rfl rfl rfl rfl rfl rfl rfl rfl rfl rfl rfl rfl (hS.rd (i := 9) rfl) (chk_some hu23)) (by rintro _ w1 ⟨A136, c137, rfl, hS⟩; exact hY.wr (hO.inY [6] 3 rfl rfl) hS.chg) ?_
            rintro _ w1 hY ⟨A136, c137, rfl, hS⟩
            have hS : St w no w1 [box b1 ([.slice Aa0_0 a0.Names.length ca0_0, .slice Aa0_1 a0.Eats.length ca0_1, .slice Aa0_2 a0.Foes.length ca0_2]) 29, box b2 ([.slice none 0 0, .slice none 0 0, .slice none 0 0]) 29, rowC (ci .i64) A12 (([t6, t8, t9, t11] : List Int).length) 2 ([t6, t8, t9, t11] : List Int), rowC G.cs A136 c137 9 (t14.Names ++ ([a1] : List ByteArray)), rowC (ci .i16) A17 c18 73 t14.Eats, rowC (ci .u16) A19 c20 74 t14.Foes, box b21 ([.slice A15 t14.Names.length c16, .slice A17 t14.Eats.length c18, .slice A19 t14.Foes.length c20]) 29, rowC (ci .u16) A118 (([0] : List Int).length) 74 ([0] : List Int), rowC (ci .i16) A134 (([IntKind.i16.wrap a2] : List Int).length) 73 ([IntKind.i16.wrap a2] : List Int), rowC G.cs A135 (([a1] : List ByteArray).length) 9 ([a1] : List ByteArray)] [roC G.cs Aa0_0 ca0_0 a0.Names, roC (ci .i16) Aa0_1 ca0_1 a0.Eats, roC (ci .u16) Aa0_2 ca0_2 a0.Foes] := hO.out [6] hS
            have hO := hS
            refine TJ.ew rfl rfl rfl rfl rfl (Ew.append tU_ok tI_ok (C := (ci .i16)) (xs := t14.Eats) (ys := ([IntKind.i16.wrap a2] : List Int)) (hS.inn [6]) (i := 4) rfl rfl rfl rfl rfl rfl rfl rfl rfl rfl rfl rfl rfl (hS.rd (i := 8) rfl) (chk_some hu27)) (by rintro _ w1 ⟨A138, c139, rfl, hS⟩; exact hY.wr (hO.inY [6] 3 rfl rfl) hS.chg) ?_
            rintro _ w1 hY ⟨A138, c139, rfl, hS⟩
            have hS : St w no w1 [box b1 ([.slice Aa0_0 a0.Names.length ca0_0, .slice Aa0_1 a0.Eats.length ca0_1, .slice Aa0_2 a0.Foes.length ca0_2]) 29, box b2 ([.slice none 0 0, .slice none 0 0, .slice none 0 0]) 29, rowC (ci .i64) A12 (([t6, t8, t9, t11] : List Int).length) 2 ([t6, t8, t9, t11] : List Int), rowC G.cs A136 c137 9 (t14.Names ++ ([a1] : List ByteArray)), rowC (ci .i16) A138 c139 73 (t14.Eats ++ ([IntKind.i16.wrap a2] : List Int)), rowC (ci .u16) A19 c20 74 t14.Foes, box b21 ([.slice A15 t14.Names.length c16, .slice A17 t14.Eats.length c18, .slice A19 t14.Foes.length c20]) 29, rowC (ci .u16) A118 (([0] : List Int).length) 74 ([0] : List Int), rowC (ci .i16) A134 (([IntKind.i16.wrap a2] : List Int).length) 73 ([IntKind.i16.wrap a2] : List Int), rowC G.cs A135 (([a1] : List ByteArray).length) 9 ([a1] : List ByteArray)] [roC G.cs Aa0_0 ca0_0 a0.Names, roC (ci .i16) Aa0_1 ca0_1 a0.Eats, roC (ci .u16) Aa0_2 ca0_2 a0.Foes] := hO.out [6] hS
            have hO := hS
            refine TJ.ew rfl rfl rfl rfl rfl (Ew.append tU_ok tI_ok (C := (ci .u16)) (xs := t14.Foes) (ys := ([0] : List Int)) (hS.inn [6]) (i := 5) rfl rfl rfl rfl rfl rfl rfl rfl rfl rfl rfl rfl rfl (hS.rd (i := 7) rfl) (chk_some hu31)) (by rintro _ w1 ⟨A140, c141, rfl, hS⟩; exact hY.wr (hO.inY [6] 3 rfl rfl) hS.chg) ?_
            rintro _ w1 hY ⟨A140, c141, rfl, hS⟩
            have hS : St w no w1 [box b1 ([.slice Aa0_0 a0.Names.length ca0_0, .slice Aa0_1 a0.Eats.length ca0_1, .slice Aa0_2 a0.Foes.length ca0_2]) 29, box b2 ([.slice none 0 0, .slice none 0 0, .slice none 0 0]) 29, rowC (ci .i64) A12 (([t6, t8, t9, t11] : List Int).length) 2 ([t6, t8, t9, t11] : List Int), rowC G.cs A136 c137 9 (t14.Names ++ ([a1] : List ByteArray)), rowC (ci .i16) A138 c139 73 (t14.Eats ++ ([IntKind.i16.wrap a2] : List Int)), rowC (ci .u16) A140 c141 74 (t14.Foes ++ ([0] : List Int)), box b21 ([.slice A15 t14.Names.length c16, .slice A17 t14.Eats.length c18, .slice A19 t14.Foes.length c20]) 29, rowC (ci .u16) A118 (([0] : List Int).length) 74 ([0] : List Int), rowC (ci .i16) A134 (([IntKind.i16.wrap a2] : List Int).length) 73 ([IntKind.i16.wrap a2] : List Int), rowC G.cs A135 (([a1] : List ByteArray).length) 9 ([a1] : List ByteArray)] [roC G.cs Aa0_0 ca0_0 a0.Names, roC (ci .i16) Aa0_1 ca0_1 a0.Eats, roC (ci .u16) Aa0_2 ca0_2 a0.Foes] := hO.out [6] hS
            refine TJ.ef hY rfl rfl rfl rfl rfl ((SR.build' tU_ok tI_ok rfl rfl rfl (zs := [.slice none 0 0, .slice none 0 0, .slice none 0 0]) rfl rfl rfl ([.slice A136 (t14.Names ++ ([a1] : List ByteArray)).length c137, .slice A138 (t14.Eats ++ ([IntKind.i16.wrap a2] : List Int)).length c139, .slice A140 (t14.Foes ++ ([0] : List Int)).length c141]) rfl).ef) ?_
            rintro _ w1 hY ⟨rfl, hx⟩
            replace hS := hS.grow hx
            have hO := hS
            refine TJ.es rfl rfl rfl rfl (Es.store tI_ok (hS.inn [6]) (i := 1) (vs := [.slice A136 (t14.Names ++ ([a1] : List ByteArray)).length c137, .slice A138 (t14.Eats ++ ([IntKind.i16.wrap a2] : List Int)).length c139, .slice A140 (t14.Foes ++ ([0] : List Int)).length c141]) rfl rfl rfl rfl rfl rfl rfl rfl (by intro u hu; simp only [List.mem_cons, List.not_mem_nil, or_false] at hu; rcases hu with rfl | rfl | rfl <;> rfl) (Nat.le_of_ble_eq_true rfl) ([.slice A136 (t14.Names ++ ([a1] : List ByteArray)).length c137, .slice A138 (t14.Eats ++ ([IntKind.i16.wrap a2] : List Int)).length c139, .slice A140 (t14.Foes ++ ([0] : List Int)).length c141]) rfl) (by intro w1 hS; exact hY.wr (hO.inY [6] 3 rfl rfl) hS.chg) ?_
            intro w1 hY hS
            have hS : St w no w1 [box b1 ([.slice Aa0_0 a0.Names.length ca0_0, .slice Aa0_1 a0.Eats.length ca0_1, .slice Aa0_2 a0.Foes.length ca0_2]) 29, box b2 ([.slice A136 (t14.Names ++ ([a1] : List ByteArray)).length c137, .slice A138 (t14.Eats ++ ([IntKind.i16.wrap a2] : List Int)).length c139, .slice A140 (t14.Foes ++ ([0] : List Int)).length c141]) 29, rowC (ci .i64) A12 (([t6, t8, t9, t11] : List Int).length) 2 ([t6, t8, t9, t11] : List Int), rowC G.cs A136 c137 9 (t14.Names ++ ([a1] : List ByteArray)), rowC (ci .i16) A138 c139 73 (t14.Eats ++ ([IntKind.i16.wrap a2] : List Int)), rowC (ci .u16) A140 c141 74 (t14.Foes ++ ([0] : List Int)), box b21 ([.slice A15 t14.Names.length c16, .slice A17 t14.Eats.length c18, .slice A19 t14.Foes.length c20]) 29, rowC (ci .u16) A118 (([0] : List Int).length) 74 ([0] : List Int), rowC (ci .i16) A134 (([IntKind.i16.wrap a2] : List Int).length) 73 ([IntKind.i16.wrap a2] : List Int), rowC G.cs A135 (([a1] : List ByteArray).length) 9 ([a1] : List ByteArray)] [roC G.cs Aa0_0 ca0_0 a0.Names, roC (ci .i16) Aa0_1 ca0_1 a0.Eats, roC (ci .u16) Aa0_2 ca0_2 a0.Foes] := hO.out [6] hS
            refine TJ.pures tU_ok 1 rfl ?_
            refine TJ.nil ?_
            exact EJ.meet (F' := [(6, .pointer (some ⟨b2, 0, none⟩)), (7, .int .i64 0)]) ⟨rfl, rfl, trivial⟩ ⟨A135, A136, c137, A134, A138, c139, A118, A140, c141, rfl, hS.pick [0, 1, 2, 3, 4, 5, 6, 9, 8, 7] [0, 1, 2] rfl⟩
          exact TJ.stop
        exact TJ.stop
      · rintro F w1 ⟨A22, A24, c25, A26, A28, c29, A30, A32, c33, rfl, hS⟩
        refine EJ.next ?_
        refine CJ.ret (?_)
        obtain rfl := Option.some.inj H
        exact EJ.fin rfl (.cell rfl (ldN tU_ok tI_ok rfl rfl rfl (hS.cells (i := 1) rfl) (ds := [.slice A24 (t14.Names ++ ([a1] : List ByteArray)).length c25, .slice A28 (t14.Eats ++ ([IntKind.i16.wrap a2] : List Int)).length c29, .slice A32 (t14.Foes ++ ([0] : List Int)).length c33]) rfl rfl) (.tmp rfl .nil)) ⟨A24, c25, A28, c29, A32, c33, rfl, hS.pick [3, 4, 5] [] rfl⟩

def laws_FnExactAddToHerd.f (k : Nat) (a0 : Herd) (a1 : ByteArray) (a2 : Int) : Option Bool := if 1048576 < (a1.size : Int) then (some true) else ((laws_szHerd.f k a0 1048576).bind fun t2 => if t2 < 0 then (some true) else ((laws_toHerd.f k a0).bind fun t3 => (spec_AddToHerd.f k t3 a1 a2).bind fun t10 => (laws_toHerd.f k a0).bind fun t18 => (impl_AddToHerd.f k t18 a1 a2).bind fun t26 => ((laws_eqHerd.f k t26.1 t10.1).bind fun t35 => if (!t35) = true then (some true) else (some (decide (t26.2 ≠ t10.2)))).bind fun y34 => if y34 = true then (some false) else ((laws_toHerd.f k a0).bind fun t36 => (laws_eqHerd.f k t18 t36).bind fun t43 => if (!t43) = true then (some false) else ((laws_markHerd.f k t18 1).bind fun t44 => (if t44.1 < 0 then (some true) else ((laws_eqHerd.f k t26.1 t10.1).bind fun t46 => if (!t46) = true then (some true) else (some (decide (t26.2 ≠ t10.2))))).bind fun y45 => if y45 = true then (some false) else ((laws_markHerd.f k t26.1 1).bind fun t47 => (laws_heldHerd.f k (⟨t47.2.1, t47.2.2.1, t47.2.2.2⟩ : Herd) 1).bind fun t48 => if t48 < 0 then (some false) else (if t48 ≠ t47.1 then (some false) else ((laws_toHerd.f k a0).bind fun t49 => (impl_AddToHerd.f k t49 a1 a2).bind fun t56 => ((laws_eqHerd.f k t56.1 t10.1).bind fun t65 => if (!t65) = true then (some true) else (some (decide (t56.2 ≠ t10.2)))).bind fun y64 => if y64 = true then (some false) else ((laws_heldHerd.f k (⟨t47.2.1, t47.2.2.1, t47.2.2.2⟩ : Herd) 1).bind fun t66 => if t66 < 0 then (some false) else (if t66 ≠ t47.1 then (some false) else (some true))))))))))
theorem laws_FnExactAddToHerd.c (k : Nat) (w : World) (Aa0_0 : Option Addr) (ca0_0 : Nat) (Aa0_1 : Option Addr) (ca0_1 : Nat) (Aa0_2 : Option Addr) (ca0_2 : Nat) (a0 : Herd) (hr0_0 : Rd G.cs w Aa0_0 a0.Names) (hc0_0 : a0.Names.length ≤ ca0_0) (hr0_1 : Rd (ci .i16) w Aa0_1 a0.Eats) (hc0_1 : a0.Eats.length ≤ ca0_1) (hr0_2 : Rd (ci .u16) w Aa0_2 a0.Foes) (hc0_2 : a0.Foes.length ≤ ca0_2) (a1 : ByteArray) (a2 : Int) (r : Bool) (H : laws_FnExactAddToHerd.f k a0 a1 a2 = some r) :
    CV Tryd.prog 12 [.agg [.slice Aa0_0 a0.Names.length ca0_0, .slice Aa0_1 a0.Eats.length ca0_1, .slice Aa0_2 a0.Foes.length ca0_2].toArray, .string a1, .int .i64 a2].toArray w fun v w' => v = .bool r ∧ Ext w w' := by
  have hS := ((((St.init w no).param G.cs Aa0_0 ca0_0 a0.Names hr0_0 hc0_0).param (ci .i16) Aa0_1 ca0_1 a0.Eats hr0_1 hc0_1).param (ci .u16) Aa0_2 ca0_2 a0.Foes hr0_2 hc0_2)
  unfold laws_FnExactAddToHerd.f at H
  refine CV.body Tryd.func12 rfl Tryd.ntmps12 rfl ?_
  refine CJ.seq ?_
  refine CJ.region ?_
  refine OJ.ef rfl rfl rfl (Ef.box hS rfl rfl ([.slice Aa0_0 a0.Names.length ca0_0, .slice Aa0_1 a0.Eats.length ca0_1, .slice Aa0_2 a0.Foes.length ca0_2]) rfl) ?_
  rintro _ w1 ⟨b1, rfl, hS⟩
  refine OJ.pures tU_ok 1 rfl ?_
  refine OJ.nil (EJ.next ?_)
  refine CJ.seq ?_
  refine CJ.seq ?_
  refine CJ.region ?_
  refine OJ.pures tU_ok 3 rfl ?_
  refine OJ.nil (EJ.next ?_)
  refine CJ.cond rfl (fun hb => ?_) (fun hb => ?_)
  · replace H := pif_t (of_decide_eq_true hb) H
    refine CJ.seq ?_
    refine CJ.region ?_
    refine OJ.pures tU_ok 1 rfl ?_
    refine OJ.nil (EJ.next ?_)
    refine CJ.ret (EJ.skR (?_))
    obtain rfl := Option.some.inj H
    exact EJ.fin rfl (.tmp rfl .nil) ⟨rfl, hS.ext⟩
  · replace H := pif_f (of_decide_eq_false hb) H
    refine CJ.skip (EJ.next ?_)
    refine CJ.seq ?_
    refine CJ.region ?_
    refine OJ.pures tU_ok 1 rfl ?_
    refine OJ.nil (EJ.next ?_)
    refine CJ.seq ?_
    refine CJ.region ?_
    refine OJ.st rfl rfl rfl (SR.load rfl rfl (fun w' hx => ldN tU_ok tI_ok rfl rfl rfl (CA.ext (hS.cells (i := 0) rfl) hx) (ds := [.slice Aa0_0 a0.Names.length ca0_0, .slice Aa0_1 a0.Eats.length ca0_1, .slice Aa0_2 a0.Foes.length ca0_2]) rfl rfl)) ?_
    refine OJ.pures tU_ok 1 rfl ?_
    obtain ⟨t2, ht2, H⟩ := pbind H
    refine OJ.callF rfl rfl rfl rfl rfl hb14 rfl (laws_szHerd.c k _ Aa0_0 ca0_0 Aa0_1 ca0_1 Aa0_2 ca0_2 a0 (hS.rd' (i := 0) rfl) (hS.le' (i := 0) rfl) (hS.rd' (i := 1) rfl) (hS.le' (i := 1) rfl) (hS.rd' (i := 2) rfl) (hS.le' (i := 2) rfl) 1048576 _ ht2) ?_
    rintro _ w1 ⟨rfl, hs⟩
    replace hS := hS.grow hs
    refine OJ.pures tU_ok 1 rfl ?_
    refine OJ.nil (EJ.next ?_)
    refine CJ.seq ?_
    refine CJ.seq ?_
    refine CJ.region ?_
    refine OJ.pures tU_ok 2 rfl ?_
    refine OJ.nil (EJ.next ?_)
    refine CJ.cond rfl (fun hb => ?_) (fun hb => ?_)
    · replace H := pif_t (of_decide_eq_true hb) H
      refine CJ.seq ?_
      refine CJ.region ?_
      refine OJ.pures tU_ok 1 rfl ?_
      refine OJ.nil (EJ.next ?_)
      refine CJ.ret (EJ.skR (?_))
      obtain rfl := Option.some.inj H
      exact EJ.fin rfl (.tmp rfl .nil) ⟨rfl, hS.ext⟩
    · replace H := pif_f (of_decide_eq_false hb) H
      refine CJ.skip (EJ.next ?_)
      refine CJ.seq ?_
      refine CJ.region ?_
      refine OJ.st rfl rfl rfl (SR.load rfl rfl (fun w' hx => ldN tU_ok tI_ok rfl rfl rfl (CA.ext (hS.cells (i := 0) rfl) hx) (ds := [.slice Aa0_0 a0.Names.length ca0_0, .slice Aa0_1 a0.Eats.length ca0_1, .slice Aa0_2 a0.Foes.length ca0_2]) rfl rfl)) ?_
      obtain ⟨t3, ht3, H⟩ := pbind H
      refine OJ.callF rfl rfl rfl rfl rfl hb16 rfl (laws_toHerd.c k _ Aa0_0 ca0_0 Aa0_1 ca0_1 Aa0_2 ca0_2 a0 (hS.rd' (i := 0) rfl) (hS.le' (i := 0) rfl) (hS.rd' (i := 1) rfl) (hS.le' (i := 1) rfl) (hS.rd' (i := 2) rfl) (hS.le' (i := 2) rfl) _ ht3) ?_
      rintro _ w1 ⟨A4, c5, A6, c7, A8, c9, rfl, hs⟩
      replace hS := hS.addN hs
      refine OJ.pures tU_ok 2 rfl ?_
      obtain ⟨t10, ht10, H⟩ := pbind H
      refine OJ.callF rfl rfl rfl rfl rfl hb44 rfl (spec_AddToHerd.c k _ A4 c5 A6 c7 A8 c9 t3 (hS.rd (i := 1) rfl) (hS.le (i := 1) rfl) (hS.rd (i := 2) rfl) (hS.le (i := 2) rfl) (hS.rd (i := 3) rfl) (hS.le (i := 3) rfl) a1 a2 _ ht10) ?_
      rintro _ w1 ⟨A11, c12, A13, c14, A15, c16, rfl, hs⟩
      replace hS := hS.addN hs
      have hS : St w no w1 [box b1 ([.slice Aa0_0 a0.Names.length ca0_0, .slice Aa0_1 a0.Eats.length ca0_1, .slice Aa0_2 a0.Foes.length ca0_2]) 26, rowC G.cs A4 c5 9 t3.Names, rowC (ci .i16) A6 c7 73 t3.Eats, rowC (ci .u16) A8 c9 74 t3.Foes, rowC G.cs A11 c12 9 t10.1.Names, rowC (ci .i16) A13 c14 73 t10.1.Eats, rowC (ci .u16) A15 c16 74 t10.1.Foes] [roC G.cs Aa0_0 ca0_0 a0.Names, roC (ci .i16) Aa0_1 ca0_1 a0.Eats, roC (ci .u16) Aa0_2 ca0_2 a0.Foes] := hS
      refine OJ.pures tU_ok 3 rfl ?_
      refine OJ.ef rfl rfl rfl (Ef.alloc hS tI_ok rfl rfl ([.slice none 0 0, .slice none 0 0, .slice none 0 0]) rfl) ?_
      rintro _ w1 ⟨b17, rfl, hS⟩
      refine OJ.es rfl rfl (Es.store tI_ok hS (i := 7) (vs := [.slice A11 t10.1.Names.length c12, .slice A13 t10.1.Eats.length c14, .slice A15 t10.1.Foes.length c16]) rfl rfl rfl rfl rfl rfl rfl rfl (by intro u hu; simp only [List.mem_cons, List.not_mem_nil, or_false] at hu; rcases hu with rfl | rfl | rfl <;> rfl) (Nat.le_of_ble_eq_true rfl) ([.slice A11 t10.1.Names.length c12, .slice A13 t10.1.Eats.length c14, .slice A15 t10.1.Foes.length c16]) rfl) ?_
      intro w1 hS
      refine OJ.pures tU_ok 1 rfl ?_
      refine OJ.nil (EJ.next ?_)
      refine CJ.seq ?_
      refine CJ.region ?_
      refine OJ.st rfl rfl rfl (SR.load rfl rfl (fun w' hx => ldN tU_ok tI_ok rfl rfl rfl (CA.ext (hS.cells (i := 0) rfl) hx) (ds := [.slice Aa0_0 a0.Names.length ca0_0, .slice Aa0_1 a0.Eats.length ca0_1, .slice Aa0_2 a0.Foes.length ca0_2]) rfl rfl)) ?_
      obtain ⟨t18, ht18, H⟩ := pbind H
      refine OJ.callF rfl rfl rfl rfl rfl hb16 rfl (laws_toHerd.c k _ Aa0_0 ca0_0 Aa0_1 ca0_1 Aa0_2 ca0_2 a0 (hS.rd' (i := 0) rfl) (hS.le' (i := 0) rfl) (hS.rd' (i := 1) rfl) (hS.le' (i := 1) rfl) (hS.rd' (i := 2) rfl) (hS.le' (i := 2) rfl) _ ht18) ?_
      rintro _ w1 ⟨A19, c20, A21, c22, A23, c24, rfl, hs⟩
      replace hS := hS.addN hs
      have hS : St w no w1 [box b1 ([.slice Aa0_0 a0.Names.length ca0_0, .slice Aa0_1 a0.Eats.length ca0_1, .slice Aa0_2 a0.Foes.length ca0_2]) 26, rowC G.cs A4 c5 9 t3.Names, rowC (ci .i16) A6 c7 73 t3.Eats, rowC (ci .u16) A8 c9 74 t3.Foes, rowC G.cs A11 c12 9 t10.1.Names, rowC (ci .i16) A13 c14 73 t10.1.Eats, rowC (ci .u16) A15 c16 74 t10.1.Foes, box b17 ([.slice A11 t10.1.Names.length c12, .slice A13 t10.1.Eats.length c14, .slice A15 t10.1.Foes.length c16]) 29, rowC G.cs A19 c20 9 t18.Names, rowC (ci .i16) A21 c22 73 t18.Eats, rowC (ci .u16) A23 c24 74 t18.Foes] [roC G.cs Aa0_0 ca0_0 a0.Names, roC (ci .i16) Aa0_1 ca0_1 a0.Eats, roC (ci .u16) Aa0_2 ca0_2 a0.Foes] := hS
      refine OJ.ef rfl rfl rfl (Ef.alloc hS tI_ok rfl rfl ([.slice none 0 0, .slice none 0 0, .slice none 0 0]) rfl) ?_
      rintro _ w1 ⟨b25, rfl, hS⟩
      refine OJ.es rfl rfl (Es.store tI_ok hS (i := 11) (vs := [.slice A19 t18.Names.length c20, .slice A21 t18.Eats.length c22, .slice A23 t18.Foes.length c24]) rfl rfl rfl rfl rfl rfl rfl rfl (by intro u hu; simp only [List.mem_cons, List.not_mem_nil, or_false] at hu; rcases hu with rfl | rfl | rfl <;> rfl) (Nat.le_of_ble_eq_true rfl) ([.slice A19 t18.Names.length c20, .slice A21 t18.Eats.length c22, .slice A23 t18.Foes.length c24]) rfl) ?_
      intro w1 hS
      refine OJ.nil (EJ.next ?_)
      refine CJ.seq ?_
      refine CJ.region ?_
      refine OJ.st rfl rfl rfl (SR.load rfl rfl (fun w' hx => ldN tU_ok tI_ok rfl rfl rfl (CA.ext (hS.cells (i := 11) rfl) hx) (ds := [.slice A19 t18.Names.length c20, .slice A21 t18.Eats.length c22, .slice A23 t18.Foes.length c24]) rfl rfl)) ?_
      refine OJ.pures tU_ok 2 rfl ?_
      obtain ⟨t26, ht26, H⟩ := pbind H
      refine OJ.callF rfl rfl rfl rfl rfl hb45 rfl (impl_AddToHerd.c k _ A19 c20 A21 c22 A23 c24 t18 (hS.rd (i := 8) rfl) (hS.le (i := 8) rfl) (hS.rd (i := 9) rfl) (hS.le (i := 9) rfl) (hS.rd (i := 10) rfl) (hS.le (i := 10) rfl) a1 a2 _ ht26) ?_
      rintro _ w1 ⟨A27, c28, A29, c30, A31, c32, rfl, hs⟩
      replace hS := hS.addN hs
      have hS : St w no w1 [box b1 ([.slice Aa0_0 a0.Names.length ca0_0, .slice Aa0_1 a0.Eats.length ca0_1, .slice Aa0_2 a0.Foes.length ca0_2]) 26, rowC G.cs A4 c5 9 t3.Names, rowC (ci .i16) A6 c7 73 t3.Eats, rowC (ci .u16) A8 c9 74 t3.Foes, rowC G.cs A11 c12 9 t10.1.Names, rowC (ci .i16) A13 c14 73 t10.1.Eats, rowC (ci .u16) A15 c16 74 t10.1.Foes, box b17 ([.slice A11 t10.1.Names.length c12, .slice A13 t10.1.Eats.length c14, .slice A15 t10.1.Foes.length c16]) 29, rowC G.cs A19 c20 9 t18.Names, rowC (ci .i16) A21 c22 73 t18.Eats, rowC (ci .u16) A23 c24 74 t18.Foes, box b25 ([.slice A19 t18.Names.length c20, .slice A21 t18.Eats.length c22, .slice A23 t18.Foes.length c24]) 29, rowC G.cs A27 c28 9 t26.1.Names, rowC (ci .i16) A29 c30 73 t26.1.Eats, rowC (ci .u16) A31 c32 74 t26.1.Foes] [roC G.cs Aa0_0 ca0_0 a0.Names, roC (ci .i16) Aa0_1 ca0_1 a0.Eats, roC (ci .u16) Aa0_2 ca0_2 a0.Foes] := hS
      refine OJ.pures tU_ok 3 rfl ?_
      refine OJ.ef rfl rfl rfl (Ef.alloc hS tI_ok rfl rfl ([.slice none 0 0, .slice none 0 0, .slice none 0 0]) rfl) ?_
      rintro _ w1 ⟨b33, rfl, hS⟩
      refine OJ.es rfl rfl (Es.store tI_ok hS (i := 15) (vs := [.slice A27 t26.1.Names.length c28, .slice A29 t26.1.Eats.length c30, .slice A31 t26.1.Foes.length c32]) rfl rfl rfl rfl rfl rfl rfl rfl (by intro u hu; simp only [List.mem_cons, List.not_mem_nil, or_false] at hu; rcases hu with rfl | rfl | rfl <;> rfl) (Nat.le_of_ble_eq_true rfl) ([.slice A27 t26.1.Names.length c28, .slice A29 t26.1.Eats.length c30, .slice A31 t26.1.Foes.length c32]) rfl) ?_
      intro w1 hS
      refine OJ.pures tU_ok 1 rfl ?_
      refine OJ.nil (EJ.next ?_)
      refine CJ.seq ?_
      obtain ⟨j81, H, K81⟩ := pbind H
      refine CJ.cut (fun F w1 => ∃ (y34 : Bool) , (some y34 : Option Bool) = some j81 ∧ F = [(1, .string a1), (2, .int .i64 a2), (3, .pointer (some ⟨b1, 0, none⟩)), (8, .pointer (some ⟨b17, 0, none⟩)), (9, .int .i64 t10.2), (10, .pointer (some ⟨b25, 0, none⟩)), (11, .pointer (some ⟨b33, 0, none⟩)), (12, .int .i64 t26.2), (51, .bool y34)] ∧ St w no w1 [box b1 ([.slice Aa0_0 a0.Names.length ca0_0, .slice Aa0_1 a0.Eats.length ca0_1, .slice Aa0_2 a0.Foes.length ca0_2]) 26, rowC G.cs A11 c12 9 t10.1.Names, rowC (ci .i16) A13 c14 73 t10.1.Eats, rowC (ci .u16) A15 c16 74 t10.1.Foes, box b17 ([.slice A11 t10.1.Names.length c12, .slice A13 t10.1.Eats.length c14, .slice A15 t10.1.Foes.length c16]) 29, rowC G.cs A19 c20 9 t18.Names, rowC (ci .i16) A21 c22 73 t18.Eats, rowC (ci .u16) A23 c24 74 t18.Foes, box b25 ([.slice A19 t18.Names.length c20, .slice A21 t18.Eats.length c22, .slice A23 t18.Foes.length c24]) 29, rowC G.cs A27 c28 9 t26.1.Names, rowC (ci .i16) A29 c30 73 t26.1.Eats, rowC (ci .u16) A31 c32 74 t26.1.Foes, box b33 ([.slice A27 t26.1.Names.length c28, .slice A29 t26.1.Eats.length c30, .slice A31 t26.1.Foes.length c32]) 29] [roC G.cs Aa0_0 ca0_0 a0.Names, roC (ci .i16) Aa0_1 ca0_1 a0.Eats, roC (ci .u16) Aa0_2 ca0_2 a0.Foes]) ?_ ?_
      · skip
        refine CJ.region ?_
        refine OJ.st rfl rfl rfl (SR.load rfl rfl (fun w' hx => ldN tU_ok tI_ok rfl rfl rfl (CA.ext (hS.cells (i := 15) rfl) hx) (ds := [.slice A27 t26.1.Names.length c28, .slice A29 t26.1.Eats.length c30, .slice A31 t26.1.Foes.length c32]) rfl rfl)) ?_
        refine OJ.st rfl rfl rfl (SR.load rfl rfl (fun w' hx => ldN tU_ok tI_ok rfl rfl rfl (CA.ext (hS.cells (i := 7) rfl) hx) (ds := [.slice A11 t10.1.Names.length c12, .slice A13 t10.1.Eats.length c14, .slice A15 t10.1.Foes.length c16]) rfl rfl)) ?_
        obtain ⟨t35, ht35, H⟩ := pbind H
        refine OJ.callF rfl rfl rfl rfl rfl hb18 rfl (laws_eqHerd.c k _ A27 c28 A29 c30 A31 c32 t26.1 (hS.rd (i := 12) rfl) (hS.le (i := 12) rfl) (hS.rd (i := 13) rfl) (hS.le (i := 13) rfl) (hS.rd (i := 14) rfl) (hS.le (i := 14) rfl) A11 c12 A13 c14 A15 c16 t10.1 (hS.rd (i := 4) rfl) (hS.le (i := 4) rfl) (hS.rd (i := 5) rfl) (hS.le (i := 5) rfl) (hS.rd (i := 6) rfl) (hS.le (i := 6) rfl) _ ht35) ?_
        rintro _ w1 ⟨rfl, hs⟩
        replace hS := hS.grow hs
        refine OJ.pures tU_ok 2 rfl ?_
        refine OJ.split (t := 47) rfl (fun hb => ?_) (fun hb => ?_)
        · replace H := pif_t hb H
          refine OJ.pures tU_ok 4 rfl ?_
          refine OJ.nil ?_
          exact EJ.meet (F' := [(1, .string a1), (2, .int .i64 a2), (3, .pointer (some ⟨b1, 0, none⟩)), (8, .pointer (some ⟨b17, 0, none⟩)), (9, .int .i64 t10.2), (10, .pointer (some ⟨b25, 0, none⟩)), (11, .pointer (some ⟨b33, 0, none⟩)), (12, .int .i64 t26.2), (51, .bool true)]) ⟨rfl, rfl, rfl, rfl, rfl, rfl, rfl, rfl, rfl, trivial⟩ ⟨true, H, rfl, hS.pick [0, 4, 5, 6, 7, 8, 9, 10, 11, 12, 13, 14, 15] [0, 1, 2] rfl⟩
        · replace H := pifb_f hb H
          refine OJ.pures tU_ok 4 rfl ?_
          refine OJ.nil ?_
          exact EJ.meet (F' := [(1, .string a1), (2, .int .i64 a2), (3, .pointer (some ⟨b1, 0, none⟩)), (8, .pointer (some ⟨b17, 0, none⟩)), (9, .int .i64 t10.2), (10, .pointer (some ⟨b25, 0, none⟩)), (11, .pointer (some ⟨b33, 0, none⟩)), (12, .int .i64 t26.2), (51, .bool (decide (t26.2 ≠ t10.2)))]) ⟨rfl, rfl, rfl, rfl, rfl, rfl, rfl, rfl, rfl, trivial⟩ ⟨(decide (t26.2 ≠ t10.2)), H, rfl, hS.pick [0, 4, 5, 6, 7, 8, 9, 10, 11, 12, 13, 14, 15] [0, 1, 2] rfl⟩
      · rintro F w1 ⟨y34, he, rfl, hS⟩
        obtain rfl := Option.some.inj he
        have H := K81
        refine CJ.cond rfl (fun hb => ?_) (fun hb => ?_)
        · replace H := pif_t hb H
          refine CJ.seq ?_
          refine CJ.region ?_
          refine OJ.pures tU_ok 1 rfl ?_
          refine OJ.nil (EJ.next ?_)
          refine CJ.ret (EJ.skR (?_))
          obtain rfl := Option.some.inj H
          exact EJ.fin rfl (.tmp rfl .nil) ⟨rfl, hS.ext⟩
        · replace H := pifb_f hb H
          refine CJ.skip (EJ.next ?_)
          refine CJ.seq ?_
          refine CJ.seq ?_
          refine CJ.draw [] [0, 1, 2, 3, 4] mixed (by kernel_rfl) hS fun w1 hS => ?_
          refine DJ.st rfl rfl rfl rfl rfl (SR.load rfl rfl (fun w' hx => ldN tU_ok tI_ok rfl rfl rfl (CA.ext (hS.cells (i := 8) rfl) hx) (ds := [.slice A19 t18.Names.length c20, .slice A21 t18.Eats.length c22, .slice A23 t18.Foes.length c24]) rfl rfl)) ?_
          refine DJ.st rfl rfl rfl rfl rfl (SR.load rfl rfl (fun w' hx => ldN tU_ok tI_ok rfl rfl rfl (CA.ext (hS.cells (i := 0) rfl) hx) (ds := [.slice Aa0_0 a0.Names.length ca0_0, .slice Aa0_1 a0.Eats.length ca0_1, .slice Aa0_2 a0.Foes.length ca0_2]) rfl rfl)) ?_
          obtain ⟨t36, ht36, H⟩ := pbind H
          refine DJ.callF rfl rfl rfl rfl rfl rfl rfl hb16 rfl (laws_toHerd.c k _ Aa0_0 ca0_0 Aa0_1 ca0_1 Aa0_2 ca0_2 a0 (hS.rd' (i := 0) rfl) (hS.le' (i := 0) rfl) (hS.rd' (i := 1) rfl) (hS.le' (i := 1) rfl) (hS.rd' (i := 2) rfl) (hS.le' (i := 2) rfl) _ ht36) (by rintro v w' ⟨A37, c38, A39, c40, A41, c42, rfl, hs⟩; exact hs.ext) ?_
          rintro _ w1 ⟨A37, c38, A39, c40, A41, c42, rfl, hs⟩
          replace hS := hS.addN hs
          have hS : St w no w1 [box b1 ([.slice Aa0_0 a0.Names.length ca0_0, .slice Aa0_1 a0.Eats.length ca0_1, .slice Aa0_2 a0.Foes.length ca0_2]) 26, rowC G.cs A11 c12 9 t10.1.Names, rowC (ci .i16) A13 c14 73 t10.1.Eats, rowC (ci .u16) A15 c16 74 t10.1.Foes, box b17 ([.slice A11 t10.1.Names.length c12, .slice A13 t10.1.Eats.length c14, .slice A15 t10.1.Foes.length c16]) 29, rowC G.cs A19 c20 9 t18.Names, rowC (ci .i16) A21 c22 73 t18.Eats, rowC (ci .u16) A23 c24 74 t18.Foes, box b25 ([.slice A19 t18.Names.length c20, .slice A21 t18.Eats.length c22, .slice A23 t18.Foes.length c24]) 29, rowC G.cs A27 c28 9 t26.1.Names, rowC (ci .i16) A29 c30 73 t26.1.Eats, rowC (ci .u16) A31 c32 74 t26.1.Foes, box b33 ([.slice A27 t26.1.Names.length c28, .slice A29 t26.1.Eats.length c30, .slice A31 t26.1.Foes.length c32]) 29, rowC G.cs A37 c38 9 t36.Names, rowC (ci .i16) A39 c40 73 t36.Eats, rowC (ci .u16) A41 c42 74 t36.Foes] [roC G.cs Aa0_0 ca0_0 a0.Names, roC (ci .i16) Aa0_1 ca0_1 a0.Eats, roC (ci .u16) Aa0_2 ca0_2 a0.Foes] := hS
          obtain ⟨t43, ht43, H⟩ := pbind H
          refine DJ.callF rfl rfl rfl rfl rfl rfl rfl hb18 rfl (laws_eqHerd.c k _ A19 c20 A21 c22 A23 c24 t18 (hS.rd (i := 5) rfl) (hS.le (i := 5) rfl) (hS.rd (i := 6) rfl) (hS.le (i := 6) rfl) (hS.rd (i := 7) rfl) (hS.le (i := 7) rfl) A37 c38 A39 c40 A41 c42 t36 (hS.rd (i := 13) rfl) (hS.le (i := 13) rfl) (hS.rd (i := 14) rfl) (hS.le (i := 14) rfl) (hS.rd (i := 15) rfl) (hS.le (i := 15) rfl) _ ht43) (by rintro v w' ⟨rfl, hs⟩; exact hs) ?_
          rintro _ w1 ⟨rfl, hs⟩
          replace hS := hS.grow hs
          refine DJ.pures tU_ok 1 rfl ?_
          refine DJ.nil (EJ.next ?_)
          refine CJ.cond rfl (fun hb => ?_) (fun hb => ?_)
          · replace H := pif_t hb H
            refine CJ.seq ?_
            refine CJ.region ?_
            refine OJ.pures tU_ok 1 rfl ?_
            refine OJ.nil (EJ.next ?_)
            refine CJ.ret (EJ.skR (?_))
            obtain rfl := Option.some.inj H
            exact EJ.fin rfl (.tmp rfl .nil) ⟨rfl, hS.ext⟩
          · replace H := pifb_f hb H
            refine CJ.skip (EJ.next ?_)
            refine CJ.seq ?_
            refine CJ.region ?_
            refine OJ.pures tU_ok 1 rfl ?_
            refine OJ.nil (EJ.next ?_)
            refine CJ.seq ?_
            refine CJ.region ?_
            refine OJ.st rfl rfl rfl (SR.load rfl rfl (fun w' hx => ldN tU_ok tI_ok rfl rfl rfl (CA.ext (hS.cells (i := 8) rfl) hx) (ds := [.slice A19 t18.Names.length c20, .slice A21 t18.Eats.length c22, .slice A23 t18.Foes.length c24]) rfl rfl)) ?_
            refine OJ.pures tU_ok 1 rfl ?_
            obtain ⟨t44, ht44, H⟩ := pbind H
            refine OJ.callF rfl rfl rfl rfl rfl hb29 rfl (laws_markHerd.c k _ A19 c20 A21 c22 A23 c24 t18 1 ((hS.subs [5, 6, 7] [] [] rfl).pick [0, 1, 2] [] rfl) _ ht44) ?_
            rintro _ w1 ⟨rfl, hs, hlc0, hlc1, hlc2⟩
            replace hS := hS.back [5, 6, 7] rfl rfl [rowC G.cs A19 c20 9 t44.2.1, rowC (ci .i16) A21 c22 73 t44.2.2.1, rowC (ci .u16) A23 c24 74 t44.2.2.2] [] hs ⟨fun _ => Iff.rfl, fun _ => Iff.rfl, fun _ => Iff.rfl, trivial⟩
            have hS : St w no w1 [box b1 ([.slice Aa0_0 a0.Names.length ca0_0, .slice Aa0_1 a0.Eats.length ca0_1, .slice Aa0_2 a0.Foes.length ca0_2]) 26, rowC G.cs A11 c12 9 t10.1.Names, rowC (ci .i16) A13 c14 73 t10.1.Eats, rowC (ci .u16) A15 c16 74 t10.1.Foes, box b17 ([.slice A11 t10.1.Names.length c12, .slice A13 t10.1.Eats.length c14, .slice A15 t10.1.Foes.length c16]) 29, rowC G.cs A19 c20 9 t44.2.1, rowC (ci .i16) A21 c22 73 t44.2.2.1, rowC (ci .u16) A23 c24 74 t44.2.2.2, box b25 ([.slice A19 t18.Names.length c20, .slice A21 t18.Eats.length c22, .slice A23 t18.Foes.length c24]) 29, rowC G.cs A27 c28 9 t26.1.Names, rowC (ci .i16) A29 c30 73 t26.1.Eats, rowC (ci .u16) A31 c32 74 t26.1.Foes, box b33 ([.slice A27 t26.1.Names.length c28, .slice A29 t26.1.Eats.length c30, .slice A31 t26.1.Foes.length c32]) 29, rowC G.cs A37 c38 9 t36.Names, rowC (ci .i16) A39 c40 73 t36.Eats, rowC (ci .u16) A41 c42 74 t36.Foes] [roC G.cs Aa0_0 ca0_0 a0.Names, roC (ci .i16) Aa0_1 ca0_1 a0.Eats, roC (ci .u16) Aa0_2 ca0_2 a0.Foes] := hS
            refine OJ.as (t := 52) rfl (show _ = (.agg [.slice A19 t44.2.1.length c20, .slice A21 t18.Eats.length c22, .slice A23 t18.Foes.length c24].toArray : Value) by simp only [hlc0]) ?_
            refine OJ.as (t := 57) rfl (show _ = (.agg [.slice A19 t44.2.1.length c20, .slice A21 t18.Eats.length c22, .slice A23 t18.Foes.length c24].toArray : Value) by simp only [hlc0]) ?_
            replace hS := hS.boxAs (i := 8) rfl (show _ = ([.slice A19 t44.2.1.length c20, .slice A21 t18.Eats.length c22, .slice A23 t18.Foes.length c24] : List Value) by simp only [hlc0])
            refine OJ.as (t := 52) rfl (show _ = (.agg [.slice A19 t44.2.1.length c20, .slice A21 t44.2.2.1.length c22, .slice A23 t18.Foes.length c24].toArray : Value) by simp only [hlc1]) ?_
            refine OJ.as (t := 57) rfl (show _ = (.agg [.slice A19 t44.2.1.length c20, .slice A21 t44.2.2.1.length c22, .slice A23 t18.Foes.length c24].toArray : Value) by simp only [hlc1]) ?_
            replace hS := hS.boxAs (i := 8) rfl (show _ = ([.slice A19 t44.2.1.length c20, .slice A21 t44.2.2.1.length c22, .slice A23 t18.Foes.length c24] : List Value) by simp only [hlc1])
            refine OJ.as (t := 52) rfl (show _ = (.agg [.slice A19 t44.2.1.length c20, .slice A21 t44.2.2.1.length c22, .slice A23 t44.2.2.2.length c24].toArray : Value) by simp only [hlc2]) ?_
            refine OJ.as (t := 57) rfl (show _ = (.agg [.slice A19 t44.2.1.length c20, .slice A21 t44.2.2.1.length c22, .slice A23 t44.2.2.2.length c24].toArray : Value) by simp only [hlc2]) ?_
            replace hS := hS.boxAs (i := 8) rfl (show _ = ([.slice A19 t44.2.1.length c20, .slice A21 t44.2.2.1.length c22, .slice A23 t44.2.2.2.length c24] : List Value) by simp only [hlc2])
            have hS : St w no w1 [box b1 ([.slice Aa0_0 a0.Names.length ca0_0, .slice Aa0_1 a0.Eats.length ca0_1, .slice Aa0_2 a0.Foes.length ca0_2]) 26, rowC G.cs A11 c12 9 t10.1.Names, rowC (ci .i16) A13 c14 73 t10.1.Eats, rowC (ci .u16) A15 c16 74 t10.1.Foes, box b17 ([.slice A11 t10.1.Names.length c12, .slice A13 t10.1.Eats.length c14, .slice A15 t10.1.Foes.length c16]) 29, rowC G.cs A19 c20 9 t44.2.1, rowC (ci .i16) A21 c22 73 t44.2.2.1, rowC (ci .u16) A23 c24 74 t44.2.2.2, box b25 ([.slice A19 t44.2.1.length c20, .slice A21 t44.2.2.1.length c22, .slice A23 t44.2.2.2.length c24]) 29, rowC G.cs A27 c28 9 t26.1.Names, rowC (ci .i16) A29 c30 73 t26.1.Eats, rowC (ci .u16) A31 c32 74 t26.1.Foes, box b33 ([.slice A27 t26.1.Names.length c28, .slice A29 t26.1.Eats.length c30, .slice A31 t26.1.Foes.length c32]) 29, rowC G.cs A37 c38 9 t36.Names, rowC (ci .i16) A39 c40 73 t36.Eats, rowC (ci .u16) A41 c42 74 t36.Foes] [roC G.cs Aa0_0 ca0_0 a0.Names, roC (ci .i16) Aa0_1 ca0_1 a0.Eats, roC (ci .u16) Aa0_2 ca0_2 a0.Foes] := hS
            refine OJ.pures tU_ok 1 rfl ?_
            refine OJ.nil (EJ.next ?_)
            refine CJ.seq ?_
            obtain ⟨j82, H, K82⟩ := pbind H
            refine CJ.cut (fun F w1 => ∃ (y45 : Bool) , (some y45 : Option Bool) = some j82 ∧ F = [(1, .string a1), (2, .int .i64 a2), (3, .pointer (some ⟨b1, 0, none⟩)), (8, .pointer (some ⟨b17, 0, none⟩)), (9, .int .i64 t10.2), (11, .pointer (some ⟨b33, 0, none⟩)), (72, .bool y45)] ∧ St w no w1 [box b1 ([.slice Aa0_0 a0.Names.length ca0_0, .slice Aa0_1 a0.Eats.length ca0_1, .slice Aa0_2 a0.Foes.length ca0_2]) 26, rowC G.cs A11 c12 9 t10.1.Names, rowC (ci .i16) A13 c14 73 t10.1.Eats, rowC (ci .u16) A15 c16 74 t10.1.Foes, box b17 ([.slice A11 t10.1.Names.length c12, .slice A13 t10.1.Eats.length c14, .slice A15 t10.1.Foes.length c16]) 29, rowC G.cs A27 c28 9 t26.1.Names, rowC (ci .i16) A29 c30 73 t26.1.Eats, rowC (ci .u16) A31 c32 74 t26.1.Foes, box b33 ([.slice A27 t26.1.Names.length c28, .slice A29 t26.1.Eats.length c30, .slice A31 t26.1.Foes.length c32]) 29] [roC G.cs Aa0_0 ca0_0 a0.Names, roC (ci .i16) Aa0_1 ca0_1 a0.Eats, roC (ci .u16) Aa0_2 ca0_2 a0.Foes]) ?_ ?_
            · skip
              refine CJ.region ?_
              refine OJ.pures tU_ok 3 rfl ?_
              refine OJ.split (t := 62) rfl (fun hb => ?_) (fun hb => ?_)
              · replace H := pif_t (of_decide_eq_true hb) H
                refine OJ.pures tU_ok 10 rfl ?_
                refine OJ.nil ?_
                exact EJ.meet (F' := [(1, .string a1), (2, .int .i64 a2), (3, .pointer (some ⟨b1, 0, none⟩)), (8, .pointer (some ⟨b17, 0, none⟩)), (9, .int .i64 t10.2), (11, .pointer (some ⟨b33, 0, none⟩)), (72, .bool true)]) ⟨rfl, rfl, rfl, rfl, rfl, rfl, rfl, trivial⟩ ⟨true, H, rfl, hS.pick [0, 1, 2, 3, 4, 9, 10, 11, 12] [0, 1, 2] rfl⟩
              · replace H := pif_f (of_decide_eq_false hb) H
                refine OJ.st rfl rfl rfl (SR.load rfl rfl (fun w' hx => ldN tU_ok tI_ok rfl rfl rfl (CA.ext (hS.cells (i := 12) rfl) hx) (ds := [.slice A27 t26.1.Names.length c28, .slice A29 t26.1.Eats.length c30, .slice A31 t26.1.Foes.length c32]) rfl rfl)) ?_
                refine OJ.st rfl rfl rfl (SR.load rfl rfl (fun w' hx => ldN tU_ok tI_ok rfl rfl rfl (CA.ext (hS.cells (i := 4) rfl) hx) (ds := [.slice A11 t10.1.Names.length c12, .slice A13 t10.1.Eats.length c14, .slice A15 t10.1.Foes.length c16]) rfl rfl)) ?_
                obtain ⟨t46, ht46, H⟩ := pbind H
                refine OJ.callF rfl rfl rfl rfl rfl hb18 rfl (laws_eqHerd.c k _ A27 c28 A29 c30 A31 c32 t26.1 (hS.rd (i := 9) rfl) (hS.le (i := 9) rfl) (hS.rd (i := 10) rfl) (hS.le (i := 10) rfl) (hS.rd (i := 11) rfl) (hS.le (i := 11) rfl) A11 c12 A13 c14 A15 c16 t10.1 (hS.rd (i := 1) rfl) (hS.le (i := 1) rfl) (hS.rd (i := 2) rfl) (hS.le (i := 2) rfl) (hS.rd (i := 3) rfl) (hS.le (i := 3) rfl) _ ht46) ?_
                rintro _ w1 ⟨rfl, hs⟩
                replace hS := hS.grow hs
                refine OJ.pures tU_ok 3 rfl ?_
                refine OJ.split (t := 68) rfl (fun hb => ?_) (fun hb => ?_)
                · replace H := pif_t hb H
                  refine OJ.pures tU_ok 4 rfl ?_
                  refine OJ.nil ?_
                  exact EJ.meet (F' := [(1, .string a1), (2, .int .i64 a2), (3, .pointer (some ⟨b1, 0, none⟩)), (8, .pointer (some ⟨b17, 0, none⟩)), (9, .int .i64 t10.2), (11, .pointer (some ⟨b33, 0, none⟩)), (72, .bool true)]) ⟨rfl, rfl, rfl, rfl, rfl, rfl, rfl, trivial⟩ ⟨true, H, rfl, hS.pick [0, 1, 2, 3, 4, 9, 10, 11, 12] [0, 1, 2] rfl⟩
                · replace H := pifb_f hb H
                  refine OJ.pures tU_ok 4 rfl ?_
                  refine OJ.nil ?_
                  exact EJ.meet (F' := [(1, .string a1), (2, .int .i64 a2), (3, .pointer (some ⟨b1, 0, none⟩)), (8, .pointer (some ⟨b17, 0, none⟩)), (9, .int .i64 t10.2), (11, .pointer (some ⟨b33, 0, none⟩)), (72, .bool (decide (t26.2 ≠ t10.2)))]) ⟨rfl, rfl, rfl, rfl, rfl, rfl, rfl, trivial⟩ ⟨(decide (t26.2 ≠ t10.2)), H, rfl, hS.pick [0, 1, 2, 3, 4, 9, 10, 11, 12] [0, 1, 2] rfl⟩
            · rintro F w1 ⟨y45, he, rfl, hS⟩
              obtain rfl := Option.some.inj he
              have H := K82
              refine CJ.cond rfl (fun hb => ?_) (fun hb => ?_)
              · replace H := pif_t hb H
                refine CJ.seq ?_
                refine CJ.region ?_
                refine OJ.pures tU_ok 1 rfl ?_
                refine OJ.nil (EJ.next ?_)
                refine CJ.ret (EJ.skR (?_))
                obtain rfl := Option.some.inj H
                exact EJ.fin rfl (.tmp rfl .nil) ⟨rfl, hS.ext⟩
              · replace H := pifb_f hb H
                refine CJ.skip (EJ.next ?_)
                refine CJ.seq ?_
                refine CJ.region ?_
                refine OJ.pures tU_ok 1 rfl ?_
                refine OJ.nil (EJ.next ?_)
                refine CJ.seq ?_
                refine CJ.region ?_
                refine OJ.st rfl rfl rfl (SR.load rfl rfl (fun w' hx => ldN tU_ok tI_ok rfl rfl rfl (CA.ext (hS.cells (i := 8) rfl) hx) (ds := [.slice A27 t26.1.Names.length c28, .slice A29 t26.1.Eats.length c30, .slice A31 t26.1.Foes.length c32]) rfl rfl)) ?_
                refine OJ.pures tU_ok 1 rfl ?_
                obtain ⟨t47, ht47, H⟩ := pbind H
                refine OJ.callF rfl rfl rfl rfl rfl hb29 rfl (laws_markHerd.c k _ A27 c28 A29 c30 A31 c32 t26.1 1 ((hS.subs [5, 6, 7] [] [] rfl).pick [0, 1, 2] [] rfl) _ ht47) ?_
                rintro _ w1 ⟨rfl, hs, hlc0, hlc1, hlc2⟩
                replace hS := hS.back [5, 6, 7] rfl rfl [rowC G.cs A27 c28 9 t47.2.1, rowC (ci .i16) A29 c30 73 t47.2.2.1, rowC (ci .u16) A31 c32 74 t47.2.2.2] [] hs ⟨fun _ => Iff.rfl, fun _ => Iff.rfl, fun _ => Iff.rfl, trivial⟩
                have hS : St w no w1 [box b1 ([.slice Aa0_0 a0.Names.length ca0_0, .slice Aa0_1 a0.Eats.length ca0_1, .slice Aa0_2 a0.Foes.length ca0_2]) 26, rowC G.cs A11 c12 9 t10.1.Names, rowC (ci .i16) A13 c14 73 t10.1.Eats, rowC (ci .u16) A15 c16 74 t10.1.Foes, box b17 ([.slice A11 t10.1.Names.length c12, .slice A13 t10.1.Eats.length c14, .slice A15 t10.1.Foes.length c16]) 29, rowC G.cs A27 c28 9 t47.2.1, rowC (ci .i16) A29 c30 73 t47.2.2.1, rowC (ci .u16) A31 c32 74 t47.2.2.2, box b33 ([.slice A27 t26.1.Names.length c28, .slice A29 t26.1.Eats.length c30, .slice A31 t26.1.Foes.length c32]) 29] [roC G.cs Aa0_0 ca0_0 a0.Names, roC (ci .i16) Aa0_1 ca0_1 a0.Eats, roC (ci .u16) Aa0_2 ca0_2 a0.Foes] := hS
                refine OJ.as (t := 73) rfl (show _ = (.agg [.slice A27 t47.2.1.length c28, .slice A29 t26.1.Eats.length c30, .slice A31 t26.1.Foes.length c32].toArray : Value) by simp only [hlc0]) ?_
                replace hS := hS.boxAs (i := 8) rfl (show _ = ([.slice A27 t47.2.1.length c28, .slice A29 t26.1.Eats.length c30, .slice A31 t26.1.Foes.length c32] : List Value) by simp only [hlc0])
                refine OJ.as (t := 73) rfl (show _ = (.agg [.slice A27 t47.2.1.length c28, .slice A29 t47.2.2.1.length c30, .slice A31 t26.1.Foes.length c32].toArray : Value) by simp only [hlc1]) ?_
                replace hS := hS.boxAs (i := 8) rfl (show _ = ([.slice A27 t47.2.1.length c28, .slice A29 t47.2.2.1.length c30, .slice A31 t26.1.Foes.length c32] : List Value) by simp only [hlc1])
                refine OJ.as (t := 73) rfl (show _ = (.agg [.slice A27 t47.2.1.length c28, .slice A29 t47.2.2.1.length c30, .slice A31 t47.2.2.2.length c32].toArray : Value) by simp only [hlc2]) ?_
                replace hS := hS.boxAs (i := 8) rfl (show _ = ([.slice A27 t47.2.1.length c28, .slice A29 t47.2.2.1.length c30, .slice A31 t47.2.2.2.length c32] : List Value) by simp only [hlc2])
                have hS : St w no w1 [box b1 ([.slice Aa0_0 a0.Names.length ca0_0, .slice Aa0_1 a0.Eats.length ca0_1, .slice Aa0_2 a0.Foes.length ca0_2]) 26, rowC G.cs A11 c12 9 t10.1.Names, rowC (ci .i16) A13 c14 73 t10.1.Eats, rowC (ci .u16) A15 c16 74 t10.1.Foes, box b17 ([.slice A11 t10.1.Names.length c12, .slice A13 t10.1.Eats.length c14, .slice A15 t10.1.Foes.length c16]) 29, rowC G.cs A27 c28 9 t47.2.1, rowC (ci .i16) A29 c30 73 t47.2.2.1, rowC (ci .u16) A31 c32 74 t47.2.2.2, box b33 ([.slice A27 t47.2.1.length c28, .slice A29 t47.2.2.1.length c30, .slice A31 t47.2.2.2.length c32]) 29] [roC G.cs Aa0_0 ca0_0 a0.Names, roC (ci .i16) Aa0_1 ca0_1 a0.Eats, roC (ci .u16) Aa0_2 ca0_2 a0.Foes] := hS
                refine OJ.pures tU_ok 1 rfl ?_
                refine OJ.nil (EJ.next ?_)
                refine CJ.seq ?_
                refine CJ.region ?_
                refine OJ.pures tU_ok 1 rfl ?_
                refine OJ.nil (EJ.next ?_)
                refine CJ.seq ?_
                refine CJ.region ?_
                refine OJ.st rfl rfl rfl (SR.load rfl rfl (fun w' hx => ldN tU_ok tI_ok rfl rfl rfl (CA.ext (hS.cells (i := 8) rfl) hx) (ds := [.slice A27 t47.2.1.length c28, .slice A29 t47.2.2.1.length c30, .slice A31 t47.2.2.2.length c32]) rfl rfl)) ?_
                refine OJ.pures tU_ok 1 rfl ?_
                obtain ⟨t48, ht48, H⟩ := pbind H
                refine OJ.callF rfl rfl rfl rfl rfl hb39 rfl (laws_heldHerd.c k _ A27 c28 A29 c30 A31 c32 (⟨t47.2.1, t47.2.2.1, t47.2.2.2⟩ : Herd) (hS.rd (i := 5) rfl) (hS.le (i := 5) rfl) (hS.rd (i := 6) rfl) (hS.le (i := 6) rfl) (hS.rd (i := 7) rfl) (hS.le (i := 7) rfl) 1 _ ht48) ?_
                rintro _ w1 ⟨rfl, hs⟩
                replace hS := hS.grow hs
                refine OJ.pures tU_ok 1 rfl ?_
                refine OJ.nil (EJ.next ?_)
                refine CJ.seq ?_
                refine CJ.seq ?_
                refine CJ.region ?_
                refine OJ.pures tU_ok 2 rfl ?_
                refine OJ.nil (EJ.next ?_)
                refine CJ.cond rfl (fun hb => ?_) (fun hb => ?_)
                · replace H := pif_t (of_decide_eq_true hb) H
                  refine CJ.seq ?_
                  refine CJ.region ?_
                  refine OJ.pures tU_ok 1 rfl ?_
                  refine OJ.nil (EJ.next ?_)
                  refine CJ.ret (EJ.skR (?_))
                  obtain rfl := Option.some.inj H
                  exact EJ.fin rfl (.tmp rfl .nil) ⟨rfl, hS.ext⟩
                · replace H := pif_f (of_decide_eq_false hb) H
                  refine CJ.skip (EJ.next ?_)
                  refine CJ.seq ?_
                  refine CJ.seq ?_
                  refine CJ.region ?_
                  refine OJ.pures tU_ok 3 rfl ?_
                  refine OJ.nil (EJ.next ?_)
                  refine CJ.cond rfl (fun hb => ?_) (fun hb => ?_)
                  · replace H := pif_t (of_decide_eq_true hb) H
                    refine CJ.seq ?_
                    refine CJ.region ?_
                    refine OJ.pures tU_ok 1 rfl ?_
                    refine OJ.nil (EJ.next ?_)
                    refine CJ.ret (EJ.skR (?_))
                    obtain rfl := Option.some.inj H
                    exact EJ.fin rfl (.tmp rfl .nil) ⟨rfl, hS.ext⟩
                  · replace H := pif_f (of_decide_eq_false hb) H
                    refine CJ.skip (EJ.next ?_)
                    refine CJ.seq ?_
                    refine CJ.region ?_
                    refine OJ.st rfl rfl rfl (SR.load rfl rfl (fun w' hx => ldN tU_ok tI_ok rfl rfl rfl (CA.ext (hS.cells (i := 0) rfl) hx) (ds := [.slice Aa0_0 a0.Names.length ca0_0, .slice Aa0_1 a0.Eats.length ca0_1, .slice Aa0_2 a0.Foes.length ca0_2]) rfl rfl)) ?_
                    obtain ⟨t49, ht49, H⟩ := pbind H
                    refine OJ.callF rfl rfl rfl rfl rfl hb16 rfl (laws_toHerd.c k _ Aa0_0 ca0_0 Aa0_1 ca0_1 Aa0_2 ca0_2 a0 (hS.rd' (i := 0) rfl) (hS.le' (i := 0) rfl) (hS.rd' (i := 1) rfl) (hS.le' (i := 1) rfl) (hS.rd' (i := 2) rfl) (hS.le' (i := 2) rfl) _ ht49) ?_
                    rintro _ w1 ⟨A50, c51, A52, c53, A54, c55, rfl, hs⟩
                    replace hS := hS.addN hs
                    have hS : St w no w1 [box b1 ([.slice Aa0_0 a0.Names.length ca0_0, .slice Aa0_1 a0.Eats.length ca0_1, .slice Aa0_2 a0.Foes.length ca0_2]) 26, rowC G.cs A11 c12 9 t10.1.Names, rowC (ci .i16) A13 c14 73 t10.1.Eats, rowC (ci .u16) A15 c16 74 t10.1.Foes, box b17 ([.slice A11 t10.1.Names.length c12, .slice A13 t10.1.Eats.length c14, .slice A15 t10.1.Foes.length c16]) 29, rowC G.cs A27 c28 9 t47.2.1, rowC (ci .i16) A29 c30 73 t47.2.2.1, rowC (ci .u16) A31 c32 74 t47.2.2.2, box b33 ([.slice A27 t47.2.1.length c28, .slice A29 t47.2.2.1.length c30, .slice A31 t47.2.2.2.length c32]) 29, rowC G.cs A50 c51 9 t49.Names, rowC (ci .i16) A52 c53 73 t49.Eats, rowC (ci .u16) A54 c55 74 t49.Foes] [roC G.cs Aa0_0 ca0_0 a0.Names, roC (ci .i16) Aa0_1 ca0_1 a0.Eats, roC (ci .u16) Aa0_2 ca0_2 a0.Foes] := hS
                    refine OJ.pures tU_ok 2 rfl ?_
                    obtain ⟨t56, ht56, H⟩ := pbind H
                    refine OJ.callF rfl rfl rfl rfl rfl hb45 rfl (impl_AddToHerd.c k _ A50 c51 A52 c53 A54 c55 t49 (hS.rd (i := 9) rfl) (hS.le (i := 9) rfl) (hS.rd (i := 10) rfl) (hS.le (i := 10) rfl) (hS.rd (i := 11) rfl) (hS.le (i := 11) rfl) a1 a2 _ ht56) ?_
                    rintro _ w1 ⟨A57, c58, A59, c60, A61, c62, rfl, hs⟩
                    replace hS := hS.addN hs
                    have hS : St w no w1 [box b1 ([.slice Aa0_0 a0.Names.length ca0_0, .slice Aa0_1 a0.Eats.length ca0_1, .slice Aa0_2 a0.Foes.length ca0_2]) 26, rowC G.cs A11 c12 9 t10.1.Names, rowC (ci .i16) A13 c14 73 t10.1.Eats, rowC (ci .u16) A15 c16 74 t10.1.Foes, box b17 ([.slice A11 t10.1.Names.length c12, .slice A13 t10.1.Eats.length c14, .slice A15 t10.1.Foes.length c16]) 29, rowC G.cs A27 c28 9 t47.2.1, rowC (ci .i16) A29 c30 73 t47.2.2.1, rowC (ci .u16) A31 c32 74 t47.2.2.2, box b33 ([.slice A27 t47.2.1.length c28, .slice A29 t47.2.2.1.length c30, .slice A31 t47.2.2.2.length c32]) 29, rowC G.cs A50 c51 9 t49.Names, rowC (ci .i16) A52 c53 73 t49.Eats, rowC (ci .u16) A54 c55 74 t49.Foes, rowC G.cs A57 c58 9 t56.1.Names, rowC (ci .i16) A59 c60 73 t56.1.Eats, rowC (ci .u16) A61 c62 74 t56.1.Foes] [roC G.cs Aa0_0 ca0_0 a0.Names, roC (ci .i16) Aa0_1 ca0_1 a0.Eats, roC (ci .u16) Aa0_2 ca0_2 a0.Foes] := hS
                    refine OJ.pures tU_ok 3 rfl ?_
                    refine OJ.ef rfl rfl rfl (Ef.alloc hS tI_ok rfl rfl ([.slice none 0 0, .slice none 0 0, .slice none 0 0]) rfl) ?_
                    rintro _ w1 ⟨b63, rfl, hS⟩
                    refine OJ.es rfl rfl (Es.store tI_ok hS (i := 15) (vs := [.slice A57 t56.1.Names.length c58, .slice A59 t56.1.Eats.length c60, .slice A61 t56.1.Foes.length c62]) rfl rfl rfl rfl rfl rfl rfl rfl (by intro u hu; simp only [List.mem_cons, List.not_mem_nil, or_false] at hu; rcases hu with rfl | rfl | rfl <;> rfl) (Nat.le_of_ble_eq_true rfl) ([.slice A57 t56.1.Names.length c58, .slice A59 t56.1.Eats.length c60, .slice A61 t56.1.Foes.length c62]) rfl) ?_
                    intro w1 hS
                    refine OJ.pures tU_ok 1 rfl ?_
                    refine OJ.nil (EJ.next ?_)
                    refine CJ.seq ?_
                    obtain ⟨j83, H, K83⟩ := pbind H
                    refine CJ.cut (fun F w1 => ∃ (y64 : Bool) , (some y64 : Option Bool) = some j83 ∧ F = [(11, .pointer (some ⟨b33, 0, none⟩)), (14, .int .i64 t47.1), (100, .bool y64)] ∧ St w no w1 [rowC G.cs A27 c28 9 t47.2.1, rowC (ci .i16) A29 c30 73 t47.2.2.1, rowC (ci .u16) A31 c32 74 t47.2.2.2, box b33 ([.slice A27 t47.2.1.length c28, .slice A29 t47.2.2.1.length c30, .slice A31 t47.2.2.2.length c32]) 29] [roC G.cs Aa0_0 ca0_0 a0.Names, roC (ci .i16) Aa0_1 ca0_1 a0.Eats, roC (ci .u16) Aa0_2 ca0_2 a0.Foes]) ?_ ?_
                    · skip
                      refine CJ.region ?_
                      refine OJ.st rfl rfl rfl (SR.load rfl rfl (fun w' hx => ldN tU_ok tI_ok rfl rfl rfl (CA.ext (hS.cells (i := 15) rfl) hx) (ds := [.slice A57 t56.1.Names.length c58, .slice A59 t56.1.Eats.length c60, .slice A61 t56.1.Foes.length c62]) rfl rfl)) ?_
                      refine OJ.st rfl rfl rfl (SR.load rfl rfl (fun w' hx => ldN tU_ok tI_ok rfl rfl rfl (CA.ext (hS.cells (i := 4) rfl) hx) (ds := [.slice A11 t10.1.Names.length c12, .slice A13 t10.1.Eats.length c14, .slice A15 t10.1.Foes.length c16]) rfl rfl)) ?_
                      obtain ⟨t65, ht65, H⟩ := pbind H
                      refine OJ.callF rfl rfl rfl rfl rfl hb18 rfl (laws_eqHerd.c k _ A57 c58 A59 c60 A61 c62 t56.1 (hS.rd (i := 12) rfl) (hS.le (i := 12) rfl) (hS.rd (i := 13) rfl) (hS.le (i := 13) rfl) (hS.rd (i := 14) rfl) (hS.le (i := 14) rfl) A11 c12 A13 c14 A15 c16 t10.1 (hS.rd (i := 1) rfl) (hS.le (i := 1) rfl) (hS.rd (i := 2) rfl) (hS.le (i := 2) rfl) (hS.rd (i := 3) rfl) (hS.le (i := 3) rfl) _ ht65) ?_
                      rintro _ w1 ⟨rfl, hs⟩
                      replace hS := hS.grow hs
                      refine OJ.pures tU_ok 2 rfl ?_
                      refine OJ.split (t := 96) rfl (fun hb => ?_) (fun hb => ?_)
                      · replace H := pif_t hb H
                        refine OJ.pures tU_ok 4 rfl ?_
                        refine OJ.nil ?_
                        exact EJ.meet (F' := [(11, .pointer (some ⟨b33, 0, none⟩)), (14, .int .i64 t47.1), (100, .bool true)]) ⟨rfl, rfl, rfl, trivial⟩ ⟨true, H, rfl, hS.pick [5, 6, 7, 8] [0, 1, 2] rfl⟩
                      · replace H := pifb_f hb H
                        refine OJ.pures tU_ok 4 rfl ?_
                        refine OJ.nil ?_
                        exact EJ.meet (F' := [(11, .pointer (some ⟨b33, 0, none⟩)), (14, .int .i64 t47.1), (100, .bool (decide (t56.2 ≠ t10.2)))]) ⟨rfl, rfl, rfl, trivial⟩ ⟨(decide (t56.2 ≠ t10.2)), H, rfl, hS.pick [5, 6, 7, 8] [0, 1, 2] rfl⟩
                    · rintro F w1 ⟨y64, he, rfl, hS⟩
                      obtain rfl := Option.some.inj he
                      have H := K83
                      refine CJ.cond rfl (fun hb => ?_) (fun hb => ?_)
                      · replace H := pif_t hb H
                        refine CJ.seq ?_
                        refine CJ.region ?_
                        refine OJ.pures tU_ok 1 rfl ?_
                        refine OJ.nil (EJ.next ?_)
                        refine CJ.ret (EJ.skR (?_))
                        obtain rfl := Option.some.inj H
                        exact EJ.fin rfl (.tmp rfl .nil) ⟨rfl, hS.ext⟩
                      · replace H := pifb_f hb H
                        refine CJ.skip (EJ.next ?_)
                        refine CJ.seq ?_
                        refine CJ.region ?_
                        refine OJ.pures tU_ok 1 rfl ?_
                        refine OJ.nil (EJ.next ?_)
                        refine CJ.seq ?_
                        refine CJ.region ?_
                        refine OJ.st rfl rfl rfl (SR.load rfl rfl (fun w' hx => ldN tU_ok tI_ok rfl rfl rfl (CA.ext (hS.cells (i := 3) rfl) hx) (ds := [.slice A27 t47.2.1.length c28, .slice A29 t47.2.2.1.length c30, .slice A31 t47.2.2.2.length c32]) rfl rfl)) ?_
                        refine OJ.pures tU_ok 1 rfl ?_
                        obtain ⟨t66, ht66, H⟩ := pbind H
                        refine OJ.callF rfl rfl rfl rfl rfl hb39 rfl (laws_heldHerd.c k _ A27 c28 A29 c30 A31 c32 (⟨t47.2.1, t47.2.2.1, t47.2.2.2⟩ : Herd) (hS.rd (i := 0) rfl) (hS.le (i := 0) rfl) (hS.rd (i := 1) rfl) (hS.le (i := 1) rfl) (hS.rd (i := 2) rfl) (hS.le (i := 2) rfl) 1 _ ht66) ?_
                        rintro _ w1 ⟨rfl, hs⟩
                        replace hS := hS.grow hs
                        refine OJ.pures tU_ok 1 rfl ?_
                        refine OJ.nil (EJ.next ?_)
                        refine CJ.seq ?_
                        refine CJ.seq ?_
                        refine CJ.region ?_
                        refine OJ.pures tU_ok 2 rfl ?_
                        refine OJ.nil (EJ.next ?_)
                        refine CJ.cond rfl (fun hb => ?_) (fun hb => ?_)
                        · replace H := pif_t (of_decide_eq_true hb) H
                          refine CJ.seq ?_
                          refine CJ.region ?_
                          refine OJ.pures tU_ok 1 rfl ?_
                          refine OJ.nil (EJ.next ?_)
                          refine CJ.ret (EJ.skR (?_))
                          obtain rfl := Option.some.inj H
                          exact EJ.fin rfl (.tmp rfl .nil) ⟨rfl, hS.ext⟩
                        · replace H := pif_f (of_decide_eq_false hb) H
                          refine CJ.skip (EJ.next ?_)
                          refine CJ.seq ?_
                          refine CJ.seq ?_
                          refine CJ.region ?_
                          refine OJ.pures tU_ok 3 rfl ?_
                          refine OJ.nil (EJ.next ?_)
                          refine CJ.cond rfl (fun hb => ?_) (fun hb => ?_)
                          · replace H := pif_t (of_decide_eq_true hb) H
                            refine CJ.seq ?_
                            refine CJ.region ?_
                            refine OJ.pures tU_ok 1 rfl ?_
                            refine OJ.nil (EJ.next ?_)
                            refine CJ.ret (EJ.skR (?_))
                            obtain rfl := Option.some.inj H
                            exact EJ.fin rfl (.tmp rfl .nil) ⟨rfl, hS.ext⟩
                          · replace H := pif_f (of_decide_eq_false hb) H
                            refine CJ.skip (EJ.next ?_)
                            refine CJ.seq ?_
                            refine CJ.region ?_
                            refine OJ.pures tU_ok 1 rfl ?_
                            refine OJ.nil (EJ.next ?_)
                            refine CJ.ret (?_)
                            obtain rfl := Option.some.inj H
                            exact EJ.fin rfl (.tmp rfl .nil) ⟨rfl, hS.ext⟩

def spec_l06Asked.l1 (a0 : Herd) (a1 : List Int) : Nat → Int → Option (Int ⊕ Unit)
  | 0, _ => none
  | k + 1, y2 => if y2 < (a1.length : Int) then ((getI a1 y2).bind fun t3 => (spec_l00In.f t3 0 (IntKind.i64.wrap ((a0.Names.length : Int) - 1))).bind fun t4 => if (!t4) = true then (some (Sum.inl 2)) else (spec_l06Asked.l1 a0 a1 k (IntKind.i64.wrap (y2 + 1)))) else (some (Sum.inr ()))
def spec_l06Asked.f (k : Nat) (a0 : Herd) (a1 : List Int) : Option Int := (spec_l06Ok.f k a0).bind fun t1 => if (!t1) = true then (some 1) else ((spec_l06Asked.l1 a0 a1 k 0).bind fun s84 => match s84 with | .inl r => some r | .inr _ => some 0)
theorem spec_l06Asked.c (k : Nat) (w : World) (Aa0_0 : Option Addr) (ca0_0 : Nat) (Aa0_1 : Option Addr) (ca0_1 : Nat) (Aa0_2 : Option Addr) (ca0_2 : Nat) (a0 : Herd) (hr0_0 : Rd G.cs w Aa0_0 a0.Names) (hc0_0 : a0.Names.length ≤ ca0_0) (hr0_1 : Rd (ci .i16) w Aa0_1 a0.Eats) (hc0_1 : a0.Eats.length ≤ ca0_1) (hr0_2 : Rd (ci .u16) w Aa0_2 a0.Foes) (hc0_2 : a0.Foes.length ≤ ca0_2) (pa0 : Addr) (hp0 : CA w pa0 ([.slice Aa0_0 a0.Names.length ca0_0, .slice Aa0_1 a0.Eats.length ca0_1, .slice Aa0_2 a0.Foes.length ca0_2])) (Aa1 : Option Addr) (ca1 : Nat) (a1 : List Int) (hr1 : Rd (ci .i64) w Aa1 a1) (hc1 : a1.length ≤ ca1) (r : Int) (H : spec_l06Asked.f k a0 a1 = some r) :
    CV Tryd.prog 62 [.pointer (some pa0), .slice Aa1 a1.length ca1].toArray w fun v w' => v = .int .i64 r ∧ Ext w w' := by
  have hS := ((((((St.init w no).param G.cs Aa0_0 ca0_0 a0.Names hr0_0 hc0_0).param (ci .i16) Aa0_1 ca0_1 a0.Eats hr0_1 hc0_1).param (ci .u16) Aa0_2 ca0_2 a0.Foes hr0_2 hc0_2).paramP pa0 ([.slice Aa0_0 a0.Names.length ca0_0, .slice Aa0_1 a0.Eats.length ca0_1, .slice Aa0_2 a0.Foes.length ca0_2]) hp0).param (ci .i64) Aa1 ca1 a1 hr1 hc1)
  unfold spec_l06Asked.f at H
  refine CV.body Tryd.func62 rfl Tryd.ntmps62 rfl ?_
  refine CJ.seq ?_
  refine CJ.region ?_
  refine OJ.pures tU_ok 1 rfl ?_
  refine OJ.nil (EJ.next ?_)
  refine CJ.seq ?_
  refine CJ.seq ?_
  refine CJ.region ?_
  refine OJ.pures tU_ok 1 rfl ?_
  obtain ⟨t1, ht1, H⟩ := pbind H
  refine OJ.callF rfl rfl rfl rfl rfl hb51 rfl (spec_l06Ok.c k _ Aa0_0 ca0_0 Aa0_1 ca0_1 Aa0_2 ca0_2 a0 (hS.rd' (i := 0) rfl) (hS.le' (i := 0) rfl) (hS.rd' (i := 1) rfl) (hS.le' (i := 1) rfl) (hS.rd' (i := 2) rfl) (hS.le' (i := 2) rfl) pa0 (hS.ca (i := 3) rfl) _ ht1) ?_
  rintro _ w1 ⟨rfl, hs⟩
  replace hS := hS.grow hs
  refine OJ.pures tU_ok 1 rfl ?_
  refine OJ.nil (EJ.next ?_)
  refine CJ.cond rfl (fun hb => ?_) (fun hb => ?_)
  · replace H := pif_t hb H
    refine CJ.seq ?_
    refine CJ.region ?_
    refine OJ.pures tU_ok 1 rfl ?_
    refine OJ.nil (EJ.next ?_)
    refine CJ.ret (EJ.skR (?_))
    obtain rfl := Option.some.inj H
    exact EJ.fin rfl (.tmp rfl .nil) ⟨rfl, hS.ext⟩
  · replace H := pifb_f hb H
    refine CJ.skip (EJ.next ?_)
    refine CJ.seq ?_
    refine CJ.seq ?_
    refine CJ.region ?_
    refine OJ.pures tU_ok 1 rfl ?_
    refine OJ.nil (EJ.next ?_)
    obtain ⟨j84, H, K84⟩ := pbind H
    refine CJ.cut1 (fun F w1 => (some (Sum.inr ()) : Option (Int ⊕ Unit)) = some j84 ∧ F = [] ∧ St w no w1 [] [roC G.cs Aa0_0 ca0_0 a0.Names, roC (ci .i16) Aa0_1 ca0_1 a0.Eats, roC (ci .u16) Aa0_2 ca0_2 a0.Foes, roP pa0 ([.slice Aa0_0 a0.Names.length ca0_0, .slice Aa0_1 a0.Eats.length ca0_1, .slice Aa0_2 a0.Foes.length ca0_2]), roC (ci .i64) Aa1 ca1 a1]) ?_ ?_
    · skip
      refine CJ.block ?_
      refine CJ.loop (fun k F w1 => ∃ (y2 : Int), F = [(0, .pointer (some pa0)), (1, .slice Aa1 a1.length ca1), (5, .int .i64 y2)] ∧ St w no w1 [] [roC G.cs Aa0_0 ca0_0 a0.Names, roC (ci .i16) Aa0_1 ca0_1 a0.Eats, roC (ci .u16) Aa0_2 ca0_2 a0.Foes, roP pa0 ([.slice Aa0_0 a0.Names.length ca0_0, .slice Aa0_1 a0.Eats.length ca0_1, .slice Aa0_2 a0.Foes.length ca0_2]), roC (ci .i64) Aa1 ca1 a1] ∧ spec_l06Asked.l1 a0 a1 k y2 = some j84) k (F' := [(0, .pointer (some pa0)), (1, .slice Aa1 a1.length ca1), (5, .int .i64 0)]) ⟨rfl, rfl, rfl, trivial⟩ ⟨0, rfl, hS.pick [] [0, 1, 2, 3, 4] rfl, H⟩ ?_
      rintro k F w1 ⟨y2, rfl, hS, H⟩
      cases k with
      | zero => rw [spec_l06Asked.l1] at H; cases H
      | succ k =>
        rw [spec_l06Asked.l1] at H
        refine CJ.seq ?_
        refine CJ.seq ?_
        refine CJ.region ?_
        refine OJ.pures tU_ok 4 rfl ?_
        refine OJ.nil (EJ.next ?_)
        refine CJ.cond rfl (fun hb => ?_) (fun hb => ?_)
        · replace H := pif_t (of_decide_eq_true hb) H
          refine CJ.skip (EJ.next ?_)
          refine CJ.seq ?_
          refine CJ.block ?_
          refine CJ.seq ?_
          refine CJ.draw [] [0, 1, 2, 3, 4, 5, 6, 7, 8, 9, 10, 11] mixed (by kernel_rfl) hS fun w1 hS => ?_
          refine DJ.pures tU_ok 2 rfl ?_
          obtain ⟨t3, ht3, H⟩ := pbind H
          obtain ⟨ad3, e3⟩ := (hS.rd' (i := 4) rfl).some' ht3
          refine DJ.st rfl rfl rfl rfl rfl (SR.idxS tU_ok tI_ok rfl rfl rfl rfl e3 rfl (getI_some ht3).1) ?_
          refine DJ.st rfl rfl rfl rfl rfl (SR.load rfl rfl (fun w' hx => ld1 tU_ok rfl rfl (CA.ext ((hS.rd' (i := 4) rfl).at_ e3 ht3) hx) rfl)) ?_
          refine DJ.pures tU_ok 2 rfl ?_
          refine DJ.st rfl rfl rfl rfl rfl (SR.fieldAddr tU_ok tI_ok rfl rfl rfl rfl rfl rfl) ?_
          refine DJ.st rfl rfl rfl rfl rfl (SR.load rfl rfl (fun w' hx => ld1 tU_ok rfl rfl (CA.ext (CA.sub (hS.ca (i := 3) rfl) 0) hx) rfl)) ?_
          refine DJ.pures tU_ok 2 rfl ?_
          obtain ⟨t4, ht4, H⟩ := pbind H
          refine DJ.callF rfl rfl rfl rfl rfl rfl rfl hb87 rfl (spec_l00In.c _ t3 0 (IntKind.i64.wrap ((a0.Names.length : Int) - 1)) _ ht4) (by rintro v w' ⟨rfl, hs⟩; exact hs) ?_
          rintro _ w1 ⟨rfl, hs⟩
          replace hS := hS.grow hs
          refine DJ.pures tU_ok 1 rfl ?_
          refine DJ.nil (EJ.next ?_)
          refine CJ.cond rfl (fun hb => ?_) (fun hb => ?_)
          · replace H := pif_t hb H
            refine CJ.seq ?_
            refine CJ.region ?_
            refine OJ.pures tU_ok 1 rfl ?_
            refine OJ.nil (EJ.next ?_)
            refine CJ.ret (EJ.bkR (EJ.skR (EJ.skR (EJ.bkR (EJ.skR (EJ.skR (?_)))))))
            first | (obtain rfl := Option.some.inj H; have H := K84) | (obtain ⟨q84, H2, e84⟩ := pbind H; obtain rfl := Option.some.inj e84; obtain rfl := Option.some.inj K84; have H := H2)
            obtain rfl := Option.some.inj H
            exact EJ.fin rfl (.tmp rfl .nil) ⟨rfl, hS.ext⟩
          · replace H := pifb_f hb H
            refine CJ.skip (EJ.blk (EJ.next ?_))
            refine CJ.region ?_
            refine OJ.pures tU_ok 3 rfl ?_
            refine OJ.nil ?_
            exact EJ.round k (F' := [(0, .pointer (some pa0)), (1, .slice Aa1 a1.length ca1), (5, .int .i64 (IntKind.i64.wrap (y2 + 1)))]) ⟨rfl, rfl, rfl, trivial⟩ (Nat.lt_succ_self _) ⟨(IntKind.i64.wrap (y2 + 1)), rfl, hS.pick [] [0, 1, 2, 3, 4] rfl, H⟩
        · replace H := pif_f (of_decide_eq_false hb) H
          refine CJ.exit (EJ.skE (EJ.skE (EJ.hit (?_))))
          exact EJ.meet (F' := []) trivial ⟨H, rfl, hS.pick [] [0, 1, 2, 3, 4] rfl⟩
    · rintro F w1 ⟨he, rfl, hS⟩
      obtain rfl := Option.some.inj he
      have H := K84
      refine EJ.next ?_
      refine CJ.seq ?_
      refine CJ.region ?_
      refine OJ.pures tU_ok 1 rfl ?_
      refine OJ.nil (EJ.next ?_)
      refine CJ.ret (?_)
      obtain rfl := Option.some.inj H
      exact EJ.fin rfl (.tmp rfl .nil) ⟨rfl, hS.ext⟩

def impl_listed.l1 (a0 : Int) : Nat → (List Int) → Int → Option (List Int)
  | 0, _, _ => none
  | k + 1, y5, y8 => if y8 < 16 then ((chk (0 ≤ y8)).bind fun u9 => if (andI .u16 (shrI .u16 a0 y8) 1) = 1 then ((chk (y5.length + ([y8] : List Int).length ≤ 4294967296)).bind fun u11 => impl_listed.l1 a0 k (y5 ++ ([y8] : List Int)) (IntKind.i64.wrap (y8 + 1))) else (impl_listed.l1 a0 k y5 (IntKind.i64.wrap (y8 + 1)))) else (some y5)
def impl_listed.f (k : Nat) (a0 : Int) : Option (List Int) := (impl_listed.l1 a0 k ([] : List Int) 0).bind fun y2 => some y2
theorem impl_listed.c (k : Nat) (w : World) (a0 : Int) (r : List Int) (H : impl_listed.f k a0 = some r) :
    CV Tryd.prog 70 [.int .u16 a0].toArray w fun v w' => ∃ (A0 : Option Addr) (c0 : Nat), v = .slice A0 r.length c0 ∧ St w no w' [rowC (ci .i64) A0 c0 2 r] [] := by
  have hS := (St.init w no)
  unfold impl_listed.f at H
  refine CV.body Tryd.func70 rfl Tryd.ntmps70 rfl ?_
  refine CJ.seq ?_
  refine CJ.region ?_
  refine OJ.pures tU_ok 1 rfl ?_
  refine OJ.nil (EJ.next ?_)
  refine CJ.seq ?_
  refine CJ.region ?_
  refine OJ.ef rfl rfl rfl (Ef.lit tU_ok tI_ok hS (C := (ci .i64)) rfl rfl rfl rfl rfl rfl ([] : List Int) rfl rfl rfl rfl) ?_
  rintro _ w1 ⟨A1, rfl, hS⟩
  refine OJ.pures tU_ok 1 rfl ?_
  refine OJ.nil (EJ.next ?_)
  refine CJ.seq ?_
  refine CJ.seq ?_
  refine CJ.region ?_
  refine OJ.pures tU_ok 1 rfl ?_
  refine OJ.nil (EJ.next ?_)
  obtain ⟨j85, H, K85⟩ := pbind H
  refine CJ.cut1 (fun F w1 => ∃ (y2 : List Int) (A3 : Option Addr) (c4 : Nat), (some y2 : Option (List Int)) = some j85 ∧ F = [(3, .slice A3 y2.length c4)] ∧ St w no w1 [rowC (ci .i64) A3 c4 2 y2] []) ?_ ?_
  · skip
    refine CJ.block ?_
    refine CJ.loop (fun k F w1 => ∃ (y5 : List Int) (y8 : Int) (A6 : Option Addr) (c7 : Nat), F = [(0, .int .u16 a0), (3, .slice A6 y5.length c7), (6, .int .i64 y8)] ∧ St w no w1 [rowC (ci .i64) A6 c7 2 y5] [] ∧ impl_listed.l1 a0 k y5 y8 = some j85) k (F' := [(0, .int .u16 a0), (3, .slice A1 ([] : List Int).length (([] : List Int).length)), (6, .int .i64 0)]) ⟨rfl, rfl, rfl, trivial⟩ ⟨([] : List Int), 0, A1, (([] : List Int).length), rfl, hS.pick [0] [] rfl, H⟩ ?_
    rintro k F w1 ⟨y5, y8, A6, c7, rfl, hS, H⟩
    cases k with
    | zero => rw [impl_listed.l1] at H; cases H
    | succ k =>
      rw [impl_listed.l1] at H
      refine CJ.seq ?_
      refine CJ.region ?_
      refine OJ.pures tU_ok 1 rfl ?_
      refine OJ.nil (EJ.next ?_)
      refine CJ.seq ?_
      refine CJ.cond rfl (fun hb => ?_) (fun hb => ?_)
      · replace H := pif_t (of_decide_eq_true hb) H
        refine CJ.skip (EJ.next ?_)
        refine CJ.seq ?_
        refine CJ.block ?_
        refine CJ.seq ?_
        refine CJ.region ?_
        refine OJ.pures tU_ok 2 rfl ?_
        refine OJ.nil (EJ.next ?_)
        refine CJ.seq ?_
        refine CJ.region ?_
        refine OJ.pures tU_ok 2 rfl ?_
        obtain ⟨u9, hu9, H⟩ := pbind H
        refine OJ.st rfl rfl rfl (SR.shr rfl rfl rfl (chk_some hu9)) ?_
        refine OJ.pures tU_ok 2 rfl ?_
        refine OJ.nil (EJ.next ?_)
        refine CJ.cond rfl (fun hb => ?_) (fun hb => ?_)
        · replace H := pif_t (of_decide_eq_true hb) H
          refine CJ.region ?_
          refine OJ.pures tU_ok 2 rfl ?_
          refine OJ.ef rfl rfl rfl (Ef.lit tU_ok tI_ok hS (C := (ci .i64)) rfl rfl rfl rfl rfl rfl ([y8] : List Int) rfl rfl rfl rfl) ?_
          rintro _ w1 ⟨A10, rfl, hS⟩
          obtain ⟨u11, hu11, H⟩ := pbind H
          refine OJ.ew rfl rfl rfl (Ew.append tU_ok tI_ok (C := (ci .i64)) (xs := y5) (ys := ([y8] : List Int)) hS (i := 0) rfl rfl rfl rfl rfl rfl rfl rfl rfl rfl rfl rfl rfl (hS.rd (i := 1) rfl) (chk_some hu11)) ?_
          rintro _ w1 ⟨A12, c13, rfl, hS⟩
          refine OJ.pures tU_ok 1 rfl ?_
          refine OJ.nil (EJ.blk (EJ.next ?_))
          refine CJ.region ?_
          refine OJ.pures tU_ok 2 rfl ?_
          refine OJ.nil ?_
          exact EJ.round k (F' := [(0, .int .u16 a0), (3, .slice A12 (y5 ++ ([y8] : List Int)).length c13), (6, .int .i64 (IntKind.i64.wrap (y8 + 1)))]) ⟨rfl, rfl, rfl, trivial⟩ (Nat.lt_succ_self _) ⟨(y5 ++ ([y8] : List Int)), (IntKind.i64.wrap (y8 + 1)), A12, c13, rfl, hS.pick [0] [] rfl, H⟩
        · replace H := pif_f (of_decide_eq_false hb) H
          refine CJ.skip (EJ.blk (EJ.next ?_))
          refine CJ.region ?_
          refine OJ.pures tU_ok 2 rfl ?_
          refine OJ.nil ?_
          exact EJ.round k (F' := [(0, .int .u16 a0), (3, .slice A6 y5.length c7), (6, .int .i64 (IntKind.i64.wrap (y8 + 1)))]) ⟨rfl, rfl, rfl, trivial⟩ (Nat.lt_succ_self _) ⟨y5, (IntKind.i64.wrap (y8 + 1)), A6, c7, rfl, hS.pick [0] [] rfl, H⟩
      · replace H := pif_f (of_decide_eq_false hb) H
        refine CJ.exit (EJ.skE (EJ.skE (EJ.hit (?_))))
        exact EJ.meet (F' := [(3, .slice A6 y5.length c7)]) ⟨rfl, trivial⟩ ⟨y5, A6, c7, H, rfl, hS.pick [0] [] rfl⟩
  · rintro F w1 ⟨y2, A3, c4, he, rfl, hS⟩
    obtain rfl := Option.some.inj he
    have H := K85
    refine EJ.next ?_
    refine CJ.seq ?_
    refine CJ.region ?_
    refine OJ.pures tU_ok 2 rfl ?_
    refine OJ.nil (EJ.next ?_)
    refine CJ.ret (?_)
    obtain rfl := Option.some.inj H
    exact EJ.fin rfl (.tmp rfl .nil) ⟨A3, c4, rfl, hS.pick [0] [] rfl⟩

def laws_toInt64S.l1 (a0 : List Int) : Nat → (List Int) → Int → Option (List Int)
  | 0, _, _ => none
  | k + 1, y4, y5 => if y5 < (a0.length : Int) then ((getI a0 y5).bind fun t6 => (getI y4 y5).bind fun t7 => laws_toInt64S.l1 a0 k (y4.set y5.toNat t6) (IntKind.i64.wrap (y5 + 1))) else (some y4)
def laws_toInt64S.f (k : Nat) (a0 : List Int) : Option (List Int) := (chk (0 ≤ (a0.length : Int) ∧ (a0.length : Int) ≤ 4294967296)).bind fun u1 => (laws_toInt64S.l1 a0 k (List.replicate ((a0.length : Int).toNat) 0) 0).bind fun y3 => some y3
theorem laws_toInt64S.c (k : Nat) (w : World) (Aa0 : Option Addr) (ca0 : Nat) (a0 : List Int) (hr0 : Rd (ci .i64) w Aa0 a0) (hc0 : a0.length ≤ ca0) (r : List Int) (H : laws_toInt64S.f k a0 = some r) :
    CV Tryd.prog 22 [.slice Aa0 a0.length ca0].toArray w fun v w' => ∃ (A0 : Option Addr) (c0 : Nat), v = .slice A0 r.length c0 ∧ St w no w' [rowC (ci .i64) A0 c0 2 r] [] := by
  have hS := ((St.init w no).param (ci .i64) Aa0 ca0 a0 hr0 hc0)
  unfold laws_toInt64S.f at H
  refine CV.body Tryd.func22 rfl Tryd.ntmps22 rfl ?_
  refine CJ.seq ?_
  refine CJ.region ?_
  refine OJ.pures tU_ok 1 rfl ?_
  refine OJ.nil (EJ.next ?_)
  refine CJ.seq ?_
  refine CJ.region ?_
  refine OJ.pures tU_ok 2 rfl ?_
  obtain ⟨u1, hu1, H⟩ := pbind H
  refine OJ.ef rfl rfl rfl (Ef.make tU_ok tI_ok hS (C := (ci .i64)) rfl rfl rfl rfl rfl rfl rfl rfl (chk_some hu1) 0 rfl) ?_
  rintro _ w1 ⟨A2, rfl, hS⟩
  refine OJ.pures tU_ok 1 rfl ?_
  refine OJ.nil (EJ.next ?_)
  refine CJ.seq ?_
  refine CJ.seq ?_
  refine CJ.region ?_
  refine OJ.pures tU_ok 1 rfl ?_
  refine OJ.nil (EJ.next ?_)
  obtain ⟨j86, H, K86⟩ := pbind H
  refine CJ.cut1 (fun F w1 => ∃ (y3 : List Int) , (some y3 : Option (List Int)) = some j86 ∧ F = [(3, .slice A2 y3.length ((a0.length : Int).toNat))] ∧ St w no w1 [rowC (ci .i64) A2 ((a0.length : Int).toNat) 2 y3] [roC (ci .i64) Aa0 ca0 a0]) ?_ ?_
  · skip
    refine CJ.block ?_
    refine CJ.loop (fun k F w1 => ∃ (y4 : List Int) (y5 : Int), F = [(0, .slice Aa0 a0.length ca0), (3, .slice A2 y4.length ((a0.length : Int).toNat)), (4, .int .i64 y5)] ∧ St w no w1 [rowC (ci .i64) A2 ((a0.length : Int).toNat) 2 y4] [roC (ci .i64) Aa0 ca0 a0] ∧ laws_toInt64S.l1 a0 k y4 y5 = some j86) k (F' := [(0, .slice Aa0 a0.length ca0), (3, .slice A2 (List.replicate ((a0.length : Int).toNat) 0).length ((a0.length : Int).toNat)), (4, .int .i64 0)]) ⟨rfl, rfl, rfl, trivial⟩ ⟨(List.replicate ((a0.length : Int).toNat) 0), 0, rfl, hS.pick [0] [0] rfl, H⟩ ?_
    rintro k F w1 ⟨y4, y5, rfl, hS, H⟩
    cases k with
    | zero => rw [laws_toInt64S.l1] at H; cases H
    | succ k =>
      rw [laws_toInt64S.l1] at H
      refine CJ.seq ?_
      refine CJ.seq ?_
      refine CJ.region ?_
      refine OJ.pures tU_ok 4 rfl ?_
      refine OJ.nil (EJ.next ?_)
      refine CJ.cond rfl (fun hb => ?_) (fun hb => ?_)
      · replace H := pif_t (of_decide_eq_true hb) H
        refine CJ.skip (EJ.next ?_)
        refine CJ.seq ?_
        refine CJ.block ?_
        refine CJ.region ?_
        refine OJ.pures tU_ok 4 rfl ?_
        obtain ⟨t6, ht6, H⟩ := pbind H
        obtain ⟨ad6, e6⟩ := (hS.rd' (i := 0) rfl).some' ht6
        refine OJ.st rfl rfl rfl (SR.idxS tU_ok tI_ok rfl rfl rfl rfl e6 rfl (getI_some ht6).1) ?_
        refine OJ.st rfl rfl rfl (SR.load rfl rfl (fun w' hx => ld1 tU_ok rfl rfl (CA.ext ((hS.rd' (i := 0) rfl).at_ e6 ht6) hx) rfl)) ?_
        obtain ⟨t7, ht7, H⟩ := pbind H
        obtain ⟨ad7, e7⟩ := (hS.rd (i := 0) rfl).some' ht7
        refine OJ.st rfl rfl rfl (SR.idxS tU_ok tI_ok rfl rfl rfl rfl e7 rfl (getI_some ht7).1) ?_
        refine OJ.es rfl rfl (Es.storeR tI_ok hS (i := 0) (off := 0) rfl rfl ht7 e7 rfl rfl rfl rfl (vs := (ci .i64).enc t6) rfl rfl (one1 rfl) (Nat.le_of_ble_eq_true rfl) t6 rfl) ?_
        intro w1 hS
        refine OJ.as (t := 3) rfl (show _ = (.slice A2 (y4.set y5.toNat t6).length ((a0.length : Int).toNat) : Value) by simp only [List.length_set]) ?_
        refine OJ.as (t := 14) rfl (show _ = (.slice A2 (y4.set y5.toNat t6).length ((a0.length : Int).toNat) : Value) by simp only [List.length_set]) ?_
        refine OJ.nil (EJ.blk (EJ.next ?_))
        refine CJ.region ?_
        refine OJ.pures tU_ok 3 rfl ?_
        refine OJ.nil ?_
        exact EJ.round k (F' := [(0, .slice Aa0 a0.length ca0), (3, .slice A2 (y4.set y5.toNat t6).length ((a0.length : Int).toNat)), (4, .int .i64 (IntKind.i64.wrap (y5 + 1)))]) ⟨rfl, rfl, rfl, trivial⟩ (Nat.lt_succ_self _) ⟨(y4.set y5.toNat t6), (IntKind.i64.wrap (y5 + 1)), rfl, hS.pick [0] [0] rfl, H⟩
      · replace H := pif_f (of_decide_eq_false hb) H
        refine CJ.exit (EJ.skE (EJ.skE (EJ.hit (?_))))
        exact EJ.meet (F' := [(3, .slice A2 y4.length ((a0.length : Int).toNat))]) ⟨rfl, trivial⟩ ⟨y4, H, rfl, hS.pick [0] [0] rfl⟩
  · rintro F w1 ⟨y3, he, rfl, hS⟩
    obtain rfl := Option.some.inj he
    have H := K86
    refine EJ.next ?_
    refine CJ.seq ?_
    refine CJ.region ?_
    refine OJ.pures tU_ok 2 rfl ?_
    refine OJ.nil (EJ.next ?_)
    refine CJ.ret (?_)
    obtain rfl := Option.some.inj H
    exact EJ.fin rfl (.tmp rfl .nil) ⟨A2, ((a0.length : Int).toNat), rfl, hS.pick [0] [] rfl⟩

def laws_eqInt64S.l1 (a0 : List Int) (a1 : List Int) : Nat → Int → Option (Bool ⊕ Unit)
  | 0, _ => none
  | k + 1, y1 => if y1 < (a0.length : Int) then ((getI a0 y1).bind fun t2 => (getI a1 y1).bind fun t3 => if t2 ≠ t3 then (some (Sum.inl false)) else (laws_eqInt64S.l1 a0 a1 k (IntKind.i64.wrap (y1 + 1)))) else (some (Sum.inr ()))
def laws_eqInt64S.f (k : Nat) (a0 : List Int) (a1 : List Int) : Option Bool := if (a0.length : Int) ≠ (a1.length : Int) then (some false) else ((laws_eqInt64S.l1 a0 a1 k 0).bind fun s87 => match s87 with | .inl r => some r | .inr _ => some true)
theorem laws_eqInt64S.c (k : Nat) (w : World) (Aa0 : Option Addr) (ca0 : Nat) (a0 : List Int) (hr0 : Rd (ci .i64) w Aa0 a0) (hc0 : a0.length ≤ ca0) (Aa1 : Option Addr) (ca1 : Nat) (a1 : List Int) (hr1 : Rd (ci .i64) w Aa1 a1) (hc1 : a1.length ≤ ca1) (r : Bool) (H : laws_eqInt64S.f k a0 a1 = some r) :
    CV Tryd.prog 24 [.slice Aa0 a0.length ca0, .slice Aa1 a1.length ca1].toArray w fun v w' => v = .bool r ∧ Ext w w' := by
  have hS := (((St.init w no).param (ci .i64) Aa0 ca0 a0 hr0 hc0).param (ci .i64) Aa1 ca1 a1 hr1 hc1)
  unfold laws_eqInt64S.f at H
  refine CV.body Tryd.func24 rfl Tryd.ntmps24 rfl ?_
  refine CJ.seq ?_
  refine CJ.region ?_
  refine OJ.pures tU_ok 1 rfl ?_
  refine OJ.nil (EJ.next ?_)
  refine CJ.seq ?_
  refine CJ.seq ?_
  refine CJ.region ?_
  refine OJ.pures tU_ok 5 rfl ?_
  refine OJ.nil (EJ.next ?_)
  refine CJ.cond rfl (fun hb => ?_) (fun hb => ?_)
  · replace H := pif_t (of_decide_eq_true hb) H
    refine CJ.seq ?_
    refine CJ.region ?_
    refine OJ.pures tU_ok 1 rfl ?_
    refine OJ.nil (EJ.next ?_)
    refine CJ.ret (EJ.skR (?_))
    obtain rfl := Option.some.inj H
    exact EJ.fin rfl (.tmp rfl .nil) ⟨rfl, hS.ext⟩
  · replace H := pif_f (of_decide_eq_false hb) H
    refine CJ.skip (EJ.next ?_)
    refine CJ.seq ?_
    refine CJ.seq ?_
    refine CJ.region ?_
    refine OJ.pures tU_ok 1 rfl ?_
    refine OJ.nil (EJ.next ?_)
    obtain ⟨j87, H, K87⟩ := pbind H
    refine CJ.cut1 (fun F w1 => (some (Sum.inr ()) : Option (Bool ⊕ Unit)) = some j87 ∧ F = [] ∧ St w no w1 [] [roC (ci .i64) Aa0 ca0 a0, roC (ci .i64) Aa1 ca1 a1]) ?_ ?_
    · skip
      refine CJ.block ?_
      refine CJ.loop (fun k F w1 => ∃ (y1 : Int), F = [(0, .slice Aa0 a0.length ca0), (1, .slice Aa1 a1.length ca1), (5, .int .i64 y1)] ∧ St w no w1 [] [roC (ci .i64) Aa0 ca0 a0, roC (ci .i64) Aa1 ca1 a1] ∧ laws_eqInt64S.l1 a0 a1 k y1 = some j87) k (F' := [(0, .slice Aa0 a0.length ca0), (1, .slice Aa1 a1.length ca1), (5, .int .i64 0)]) ⟨rfl, rfl, rfl, trivial⟩ ⟨0, rfl, hS.pick [] [0, 1] rfl, H⟩ ?_
      rintro k F w1 ⟨y1, rfl, hS, H⟩
      cases k with
      | zero => rw [laws_eqInt64S.l1] at H; cases H
      | succ k =>
        rw [laws_eqInt64S.l1] at H
        refine CJ.seq ?_
        refine CJ.seq ?_
        refine CJ.region ?_
        refine OJ.pures tU_ok 4 rfl ?_
        refine OJ.nil (EJ.next ?_)
        refine CJ.cond rfl (fun hb => ?_) (fun hb => ?_)
        · replace H := pif_t (of_decide_eq_true hb) H
          refine CJ.skip (EJ.next ?_)
          refine CJ.seq ?_
          refine CJ.block ?_
          refine CJ.seq ?_
          refine CJ.draw [] [0, 1, 2, 3, 4, 5, 6, 7, 8] mixed (by kernel_rfl) hS fun w1 hS => ?_
          refine DJ.pures tU_ok 2 rfl ?_
          obtain ⟨t2, ht2, H⟩ := pbind H
          obtain ⟨ad2, e2⟩ := (hS.rd' (i := 0) rfl).some' ht2
          refine DJ.st rfl rfl rfl rfl rfl (SR.idxS tU_ok tI_ok rfl rfl rfl rfl e2 rfl (getI_some ht2).1) ?_
          refine DJ.st rfl rfl rfl rfl rfl (SR.load rfl rfl (fun w' hx => ld1 tU_ok rfl rfl (CA.ext ((hS.rd' (i := 0) rfl).at_ e2 ht2) hx) rfl)) ?_
          refine DJ.pures tU_ok 2 rfl ?_
          obtain ⟨t3, ht3, H⟩ := pbind H
          obtain ⟨ad3, e3⟩ := (hS.rd' (i := 1) rfl).some' ht3
          refine DJ.st rfl rfl rfl rfl rfl (SR.idxS tU_ok tI_ok rfl rfl rfl rfl e3 rfl (getI_some ht3).1) ?_
          refine DJ.st rfl rfl rfl rfl rfl (SR.load rfl rfl (fun w' hx => ld1 tU_ok rfl rfl (CA.ext ((hS.rd' (i := 1) rfl).at_ e3 ht3) hx) rfl)) ?_
          refine DJ.pures tU_ok 1 rfl ?_
          refine DJ.nil (EJ.next ?_)
          refine CJ.cond rfl (fun hb => ?_) (fun hb => ?_)
          · replace H := pif_t (of_decide_eq_true hb) H
            refine CJ.seq ?_
            refine CJ.region ?_
            refine OJ.pures tU_ok 1 rfl ?_
            refine OJ.nil (EJ.next ?_)
            refine CJ.ret (EJ.bkR (EJ.skR (EJ.skR (EJ.bkR (EJ.skR (EJ.skR (?_)))))))
            first | (obtain rfl := Option.some.inj H; have H := K87) | (obtain ⟨q87, H2, e87⟩ := pbind H; obtain rfl := Option.some.inj e87; obtain rfl := Option.some.inj K87; have H := H2)
            obtain rfl := Option.some.inj H
            exact EJ.fin rfl (.tmp rfl .nil) ⟨rfl, hS.ext⟩
          · replace H := pif_f (of_decide_eq_false hb) H
            refine CJ.skip (EJ.blk (EJ.next ?_))
            refine CJ.region ?_
            refine OJ.pures tU_ok 3 rfl ?_
            refine OJ.nil ?_
            exact EJ.round k (F' := [(0, .slice Aa0 a0.length ca0), (1, .slice Aa1 a1.length ca1), (5, .int .i64 (IntKind.i64.wrap (y1 + 1)))]) ⟨rfl, rfl, rfl, trivial⟩ (Nat.lt_succ_self _) ⟨(IntKind.i64.wrap (y1 + 1)), rfl, hS.pick [] [0, 1] rfl, H⟩
        · replace H := pif_f (of_decide_eq_false hb) H
          refine CJ.exit (EJ.skE (EJ.skE (EJ.hit (?_))))
          exact EJ.meet (F' := []) trivial ⟨H, rfl, hS.pick [] [0, 1] rfl⟩
    · rintro F w1 ⟨he, rfl, hS⟩
      obtain rfl := Option.some.inj he
      have H := K87
      refine EJ.next ?_
      refine CJ.seq ?_
      refine CJ.region ?_
      refine OJ.pures tU_ok 1 rfl ?_
      refine OJ.nil (EJ.next ?_)
      refine CJ.ret (?_)
      obtain rfl := Option.some.inj H
      exact EJ.fin rfl (.tmp rfl .nil) ⟨rfl, hS.ext⟩

def laws_markInt64S.l1 (a0 : List Int) : Nat → (List Int) → Int → Int → Option ((List Int) × Int)
  | 0, _, _, _ => none
  | k + 1, y3, y4, y5 => if y5 < (a0.length : Int) then ((getI y3 y5).bind fun t6 => laws_markInt64S.l1 a0 k (y3.set y5.toNat y4) (IntKind.i64.wrap (y4 + 1)) (IntKind.i64.wrap (y5 + 1))) else (some (y3, y4))
def laws_markInt64S.f (k : Nat) (a0 : List Int) (a1 : Int) : Option (Int × List Int) := (laws_markInt64S.l1 a0 k a0 a1 0).bind fun (y1, y2) => some (y2, y1)
theorem laws_markInt64S.c (k : Nat) (w : World) (Aa0 : Option Addr) (ca0 : Nat) (a0 : List Int) (a1 : Int) (hin : St w (fpU [rowC (ci .i64) Aa0 ca0 2 a0]) w [rowC (ci .i64) Aa0 ca0 2 a0] []) (r : Int × List Int) (H : laws_markInt64S.f k a0 a1 = some r) :
    CV Tryd.prog 30 [.slice Aa0 a0.length ca0, .int .i64 a1].toArray w fun v w' => v = .int .i64 r.1 ∧ St w (fpU [rowC (ci .i64) Aa0 ca0 2 a0]) w' [rowC (ci .i64) Aa0 ca0 2 r.2] [] ∧ r.2.length = a0.length := by
  have hS := hin
  unfold laws_markInt64S.f at H
  refine CV.body Tryd.func30 rfl Tryd.ntmps30 rfl ?_
  have hl0 : a0.length = a0.length := rfl
  refine CJ.seq ?_
  refine CJ.region ?_
  refine OJ.pures tU_ok 1 rfl ?_
  refine OJ.nil (EJ.next ?_)
  refine CJ.seq ?_
  refine CJ.seq ?_
  refine CJ.region ?_
  refine OJ.pures tU_ok 1 rfl ?_
  refine OJ.nil (EJ.next ?_)
  obtain ⟨j89, H, K89⟩ := pbind H
  refine CJ.cut1 (fun F w1 => ∃ (y1 : List Int) (y2 : Int) , (some (y1, y2) : Option ((List Int) × Int)) = some j89 ∧ F = [(1, .int .i64 y2)] ∧ St w (fpU [rowC (ci .i64) Aa0 ca0 2 a0]) w1 [rowC (ci .i64) Aa0 ca0 2 y1] [] ∧ y1.length = a0.length) ?_ ?_
  · skip
    refine CJ.block ?_
    refine CJ.loop (fun k F w1 => ∃ (y3 : List Int) (y4 : Int) (y5 : Int), F = [(0, .slice Aa0 a0.length ca0), (1, .int .i64 y4), (5, .int .i64 y5)] ∧ St w (fpU [rowC (ci .i64) Aa0 ca0 2 a0]) w1 [rowC (ci .i64) Aa0 ca0 2 y3] [] ∧ y3.length = a0.length ∧ laws_markInt64S.l1 a0 k y3 y4 y5 = some j89) k (F' := [(0, .slice Aa0 a0.length ca0), (1, .int .i64 a1), (5, .int .i64 0)]) ⟨rfl, rfl, rfl, trivial⟩ ⟨a0, a1, 0, rfl, hS.pick [0] [] rfl, (by first | exact hl0 | (simp only [List.length_set]; exact hl0) | (simp only [List.length_set]; done)), H⟩ ?_
    rintro k F w1 ⟨y3, y4, y5, rfl, hS, hl0, H⟩
    cases k with
    | zero => rw [laws_markInt64S.l1] at H; cases H
    | succ k =>
      rw [laws_markInt64S.l1] at H
      refine CJ.seq ?_
      refine CJ.seq ?_
      refine CJ.region ?_
      refine OJ.pures tU_ok 4 rfl ?_
      refine OJ.nil (EJ.next ?_)
      refine CJ.cond rfl (fun hb => ?_) (fun hb => ?_)
      · replace H := pif_t (of_decide_eq_true hb) H
        refine CJ.skip (EJ.next ?_)
        refine CJ.seq ?_
        refine CJ.block ?_
        refine CJ.seq ?_
        refine CJ.region ?_
        refine OJ.pures tU_ok 3 rfl ?_
        obtain ⟨t6, ht6, H⟩ := pbind H
        obtain ⟨ad6, e6⟩ := (hS.rd (i := 0) rfl).some' ht6
        refine OJ.st rfl rfl rfl (SR.idxS tU_ok tI_ok rfl rfl rfl rfl e6 rfl (by have hg := (getI_some ht6).1; (first | rw [hl0] at hg | (simp only [List.length_set] at hg; rw [hl0] at hg)); exact hg)) ?_
        refine OJ.es rfl rfl (Es.storeR tI_ok hS (i := 0) (off := 0) rfl rfl ht6 e6 rfl rfl rfl rfl (vs := (ci .i64).enc y4) rfl rfl (one1 rfl) (Nat.le_of_ble_eq_true rfl) y4 rfl) ?_
        intro w1 hS
        refine OJ.nil (EJ.next ?_)
        refine CJ.region ?_
        refine OJ.pures tU_ok 3 rfl ?_
        refine OJ.nil (EJ.blk (EJ.next ?_))
        refine CJ.region ?_
        refine OJ.pures tU_ok 3 rfl ?_
        refine OJ.nil ?_
        exact EJ.round k (F' := [(0, .slice Aa0 a0.length ca0), (1, .int .i64 (IntKind.i64.wrap (y4 + 1))), (5, .int .i64 (IntKind.i64.wrap (y5 + 1)))]) ⟨rfl, rfl, rfl, trivial⟩ (Nat.lt_succ_self _) ⟨(y3.set y5.toNat y4), (IntKind.i64.wrap (y4 + 1)), (IntKind.i64.wrap (y5 + 1)), rfl, hS.pick [0] [] rfl, (by first | exact hl0 | (simp only [List.length_set]; exact hl0) | (simp only [List.length_set]; done)), H⟩
      · replace H := pif_f (of_decide_eq_false hb) H
        refine CJ.exit (EJ.skE (EJ.skE (EJ.hit (?_))))
        exact EJ.meet (F' := [(1, .int .i64 y4)]) ⟨rfl, trivial⟩ ⟨y3, y4, H, rfl, hS.pick [0] [] rfl, (by first | exact hl0 | (simp only [List.length_set]; exact hl0) | (simp only [List.length_set]; done))⟩
  · rintro F w1 ⟨y1, y2, he, rfl, hS, hl0⟩
    obtain rfl := Option.some.inj he
    have H := K89
    refine EJ.next ?_
    refine CJ.seq ?_
    refine CJ.region ?_
    refine OJ.pures tU_ok 2 rfl ?_
    refine OJ.nil (EJ.next ?_)
    refine CJ.ret (?_)
    obtain rfl := Option.some.inj H
    exact EJ.fin rfl (.tmp rfl .nil) ⟨rfl, hS.pick [0] [] rfl, (by first | exact hl0 | (simp only [List.length_set]; exact hl0) | (simp only [List.length_set]; done))⟩

def laws_heldInt64S.l1 (a0 : List Int) : Nat → Int → Int → Option (Int ⊕ Int)
  | 0, _, _ => none
  | k + 1, y2, y3 => if y3 < (a0.length : Int) then ((getI a0 y3).bind fun t4 => if t4 ≠ y2 then (some (Sum.inl (-1))) else (laws_heldInt64S.l1 a0 k (IntKind.i64.wrap (y2 + 1)) (IntKind.i64.wrap (y3 + 1)))) else (some (Sum.inr y2))
def laws_heldInt64S.f (k : Nat) (a0 : List Int) (a1 : Int) : Option Int := (laws_heldInt64S.l1 a0 k a1 0).bind fun s90 => match s90 with | .inl r => some r | .inr y1 => some y1
theorem laws_heldInt64S.c (k : Nat) (w : World) (Aa0 : Option Addr) (ca0 : Nat) (a0 : List Int) (hr0 : Rd (ci .i64) w Aa0 a0) (hc0 : a0.length ≤ ca0) (a1 : Int) (r : Int) (H : laws_heldInt64S.f k a0 a1 = some r) :
    CV Tryd.prog 31 [.slice Aa0 a0.length ca0, .int .i64 a1].toArray w fun v w' => v = .int .i64 r ∧ Ext w w' := by
  have hS := ((St.init w no).param (ci .i64) Aa0 ca0 a0 hr0 hc0)
  unfold laws_heldInt64S.f at H
  refine CV.body Tryd.func31 rfl Tryd.ntmps31 rfl ?_
  refine CJ.seq ?_
  refine CJ.region ?_
  refine OJ.pures tU_ok 1 rfl ?_
  refine OJ.nil (EJ.next ?_)
  refine CJ.seq ?_
  refine CJ.seq ?_
  refine CJ.region ?_
  refine OJ.pures tU_ok 1 rfl ?_
  refine OJ.nil (EJ.next ?_)
  obtain ⟨j90, H, K90⟩ := pbind H
  refine CJ.cut1 (fun F w1 => ∃ (y1 : Int) , (some (Sum.inr y1) : Option (Int ⊕ Int)) = some j90 ∧ F = [(1, .int .i64 y1)] ∧ St w no w1 [] [roC (ci .i64) Aa0 ca0 a0]) ?_ ?_
  · skip
    refine CJ.block ?_
    refine CJ.loop (fun k F w1 => ∃ (y2 : Int) (y3 : Int), F = [(0, .slice Aa0 a0.length ca0), (1, .int .i64 y2), (5, .int .i64 y3)] ∧ St w no w1 [] [roC (ci .i64) Aa0 ca0 a0] ∧ laws_heldInt64S.l1 a0 k y2 y3 = some j90) k (F' := [(0, .slice Aa0 a0.length ca0), (1, .int .i64 a1), (5, .int .i64 0)]) ⟨rfl, rfl, rfl, trivial⟩ ⟨a1, 0, rfl, hS.pick [] [0] rfl, H⟩ ?_
    rintro k F w1 ⟨y2, y3, rfl, hS, H⟩
    cases k with
    | zero => rw [laws_heldInt64S.l1] at H; cases H
    | succ k =>
      rw [laws_heldInt64S.l1] at H
      refine CJ.seq ?_
      refine CJ.seq ?_
      refine CJ.region ?_
      refine OJ.pures tU_ok 4 rfl ?_
      refine OJ.nil (EJ.next ?_)
      refine CJ.cond rfl (fun hb => ?_) (fun hb => ?_)
      · replace H := pif_t (of_decide_eq_true hb) H
        refine CJ.skip (EJ.next ?_)
        refine CJ.seq ?_
        refine CJ.block ?_
        refine CJ.seq ?_
        refine CJ.seq ?_
        refine CJ.region ?_
        refine OJ.pures tU_ok 2 rfl ?_
        obtain ⟨t4, ht4, H⟩ := pbind H
        obtain ⟨ad4, e4⟩ := (hS.rd' (i := 0) rfl).some' ht4
        refine OJ.st rfl rfl rfl (SR.idxS tU_ok tI_ok rfl rfl rfl rfl e4 rfl (getI_some ht4).1) ?_
        refine OJ.st rfl rfl rfl (SR.load rfl rfl (fun w' hx => ld1 tU_ok rfl rfl (CA.ext ((hS.rd' (i := 0) rfl).at_ e4 ht4) hx) rfl)) ?_
        refine OJ.pures tU_ok 2 rfl ?_
        refine OJ.nil (EJ.next ?_)
        refine CJ.cond rfl (fun hb => ?_) (fun hb => ?_)
        · replace H := pif_t (of_decide_eq_true hb) H
          refine CJ.seq ?_
          refine CJ.region ?_
          refine OJ.pures tU_ok 1 rfl ?_
          refine OJ.nil (EJ.next ?_)
          refine CJ.ret (EJ.skR (EJ.bkR (EJ.skR (EJ.skR (EJ.bkR (EJ.skR (EJ.skR (?_))))))))
          first | (obtain rfl := Option.some.inj H; have H := K90) | (obtain ⟨q90, H2, e90⟩ := pbind H; obtain rfl := Option.some.inj e90; obtain rfl := Option.some.inj K90; have H := H2)
          obtain rfl := Option.some.inj H
          exact EJ.fin rfl (.tmp rfl .nil) ⟨rfl, hS.ext⟩
        · replace H := pif_f (of_decide_eq_false hb) H
          refine CJ.skip (EJ.next ?_)
          refine CJ.region ?_
          refine OJ.pures tU_ok 3 rfl ?_
          refine OJ.nil (EJ.blk (EJ.next ?_))
          refine CJ.region ?_
          refine OJ.pures tU_ok 3 rfl ?_
          refine OJ.nil ?_
          exact EJ.round k (F' := [(0, .slice Aa0 a0.length ca0), (1, .int .i64 (IntKind.i64.wrap (y2 + 1))), (5, .int .i64 (IntKind.i64.wrap (y3 + 1)))]) ⟨rfl, rfl, rfl, trivial⟩ (Nat.lt_succ_self _) ⟨(IntKind.i64.wrap (y2 + 1)), (IntKind.i64.wrap (y3 + 1)), rfl, hS.pick [] [0] rfl, H⟩
      · replace H := pif_f (of_decide_eq_false hb) H
        refine CJ.exit (EJ.skE (EJ.skE (EJ.hit (?_))))
        exact EJ.meet (F' := [(1, .int .i64 y2)]) ⟨rfl, trivial⟩ ⟨y2, H, rfl, hS.pick [] [0] rfl⟩
  · rintro F w1 ⟨y1, he, rfl, hS⟩
    obtain rfl := Option.some.inj he
    have H := K90
    refine EJ.next ?_
    refine CJ.seq ?_
    refine CJ.region ?_
    refine OJ.pures tU_ok 2 rfl ?_
    refine OJ.nil (EJ.next ?_)
    refine CJ.ret (?_)
    obtain rfl := Option.some.inj H
    exact EJ.fin rfl (.tmp rfl .nil) ⟨rfl, hS.ext⟩
end Go.Proofs.YtimpcenflahchaaDoor
