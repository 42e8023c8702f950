/-
  What the functions come to.
-/
import Derived.Test.YtplfdbfdalaefaaGreatDoorGP0
namespace Go.Proofs.YtplfdbfdalaefaaGreatDoor
open G
set_option linter.unusedVariables false
set_option linter.unusedSimpArgs false
set_option maxRecDepth 100000
set_option maxHeartbeats 4000000
def impl_ReadHerd.l1 (k : Nat) : List ByteArray → (List (List ByteArray)) → (List ByteArray) → (List Int) → (List Int) → Option ((Herd × Int) ⊕ ((List (List ByteArray)) × (List ByteArray) × (List Int) × (List Int)))
  | [], y8, y12, y15, y18 => some (Sum.inr (y8, y12, y15, y18))
  | line :: rest, y8, y12, y15, y18 => (strings_TrimSuffix.f line (⟨#[10]⟩ : ByteArray)).bind fun t21 => (strings_Split.f t21 (⟨#[32]⟩ : ByteArray)).bind fun t22 => (if (t22.length : Int) < 2 then (some true) else (some (decide ((y8.length : Int) = 14)))).bind fun y25 => if y25 = true then (some (Sum.inl ((⟨[], [], []⟩ : Herd), 5))) else ((getI t22 1).bind fun t26 => (impl_number.f t26 100).bind fun t27 => if (!t27.2) = true then (some (Sum.inl ((⟨[], [], []⟩ : Herd), 5))) else ((getI t22 0).bind fun t28 => (chk (y12.length + ([t28] : List ByteArray).length ≤ 4294967296)).bind fun u30 => (chk (y15.length + ([IntKind.i16.wrap t27.1] : List Int).length ≤ 4294967296)).bind fun u34 => (chk (y18.length + ([0] : List Int).length ≤ 4294967296)).bind fun u38 => (chk ((0 : Int) ≤ 2 ∧ 2 ≤ (t22.length : Int) ∧ (t22.length : Int) ≤ (t22.length : Int))).bind fun u149 => (chk (y8.length + [t22.drop 2].length ≤ 4294967296)).bind fun u151 => impl_ReadHerd.l1 k rest (y8 ++ [t22.drop 2]) (y12 ++ ([t28] : List ByteArray)) (y15 ++ ([IntKind.i16.wrap t27.1] : List Int)) (y18 ++ ([0] : List Int))))
def impl_ReadHerd.l3 (y12 : List ByteArray) (y156 : Int) (t158 : List ByteArray) : Nat → (List Int) → Int → Option ((((Herd × Int) ⊕ (List Int)) ⊕ (List Int)) ⊕ (List Int))
  | 0, _, _ => none
  | k + 1, y160, y161 => if y161 < (t158.length : Int) then ((getI t158 y161).bind fun t162 => (slices_Index_string_string.f k y12 t162).bind fun t163 => if t163 < 0 then (some (Sum.inl (Sum.inl (Sum.inl ((⟨[], [], []⟩ : Herd), 5))))) else ((getI y160 y156).bind fun t164 => (chk (0 ≤ t163)).bind fun u165 => (getI y160 y156).bind fun t166 => impl_ReadHerd.l3 y12 y156 t158 k (y160.set y156.toNat (orI .u16 t164 (shlI .u16 1 t163))) (IntKind.i64.wrap (y161 + 1)))) else (some (Sum.inr y160))
def impl_ReadHerd.l2 (y8 : List (List ByteArray)) (y12 : List ByteArray) : Nat → (List Int) → Int → Option ((Herd × Int) ⊕ (List Int))
  | 0, _, _ => none
  | k + 1, y155, y156 => if y156 < (y8.length : Int) then (((getI y8 y156).bind fun t158 => (impl_ReadHerd.l3 y12 y156 t158 k y155 0).bind fun s120 => match s120 with | .inl r => some r | .inr y159 => some (Sum.inr y159)).bind fun s118 => match s118 with | .inl r => some r | .inr y157 => impl_ReadHerd.l2 y8 y12 k y157 (IntKind.i64.wrap (y156 + 1))) else (some (Sum.inr y155))
def impl_ReadHerd.f (k : Nat) (a0 : ByteArray) : Option (Herd × Int) := (chk (a0.size ≤ 4294967296)).bind fun u7 => (impl_ReadHerd.l1 k (linesB a0) ([] : List (List ByteArray)) ([] : List ByteArray) ([] : List Int) ([] : List Int)).bind fun s105 => match s105 with | .inl r => some r | .inr (y8, y12, y15, y18) => (impl_ReadHerd.l2 y8 y12 k y18 0).bind fun s110 => match s110 with | .inl r => some r | .inr y154 => (impl_HerdText.f k (⟨y12, y15, y154⟩ : Herd)).bind fun t167 => if t167 ≠ a0 then (some ((⟨[], [], []⟩ : Herd), 5)) else (some ((⟨y12, y15, y154⟩ : Herd), 0))
theorem impl_ReadHerd.c (k : Nat) (w : World) (a0 : ByteArray) (hT : (envC Tryz.prog 0).holds w) (r : Herd × Int) (H : impl_ReadHerd.f k a0 = some r) :
    CV Tryz.prog 7 [.string a0].toArray w fun v w' => ∃ (A0_0 : Option Addr) (c0_0 : Nat) (A0_1 : Option Addr) (c0_1 : Nat) (A0_2 : Option Addr) (c0_2 : Nat), v = .tuple #[.agg [.slice A0_0 r.1.Names.length c0_0, .slice A0_1 r.1.Eats.length c0_1, .slice A0_2 r.1.Foes.length c0_2].toArray, .int .i64 r.2] ∧ St w no w' [rowC G.cs A0_0 c0_0 9 r.1.Names, rowC (ci .i16) A0_1 c0_1 49 r.1.Eats, rowC (ci .u16) A0_2 c0_2 55 r.1.Foes] [] := by
  have hS := ((St.init w no).paramT (envC Tryz.prog 0) hT)
  unfold impl_ReadHerd.f at H
  refine CV.bodyM Tryz.func7 rfl Tryz.ntmps7 rfl ?_
  refine CJ.seq ?_
  refine CJ.region ?_
  refine OJ.ef rfl rfl rfl (Ef.alloc hS tI_ok rfl rfl ([.slice none 0 0, .slice none 0 0, .slice none 0 0]) rfl) ?_
  rintro _ w1 ⟨b1, rfl, hS⟩
  refine OJ.ef rfl rfl rfl (Ef.alloc hS tI_ok rfl rfl ((ci .i64).enc 0) rfl) ?_
  rintro _ w1 ⟨b2, rfl, hS⟩
  refine OJ.nil (EJ.next ?_)
  refine CJ.seq ?_
  refine CJ.region ?_
  refine OJ.st rfl rfl rfl (SR.build' tU_ok tI_ok rfl rfl rfl (zs := [.slice none 0 0, .slice none 0 0, .slice none 0 0]) rfl rfl rfl ([.slice none 0 0, .slice none 0 0, .slice none 0 0]) rfl) ?_
  refine OJ.ef rfl rfl rfl (Ef.litT0 (e := 9) (lo := 2) tU_ok tI_ok hS rfl rfl rfl rfl G.cs) ?_
  rintro _ w1 ⟨A3, rfl, hS⟩
  refine OJ.ef rfl rfl rfl (Ef.alloc hS tI_ok rfl rfl ([.slice none 0 0, .slice none 0 0, .slice none 0 0]) rfl) ?_
  rintro _ w1 ⟨b4, rfl, hS⟩
  refine OJ.ef rfl rfl rfl (Ef.alloc hS tI_ok rfl rfl ([.slice none 0 0]) rfl) ?_
  rintro _ w1 ⟨b5, rfl, hS⟩
  refine OJ.es rfl rfl (Es.store tI_ok hS (i := 3) (vs := [.slice none 0 0, .slice none 0 0, .slice none 0 0]) rfl rfl rfl rfl rfl rfl rfl rfl (by intro u hu; simp only [List.mem_cons, List.not_mem_nil, or_false] at hu; rcases hu with rfl | rfl | rfl <;> rfl) (Nat.le_of_ble_eq_true rfl) ([.slice none 0 0, .slice none 0 0, .slice none 0 0]) rfl) ?_
  intro w1 hS
  refine OJ.es rfl rfl (Es.store tI_ok hS (i := 4) (vs := [.slice A3 ([] : List (List ByteArray)).length (([] : List (List ByteArray)).length)]) rfl rfl rfl rfl rfl rfl rfl rfl (one1 rfl) (Nat.le_of_ble_eq_true rfl) ([.slice A3 ([] : List (List ByteArray)).length (([] : List (List ByteArray)).length)]) rfl) ?_
  intro w1 hS
  refine OJ.nil (EJ.next ?_)
  refine CJ.seq ?_
  refine CJ.seq ?_
  refine CJ.region ?_
  refine OJ.pures tU_ok 1 rfl ?_
  refine OJ.callF rfl rfl rfl rfl rfl hb37 rfl (strings_Lines.c _ a0) ?_
  rintro _ w1 ⟨b6, rfl, hs⟩
  replace hS := hS.addN hs
  refine OJ.nil (EJ.next ?_)
  obtain ⟨u7, hu7, H⟩ := pbind H
  refine CJ.block ?_
  replace hS := hS.addNil G.cs 9 none
  replace hS := hS.addNil (ci .i16) 49 none
  replace hS := hS.addNil (ci .u16) 55 none
  obtain ⟨j105, hj105, K105⟩ := pbind H
  refine CJ.lines (bI := b6) (d := 6) (σ := (List (List ByteArray)) × (List ByteArray) × (List Int) × (List Int) × (Option Addr) × Nat × (List (TH ByteArray)) × (Option Addr) × Nat × (Option Addr) × Nat × (Option Addr) × Nat) (τ := Unit) (ls := linesB) (text := a0) (fun (y8, y12, y15, y18, A9, c10, D11, A13, c14, A16, c17, A19, c20) => [box b1 ([.slice none 0 0, .slice none 0 0, .slice none 0 0]) 28, box b2 ((ci .i64).enc 0) 2, tlsC G.cs 2 A9 c10 24 9 D11 y8, box b4 ([.slice A13 y12.length c14, .slice A16 y15.length c17, .slice A19 y18.length c20]) 28, box b5 ([.slice A9 y8.length c10]) 76, rowC G.cs A13 c14 9 y12, rowC (ci .i16) A16 c17 49 y15, rowC (ci .u16) A19 c20 55 y18]) (fun _ => [box b1 ([.slice none 0 0, .slice none 0 0, .slice none 0 0]) 28, box b2 ((ci .i64).enc 5) 2]) (fun rest (y8, y12, y15, y18, A9, c10, D11, A13, c14, A16, c17, A19, c20) => impl_ReadHerd.l1 k rest y8 y12 y15 y18 = some j105) (fun _ => j105 = Sum.inl ((⟨[], [], []⟩ : Herd), 5)) (([] : List (List ByteArray)), ([] : List ByteArray), ([] : List Int), ([] : List Int), A3, ([] : List (List ByteArray)).length, [], none, 0, none, 0, none, 0) rfl hb98 lines_it (by have := chk_some hu7; omega) (hS.pick [0, 1, 2, 3, 4, 6, 7, 8, 5] [0] rfl) hj105 rfl ?_ ?_ ?_ ?_
  · intro r v Q W h
    exact CJ.region (OJ.pures tU_ok 1 rfl (OJ.nil h))
  · rintro r D rec line rest ⟨y8, y12, y15, y18, A9, c10, D11, A13, c14, A16, c17, A19, c20⟩ w1 str RP H next stop hS
    replace H : impl_ReadHerd.l1 k (line :: rest) y8 y12 y15 y18 = some j105 := H
    replace hS : St w no w1 [box b1 ([.slice none 0 0, .slice none 0 0, .slice none 0 0]) 28, box b2 ((ci .i64).enc 0) 2, tlsC G.cs 2 A9 c10 24 9 D11 y8, box b4 ([.slice A13 y12.length c14, .slice A16 y15.length c17, .slice A19 y18.length c20]) 28, box b5 ([.slice A9 y8.length c10]) 76, rowC G.cs A13 c14 9 y12, rowC (ci .i16) A16 c17 49 y15, rowC (ci .u16) A19 c20 55 y18, box b6 [.string str] 9, dfr D, rcd r rec] [envC Tryz.prog 0] := hS
    rw [impl_ReadHerd.l1] at H
    refine CJ.block ?_
    refine CJ.seq ?_
    refine CJ.region ?_
    refine OJ.pures tU_ok 1 rfl ?_
    obtain ⟨t21, ht21, H⟩ := pbind H
    refine OJ.callF rfl rfl rfl rfl rfl hb39 rfl (strings_TrimSuffix.c _ line (⟨#[10]⟩ : ByteArray) _ ht21) ?_
    rintro _ w1 ⟨rfl, hs⟩
    replace hS := hS.grow hs
    obtain ⟨t22, ht22, H⟩ := pbind H
    refine OJ.callF rfl rfl rfl rfl rfl hb38 rfl (strings_Split.c _ t21 (⟨#[32]⟩ : ByteArray) (hS.ro (i := 0) rfl) _ ht22) ?_
    rintro _ w1 ⟨A23, c24, rfl, hs⟩
    replace hS := hS.addN hs
    have hS : St w no w1 [box b1 ([.slice none 0 0, .slice none 0 0, .slice none 0 0]) 28, box b2 ((ci .i64).enc 0) 2, tlsC G.cs 2 A9 c10 24 9 D11 y8, box b4 ([.slice A13 y12.length c14, .slice A16 y15.length c17, .slice A19 y18.length c20]) 28, box b5 ([.slice A9 y8.length c10]) 76, rowC G.cs A13 c14 9 y12, rowC (ci .i16) A16 c17 49 y15, rowC (ci .u16) A19 c20 55 y18, box b6 [.string str] 9, dfr D, rcd r rec, rowC G.cs A23 c24 9 t22] [envC Tryz.prog 0] := hS
    refine OJ.pures tU_ok 1 rfl ?_
    refine OJ.nil (EJ.next ?_)
    refine CJ.seq ?_
    obtain ⟨j109, H, K109⟩ := pbind H
    refine CJ.cut (fun F w1 => ∃ (y25 : Bool) , (some y25 : Option Bool) = some j109 ∧ F = [(0, .string a0), (2, .pointer (some ⟨b1, 0, none⟩)), (3, .pointer (some ⟨b2, 0, none⟩)), (4, .pointer (some ⟨b4, 0, none⟩)), (5, .pointer (some ⟨b5, 0, none⟩)), (6, .string line), (7, .slice A23 t22.length c24), (30, .bool y25)] ∧ St w no w1 [box b1 ([.slice none 0 0, .slice none 0 0, .slice none 0 0]) 28, box b2 ((ci .i64).enc 0) 2, tlsC G.cs 2 A9 c10 24 9 D11 y8, box b4 ([.slice A13 y12.length c14, .slice A16 y15.length c17, .slice A19 y18.length c20]) 28, box b5 ([.slice A9 y8.length c10]) 76, rowC G.cs A13 c14 9 y12, rowC (ci .i16) A16 c17 49 y15, rowC (ci .u16) A19 c20 55 y18, box b6 [.string str] 9, dfr D, rcd r rec, rowC G.cs A23 c24 9 t22] [envC Tryz.prog 0]) ?_ ?_
    · skip
      refine CJ.region ?_
      refine OJ.pures tU_ok 4 rfl ?_
      refine OJ.split (t := 26) rfl (fun hb => ?_) (fun hb => ?_)
      · replace H := pif_t (of_decide_eq_true hb) H
        refine OJ.pures tU_ok 4 rfl ?_
        refine OJ.nil ?_
        exact EJ.meet (F' := [(0, .string a0), (2, .pointer (some ⟨b1, 0, none⟩)), (3, .pointer (some ⟨b2, 0, none⟩)), (4, .pointer (some ⟨b4, 0, none⟩)), (5, .pointer (some ⟨b5, 0, none⟩)), (6, .string line), (7, .slice A23 t22.length c24), (30, .bool true)]) ⟨rfl, rfl, rfl, rfl, rfl, rfl, rfl, rfl, trivial⟩ ⟨true, H, rfl, hS.pick [0, 1, 2, 3, 4, 5, 6, 7, 8, 9, 10, 11] [0] rfl⟩
      · replace H := pif_f (of_decide_eq_false hb) H
        refine OJ.st rfl rfl rfl (SR.load rfl rfl (fun w' hx => ld1 tU_ok rfl rfl (CA.ext (hS.cells (i := 4) rfl) hx) rfl)) ?_
        refine OJ.pures tU_ok 3 rfl ?_
        refine OJ.nil ?_
        exact EJ.meet (F' := [(0, .string a0), (2, .pointer (some ⟨b1, 0, none⟩)), (3, .pointer (some ⟨b2, 0, none⟩)), (4, .pointer (some ⟨b4, 0, none⟩)), (5, .pointer (some ⟨b5, 0, none⟩)), (6, .string line), (7, .slice A23 t22.length c24), (30, .bool (decide ((y8.length : Int) = 14)))]) ⟨rfl, rfl, rfl, rfl, rfl, rfl, rfl, rfl, trivial⟩ ⟨(decide ((y8.length : Int) = 14)), H, rfl, hS.pick [0, 1, 2, 3, 4, 5, 6, 7, 8, 9, 10, 11] [0] rfl⟩
    · rintro F w1 ⟨y25, he, rfl, hS⟩
      obtain rfl := Option.some.inj he
      have H := K109
      refine CJ.cond rfl (fun hb => ?_) (fun hb => ?_)
      · replace H := pif_t hb H
        refine CJ.seq ?_
        refine CJ.region ?_
        refine OJ.st rfl rfl rfl (SR.build' tU_ok tI_ok rfl rfl rfl (zs := [.slice none 0 0, .slice none 0 0, .slice none 0 0]) rfl rfl rfl ([.slice none 0 0, .slice none 0 0, .slice none 0 0]) rfl) ?_
        refine OJ.es rfl rfl (Es.store tI_ok hS (i := 0) (vs := [.slice none 0 0, .slice none 0 0, .slice none 0 0]) rfl rfl rfl rfl rfl rfl rfl rfl (by intro u hu; simp only [List.mem_cons, List.not_mem_nil, or_false] at hu; rcases hu with rfl | rfl | rfl <;> rfl) (Nat.le_of_ble_eq_true rfl) ([.slice none 0 0, .slice none 0 0, .slice none 0 0]) rfl) ?_
        intro w1 hS
        refine OJ.es rfl rfl (Es.store tI_ok hS (i := 1) rfl rfl rfl rfl rfl rfl (vs := (ci .i64).enc 5) rfl rfl (one1 rfl) (Nat.le_of_ble_eq_true rfl) ((ci .i64).enc 5) rfl) ?_
        intro w1 hS
        refine OJ.nil (EJ.next ?_)
        refine CJ.ret (EJ.skR (EJ.bkR (?_)))
        exact stop () _ _ (Option.some.inj H).symm (hS.pick [0, 1, 8, 9, 10] [0] rfl)
      · replace H := pifb_f hb H
        refine CJ.skip (EJ.next ?_)
        refine CJ.seq ?_
        refine CJ.region ?_
        refine OJ.pures tU_ok 1 rfl ?_
        obtain ⟨t26, ht26, H⟩ := pbind H
        obtain ⟨ad26, e26⟩ := (hS.rd (i := 11) rfl).some' ht26
        refine OJ.st rfl rfl rfl (SR.idxS tU_ok tI_ok rfl rfl rfl rfl e26 rfl (getI_some ht26).1) ?_
        refine OJ.st rfl rfl rfl (SR.load rfl rfl (fun w' hx => ld1 tU_ok rfl rfl (CA.ext ((hS.rd (i := 11) rfl).at_ e26 ht26) hx) rfl)) ?_
        obtain ⟨t27, ht27, H⟩ := pbind H
        refine OJ.callF rfl rfl rfl rfl rfl hb40 rfl (impl_number.c _ t26 100 (hS.ro (i := 0) rfl) _ ht27) ?_
        rintro _ w1 ⟨rfl, hs⟩
        replace hS := hS.grow hs
        refine OJ.pures tU_ok 5 rfl ?_
        refine OJ.nil (EJ.next ?_)
        refine CJ.seq ?_
        refine CJ.seq ?_
        refine CJ.region ?_
        refine OJ.pures tU_ok 2 rfl ?_
        refine OJ.nil (EJ.next ?_)
        refine CJ.cond rfl (fun hb => ?_) (fun hb => ?_)
        · replace H := pif_t hb H
          refine CJ.seq ?_
          refine CJ.region ?_
          refine OJ.st rfl rfl rfl (SR.build' tU_ok tI_ok rfl rfl rfl (zs := [.slice none 0 0, .slice none 0 0, .slice none 0 0]) rfl rfl rfl ([.slice none 0 0, .slice none 0 0, .slice none 0 0]) rfl) ?_
          refine OJ.es rfl rfl (Es.store tI_ok hS (i := 0) (vs := [.slice none 0 0, .slice none 0 0, .slice none 0 0]) rfl rfl rfl rfl rfl rfl rfl rfl (by intro u hu; simp only [List.mem_cons, List.not_mem_nil, or_false] at hu; rcases hu with rfl | rfl | rfl <;> rfl) (Nat.le_of_ble_eq_true rfl) ([.slice none 0 0, .slice none 0 0, .slice none 0 0]) rfl) ?_
          intro w1 hS
          refine OJ.es rfl rfl (Es.store tI_ok hS (i := 1) rfl rfl rfl rfl rfl rfl (vs := (ci .i64).enc 5) rfl rfl (one1 rfl) (Nat.le_of_ble_eq_true rfl) ((ci .i64).enc 5) rfl) ?_
          intro w1 hS
          refine OJ.nil (EJ.next ?_)
          refine CJ.ret (EJ.skR (EJ.bkR (?_)))
          exact stop () _ _ (Option.some.inj H).symm (hS.pick [0, 1, 8, 9, 10] [0] rfl)
        · replace H := pifb_f hb H
          refine CJ.skip (EJ.next ?_)
          refine CJ.seq ?_
          obtain ⟨t28, ht28, H⟩ := pbind H
          obtain ⟨u30, hu30, H⟩ := pbind H
          obtain ⟨u34, hu34, H⟩ := pbind H
          obtain ⟨u38, hu38, H⟩ := pbind H
          refine CJ.cut1 (fun F w1 => ∃ (A29 : Option Addr) (A31 : Option Addr) (c32 : Nat) (A33 : Option Addr) (A35 : Option Addr) (c36 : Nat) (A37 : Option Addr) (A39 : Option Addr) (c40 : Nat), F = [(0, .string a0), (2, .pointer (some ⟨b1, 0, none⟩)), (3, .pointer (some ⟨b2, 0, none⟩)), (4, .pointer (some ⟨b4, 0, none⟩)), (5, .pointer (some ⟨b5, 0, none⟩)), (6, .string line), (7, .slice A23 t22.length c24)] ∧ St w no w1 [box b1 ([.slice none 0 0, .slice none 0 0, .slice none 0 0]) 28, box b2 ((ci .i64).enc 0) 2, tlsC G.cs 2 A9 c10 24 9 D11 y8, box b4 ([.slice A31 (y12 ++ ([t28] : List ByteArray)).length c32, .slice A35 (y15 ++ ([IntKind.i16.wrap t27.1] : List Int)).length c36, .slice A39 (y18 ++ ([0] : List Int)).length c40]) 28, box b5 ([.slice A9 y8.length c10]) 76, rowC G.cs A31 c32 9 (y12 ++ ([t28] : List ByteArray)), rowC (ci .i16) A35 c36 49 (y15 ++ ([IntKind.i16.wrap t27.1] : List Int)), rowC (ci .u16) A39 c40 55 (y18 ++ ([0] : List Int)), box b6 [.string str] 9, dfr D, rcd r rec, rowC G.cs A23 c24 9 t22, rowC G.cs A29 (([t28] : List ByteArray).length) 9 ([t28] : List ByteArray), rowC (ci .i16) A33 (([IntKind.i16.wrap t27.1] : List Int).length) 49 ([IntKind.i16.wrap t27.1] : List Int), rowC (ci .u16) A37 (([0] : List Int).length) 55 ([0] : List Int)] [envC Tryz.prog 0]) ?_ ?_
          · skip
            refine CJ.drawT [18, 20, 22] [5, 6, 11, 12, 15, 16] (.one 0 (.one 1 (.one 2 (.one 3 (.one 4 (.one 7 (.one 8 (.one 9 (.one 10 (.one 13 (.one 14 (.br (.alt 5 (.br (.alt 6 (.one 17 (.br (.alt 11 (.br (.alt 12 (.one 15 (.one 16 (.one 18 (.one 19 (.one 20 (.one 21 (.one 22 (.fin)))))))) (.alt 15 (.one 12 (.one 16 (.one 18 (.one 19 (.one 20 (.one 21 (.one 22 (.fin)))))))) (.stop)))) (.alt 15 (.one 11 (.one 12 (.one 16 (.one 18 (.one 19 (.one 20 (.one 21 (.one 22 (.fin))))))))) (.stop))))) (.alt 11 (.br (.alt 6 (.one 17 (.br (.alt 12 (.one 15 (.one 16 (.one 18 (.one 19 (.one 20 (.one 21 (.one 22 (.fin)))))))) (.alt 15 (.one 12 (.one 16 (.one 18 (.one 19 (.one 20 (.one 21 (.one 22 (.fin)))))))) (.stop))))) (.alt 15 (.one 6 (.one 17 (.one 12 (.one 16 (.one 18 (.one 19 (.one 20 (.one 21 (.one 22 (.fin)))))))))) (.stop)))) (.alt 15 (.br (.alt 6 (.one 17 (.one 11 (.one 12 (.one 16 (.one 18 (.one 19 (.one 20 (.one 21 (.one 22 (.fin)))))))))) (.alt 11 (.one 6 (.one 17 (.one 12 (.one 16 (.one 18 (.one 19 (.one 20 (.one 21 (.one 22 (.fin)))))))))) (.stop)))) (.stop))))) (.alt 11 (.br (.alt 5 (.br (.alt 6 (.one 17 (.br (.alt 12 (.one 15 (.one 16 (.one 18 (.one 19 (.one 20 (.one 21 (.one 22 (.fin)))))))) (.alt 15 (.one 12 (.one 16 (.one 18 (.one 19 (.one 20 (.one 21 (.one 22 (.fin)))))))) (.stop))))) (.alt 15 (.one 6 (.one 17 (.one 12 (.one 16 (.one 18 (.one 19 (.one 20 (.one 21 (.one 22 (.fin)))))))))) (.stop)))) (.alt 15 (.one 5 (.one 6 (.one 17 (.one 12 (.one 16 (.one 18 (.one 19 (.one 20 (.one 21 (.one 22 (.fin))))))))))) (.stop)))) (.alt 15 (.br (.alt 5 (.br (.alt 6 (.one 17 (.one 11 (.one 12 (.one 16 (.one 18 (.one 19 (.one 20 (.one 21 (.one 22 (.fin)))))))))) (.alt 11 (.one 6 (.one 17 (.one 12 (.one 16 (.one 18 (.one 19 (.one 20 (.one 21 (.one 22 (.fin)))))))))) (.stop)))) (.alt 11 (.one 5 (.one 6 (.one 17 (.one 12 (.one 16 (.one 18 (.one 19 (.one 20 (.one 21 (.one 22 (.fin))))))))))) (.stop)))) (.stop)))))))))))))))) mixed (by kernel_rfl) hS [3, 11] fun w1 hS hY hV => ?_
            refine TJ.sp rfl rfl rfl rfl rfl (fun w2 => SR.fieldAddr tU_ok tI_ok rfl rfl rfl rfl rfl rfl) ?_
            refine TJ.st hY rfl rfl rfl rfl rfl (fun w2 hY => SR.load rfl rfl (fun w' hx => ld1 tU_ok rfl rfl (CA.ext (CA.sub ((hV w2 hY).cellsR (i := 1) rfl) 0) hx) rfl)) ?_
            refine TJ.pures tU_ok 1 rfl ?_
            obtain ⟨ad28, e28⟩ := (hS.rd (i := 11) rfl).some' ht28
            refine TJ.sp rfl rfl rfl rfl rfl (fun w2 => SR.idxS tU_ok tI_ok rfl rfl rfl rfl e28 rfl (getI_some ht28).1) ?_
            refine TJ.st hY rfl rfl rfl rfl rfl (fun w2 hY => SR.load rfl rfl (fun w' hx => ld1 tU_ok rfl rfl (CA.ext (((hV w2 hY).rdR (i := 2) rfl).at_ e28 ht28) hx) rfl)) ?_
            refine TJ.sp rfl rfl rfl rfl rfl (fun w2 => SR.fieldAddr tU_ok tI_ok rfl rfl rfl rfl rfl rfl) ?_
            refine TJ.st hY rfl rfl rfl rfl rfl (fun w2 hY => SR.load rfl rfl (fun w' hx => ld1 tU_ok rfl rfl (CA.ext (CA.sub ((hV w2 hY).cellsR (i := 1) rfl) 1) hx) rfl)) ?_
            refine TJ.pures tU_ok 2 rfl ?_
            refine TJ.sp rfl rfl rfl rfl rfl (fun w2 => SR.fieldAddr tU_ok tI_ok rfl rfl rfl rfl rfl rfl) ?_
            refine TJ.st hY rfl rfl rfl rfl rfl (fun w2 hY => SR.load rfl rfl (fun w' hx => ld1 tU_ok rfl rfl (CA.ext (CA.sub ((hV w2 hY).cellsR (i := 1) rfl) 2) hx) rfl)) ?_
            refine TJ.br ?_
            refine TJ.alt ?_ ?_
            · skip
              refine TJ.ef hY rfl rfl rfl rfl rfl (Ef.lit tU_ok tI_ok hS (C := G.cs) rfl rfl rfl rfl rfl rfl ([t28] : List ByteArray) rfl rfl rfl rfl) ?_
              rintro _ w1 hY ⟨A41, rfl, hS⟩
              refine TJ.br ?_
              refine TJ.alt ?_ ?_
              · skip
                have hO := hS
                refine TJ.ew rfl rfl rfl rfl rfl (Ew.append tU_ok tI_ok (C := G.cs) (xs := y12) (ys := ([t28] : List ByteArray)) (hS.inn [3, 11]) (i := 5) rfl rfl rfl rfl rfl rfl rfl rfl rfl rfl rfl rfl rfl (hS.rd (i := 12) rfl) (chk_some hu30)) (by rintro _ w1 ⟨A42, c43, rfl, hS⟩; exact hY.wr (hO.inY [3, 11] 1 rfl rfl) hS.chg) ?_
                rintro _ w1 hY ⟨A42, c43, rfl, hS⟩
                have hS : St w no w1 [box b1 ([.slice none 0 0, .slice none 0 0, .slice none 0 0]) 28, box b2 ((ci .i64).enc 0) 2, tlsC G.cs 2 A9 c10 24 9 D11 y8, box b4 ([.slice A13 y12.length c14, .slice A16 y15.length c17, .slice A19 y18.length c20]) 28, box b5 ([.slice A9 y8.length c10]) 76, rowC G.cs A42 c43 9 (y12 ++ ([t28] : List ByteArray)), rowC (ci .i16) A16 c17 49 y15, rowC (ci .u16) A19 c20 55 y18, box b6 [.string str] 9, dfr D, rcd r rec, rowC G.cs A23 c24 9 t22, rowC G.cs A41 (([t28] : List ByteArray).length) 9 ([t28] : List ByteArray)] [envC Tryz.prog 0] := hO.out [3, 11] hS
                refine TJ.sp rfl rfl rfl rfl rfl (fun w2 => SR.fieldAddr tU_ok tI_ok rfl rfl rfl rfl rfl rfl) ?_
                refine TJ.br ?_
                refine TJ.alt ?_ ?_
                · skip
                  refine TJ.ef hY rfl rfl rfl rfl rfl (Ef.lit tU_ok tI_ok hS (C := (ci .i16)) rfl rfl rfl rfl rfl rfl ([IntKind.i16.wrap t27.1] : List Int) rfl rfl rfl rfl) ?_
                  rintro _ w1 hY ⟨A44, rfl, hS⟩
                  refine TJ.br ?_
                  refine TJ.alt ?_ ?_
                  · skip
                    have hO := hS
                    refine TJ.ew rfl rfl rfl rfl rfl (Ew.append tU_ok tI_ok (C := (ci .i16)) (xs := y15) (ys := ([IntKind.i16.wrap t27.1] : List Int)) (hS.inn [3, 11]) (i := 6) rfl rfl rfl rfl rfl rfl rfl rfl rfl rfl rfl rfl rfl (hS.rd (i := 13) rfl) (chk_some hu34)) (by rintro _ w1 ⟨A45, c46, rfl, hS⟩; exact hY.wr (hO.inY [3, 11] 1 rfl rfl) hS.chg) ?_
                    rintro _ w1 hY ⟨A45, c46, rfl, hS⟩
                    have hS : St w no w1 [box b1 ([.slice none 0 0, .slice none 0 0, .slice none 0 0]) 28, box b2 ((ci .i64).enc 0) 2, tlsC G.cs 2 A9 c10 24 9 D11 y8, box b4 ([.slice A13 y12.length c14, .slice A16 y15.length c17, .slice A19 y18.length c20]) 28, box b5 ([.slice A9 y8.length c10]) 76, rowC G.cs A42 c43 9 (y12 ++ ([t28] : List ByteArray)), rowC (ci .i16) A45 c46 49 (y15 ++ ([IntKind.i16.wrap t27.1] : List Int)), rowC (ci .u16) A19 c20 55 y18, box b6 [.string str] 9, dfr D, rcd r rec, rowC G.cs A23 c24 9 t22, rowC G.cs A41 (([t28] : List ByteArray).length) 9 ([t28] : List ByteArray), rowC (ci .i16) A44 (([IntKind.i16.wrap t27.1] : List Int).length) 49 ([IntKind.i16.wrap t27.1] : List Int)] [envC Tryz.prog 0] := hO.out [3, 11] hS
                    refine TJ.ef hY rfl rfl rfl rfl rfl (Ef.lit tU_ok tI_ok hS (C := (ci .u16)) rfl rfl rfl rfl rfl rfl ([0] : List Int) rfl rfl rfl rfl) ?_
                    rintro _ w1 hY ⟨A47, rfl, hS⟩
                    have hO := hS
                    refine TJ.ew rfl rfl rfl rfl rfl (Ew.append tU_ok tI_ok (C := (ci .u16)) (xs := y18) (ys := ([0] : List Int)) (hS.inn [3, 11]) (i := 7) rfl rfl rfl rfl rfl rfl rfl rfl rfl rfl rfl rfl rfl (hS.rd (i := 14) rfl) (chk_some hu38)) (by rintro _ w1 ⟨A48, c49, rfl, hS⟩; exact hY.wr (hO.inY [3, 11] 1 rfl rfl) hS.chg) ?_
                    rintro _ w1 hY ⟨A48, c49, rfl, hS⟩
                    have hS : St w no w1 [box b1 ([.slice none 0 0, .slice none 0 0, .slice none 0 0]) 28, box b2 ((ci .i64).enc 0) 2, tlsC G.cs 2 A9 c10 24 9 D11 y8, box b4 ([.slice A13 y12.length c14, .slice A16 y15.length c17, .slice A19 y18.length c20]) 28, box b5 ([.slice A9 y8.length c10]) 76, rowC G.cs A42 c43 9 (y12 ++ ([t28] : List ByteArray)), rowC (ci .i16) A45 c46 49 (y15 ++ ([IntKind.i16.wrap t27.1] : List Int)), rowC (ci .u16) A48 c49 55 (y18 ++ ([0] : List Int)), box b6 [.string str] 9, dfr D, rcd r rec, rowC G.cs A23 c24 9 t22, rowC G.cs A41 (([t28] : List ByteArray).length) 9 ([t28] : List ByteArray), rowC (ci .i16) A44 (([IntKind.i16.wrap t27.1] : List Int).length) 49 ([IntKind.i16.wrap t27.1] : List Int), rowC (ci .u16) A47 (([0] : List Int).length) 55 ([0] : List Int)] [envC Tryz.prog 0] := hO.out [3, 11] hS
                    refine TJ.esb rfl rfl rfl rfl (Es.store tI_ok hS (i := 3) (vs := [.slice A42 (y12 ++ ([t28] : List ByteArray)).length c43]) rfl rfl rfl (G.ad1 _ _) rfl rfl rfl rfl (one1 rfl) (Nat.le_of_ble_eq_true rfl) ([.slice A42 (y12 ++ ([t28] : List ByteArray)).length c43, .slice A16 y15.length c17, .slice A19 y18.length c20]) rfl) ?_
                    intro w1 hS
                    refine TJ.sp rfl rfl rfl rfl rfl (fun w2 => SR.fieldAddr tU_ok tI_ok rfl rfl rfl rfl rfl rfl) ?_
                    refine TJ.esb rfl rfl rfl rfl (Es.store tI_ok hS (i := 3) (vs := [.slice A45 (y15 ++ ([IntKind.i16.wrap t27.1] : List Int)).length c46]) rfl rfl rfl (G.ad1 _ _) rfl rfl rfl rfl (one1 rfl) (Nat.le_of_ble_eq_true rfl) ([.slice A42 (y12 ++ ([t28] : List ByteArray)).length c43, .slice A45 (y15 ++ ([IntKind.i16.wrap t27.1] : List Int)).length c46, .slice A19 y18.length c20]) rfl) ?_
                    intro w1 hS
                    refine TJ.sp rfl rfl rfl rfl rfl (fun w2 => SR.fieldAddr tU_ok tI_ok rfl rfl rfl rfl rfl rfl) ?_
                    refine TJ.esb rfl rfl rfl rfl (Es.store tI_ok hS (i := 3) (vs := [.slice A48 (y18 ++ ([0] : List Int)).length c49]) rfl rfl rfl (G.ad1 _ _) rfl rfl rfl rfl (one1 rfl) (Nat.le_of_ble_eq_true rfl) ([.slice A42 (y12 ++ ([t28] : List ByteArray)).length c43, .slice A45 (y15 ++ ([IntKind.i16.wrap t27.1] : List Int)).length c46, .slice A48 (y18 ++ ([0] : List Int)).length c49]) rfl) ?_
                    intro w1 hS
                    refine TJ.nil ?_
                    exact EJ.meet (F' := [(0, .string a0), (2, .pointer (some ⟨b1, 0, none⟩)), (3, .pointer (some ⟨b2, 0, none⟩)), (4, .pointer (some ⟨b4, 0, none⟩)), (5, .pointer (some ⟨b5, 0, none⟩)), (6, .string line), (7, .slice A23 t22.length c24)]) ⟨rfl, rfl, rfl, rfl, rfl, rfl, rfl, trivial⟩ ⟨A41, A42, c43, A44, A45, c46, A47, A48, c49, rfl, hS.pick [0, 1, 2, 3, 4, 5, 6, 7, 8, 9, 10, 11, 12, 13, 14] [0] rfl⟩
                  refine TJ.alt ?_ ?_
                  · skip
                    refine TJ.ef hY rfl rfl rfl rfl rfl (Ef.lit tU_ok tI_ok hS (C := (ci .u16)) rfl rfl rfl rfl rfl rfl ([0] : List Int) rfl rfl rfl rfl) ?_
                    rintro _ w1 hY ⟨A50, rfl, hS⟩
                    have hO := hS
                    refine TJ.ew rfl rfl rfl rfl rfl (Ew.append tU_ok tI_ok (C := (ci .i16)) (xs := y15) (ys := ([IntKind.i16.wrap t27.1] : List Int)) (hS.inn [3, 11]) (i := 6) rfl rfl rfl rfl rfl rfl rfl rfl rfl rfl rfl rfl rfl (hS.rd (i := 13) rfl) (chk_some hu34)) (by rintro _ w1 ⟨A51, c52, rfl, hS⟩; exact hY.wr (hO.inY [3, 11] 1 rfl rfl) hS.chg) ?_
                    rintro _ w1 hY ⟨A51, c52, rfl, hS⟩
                    have hS : St w no w1 [box b1 ([.slice none 0 0, .slice none 0 0, .slice none 0 0]) 28, box b2 ((ci .i64).enc 0) 2, tlsC G.cs 2 A9 c10 24 9 D11 y8, box b4 ([.slice A13 y12.length c14, .slice A16 y15.length c17, .slice A19 y18.length c20]) 28, box b5 ([.slice A9 y8.length c10]) 76, rowC G.cs A42 c43 9 (y12 ++ ([t28] : List ByteArray)), rowC (ci .i16) A51 c52 49 (y15 ++ ([IntKind.i16.wrap t27.1] : List Int)), rowC (ci .u16) A19 c20 55 y18, box b6 [.string str] 9, dfr D, rcd r rec, rowC G.cs A23 c24 9 t22, rowC G.cs A41 (([t28] : List ByteArray).length) 9 ([t28] : List ByteArray), rowC (ci .i16) A44 (([IntKind.i16.wrap t27.1] : List Int).length) 49 ([IntKind.i16.wrap t27.1] : List Int), rowC (ci .u16) A50 (([0] : List Int).length) 55 ([0] : List Int)] [envC Tryz.prog 0] := hO.out [3, 11] hS
                    have hO := hS
                    refine TJ.ew rfl rfl rfl rfl rfl (Ew.append tU_ok tI_ok (C := (ci .u16)) (xs := y18) (ys := ([0] : List Int)) (hS.inn [3, 11]) (i := 7) rfl rfl rfl rfl rfl rfl rfl rfl rfl rfl rfl rfl rfl (hS.rd (i := 14) rfl) (chk_some hu38)) (by rintro _ w1 ⟨A53, c54, rfl, hS⟩; exact hY.wr (hO.inY [3, 11] 1 rfl rfl) hS.chg) ?_
                    rintro _ w1 hY ⟨A53, c54, rfl, hS⟩
                    have hS : St w no w1 [box b1 ([.slice none 0 0, .slice none 0 0, .slice none 0 0]) 28, box b2 ((ci .i64).enc 0) 2, tlsC G.cs 2 A9 c10 24 9 D11 y8, box b4 ([.slice A13 y12.length c14, .slice A16 y15.length c17, .slice A19 y18.length c20]) 28, box b5 ([.slice A9 y8.length c10]) 76, rowC G.cs A42 c43 9 (y12 ++ ([t28] : List ByteArray)), rowC (ci .i16) A51 c52 49 (y15 ++ ([IntKind.i16.wrap t27.1] : List Int)), rowC (ci .u16) A53 c54 55 (y18 ++ ([0] : List Int)), box b6 [.string str] 9, dfr D, rcd r rec, rowC G.cs A23 c24 9 t22, rowC G.cs A41 (([t28] : List ByteArray).length) 9 ([t28] : List ByteArray), rowC (ci .i16) A44 (([IntKind.i16.wrap t27.1] : List Int).length) 49 ([IntKind.i16.wrap t27.1] : List Int), rowC (ci .u16) A50 (([0] : List Int).length) 55 ([0] : List Int)] [envC Tryz.prog 0] := hO.out [3, 11] hS
                    refine TJ.esb rfl rfl rfl rfl (Es.store tI_ok hS (i := 3) (vs := [.slice A42 (y12 ++ ([t28] : List ByteArray)).length c43]) rfl rfl rfl (G.ad1 _ _) rfl rfl rfl rfl (one1 rfl) (Nat.le_of_ble_eq_true rfl) ([.slice A42 (y12 ++ ([t28] : List ByteArray)).length c43, .slice A16 y15.length c17, .slice A19 y18.length c20]) rfl) ?_
                    intro w1 hS
                    refine TJ.sp rfl rfl rfl rfl rfl (fun w2 => SR.fieldAddr tU_ok tI_ok rfl rfl rfl rfl rfl rfl) ?_
                    refine TJ.esb rfl rfl rfl rfl (Es.store tI_ok hS (i := 3) (vs := [.slice A51 (y15 ++ ([IntKind.i16.wrap t27.1] : List Int)).length c52]) rfl rfl rfl (G.ad1 _ _) rfl rfl rfl rfl (one1 rfl) (Nat.le_of_ble_eq_true rfl) ([.slice A42 (y12 ++ ([t28] : List ByteArray)).length c43, .slice A51 (y15 ++ ([IntKind.i16.wrap t27.1] : List Int)).length c52, .slice A19 y18.length c20]) rfl) ?_
                    intro w1 hS
                    refine TJ.sp rfl rfl rfl rfl rfl (fun w2 => SR.fieldAddr tU_ok tI_ok rfl rfl rfl rfl rfl rfl) ?_
                    refine TJ.esb rfl rfl rfl rfl (Es.store tI_ok hS (i := 3) (vs := [.slice A53 (y18 ++ ([0] : List Int)).length c54]) rfl rfl rfl (G.ad1 _ _) rfl rfl rfl rfl (one1 rfl) (Nat.le_of_ble_eq_true rfl) ([.slice A42 (y12 ++ ([t28] : List ByteArray)).length c43, .slice A51 (y15 ++ ([IntKind.i16.wrap t27.1] : List Int)).length c52, .slice A53 (y18 ++ ([0] : List Int)).length c54]) rfl) ?_
                    intro w1 hS
                    refine TJ.nil ?_
                    exact EJ.meet (F' := [(0, .string a0), (2, .pointer (some ⟨b1, 0, none⟩)), (3, .pointer (some ⟨b2, 0, none⟩)), (4, .pointer (some ⟨b4, 0, none⟩)), (5, .pointer (some ⟨b5, 0, none⟩)), (6, .string line), (7, .slice A23 t22.length c24)]) ⟨rfl, rfl, rfl, rfl, rfl, rfl, rfl, trivial⟩ ⟨A41, A42, c43, A44, A51, c52, A50, A53, c54, rfl, hS.pick [0, 1, 2, 3, 4, 5, 6, 7, 8, 9, 10, 11, 12, 13, 14] [0] rfl⟩
                  exact TJ.stop
                refine TJ.alt ?_ ?_
                · skip
                  refine TJ.ef hY rfl rfl rfl rfl rfl (Ef.lit tU_ok tI_ok hS (C := (ci .u16)) rfl rfl rfl rfl rfl rfl ([0] : List Int) rfl rfl rfl rfl) ?_
                  rintro _ w1 hY ⟨A55, rfl, hS⟩
                  refine TJ.ef hY rfl rfl rfl rfl rfl (Ef.lit tU_ok tI_ok hS (C := (ci .i16)) rfl rfl rfl rfl rfl rfl ([IntKind.i16.wrap t27.1] : List Int) rfl rfl rfl rfl) ?_
                  rintro _ w1 hY ⟨A56, rfl, hS⟩
                  have hO := hS
                  refine TJ.ew rfl rfl rfl rfl rfl (Ew.append tU_ok tI_ok (C := (ci .i16)) (xs := y15) (ys := ([IntKind.i16.wrap t27.1] : List Int)) (hS.inn [3, 11]) (i := 6) rfl rfl rfl rfl rfl rfl rfl rfl rfl rfl rfl rfl rfl (hS.rd (i := 14) rfl) (chk_some hu34)) (by rintro _ w1 ⟨A57, c58, rfl, hS⟩; exact hY.wr (hO.inY [3, 11] 1 rfl rfl) hS.chg) ?_
                  rintro _ w1 hY ⟨A57, c58, rfl, hS⟩
                  have hS : St w no w1 [box b1 ([.slice none 0 0, .slice none 0 0, .slice none 0 0]) 28, box b2 ((ci .i64).enc 0) 2, tlsC G.cs 2 A9 c10 24 9 D11 y8, box b4 ([.slice A13 y12.length c14, .slice A16 y15.length c17, .slice A19 y18.length c20]) 28, box b5 ([.slice A9 y8.length c10]) 76, rowC G.cs A42 c43 9 (y12 ++ ([t28] : List ByteArray)), rowC (ci .i16) A57 c58 49 (y15 ++ ([IntKind.i16.wrap t27.1] : List Int)), rowC (ci .u16) A19 c20 55 y18, box b6 [.string str] 9, dfr D, rcd r rec, rowC G.cs A23 c24 9 t22, rowC G.cs A41 (([t28] : List ByteArray).length) 9 ([t28] : List ByteArray), rowC (ci .u16) A55 (([0] : List Int).length) 55 ([0] : List Int), rowC (ci .i16) A56 (([IntKind.i16.wrap t27.1] : List Int).length) 49 ([IntKind.i16.wrap t27.1] : List Int)] [envC Tryz.prog 0] := hO.out [3, 11] hS
                  have hO := hS
                  refine TJ.ew rfl rfl rfl rfl rfl (Ew.append tU_ok tI_ok (C := (ci .u16)) (xs := y18) (ys := ([0] : List Int)) (hS.inn [3, 11]) (i := 7) rfl rfl rfl rfl rfl rfl rfl rfl rfl rfl rfl rfl rfl (hS.rd (i := 13) rfl) (chk_some hu38)) (by rintro _ w1 ⟨A59, c60, rfl, hS⟩; exact hY.wr (hO.inY [3, 11] 1 rfl rfl) hS.chg) ?_
                  rintro _ w1 hY ⟨A59, c60, rfl, hS⟩
                  have hS : St w no w1 [box b1 ([.slice none 0 0, .slice none 0 0, .slice none 0 0]) 28, box b2 ((ci .i64).enc 0) 2, tlsC G.cs 2 A9 c10 24 9 D11 y8, box b4 ([.slice A13 y12.length c14, .slice A16 y15.length c17, .slice A19 y18.length c20]) 28, box b5 ([.slice A9 y8.length c10]) 76, rowC G.cs A42 c43 9 (y12 ++ ([t28] : List ByteArray)), rowC (ci .i16) A57 c58 49 (y15 ++ ([IntKind.i16.wrap t27.1] : List Int)), rowC (ci .u16) A59 c60 55 (y18 ++ ([0] : List Int)), box b6 [.string str] 9, dfr D, rcd r rec, rowC G.cs A23 c24 9 t22, rowC G.cs A41 (([t28] : List ByteArray).length) 9 ([t28] : List ByteArray), rowC (ci .u16) A55 (([0] : List Int).length) 55 ([0] : List Int), rowC (ci .i16) A56 (([IntKind.i16.wrap t27.1] : List Int).length) 49 ([IntKind.i16.wrap t27.1] : List Int)] [envC Tryz.prog 0] := hO.out [3, 11] hS
                  refine TJ.esb rfl rfl rfl rfl (Es.store tI_ok hS (i := 3) (vs := [.slice A42 (y12 ++ ([t28] : List ByteArray)).length c43]) rfl rfl rfl (G.ad1 _ _) rfl rfl rfl rfl (one1 rfl) (Nat.le_of_ble_eq_true rfl) ([.slice A42 (y12 ++ ([t28] : List ByteArray)).length c43, .slice A16 y15.length c17, .slice A19 y18.length c20]) rfl) ?_
                  intro w1 hS
                  refine TJ.sp rfl rfl rfl rfl rfl (fun w2 => SR.fieldAddr tU_ok tI_ok rfl rfl rfl rfl rfl rfl) ?_
                  refine TJ.esb rfl rfl rfl rfl (Es.store tI_ok hS (i := 3) (vs := [.slice A57 (y15 ++ ([IntKind.i16.wrap t27.1] : List Int)).length c58]) rfl rfl rfl (G.ad1 _ _) rfl rfl rfl rfl (one1 rfl) (Nat.le_of_ble_eq_true rfl) ([.slice A42 (y12 ++ ([t28] : List ByteArray)).length c43, .slice A57 (y15 ++ ([IntKind.i16.wrap t27.1] : List Int)).length c58, .slice A19 y18.length c20]) rfl) ?_
                  intro w1 hS
                  refine TJ.sp rfl rfl rfl rfl rfl (fun w2 => SR.fieldAddr tU_ok tI_ok rfl rfl rfl rfl rfl rfl) ?_
                  refine TJ.esb rfl rfl rfl rfl (Es.store tI_ok hS (i := 3) (vs := [.slice A59 (y18 ++ ([0] : List Int)).length c60]) rfl rfl rfl (G.ad1 _ _) rfl rfl rfl rfl (one1 rfl) (Nat.le_of_ble_eq_true rfl) ([.slice A42 (y12 ++ ([t28] : List ByteArray)).length c43, .slice A57 (y15 ++ ([IntKind.i16.wrap t27.1] : List Int)).length c58, .slice A59 (y18 ++ ([0] : List Int)).length c60]) rfl) ?_
                  intro w1 hS
                  refine TJ.nil ?_
                  exact EJ.meet (F' := [(0, .string a0), (2, .pointer (some ⟨b1, 0, none⟩)), (3, .pointer (some ⟨b2, 0, none⟩)), (4, .pointer (some ⟨b4, 0, none⟩)), (5, .pointer (some ⟨b5, 0, none⟩)), (6, .string line), (7, .slice A23 t22.length c24)]) ⟨rfl, rfl, rfl, rfl, rfl, rfl, rfl, trivial⟩ ⟨A41, A42, c43, A56, A57, c58, A55, A59, c60, rfl, hS.pick [0, 1, 2, 3, 4, 5, 6, 7, 8, 9, 10, 11, 12, 14, 13] [0] rfl⟩
                exact TJ.stop
              refine TJ.alt ?_ ?_
              · skip
                refine TJ.ef hY rfl rfl rfl rfl rfl (Ef.lit tU_ok tI_ok hS (C := (ci .i16)) rfl rfl rfl rfl rfl rfl ([IntKind.i16.wrap t27.1] : List Int) rfl rfl rfl rfl) ?_
                rintro _ w1 hY ⟨A61, rfl, hS⟩
                refine TJ.br ?_
                refine TJ.alt ?_ ?_
                · skip
                  have hO := hS
                  refine TJ.ew rfl rfl rfl rfl rfl (Ew.append tU_ok tI_ok (C := G.cs) (xs := y12) (ys := ([t28] : List ByteArray)) (hS.inn [3, 11]) (i := 5) rfl rfl rfl rfl rfl rfl rfl rfl rfl rfl rfl rfl rfl (hS.rd (i := 12) rfl) (chk_some hu30)) (by rintro _ w1 ⟨A62, c63, rfl, hS⟩; exact hY.wr (hO.inY [3, 11] 1 rfl rfl) hS.chg) ?_
                  rintro _ w1 hY ⟨A62, c63, rfl, hS⟩
                  have hS : St w no w1 [box b1 ([.slice none 0 0, .slice none 0 0, .slice none 0 0]) 28, box b2 ((ci .i64).enc 0) 2, tlsC G.cs 2 A9 c10 24 9 D11 y8, box b4 ([.slice A13 y12.length c14, .slice A16 y15.length c17, .slice A19 y18.length c20]) 28, box b5 ([.slice A9 y8.length c10]) 76, rowC G.cs A62 c63 9 (y12 ++ ([t28] : List ByteArray)), rowC (ci .i16) A16 c17 49 y15, rowC (ci .u16) A19 c20 55 y18, box b6 [.string str] 9, dfr D, rcd r rec, rowC G.cs A23 c24 9 t22, rowC G.cs A41 (([t28] : List ByteArray).length) 9 ([t28] : List ByteArray), rowC (ci .i16) A61 (([IntKind.i16.wrap t27.1] : List Int).length) 49 ([IntKind.i16.wrap t27.1] : List Int)] [envC Tryz.prog 0] := hO.out [3, 11] hS
                  refine TJ.sp rfl rfl rfl rfl rfl (fun w2 => SR.fieldAddr tU_ok tI_ok rfl rfl rfl rfl rfl rfl) ?_
                  refine TJ.br ?_
                  refine TJ.alt ?_ ?_
                  · skip
                    have hO := hS
                    refine TJ.ew rfl rfl rfl rfl rfl (Ew.append tU_ok tI_ok (C := (ci .i16)) (xs := y15) (ys := ([IntKind.i16.wrap t27.1] : List Int)) (hS.inn [3, 11]) (i := 6) rfl rfl rfl rfl rfl rfl rfl rfl rfl rfl rfl rfl rfl (hS.rd (i := 13) rfl) (chk_some hu34)) (by rintro _ w1 ⟨A64, c65, rfl, hS⟩; exact hY.wr (hO.inY [3, 11] 1 rfl rfl) hS.chg) ?_
                    rintro _ w1 hY ⟨A64, c65, rfl, hS⟩
                    have hS : St w no w1 [box b1 ([.slice none 0 0, .slice none 0 0, .slice none 0 0]) 28, box b2 ((ci .i64).enc 0) 2, tlsC G.cs 2 A9 c10 24 9 D11 y8, box b4 ([.slice A13 y12.length c14, .slice A16 y15.length c17, .slice A19 y18.length c20]) 28, box b5 ([.slice A9 y8.length c10]) 76, rowC G.cs A62 c63 9 (y12 ++ ([t28] : List ByteArray)), rowC (ci .i16) A64 c65 49 (y15 ++ ([IntKind.i16.wrap t27.1] : List Int)), rowC (ci .u16) A19 c20 55 y18, box b6 [.string str] 9, dfr D, rcd r rec, rowC G.cs A23 c24 9 t22, rowC G.cs A41 (([t28] : List ByteArray).length) 9 ([t28] : List ByteArray), rowC (ci .i16) A61 (([IntKind.i16.wrap t27.1] : List Int).length) 49 ([IntKind.i16.wrap t27.1] : List Int)] [envC Tryz.prog 0] := hO.out [3, 11] hS
                    refine TJ.ef hY rfl rfl rfl rfl rfl (Ef.lit tU_ok tI_ok hS (C := (ci .u16)) rfl rfl rfl rfl rfl rfl ([0] : List Int) rfl rfl rfl rfl) ?_
                    rintro _ w1 hY ⟨A66, rfl, hS⟩
                    have hO := hS
                    refine TJ.ew rfl rfl rfl rfl rfl (Ew.append tU_ok tI_ok (C := (ci .u16)) (xs := y18) (ys := ([0] : List Int)) (hS.inn [3, 11]) (i := 7) rfl rfl rfl rfl rfl rfl rfl rfl rfl rfl rfl rfl rfl (hS.rd (i := 14) rfl) (chk_some hu38)) (by rintro _ w1 ⟨A67, c68, rfl, hS⟩; exact hY.wr (hO.inY [3, 11] 1 rfl rfl) hS.chg) ?_
                    rintro _ w1 hY ⟨A67, c68, rfl, hS⟩
                    have hS : St w no w1 [box b1 ([.slice none 0 0, .slice none 0 0, .slice none 0 0]) 28, box b2 ((ci .i64).enc 0) 2, tlsC G.cs 2 A9 c10 24 9 D11 y8, box b4 ([.slice A13 y12.length c14, .slice A16 y15.length c17, .slice A19 y18.length c20]) 28, box b5 ([.slice A9 y8.length c10]) 76, rowC G.cs A62 c63 9 (y12 ++ ([t28] : List ByteArray)), rowC (ci .i16) A64 c65 49 (y15 ++ ([IntKind.i16.wrap t27.1] : List Int)), rowC (ci .u16) A67 c68 55 (y18 ++ ([0] : List Int)), box b6 [.string str] 9, dfr D, rcd r rec, rowC G.cs A23 c24 9 t22, rowC G.cs A41 (([t28] : List ByteArray).length) 9 ([t28] : List ByteArray), rowC (ci .i16) A61 (([IntKind.i16.wrap t27.1] : List Int).length) 49 ([IntKind.i16.wrap t27.1] : List Int), rowC (ci .u16) A66 (([0] : List Int).length) 55 ([0] : List Int)] [envC Tryz.prog 0] := hO.out [3, 11] hS
                    refine TJ.esb rfl rfl rfl rfl (Es.store tI_ok hS (i := 3) (vs := [.slice A62 (y12 ++ ([t28] : List ByteArray)).length c63]) rfl rfl rfl (G.ad1 _ _) rfl rfl rfl rfl (one1 rfl) (Nat.le_of_ble_eq_true rfl) ([.slice A62 (y12 ++ ([t28] : List ByteArray)).length c63, .slice A16 y15.length c17, .slice A19 y18.length c20]) rfl) ?_
                    intro w1 hS
                    refine TJ.sp rfl rfl rfl rfl rfl (fun w2 => SR.fieldAddr tU_ok tI_ok rfl rfl rfl rfl rfl rfl) ?_
                    refine TJ.esb rfl rfl rfl rfl (Es.store tI_ok hS (i := 3) (vs := [.slice A64 (y15 ++ ([IntKind.i16.wrap t27.1] : List Int)).length c65]) rfl rfl rfl (G.ad1 _ _) rfl rfl rfl rfl (one1 rfl) (Nat.le_of_ble_eq_true rfl) ([.slice A62 (y12 ++ ([t28] : List ByteArray)).length c63, .slice A64 (y15 ++ ([IntKind.i16.wrap t27.1] : List Int)).length c65, .slice A19 y18.length c20]) rfl) ?_
                    intro w1 hS
                    refine TJ.sp rfl rfl rfl rfl rfl (fun w2 => SR.fieldAddr tU_ok tI_ok rfl rfl rfl rfl rfl rfl) ?_
                    refine TJ.esb rfl rfl rfl rfl (Es.store tI_ok hS (i := 3) (vs := [.slice A67 (y18 ++ ([0] : List Int)).length c68]) rfl rfl rfl (G.ad1 _ _) rfl rfl rfl rfl (one1 rfl) (Nat.le_of_ble_eq_true rfl) ([.slice A62 (y12 ++ ([t28] : List ByteArray)).length c63, .slice A64 (y15 ++ ([IntKind.i16.wrap t27.1] : List Int)).length c65, .slice A67 (y18 ++ ([0] : List Int)).length c68]) rfl) ?_
                    intro w1 hS
                    refine TJ.nil ?_
                    exact EJ.meet (F' := [(0, .string a0), (2, .pointer (some ⟨b1, 0, none⟩)), (3, .pointer (some ⟨b2, 0, none⟩)), (4, .pointer (some ⟨b4, 0, none⟩)), (5, .pointer (some ⟨b5, 0, none⟩)), (6, .string line), (7, .slice A23 t22.length c24)]) ⟨rfl, rfl, rfl, rfl, rfl, rfl, rfl, trivial⟩ ⟨A41, A62, c63, A61, A64, c65, A66, A67, c68, rfl, hS.pick [0, 1, 2, 3, 4, 5, 6, 7, 8, 9, 10, 11, 12, 13, 14] [0] rfl⟩
                  refine TJ.alt ?_ ?_
                  · skip
                    refine TJ.ef hY rfl rfl rfl rfl rfl (Ef.lit tU_ok tI_ok hS (C := (ci .u16)) rfl rfl rfl rfl rfl rfl ([0] : List Int) rfl rfl rfl rfl) ?_
                    rintro _ w1 hY ⟨A69, rfl, hS⟩
                    have hO := hS
                    refine TJ.ew rfl rfl rfl rfl rfl (Ew.append tU_ok tI_ok (C := (ci .i16)) (xs := y15) (ys := ([IntKind.i16.wrap t27.1] : List Int)) (hS.inn [3, 11]) (i := 6) rfl rfl rfl rfl rfl rfl rfl rfl rfl rfl rfl rfl rfl (hS.rd (i := 13) rfl) (chk_some hu34)) (by rintro _ w1 ⟨A70, c71, rfl, hS⟩; exact hY.wr (hO.inY [3, 11] 1 rfl rfl) hS.chg) ?_
                    rintro _ w1 hY ⟨A70, c71, rfl, hS⟩
                    have hS : St w no w1 [box b1 ([.slice none 0 0, .slice none 0 0, .slice none 0 0]) 28, box b2 ((ci .i64).enc 0) 2, tlsC G.cs 2 A9 c10 24 9 D11 y8, box b4 ([.slice A13 y12.length c14, .slice A16 y15.length c17, .slice A19 y18.length c20]) 28, box b5 ([.slice A9 y8.length c10]) 76, rowC G.cs A62 c63 9 (y12 ++ ([t28] : List ByteArray)), rowC (ci .i16) A70 c71 49 (y15 ++ ([IntKind.i16.wrap t27.1] : List Int)), rowC (ci .u16) A19 c20 55 y18, box b6 [.string str] 9, dfr D, rcd r rec, rowC G.cs A23 c24 9 t22, rowC G.cs A41 (([t28] : List ByteArray).length) 9 ([t28] : List ByteArray), rowC (ci .i16) A61 (([IntKind.i16.wrap t27.1] : List Int).length) 49 ([IntKind.i16.wrap t27.1] : List Int), rowC (ci .u16) A69 (([0] : List Int).length) 55 ([0] : List Int)] [envC Tryz.prog 0] := hO.out [3, 11] hS
                    have hO := hS
                    refine TJ.ew rfl rfl rfl rfl rfl (Ew.append tU_ok tI_ok (C := (ci .u16)) (xs := y18) (ys := ([0] : List Int)) (hS.inn [3, 11]) (i := 7) rfl rfl rfl rfl rfl rfl rfl rfl rfl rfl rfl rfl rfl (hS.rd (i := 14) rfl) (chk_some hu38)) (by rintro _ w1 ⟨A72, c73, rfl, hS⟩; exact hY.wr (hO.inY [3, 11] 1 rfl rfl) hS.chg) ?_
                    rintro _ w1 hY ⟨A72, c73, rfl, hS⟩
                    have hS : St w no w1 [box b1 ([.slice none 0 0, .slice none 0 0, .slice none 0 0]) 28, box b2 ((ci .i64).enc 0) 2, tlsC G.cs 2 A9 c10 24 9 D11 y8, box b4 ([.slice A13 y12.length c14, .slice A16 y15.length c17, .slice A19 y18.length c20]) 28, box b5 ([.slice A9 y8.length c10]) 76, rowC G.cs A62 c63 9 (y12 ++ ([t28] : List ByteArray)), rowC (ci .i16) A70 c71 49 (y15 ++ ([IntKind.i16.wrap t27.1] : List Int)), rowC (ci .u16) A72 c73 55 (y18 ++ ([0] : List Int)), box b6 [.string str] 9, dfr D, rcd r rec, rowC G.cs A23 c24 9 t22, rowC G.cs A41 (([t28] : List ByteArray).length) 9 ([t28] : List ByteArray), rowC (ci .i16) A61 (([IntKind.i16.wrap t27.1] : List Int).length) 49 ([IntKind.i16.wrap t27.1] : List Int), rowC (ci .u16) A69 (([0] : List Int).length) 55 ([0] : List Int)] [envC Tryz.prog 0] := hO.out [3, 11] hS
                    refine TJ.esb rfl rfl rfl rfl (Es.store tI_ok hS (i := 3) (vs := [.slice A62 (y12 ++ ([t28] : List ByteArray)).length c63]) rfl rfl rfl (G.ad1 _ _) rfl rfl rfl rfl (one1 rfl) (Nat.le_of_ble_eq_true rfl) ([.slice A62 (y12 ++ ([t28] : List ByteArray)).length c63, .slice A16 y15.length c17, .slice A19 y18.length c20]) rfl) ?_
                    intro w1 hS
                    refine TJ.sp rfl rfl rfl rfl rfl (fun w2 => SR.fieldAddr tU_ok tI_ok rfl rfl rfl rfl rfl rfl) ?_
                    refine TJ.esb rfl rfl rfl rfl (Es.store tI_ok hS (i := 3) (vs := [.slice A70 (y15 ++ ([IntKind.i16.wrap t27.1] : List Int)).length c71]) rfl rfl rfl (G.ad1 _ _) rfl rfl rfl rfl (one1 rfl) (Nat.le_of_ble_eq_true rfl) ([.slice A62 (y12 ++ ([t28] : List ByteArray)).length c63, .slice A70 (y15 ++ ([IntKind.i16.wrap t27.1] : List Int)).length c71, .slice A19 y18.length c20]) rfl) ?_
                    intro w1 hS
                    refine TJ.sp rfl rfl rfl rfl rfl (fun w2 => SR.fieldAddr tU_ok tI_ok rfl rfl rfl rfl rfl rfl) ?_
                    refine TJ.esb rfl rfl rfl rfl (Es.store tI_ok hS (i := 3) (vs := [.slice A72 (y18 ++ ([0] : List Int)).length c73]) rfl rfl rfl (G.ad1 _ _) rfl rfl rfl rfl (one1 rfl) (Nat.le_of_ble_eq_true rfl) ([.slice A62 (y12 ++ ([t28] : List ByteArray)).length c63, .slice A70 (y15 ++ ([IntKind.i16.wrap t27.1] : List Int)).length c71, .slice A72 (y18 ++ ([0] : List Int)).length c73]) rfl) ?_
                    intro w1 hS
                    refine TJ.nil ?_
                    exact EJ.meet (F' := [(0, .string a0), (2, .pointer (some ⟨b1, 0, none⟩)), (3, .pointer (some ⟨b2, 0, none⟩)), (4, .pointer (some ⟨b4, 0, none⟩)), (5, .pointer (some ⟨b5, 0, none⟩)), (6, .string line), (7, .slice A23 t22.length c24)]) ⟨rfl, rfl, rfl, rfl, rfl, rfl, rfl, trivial⟩ ⟨A41, A62, c63, A61, A70, c71, A69, A72, c73, rfl, hS.pick [0, 1, 2, 3, 4, 5, 6, 7, 8, 9, 10, 11, 12, 13, 14] [0] rfl⟩
                  exact TJ.stop
                refine TJ.alt ?_ ?_
                · skip
                  refine TJ.ef hY rfl rfl rfl rfl rfl (Ef.lit tU_ok tI_ok hS (C := (ci .u16)) rfl rfl rfl rfl rfl rfl ([0] : List Int) rfl rfl rfl rfl) ?_
                  rintro _ w1 hY ⟨A74, rfl, hS⟩
                  have hO := hS
                  refine TJ.ew rfl rfl rfl rfl rfl (Ew.append tU_ok tI_ok (C := G.cs) (xs := y12) (ys := ([t28] : List ByteArray)) (hS.inn [3, 11]) (i := 5) rfl rfl rfl rfl rfl rfl rfl rfl rfl rfl rfl rfl rfl (hS.rd (i := 12) rfl) (chk_some hu30)) (by rintro _ w1 ⟨A75, c76, rfl, hS⟩; exact hY.wr (hO.inY [3, 11] 1 rfl rfl) hS.chg) ?_
                  rintro _ w1 hY ⟨A75, c76, rfl, hS⟩
                  have hS : St w no w1 [box b1 ([.slice none 0 0, .slice none 0 0, .slice none 0 0]) 28, box b2 ((ci .i64).enc 0) 2, tlsC G.cs 2 A9 c10 24 9 D11 y8, box b4 ([.slice A13 y12.length c14, .slice A16 y15.length c17, .slice A19 y18.length c20]) 28, box b5 ([.slice A9 y8.length c10]) 76, rowC G.cs A75 c76 9 (y12 ++ ([t28] : List ByteArray)), rowC (ci .i16) A16 c17 49 y15, rowC (ci .u16) A19 c20 55 y18, box b6 [.string str] 9, dfr D, rcd r rec, rowC G.cs A23 c24 9 t22, rowC G.cs A41 (([t28] : List ByteArray).length) 9 ([t28] : List ByteArray), rowC (ci .i16) A61 (([IntKind.i16.wrap t27.1] : List Int).length) 49 ([IntKind.i16.wrap t27.1] : List Int), rowC (ci .u16) A74 (([0] : List Int).length) 55 ([0] : List Int)] [envC Tryz.prog 0] := hO.out [3, 11] hS
                  refine TJ.sp rfl rfl rfl rfl rfl (fun w2 => SR.fieldAddr tU_ok tI_ok rfl rfl rfl rfl rfl rfl) ?_
                  have hO := hS
                  refine TJ.ew rfl rfl rfl rfl rfl (Ew.append tU_ok tI_ok (C := (ci .i16)) (xs := y15) (ys := ([IntKind.i16.wrap t27.1] : List Int)) (hS.inn [3, 11]) (i := 6) rfl rfl rfl rfl rfl rfl rfl rfl rfl rfl rfl rfl rfl (hS.rd (i := 13) rfl) (chk_some hu34)) (by rintro _ w1 ⟨A77, c78, rfl, hS⟩; exact hY.wr (hO.inY [3, 11] 1 rfl rfl) hS.chg) ?_
                  rintro _ w1 hY ⟨A77, c78, rfl, hS⟩
                  have hS : St w no w1 [box b1 ([.slice none 0 0, .slice none 0 0, .slice none 0 0]) 28, box b2 ((ci .i64).enc 0) 2, tlsC G.cs 2 A9 c10 24 9 D11 y8, box b4 ([.slice A13 y12.length c14, .slice A16 y15.length c17, .slice A19 y18.length c20]) 28, box b5 ([.slice A9 y8.length c10]) 76, rowC G.cs A75 c76 9 (y12 ++ ([t28] : List ByteArray)), rowC (ci .i16) A77 c78 49 (y15 ++ ([IntKind.i16.wrap t27.1] : List Int)), rowC (ci .u16) A19 c20 55 y18, box b6 [.string str] 9, dfr D, rcd r rec, rowC G.cs A23 c24 9 t22, rowC G.cs A41 (([t28] : List ByteArray).length) 9 ([t28] : List ByteArray), rowC (ci .i16) A61 (([IntKind.i16.wrap t27.1] : List Int).length) 49 ([IntKind.i16.wrap t27.1] : List Int), rowC (ci .u16) A74 (([0] : List Int).length) 55 ([0] : List Int)] [envC Tryz.prog 0] := hO.out [3, 11] hS
                  have hO := hS
                  refine TJ.ew rfl rfl rfl rfl rfl (Ew.append tU_ok tI_ok (C := (ci .u16)) (xs := y18) (ys := ([0] : List Int)) (hS.inn [3, 11]) (i := 7) rfl rfl rfl rfl rfl rfl rfl rfl rfl rfl rfl rfl rfl (hS.rd (i := 14) rfl) (chk_some hu38)) (by rintro _ w1 ⟨A79, c80, rfl, hS⟩; exact hY.wr (hO.inY [3, 11] 1 rfl rfl) hS.chg) ?_
                  rintro _ w1 hY ⟨A79, c80, rfl, hS⟩
                  have hS : St w no w1 [box b1 ([.slice none 0 0, .slice none 0 0, .slice none 0 0]) 28, box b2 ((ci .i64).enc 0) 2, tlsC G.cs 2 A9 c10 24 9 D11 y8, box b4 ([.slice A13 y12.length c14, .slice A16 y15.length c17, .slice A19 y18.length c20]) 28, box b5 ([.slice A9 y8.length c10]) 76, rowC G.cs A75 c76 9 (y12 ++ ([t28] : List ByteArray)), rowC (ci .i16) A77 c78 49 (y15 ++ ([IntKind.i16.wrap t27.1] : List Int)), rowC (ci .u16) A79 c80 55 (y18 ++ ([0] : List Int)), box b6 [.string str] 9, dfr D, rcd r rec, rowC G.cs A23 c24 9 t22, rowC G.cs A41 (([t28] : List ByteArray).length) 9 ([t28] : List ByteArray), rowC (ci .i16) A61 (([IntKind.i16.wrap t27.1] : List Int).length) 49 ([IntKind.i16.wrap t27.1] : List Int), rowC (ci .u16) A74 (([0] : List Int).length) 55 ([0] : List Int)] [envC Tryz.prog 0] := hO.out [3, 11] hS
                  refine TJ.esb rfl rfl rfl rfl (Es.store tI_ok hS (i := 3) (vs := [.slice A75 (y12 ++ ([t28] : List ByteArray)).length c76]) rfl rfl rfl (G.ad1 _ _) rfl rfl rfl rfl (one1 rfl) (Nat.le_of_ble_eq_true rfl) ([.slice A75 (y12 ++ ([t28] : List ByteArray)).length c76, .slice A16 y15.length c17, .slice A19 y18.length c20]) rfl) ?_
                  intro w1 hS
                  refine TJ.sp rfl rfl rfl rfl rfl (fun w2 => SR.fieldAddr tU_ok tI_ok rfl rfl rfl rfl rfl rfl) ?_
                  refine TJ.esb rfl rfl rfl rfl (Es.store tI_ok hS (i := 3) (vs := [.slice A77 (y15 ++ ([IntKind.i16.wrap t27.1] : List Int)).length c78]) rfl rfl rfl (G.ad1 _ _) rfl rfl rfl rfl (one1 rfl) (Nat.le_of_ble_eq_true rfl) ([.slice A75 (y12 ++ ([t28] : List ByteArray)).length c76, .slice A77 (y15 ++ ([IntKind.i16.wrap t27.1] : List Int)).length c78, .slice A19 y18.length c20]) rfl) ?_
                  intro w1 hS
                  refine TJ.sp rfl rfl rfl rfl rfl (fun w2 => SR.fieldAddr tU_ok tI_ok rfl rfl rfl rfl rfl rfl) ?_
                  refine TJ.esb rfl rfl rfl rfl (Es.store tI_ok hS (i := 3) (vs := [.slice A79 (y18 ++ ([0] : List Int)).length c80]) rfl rfl rfl (G.ad1 _ _) rfl rfl rfl rfl (one1 rfl) (Nat.le_of_ble_eq_true rfl) ([.slice A75 (y12 ++ ([t28] : List ByteArray)).length c76, .slice A77 (y15 ++ ([IntKind.i16.wrap t27.1] : List Int)).length c78, .slice A79 (y18 ++ ([0] : List Int)).length c80]) rfl) ?_
                  intro w1 hS
                  refine TJ.nil ?_
                  exact EJ.meet (F' := [(0, .string a0), (2, .pointer (some ⟨b1, 0, none⟩)), (3, .pointer (some ⟨b2, 0, none⟩)), (4, .pointer (some ⟨b4, 0, none⟩)), (5, .pointer (some ⟨b5, 0, none⟩)), (6, .string line), (7, .slice A23 t22.length c24)]) ⟨rfl, rfl, rfl, rfl, rfl, rfl, rfl, trivial⟩ ⟨A41, A75, c76, A61, A77, c78, A74, A79, c80, rfl, hS.pick [0, 1, 2, 3, 4, 5, 6, 7, 8, 9, 10, 11, 12, 13, 14] [0] rfl⟩
                exact TJ.stop
              refine TJ.alt ?_ ?_
              · skip
                refine TJ.ef hY rfl rfl rfl rfl rfl (Ef.lit tU_ok tI_ok hS (C := (ci .u16)) rfl rfl rfl rfl rfl rfl ([0] : List Int) rfl rfl rfl rfl) ?_
                rintro _ w1 hY ⟨A81, rfl, hS⟩
                refine TJ.br ?_
                refine TJ.alt ?_ ?_
                · skip
                  have hO := hS
                  refine TJ.ew rfl rfl rfl rfl rfl (Ew.append tU_ok tI_ok (C := G.cs) (xs := y12) (ys := ([t28] : List ByteArray)) (hS.inn [3, 11]) (i := 5) rfl rfl rfl rfl rfl rfl rfl rfl rfl rfl rfl rfl rfl (hS.rd (i := 12) rfl) (chk_some hu30)) (by rintro _ w1 ⟨A82, c83, rfl, hS⟩; exact hY.wr (hO.inY [3, 11] 1 rfl rfl) hS.chg) ?_
                  rintro _ w1 hY ⟨A82, c83, rfl, hS⟩
                  have hS : St w no w1 [box b1 ([.slice none 0 0, .slice none 0 0, .slice none 0 0]) 28, box b2 ((ci .i64).enc 0) 2, tlsC G.cs 2 A9 c10 24 9 D11 y8, box b4 ([.slice A13 y12.length c14, .slice A16 y15.length c17, .slice A19 y18.length c20]) 28, box b5 ([.slice A9 y8.length c10]) 76, rowC G.cs A82 c83 9 (y12 ++ ([t28] : List ByteArray)), rowC (ci .i16) A16 c17 49 y15, rowC (ci .u16) A19 c20 55 y18, box b6 [.string str] 9, dfr D, rcd r rec, rowC G.cs A23 c24 9 t22, rowC G.cs A41 (([t28] : List ByteArray).length) 9 ([t28] : List ByteArray), rowC (ci .u16) A81 (([0] : List Int).length) 55 ([0] : List Int)] [envC Tryz.prog 0] := hO.out [3, 11] hS
                  refine TJ.sp rfl rfl rfl rfl rfl (fun w2 => SR.fieldAddr tU_ok tI_ok rfl rfl rfl rfl rfl rfl) ?_
                  refine TJ.ef hY rfl rfl rfl rfl rfl (Ef.lit tU_ok tI_ok hS (C := (ci .i16)) rfl rfl rfl rfl rfl rfl ([IntKind.i16.wrap t27.1] : List Int) rfl rfl rfl rfl) ?_
                  rintro _ w1 hY ⟨A84, rfl, hS⟩
                  have hO := hS
                  refine TJ.ew rfl rfl rfl rfl rfl (Ew.append tU_ok tI_ok (C := (ci .i16)) (xs := y15) (ys := ([IntKind.i16.wrap t27.1] : List Int)) (hS.inn [3, 11]) (i := 6) rfl rfl rfl rfl rfl rfl rfl rfl rfl rfl rfl rfl rfl (hS.rd (i := 14) rfl) (chk_some hu34)) (by rintro _ w1 ⟨A85, c86, rfl, hS⟩; exact hY.wr (hO.inY [3, 11] 1 rfl rfl) hS.chg) ?_
                  rintro _ w1 hY ⟨A85, c86, rfl, hS⟩
                  have hS : St w no w1 [box b1 ([.slice none 0 0, .slice none 0 0, .slice none 0 0]) 28, box b2 ((ci .i64).enc 0) 2, tlsC G.cs 2 A9 c10 24 9 D11 y8, box b4 ([.slice A13 y12.length c14, .slice A16 y15.length c17, .slice A19 y18.length c20]) 28, box b5 ([.slice A9 y8.length c10]) 76, rowC G.cs A82 c83 9 (y12 ++ ([t28] : List ByteArray)), rowC (ci .i16) A85 c86 49 (y15 ++ ([IntKind.i16.wrap t27.1] : List Int)), rowC (ci .u16) A19 c20 55 y18, box b6 [.string str] 9, dfr D, rcd r rec, rowC G.cs A23 c24 9 t22, rowC G.cs A41 (([t28] : List ByteArray).length) 9 ([t28] : List ByteArray), rowC (ci .u16) A81 (([0] : List Int).length) 55 ([0] : List Int), rowC (ci .i16) A84 (([IntKind.i16.wrap t27.1] : List Int).length) 49 ([IntKind.i16.wrap t27.1] : List Int)] [envC Tryz.prog 0] := hO.out [3, 11] hS
                  have hO := hS
                  refine TJ.ew rfl rfl rfl rfl rfl (Ew.append tU_ok tI_ok (C := (ci .u16)) (xs := y18) (ys := ([0] : List Int)) (hS.inn [3, 11]) (i := 7) rfl rfl rfl rfl rfl rfl rfl rfl rfl rfl rfl rfl rfl (hS.rd (i := 13) rfl) (chk_some hu38)) (by rintro _ w1 ⟨A87, c88, rfl, hS⟩; exact hY.wr (hO.inY [3, 11] 1 rfl rfl) hS.chg) ?_
                  rintro _ w1 hY ⟨A87, c88, rfl, hS⟩
                  have hS : St w no w1 [box b1 ([.slice none 0 0, .slice none 0 0, .slice none 0 0]) 28, box b2 ((ci .i64).enc 0) 2, tlsC G.cs 2 A9 c10 24 9 D11 y8, box b4 ([.slice A13 y12.length c14, .slice A16 y15.length c17, .slice A19 y18.length c20]) 28, box b5 ([.slice A9 y8.length c10]) 76, rowC G.cs A82 c83 9 (y12 ++ ([t28] : List ByteArray)), rowC (ci .i16) A85 c86 49 (y15 ++ ([IntKind.i16.wrap t27.1] : List Int)), rowC (ci .u16) A87 c88 55 (y18 ++ ([0] : List Int)), box b6 [.string str] 9, dfr D, rcd r rec, rowC G.cs A23 c24 9 t22, rowC G.cs A41 (([t28] : List ByteArray).length) 9 ([t28] : List ByteArray), rowC (ci .u16) A81 (([0] : List Int).length) 55 ([0] : List Int), rowC (ci .i16) A84 (([IntKind.i16.wrap t27.1] : List Int).length) 49 ([IntKind.i16.wrap t27.1] : List Int)] [envC Tryz.prog 0] := hO.out [3, 11] hS
                  refine TJ.esb rfl rfl rfl rfl (Es.store tI_ok hS (i := 3) (vs := [.slice A82 (y12 ++ ([t28] : List ByteArray)).length c83]) rfl rfl rfl (G.ad1 _ _) rfl rfl rfl rfl (one1 rfl) (Nat.le_of_ble_eq_true rfl) ([.slice A82 (y12 ++ ([t28] : List ByteArray)).length c83, .slice A16 y15.length c17, .slice A19 y18.length c20]) rfl) ?_
                  intro w1 hS
                  refine TJ.sp rfl rfl rfl rfl rfl (fun w2 => SR.fieldAddr tU_ok tI_ok rfl rfl rfl rfl rfl rfl) ?_
                  refine TJ.esb rfl rfl rfl rfl (Es.store tI_ok hS (i := 3) (vs := [.slice A85 (y15 ++ ([IntKind.i16.wrap t27.1] : List Int)).length c86]) rfl rfl rfl (G.ad1 _ _) rfl rfl rfl rfl (one1 rfl) (Nat.le_of_ble_eq_true rfl) ([.slice A82 (y12 ++ ([t28] : List ByteArray)).length c83, .slice A85 (y15 ++ ([IntKind.i16.wrap t27.1] : List Int)).length c86, .slice A19 y18.length c20]) rfl) ?_
                  intro w1 hS
                  refine TJ.sp rfl rfl rfl rfl rfl (fun w2 => SR.fieldAddr tU_ok tI_ok rfl rfl rfl rfl rfl rfl) ?_
                  refine TJ.esb rfl rfl rfl rfl (Es.store tI_ok hS (i := 3) (vs := [.slice A87 (y18 ++ ([0] : List Int)).length c88]) rfl rfl rfl (G.ad1 _ _) rfl rfl rfl rfl (one1 rfl) (Nat.le_of_ble_eq_true rfl) ([.slice A82 (y12 ++ ([t28] : List ByteArray)).length c83, .slice A85 (y15 ++ ([IntKind.i16.wrap t27.1] : List Int)).length c86, .slice A87 (y18 ++ ([0] : List Int)).length c88]) rfl) ?_
                  intro w1 hS
                  refine TJ.nil ?_
                  exact EJ.meet (F' := [(0, .string a0), (2, .pointer (some ⟨b1, 0, none⟩)), (3, .pointer (some ⟨b2, 0, none⟩)), (4, .pointer (some ⟨b4, 0, none⟩)), (5, .pointer (some ⟨b5, 0, none⟩)), (6, .string line), (7, .slice A23 t22.length c24)]) ⟨rfl, rfl, rfl, rfl, rfl, rfl, rfl, trivial⟩ ⟨A41, A82, c83, A84, A85, c86, A81, A87, c88, rfl, hS.pick [0, 1, 2, 3, 4, 5, 6, 7, 8, 9, 10, 11, 12, 14, 13] [0] rfl⟩
                refine TJ.alt ?_ ?_
                · skip
                  refine TJ.ef hY rfl rfl rfl rfl rfl (Ef.lit tU_ok tI_ok hS (C := (ci .i16)) rfl rfl rfl rfl rfl rfl ([IntKind.i16.wrap t27.1] : List Int) rfl rfl rfl rfl) ?_
                  rintro _ w1 hY ⟨A89, rfl, hS⟩
                  have hO := hS
                  refine TJ.ew rfl rfl rfl rfl rfl (Ew.append tU_ok tI_ok (C := G.cs) (xs := y12) (ys := ([t28] : List ByteArray)) (hS.inn [3, 11]) (i := 5) rfl rfl rfl rfl rfl rfl rfl rfl rfl rfl rfl rfl rfl (hS.rd (i := 12) rfl) (chk_some hu30)) (by rintro _ w1 ⟨A90, c91, rfl, hS⟩; exact hY.wr (hO.inY [3, 11] 1 rfl rfl) hS.chg) ?_
                  rintro _ w1 hY ⟨A90, c91, rfl, hS⟩
                  have hS : St w no w1 [box b1 ([.slice none 0 0, .slice none 0 0, .slice none 0 0]) 28, box b2 ((ci .i64).enc 0) 2, tlsC G.cs 2 A9 c10 24 9 D11 y8, box b4 ([.slice A13 y12.length c14, .slice A16 y15.length c17, .slice A19 y18.length c20]) 28, box b5 ([.slice A9 y8.length c10]) 76, rowC G.cs A90 c91 9 (y12 ++ ([t28] : List ByteArray)), rowC (ci .i16) A16 c17 49 y15, rowC (ci .u16) A19 c20 55 y18, box b6 [.string str] 9, dfr D, rcd r rec, rowC G.cs A23 c24 9 t22, rowC G.cs A41 (([t28] : List ByteArray).length) 9 ([t28] : List ByteArray), rowC (ci .u16) A81 (([0] : List Int).length) 55 ([0] : List Int), rowC (ci .i16) A89 (([IntKind.i16.wrap t27.1] : List Int).length) 49 ([IntKind.i16.wrap t27.1] : List Int)] [envC Tryz.prog 0] := hO.out [3, 11] hS
                  refine TJ.sp rfl rfl rfl rfl rfl (fun w2 => SR.fieldAddr tU_ok tI_ok rfl rfl rfl rfl rfl rfl) ?_
                  have hO := hS
                  refine TJ.ew rfl rfl rfl rfl rfl (Ew.append tU_ok tI_ok (C := (ci .i16)) (xs := y15) (ys := ([IntKind.i16.wrap t27.1] : List Int)) (hS.inn [3, 11]) (i := 6) rfl rfl rfl rfl rfl rfl rfl rfl rfl rfl rfl rfl rfl (hS.rd (i := 14) rfl) (chk_some hu34)) (by rintro _ w1 ⟨A92, c93, rfl, hS⟩; exact hY.wr (hO.inY [3, 11] 1 rfl rfl) hS.chg) ?_
                  rintro _ w1 hY ⟨A92, c93, rfl, hS⟩
                  have hS : St w no w1 [box b1 ([.slice none 0 0, .slice none 0 0, .slice none 0 0]) 28, box b2 ((ci .i64).enc 0) 2, tlsC G.cs 2 A9 c10 24 9 D11 y8, box b4 ([.slice A13 y12.length c14, .slice A16 y15.length c17, .slice A19 y18.length c20]) 28, box b5 ([.slice A9 y8.length c10]) 76, rowC G.cs A90 c91 9 (y12 ++ ([t28] : List ByteArray)), rowC (ci .i16) A92 c93 49 (y15 ++ ([IntKind.i16.wrap t27.1] : List Int)), rowC (ci .u16) A19 c20 55 y18, box b6 [.string str] 9, dfr D, rcd r rec, rowC G.cs A23 c24 9 t22, rowC G.cs A41 (([t28] : List ByteArray).length) 9 ([t28] : List ByteArray), rowC (ci .u16) A81 (([0] : List Int).length) 55 ([0] : List Int), rowC (ci .i16) A89 (([IntKind.i16.wrap t27.1] : List Int).length) 49 ([IntKind.i16.wrap t27.1] : List Int)] [envC Tryz.prog 0] := hO.out [3, 11] hS
                  have hO := hS
                  refine TJ.ew rfl rfl rfl rfl rfl (Ew.append tU_ok tI_ok (C := (ci .u16)) (xs := y18) (ys := ([0] : List Int)) (hS.inn [3, 11]) (i := 7) rfl rfl rfl rfl rfl rfl rfl rfl rfl rfl rfl rfl rfl (hS.rd (i := 13) rfl) (chk_some hu38)) (by rintro _ w1 ⟨A94, c95, rfl, hS⟩; exact hY.wr (hO.inY [3, 11] 1 rfl rfl) hS.chg) ?_
                  rintro _ w1 hY ⟨A94, c95, rfl, hS⟩
                  have hS : St w no w1 [box b1 ([.slice none 0 0, .slice none 0 0, .slice none 0 0]) 28, box b2 ((ci .i64).enc 0) 2, tlsC G.cs 2 A9 c10 24 9 D11 y8, box b4 ([.slice A13 y12.length c14, .slice A16 y15.length c17, .slice A19 y18.length c20]) 28, box b5 ([.slice A9 y8.length c10]) 76, rowC G.cs A90 c91 9 (y12 ++ ([t28] : List ByteArray)), rowC (ci .i16) A92 c93 49 (y15 ++ ([IntKind.i16.wrap t27.1] : List Int)), rowC (ci .u16) A94 c95 55 (y18 ++ ([0] : List Int)), box b6 [.string str] 9, dfr D, rcd r rec, rowC G.cs A23 c24 9 t22, rowC G.cs A41 (([t28] : List ByteArray).length) 9 ([t28] : List ByteArray), rowC (ci .u16) A81 (([0] : List Int).length) 55 ([0] : List Int), rowC (ci .i16) A89 (([IntKind.i16.wrap t27.1] : List Int).length) 49 ([IntKind.i16.wrap t27.1] : List Int)] [envC Tryz.prog 0] := hO.out [3, 11] hS
                  refine TJ.esb rfl rfl rfl rfl (Es.store tI_ok hS (i := 3) (vs := [.slice A90 (y12 ++ ([t28] : List ByteArray)).length c91]) rfl rfl rfl (G.ad1 _ _) rfl rfl rfl rfl (one1 rfl) (Nat.le_of_ble_eq_true rfl) ([.slice A90 (y12 ++ ([t28] : List ByteArray)).length c91, .slice A16 y15.length c17, .slice A19 y18.length c20]) rfl) ?_
                  intro w1 hS
                  refine TJ.sp rfl rfl rfl rfl rfl (fun w2 => SR.fieldAddr tU_ok tI_ok rfl rfl rfl rfl rfl rfl) ?_
                  refine TJ.esb rfl rfl rfl rfl (Es.store tI_ok hS (i := 3) (vs := [.slice A92 (y15 ++ ([IntKind.i16.wrap t27.1] : List Int)).length c93]) rfl rfl rfl (G.ad1 _ _) rfl rfl rfl rfl (one1 rfl) (Nat.le_of_ble_eq_true rfl) ([.slice A90 (y12 ++ ([t28] : List ByteArray)).length c91, .slice A92 (y15 ++ ([IntKind.i16.wrap t27.1] : List Int)).length c93, .slice A19 y18.length c20]) rfl) ?_
                  intro w1 hS
                  refine TJ.sp rfl rfl rfl rfl rfl (fun w2 => SR.fieldAddr tU_ok tI_ok rfl rfl rfl rfl rfl rfl) ?_
                  refine TJ.esb rfl rfl rfl rfl (Es.store tI_ok hS (i := 3) (vs := [.slice A94 (y18 ++ ([0] : List Int)).length c95]) rfl rfl rfl (G.ad1 _ _) rfl rfl rfl rfl (one1 rfl) (Nat.le_of_ble_eq_true rfl) ([.slice A90 (y12 ++ ([t28] : List ByteArray)).length c91, .slice A92 (y15 ++ ([IntKind.i16.wrap t27.1] : List Int)).length c93, .slice A94 (y18 ++ ([0] : List Int)).length c95]) rfl) ?_
                  intro w1 hS
                  refine TJ.nil ?_
                  exact EJ.meet (F' := [(0, .string a0), (2, .pointer (some ⟨b1, 0, none⟩)), (3, .pointer (some ⟨b2, 0, none⟩)), (4, .pointer (some ⟨b4, 0, none⟩)), (5, .pointer (some ⟨b5, 0, none⟩)), (6, .string line), (7, .slice A23 t22.length c24)]) ⟨rfl, rfl, rfl, rfl, rfl, rfl, rfl, trivial⟩ ⟨A41, A90, c91, A89, A92, c93, A81, A94, c95, rfl, hS.pick [0, 1, 2, 3, 4, 5, 6, 7, 8, 9, 10, 11, 12, 14, 13] [0] rfl⟩
                exact TJ.stop
              exact TJ.stop
            refine TJ.alt ?_ ?_
            · skip
              refine TJ.ef hY rfl rfl rfl rfl rfl (Ef.lit tU_ok tI_ok hS (C := (ci .i16)) rfl rfl rfl rfl rfl rfl ([IntKind.i16.wrap t27.1] : List Int) rfl rfl rfl rfl) ?_
              rintro _ w1 hY ⟨A96, rfl, hS⟩
              refine TJ.br ?_
              refine TJ.alt ?_ ?_
              · skip
                refine TJ.ef hY rfl rfl rfl rfl rfl (Ef.lit tU_ok tI_ok hS (C := G.cs) rfl rfl rfl rfl rfl rfl ([t28] : List ByteArray) rfl rfl rfl rfl) ?_
                rintro _ w1 hY ⟨A97, rfl, hS⟩
                refine TJ.br ?_
                refine TJ.alt ?_ ?_
                · skip
                  have hO := hS
                  refine TJ.ew rfl rfl rfl rfl rfl (Ew.append tU_ok tI_ok (C := G.cs) (xs := y12) (ys := ([t28] : List ByteArray)) (hS.inn [3, 11]) (i := 5) rfl rfl rfl rfl rfl rfl rfl rfl rfl rfl rfl rfl rfl (hS.rd (i := 13) rfl) (chk_some hu30)) (by rintro _ w1 ⟨A98, c99, rfl, hS⟩; exact hY.wr (hO.inY [3, 11] 1 rfl rfl) hS.chg) ?_
                  rintro _ w1 hY ⟨A98, c99, rfl, hS⟩
                  have hS : St w no w1 [box b1 ([.slice none 0 0, .slice none 0 0, .slice none 0 0]) 28, box b2 ((ci .i64).enc 0) 2, tlsC G.cs 2 A9 c10 24 9 D11 y8, box b4 ([.slice A13 y12.length c14, .slice A16 y15.length c17, .slice A19 y18.length c20]) 28, box b5 ([.slice A9 y8.length c10]) 76, rowC G.cs A98 c99 9 (y12 ++ ([t28] : List ByteArray)), rowC (ci .i16) A16 c17 49 y15, rowC (ci .u16) A19 c20 55 y18, box b6 [.string str] 9, dfr D, rcd r rec, rowC G.cs A23 c24 9 t22, rowC (ci .i16) A96 (([IntKind.i16.wrap t27.1] : List Int).length) 49 ([IntKind.i16.wrap t27.1] : List Int), rowC G.cs A97 (([t28] : List ByteArray).length) 9 ([t28] : List ByteArray)] [envC Tryz.prog 0] := hO.out [3, 11] hS
                  refine TJ.sp rfl rfl rfl rfl rfl (fun w2 => SR.fieldAddr tU_ok tI_ok rfl rfl rfl rfl rfl rfl) ?_
                  refine TJ.br ?_
                  refine TJ.alt ?_ ?_
                  · skip
                    have hO := hS
                    refine TJ.ew rfl rfl rfl rfl rfl (Ew.append tU_ok tI_ok (C := (ci .i16)) (xs := y15) (ys := ([IntKind.i16.wrap t27.1] : List Int)) (hS.inn [3, 11]) (i := 6) rfl rfl rfl rfl rfl rfl rfl rfl rfl rfl rfl rfl rfl (hS.rd (i := 12) rfl) (chk_some hu34)) (by rintro _ w1 ⟨A100, c101, rfl, hS⟩; exact hY.wr (hO.inY [3, 11] 1 rfl rfl) hS.chg) ?_
                    rintro _ w1 hY ⟨A100, c101, rfl, hS⟩
                    have hS : St w no w1 [box b1 ([.slice none 0 0, .slice none 0 0, .slice none 0 0]) 28, box b2 ((ci .i64).enc 0) 2, tlsC G.cs 2 A9 c10 24 9 D11 y8, box b4 ([.slice A13 y12.length c14, .slice A16 y15.length c17, .slice A19 y18.length c20]) 28, box b5 ([.slice A9 y8.length c10]) 76, rowC G.cs A98 c99 9 (y12 ++ ([t28] : List ByteArray)), rowC (ci .i16) A100 c101 49 (y15 ++ ([IntKind.i16.wrap t27.1] : List Int)), rowC (ci .u16) A19 c20 55 y18, box b6 [.string str] 9, dfr D, rcd r rec, rowC G.cs A23 c24 9 t22, rowC (ci .i16) A96 (([IntKind.i16.wrap t27.1] : List Int).length) 49 ([IntKind.i16.wrap t27.1] : List Int), rowC G.cs A97 (([t28] : List ByteArray).length) 9 ([t28] : List ByteArray)] [envC Tryz.prog 0] := hO.out [3, 11] hS
                    refine TJ.ef hY rfl rfl rfl rfl rfl (Ef.lit tU_ok tI_ok hS (C := (ci .u16)) rfl rfl rfl rfl rfl rfl ([0] : List Int) rfl rfl rfl rfl) ?_
                    rintro _ w1 hY ⟨A102, rfl, hS⟩
                    have hO := hS
                    refine TJ.ew rfl rfl rfl rfl rfl (Ew.append tU_ok tI_ok (C := (ci .u16)) (xs := y18) (ys := ([0] : List Int)) (hS.inn [3, 11]) (i := 7) rfl rfl rfl rfl rfl rfl rfl rfl rfl rfl rfl rfl rfl (hS.rd (i := 14) rfl) (chk_some hu38)) (by rintro _ w1 ⟨A103, c104, rfl, hS⟩; exact hY.wr (hO.inY [3, 11] 1 rfl rfl) hS.chg) ?_
                    rintro _ w1 hY ⟨A103, c104, rfl, hS⟩
                    have hS : St w no w1 [box b1 ([.slice none 0 0, .slice none 0 0, .slice none 0 0]) 28, box b2 ((ci .i64).enc 0) 2, tlsC G.cs 2 A9 c10 24 9 D11 y8, box b4 ([.slice A13 y12.length c14, .slice A16 y15.length c17, .slice A19 y18.length c20]) 28, box b5 ([.slice A9 y8.length c10]) 76, rowC G.cs A98 c99 9 (y12 ++ ([t28] : List ByteArray)), rowC (ci .i16) A100 c101 49 (y15 ++ ([IntKind.i16.wrap t27.1] : List Int)), rowC (ci .u16) A103 c104 55 (y18 ++ ([0] : List Int)), box b6 [.string str] 9, dfr D, rcd r rec, rowC G.cs A23 c24 9 t22, rowC (ci .i16) A96 (([IntKind.i16.wrap t27.1] : List Int).length) 49 ([IntKind.i16.wrap t27.1] : List Int), rowC G.cs A97 (([t28] : List ByteArray).length) 9 ([t28] : List ByteArray), rowC (ci .u16) A102 (([0] : List Int).length) 55 ([0] : List Int)] [envC Tryz.prog 0] := hO.out [3, 11] hS
                    refine TJ.esb rfl rfl rfl rfl (Es.store tI_ok hS (i := 3) (vs := [.slice A98 (y12 ++ ([t28] : List ByteArray)).length c99]) rfl rfl rfl (G.ad1 _ _) rfl rfl rfl rfl (one1 rfl) (Nat.le_of_ble_eq_true rfl) ([.slice A98 (y12 ++ ([t28] : List ByteArray)).length c99, .slice A16 y15.length c17, .slice A19 y18.length c20]) rfl) ?_
                    intro w1 hS
                    refine TJ.sp rfl rfl rfl rfl rfl (fun w2 => SR.fieldAddr tU_ok tI_ok rfl rfl rfl rfl rfl rfl) ?_
                    refine TJ.esb rfl rfl rfl rfl (Es.store tI_ok hS (i := 3) (vs := [.slice A100 (y15 ++ ([IntKind.i16.wrap t27.1] : List Int)).length c101]) rfl rfl rfl (G.ad1 _ _) rfl rfl rfl rfl (one1 rfl) (Nat.le_of_ble_eq_true rfl) ([.slice A98 (y12 ++ ([t28] : List ByteArray)).length c99, .slice A100 (y15 ++ ([IntKind.i16.wrap t27.1] : List Int)).length c101, .slice A19 y18.length c20]) rfl) ?_
                    intro w1 hS
                    refine TJ.sp rfl rfl rfl rfl rfl (fun w2 => SR.fieldAddr tU_ok tI_ok rfl rfl rfl rfl rfl rfl) ?_
                    refine TJ.esb rfl rfl rfl rfl (Es.store tI_ok hS (i := 3) (vs := [.slice A103 (y18 ++ ([0] : List Int)).length c104]) rfl rfl rfl (G.ad1 _ _) rfl rfl rfl rfl (one1 rfl) (Nat.le_of_ble_eq_true rfl) ([.slice A98 (y12 ++ ([t28] : List ByteArray)).length c99, .slice A100 (y15 ++ ([IntKind.i16.wrap t27.1] : List Int)).length c101, .slice A103 (y18 ++ ([0] : List Int)).length c104]) rfl) ?_
                    intro w1 hS
                    refine TJ.nil ?_
                    exact EJ.meet (F' := [(0, .string a0), (2, .pointer (some ⟨b1, 0, none⟩)), (3, .pointer (some ⟨b2, 0, none⟩)), (4, .pointer (some ⟨b4, 0, none⟩)), (5, .pointer (some ⟨b5, 0, none⟩)), (6, .string line), (7, .slice A23 t22.length c24)]) ⟨rfl, rfl, rfl, rfl, rfl, rfl, rfl, trivial⟩ ⟨A97, A98, c99, A96, A100, c101, A102, A103, c104, rfl, hS.pick [0, 1, 2, 3, 4, 5, 6, 7, 8, 9, 10, 11, 13, 12, 14] [0] rfl⟩
                  refine TJ.alt ?_ ?_
                  · skip
                    refine TJ.ef hY rfl rfl rfl rfl rfl (Ef.lit tU_ok tI_ok hS (C := (ci .u16)) rfl rfl rfl rfl rfl rfl ([0] : List Int) rfl rfl rfl rfl) ?_
                    rintro _ w1 hY ⟨A105, rfl, hS⟩
                    have hO := hS
                    refine TJ.ew rfl rfl rfl rfl rfl (Ew.append tU_ok tI_ok (C := (ci .i16)) (xs := y15) (ys := ([IntKind.i16.wrap t27.1] : List Int)) (hS.inn [3, 11]) (i := 6) rfl rfl rfl rfl rfl rfl rfl rfl rfl rfl rfl rfl rfl (hS.rd (i := 12) rfl) (chk_some hu34)) (by rintro _ w1 ⟨A106, c107, rfl, hS⟩; exact hY.wr (hO.inY [3, 11] 1 rfl rfl) hS.chg) ?_
                    rintro _ w1 hY ⟨A106, c107, rfl, hS⟩
                    have hS : St w no w1 [box b1 ([.slice none 0 0, .slice none 0 0, .slice none 0 0]) 28, box b2 ((ci .i64).enc 0) 2, tlsC G.cs 2 A9 c10 24 9 D11 y8, box b4 ([.slice A13 y12.length c14, .slice A16 y15.length c17, .slice A19 y18.length c20]) 28, box b5 ([.slice A9 y8.length c10]) 76, rowC G.cs A98 c99 9 (y12 ++ ([t28] : List ByteArray)), rowC (ci .i16) A106 c107 49 (y15 ++ ([IntKind.i16.wrap t27.1] : List Int)), rowC (ci .u16) A19 c20 55 y18, box b6 [.string str] 9, dfr D, rcd r rec, rowC G.cs A23 c24 9 t22, rowC (ci .i16) A96 (([IntKind.i16.wrap t27.1] : List Int).length) 49 ([IntKind.i16.wrap t27.1] : List Int), rowC G.cs A97 (([t28] : List ByteArray).length) 9 ([t28] : List ByteArray), rowC (ci .u16) A105 (([0] : List Int).length) 55 ([0] : List Int)] [envC Tryz.prog 0] := hO.out [3, 11] hS
                    have hO := hS
                    refine TJ.ew rfl rfl rfl rfl rfl (Ew.append tU_ok tI_ok (C := (ci .u16)) (xs := y18) (ys := ([0] : List Int)) (hS.inn [3, 11]) (i := 7) rfl rfl rfl rfl rfl rfl rfl rfl rfl rfl rfl rfl rfl (hS.rd (i := 14) rfl) (chk_some hu38)) (by rintro _ w1 ⟨A108, c109, rfl, hS⟩; exact hY.wr (hO.inY [3, 11] 1 rfl rfl) hS.chg) ?_
                    rintro _ w1 hY ⟨A108, c109, rfl, hS⟩
                    have hS : St w no w1 [box b1 ([.slice none 0 0, .slice none 0 0, .slice none 0 0]) 28, box b2 ((ci .i64).enc 0) 2, tlsC G.cs 2 A9 c10 24 9 D11 y8, box b4 ([.slice A13 y12.length c14, .slice A16 y15.length c17, .slice A19 y18.length c20]) 28, box b5 ([.slice A9 y8.length c10]) 76, rowC G.cs A98 c99 9 (y12 ++ ([t28] : List ByteArray)), rowC (ci .i16) A106 c107 49 (y15 ++ ([IntKind.i16.wrap t27.1] : List Int)), rowC (ci .u16) A108 c109 55 (y18 ++ ([0] : List Int)), box b6 [.string str] 9, dfr D, rcd r rec, rowC G.cs A23 c24 9 t22, rowC (ci .i16) A96 (([IntKind.i16.wrap t27.1] : List Int).length) 49 ([IntKind.i16.wrap t27.1] : List Int), rowC G.cs A97 (([t28] : List ByteArray).length) 9 ([t28] : List ByteArray), rowC (ci .u16) A105 (([0] : List Int).length) 55 ([0] : List Int)] [envC Tryz.prog 0] := hO.out [3, 11] hS
                    refine TJ.esb rfl rfl rfl rfl (Es.store tI_ok hS (i := 3) (vs := [.slice A98 (y12 ++ ([t28] : List ByteArray)).length c99]) rfl rfl rfl (G.ad1 _ _) rfl rfl rfl rfl (one1 rfl) (Nat.le_of_ble_eq_true rfl) ([.slice A98 (y12 ++ ([t28] : List ByteArray)).length c99, .slice A16 y15.length c17, .slice A19 y18.length c20]) rfl) ?_
                    intro w1 hS
                    refine TJ.sp rfl rfl rfl rfl rfl (fun w2 => SR.fieldAddr tU_ok tI_ok rfl rfl rfl rfl rfl rfl) ?_
                    refine TJ.esb rfl rfl rfl rfl (Es.store tI_ok hS (i := 3) (vs := [.slice A106 (y15 ++ ([IntKind.i16.wrap t27.1] : List Int)).length c107]) rfl rfl rfl (G.ad1 _ _) rfl rfl rfl rfl (one1 rfl) (Nat.le_of_ble_eq_true rfl) ([.slice A98 (y12 ++ ([t28] : List ByteArray)).length c99, .slice A106 (y15 ++ ([IntKind.i16.wrap t27.1] : List Int)).length c107, .slice A19 y18.length c20]) rfl) ?_
                    intro w1 hS
                    refine TJ.sp rfl rfl rfl rfl rfl (fun w2 => SR.fieldAddr tU_ok tI_ok rfl rfl rfl rfl rfl rfl) ?_
                    refine TJ.esb rfl rfl rfl rfl (Es.store tI_ok hS (i := 3) (vs := [.slice A108 (y18 ++ ([0] : List Int)).length c109]) rfl rfl rfl (G.ad1 _ _) rfl rfl rfl rfl (one1 rfl) (Nat.le_of_ble_eq_true rfl) ([.slice A98 (y12 ++ ([t28] : List ByteArray)).length c99, .slice A106 (y15 ++ ([IntKind.i16.wrap t27.1] : List Int)).length c107, .slice A108 (y18 ++ ([0] : List Int)).length c109]) rfl) ?_
                    intro w1 hS
                    refine TJ.nil ?_
                    exact EJ.meet (F' := [(0, .string a0), (2, .pointer (some ⟨b1, 0, none⟩)), (3, .pointer (some ⟨b2, 0, none⟩)), (4, .pointer (some ⟨b4, 0, none⟩)), (5, .pointer (some ⟨b5, 0, none⟩)), (6, .string line), (7, .slice A23 t22.length c24)]) ⟨rfl, rfl, rfl, rfl, rfl, rfl, rfl, trivial⟩ ⟨A97, A98, c99, A96, A106, c107, A105, A108, c109, rfl, hS.pick [0, 1, 2, 3, 4, 5, 6, 7, 8, 9, 10, 11, 13, 12, 14] [0] rfl⟩
                  exact TJ.stop
                refine TJ.alt ?_ ?_
                · skip
                  refine TJ.ef hY rfl rfl rfl rfl rfl (Ef.lit tU_ok tI_ok hS (C := (ci .u16)) rfl rfl rfl rfl rfl rfl ([0] : List Int) rfl rfl rfl rfl) ?_
                  rintro _ w1 hY ⟨A110, rfl, hS⟩
                  have hO := hS
                  refine TJ.ew rfl rfl rfl rfl rfl (Ew.append tU_ok tI_ok (C := G.cs) (xs := y12) (ys := ([t28] : List ByteArray)) (hS.inn [3, 11]) (i := 5) rfl rfl rfl rfl rfl rfl rfl rfl rfl rfl rfl rfl rfl (hS.rd (i := 13) rfl) (chk_some hu30)) (by rintro _ w1 ⟨A111, c112, rfl, hS⟩; exact hY.wr (hO.inY [3, 11] 1 rfl rfl) hS.chg) ?_
                  rintro _ w1 hY ⟨A111, c112, rfl, hS⟩
                  have hS : St w no w1 [box b1 ([.slice none 0 0, .slice none 0 0, .slice none 0 0]) 28, box b2 ((ci .i64).enc 0) 2, tlsC G.cs 2 A9 c10 24 9 D11 y8, box b4 ([.slice A13 y12.length c14, .slice A16 y15.length c17, .slice A19 y18.length c20]) 28, box b5 ([.slice A9 y8.length c10]) 76, rowC G.cs A111 c112 9 (y12 ++ ([t28] : List ByteArray)), rowC (ci .i16) A16 c17 49 y15, rowC (ci .u16) A19 c20 55 y18, box b6 [.string str] 9, dfr D, rcd r rec, rowC G.cs A23 c24 9 t22, rowC (ci .i16) A96 (([IntKind.i16.wrap t27.1] : List Int).length) 49 ([IntKind.i16.wrap t27.1] : List Int), rowC G.cs A97 (([t28] : List ByteArray).length) 9 ([t28] : List ByteArray), rowC (ci .u16) A110 (([0] : List Int).length) 55 ([0] : List Int)] [envC Tryz.prog 0] := hO.out [3, 11] hS
                  refine TJ.sp rfl rfl rfl rfl rfl (fun w2 => SR.fieldAddr tU_ok tI_ok rfl rfl rfl rfl rfl rfl) ?_
                  have hO := hS
                  refine TJ.ew rfl rfl rfl rfl rfl (Ew.append tU_ok tI_ok (C := (ci .i16)) (xs := y15) (ys := ([IntKind.i16.wrap t27.1] : List Int)) (hS.inn [3, 11]) (i := 6) rfl rfl rfl rfl rfl rfl rfl rfl rfl rfl rfl rfl rfl (hS.rd (i := 12) rfl) (chk_some hu34)) (by rintro _ w1 ⟨A113, c114, rfl, hS⟩; exact hY.wr (hO.inY [3, 11] 1 rfl rfl) hS.chg) ?_
                  rintro _ w1 hY ⟨A113, c114, rfl, hS⟩
                  have hS : St w no w1 [box b1 ([.slice none 0 0, .slice none 0 0, .slice none 0 0]) 28, box b2 ((ci .i64).enc 0) 2, tlsC G.cs 2 A9 c10 24 9 D11 y8, box b4 ([.slice A13 y12.length c14, .slice A16 y15.length c17, .slice A19 y18.length c20]) 28, box b5 ([.slice A9 y8.length c10]) 76, rowC G.cs A111 c112 9 (y12 ++ ([t28] : List ByteArray)), rowC (ci .i16) A113 c114 49 (y15 ++ ([IntKind.i16.wrap t27.1] : List Int)), rowC (ci .u16) A19 c20 55 y18, box b6 [.string str] 9, dfr D, rcd r rec, rowC G.cs A23 c24 9 t22, rowC (ci .i16) A96 (([IntKind.i16.wrap t27.1] : List Int).length) 49 ([IntKind.i16.wrap t27.1] : List Int), rowC G.cs A97 (([t28] : List ByteArray).length) 9 ([t28] : List ByteArray), rowC (ci .u16) A110 (([0] : List Int).length) 55 ([0] : List Int)] [envC Tryz.prog 0] := hO.out [3, 11] hS
                  have hO := hS
                  refine TJ.ew rfl rfl rfl rfl rfl (Ew.append tU_ok tI_ok (C := (ci .u16)) (xs := y18) (ys := ([0] : List Int)) (hS.inn [3, 11]) (i := 7) rfl rfl rfl rfl rfl rfl rfl rfl rfl rfl rfl rfl rfl (hS.rd (i := 14) rfl) (chk_some hu38)) (by rintro _ w1 ⟨A115, c116, rfl, hS⟩; exact hY.wr (hO.inY [3, 11] 1 rfl rfl) hS.chg) ?_
                  rintro _ w1 hY ⟨A115, c116, rfl, hS⟩
                  have hS : St w no w1 [box b1 ([.slice none 0 0, .slice none 0 0, .slice none 0 0]) 28, box b2 ((ci .i64).enc 0) 2, tlsC G.cs 2 A9 c10 24 9 D11 y8, box b4 ([.slice A13 y12.length c14, .slice A16 y15.length c17, .slice A19 y18.length c20]) 28, box b5 ([.slice A9 y8.length c10]) 76, rowC G.cs A111 c112 9 (y12 ++ ([t28] : List ByteArray)), rowC (ci .i16) A113 c114 49 (y15 ++ ([IntKind.i16.wrap t27.1] : List Int)), rowC (ci .u16) A115 c116 55 (y18 ++ ([0] : List Int)), box b6 [.string str] 9, dfr D, rcd r rec, rowC G.cs A23 c24 9 t22, rowC (ci .i16) A96 (([IntKind.i16.wrap t27.1] : List Int).length) 49 ([IntKind.i16.wrap t27.1] : List Int), rowC G.cs A97 (([t28] : List ByteArray).length) 9 ([t28] : List ByteArray), rowC (ci .u16) A110 (([0] : List Int).length) 55 ([0] : List Int)] [envC Tryz.prog 0] := hO.out [3, 11] hS
                  refine TJ.esb rfl rfl rfl rfl (Es.store tI_ok hS (i := 3) (vs := [.slice A111 (y12 ++ ([t28] : List ByteArray)).length c112]) rfl rfl rfl (G.ad1 _ _) rfl rfl rfl rfl (one1 rfl) (Nat.le_of_ble_eq_true rfl) ([.slice A111 (y12 ++ ([t28] : List ByteArray)).length c112, .slice A16 y15.length c17, .slice A19 y18.length c20]) rfl) ?_
                  intro w1 hS
                  refine TJ.sp rfl rfl rfl rfl rfl (fun w2 => SR.fieldAddr tU_ok tI_ok rfl rfl rfl rfl rfl rfl) ?_
                  refine TJ.esb rfl rfl rfl rfl (Es.store tI_ok hS (i := 3) (vs := [.slice A113 (y15 ++ ([IntKind.i16.wrap t27.1] : List Int)).length c114]) rfl rfl rfl (G.ad1 _ _) rfl rfl rfl rfl (one1 rfl) (Nat.le_of_ble_eq_true rfl) ([.slice A111 (y12 ++ ([t28] : List ByteArray)).length c112, .slice A113 (y15 ++ ([IntKind.i16.wrap t27.1] : List Int)).length c114, .slice A19 y18.length c20]) rfl) ?_
                  intro w1 hS
                  refine TJ.sp rfl rfl rfl rfl rfl (fun w2 => SR.fieldAddr tU_ok tI_ok rfl rfl rfl rfl rfl rfl) ?_
                  refine TJ.esb rfl rfl rfl rfl (Es.store tI_ok hS (i := 3) (vs := [.slice A115 (y18 ++ ([0] : List Int)).length c116]) rfl rfl rfl (G.ad1 _ _) rfl rfl rfl rfl (one1 rfl) (Nat.le_of_ble_eq_true rfl) ([.slice A111 (y12 ++ ([t28] : List ByteArray)).length c112, .slice A113 (y15 ++ ([IntKind.i16.wrap t27.1] : List Int)).length c114, .slice A115 (y18 ++ ([0] : List Int)).length c116]) rfl) ?_
                  intro w1 hS
                  refine TJ.nil ?_
                  exact EJ.meet (F' := [(0, .string a0), (2, .pointer (some ⟨b1, 0, none⟩)), (3, .pointer (some ⟨b2, 0, none⟩)), (4, .pointer (some ⟨b4, 0, none⟩)), (5, .pointer (some ⟨b5, 0, none⟩)), (6, .string line), (7, .slice A23 t22.length c24)]) ⟨rfl, rfl, rfl, rfl, rfl, rfl, rfl, trivial⟩ ⟨A97, A111, c112, A96, A113, c114, A110, A115, c116, rfl, hS.pick [0, 1, 2, 3, 4, 5, 6, 7, 8, 9, 10, 11, 13, 12, 14] [0] rfl⟩
                exact TJ.stop
              refine TJ.alt ?_ ?_
              · skip
                refine TJ.ef hY rfl rfl rfl rfl rfl (Ef.lit tU_ok tI_ok hS (C := (ci .u16)) rfl rfl rfl rfl rfl rfl ([0] : List Int) rfl rfl rfl rfl) ?_
                rintro _ w1 hY ⟨A117, rfl, hS⟩
                refine TJ.ef hY rfl rfl rfl rfl rfl (Ef.lit tU_ok tI_ok hS (C := G.cs) rfl rfl rfl rfl rfl rfl ([t28] : List ByteArray) rfl rfl rfl rfl) ?_
                rintro _ w1 hY ⟨A118, rfl, hS⟩
                have hO := hS
                refine TJ.ew rfl rfl rfl rfl rfl (Ew.append tU_ok tI_ok (C := G.cs) (xs := y12) (ys := ([t28] : List ByteArray)) (hS.inn [3, 11]) (i := 5) rfl rfl rfl rfl rfl rfl rfl rfl rfl rfl rfl rfl rfl (hS.rd (i := 14) rfl) (chk_some hu30)) (by rintro _ w1 ⟨A119, c120, rfl, hS⟩; exact hY.wr (hO.inY [3, 11] 1 rfl rfl) hS.chg) ?_
                rintro _ w1 hY ⟨A119, c120, rfl, hS⟩
                have hS : St w no w1 [box b1 ([.slice none 0 0, .slice none 0 0, .slice none 0 0]) 28, box b2 ((ci .i64).enc 0) 2, tlsC G.cs 2 A9 c10 24 9 D11 y8, box b4 ([.slice A13 y12.length c14, .slice A16 y15.length c17, .slice A19 y18.length c20]) 28, box b5 ([.slice A9 y8.length c10]) 76, rowC G.cs A119 c120 9 (y12 ++ ([t28] : List ByteArray)), rowC (ci .i16) A16 c17 49 y15, rowC (ci .u16) A19 c20 55 y18, box b6 [.string str] 9, dfr D, rcd r rec, rowC G.cs A23 c24 9 t22, rowC (ci .i16) A96 (([IntKind.i16.wrap t27.1] : List Int).length) 49 ([IntKind.i16.wrap t27.1] : List Int), rowC (ci .u16) A117 (([0] : List Int).length) 55 ([0] : List Int), rowC G.cs A118 (([t28] : List ByteArray).length) 9 ([t28] : List ByteArray)] [envC Tryz.prog 0] := hO.out [3, 11] hS
                refine TJ.sp rfl rfl rfl rfl rfl (fun w2 => SR.fieldAddr tU_ok tI_ok rfl rfl rfl rfl rfl rfl) ?_
                have hO := hS
                refine TJ.ew rfl rfl rfl rfl rfl (Ew.append tU_ok tI_ok (C := (ci .i16)) (xs := y15) (ys := ([IntKind.i16.wrap t27.1] : List Int)) (hS.inn [3, 11]) (i := 6) rfl rfl rfl rfl rfl rfl rfl rfl rfl rfl rfl rfl rfl (hS.rd (i := 12) rfl) (chk_some hu34)) (by rintro _ w1 ⟨A121, c122, rfl, hS⟩; exact hY.wr (hO.inY [3, 11] 1 rfl rfl) hS.chg) ?_
                rintro _ w1 hY ⟨A121, c122, rfl, hS⟩
                have hS : St w no w1 [box b1 ([.slice none 0 0, .slice none 0 0, .slice none 0 0]) 28, box b2 ((ci .i64).enc 0) 2, tlsC G.cs 2 A9 c10 24 9 D11 y8, box b4 ([.slice A13 y12.length c14, .slice A16 y15.length c17, .slice A19 y18.length c20]) 28, box b5 ([.slice A9 y8.length c10]) 76, rowC G.cs A119 c120 9 (y12 ++ ([t28] : List ByteArray)), rowC (ci .i16) A121 c122 49 (y15 ++ ([IntKind.i16.wrap t27.1] : List Int)), rowC (ci .u16) A19 c20 55 y18, box b6 [.string str] 9, dfr D, rcd r rec, rowC G.cs A23 c24 9 t22, rowC (ci .i16) A96 (([IntKind.i16.wrap t27.1] : List Int).length) 49 ([IntKind.i16.wrap t27.1] : List Int), rowC (ci .u16) A117 (([0] : List Int).length) 55 ([0] : List Int), rowC G.cs A118 (([t28] : List ByteArray).length) 9 ([t28] : List ByteArray)] [envC Tryz.prog 0] := hO.out [3, 11] hS
                have hO := hS
                refine TJ.ew rfl rfl rfl rfl rfl (Ew.append tU_ok tI_ok (C := (ci .u16)) (xs := y18) (ys := ([0] : List Int)) (hS.inn [3, 11]) (i := 7) rfl rfl rfl rfl rfl rfl rfl rfl rfl rfl rfl rfl rfl (hS.rd (i := 13) rfl) (chk_some hu38)) (by rintro _ w1 ⟨A123, c124, rfl, hS⟩; exact hY.wr (hO.inY [3, 11] 1 rfl rfl) hS.chg) ?_
                rintro _ w1 hY ⟨A123, c124, rfl, hS⟩
                have hS : St w no w1 [box b1 ([.slice none 0 0, .slice none 0 0, .slice none 0 0]) 28, box b2 ((ci .i64).enc 0) 2, tlsC G.cs 2 A9 c10 24 9 D11 y8, box b4 ([.slice A13 y12.length c14, .slice A16 y15.length c17, .slice A19 y18.length c20]) 28, box b5 ([.slice A9 y8.length c10]) 76, rowC G.cs A119 c120 9 (y12 ++ ([t28] : List ByteArray)), rowC (ci .i16) A121 c122 49 (y15 ++ ([IntKind.i16.wrap t27.1] : List Int)), rowC (ci .u16) A123 c124 55 (y18 ++ ([0] : List Int)), box b6 [.string str] 9, dfr D, rcd r rec, rowC G.cs A23 c24 9 t22, rowC (ci .i16) A96 (([IntKind.i16.wrap t27.1] : List Int).length) 49 ([IntKind.i16.wrap t27.1] : List Int), rowC (ci .u16) A117 (([0] : List Int).length) 55 ([0] : List Int), rowC G.cs A118 (([t28] : List ByteArray).length) 9 ([t28] : List ByteArray)] [envC Tryz.prog 0] := hO.out [3, 11] hS
                refine TJ.esb rfl rfl rfl rfl (Es.store tI_ok hS (i := 3) (vs := [.slice A119 (y12 ++ ([t28] : List ByteArray)).length c120]) rfl rfl rfl (G.ad1 _ _) rfl rfl rfl rfl (one1 rfl) (Nat.le_of_ble_eq_true rfl) ([.slice A119 (y12 ++ ([t28] : List ByteArray)).length c120, .slice A16 y15.length c17, .slice A19 y18.length c20]) rfl) ?_
                intro w1 hS
                refine TJ.sp rfl rfl rfl rfl rfl (fun w2 => SR.fieldAddr tU_ok tI_ok rfl rfl rfl rfl rfl rfl) ?_
                refine TJ.esb rfl rfl rfl rfl (Es.store tI_ok hS (i := 3) (vs := [.slice A121 (y15 ++ ([IntKind.i16.wrap t27.1] : List Int)).length c122]) rfl rfl rfl (G.ad1 _ _) rfl rfl rfl rfl (one1 rfl) (Nat.le_of_ble_eq_true rfl) ([.slice A119 (y12 ++ ([t28] : List ByteArray)).length c120, .slice A121 (y15 ++ ([IntKind.i16.wrap t27.1] : List Int)).length c122, .slice A19 y18.length c20]) rfl) ?_
                intro w1 hS
                refine TJ.sp rfl rfl rfl rfl rfl (fun w2 => SR.fieldAddr tU_ok tI_ok rfl rfl rfl rfl rfl rfl) ?_
                refine TJ.esb rfl rfl rfl rfl (Es.store tI_ok hS (i := 3) (vs := [.slice A123 (y18 ++ ([0] : List Int)).length c124]) rfl rfl rfl (G.ad1 _ _) rfl rfl rfl rfl (one1 rfl) (Nat.le_of_ble_eq_true rfl) ([.slice A119 (y12 ++ ([t28] : List ByteArray)).length c120, .slice A121 (y15 ++ ([IntKind.i16.wrap t27.1] : List Int)).length c122, .slice A123 (y18 ++ ([0] : List Int)).length c124]) rfl) ?_
                intro w1 hS
                refine TJ.nil ?_
                exact EJ.meet (F' := [(0, .string a0), (2, .pointer (some ⟨b1, 0, none⟩)), (3, .pointer (some ⟨b2, 0, none⟩)), (4, .pointer (some ⟨b4, 0, none⟩)), (5, .pointer (some ⟨b5, 0, none⟩)), (6, .string line), (7, .slice A23 t22.length c24)]) ⟨rfl, rfl, rfl, rfl, rfl, rfl, rfl, trivial⟩ ⟨A118, A119, c120, A96, A121, c122, A117, A123, c124, rfl, hS.pick [0, 1, 2, 3, 4, 5, 6, 7, 8, 9, 10, 11, 14, 12, 13] [0] rfl⟩
              exact TJ.stop
            refine TJ.alt ?_ ?_
            · skip
              refine TJ.ef hY rfl rfl rfl rfl rfl (Ef.lit tU_ok tI_ok hS (C := (ci .u16)) rfl rfl rfl rfl rfl rfl ([0] : List Int) rfl rfl rfl rfl) ?_
              rintro _ w1 hY ⟨A125, rfl, hS⟩
              refine TJ.br ?_
              refine TJ.alt ?_ ?_
              · skip
                refine TJ.ef hY rfl rfl rfl rfl rfl (Ef.lit tU_ok tI_ok hS (C := G.cs) rfl rfl rfl rfl rfl rfl ([t28] : List ByteArray) rfl rfl rfl rfl) ?_
                rintro _ w1 hY ⟨A126, rfl, hS⟩
                refine TJ.br ?_
                refine TJ.alt ?_ ?_
                · skip
                  have hO := hS
                  refine TJ.ew rfl rfl rfl rfl rfl (Ew.append tU_ok tI_ok (C := G.cs) (xs := y12) (ys := ([t28] : List ByteArray)) (hS.inn [3, 11]) (i := 5) rfl rfl rfl rfl rfl rfl rfl rfl rfl rfl rfl rfl rfl (hS.rd (i := 13) rfl) (chk_some hu30)) (by rintro _ w1 ⟨A127, c128, rfl, hS⟩; exact hY.wr (hO.inY [3, 11] 1 rfl rfl) hS.chg) ?_
                  rintro _ w1 hY ⟨A127, c128, rfl, hS⟩
                  have hS : St w no w1 [box b1 ([.slice none 0 0, .slice none 0 0, .slice none 0 0]) 28, box b2 ((ci .i64).enc 0) 2, tlsC G.cs 2 A9 c10 24 9 D11 y8, box b4 ([.slice A13 y12.length c14, .slice A16 y15.length c17, .slice A19 y18.length c20]) 28, box b5 ([.slice A9 y8.length c10]) 76, rowC G.cs A127 c128 9 (y12 ++ ([t28] : List ByteArray)), rowC (ci .i16) A16 c17 49 y15, rowC (ci .u16) A19 c20 55 y18, box b6 [.string str] 9, dfr D, rcd r rec, rowC G.cs A23 c24 9 t22, rowC (ci .u16) A125 (([0] : List Int).length) 55 ([0] : List Int), rowC G.cs A126 (([t28] : List ByteArray).length) 9 ([t28] : List ByteArray)] [envC Tryz.prog 0] := hO.out [3, 11] hS
                  refine TJ.sp rfl rfl rfl rfl rfl (fun w2 => SR.fieldAddr tU_ok tI_ok rfl rfl rfl rfl rfl rfl) ?_
                  refine TJ.ef hY rfl rfl rfl rfl rfl (Ef.lit tU_ok tI_ok hS (C := (ci .i16)) rfl rfl rfl rfl rfl rfl ([IntKind.i16.wrap t27.1] : List Int) rfl rfl rfl rfl) ?_
                  rintro _ w1 hY ⟨A129, rfl, hS⟩
                  have hO := hS
                  refine TJ.ew rfl rfl rfl rfl rfl (Ew.append tU_ok tI_ok (C := (ci .i16)) (xs := y15) (ys := ([IntKind.i16.wrap t27.1] : List Int)) (hS.inn [3, 11]) (i := 6) rfl rfl rfl rfl rfl rfl rfl rfl rfl rfl rfl rfl rfl (hS.rd (i := 14) rfl) (chk_some hu34)) (by rintro _ w1 ⟨A130, c131, rfl, hS⟩; exact hY.wr (hO.inY [3, 11] 1 rfl rfl) hS.chg) ?_
                  rintro _ w1 hY ⟨A130, c131, rfl, hS⟩
                  have hS : St w no w1 [box b1 ([.slice none 0 0, .slice none 0 0, .slice none 0 0]) 28, box b2 ((ci .i64).enc 0) 2, tlsC G.cs 2 A9 c10 24 9 D11 y8, box b4 ([.slice A13 y12.length c14, .slice A16 y15.length c17, .slice A19 y18.length c20]) 28, box b5 ([.slice A9 y8.length c10]) 76, rowC G.cs A127 c128 9 (y12 ++ ([t28] : List ByteArray)), rowC (ci .i16) A130 c131 49 (y15 ++ ([IntKind.i16.wrap t27.1] : List Int)), rowC (ci .u16) A19 c20 55 y18, box b6 [.string str] 9, dfr D, rcd r rec, rowC G.cs A23 c24 9 t22, rowC (ci .u16) A125 (([0] : List Int).length) 55 ([0] : List Int), rowC G.cs A126 (([t28] : List ByteArray).length) 9 ([t28] : List ByteArray), rowC (ci .i16) A129 (([IntKind.i16.wrap t27.1] : List Int).length) 49 ([IntKind.i16.wrap t27.1] : List Int)] [envC Tryz.prog 0] := hO.out [3, 11] hS
                  have hO := hS
                  refine TJ.ew rfl rfl rfl rfl rfl (Ew.append tU_ok tI_ok (C := (ci .u16)) (xs := y18) (ys := ([0] : List Int)) (hS.inn [3, 11]) (i := 7) rfl rfl rfl rfl rfl rfl rfl rfl rfl rfl rfl rfl rfl (hS.rd (i := 12) rfl) (chk_some hu38)) (by rintro _ w1 ⟨A132, c133, rfl, hS⟩; exact hY.wr (hO.inY [3, 11] 1 rfl rfl) hS.chg) ?_
                  rintro _ w1 hY ⟨A132, c133, rfl, hS⟩
                  have hS : St w no w1 [box b1 ([.slice none 0 0, .slice none 0 0, .slice none 0 0]) 28, box b2 ((ci .i64).enc 0) 2, tlsC G.cs 2 A9 c10 24 9 D11 y8, box b4 ([.slice A13 y12.length c14, .slice A16 y15.length c17, .slice A19 y18.length c20]) 28, box b5 ([.slice A9 y8.length c10]) 76, rowC G.cs A127 c128 9 (y12 ++ ([t28] : List ByteArray)), rowC (ci .i16) A130 c131 49 (y15 ++ ([IntKind.i16.wrap t27.1] : List Int)), rowC (ci .u16) A132 c133 55 (y18 ++ ([0] : List Int)), box b6 [.string str] 9, dfr D, rcd r rec, rowC G.cs A23 c24 9 t22, rowC (ci .u16) A125 (([0] : List Int).length) 55 ([0] : List Int), rowC G.cs A126 (([t28] : List ByteArray).length) 9 ([t28] : List ByteArray), rowC (ci .i16) A129 (([IntKind.i16.wrap t27.1] : List Int).length) 49 ([IntKind.i16.wrap t27.1] : List Int)] [envC Tryz.prog 0] := hO.out [3, 11] hS
                  refine TJ.esb rfl rfl rfl rfl (Es.store tI_ok hS (i := 3) (vs := [.slice A127 (y12 ++ ([t28] : List ByteArray)).length c128]) rfl rfl rfl (G.ad1 _ _) rfl rfl rfl rfl (one1 rfl) (Nat.le_of_ble_eq_true rfl) ([.slice A127 (y12 ++ ([t28] : List ByteArray)).length c128, .slice A16 y15.length c17, .slice A19 y18.length c20]) rfl) ?_
                  intro w1 hS
                  refine TJ.sp rfl rfl rfl rfl rfl (fun w2 => SR.fieldAddr tU_ok tI_ok rfl rfl rfl rfl rfl rfl) ?_
                  refine TJ.esb rfl rfl rfl rfl (Es.store tI_ok hS (i := 3) (vs := [.slice A130 (y15 ++ ([IntKind.i16.wrap t27.1] : List Int)).length c131]) rfl rfl rfl (G.ad1 _ _) rfl rfl rfl rfl (one1 rfl) (Nat.le_of_ble_eq_true rfl) ([.slice A127 (y12 ++ ([t28] : List ByteArray)).length c128, .slice A130 (y15 ++ ([IntKind.i16.wrap t27.1] : List Int)).length c131, .slice A19 y18.length c20]) rfl) ?_
                  intro w1 hS
                  refine TJ.sp rfl rfl rfl rfl rfl (fun w2 => SR.fieldAddr tU_ok tI_ok rfl rfl rfl rfl rfl rfl) ?_
                  refine TJ.esb rfl rfl rfl rfl (Es.store tI_ok hS (i := 3) (vs := [.slice A132 (y18 ++ ([0] : List Int)).length c133]) rfl rfl rfl (G.ad1 _ _) rfl rfl rfl rfl (one1 rfl) (Nat.le_of_ble_eq_true rfl) ([.slice A127 (y12 ++ ([t28] : List ByteArray)).length c128, .slice A130 (y15 ++ ([IntKind.i16.wrap t27.1] : List Int)).length c131, .slice A132 (y18 ++ ([0] : List Int)).length c133]) rfl) ?_
                  intro w1 hS
                  refine TJ.nil ?_
                  exact EJ.meet (F' := [(0, .string a0), (2, .pointer (some ⟨b1, 0, none⟩)), (3, .pointer (some ⟨b2, 0, none⟩)), (4, .pointer (some ⟨b4, 0, none⟩)), (5, .pointer (some ⟨b5, 0, none⟩)), (6, .string line), (7, .slice A23 t22.length c24)]) ⟨rfl, rfl, rfl, rfl, rfl, rfl, rfl, trivial⟩ ⟨A126, A127, c128, A129, A130, c131, A125, A132, c133, rfl, hS.pick [0, 1, 2, 3, 4, 5, 6, 7, 8, 9, 10, 11, 13, 14, 12] [0] rfl⟩
                refine TJ.alt ?_ ?_
                · skip
                  refine TJ.ef hY rfl rfl rfl rfl rfl (Ef.lit tU_ok tI_ok hS (C := (ci .i16)) rfl rfl rfl rfl rfl rfl ([IntKind.i16.wrap t27.1] : List Int) rfl rfl rfl rfl) ?_
                  rintro _ w1 hY ⟨A134, rfl, hS⟩
                  have hO := hS
                  refine TJ.ew rfl rfl rfl rfl rfl (Ew.append tU_ok tI_ok (C := G.cs) (xs := y12) (ys := ([t28] : List ByteArray)) (hS.inn [3, 11]) (i := 5) rfl rfl rfl rfl rfl rfl rfl rfl rfl rfl rfl rfl rfl (hS.rd (i := 13) rfl) (chk_some hu30)) (by rintro _ w1 ⟨A135, c136, rfl, hS⟩; exact hY.wr (hO.inY [3, 11] 1 rfl rfl) hS.chg) ?_
                  rintro _ w1 hY ⟨A135, c136, rfl, hS⟩
                  have hS : St w no w1 [box b1 ([.slice none 0 0, .slice none 0 0, .slice none 0 0]) 28, box b2 ((ci .i64).enc 0) 2, tlsC G.cs 2 A9 c10 24 9 D11 y8, box b4 ([.slice A13 y12.length c14, .slice A16 y15.length c17, .slice A19 y18.length c20]) 28, box b5 ([.slice A9 y8.length c10]) 76, rowC G.cs A135 c136 9 (y12 ++ ([t28] : List ByteArray)), rowC (ci .i16) A16 c17 49 y15, rowC (ci .u16) A19 c20 55 y18, box b6 [.string str] 9, dfr D, rcd r rec, rowC G.cs A23 c24 9 t22, rowC (ci .u16) A125 (([0] : List Int).length) 55 ([0] : List Int), rowC G.cs A126 (([t28] : List ByteArray).length) 9 ([t28] : List ByteArray), rowC (ci .i16) A134 (([IntKind.i16.wrap t27.1] : List Int).length) 49 ([IntKind.i16.wrap t27.1] : List Int)] [envC Tryz.prog 0] := hO.out [3, 11] hS
                  refine TJ.sp rfl rfl rfl rfl rfl (fun w2 => SR.fieldAddr tU_ok tI_ok rfl rfl rfl rfl rfl rfl) ?_
                  have hO := hS
                  refine TJ.ew rfl rfl rfl rfl rfl (Ew.append tU_ok tI_ok (C := (ci .i16)) (xs := y15) (ys := ([IntKind.i16.wrap t27.1] : List Int)) (hS.inn [3, 11]) (i := 6) rfl rfl rfl rfl rfl rfl rfl rfl rfl rfl rfl rfl rfl (hS.rd (i := 14) rfl) (chk_some hu34)) (by rintro _ w1 ⟨A137, c138, rfl, hS⟩; exact hY.wr (hO.inY [3, 11] 1 rfl rfl) hS.chg) ?_
                  rintro _ w1 hY ⟨A137, c138, rfl, hS⟩
                  have hS : St w no w1 [box b1 ([.slice none 0 0, .slice none 0 0, .slice none 0 0]) 28, box b2 ((ci .i64).enc 0) 2, tlsC G.cs 2 A9 c10 24 9 D11 y8, box b4 ([.slice A13 y12.length c14, .slice A16 y15.length c17, .slice A19 y18.length c20]) 28, box b5 ([.slice A9 y8.length c10]) 76, rowC G.cs A135 c136 9 (y12 ++ ([t28] : List ByteArray)), rowC (ci .i16) A137 c138 49 (y15 ++ ([IntKind.i16.wrap t27.1] : List Int)), rowC (ci .u16) A19 c20 55 y18, box b6 [.string str] 9, dfr D, rcd r rec, rowC G.cs A23 c24 9 t22, rowC (ci .u16) A125 (([0] : List Int).length) 55 ([0] : List Int), rowC G.cs A126 (([t28] : List ByteArray).length) 9 ([t28] : List ByteArray), rowC (ci .i16) A134 (([IntKind.i16.wrap t27.1] : List Int).length) 49 ([IntKind.i16.wrap t27.1] : List Int)] [envC Tryz.prog 0] := hO.out [3, 11] hS
                  have hO := hS
                  refine TJ.ew rfl rfl rfl rfl rfl (Ew.append tU_ok tI_ok (C := (ci .u16)) (xs := y18) (ys := ([0] : List Int)) (hS.inn [3, 11]) (i := 7) rfl rfl rfl rfl rfl rfl rfl rfl rfl rfl rfl rfl rfl (hS.rd (i := 12) rfl) (chk_some hu38)) (by rintro _ w1 ⟨A139, c140, rfl, hS⟩; exact hY.wr (hO.inY [3, 11] 1 rfl rfl) hS.chg) ?_
                  rintro _ w1 hY ⟨A139, c140, rfl, hS⟩
                  have hS : St w no w1 [box b1 ([.slice none 0 0, .slice none 0 0, .slice none 0 0]) 28, box b2 ((ci .i64).enc 0) 2, tlsC G.cs 2 A9 c10 24 9 D11 y8, box b4 ([.slice A13 y12.length c14, .slice A16 y15.length c17, .slice A19 y18.length c20]) 28, box b5 ([.slice A9 y8.length c10]) 76, rowC G.cs A135 c136 9 (y12 ++ ([t28] : List ByteArray)), rowC (ci .i16) A137 c138 49 (y15 ++ ([IntKind.i16.wrap t27.1] : List Int)), rowC (ci .u16) A139 c140 55 (y18 ++ ([0] : List Int)), box b6 [.string str] 9, dfr D, rcd r rec, rowC G.cs A23 c24 9 t22, rowC (ci .u16) A125 (([0] : List Int).length) 55 ([0] : List Int), rowC G.cs A126 (([t28] : List ByteArray).length) 9 ([t28] : List ByteArray), rowC (ci .i16) A134 (([IntKind.i16.wrap t27.1] : List Int).length) 49 ([IntKind.i16.wrap t27.1] : List Int)] [envC Tryz.prog 0] := hO.out [3, 11] hS
                  refine TJ.esb rfl rfl rfl rfl (Es.store tI_ok hS (i := 3) (vs := [.slice A135 (y12 ++ ([t28] : List ByteArray)).length c136]) rfl rfl rfl (G.ad1 _ _) rfl rfl rfl rfl (one1 rfl) (Nat.le_of_ble_eq_true rfl) ([.slice A135 (y12 ++ ([t28] : List ByteArray)).length c136, .slice A16 y15.length c17, .slice A19 y18.length c20]) rfl) ?_
                  intro w1 hS
                  refine TJ.sp rfl rfl rfl rfl rfl (fun w2 => SR.fieldAddr tU_ok tI_ok rfl rfl rfl rfl rfl rfl) ?_
                  refine TJ.esb rfl rfl rfl rfl (Es.store tI_ok hS (i := 3) (vs := [.slice A137 (y15 ++ ([IntKind.i16.wrap t27.1] : List Int)).length c138]) rfl rfl rfl (G.ad1 _ _) rfl rfl rfl rfl (one1 rfl) (Nat.le_of_ble_eq_true rfl) ([.slice A135 (y12 ++ ([t28] : List ByteArray)).length c136, .slice A137 (y15 ++ ([IntKind.i16.wrap t27.1] : List Int)).length c138, .slice A19 y18.length c20]) rfl) ?_
                  intro w1 hS
                  refine TJ.sp rfl rfl rfl rfl rfl (fun w2 => SR.fieldAddr tU_ok tI_ok rfl rfl rfl rfl rfl rfl) ?_
                  refine TJ.esb rfl rfl rfl rfl (Es.store tI_ok hS (i := 3) (vs := [.slice A139 (y18 ++ ([0] : List Int)).length c140]) rfl rfl rfl (G.ad1 _ _) rfl rfl rfl rfl (one1 rfl) (Nat.le_of_ble_eq_true rfl) ([.slice A135 (y12 ++ ([t28] : List ByteArray)).length c136, .slice A137 (y15 ++ ([IntKind.i16.wrap t27.1] : List Int)).length c138, .slice A139 (y18 ++ ([0] : List Int)).length c140]) rfl) ?_
                  intro w1 hS
                  refine TJ.nil ?_
                  exact EJ.meet (F' := [(0, .string a0), (2, .pointer (some ⟨b1, 0, none⟩)), (3, .pointer (some ⟨b2, 0, none⟩)), (4, .pointer (some ⟨b4, 0, none⟩)), (5, .pointer (some ⟨b5, 0, none⟩)), (6, .string line), (7, .slice A23 t22.length c24)]) ⟨rfl, rfl, rfl, rfl, rfl, rfl, rfl, trivial⟩ ⟨A126, A135, c136, A134, A137, c138, A125, A139, c140, rfl, hS.pick [0, 1, 2, 3, 4, 5, 6, 7, 8, 9, 10, 11, 13, 14, 12] [0] rfl⟩
                exact TJ.stop
              refine TJ.alt ?_ ?_
              · skip
                refine TJ.ef hY rfl rfl rfl rfl rfl (Ef.lit tU_ok tI_ok hS (C := (ci .i16)) rfl rfl rfl rfl rfl rfl ([IntKind.i16.wrap t27.1] : List Int) rfl rfl rfl rfl) ?_
                rintro _ w1 hY ⟨A141, rfl, hS⟩
                refine TJ.ef hY rfl rfl rfl rfl rfl (Ef.lit tU_ok tI_ok hS (C := G.cs) rfl rfl rfl rfl rfl rfl ([t28] : List ByteArray) rfl rfl rfl rfl) ?_
                rintro _ w1 hY ⟨A142, rfl, hS⟩
                have hO := hS
                refine TJ.ew rfl rfl rfl rfl rfl (Ew.append tU_ok tI_ok (C := G.cs) (xs := y12) (ys := ([t28] : List ByteArray)) (hS.inn [3, 11]) (i := 5) rfl rfl rfl rfl rfl rfl rfl rfl rfl rfl rfl rfl rfl (hS.rd (i := 14) rfl) (chk_some hu30)) (by rintro _ w1 ⟨A143, c144, rfl, hS⟩; exact hY.wr (hO.inY [3, 11] 1 rfl rfl) hS.chg) ?_
                rintro _ w1 hY ⟨A143, c144, rfl, hS⟩
                have hS : St w no w1 [box b1 ([.slice none 0 0, .slice none 0 0, .slice none 0 0]) 28, box b2 ((ci .i64).enc 0) 2, tlsC G.cs 2 A9 c10 24 9 D11 y8, box b4 ([.slice A13 y12.length c14, .slice A16 y15.length c17, .slice A19 y18.length c20]) 28, box b5 ([.slice A9 y8.length c10]) 76, rowC G.cs A143 c144 9 (y12 ++ ([t28] : List ByteArray)), rowC (ci .i16) A16 c17 49 y15, rowC (ci .u16) A19 c20 55 y18, box b6 [.string str] 9, dfr D, rcd r rec, rowC G.cs A23 c24 9 t22, rowC (ci .u16) A125 (([0] : List Int).length) 55 ([0] : List Int), rowC (ci .i16) A141 (([IntKind.i16.wrap t27.1] : List Int).length) 49 ([IntKind.i16.wrap t27.1] : List Int), rowC G.cs A142 (([t28] : List ByteArray).length) 9 ([t28] : List ByteArray)] [envC Tryz.prog 0] := hO.out [3, 11] hS
                refine TJ.sp rfl rfl rfl rfl rfl (fun w2 => SR.fieldAddr tU_ok tI_ok rfl rfl rfl rfl rfl rfl) ?_
                have hO := hS
                refine TJ.ew rfl rfl rfl rfl rfl (Ew.append tU_ok tI_ok (C := (ci .i16)) (xs := y15) (ys := ([IntKind.i16.wrap t27.1] : List Int)) (hS.inn [3, 11]) (i := 6) rfl rfl rfl rfl rfl rfl rfl rfl rfl rfl rfl rfl rfl (hS.rd (i := 13) rfl) (chk_some hu34)) (by rintro _ w1 ⟨A145, c146, rfl, hS⟩; exact hY.wr (hO.inY [3, 11] 1 rfl rfl) hS.chg) ?_
                rintro _ w1 hY ⟨A145, c146, rfl, hS⟩
                have hS : St w no w1 [box b1 ([.slice none 0 0, .slice none 0 0, .slice none 0 0]) 28, box b2 ((ci .i64).enc 0) 2, tlsC G.cs 2 A9 c10 24 9 D11 y8, box b4 ([.slice A13 y12.length c14, .slice A16 y15.length c17, .slice A19 y18.length c20]) 28, box b5 ([.slice A9 y8.length c10]) 76, rowC G.cs A143 c144 9 (y12 ++ ([t28] : List ByteArray)), rowC (ci .i16) A145 c146 49 (y15 ++ ([IntKind.i16.wrap t27.1] : List Int)), rowC (ci .u16) A19 c20 55 y18, box b6 [.string str] 9, dfr D, rcd r rec, rowC G.cs A23 c24 9 t22, rowC (ci .u16) A125 (([0] : List Int).length) 55 ([0] : List Int), rowC (ci .i16) A141 (([IntKind.i16.wrap t27.1] : List Int).length) 49 ([IntKind.i16.wrap t27.1] : List Int), rowC G.cs A142 (([t28] : List ByteArray).length) 9 ([t28] : List ByteArray)] [envC Tryz.prog 0] := hO.out [3, 11] hS
                have hO := hS
                refine TJ.ew rfl rfl rfl rfl rfl (Ew.append tU_ok tI_ok (C := (ci .u16)) (xs := y18) (ys := ([0] : List Int)) (hS.inn [3, 11]) (i := 7) rfl rfl rfl rfl rfl rfl rfl rfl rfl rfl rfl rfl rfl (hS.rd (i := 12) rfl) (chk_some hu38)) (by rintro _ w1 ⟨A147, c148, rfl, hS⟩; exact hY.wr (hO.inY [3, 11] 1 rfl rfl) hS.chg) ?_
                rintro _ w1 hY ⟨A147, c148, rfl, hS⟩
                have hS : St w no w1 [box b1 ([.slice none 0 0, .slice none 0 0, .slice none 0 0]) 28, box b2 ((ci .i64).enc 0) 2, tlsC G.cs 2 A9 c10 24 9 D11 y8, box b4 ([.slice A13 y12.length c14, .slice A16 y15.length c17, .slice A19 y18.length c20]) 28, box b5 ([.slice A9 y8.length c10]) 76, rowC G.cs A143 c144 9 (y12 ++ ([t28] : List ByteArray)), rowC (ci .i16) A145 c146 49 (y15 ++ ([IntKind.i16.wrap t27.1] : List Int)), rowC (ci .u16) A147 c148 55 (y18 ++ ([0] : List Int)), box b6 [.string str] 9, dfr D, rcd r rec, rowC G.cs A23 c24 9 t22, rowC (ci .u16) A125 (([0] : List Int).length) 55 ([0] : List Int), rowC (ci .i16) A141 (([IntKind.i16.wrap t27.1] : List Int).length) 49 ([IntKind.i16.wrap t27.1] : List Int), rowC G.cs A142 (([t28] : List ByteArray).length) 9 ([t28] : List ByteArray)] [envC Tryz.prog 0] := hO.out [3, 11] hS
                refine TJ.esb rfl rfl rfl rfl (Es.store tI_ok hS (i := 3) (vs := [.slice A143 (y12 ++ ([t28] : List ByteArray)).length c144]) rfl rfl rfl (G.ad1 _ _) rfl rfl rfl rfl (one1 rfl) (Nat.le_of_ble_eq_true rfl) ([.slice A143 (y12 ++ ([t28] : List ByteArray)).length c144, .slice A16 y15.length c17, .slice A19 y18.length c20]) rfl) ?_
                intro w1 hS
                refine TJ.sp rfl rfl rfl rfl rfl (fun w2 => SR.fieldAddr tU_ok tI_ok rfl rfl rfl rfl rfl rfl) ?_
                refine TJ.esb rfl rfl rfl rfl (Es.store tI_ok hS (i := 3) (vs := [.slice A145 (y15 ++ ([IntKind.i16.wrap t27.1] : List Int)).length c146]) rfl rfl rfl (G.ad1 _ _) rfl rfl rfl rfl (one1 rfl) (Nat.le_of_ble_eq_true rfl) ([.slice A143 (y12 ++ ([t28] : List ByteArray)).length c144, .slice A145 (y15 ++ ([IntKind.i16.wrap t27.1] : List Int)).length c146, .slice A19 y18.length c20]) rfl) ?_
                intro w1 hS
                refine TJ.sp rfl rfl rfl rfl rfl (fun w2 => SR.fieldAddr tU_ok tI_ok rfl rfl rfl rfl rfl rfl) ?_
                refine TJ.esb rfl rfl rfl rfl (Es.store tI_ok hS (i := 3) (vs := [.slice A147 (y18 ++ ([0] : List Int)).length c148]) rfl rfl rfl (G.ad1 _ _) rfl rfl rfl rfl (one1 rfl) (Nat.le_of_ble_eq_true rfl) ([.slice A143 (y12 ++ ([t28] : List ByteArray)).length c144, .slice A145 (y15 ++ ([IntKind.i16.wrap t27.1] : List Int)).length c146, .slice A147 (y18 ++ ([0] : List Int)).length c148]) rfl) ?_
                intro w1 hS
                refine TJ.nil ?_
                exact EJ.meet (F' := [(0, .string a0), (2, .pointer (some ⟨b1, 0, none⟩)), (3, .pointer (some ⟨b2, 0, none⟩)), (4, .pointer (some ⟨b4, 0, none⟩)), (5, .pointer (some ⟨b5, 0, none⟩)), (6, .string line), (7, .slice A23 t22.length c24)]) ⟨rfl, rfl, rfl, rfl, rfl, rfl, rfl, trivial⟩ ⟨A142, A143, c144, A141, A145, c146, A125, A147, c148, rfl, hS.pick [0, 1, 2, 3, 4, 5, 6, 7, 8, 9, 10, 11, 14, 13, 12] [0] rfl⟩
              exact TJ.stop
            exact TJ.stop
          · rintro F w1 ⟨A29, A31, c32, A33, A35, c36, A37, A39, c40, rfl, hS⟩
            refine EJ.next ?_
            refine CJ.draw [] [0, 1, 2, 3, 4, 5] mixed (by kernel_rfl) hS fun w1 hS => ?_
            refine DJ.st rfl rfl rfl rfl rfl (SR.load rfl rfl (fun w' hx => ld1 tU_ok rfl rfl (CA.ext (hS.cells (i := 4) rfl) hx) rfl)) ?_
            refine DJ.pures tU_ok 1 rfl ?_
            obtain ⟨u149, hu149, H⟩ := pbind H
            refine DJ.st rfl rfl rfl rfl rfl (SR.cutS tU_ok tI_ok ((2 : Int).toNat) (t22.length) rfl rfl rfl rfl rfl rfl (.inr ⟨_, _, rfl, (chk_some hu149).1, rfl⟩) (.inl ⟨rfl, rfl⟩) (by have := (chk_some hu149); omega) (by have := (chk_some hu149); have := (hS.le (i := 11) rfl : t22.length ≤ c24); omega)) ?_
            refine DJ.ef rfl rfl rfl rfl rfl (Ef.litT1 (C := G.cs) (lo := 2) tU_ok tI_ok hS (k := 11) rfl (by have := (chk_some hu149); omega) rfl rfl rfl rfl rfl) ?_
            rintro _ w1 ⟨A150, rfl, hS⟩
            obtain ⟨u151, hu151, H⟩ := pbind H
            refine DJ.ew rfl rfl rfl rfl rfl (Ew.appendT tU_ok tI_ok hS (i := 2) (j := 15) rfl rfl rfl rfl rfl rfl rfl rfl rfl rfl rfl rfl rfl rfl (chk_some hu151)) ?_
            rintro _ w1 ⟨A152, c153, rfl, hS⟩
            refine DJ.es rfl rfl rfl rfl (Es.store tI_ok hS (i := 4) (vs := [.slice A152 (y8 ++ [t22.drop 2]).length c153]) rfl rfl rfl rfl rfl rfl rfl rfl (one1 rfl) (Nat.le_of_ble_eq_true rfl) ([.slice A152 (y8 ++ [t22.drop 2]).length c153]) rfl) ?_
            intro w1 hS
            refine DJ.nil (EJ.blk (?_))
            exact next (y8 ++ [t22.drop 2], y12 ++ ([t28] : List ByteArray), y15 ++ ([IntKind.i16.wrap t27.1] : List Int), y18 ++ ([0] : List Int), A152, c153, D11 ++ [(A23, c24, t22)], A31, c32, A35, c36, A39, c40) _ _ H (hS.pick [0, 1, 2, 3, 4, 5, 6, 7, 8, 9, 10] [0] rfl)
  · rintro D ⟨y8, y12, y15, y18, A9, c10, D11, A13, c14, A16, c17, A19, c20⟩ w1 H hS
    replace H : impl_ReadHerd.l1 k [] y8 y12 y15 y18 = some j105 := H
    replace hS : St w no w1 [box b1 ([.slice none 0 0, .slice none 0 0, .slice none 0 0]) 28, box b2 ((ci .i64).enc 0) 2, tlsC G.cs 2 A9 c10 24 9 D11 y8, box b4 ([.slice A13 y12.length c14, .slice A16 y15.length c17, .slice A19 y18.length c20]) 28, box b5 ([.slice A9 y8.length c10]) 76, rowC G.cs A13 c14 9 y12, rowC (ci .i16) A16 c17 49 y15, rowC (ci .u16) A19 c20 55 y18, dfr D] [envC Tryz.prog 0] := hS
    rw [impl_ReadHerd.l1] at H
    obtain rfl := Option.some.inj H
    have H := K105
    refine EJ.blk (EJ.next ?_)
    refine CJ.seq ?_
    refine CJ.seq ?_
    refine CJ.region ?_
    refine OJ.st rfl rfl rfl (SR.load rfl rfl (fun w' hx => ld1 tU_ok rfl rfl (CA.ext (hS.cells (i := 4) rfl) hx) rfl)) ?_
    refine OJ.pures tU_ok 2 rfl ?_
    refine OJ.nil (EJ.next ?_)
    obtain ⟨j110, H, K110⟩ := pbind H
    refine CJ.cut1 (fun F w1 => ∃ (y154 : List Int) , (some (Sum.inr y154) : Option ((Herd × Int) ⊕ (List Int))) = some j110 ∧ F = [(0, .string a0), (2, .pointer (some ⟨b1, 0, none⟩)), (3, .pointer (some ⟨b2, 0, none⟩)), (4, .pointer (some ⟨b4, 0, none⟩))] ∧ St w no w1 [box b1 ([.slice none 0 0, .slice none 0 0, .slice none 0 0]) 28, box b2 ((ci .i64).enc 0) 2, box b4 ([.slice A13 y12.length c14, .slice A16 y15.length c17, .slice A19 y154.length c20]) 28, rowC G.cs A13 c14 9 y12, rowC (ci .i16) A16 c17 49 y15, rowC (ci .u16) A19 c20 55 y154, dfr D] [envC Tryz.prog 0]) ?_ ?_
    · skip
      refine CJ.block ?_
      refine CJ.loop (fun k F w1 => ∃ (y155 : List Int) (y156 : Int), F = [(0, .string a0), (2, .pointer (some ⟨b1, 0, none⟩)), (3, .pointer (some ⟨b2, 0, none⟩)), (4, .pointer (some ⟨b4, 0, none⟩)), (67, .slice A9 y8.length c10), (68, .int .i64 (y8.length : Int)), (69, .int .i64 y156)] ∧ St w no w1 [box b1 ([.slice none 0 0, .slice none 0 0, .slice none 0 0]) 28, box b2 ((ci .i64).enc 0) 2, tlsC G.cs 2 A9 c10 24 9 D11 y8, box b4 ([.slice A13 y12.length c14, .slice A16 y15.length c17, .slice A19 y155.length c20]) 28, rowC G.cs A13 c14 9 y12, rowC (ci .i16) A16 c17 49 y15, rowC (ci .u16) A19 c20 55 y155, dfr D] [envC Tryz.prog 0] ∧ impl_ReadHerd.l2 y8 y12 k y155 y156 = some j110) k (F' := [(0, .string a0), (2, .pointer (some ⟨b1, 0, none⟩)), (3, .pointer (some ⟨b2, 0, none⟩)), (4, .pointer (some ⟨b4, 0, none⟩)), (67, .slice A9 y8.length c10), (68, .int .i64 (y8.length : Int)), (69, .int .i64 0)]) ⟨rfl, rfl, rfl, rfl, rfl, rfl, rfl, trivial⟩ ⟨y18, 0, rfl, hS.pick [0, 1, 2, 3, 5, 6, 7, 8] [0] rfl, H⟩ ?_
      rintro k F w1 ⟨y155, y156, rfl, hS, H⟩
      cases k with
      | zero => rw [impl_ReadHerd.l2] at H; cases H
      | succ k =>
        rw [impl_ReadHerd.l2] at H
        refine CJ.seq ?_
        refine CJ.region ?_
        refine OJ.pures tU_ok 1 rfl ?_
        refine OJ.nil (EJ.next ?_)
        refine CJ.seq ?_
        refine CJ.cond rfl (fun hb => ?_) (fun hb => ?_)
        · replace H := pif_t (of_decide_eq_true hb) H
          refine CJ.skip (EJ.next ?_)
          obtain ⟨j118, H, K118⟩ := pbind H
          refine CJ.cut (fun F w1 => ∃ (y157 : List Int) , (some (Sum.inr y157) : Option (((Herd × Int) ⊕ (List Int)) ⊕ (List Int))) = some j118 ∧ F = [(0, .string a0), (2, .pointer (some ⟨b1, 0, none⟩)), (3, .pointer (some ⟨b2, 0, none⟩)), (4, .pointer (some ⟨b4, 0, none⟩)), (67, .slice A9 y8.length c10), (68, .int .i64 (y8.length : Int)), (69, .int .i64 y156)] ∧ St w no w1 [box b1 ([.slice none 0 0, .slice none 0 0, .slice none 0 0]) 28, box b2 ((ci .i64).enc 0) 2, tlsC G.cs 2 A9 c10 24 9 D11 y8, box b4 ([.slice A13 y12.length c14, .slice A16 y15.length c17, .slice A19 y157.length c20]) 28, rowC G.cs A13 c14 9 y12, rowC (ci .i16) A16 c17 49 y15, rowC (ci .u16) A19 c20 55 y157, dfr D] [envC Tryz.prog 0]) ?_ ?_
          · skip
            refine CJ.block ?_
            refine CJ.seq ?_
            refine CJ.region ?_
            refine OJ.pures tU_ok 1 rfl ?_
            obtain ⟨t158, ht158, H⟩ := pbind H
            obtain ⟨Ae158, ce158, g158, d158, hx158⟩ := ros_el (hS.tlsRo (i := 2) rfl) ht158
            obtain ⟨ad158, e158⟩ := (ros_rd (hS.tlsRo (i := 2) rfl)).some' g158
            refine OJ.st rfl rfl rfl (SR.idxS tU_ok tI_ok rfl rfl rfl rfl e158 rfl (getI_some ht158).1) ?_
            refine OJ.st rfl rfl rfl (SR.load rfl rfl (fun w' hx => ld1 tU_ok rfl rfl (CA.ext ((ros_rd (hS.tlsRo (i := 2) rfl)).at_ e158 g158) hx) rfl)) ?_
            refine OJ.pures tU_ok 2 rfl ?_
            refine OJ.nil (EJ.next ?_)
            refine CJ.seq ?_
            refine CJ.region ?_
            refine OJ.pures tU_ok 3 rfl ?_
            refine OJ.nil (EJ.next ?_)
            obtain ⟨j120, H, K120⟩ := pbind H
            refine CJ.cut1 (fun F w1 => ∃ (y159 : List Int) , (some (Sum.inr y159) : Option ((((Herd × Int) ⊕ (List Int)) ⊕ (List Int)) ⊕ (List Int))) = some j120 ∧ F = [(0, .string a0), (2, .pointer (some ⟨b1, 0, none⟩)), (3, .pointer (some ⟨b2, 0, none⟩)), (4, .pointer (some ⟨b4, 0, none⟩)), (67, .slice A9 y8.length c10), (68, .int .i64 (y8.length : Int)), (69, .int .i64 y156)] ∧ St w no w1 [box b1 ([.slice none 0 0, .slice none 0 0, .slice none 0 0]) 28, box b2 ((ci .i64).enc 0) 2, tlsC G.cs 2 A9 c10 24 9 D11 y8, box b4 ([.slice A13 y12.length c14, .slice A16 y15.length c17, .slice A19 y159.length c20]) 28, rowC G.cs A13 c14 9 y12, rowC (ci .i16) A16 c17 49 y15, rowC (ci .u16) A19 c20 55 y159, dfr D] [envC Tryz.prog 0]) ?_ ?_
            · skip
              refine CJ.block ?_
              refine CJ.loop (fun k F w1 => ∃ (y160 : List Int) (y161 : Int), F = [(0, .string a0), (2, .pointer (some ⟨b1, 0, none⟩)), (3, .pointer (some ⟨b2, 0, none⟩)), (4, .pointer (some ⟨b4, 0, none⟩)), (10, .int .i64 y156), (67, .slice A9 y8.length c10), (68, .int .i64 (y8.length : Int)), (69, .int .i64 y156), (74, .slice Ae158 t158.length ce158), (75, .int .i64 (t158.length : Int)), (76, .int .i64 y161)] ∧ St w no w1 [box b1 ([.slice none 0 0, .slice none 0 0, .slice none 0 0]) 28, box b2 ((ci .i64).enc 0) 2, tlsC G.cs 2 A9 c10 24 9 D11 y8, box b4 ([.slice A13 y12.length c14, .slice A16 y15.length c17, .slice A19 y160.length c20]) 28, rowC G.cs A13 c14 9 y12, rowC (ci .i16) A16 c17 49 y15, rowC (ci .u16) A19 c20 55 y160, dfr D] [envC Tryz.prog 0] ∧ impl_ReadHerd.l3 y12 y156 t158 k y160 y161 = some j120) k (F' := [(0, .string a0), (2, .pointer (some ⟨b1, 0, none⟩)), (3, .pointer (some ⟨b2, 0, none⟩)), (4, .pointer (some ⟨b4, 0, none⟩)), (10, .int .i64 y156), (67, .slice A9 y8.length c10), (68, .int .i64 (y8.length : Int)), (69, .int .i64 y156), (74, .slice Ae158 t158.length ce158), (75, .int .i64 (t158.length : Int)), (76, .int .i64 0)]) ⟨rfl, rfl, rfl, rfl, rfl, rfl, rfl, rfl, rfl, rfl, rfl, trivial⟩ ⟨y155, 0, rfl, hS.pick [0, 1, 2, 3, 4, 5, 6, 7] [0] rfl, H⟩ ?_
              rintro k F w1 ⟨y160, y161, rfl, hS, H⟩
              cases k with
              | zero => rw [impl_ReadHerd.l3] at H; cases H
              | succ k =>
                rw [impl_ReadHerd.l3] at H
                refine CJ.seq ?_
                refine CJ.region ?_
                refine OJ.pures tU_ok 1 rfl ?_
                refine OJ.nil (EJ.next ?_)
                refine CJ.seq ?_
                refine CJ.cond rfl (fun hb => ?_) (fun hb => ?_)
                · replace H := pif_t (of_decide_eq_true hb) H
                  refine CJ.skip (EJ.next ?_)
                  refine CJ.seq ?_
                  refine CJ.block ?_
                  refine CJ.seq ?_
                  refine CJ.region ?_
                  obtain ⟨t162, ht162, H⟩ := pbind H
                  obtain ⟨ad162, e162⟩ := ((ros_sub (hS.tlsRo (i := 2) rfl) d158 hx158)).some' ht162
                  refine OJ.st rfl rfl rfl (SR.idxS tU_ok tI_ok rfl rfl rfl rfl e162 rfl (getI_some ht162).1) ?_
                  refine OJ.st rfl rfl rfl (SR.load rfl rfl (fun w' hx => ld1 tU_ok rfl rfl (CA.ext ((ros_sub (hS.tlsRo (i := 2) rfl) d158 hx158).at_ e162 ht162) hx) rfl)) ?_
                  refine OJ.pures tU_ok 1 rfl ?_
                  refine OJ.nil (EJ.next ?_)
                  refine CJ.seq ?_
                  refine CJ.region ?_
                  refine OJ.st rfl rfl rfl (SR.fieldAddr tU_ok tI_ok rfl rfl rfl rfl rfl rfl) ?_
                  refine OJ.st rfl rfl rfl (SR.load rfl rfl (fun w' hx => ld1 tU_ok rfl rfl (CA.ext (CA.sub (hS.cells (i := 3) rfl) 0) hx) rfl)) ?_
                  refine OJ.pures tU_ok 1 rfl ?_
                  obtain ⟨t163, ht163, H⟩ := pbind H
                  refine OJ.callF rfl rfl rfl rfl rfl hb41 rfl (slices_Index_string_string.c k _ A13 c14 y12 (hS.rd (i := 4) rfl) (hS.le (i := 4) rfl) t162 _ ht163) ?_
                  rintro _ w1 ⟨rfl, hs⟩
                  replace hS := hS.grow hs
                  refine OJ.pures tU_ok 1 rfl ?_
                  refine OJ.nil (EJ.next ?_)
                  refine CJ.seq ?_
                  refine CJ.seq ?_
                  refine CJ.region ?_
                  refine OJ.pures tU_ok 2 rfl ?_
                  refine OJ.nil (EJ.next ?_)
                  refine CJ.cond rfl (fun hb => ?_) (fun hb => ?_)
                  · replace H := pif_t (of_decide_eq_true hb) H
                    refine CJ.seq ?_
                    refine CJ.region ?_
                    refine OJ.st rfl rfl rfl (SR.build' tU_ok tI_ok rfl rfl rfl (zs := [.slice none 0 0, .slice none 0 0, .slice none 0 0]) rfl rfl rfl ([.slice none 0 0, .slice none 0 0, .slice none 0 0]) rfl) ?_
                    refine OJ.es rfl rfl (Es.store tI_ok hS (i := 0) (vs := [.slice none 0 0, .slice none 0 0, .slice none 0 0]) rfl rfl rfl rfl rfl rfl rfl rfl (by intro u hu; simp only [List.mem_cons, List.not_mem_nil, or_false] at hu; rcases hu with rfl | rfl | rfl <;> rfl) (Nat.le_of_ble_eq_true rfl) ([.slice none 0 0, .slice none 0 0, .slice none 0 0]) rfl) ?_
                    intro w1 hS
                    refine OJ.es rfl rfl (Es.store tI_ok hS (i := 1) rfl rfl rfl rfl rfl rfl (vs := (ci .i64).enc 5) rfl rfl (one1 rfl) (Nat.le_of_ble_eq_true rfl) ((ci .i64).enc 5) rfl) ?_
                    intro w1 hS
                    refine OJ.nil (EJ.next ?_)
                    refine CJ.ret (EJ.skR (EJ.bkR (EJ.skR (EJ.skR (EJ.bkR (EJ.skR (EJ.bkR (EJ.skR (EJ.skR (EJ.bkR (EJ.skR (EJ.skR (?_)))))))))))))
                    first | (obtain rfl := Option.some.inj H; have H := K120) | (obtain ⟨q120, H2, e120⟩ := pbind H; obtain rfl := Option.some.inj e120; obtain rfl := Option.some.inj K120; have H := H2)
                    first | (obtain rfl := Option.some.inj H; have H := K118) | (obtain ⟨q118, H2, e118⟩ := pbind H; obtain rfl := Option.some.inj e118; obtain rfl := Option.some.inj K118; have H := H2)
                    first | (obtain rfl := Option.some.inj H; have H := K110) | (obtain ⟨q110, H2, e110⟩ := pbind H; obtain rfl := Option.some.inj e110; obtain rfl := Option.some.inj K110; have H := H2)
                    replace hS := hS.addNil G.cs 9 none
                    replace hS := hS.addNil (ci .i16) 49 none
                    replace hS := hS.addNil (ci .u16) 55 none
                    obtain rfl := Option.some.inj H
                    refine EJ.finM (L := [box b1 ([.slice none 0 0, .slice none 0 0, .slice none 0 0]) 28, box b2 ((ci .i64).enc 5) 2, rowC G.cs none 0 9 [], rowC (ci .i16) none 0 49 [], rowC (ci .u16) none 0 55 []]) (vs := [.agg [.slice none 0 0, .slice none 0 0, .slice none 0 0].toArray, .int .i64 5]) rfl (hS.pick [0, 1, 8, 9, 10, 7] [] rfl) fun w' hS => ?_
                    exact ⟨(.cell rfl (ldN tU_ok tI_ok rfl rfl rfl (hS.cells (i := 0) rfl) (ds := [.slice none 0 0, .slice none 0 0, .slice none 0 0]) rfl rfl) (.cell rfl (ld1 tU_ok rfl rfl (hS.cells (i := 1) rfl) rfl) .nil)), none, 0, none, 0, none, 0, rfl, hS.pick [2, 3, 4] [] rfl⟩
                  · replace H := pif_f (of_decide_eq_false hb) H
                    refine CJ.skip (EJ.next ?_)
                    refine CJ.draw [] [0, 1, 2, 3, 4, 5, 6, 7, 8, 9] mixed (by kernel_rfl) hS fun w1 hS => ?_
                    refine DJ.st rfl rfl rfl rfl rfl (SR.fieldAddr tU_ok tI_ok rfl rfl rfl rfl rfl rfl) ?_
                    refine DJ.st rfl rfl rfl rfl rfl (SR.load rfl rfl (fun w' hx => ld1 tU_ok rfl rfl (CA.ext (CA.sub (hS.cells (i := 3) rfl) 2) hx) rfl)) ?_
                    refine DJ.pures tU_ok 1 rfl ?_
                    obtain ⟨t164, ht164, H⟩ := pbind H
                    obtain ⟨ad164, e164⟩ := (hS.rd (i := 6) rfl).some' ht164
                    refine DJ.st rfl rfl rfl rfl rfl (SR.idxS tU_ok tI_ok rfl rfl rfl rfl e164 rfl (getI_some ht164).1) ?_
                    refine DJ.st rfl rfl rfl rfl rfl (SR.load rfl rfl (fun w' hx => ld1 tU_ok rfl rfl (CA.ext ((hS.rd (i := 6) rfl).at_ e164 ht164) hx) rfl)) ?_
                    refine DJ.pures tU_ok 1 rfl ?_
                    obtain ⟨u165, hu165, H⟩ := pbind H
                    refine DJ.st rfl rfl rfl rfl rfl (SR.shl rfl rfl rfl (chk_some hu165)) ?_
                    refine DJ.pures tU_ok 1 rfl ?_
                    obtain ⟨t166, ht166, H⟩ := pbind H
                    obtain ⟨ad166, e166⟩ := (hS.rd (i := 6) rfl).some' ht166
                    refine DJ.st rfl rfl rfl rfl rfl (SR.idxS tU_ok tI_ok rfl rfl rfl rfl e166 rfl (getI_some ht166).1) ?_
                    refine DJ.es rfl rfl rfl rfl (Es.storeR tI_ok hS (i := 6) (off := 0) rfl rfl ht166 e166 rfl rfl rfl rfl (vs := (ci .u16).enc (orI .u16 t164 (shlI .u16 1 t163))) rfl rfl (one1 rfl) (Nat.le_of_ble_eq_true rfl) (orI .u16 t164 (shlI .u16 1 t163)) rfl) ?_
                    intro w1 hS
                    refine DJ.as (t := 88) rfl (show _ = (.slice A19 (y160.set y156.toNat (orI .u16 t164 (shlI .u16 1 t163))).length c20 : Value) by simp only [List.length_set]) ?_
                    replace hS := hS.boxAs (i := 3) rfl (show _ = ([.slice A13 y12.length c14, .slice A16 y15.length c17, .slice A19 (y160.set y156.toNat (orI .u16 t164 (shlI .u16 1 t163))).length c20] : List Value) by simp only [List.length_set])
                    refine DJ.nil (EJ.blk (EJ.next ?_))
                    refine CJ.region ?_
                    refine OJ.pures tU_ok 2 rfl ?_
                    refine OJ.nil ?_
                    exact EJ.round k (F' := [(0, .string a0), (2, .pointer (some ⟨b1, 0, none⟩)), (3, .pointer (some ⟨b2, 0, none⟩)), (4, .pointer (some ⟨b4, 0, none⟩)), (10, .int .i64 y156), (67, .slice A9 y8.length c10), (68, .int .i64 (y8.length : Int)), (69, .int .i64 y156), (74, .slice Ae158 t158.length ce158), (75, .int .i64 (t158.length : Int)), (76, .int .i64 (IntKind.i64.wrap (y161 + 1)))]) ⟨rfl, rfl, rfl, rfl, rfl, rfl, rfl, rfl, rfl, rfl, rfl, trivial⟩ (Nat.lt_succ_self _) ⟨(y160.set y156.toNat (orI .u16 t164 (shlI .u16 1 t163))), (IntKind.i64.wrap (y161 + 1)), rfl, hS.pick [0, 1, 2, 3, 4, 5, 6, 7] [0] rfl, H⟩
                · replace H := pif_f (of_decide_eq_false hb) H
                  refine CJ.exit (EJ.skE (EJ.skE (EJ.hit (?_))))
                  exact EJ.meet (F' := [(0, .string a0), (2, .pointer (some ⟨b1, 0, none⟩)), (3, .pointer (some ⟨b2, 0, none⟩)), (4, .pointer (some ⟨b4, 0, none⟩)), (67, .slice A9 y8.length c10), (68, .int .i64 (y8.length : Int)), (69, .int .i64 y156)]) ⟨rfl, rfl, rfl, rfl, rfl, rfl, rfl, trivial⟩ ⟨y160, H, rfl, hS.pick [0, 1, 2, 3, 4, 5, 6, 7] [0] rfl⟩
            · rintro F w1 ⟨y159, he, rfl, hS⟩
              obtain rfl := Option.some.inj he
              have H := K120
              refine EJ.blk (?_)
              exact EJ.meet (F' := [(0, .string a0), (2, .pointer (some ⟨b1, 0, none⟩)), (3, .pointer (some ⟨b2, 0, none⟩)), (4, .pointer (some ⟨b4, 0, none⟩)), (67, .slice A9 y8.length c10), (68, .int .i64 (y8.length : Int)), (69, .int .i64 y156)]) ⟨rfl, rfl, rfl, rfl, rfl, rfl, rfl, trivial⟩ ⟨y159, H, rfl, hS.pick [0, 1, 2, 3, 4, 5, 6, 7] [0] rfl⟩
          · rintro F w1 ⟨y157, he, rfl, hS⟩
            obtain rfl := Option.some.inj he
            have H := K118
            refine CJ.region ?_
            refine OJ.pures tU_ok 2 rfl ?_
            refine OJ.nil ?_
            exact EJ.round k (F' := [(0, .string a0), (2, .pointer (some ⟨b1, 0, none⟩)), (3, .pointer (some ⟨b2, 0, none⟩)), (4, .pointer (some ⟨b4, 0, none⟩)), (67, .slice A9 y8.length c10), (68, .int .i64 (y8.length : Int)), (69, .int .i64 (IntKind.i64.wrap (y156 + 1)))]) ⟨rfl, rfl, rfl, rfl, rfl, rfl, rfl, trivial⟩ (Nat.lt_succ_self _) ⟨y157, (IntKind.i64.wrap (y156 + 1)), rfl, hS.pick [0, 1, 2, 3, 4, 5, 6, 7] [0] rfl, H⟩
        · replace H := pif_f (of_decide_eq_false hb) H
          refine CJ.exit (EJ.skE (EJ.skE (EJ.hit (?_))))
          exact EJ.meet (F' := [(0, .string a0), (2, .pointer (some ⟨b1, 0, none⟩)), (3, .pointer (some ⟨b2, 0, none⟩)), (4, .pointer (some ⟨b4, 0, none⟩))]) ⟨rfl, rfl, rfl, rfl, trivial⟩ ⟨y155, H, rfl, hS.pick [0, 1, 3, 4, 5, 6, 7] [0] rfl⟩
    · rintro F w1 ⟨y154, he, rfl, hS⟩
      obtain rfl := Option.some.inj he
      have H := K110
      refine EJ.next ?_
      refine CJ.seq ?_
      refine CJ.seq ?_
      refine CJ.region ?_
      refine OJ.st rfl rfl rfl (SR.load rfl rfl (fun w' hx => ldN tU_ok tI_ok rfl rfl rfl (CA.ext (hS.cells (i := 2) rfl) hx) (ds := [.slice A13 y12.length c14, .slice A16 y15.length c17, .slice A19 y154.length c20]) rfl rfl)) ?_
      obtain ⟨t167, ht167, H⟩ := pbind H
      refine OJ.callF rfl rfl rfl rfl rfl hb8 rfl (impl_HerdText.c k _ A13 c14 A16 c17 A19 c20 (⟨y12, y15, y154⟩ : Herd) (hS.rd (i := 3) rfl) (hS.le (i := 3) rfl) (hS.rd (i := 4) rfl) (hS.le (i := 4) rfl) (hS.rd (i := 5) rfl) (hS.le (i := 5) rfl) (hS.ro (i := 0) rfl) _ ht167) ?_
      rintro _ w1 ⟨rfl, hs⟩
      replace hS := hS.grow hs
      refine OJ.pures tU_ok 2 rfl ?_
      refine OJ.nil (EJ.next ?_)
      refine CJ.cond rfl (fun hb => ?_) (fun hb => ?_)
      · replace H := pif_t (of_decide_eq_true hb) H
        refine CJ.seq ?_
        refine CJ.region ?_
        refine OJ.st rfl rfl rfl (SR.build' tU_ok tI_ok rfl rfl rfl (zs := [.slice none 0 0, .slice none 0 0, .slice none 0 0]) rfl rfl rfl ([.slice none 0 0, .slice none 0 0, .slice none 0 0]) rfl) ?_
        refine OJ.es rfl rfl (Es.store tI_ok hS (i := 0) (vs := [.slice none 0 0, .slice none 0 0, .slice none 0 0]) rfl rfl rfl rfl rfl rfl rfl rfl (by intro u hu; simp only [List.mem_cons, List.not_mem_nil, or_false] at hu; rcases hu with rfl | rfl | rfl <;> rfl) (Nat.le_of_ble_eq_true rfl) ([.slice none 0 0, .slice none 0 0, .slice none 0 0]) rfl) ?_
        intro w1 hS
        refine OJ.es rfl rfl (Es.store tI_ok hS (i := 1) rfl rfl rfl rfl rfl rfl (vs := (ci .i64).enc 5) rfl rfl (one1 rfl) (Nat.le_of_ble_eq_true rfl) ((ci .i64).enc 5) rfl) ?_
        intro w1 hS
        refine OJ.nil (EJ.next ?_)
        refine CJ.ret (EJ.skR (?_))
        replace hS := hS.addNil G.cs 9 none
        replace hS := hS.addNil (ci .i16) 49 none
        replace hS := hS.addNil (ci .u16) 55 none
        obtain rfl := Option.some.inj H
        refine EJ.finM (L := [box b1 ([.slice none 0 0, .slice none 0 0, .slice none 0 0]) 28, box b2 ((ci .i64).enc 5) 2, rowC G.cs none 0 9 [], rowC (ci .i16) none 0 49 [], rowC (ci .u16) none 0 55 []]) (vs := [.agg [.slice none 0 0, .slice none 0 0, .slice none 0 0].toArray, .int .i64 5]) rfl (hS.pick [0, 1, 7, 8, 9, 6] [] rfl) fun w' hS => ?_
        exact ⟨(.cell rfl (ldN tU_ok tI_ok rfl rfl rfl (hS.cells (i := 0) rfl) (ds := [.slice none 0 0, .slice none 0 0, .slice none 0 0]) rfl rfl) (.cell rfl (ld1 tU_ok rfl rfl (hS.cells (i := 1) rfl) rfl) .nil)), none, 0, none, 0, none, 0, rfl, hS.pick [2, 3, 4] [] rfl⟩
      · replace H := pif_f (of_decide_eq_false hb) H
        refine CJ.skip (EJ.next ?_)
        refine CJ.seq ?_
        refine CJ.region ?_
        refine OJ.st rfl rfl rfl (SR.load rfl rfl (fun w' hx => ldN tU_ok tI_ok rfl rfl rfl (CA.ext (hS.cells (i := 2) rfl) hx) (ds := [.slice A13 y12.length c14, .slice A16 y15.length c17, .slice A19 y154.length c20]) rfl rfl)) ?_
        refine OJ.es rfl rfl (Es.store tI_ok hS (i := 0) (vs := [.slice A13 y12.length c14, .slice A16 y15.length c17, .slice A19 y154.length c20]) rfl rfl rfl rfl rfl rfl rfl rfl (by intro u hu; simp only [List.mem_cons, List.not_mem_nil, or_false] at hu; rcases hu with rfl | rfl | rfl <;> rfl) (Nat.le_of_ble_eq_true rfl) ([.slice A13 y12.length c14, .slice A16 y15.length c17, .slice A19 y154.length c20]) rfl) ?_
        intro w1 hS
        refine OJ.es rfl rfl (Es.store tI_ok hS (i := 1) rfl rfl rfl rfl rfl rfl (vs := (ci .i64).enc 0) rfl rfl (one1 rfl) (Nat.le_of_ble_eq_true rfl) ((ci .i64).enc 0) rfl) ?_
        intro w1 hS
        refine OJ.nil (EJ.next ?_)
        refine CJ.ret (?_)
        obtain rfl := Option.some.inj H
        refine EJ.finM (L := [box b1 ([.slice A13 y12.length c14, .slice A16 y15.length c17, .slice A19 y154.length c20]) 28, box b2 ((ci .i64).enc 0) 2, rowC G.cs A13 c14 9 y12, rowC (ci .i16) A16 c17 49 y15, rowC (ci .u16) A19 c20 55 y154]) (vs := [.agg [.slice A13 y12.length c14, .slice A16 y15.length c17, .slice A19 y154.length c20].toArray, .int .i64 0]) rfl (hS.pick [0, 1, 3, 4, 5, 6] [] rfl) fun w' hS => ?_
        exact ⟨(.cell rfl (ldN tU_ok tI_ok rfl rfl rfl (hS.cells (i := 0) rfl) (ds := [.slice A13 y12.length c14, .slice A16 y15.length c17, .slice A19 y154.length c20]) rfl rfl) (.cell rfl (ld1 tU_ok rfl rfl (hS.cells (i := 1) rfl) rfl) .nil)), A13, c14, A16, c17, A19, c20, rfl, hS.pick [2, 3, 4] [] rfl⟩
  · rintro D ⟨⟩ w1 rfl hS
    refine EJ.bkR (EJ.skR (?_))
    have H := K105
    replace hS := hS.addNil G.cs 9 none
    replace hS := hS.addNil (ci .i16) 49 none
    replace hS := hS.addNil (ci .u16) 55 none
    obtain rfl := Option.some.inj H
    refine EJ.finM (L := [box b1 ([.slice none 0 0, .slice none 0 0, .slice none 0 0]) 28, box b2 ((ci .i64).enc 5) 2, rowC G.cs none 0 9 [], rowC (ci .i16) none 0 49 [], rowC (ci .u16) none 0 55 []]) (vs := [.agg [.slice none 0 0, .slice none 0 0, .slice none 0 0].toArray, .int .i64 5]) rfl (hS.pick [0, 1, 3, 4, 5, 2] [] rfl) fun w' hS => ?_
    exact ⟨(.cell rfl (ldN tU_ok tI_ok rfl rfl rfl (hS.cells (i := 0) rfl) (ds := [.slice none 0 0, .slice none 0 0, .slice none 0 0]) rfl rfl) (.cell rfl (ld1 tU_ok rfl rfl (hS.cells (i := 1) rfl) rfl) .nil)), none, 0, none, 0, none, 0, rfl, hS.pick [2, 3, 4] [] rfl⟩

def laws_eqStringS.l1 (a0 : List ByteArray) (a1 : List ByteArray) : Nat → Int → Option (Bool ⊕ Unit)
  | 0, _ => none
  | k + 1, y1 => if y1 < (a0.length : Int) then ((getI a0 y1).bind fun t2 => (getI a1 y1).bind fun t3 => if t2 ≠ t3 then (some (Sum.inl false)) else (laws_eqStringS.l1 a0 a1 k (IntKind.i64.wrap (y1 + 1)))) else (some (Sum.inr ()))
def laws_eqStringS.f (k : Nat) (a0 : List ByteArray) (a1 : List ByteArray) : Option Bool := if (a0.length : Int) ≠ (a1.length : Int) then (some false) else ((laws_eqStringS.l1 a0 a1 k 0).bind fun s165 => match s165 with | .inl r => some r | .inr _ => some true)
theorem laws_eqStringS.c (k : Nat) (w : World) (Aa0 : Option Addr) (ca0 : Nat) (a0 : List ByteArray) (hr0 : Rd G.cs w Aa0 a0) (hc0 : a0.length ≤ ca0) (Aa1 : Option Addr) (ca1 : Nat) (a1 : List ByteArray) (hr1 : Rd G.cs w Aa1 a1) (hc1 : a1.length ≤ ca1) (r : Bool) (H : laws_eqStringS.f k a0 a1 = some r) :
    CV Tryz.prog 86 [.slice Aa0 a0.length ca0, .slice Aa1 a1.length ca1].toArray w fun v w' => v = .bool r ∧ Ext w w' := by
  have hS := (((St.init w no).param G.cs Aa0 ca0 a0 hr0 hc0).param G.cs Aa1 ca1 a1 hr1 hc1)
  unfold laws_eqStringS.f at H
  refine CV.body Tryz.func86 rfl Tryz.ntmps86 rfl ?_
  refine CJ.seq ?_
  refine CJ.region ?_
  refine OJ.pures tU_ok 1 rfl ?_
  refine OJ.nil (EJ.next ?_)
  refine CJ.seq ?_
  refine CJ.seq ?_
  refine CJ.region ?_
  refine OJ.pures tU_ok 5 rfl ?_
  refine OJ.nil (EJ.next ?_)
  refine CJ.cond rfl (fun hb => ?_) (fun hb => ?_)
  · replace H := pif_t (of_decide_eq_true hb) H
    refine CJ.seq ?_
    refine CJ.region ?_
    refine OJ.pures tU_ok 1 rfl ?_
    refine OJ.nil (EJ.next ?_)
    refine CJ.ret (EJ.skR (?_))
    obtain rfl := Option.some.inj H
    exact EJ.fin rfl (.tmp rfl .nil) ⟨rfl, hS.ext⟩
  · replace H := pif_f (of_decide_eq_false hb) H
    refine CJ.skip (EJ.next ?_)
    refine CJ.seq ?_
    refine CJ.seq ?_
    refine CJ.region ?_
    refine OJ.pures tU_ok 1 rfl ?_
    refine OJ.nil (EJ.next ?_)
    obtain ⟨j165, H, K165⟩ := pbind H
    refine CJ.cut1 (fun F w1 => (some (Sum.inr ()) : Option (Bool ⊕ Unit)) = some j165 ∧ F = [] ∧ St w no w1 [] [roC G.cs Aa0 ca0 a0, roC G.cs Aa1 ca1 a1]) ?_ ?_
    · skip
      refine CJ.block ?_
      refine CJ.loop (fun k F w1 => ∃ (y1 : Int), F = [(0, .slice Aa0 a0.length ca0), (1, .slice Aa1 a1.length ca1), (5, .int .i64 y1)] ∧ St w no w1 [] [roC G.cs Aa0 ca0 a0, roC G.cs Aa1 ca1 a1] ∧ laws_eqStringS.l1 a0 a1 k y1 = some j165) k (F' := [(0, .slice Aa0 a0.length ca0), (1, .slice Aa1 a1.length ca1), (5, .int .i64 0)]) ⟨rfl, rfl, rfl, trivial⟩ ⟨0, rfl, hS.pick [] [0, 1] rfl, H⟩ ?_
      rintro k F w1 ⟨y1, rfl, hS, H⟩
      cases k with
      | zero => rw [laws_eqStringS.l1] at H; cases H
      | succ k =>
        rw [laws_eqStringS.l1] at H
        refine CJ.seq ?_
        refine CJ.seq ?_
        refine CJ.region ?_
        refine OJ.pures tU_ok 4 rfl ?_
        refine OJ.nil (EJ.next ?_)
        refine CJ.cond rfl (fun hb => ?_) (fun hb => ?_)
        · replace H := pif_t (of_decide_eq_true hb) H
          refine CJ.skip (EJ.next ?_)
          refine CJ.seq ?_
          refine CJ.block ?_
          refine CJ.seq ?_
          refine CJ.draw [] [0, 1, 2, 3, 4, 5, 6, 7, 8] mixed (by kernel_rfl) hS fun w1 hS => ?_
          refine DJ.pures tU_ok 2 rfl ?_
          obtain ⟨t2, ht2, H⟩ := pbind H
          obtain ⟨ad2, e2⟩ := (hS.rd' (i := 0) rfl).some' ht2
          refine DJ.st rfl rfl rfl rfl rfl (SR.idxS tU_ok tI_ok rfl rfl rfl rfl e2 rfl (getI_some ht2).1) ?_
          refine DJ.st rfl rfl rfl rfl rfl (SR.load rfl rfl (fun w' hx => ld1 tU_ok rfl rfl (CA.ext ((hS.rd' (i := 0) rfl).at_ e2 ht2) hx) rfl)) ?_
          refine DJ.pures tU_ok 2 rfl ?_
          obtain ⟨t3, ht3, H⟩ := pbind H
          obtain ⟨ad3, e3⟩ := (hS.rd' (i := 1) rfl).some' ht3
          refine DJ.st rfl rfl rfl rfl rfl (SR.idxS tU_ok tI_ok rfl rfl rfl rfl e3 rfl (getI_some ht3).1) ?_
          refine DJ.st rfl rfl rfl rfl rfl (SR.load rfl rfl (fun w' hx => ld1 tU_ok rfl rfl (CA.ext ((hS.rd' (i := 1) rfl).at_ e3 ht3) hx) rfl)) ?_
          refine DJ.pures tU_ok 1 rfl ?_
          refine DJ.nil (EJ.next ?_)
          refine CJ.cond rfl (fun hb => ?_) (fun hb => ?_)
          · replace H := pif_t (of_decide_eq_true hb) H
            refine CJ.seq ?_
            refine CJ.region ?_
            refine OJ.pures tU_ok 1 rfl ?_
            refine OJ.nil (EJ.next ?_)
            refine CJ.ret (EJ.bkR (EJ.skR (EJ.skR (EJ.bkR (EJ.skR (EJ.skR (?_)))))))
            first | (obtain rfl := Option.some.inj H; have H := K165) | (obtain ⟨q165, H2, e165⟩ := pbind H; obtain rfl := Option.some.inj e165; obtain rfl := Option.some.inj K165; have H := H2)
            obtain rfl := Option.some.inj H
            exact EJ.fin rfl (.tmp rfl .nil) ⟨rfl, hS.ext⟩
          · replace H := pif_f (of_decide_eq_false hb) H
            refine CJ.skip (EJ.blk (EJ.next ?_))
            refine CJ.region ?_
            refine OJ.pures tU_ok 3 rfl ?_
            refine OJ.nil ?_
            exact EJ.round k (F' := [(0, .slice Aa0 a0.length ca0), (1, .slice Aa1 a1.length ca1), (5, .int .i64 (IntKind.i64.wrap (y1 + 1)))]) ⟨rfl, rfl, rfl, trivial⟩ (Nat.lt_succ_self _) ⟨(IntKind.i64.wrap (y1 + 1)), rfl, hS.pick [] [0, 1] rfl, H⟩
        · replace H := pif_f (of_decide_eq_false hb) H
          refine CJ.exit (EJ.skE (EJ.skE (EJ.hit (?_))))
          exact EJ.meet (F' := []) trivial ⟨H, rfl, hS.pick [] [0, 1] rfl⟩
    · rintro F w1 ⟨he, rfl, hS⟩
      obtain rfl := Option.some.inj he
      have H := K165
      refine EJ.next ?_
      refine CJ.seq ?_
      refine CJ.region ?_
      refine OJ.pures tU_ok 1 rfl ?_
      refine OJ.nil (EJ.next ?_)
      refine CJ.ret (?_)
      obtain rfl := Option.some.inj H
      exact EJ.fin rfl (.tmp rfl .nil) ⟨rfl, hS.ext⟩

def laws_eqInt16S.l1 (a0 : List Int) (a1 : List Int) : Nat → Int → Option (Bool ⊕ Unit)
  | 0, _ => none
  | k + 1, y1 => if y1 < (a0.length : Int) then ((getI a0 y1).bind fun t2 => (getI a1 y1).bind fun t3 => if t2 ≠ t3 then (some (Sum.inl false)) else (laws_eqInt16S.l1 a0 a1 k (IntKind.i64.wrap (y1 + 1)))) else (some (Sum.inr ()))
def laws_eqInt16S.f (k : Nat) (a0 : List Int) (a1 : List Int) : Option Bool := if (a0.length : Int) ≠ (a1.length : Int) then (some false) else ((laws_eqInt16S.l1 a0 a1 k 0).bind fun s166 => match s166 with | .inl r => some r | .inr _ => some true)
theorem laws_eqInt16S.c (k : Nat) (w : World) (Aa0 : Option Addr) (ca0 : Nat) (a0 : List Int) (hr0 : Rd (ci .i16) w Aa0 a0) (hc0 : a0.length ≤ ca0) (Aa1 : Option Addr) (ca1 : Nat) (a1 : List Int) (hr1 : Rd (ci .i16) w Aa1 a1) (hc1 : a1.length ≤ ca1) (r : Bool) (H : laws_eqInt16S.f k a0 a1 = some r) :
    CV Tryz.prog 87 [.slice Aa0 a0.length ca0, .slice Aa1 a1.length ca1].toArray w fun v w' => v = .bool r ∧ Ext w w' := by
  have hS := (((St.init w no).param (ci .i16) Aa0 ca0 a0 hr0 hc0).param (ci .i16) Aa1 ca1 a1 hr1 hc1)
  unfold laws_eqInt16S.f at H
  refine CV.body Tryz.func87 rfl Tryz.ntmps87 rfl ?_
  refine CJ.seq ?_
  refine CJ.region ?_
  refine OJ.pures tU_ok 1 rfl ?_
  refine OJ.nil (EJ.next ?_)
  refine CJ.seq ?_
  refine CJ.seq ?_
  refine CJ.region ?_
  refine OJ.pures tU_ok 5 rfl ?_
  refine OJ.nil (EJ.next ?_)
  refine CJ.cond rfl (fun hb => ?_) (fun hb => ?_)
  · replace H := pif_t (of_decide_eq_true hb) H
    refine CJ.seq ?_
    refine CJ.region ?_
    refine OJ.pures tU_ok 1 rfl ?_
    refine OJ.nil (EJ.next ?_)
    refine CJ.ret (EJ.skR (?_))
    obtain rfl := Option.some.inj H
    exact EJ.fin rfl (.tmp rfl .nil) ⟨rfl, hS.ext⟩
  · replace H := pif_f (of_decide_eq_false hb) H
    refine CJ.skip (EJ.next ?_)
    refine CJ.seq ?_
    refine CJ.seq ?_
    refine CJ.region ?_
    refine OJ.pures tU_ok 1 rfl ?_
    refine OJ.nil (EJ.next ?_)
    obtain ⟨j166, H, K166⟩ := pbind H
    refine CJ.cut1 (fun F w1 => (some (Sum.inr ()) : Option (Bool ⊕ Unit)) = some j166 ∧ F = [] ∧ St w no w1 [] [roC (ci .i16) Aa0 ca0 a0, roC (ci .i16) Aa1 ca1 a1]) ?_ ?_
    · skip
      refine CJ.block ?_
      refine CJ.loop (fun k F w1 => ∃ (y1 : Int), F = [(0, .slice Aa0 a0.length ca0), (1, .slice Aa1 a1.length ca1), (5, .int .i64 y1)] ∧ St w no w1 [] [roC (ci .i16) Aa0 ca0 a0, roC (ci .i16) Aa1 ca1 a1] ∧ laws_eqInt16S.l1 a0 a1 k y1 = some j166) k (F' := [(0, .slice Aa0 a0.length ca0), (1, .slice Aa1 a1.length ca1), (5, .int .i64 0)]) ⟨rfl, rfl, rfl, trivial⟩ ⟨0, rfl, hS.pick [] [0, 1] rfl, H⟩ ?_
      rintro k F w1 ⟨y1, rfl, hS, H⟩
      cases k with
      | zero => rw [laws_eqInt16S.l1] at H; cases H
      | succ k =>
        rw [laws_eqInt16S.l1] at H
        refine CJ.seq ?_
        refine CJ.seq ?_
        refine CJ.region ?_
        refine OJ.pures tU_ok 4 rfl ?_
        refine OJ.nil (EJ.next ?_)
        refine CJ.cond rfl (fun hb => ?_) (fun hb => ?_)
        · replace H := pif_t (of_decide_eq_true hb) H
          refine CJ.skip (EJ.next ?_)
          refine CJ.seq ?_
          refine CJ.block ?_
          refine CJ.seq ?_
          refine CJ.draw [] [0, 1, 2, 3, 4, 5, 6, 7, 8] mixed (by kernel_rfl) hS fun w1 hS => ?_
          refine DJ.pures tU_ok 2 rfl ?_
          obtain ⟨t2, ht2, H⟩ := pbind H
          obtain ⟨ad2, e2⟩ := (hS.rd' (i := 0) rfl).some' ht2
          refine DJ.st rfl rfl rfl rfl rfl (SR.idxS tU_ok tI_ok rfl rfl rfl rfl e2 rfl (getI_some ht2).1) ?_
          refine DJ.st rfl rfl rfl rfl rfl (SR.load rfl rfl (fun w' hx => ld1 tU_ok rfl rfl (CA.ext ((hS.rd' (i := 0) rfl).at_ e2 ht2) hx) rfl)) ?_
          refine DJ.pures tU_ok 2 rfl ?_
          obtain ⟨t3, ht3, H⟩ := pbind H
          obtain ⟨ad3, e3⟩ := (hS.rd' (i := 1) rfl).some' ht3
          refine DJ.st rfl rfl rfl rfl rfl (SR.idxS tU_ok tI_ok rfl rfl rfl rfl e3 rfl (getI_some ht3).1) ?_
          refine DJ.st rfl rfl rfl rfl rfl (SR.load rfl rfl (fun w' hx => ld1 tU_ok rfl rfl (CA.ext ((hS.rd' (i := 1) rfl).at_ e3 ht3) hx) rfl)) ?_
          refine DJ.pures tU_ok 1 rfl ?_
          refine DJ.nil (EJ.next ?_)
          refine CJ.cond rfl (fun hb => ?_) (fun hb => ?_)
          · replace H := pif_t (of_decide_eq_true hb) H
            refine CJ.seq ?_
            refine CJ.region ?_
            refine OJ.pures tU_ok 1 rfl ?_
            refine OJ.nil (EJ.next ?_)
            refine CJ.ret (EJ.bkR (EJ.skR (EJ.skR (EJ.bkR (EJ.skR (EJ.skR (?_)))))))
            first | (obtain rfl := Option.some.inj H; have H := K166) | (obtain ⟨q166, H2, e166⟩ := pbind H; obtain rfl := Option.some.inj e166; obtain rfl := Option.some.inj K166; have H := H2)
            obtain rfl := Option.some.inj H
            exact EJ.fin rfl (.tmp rfl .nil) ⟨rfl, hS.ext⟩
          · replace H := pif_f (of_decide_eq_false hb) H
            refine CJ.skip (EJ.blk (EJ.next ?_))
            refine CJ.region ?_
            refine OJ.pures tU_ok 3 rfl ?_
            refine OJ.nil ?_
            exact EJ.round k (F' := [(0, .slice Aa0 a0.length ca0), (1, .slice Aa1 a1.length ca1), (5, .int .i64 (IntKind.i64.wrap (y1 + 1)))]) ⟨rfl, rfl, rfl, trivial⟩ (Nat.lt_succ_self _) ⟨(IntKind.i64.wrap (y1 + 1)), rfl, hS.pick [] [0, 1] rfl, H⟩
        · replace H := pif_f (of_decide_eq_false hb) H
          refine CJ.exit (EJ.skE (EJ.skE (EJ.hit (?_))))
          exact EJ.meet (F' := []) trivial ⟨H, rfl, hS.pick [] [0, 1] rfl⟩
    · rintro F w1 ⟨he, rfl, hS⟩
      obtain rfl := Option.some.inj he
      have H := K166
      refine EJ.next ?_
      refine CJ.seq ?_
      refine CJ.region ?_
      refine OJ.pures tU_ok 1 rfl ?_
      refine OJ.nil (EJ.next ?_)
      refine CJ.ret (?_)
      obtain rfl := Option.some.inj H
      exact EJ.fin rfl (.tmp rfl .nil) ⟨rfl, hS.ext⟩

def laws_eqUint16S.l1 (a0 : List Int) (a1 : List Int) : Nat → Int → Option (Bool ⊕ Unit)
  | 0, _ => none
  | k + 1, y1 => if y1 < (a0.length : Int) then ((getI a0 y1).bind fun t2 => (getI a1 y1).bind fun t3 => if t2 ≠ t3 then (some (Sum.inl false)) else (laws_eqUint16S.l1 a0 a1 k (IntKind.i64.wrap (y1 + 1)))) else (some (Sum.inr ()))
def laws_eqUint16S.f (k : Nat) (a0 : List Int) (a1 : List Int) : Option Bool := if (a0.length : Int) ≠ (a1.length : Int) then (some false) else ((laws_eqUint16S.l1 a0 a1 k 0).bind fun s167 => match s167 with | .inl r => some r | .inr _ => some true)
theorem laws_eqUint16S.c (k : Nat) (w : World) (Aa0 : Option Addr) (ca0 : Nat) (a0 : List Int) (hr0 : Rd (ci .u16) w Aa0 a0) (hc0 : a0.length ≤ ca0) (Aa1 : Option Addr) (ca1 : Nat) (a1 : List Int) (hr1 : Rd (ci .u16) w Aa1 a1) (hc1 : a1.length ≤ ca1) (r : Bool) (H : laws_eqUint16S.f k a0 a1 = some r) :
    CV Tryz.prog 88 [.slice Aa0 a0.length ca0, .slice Aa1 a1.length ca1].toArray w fun v w' => v = .bool r ∧ Ext w w' := by
  have hS := (((St.init w no).param (ci .u16) Aa0 ca0 a0 hr0 hc0).param (ci .u16) Aa1 ca1 a1 hr1 hc1)
  unfold laws_eqUint16S.f at H
  refine CV.body Tryz.func88 rfl Tryz.ntmps88 rfl ?_
  refine CJ.seq ?_
  refine CJ.region ?_
  refine OJ.pures tU_ok 1 rfl ?_
  refine OJ.nil (EJ.next ?_)
  refine CJ.seq ?_
  refine CJ.seq ?_
  refine CJ.region ?_
  refine OJ.pures tU_ok 5 rfl ?_
  refine OJ.nil (EJ.next ?_)
  refine CJ.cond rfl (fun hb => ?_) (fun hb => ?_)
  · replace H := pif_t (of_decide_eq_true hb) H
    refine CJ.seq ?_
    refine CJ.region ?_
    refine OJ.pures tU_ok 1 rfl ?_
    refine OJ.nil (EJ.next ?_)
    refine CJ.ret (EJ.skR (?_))
    obtain rfl := Option.some.inj H
    exact EJ.fin rfl (.tmp rfl .nil) ⟨rfl, hS.ext⟩
  · replace H := pif_f (of_decide_eq_false hb) H
    refine CJ.skip (EJ.next ?_)
    refine CJ.seq ?_
    refine CJ.seq ?_
    refine CJ.region ?_
    refine OJ.pures tU_ok 1 rfl ?_
    refine OJ.nil (EJ.next ?_)
    obtain ⟨j167, H, K167⟩ := pbind H
    refine CJ.cut1 (fun F w1 => (some (Sum.inr ()) : Option (Bool ⊕ Unit)) = some j167 ∧ F = [] ∧ St w no w1 [] [roC (ci .u16) Aa0 ca0 a0, roC (ci .u16) Aa1 ca1 a1]) ?_ ?_
    · skip
      refine CJ.block ?_
      refine CJ.loop (fun k F w1 => ∃ (y1 : Int), F = [(0, .slice Aa0 a0.length ca0), (1, .slice Aa1 a1.length ca1), (5, .int .i64 y1)] ∧ St w no w1 [] [roC (ci .u16) Aa0 ca0 a0, roC (ci .u16) Aa1 ca1 a1] ∧ laws_eqUint16S.l1 a0 a1 k y1 = some j167) k (F' := [(0, .slice Aa0 a0.length ca0), (1, .slice Aa1 a1.length ca1), (5, .int .i64 0)]) ⟨rfl, rfl, rfl, trivial⟩ ⟨0, rfl, hS.pick [] [0, 1] rfl, H⟩ ?_
      rintro k F w1 ⟨y1, rfl, hS, H⟩
      cases k with
      | zero => rw [laws_eqUint16S.l1] at H; cases H
      | succ k =>
        rw [laws_eqUint16S.l1] at H
        refine CJ.seq ?_
        refine CJ.seq ?_
        refine CJ.region ?_
        refine OJ.pures tU_ok 4 rfl ?_
        refine OJ.nil (EJ.next ?_)
        refine CJ.cond rfl (fun hb => ?_) (fun hb => ?_)
        · replace H := pif_t (of_decide_eq_true hb) H
          refine CJ.skip (EJ.next ?_)
          refine CJ.seq ?_
          refine CJ.block ?_
          refine CJ.seq ?_
          refine CJ.draw [] [0, 1, 2, 3, 4, 5, 6, 7, 8] mixed (by kernel_rfl) hS fun w1 hS => ?_
          refine DJ.pures tU_ok 2 rfl ?_
          obtain ⟨t2, ht2, H⟩ := pbind H
          obtain ⟨ad2, e2⟩ := (hS.rd' (i := 0) rfl).some' ht2
          refine DJ.st rfl rfl rfl rfl rfl (SR.idxS tU_ok tI_ok rfl rfl rfl rfl e2 rfl (getI_some ht2).1) ?_
          refine DJ.st rfl rfl rfl rfl rfl (SR.load rfl rfl (fun w' hx => ld1 tU_ok rfl rfl (CA.ext ((hS.rd' (i := 0) rfl).at_ e2 ht2) hx) rfl)) ?_
          refine DJ.pures tU_ok 2 rfl ?_
          obtain ⟨t3, ht3, H⟩ := pbind H
          obtain ⟨ad3, e3⟩ := (hS.rd' (i := 1) rfl).some' ht3
          refine DJ.st rfl rfl rfl rfl rfl (SR.idxS tU_ok tI_ok rfl rfl rfl rfl e3 rfl (getI_some ht3).1) ?_
          refine DJ.st rfl rfl rfl rfl rfl (SR.load rfl rfl (fun w' hx => ld1 tU_ok rfl rfl (CA.ext ((hS.rd' (i := 1) rfl).at_ e3 ht3) hx) rfl)) ?_
          refine DJ.pures tU_ok 1 rfl ?_
          refine DJ.nil (EJ.next ?_)
          refine CJ.cond rfl (fun hb => ?_) (fun hb => ?_)
          · replace H := pif_t (of_decide_eq_true hb) H
            refine CJ.seq ?_
            refine CJ.region ?_
            refine OJ.pures tU_ok 1 rfl ?_
            refine OJ.nil (EJ.next ?_)
            refine CJ.ret (EJ.bkR (EJ.skR (EJ.skR (EJ.bkR (EJ.skR (EJ.skR (?_)))))))
            first | (obtain rfl := Option.some.inj H; have H := K167) | (obtain ⟨q167, H2, e167⟩ := pbind H; obtain rfl := Option.some.inj e167; obtain rfl := Option.some.inj K167; have H := H2)
            obtain rfl := Option.some.inj H
            exact EJ.fin rfl (.tmp rfl .nil) ⟨rfl, hS.ext⟩
          · replace H := pif_f (of_decide_eq_false hb) H
            refine CJ.skip (EJ.blk (EJ.next ?_))
            refine CJ.region ?_
            refine OJ.pures tU_ok 3 rfl ?_
            refine OJ.nil ?_
            exact EJ.round k (F' := [(0, .slice Aa0 a0.length ca0), (1, .slice Aa1 a1.length ca1), (5, .int .i64 (IntKind.i64.wrap (y1 + 1)))]) ⟨rfl, rfl, rfl, trivial⟩ (Nat.lt_succ_self _) ⟨(IntKind.i64.wrap (y1 + 1)), rfl, hS.pick [] [0, 1] rfl, H⟩
        · replace H := pif_f (of_decide_eq_false hb) H
          refine CJ.exit (EJ.skE (EJ.skE (EJ.hit (?_))))
          exact EJ.meet (F' := []) trivial ⟨H, rfl, hS.pick [] [0, 1] rfl⟩
    · rintro F w1 ⟨he, rfl, hS⟩
      obtain rfl := Option.some.inj he
      have H := K167
      refine EJ.next ?_
      refine CJ.seq ?_
      refine CJ.region ?_
      refine OJ.pures tU_ok 1 rfl ?_
      refine OJ.nil (EJ.next ?_)
      refine CJ.ret (?_)
      obtain rfl := Option.some.inj H
      exact EJ.fin rfl (.tmp rfl .nil) ⟨rfl, hS.ext⟩

def laws_eqHerd.f (k : Nat) (a0 : Herd) (a1 : Herd) : Option Bool := (laws_eqStringS.f k a0.Names a1.Names).bind fun t3 => if (!t3) = true then (some false) else ((laws_eqInt16S.f k a0.Eats a1.Eats).bind fun t4 => if (!t4) = true then (some false) else ((laws_eqUint16S.f k a0.Foes a1.Foes).bind fun t5 => if (!t5) = true then (some false) else (some true)))
theorem laws_eqHerd.c (k : Nat) (w : World) (Aa0_0 : Option Addr) (ca0_0 : Nat) (Aa0_1 : Option Addr) (ca0_1 : Nat) (Aa0_2 : Option Addr) (ca0_2 : Nat) (a0 : Herd) (hr0_0 : Rd G.cs w Aa0_0 a0.Names) (hc0_0 : a0.Names.length ≤ ca0_0) (hr0_1 : Rd (ci .i16) w Aa0_1 a0.Eats) (hc0_1 : a0.Eats.length ≤ ca0_1) (hr0_2 : Rd (ci .u16) w Aa0_2 a0.Foes) (hc0_2 : a0.Foes.length ≤ ca0_2) (Aa1_0 : Option Addr) (ca1_0 : Nat) (Aa1_1 : Option Addr) (ca1_1 : Nat) (Aa1_2 : Option Addr) (ca1_2 : Nat) (a1 : Herd) (hr1_0 : Rd G.cs w Aa1_0 a1.Names) (hc1_0 : a1.Names.length ≤ ca1_0) (hr1_1 : Rd (ci .i16) w Aa1_1 a1.Eats) (hc1_1 : a1.Eats.length ≤ ca1_1) (hr1_2 : Rd (ci .u16) w Aa1_2 a1.Foes) (hc1_2 : a1.Foes.length ≤ ca1_2) (r : Bool) (H : laws_eqHerd.f k a0 a1 = some r) :
    CV Tryz.prog 32 [.agg [.slice Aa0_0 a0.Names.length ca0_0, .slice Aa0_1 a0.Eats.length ca0_1, .slice Aa0_2 a0.Foes.length ca0_2].toArray, .agg [.slice Aa1_0 a1.Names.length ca1_0, .slice Aa1_1 a1.Eats.length ca1_1, .slice Aa1_2 a1.Foes.length ca1_2].toArray].toArray w fun v w' => v = .bool r ∧ Ext w w' := by
  have hS := (((((((St.init w no).param G.cs Aa0_0 ca0_0 a0.Names hr0_0 hc0_0).param (ci .i16) Aa0_1 ca0_1 a0.Eats hr0_1 hc0_1).param (ci .u16) Aa0_2 ca0_2 a0.Foes hr0_2 hc0_2).param G.cs Aa1_0 ca1_0 a1.Names hr1_0 hc1_0).param (ci .i16) Aa1_1 ca1_1 a1.Eats hr1_1 hc1_1).param (ci .u16) Aa1_2 ca1_2 a1.Foes hr1_2 hc1_2)
  unfold laws_eqHerd.f at H
  refine CV.body Tryz.func32 rfl Tryz.ntmps32 rfl ?_
  refine CJ.seq ?_
  refine CJ.region ?_
  refine OJ.ef rfl rfl rfl (Ef.box hS rfl rfl ([.slice Aa0_0 a0.Names.length ca0_0, .slice Aa0_1 a0.Eats.length ca0_1, .slice Aa0_2 a0.Foes.length ca0_2]) rfl) ?_
  rintro _ w1 ⟨b1, rfl, hS⟩
  refine OJ.ef rfl rfl rfl (Ef.box hS rfl rfl ([.slice Aa1_0 a1.Names.length ca1_0, .slice Aa1_1 a1.Eats.length ca1_1, .slice Aa1_2 a1.Foes.length ca1_2]) rfl) ?_
  rintro _ w1 ⟨b2, rfl, hS⟩
  refine OJ.pures tU_ok 1 rfl ?_
  refine OJ.nil (EJ.next ?_)
  refine CJ.seq ?_
  refine CJ.seq ?_
  refine CJ.region ?_
  refine OJ.st rfl rfl rfl (SR.fieldAddr tU_ok tI_ok rfl rfl rfl rfl rfl rfl) ?_
  refine OJ.st rfl rfl rfl (SR.load rfl rfl (fun w' hx => ld1 tU_ok rfl rfl (CA.ext (CA.sub (hS.cells (i := 0) rfl) 0) hx) rfl)) ?_
  refine OJ.st rfl rfl rfl (SR.fieldAddr tU_ok tI_ok rfl rfl rfl rfl rfl rfl) ?_
  refine OJ.st rfl rfl rfl (SR.load rfl rfl (fun w' hx => ld1 tU_ok rfl rfl (CA.ext (CA.sub (hS.cells (i := 1) rfl) 0) hx) rfl)) ?_
  obtain ⟨t3, ht3, H⟩ := pbind H
  refine OJ.callF rfl rfl rfl rfl rfl hb86 rfl (laws_eqStringS.c k _ Aa0_0 ca0_0 a0.Names (hS.rd' (i := 0) rfl) (hS.le' (i := 0) rfl) Aa1_0 ca1_0 a1.Names (hS.rd' (i := 3) rfl) (hS.le' (i := 3) rfl) _ ht3) ?_
  rintro _ w1 ⟨rfl, hs⟩
  replace hS := hS.grow hs
  refine OJ.pures tU_ok 1 rfl ?_
  refine OJ.nil (EJ.next ?_)
  refine CJ.cond rfl (fun hb => ?_) (fun hb => ?_)
  · replace H := pif_t hb H
    refine CJ.seq ?_
    refine CJ.region ?_
    refine OJ.pures tU_ok 1 rfl ?_
    refine OJ.nil (EJ.next ?_)
    refine CJ.ret (EJ.skR (?_))
    obtain rfl := Option.some.inj H
    exact EJ.fin rfl (.tmp rfl .nil) ⟨rfl, hS.ext⟩
  · replace H := pifb_f hb H
    refine CJ.skip (EJ.next ?_)
    refine CJ.seq ?_
    refine CJ.seq ?_
    refine CJ.region ?_
    refine OJ.st rfl rfl rfl (SR.fieldAddr tU_ok tI_ok rfl rfl rfl rfl rfl rfl) ?_
    refine OJ.st rfl rfl rfl (SR.load rfl rfl (fun w' hx => ld1 tU_ok rfl rfl (CA.ext (CA.sub (hS.cells (i := 0) rfl) 1) hx) rfl)) ?_
    refine OJ.st rfl rfl rfl (SR.fieldAddr tU_ok tI_ok rfl rfl rfl rfl rfl rfl) ?_
    refine OJ.st rfl rfl rfl (SR.load rfl rfl (fun w' hx => ld1 tU_ok rfl rfl (CA.ext (CA.sub (hS.cells (i := 1) rfl) 1) hx) rfl)) ?_
    obtain ⟨t4, ht4, H⟩ := pbind H
    refine OJ.callF rfl rfl rfl rfl rfl hb87 rfl (laws_eqInt16S.c k _ Aa0_1 ca0_1 a0.Eats (hS.rd' (i := 1) rfl) (hS.le' (i := 1) rfl) Aa1_1 ca1_1 a1.Eats (hS.rd' (i := 4) rfl) (hS.le' (i := 4) rfl) _ ht4) ?_
    rintro _ w1 ⟨rfl, hs⟩
    replace hS := hS.grow hs
    refine OJ.pures tU_ok 1 rfl ?_
    refine OJ.nil (EJ.next ?_)
    refine CJ.cond rfl (fun hb => ?_) (fun hb => ?_)
    · replace H := pif_t hb H
      refine CJ.seq ?_
      refine CJ.region ?_
      refine OJ.pures tU_ok 1 rfl ?_
      refine OJ.nil (EJ.next ?_)
      refine CJ.ret (EJ.skR (?_))
      obtain rfl := Option.some.inj H
      exact EJ.fin rfl (.tmp rfl .nil) ⟨rfl, hS.ext⟩
    · replace H := pifb_f hb H
      refine CJ.skip (EJ.next ?_)
      refine CJ.seq ?_
      refine CJ.seq ?_
      refine CJ.region ?_
      refine OJ.st rfl rfl rfl (SR.fieldAddr tU_ok tI_ok rfl rfl rfl rfl rfl rfl) ?_
      refine OJ.st rfl rfl rfl (SR.load rfl rfl (fun w' hx => ld1 tU_ok rfl rfl (CA.ext (CA.sub (hS.cells (i := 0) rfl) 2) hx) rfl)) ?_
      refine OJ.st rfl rfl rfl (SR.fieldAddr tU_ok tI_ok rfl rfl rfl rfl rfl rfl) ?_
      refine OJ.st rfl rfl rfl (SR.load rfl rfl (fun w' hx => ld1 tU_ok rfl rfl (CA.ext (CA.sub (hS.cells (i := 1) rfl) 2) hx) rfl)) ?_
      obtain ⟨t5, ht5, H⟩ := pbind H
      refine OJ.callF rfl rfl rfl rfl rfl hb88 rfl (laws_eqUint16S.c k _ Aa0_2 ca0_2 a0.Foes (hS.rd' (i := 2) rfl) (hS.le' (i := 2) rfl) Aa1_2 ca1_2 a1.Foes (hS.rd' (i := 5) rfl) (hS.le' (i := 5) rfl) _ ht5) ?_
      rintro _ w1 ⟨rfl, hs⟩
      replace hS := hS.grow hs
      refine OJ.pures tU_ok 1 rfl ?_
      refine OJ.nil (EJ.next ?_)
      refine CJ.cond rfl (fun hb => ?_) (fun hb => ?_)
      · replace H := pif_t hb H
        refine CJ.seq ?_
        refine CJ.region ?_
        refine OJ.pures tU_ok 1 rfl ?_
        refine OJ.nil (EJ.next ?_)
        refine CJ.ret (EJ.skR (?_))
        obtain rfl := Option.some.inj H
        exact EJ.fin rfl (.tmp rfl .nil) ⟨rfl, hS.ext⟩
      · replace H := pifb_f hb H
        refine CJ.skip (EJ.next ?_)
        refine CJ.seq ?_
        refine CJ.region ?_
        refine OJ.pures tU_ok 1 rfl ?_
        refine OJ.nil (EJ.next ?_)
        refine CJ.ret (?_)
        obtain rfl := Option.some.inj H
        exact EJ.fin rfl (.tmp rfl .nil) ⟨rfl, hS.ext⟩

def laws_markText.l1 : Nat → Int → ByteArray → Option ByteArray
  | 0, _, _ => none
  | k + 1, y2, y3 => if 0 < y2 then ((chk ((bstr ([IntKind.u8.wrap (IntKind.i64.wrap (48 + (Int.tmod y2 10)))] : List Int)).size + y3.size ≤ 4294967296)).bind fun u5 => laws_markText.l1 k (IntKind.i64.wrap (Int.tdiv y2 10)) ((bstr ([IntKind.u8.wrap (IntKind.i64.wrap (48 + (Int.tmod y2 10)))] : List Int)) ++ y3)) else (some y3)
def laws_markText.f (k : Nat) (a0 : Int) : Option ByteArray := if a0 ≤ 0 then (some (⟨#[109, 48]⟩ : ByteArray)) else ((laws_markText.l1 k a0 ByteArray.empty).bind fun y1 => (chk ((⟨#[109]⟩ : ByteArray).size + y1.size ≤ 4294967296)).bind fun u6 => some ((⟨#[109]⟩ : ByteArray) ++ y1))
theorem laws_markText.c (k : Nat) (w : World) (a0 : Int) (r : ByteArray) (H : laws_markText.f k a0 = some r) :
    CV Tryz.prog 137 [.int .i64 a0].toArray w fun v w' => v = .string r ∧ Ext w w' := by
  have hS := (St.init w no)
  unfold laws_markText.f at H
  refine CV.body Tryz.func137 rfl Tryz.ntmps137 rfl ?_
  refine CJ.seq ?_
  refine CJ.region ?_
  refine OJ.pures tU_ok 1 rfl ?_
  refine OJ.nil (EJ.next ?_)
  refine CJ.seq ?_
  refine CJ.seq ?_
  refine CJ.region ?_
  refine OJ.pures tU_ok 2 rfl ?_
  refine OJ.nil (EJ.next ?_)
  refine CJ.cond rfl (fun hb => ?_) (fun hb => ?_)
  · replace H := pif_t (of_decide_eq_true hb) H
    refine CJ.seq ?_
    refine CJ.region ?_
    refine OJ.pures tU_ok 1 rfl ?_
    refine OJ.nil (EJ.next ?_)
    refine CJ.ret (EJ.skR (?_))
    obtain rfl := Option.some.inj H
    exact EJ.fin rfl (.tmp rfl .nil) ⟨rfl, hS.ext⟩
  · replace H := pif_f (of_decide_eq_false hb) H
    refine CJ.skip (EJ.next ?_)
    refine CJ.seq ?_
    refine CJ.region ?_
    refine OJ.pures tU_ok 1 rfl ?_
    refine OJ.nil (EJ.next ?_)
    obtain ⟨j169, H, K169⟩ := pbind H
    refine CJ.cut (fun F w1 => ∃ (y1 : ByteArray) , (some y1 : Option ByteArray) = some j169 ∧ F = [(3, .string y1)] ∧ St w no w1 [] []) ?_ ?_
    · skip
      refine CJ.block ?_
      refine CJ.loop (fun k F w1 => ∃ (y2 : Int) (y3 : ByteArray), F = [(0, .int .i64 y2), (3, .string y3)] ∧ St w no w1 [] [] ∧ laws_markText.l1 k y2 y3 = some j169) k (F' := [(0, .int .i64 a0), (3, .string ByteArray.empty)]) ⟨rfl, rfl, trivial⟩ ⟨a0, ByteArray.empty, rfl, hS.pick [] [] rfl, H⟩ ?_
      rintro k F w1 ⟨y2, y3, rfl, hS, H⟩
      cases k with
      | zero => rw [laws_markText.l1] at H; cases H
      | succ k =>
        rw [laws_markText.l1] at H
        refine CJ.seq ?_
        refine CJ.seq ?_
        refine CJ.region ?_
        refine OJ.pures tU_ok 2 rfl ?_
        refine OJ.nil (EJ.next ?_)
        refine CJ.cond rfl (fun hb => ?_) (fun hb => ?_)
        · replace H := pif_t (of_decide_eq_true hb) H
          refine CJ.skip (EJ.next ?_)
          refine CJ.block ?_
          refine CJ.seq ?_
          refine CJ.region ?_
          refine OJ.pures tU_ok 1 rfl ?_
          refine OJ.st rfl rfl rfl (SR.rem rfl rfl rfl (by decide)) ?_
          refine OJ.pures tU_ok 2 rfl ?_
          refine OJ.ef rfl rfl rfl (Ef.lit tU_ok tI_ok hS (C := (ci .u8)) rfl rfl rfl rfl rfl rfl ([IntKind.u8.wrap (IntKind.i64.wrap (48 + (Int.tmod y2 10)))] : List Int) rfl rfl rfl rfl) ?_
          rintro _ w1 ⟨A4, rfl, hS⟩
          refine OJ.st rfl rfl rfl (SR.b2s tU_ok rfl rfl rfl rfl rfl (hS.rd (i := 0) rfl)) ?_
          refine OJ.pures tU_ok 1 rfl ?_
          obtain ⟨u5, hu5, H⟩ := pbind H
          refine OJ.st rfl rfl rfl (SR.concat rfl rfl rfl (chk_some hu5)) ?_
          refine OJ.pures tU_ok 1 rfl ?_
          refine OJ.nil (EJ.next ?_)
          refine CJ.region ?_
          refine OJ.pures tU_ok 1 rfl ?_
          refine OJ.st rfl rfl rfl (SR.quo rfl rfl rfl (by decide)) ?_
          refine OJ.pures tU_ok 1 rfl ?_
          refine OJ.nil (EJ.blk (?_))
          exact EJ.round k (F' := [(0, .int .i64 (IntKind.i64.wrap (Int.tdiv y2 10))), (3, .string ((bstr ([IntKind.u8.wrap (IntKind.i64.wrap (48 + (Int.tmod y2 10)))] : List Int)) ++ y3))]) ⟨rfl, rfl, trivial⟩ (Nat.lt_succ_self _) ⟨(IntKind.i64.wrap (Int.tdiv y2 10)), ((bstr ([IntKind.u8.wrap (IntKind.i64.wrap (48 + (Int.tmod y2 10)))] : List Int)) ++ y3), rfl, hS.pick [] [] rfl, H⟩
        · replace H := pif_f (of_decide_eq_false hb) H
          refine CJ.exit (EJ.skE (EJ.skE (EJ.hit (?_))))
          exact EJ.meet (F' := [(3, .string y3)]) ⟨rfl, trivial⟩ ⟨y3, H, rfl, hS.pick [] [] rfl⟩
    · rintro F w1 ⟨y1, he, rfl, hS⟩
      obtain rfl := Option.some.inj he
      have H := K169
      refine CJ.seq ?_
      refine CJ.region ?_
      refine OJ.pures tU_ok 1 rfl ?_
      obtain ⟨u6, hu6, H⟩ := pbind H
      refine OJ.st rfl rfl rfl (SR.concat rfl rfl rfl (chk_some hu6)) ?_
      refine OJ.pures tU_ok 1 rfl ?_
      refine OJ.nil (EJ.next ?_)
      refine CJ.ret (?_)
      obtain rfl := Option.some.inj H
      exact EJ.fin rfl (.tmp rfl .nil) ⟨rfl, hS.ext⟩

def laws_markStringS.l1 (a0 : List ByteArray) : Nat → (List ByteArray) → Int → Int → Option ((List ByteArray) × Int)
  | 0, _, _, _ => none
  | k + 1, y3, y4, y5 => if y5 < (a0.length : Int) then ((laws_markText.f k y4).bind fun t6 => (getI y3 y5).bind fun t7 => laws_markStringS.l1 a0 k (y3.set y5.toNat t6) (IntKind.i64.wrap (y4 + 1)) (IntKind.i64.wrap (y5 + 1))) else (some (y3, y4))
def laws_markStringS.f (k : Nat) (a0 : List ByteArray) (a1 : Int) : Option (Int × List ByteArray) := (laws_markStringS.l1 a0 k a0 a1 0).bind fun (y1, y2) => some (y2, y1)
theorem laws_markStringS.c (k : Nat) (w : World) (Aa0 : Option Addr) (ca0 : Nat) (a0 : List ByteArray) (a1 : Int) (hin : St w (fpU [rowC G.cs Aa0 ca0 9 a0]) w [rowC G.cs Aa0 ca0 9 a0] []) (r : Int × List ByteArray) (H : laws_markStringS.f k a0 a1 = some r) :
    CV Tryz.prog 89 [.slice Aa0 a0.length ca0, .int .i64 a1].toArray w fun v w' => v = .int .i64 r.1 ∧ St w (fpU [rowC G.cs Aa0 ca0 9 a0]) w' [rowC G.cs Aa0 ca0 9 r.2] [] ∧ r.2.length = a0.length := by
  have hS := hin
  unfold laws_markStringS.f at H
  refine CV.body Tryz.func89 rfl Tryz.ntmps89 rfl ?_
  have hl0 : a0.length = a0.length := rfl
  refine CJ.seq ?_
  refine CJ.region ?_
  refine OJ.pures tU_ok 1 rfl ?_
  refine OJ.nil (EJ.next ?_)
  refine CJ.seq ?_
  refine CJ.seq ?_
  refine CJ.region ?_
  refine OJ.pures tU_ok 1 rfl ?_
  refine OJ.nil (EJ.next ?_)
  obtain ⟨j170, H, K170⟩ := pbind H
  refine CJ.cut1 (fun F w1 => ∃ (y1 : List ByteArray) (y2 : Int) , (some (y1, y2) : Option ((List ByteArray) × Int)) = some j170 ∧ F = [(1, .int .i64 y2)] ∧ St w (fpU [rowC G.cs Aa0 ca0 9 a0]) w1 [rowC G.cs Aa0 ca0 9 y1] [] ∧ y1.length = a0.length) ?_ ?_
  · skip
    refine CJ.block ?_
    refine CJ.loop (fun k F w1 => ∃ (y3 : List ByteArray) (y4 : Int) (y5 : Int), F = [(0, .slice Aa0 a0.length ca0), (1, .int .i64 y4), (5, .int .i64 y5)] ∧ St w (fpU [rowC G.cs Aa0 ca0 9 a0]) w1 [rowC G.cs Aa0 ca0 9 y3] [] ∧ y3.length = a0.length ∧ laws_markStringS.l1 a0 k y3 y4 y5 = some j170) k (F' := [(0, .slice Aa0 a0.length ca0), (1, .int .i64 a1), (5, .int .i64 0)]) ⟨rfl, rfl, rfl, trivial⟩ ⟨a0, a1, 0, rfl, hS.pick [0] [] rfl, (by first | exact hl0 | (simp only [List.length_set]; exact hl0) | (simp only [List.length_set]; done)), H⟩ ?_
    rintro k F w1 ⟨y3, y4, y5, rfl, hS, hl0, H⟩
    cases k with
    | zero => rw [laws_markStringS.l1] at H; cases H
    | succ k =>
      rw [laws_markStringS.l1] at H
      refine CJ.seq ?_
      refine CJ.seq ?_
      refine CJ.region ?_
      refine OJ.pures tU_ok 4 rfl ?_
      refine OJ.nil (EJ.next ?_)
      refine CJ.cond rfl (fun hb => ?_) (fun hb => ?_)
      · replace H := pif_t (of_decide_eq_true hb) H
        refine CJ.skip (EJ.next ?_)
        refine CJ.seq ?_
        refine CJ.block ?_
        refine CJ.seq ?_
        refine CJ.region ?_
        refine OJ.pures tU_ok 3 rfl ?_
        obtain ⟨t6, ht6, H⟩ := pbind H
        refine OJ.callF rfl rfl rfl rfl rfl hb137 rfl (laws_markText.c k _ y4 _ ht6) ?_
        rintro _ w1 ⟨rfl, hs⟩
        replace hS := hS.grow hs
        obtain ⟨t7, ht7, H⟩ := pbind H
        obtain ⟨ad7, e7⟩ := (hS.rd (i := 0) rfl).some' ht7
        refine OJ.st rfl rfl rfl (SR.idxS tU_ok tI_ok rfl rfl rfl rfl e7 rfl (by have hg := (getI_some ht7).1; (first | rw [hl0] at hg | (simp only [List.length_set] at hg; rw [hl0] at hg)); exact hg)) ?_
        refine OJ.es rfl rfl (Es.storeR tI_ok hS (i := 0) (off := 0) rfl rfl ht7 e7 rfl rfl rfl rfl (vs := G.cs.enc t6) rfl rfl (one1 rfl) (Nat.le_of_ble_eq_true rfl) t6 rfl) ?_
        intro w1 hS
        refine OJ.nil (EJ.next ?_)
        refine CJ.region ?_
        refine OJ.pures tU_ok 3 rfl ?_
        refine OJ.nil (EJ.blk (EJ.next ?_))
        refine CJ.region ?_
        refine OJ.pures tU_ok 3 rfl ?_
        refine OJ.nil ?_
        exact EJ.round k (F' := [(0, .slice Aa0 a0.length ca0), (1, .int .i64 (IntKind.i64.wrap (y4 + 1))), (5, .int .i64 (IntKind.i64.wrap (y5 + 1)))]) ⟨rfl, rfl, rfl, trivial⟩ (Nat.lt_succ_self _) ⟨(y3.set y5.toNat t6), (IntKind.i64.wrap (y4 + 1)), (IntKind.i64.wrap (y5 + 1)), rfl, hS.pick [0] [] rfl, (by first | exact hl0 | (simp only [List.length_set]; exact hl0) | (simp only [List.length_set]; done)), H⟩
      · replace H := pif_f (of_decide_eq_false hb) H
        refine CJ.exit (EJ.skE (EJ.skE (EJ.hit (?_))))
        exact EJ.meet (F' := [(1, .int .i64 y4)]) ⟨rfl, trivial⟩ ⟨y3, y4, H, rfl, hS.pick [0] [] rfl, (by first | exact hl0 | (simp only [List.length_set]; exact hl0) | (simp only [List.length_set]; done))⟩
  · rintro F w1 ⟨y1, y2, he, rfl, hS, hl0⟩
    obtain rfl := Option.some.inj he
    have H := K170
    refine EJ.next ?_
    refine CJ.seq ?_
    refine CJ.region ?_
    refine OJ.pures tU_ok 2 rfl ?_
    refine OJ.nil (EJ.next ?_)
    refine CJ.ret (?_)
    obtain rfl := Option.some.inj H
    exact EJ.fin rfl (.tmp rfl .nil) ⟨rfl, hS.pick [0] [] rfl, (by first | exact hl0 | (simp only [List.length_set]; exact hl0) | (simp only [List.length_set]; done))⟩

def laws_markInt16S.l1 (a0 : List Int) : Nat → (List Int) → Int → Int → Option ((List Int) × Int)
  | 0, _, _, _ => none
  | k + 1, y3, y4, y5 => if y5 < (a0.length : Int) then ((getI y3 y5).bind fun t6 => laws_markInt16S.l1 a0 k (y3.set y5.toNat (IntKind.i16.wrap y4)) (IntKind.i64.wrap (y4 + 1)) (IntKind.i64.wrap (y5 + 1))) else (some (y3, y4))
def laws_markInt16S.f (k : Nat) (a0 : List Int) (a1 : Int) : Option (Int × List Int) := (laws_markInt16S.l1 a0 k a0 a1 0).bind fun (y1, y2) => some (y2, y1)
theorem laws_markInt16S.c (k : Nat) (w : World) (Aa0 : Option Addr) (ca0 : Nat) (a0 : List Int) (a1 : Int) (hin : St w (fpU [rowC (ci .i16) Aa0 ca0 49 a0]) w [rowC (ci .i16) Aa0 ca0 49 a0] []) (r : Int × List Int) (H : laws_markInt16S.f k a0 a1 = some r) :
    CV Tryz.prog 90 [.slice Aa0 a0.length ca0, .int .i64 a1].toArray w fun v w' => v = .int .i64 r.1 ∧ St w (fpU [rowC (ci .i16) Aa0 ca0 49 a0]) w' [rowC (ci .i16) Aa0 ca0 49 r.2] [] ∧ r.2.length = a0.length := by
  have hS := hin
  unfold laws_markInt16S.f at H
  refine CV.body Tryz.func90 rfl Tryz.ntmps90 rfl ?_
  have hl0 : a0.length = a0.length := rfl
  refine CJ.seq ?_
  refine CJ.region ?_
  refine OJ.pures tU_ok 1 rfl ?_
  refine OJ.nil (EJ.next ?_)
  refine CJ.seq ?_
  refine CJ.seq ?_
  refine CJ.region ?_
  refine OJ.pures tU_ok 1 rfl ?_
  refine OJ.nil (EJ.next ?_)
  obtain ⟨j172, H, K172⟩ := pbind H
  refine CJ.cut1 (fun F w1 => ∃ (y1 : List Int) (y2 : Int) , (some (y1, y2) : Option ((List Int) × Int)) = some j172 ∧ F = [(1, .int .i64 y2)] ∧ St w (fpU [rowC (ci .i16) Aa0 ca0 49 a0]) w1 [rowC (ci .i16) Aa0 ca0 49 y1] [] ∧ y1.length = a0.length) ?_ ?_
  · skip
    refine CJ.block ?_
    refine CJ.loop (fun k F w1 => ∃ (y3 : List Int) (y4 : Int) (y5 : Int), F = [(0, .slice Aa0 a0.length ca0), (1, .int .i64 y4), (5, .int .i64 y5)] ∧ St w (fpU [rowC (ci .i16) Aa0 ca0 49 a0]) w1 [rowC (ci .i16) Aa0 ca0 49 y3] [] ∧ y3.length = a0.length ∧ laws_markInt16S.l1 a0 k y3 y4 y5 = some j172) k (F' := [(0, .slice Aa0 a0.length ca0), (1, .int .i64 a1), (5, .int .i64 0)]) ⟨rfl, rfl, rfl, trivial⟩ ⟨a0, a1, 0, rfl, hS.pick [0] [] rfl, (by first | exact hl0 | (simp only [List.length_set]; exact hl0) | (simp only [List.length_set]; done)), H⟩ ?_
    rintro k F w1 ⟨y3, y4, y5, rfl, hS, hl0, H⟩
    cases k with
    | zero => rw [laws_markInt16S.l1] at H; cases H
    | succ k =>
      rw [laws_markInt16S.l1] at H
      refine CJ.seq ?_
      refine CJ.seq ?_
      refine CJ.region ?_
      refine OJ.pures tU_ok 4 rfl ?_
      refine OJ.nil (EJ.next ?_)
      refine CJ.cond rfl (fun hb => ?_) (fun hb => ?_)
      · replace H := pif_t (of_decide_eq_true hb) H
        refine CJ.skip (EJ.next ?_)
        refine CJ.seq ?_
        refine CJ.block ?_
        refine CJ.seq ?_
        refine CJ.region ?_
        refine OJ.pures tU_ok 4 rfl ?_
        obtain ⟨t6, ht6, H⟩ := pbind H
        obtain ⟨ad6, e6⟩ := (hS.rd (i := 0) rfl).some' ht6
        refine OJ.st rfl rfl rfl (SR.idxS tU_ok tI_ok rfl rfl rfl rfl e6 rfl (by have hg := (getI_some ht6).1; (first | rw [hl0] at hg | (simp only [List.length_set] at hg; rw [hl0] at hg)); exact hg)) ?_
        refine OJ.es rfl rfl (Es.storeR tI_ok hS (i := 0) (off := 0) rfl rfl ht6 e6 rfl rfl rfl rfl (vs := (ci .i16).enc (IntKind.i16.wrap y4)) rfl rfl (one1 rfl) (Nat.le_of_ble_eq_true rfl) (IntKind.i16.wrap y4) rfl) ?_
        intro w1 hS
        refine OJ.nil (EJ.next ?_)
        refine CJ.region ?_
        refine OJ.pures tU_ok 3 rfl ?_
        refine OJ.nil (EJ.blk (EJ.next ?_))
        refine CJ.region ?_
        refine OJ.pures tU_ok 3 rfl ?_
        refine OJ.nil ?_
        exact EJ.round k (F' := [(0, .slice Aa0 a0.length ca0), (1, .int .i64 (IntKind.i64.wrap (y4 + 1))), (5, .int .i64 (IntKind.i64.wrap (y5 + 1)))]) ⟨rfl, rfl, rfl, trivial⟩ (Nat.lt_succ_self _) ⟨(y3.set y5.toNat (IntKind.i16.wrap y4)), (IntKind.i64.wrap (y4 + 1)), (IntKind.i64.wrap (y5 + 1)), rfl, hS.pick [0] [] rfl, (by first | exact hl0 | (simp only [List.length_set]; exact hl0) | (simp only [List.length_set]; done)), H⟩
      · replace H := pif_f (of_decide_eq_false hb) H
        refine CJ.exit (EJ.skE (EJ.skE (EJ.hit (?_))))
        exact EJ.meet (F' := [(1, .int .i64 y4)]) ⟨rfl, trivial⟩ ⟨y3, y4, H, rfl, hS.pick [0] [] rfl, (by first | exact hl0 | (simp only [List.length_set]; exact hl0) | (simp only [List.length_set]; done))⟩
  · rintro F w1 ⟨y1, y2, he, rfl, hS, hl0⟩
    obtain rfl := Option.some.inj he
    have H := K172
    refine EJ.next ?_
    refine CJ.seq ?_
    refine CJ.region ?_
    refine OJ.pures tU_ok 2 rfl ?_
    refine OJ.nil (EJ.next ?_)
    refine CJ.ret (?_)
    obtain rfl := Option.some.inj H
    exact EJ.fin rfl (.tmp rfl .nil) ⟨rfl, hS.pick [0] [] rfl, (by first | exact hl0 | (simp only [List.length_set]; exact hl0) | (simp only [List.length_set]; done))⟩

def laws_markUint16S.l1 (a0 : List Int) : Nat → (List Int) → Int → Int → Option ((List Int) × Int)
  | 0, _, _, _ => none
  | k + 1, y3, y4, y5 => if y5 < (a0.length : Int) then ((getI y3 y5).bind fun t6 => laws_markUint16S.l1 a0 k (y3.set y5.toNat (IntKind.u16.wrap y4)) (IntKind.i64.wrap (y4 + 1)) (IntKind.i64.wrap (y5 + 1))) else (some (y3, y4))
def laws_markUint16S.f (k : Nat) (a0 : List Int) (a1 : Int) : Option (Int × List Int) := (laws_markUint16S.l1 a0 k a0 a1 0).bind fun (y1, y2) => some (y2, y1)
theorem laws_markUint16S.c (k : Nat) (w : World) (Aa0 : Option Addr) (ca0 : Nat) (a0 : List Int) (a1 : Int) (hin : St w (fpU [rowC (ci .u16) Aa0 ca0 55 a0]) w [rowC (ci .u16) Aa0 ca0 55 a0] []) (r : Int × List Int) (H : laws_markUint16S.f k a0 a1 = some r) :
    CV Tryz.prog 91 [.slice Aa0 a0.length ca0, .int .i64 a1].toArray w fun v w' => v = .int .i64 r.1 ∧ St w (fpU [rowC (ci .u16) Aa0 ca0 55 a0]) w' [rowC (ci .u16) Aa0 ca0 55 r.2] [] ∧ r.2.length = a0.length := by
  have hS := hin
  unfold laws_markUint16S.f at H
  refine CV.body Tryz.func91 rfl Tryz.ntmps91 rfl ?_
  have hl0 : a0.length = a0.length := rfl
  refine CJ.seq ?_
  refine CJ.region ?_
  refine OJ.pures tU_ok 1 rfl ?_
  refine OJ.nil (EJ.next ?_)
  refine CJ.seq ?_
  refine CJ.seq ?_
  refine CJ.region ?_
  refine OJ.pures tU_ok 1 rfl ?_
  refine OJ.nil (EJ.next ?_)
  obtain ⟨j174, H, K174⟩ := pbind H
  refine CJ.cut1 (fun F w1 => ∃ (y1 : List Int) (y2 : Int) , (some (y1, y2) : Option ((List Int) × Int)) = some j174 ∧ F = [(1, .int .i64 y2)] ∧ St w (fpU [rowC (ci .u16) Aa0 ca0 55 a0]) w1 [rowC (ci .u16) Aa0 ca0 55 y1] [] ∧ y1.length = a0.length) ?_ ?_
  · skip
    refine CJ.block ?_
    refine CJ.loop (fun k F w1 => ∃ (y3 : List Int) (y4 : Int) (y5 : Int), F = [(0, .slice Aa0 a0.length ca0), (1, .int .i64 y4), (5, .int .i64 y5)] ∧ St w (fpU [rowC (ci .u16) Aa0 ca0 55 a0]) w1 [rowC (ci .u16) Aa0 ca0 55 y3] [] ∧ y3.length = a0.length ∧ laws_markUint16S.l1 a0 k y3 y4 y5 = some j174) k (F' := [(0, .slice Aa0 a0.length ca0), (1, .int .i64 a1), (5, .int .i64 0)]) ⟨rfl, rfl, rfl, trivial⟩ ⟨a0, a1, 0, rfl, hS.pick [0] [] rfl, (by first | exact hl0 | (simp only [List.length_set]; exact hl0) | (simp only [List.length_set]; done)), H⟩ ?_
    rintro k F w1 ⟨y3, y4, y5, rfl, hS, hl0, H⟩
    cases k with
    | zero => rw [laws_markUint16S.l1] at H; cases H
    | succ k =>
      rw [laws_markUint16S.l1] at H
      refine CJ.seq ?_
      refine CJ.seq ?_
      refine CJ.region ?_
      refine OJ.pures tU_ok 4 rfl ?_
      refine OJ.nil (EJ.next ?_)
      refine CJ.cond rfl (fun hb => ?_) (fun hb => ?_)
      · replace H := pif_t (of_decide_eq_true hb) H
        refine CJ.skip (EJ.next ?_)
        refine CJ.seq ?_
        refine CJ.block ?_
        refine CJ.seq ?_
        refine CJ.region ?_
        refine OJ.pures tU_ok 4 rfl ?_
        obtain ⟨t6, ht6, H⟩ := pbind H
        obtain ⟨ad6, e6⟩ := (hS.rd (i := 0) rfl).some' ht6
        refine OJ.st rfl rfl rfl (SR.idxS tU_ok tI_ok rfl rfl rfl rfl e6 rfl (by have hg := (getI_some ht6).1; (first | rw [hl0] at hg | (simp only [List.length_set] at hg; rw [hl0] at hg)); exact hg)) ?_
        refine OJ.es rfl rfl (Es.storeR tI_ok hS (i := 0) (off := 0) rfl rfl ht6 e6 rfl rfl rfl rfl (vs := (ci .u16).enc (IntKind.u16.wrap y4)) rfl rfl (one1 rfl) (Nat.le_of_ble_eq_true rfl) (IntKind.u16.wrap y4) rfl) ?_
        intro w1 hS
        refine OJ.nil (EJ.next ?_)
        refine CJ.region ?_
        refine OJ.pures tU_ok 3 rfl ?_
        refine OJ.nil (EJ.blk (EJ.next ?_))
        refine CJ.region ?_
        refine OJ.pures tU_ok 3 rfl ?_
        refine OJ.nil ?_
        exact EJ.round k (F' := [(0, .slice Aa0 a0.length ca0), (1, .int .i64 (IntKind.i64.wrap (y4 + 1))), (5, .int .i64 (IntKind.i64.wrap (y5 + 1)))]) ⟨rfl, rfl, rfl, trivial⟩ (Nat.lt_succ_self _) ⟨(y3.set y5.toNat (IntKind.u16.wrap y4)), (IntKind.i64.wrap (y4 + 1)), (IntKind.i64.wrap (y5 + 1)), rfl, hS.pick [0] [] rfl, (by first | exact hl0 | (simp only [List.length_set]; exact hl0) | (simp only [List.length_set]; done)), H⟩
      · replace H := pif_f (of_decide_eq_false hb) H
        refine CJ.exit (EJ.skE (EJ.skE (EJ.hit (?_))))
        exact EJ.meet (F' := [(1, .int .i64 y4)]) ⟨rfl, trivial⟩ ⟨y3, y4, H, rfl, hS.pick [0] [] rfl, (by first | exact hl0 | (simp only [List.length_set]; exact hl0) | (simp only [List.length_set]; done))⟩
  · rintro F w1 ⟨y1, y2, he, rfl, hS, hl0⟩
    obtain rfl := Option.some.inj he
    have H := K174
    refine EJ.next ?_
    refine CJ.seq ?_
    refine CJ.region ?_
    refine OJ.pures tU_ok 2 rfl ?_
    refine OJ.nil (EJ.next ?_)
    refine CJ.ret (?_)
    obtain rfl := Option.some.inj H
    exact EJ.fin rfl (.tmp rfl .nil) ⟨rfl, hS.pick [0] [] rfl, (by first | exact hl0 | (simp only [List.length_set]; exact hl0) | (simp only [List.length_set]; done))⟩

def laws_markHerd.f (k : Nat) (a0 : Herd) (a1 : Int) : Option (Int × List ByteArray × List Int × List Int) := (laws_markStringS.f k a0.Names a1).bind fun t2 => (laws_markInt16S.f k a0.Eats t2.1).bind fun t3 => (laws_markUint16S.f k a0.Foes t3.1).bind fun t4 => some (t4.1, t2.2, t3.2, t4.2)
theorem laws_markHerd.c (k : Nat) (w : World) (Aa0_0 : Option Addr) (ca0_0 : Nat) (Aa0_1 : Option Addr) (ca0_1 : Nat) (Aa0_2 : Option Addr) (ca0_2 : Nat) (a0 : Herd) (a1 : Int) (hin : St w (fpU [rowC G.cs Aa0_0 ca0_0 9 a0.Names, rowC (ci .i16) Aa0_1 ca0_1 49 a0.Eats, rowC (ci .u16) Aa0_2 ca0_2 55 a0.Foes]) w [rowC G.cs Aa0_0 ca0_0 9 a0.Names, rowC (ci .i16) Aa0_1 ca0_1 49 a0.Eats, rowC (ci .u16) Aa0_2 ca0_2 55 a0.Foes] []) (r : Int × List ByteArray × List Int × List Int) (H : laws_markHerd.f k a0 a1 = some r) :
    CV Tryz.prog 33 [.agg [.slice Aa0_0 a0.Names.length ca0_0, .slice Aa0_1 a0.Eats.length ca0_1, .slice Aa0_2 a0.Foes.length ca0_2].toArray, .int .i64 a1].toArray w fun v w' => v = .int .i64 r.1 ∧ St w (fpU [rowC G.cs Aa0_0 ca0_0 9 a0.Names, rowC (ci .i16) Aa0_1 ca0_1 49 a0.Eats, rowC (ci .u16) Aa0_2 ca0_2 55 a0.Foes]) w' [rowC G.cs Aa0_0 ca0_0 9 r.2.1, rowC (ci .i16) Aa0_1 ca0_1 49 r.2.2.1, rowC (ci .u16) Aa0_2 ca0_2 55 r.2.2.2] [] ∧ r.2.1.length = a0.Names.length ∧ r.2.2.1.length = a0.Eats.length ∧ r.2.2.2.length = a0.Foes.length := by
  have hS := hin
  unfold laws_markHerd.f at H
  refine CV.body Tryz.func33 rfl Tryz.ntmps33 rfl ?_
  have hl0 : a0.Names.length = a0.Names.length := rfl
  have hl1 : a0.Eats.length = a0.Eats.length := rfl
  have hl2 : a0.Foes.length = a0.Foes.length := rfl
  refine CJ.seq ?_
  refine CJ.region ?_
  refine OJ.ef rfl rfl rfl (Ef.box hS rfl rfl ([.slice Aa0_0 a0.Names.length ca0_0, .slice Aa0_1 a0.Eats.length ca0_1, .slice Aa0_2 a0.Foes.length ca0_2]) rfl) ?_
  rintro _ w1 ⟨b1, rfl, hS⟩
  refine OJ.pures tU_ok 1 rfl ?_
  refine OJ.nil (EJ.next ?_)
  refine CJ.seq ?_
  refine CJ.region ?_
  refine OJ.st rfl rfl rfl (SR.fieldAddr tU_ok tI_ok rfl rfl rfl rfl rfl rfl) ?_
  refine OJ.st rfl rfl rfl (SR.load rfl rfl (fun w' hx => ld1 tU_ok rfl rfl (CA.ext (CA.sub (hS.cells (i := 3) rfl) 0) hx) rfl)) ?_
  refine OJ.pures tU_ok 1 rfl ?_
  obtain ⟨t2, ht2, H⟩ := pbind H
  refine OJ.callF rfl rfl rfl rfl rfl hb89 rfl (laws_markStringS.c k _ Aa0_0 ca0_0 a0.Names a1 ((hS.subs [0] [] [] rfl).pick [0] [] rfl) _ ht2) ?_
  rintro _ w1 ⟨rfl, hs, hlc0⟩
  replace hS := hS.back [0] rfl rfl [rowC G.cs Aa0_0 ca0_0 9 t2.2] [] hs ⟨fun _ => Iff.rfl, trivial⟩
  have hl0 := hlc0.trans (by first | exact hl0 | (simp only [List.length_set]; exact hl0) | (simp only [List.length_set]; done))
  refine OJ.pures tU_ok 1 rfl ?_
  refine OJ.nil (EJ.next ?_)
  refine CJ.seq ?_
  refine CJ.region ?_
  refine OJ.st rfl rfl rfl (SR.fieldAddr tU_ok tI_ok rfl rfl rfl rfl rfl rfl) ?_
  refine OJ.st rfl rfl rfl (SR.load rfl rfl (fun w' hx => ld1 tU_ok rfl rfl (CA.ext (CA.sub (hS.cells (i := 3) rfl) 1) hx) rfl)) ?_
  refine OJ.pures tU_ok 1 rfl ?_
  obtain ⟨t3, ht3, H⟩ := pbind H
  refine OJ.callF rfl rfl rfl rfl rfl hb90 rfl (laws_markInt16S.c k _ Aa0_1 ca0_1 a0.Eats t2.1 ((hS.subs [1] [] [] rfl).pick [0] [] rfl) _ ht3) ?_
  rintro _ w1 ⟨rfl, hs, hlc0⟩
  replace hS := hS.back [1] rfl rfl [rowC (ci .i16) Aa0_1 ca0_1 49 t3.2] [] hs ⟨fun _ => Iff.rfl, trivial⟩
  have hl1 := hlc0.trans (by first | exact hl1 | (simp only [List.length_set]; exact hl1) | (simp only [List.length_set]; done))
  refine OJ.pures tU_ok 1 rfl ?_
  refine OJ.nil (EJ.next ?_)
  refine CJ.seq ?_
  refine CJ.region ?_
  refine OJ.st rfl rfl rfl (SR.fieldAddr tU_ok tI_ok rfl rfl rfl rfl rfl rfl) ?_
  refine OJ.st rfl rfl rfl (SR.load rfl rfl (fun w' hx => ld1 tU_ok rfl rfl (CA.ext (CA.sub (hS.cells (i := 3) rfl) 2) hx) rfl)) ?_
  refine OJ.pures tU_ok 1 rfl ?_
  obtain ⟨t4, ht4, H⟩ := pbind H
  refine OJ.callF rfl rfl rfl rfl rfl hb91 rfl (laws_markUint16S.c k _ Aa0_2 ca0_2 a0.Foes t3.1 ((hS.subs [2] [] [] rfl).pick [0] [] rfl) _ ht4) ?_
  rintro _ w1 ⟨rfl, hs, hlc0⟩
  replace hS := hS.back [2] rfl rfl [rowC (ci .u16) Aa0_2 ca0_2 55 t4.2] [] hs ⟨fun _ => Iff.rfl, trivial⟩
  have hl2 := hlc0.trans (by first | exact hl2 | (simp only [List.length_set]; exact hl2) | (simp only [List.length_set]; done))
  refine OJ.pures tU_ok 1 rfl ?_
  refine OJ.nil (EJ.next ?_)
  refine CJ.seq ?_
  refine CJ.region ?_
  refine OJ.pures tU_ok 2 rfl ?_
  refine OJ.nil (EJ.next ?_)
  refine CJ.ret (?_)
  obtain rfl := Option.some.inj H
  exact EJ.fin rfl (.tmp rfl .nil) ⟨rfl, hS.pick [0, 1, 2] [] rfl, (by first | exact hl0 | (simp only [List.length_set]; exact hl0) | (simp only [List.length_set]; done)), (by first | exact hl1 | (simp only [List.length_set]; exact hl1) | (simp only [List.length_set]; done)), (by first | exact hl2 | (simp only [List.length_set]; exact hl2) | (simp only [List.length_set]; done))⟩

def laws_heldStringS.l1 (a0 : List ByteArray) : Nat → Int → Int → Option (Int ⊕ Int)
  | 0, _, _ => none
  | k + 1, y2, y3 => if y3 < (a0.length : Int) then ((getI a0 y3).bind fun t4 => (laws_markText.f k y2).bind fun t5 => if t4 ≠ t5 then (some (Sum.inl (-1))) else (laws_heldStringS.l1 a0 k (IntKind.i64.wrap (y2 + 1)) (IntKind.i64.wrap (y3 + 1)))) else (some (Sum.inr y2))
def laws_heldStringS.f (k : Nat) (a0 : List ByteArray) (a1 : Int) : Option Int := (laws_heldStringS.l1 a0 k a1 0).bind fun s175 => match s175 with | .inl r => some r | .inr y1 => some y1
theorem laws_heldStringS.c (k : Nat) (w : World) (Aa0 : Option Addr) (ca0 : Nat) (a0 : List ByteArray) (hr0 : Rd G.cs w Aa0 a0) (hc0 : a0.length ≤ ca0) (a1 : Int) (r : Int) (H : laws_heldStringS.f k a0 a1 = some r) :
    CV Tryz.prog 92 [.slice Aa0 a0.length ca0, .int .i64 a1].toArray w fun v w' => v = .int .i64 r ∧ Ext w w' := by
  have hS := ((St.init w no).param G.cs Aa0 ca0 a0 hr0 hc0)
  unfold laws_heldStringS.f at H
  refine CV.body Tryz.func92 rfl Tryz.ntmps92 rfl ?_
  refine CJ.seq ?_
  refine CJ.region ?_
  refine OJ.pures tU_ok 1 rfl ?_
  refine OJ.nil (EJ.next ?_)
  refine CJ.seq ?_
  refine CJ.seq ?_
  refine CJ.region ?_
  refine OJ.pures tU_ok 1 rfl ?_
  refine OJ.nil (EJ.next ?_)
  obtain ⟨j175, H, K175⟩ := pbind H
  refine CJ.cut1 (fun F w1 => ∃ (y1 : Int) , (some (Sum.inr y1) : Option (Int ⊕ Int)) = some j175 ∧ F = [(1, .int .i64 y1)] ∧ St w no w1 [] [roC G.cs Aa0 ca0 a0]) ?_ ?_
  · skip
    refine CJ.block ?_
    refine CJ.loop (fun k F w1 => ∃ (y2 : Int) (y3 : Int), F = [(0, .slice Aa0 a0.length ca0), (1, .int .i64 y2), (5, .int .i64 y3)] ∧ St w no w1 [] [roC G.cs Aa0 ca0 a0] ∧ laws_heldStringS.l1 a0 k y2 y3 = some j175) k (F' := [(0, .slice Aa0 a0.length ca0), (1, .int .i64 a1), (5, .int .i64 0)]) ⟨rfl, rfl, rfl, trivial⟩ ⟨a1, 0, rfl, hS.pick [] [0] rfl, H⟩ ?_
    rintro k F w1 ⟨y2, y3, rfl, hS, H⟩
    cases k with
    | zero => rw [laws_heldStringS.l1] at H; cases H
    | succ k =>
      rw [laws_heldStringS.l1] at H
      refine CJ.seq ?_
      refine CJ.seq ?_
      refine CJ.region ?_
      refine OJ.pures tU_ok 4 rfl ?_
      refine OJ.nil (EJ.next ?_)
      refine CJ.cond rfl (fun hb => ?_) (fun hb => ?_)
      · replace H := pif_t (of_decide_eq_true hb) H
        refine CJ.skip (EJ.next ?_)
        refine CJ.seq ?_
        refine CJ.block ?_
        refine CJ.seq ?_
        refine CJ.seq ?_
        refine CJ.draw [] [0, 1, 2, 3, 4, 5, 6] mixed (by kernel_rfl) hS fun w1 hS => ?_
        refine DJ.pures tU_ok 2 rfl ?_
        obtain ⟨t4, ht4, H⟩ := pbind H
        obtain ⟨ad4, e4⟩ := (hS.rd' (i := 0) rfl).some' ht4
        refine DJ.st rfl rfl rfl rfl rfl (SR.idxS tU_ok tI_ok rfl rfl rfl rfl e4 rfl (getI_some ht4).1) ?_
        refine DJ.st rfl rfl rfl rfl rfl (SR.load rfl rfl (fun w' hx => ld1 tU_ok rfl rfl (CA.ext ((hS.rd' (i := 0) rfl).at_ e4 ht4) hx) rfl)) ?_
        refine DJ.pures tU_ok 1 rfl ?_
        obtain ⟨t5, ht5, H⟩ := pbind H
        refine DJ.callF rfl rfl rfl rfl rfl rfl rfl hb137 rfl (laws_markText.c k _ y2 _ ht5) (by rintro v w' ⟨rfl, hs⟩; exact hs) ?_
        rintro _ w1 ⟨rfl, hs⟩
        replace hS := hS.grow hs
        refine DJ.pures tU_ok 1 rfl ?_
        refine DJ.nil (EJ.next ?_)
        refine CJ.cond rfl (fun hb => ?_) (fun hb => ?_)
        · replace H := pif_t (of_decide_eq_true hb) H
          refine CJ.seq ?_
          refine CJ.region ?_
          refine OJ.pures tU_ok 1 rfl ?_
          refine OJ.nil (EJ.next ?_)
          refine CJ.ret (EJ.skR (EJ.bkR (EJ.skR (EJ.skR (EJ.bkR (EJ.skR (EJ.skR (?_))))))))
          first | (obtain rfl := Option.some.inj H; have H := K175) | (obtain ⟨q175, H2, e175⟩ := pbind H; obtain rfl := Option.some.inj e175; obtain rfl := Option.some.inj K175; have H := H2)
          obtain rfl := Option.some.inj H
          exact EJ.fin rfl (.tmp rfl .nil) ⟨rfl, hS.ext⟩
        · replace H := pif_f (of_decide_eq_false hb) H
          refine CJ.skip (EJ.next ?_)
          refine CJ.region ?_
          refine OJ.pures tU_ok 3 rfl ?_
          refine OJ.nil (EJ.blk (EJ.next ?_))
          refine CJ.region ?_
          refine OJ.pures tU_ok 3 rfl ?_
          refine OJ.nil ?_
          exact EJ.round k (F' := [(0, .slice Aa0 a0.length ca0), (1, .int .i64 (IntKind.i64.wrap (y2 + 1))), (5, .int .i64 (IntKind.i64.wrap (y3 + 1)))]) ⟨rfl, rfl, rfl, trivial⟩ (Nat.lt_succ_self _) ⟨(IntKind.i64.wrap (y2 + 1)), (IntKind.i64.wrap (y3 + 1)), rfl, hS.pick [] [0] rfl, H⟩
      · replace H := pif_f (of_decide_eq_false hb) H
        refine CJ.exit (EJ.skE (EJ.skE (EJ.hit (?_))))
        exact EJ.meet (F' := [(1, .int .i64 y2)]) ⟨rfl, trivial⟩ ⟨y2, H, rfl, hS.pick [] [0] rfl⟩
  · rintro F w1 ⟨y1, he, rfl, hS⟩
    obtain rfl := Option.some.inj he
    have H := K175
    refine EJ.next ?_
    refine CJ.seq ?_
    refine CJ.region ?_
    refine OJ.pures tU_ok 2 rfl ?_
    refine OJ.nil (EJ.next ?_)
    refine CJ.ret (?_)
    obtain rfl := Option.some.inj H
    exact EJ.fin rfl (.tmp rfl .nil) ⟨rfl, hS.ext⟩

def laws_heldInt16S.l1 (a0 : List Int) : Nat → Int → Int → Option (Int ⊕ Int)
  | 0, _, _ => none
  | k + 1, y2, y3 => if y3 < (a0.length : Int) then ((getI a0 y3).bind fun t4 => if t4 ≠ (IntKind.i16.wrap y2) then (some (Sum.inl (-1))) else (laws_heldInt16S.l1 a0 k (IntKind.i64.wrap (y2 + 1)) (IntKind.i64.wrap (y3 + 1)))) else (some (Sum.inr y2))
def laws_heldInt16S.f (k : Nat) (a0 : List Int) (a1 : Int) : Option Int := (laws_heldInt16S.l1 a0 k a1 0).bind fun s176 => match s176 with | .inl r => some r | .inr y1 => some y1
theorem laws_heldInt16S.c (k : Nat) (w : World) (Aa0 : Option Addr) (ca0 : Nat) (a0 : List Int) (hr0 : Rd (ci .i16) w Aa0 a0) (hc0 : a0.length ≤ ca0) (a1 : Int) (r : Int) (H : laws_heldInt16S.f k a0 a1 = some r) :
    CV Tryz.prog 93 [.slice Aa0 a0.length ca0, .int .i64 a1].toArray w fun v w' => v = .int .i64 r ∧ Ext w w' := by
  have hS := ((St.init w no).param (ci .i16) Aa0 ca0 a0 hr0 hc0)
  unfold laws_heldInt16S.f at H
  refine CV.body Tryz.func93 rfl Tryz.ntmps93 rfl ?_
  refine CJ.seq ?_
  refine CJ.region ?_
  refine OJ.pures tU_ok 1 rfl ?_
  refine OJ.nil (EJ.next ?_)
  refine CJ.seq ?_
  refine CJ.seq ?_
  refine CJ.region ?_
  refine OJ.pures tU_ok 1 rfl ?_
  refine OJ.nil (EJ.next ?_)
  obtain ⟨j176, H, K176⟩ := pbind H
  refine CJ.cut1 (fun F w1 => ∃ (y1 : Int) , (some (Sum.inr y1) : Option (Int ⊕ Int)) = some j176 ∧ F = [(1, .int .i64 y1)] ∧ St w no w1 [] [roC (ci .i16) Aa0 ca0 a0]) ?_ ?_
  · skip
    refine CJ.block ?_
    refine CJ.loop (fun k F w1 => ∃ (y2 : Int) (y3 : Int), F = [(0, .slice Aa0 a0.length ca0), (1, .int .i64 y2), (5, .int .i64 y3)] ∧ St w no w1 [] [roC (ci .i16) Aa0 ca0 a0] ∧ laws_heldInt16S.l1 a0 k y2 y3 = some j176) k (F' := [(0, .slice Aa0 a0.length ca0), (1, .int .i64 a1), (5, .int .i64 0)]) ⟨rfl, rfl, rfl, trivial⟩ ⟨a1, 0, rfl, hS.pick [] [0] rfl, H⟩ ?_
    rintro k F w1 ⟨y2, y3, rfl, hS, H⟩
    cases k with
    | zero => rw [laws_heldInt16S.l1] at H; cases H
    | succ k =>
      rw [laws_heldInt16S.l1] at H
      refine CJ.seq ?_
      refine CJ.seq ?_
      refine CJ.region ?_
      refine OJ.pures tU_ok 4 rfl ?_
      refine OJ.nil (EJ.next ?_)
      refine CJ.cond rfl (fun hb => ?_) (fun hb => ?_)
      · replace H := pif_t (of_decide_eq_true hb) H
        refine CJ.skip (EJ.next ?_)
        refine CJ.seq ?_
        refine CJ.block ?_
        refine CJ.seq ?_
        refine CJ.seq ?_
        refine CJ.region ?_
        refine OJ.pures tU_ok 2 rfl ?_
        obtain ⟨t4, ht4, H⟩ := pbind H
        obtain ⟨ad4, e4⟩ := (hS.rd' (i := 0) rfl).some' ht4
        refine OJ.st rfl rfl rfl (SR.idxS tU_ok tI_ok rfl rfl rfl rfl e4 rfl (getI_some ht4).1) ?_
        refine OJ.st rfl rfl rfl (SR.load rfl rfl (fun w' hx => ld1 tU_ok rfl rfl (CA.ext ((hS.rd' (i := 0) rfl).at_ e4 ht4) hx) rfl)) ?_
        refine OJ.pures tU_ok 3 rfl ?_
        refine OJ.nil (EJ.next ?_)
        refine CJ.cond rfl (fun hb => ?_) (fun hb => ?_)
        · replace H := pif_t (of_decide_eq_true hb) H
          refine CJ.seq ?_
          refine CJ.region ?_
          refine OJ.pures tU_ok 1 rfl ?_
          refine OJ.nil (EJ.next ?_)
          refine CJ.ret (EJ.skR (EJ.bkR (EJ.skR (EJ.skR (EJ.bkR (EJ.skR (EJ.skR (?_))))))))
          first | (obtain rfl := Option.some.inj H; have H := K176) | (obtain ⟨q176, H2, e176⟩ := pbind H; obtain rfl := Option.some.inj e176; obtain rfl := Option.some.inj K176; have H := H2)
          obtain rfl := Option.some.inj H
          exact EJ.fin rfl (.tmp rfl .nil) ⟨rfl, hS.ext⟩
        · replace H := pif_f (of_decide_eq_false hb) H
          refine CJ.skip (EJ.next ?_)
          refine CJ.region ?_
          refine OJ.pures tU_ok 3 rfl ?_
          refine OJ.nil (EJ.blk (EJ.next ?_))
          refine CJ.region ?_
          refine OJ.pures tU_ok 3 rfl ?_
          refine OJ.nil ?_
          exact EJ.round k (F' := [(0, .slice Aa0 a0.length ca0), (1, .int .i64 (IntKind.i64.wrap (y2 + 1))), (5, .int .i64 (IntKind.i64.wrap (y3 + 1)))]) ⟨rfl, rfl, rfl, trivial⟩ (Nat.lt_succ_self _) ⟨(IntKind.i64.wrap (y2 + 1)), (IntKind.i64.wrap (y3 + 1)), rfl, hS.pick [] [0] rfl, H⟩
      · replace H := pif_f (of_decide_eq_false hb) H
        refine CJ.exit (EJ.skE (EJ.skE (EJ.hit (?_))))
        exact EJ.meet (F' := [(1, .int .i64 y2)]) ⟨rfl, trivial⟩ ⟨y2, H, rfl, hS.pick [] [0] rfl⟩
  · rintro F w1 ⟨y1, he, rfl, hS⟩
    obtain rfl := Option.some.inj he
    have H := K176
    refine EJ.next ?_
    refine CJ.seq ?_
    refine CJ.region ?_
    refine OJ.pures tU_ok 2 rfl ?_
    refine OJ.nil (EJ.next ?_)
    refine CJ.ret (?_)
    obtain rfl := Option.some.inj H
    exact EJ.fin rfl (.tmp rfl .nil) ⟨rfl, hS.ext⟩

def laws_heldUint16S.l1 (a0 : List Int) : Nat → Int → Int → Option (Int ⊕ Int)
  | 0, _, _ => none
  | k + 1, y2, y3 => if y3 < (a0.length : Int) then ((getI a0 y3).bind fun t4 => if t4 ≠ (IntKind.u16.wrap y2) then (some (Sum.inl (-1))) else (laws_heldUint16S.l1 a0 k (IntKind.i64.wrap (y2 + 1)) (IntKind.i64.wrap (y3 + 1)))) else (some (Sum.inr y2))
def laws_heldUint16S.f (k : Nat) (a0 : List Int) (a1 : Int) : Option Int := (laws_heldUint16S.l1 a0 k a1 0).bind fun s177 => match s177 with | .inl r => some r | .inr y1 => some y1
theorem laws_heldUint16S.c (k : Nat) (w : World) (Aa0 : Option Addr) (ca0 : Nat) (a0 : List Int) (hr0 : Rd (ci .u16) w Aa0 a0) (hc0 : a0.length ≤ ca0) (a1 : Int) (r : Int) (H : laws_heldUint16S.f k a0 a1 = some r) :
    CV Tryz.prog 94 [.slice Aa0 a0.length ca0, .int .i64 a1].toArray w fun v w' => v = .int .i64 r ∧ Ext w w' := by
  have hS := ((St.init w no).param (ci .u16) Aa0 ca0 a0 hr0 hc0)
  unfold laws_heldUint16S.f at H
  refine CV.body Tryz.func94 rfl Tryz.ntmps94 rfl ?_
  refine CJ.seq ?_
  refine CJ.region ?_
  refine OJ.pures tU_ok 1 rfl ?_
  refine OJ.nil (EJ.next ?_)
  refine CJ.seq ?_
  refine CJ.seq ?_
  refine CJ.region ?_
  refine OJ.pures tU_ok 1 rfl ?_
  refine OJ.nil (EJ.next ?_)
  obtain ⟨j177, H, K177⟩ := pbind H
  refine CJ.cut1 (fun F w1 => ∃ (y1 : Int) , (some (Sum.inr y1) : Option (Int ⊕ Int)) = some j177 ∧ F = [(1, .int .i64 y1)] ∧ St w no w1 [] [roC (ci .u16) Aa0 ca0 a0]) ?_ ?_
  · skip
    refine CJ.block ?_
    refine CJ.loop (fun k F w1 => ∃ (y2 : Int) (y3 : Int), F = [(0, .slice Aa0 a0.length ca0), (1, .int .i64 y2), (5, .int .i64 y3)] ∧ St w no w1 [] [roC (ci .u16) Aa0 ca0 a0] ∧ laws_heldUint16S.l1 a0 k y2 y3 = some j177) k (F' := [(0, .slice Aa0 a0.length ca0), (1, .int .i64 a1), (5, .int .i64 0)]) ⟨rfl, rfl, rfl, trivial⟩ ⟨a1, 0, rfl, hS.pick [] [0] rfl, H⟩ ?_
    rintro k F w1 ⟨y2, y3, rfl, hS, H⟩
    cases k with
    | zero => rw [laws_heldUint16S.l1] at H; cases H
    | succ k =>
      rw [laws_heldUint16S.l1] at H
      refine CJ.seq ?_
      refine CJ.seq ?_
      refine CJ.region ?_
      refine OJ.pures tU_ok 4 rfl ?_
      refine OJ.nil (EJ.next ?_)
      refine CJ.cond rfl (fun hb => ?_) (fun hb => ?_)
      · replace H := pif_t (of_decide_eq_true hb) H
        refine CJ.skip (EJ.next ?_)
        refine CJ.seq ?_
        refine CJ.block ?_
        refine CJ.seq ?_
        refine CJ.seq ?_
        refine CJ.region ?_
        refine OJ.pures tU_ok 2 rfl ?_
        obtain ⟨t4, ht4, H⟩ := pbind H
        obtain ⟨ad4, e4⟩ := (hS.rd' (i := 0) rfl).some' ht4
        refine OJ.st rfl rfl rfl (SR.idxS tU_ok tI_ok rfl rfl rfl rfl e4 rfl (getI_some ht4).1) ?_
        refine OJ.st rfl rfl rfl (SR.load rfl rfl (fun w' hx => ld1 tU_ok rfl rfl (CA.ext ((hS.rd' (i := 0) rfl).at_ e4 ht4) hx) rfl)) ?_
        refine OJ.pures tU_ok 3 rfl ?_
        refine OJ.nil (EJ.next ?_)
        refine CJ.cond rfl (fun hb => ?_) (fun hb => ?_)
        · replace H := pif_t (of_decide_eq_true hb) H
          refine CJ.seq ?_
          refine CJ.region ?_
          refine OJ.pures tU_ok 1 rfl ?_
          refine OJ.nil (EJ.next ?_)
          refine CJ.ret (EJ.skR (EJ.bkR (EJ.skR (EJ.skR (EJ.bkR (EJ.skR (EJ.skR (?_))))))))
          first | (obtain rfl := Option.some.inj H; have H := K177) | (obtain ⟨q177, H2, e177⟩ := pbind H; obtain rfl := Option.some.inj e177; obtain rfl := Option.some.inj K177; have H := H2)
          obtain rfl := Option.some.inj H
          exact EJ.fin rfl (.tmp rfl .nil) ⟨rfl, hS.ext⟩
        · replace H := pif_f (of_decide_eq_false hb) H
          refine CJ.skip (EJ.next ?_)
          refine CJ.region ?_
          refine OJ.pures tU_ok 3 rfl ?_
          refine OJ.nil (EJ.blk (EJ.next ?_))
          refine CJ.region ?_
          refine OJ.pures tU_ok 3 rfl ?_
          refine OJ.nil ?_
          exact EJ.round k (F' := [(0, .slice Aa0 a0.length ca0), (1, .int .i64 (IntKind.i64.wrap (y2 + 1))), (5, .int .i64 (IntKind.i64.wrap (y3 + 1)))]) ⟨rfl, rfl, rfl, trivial⟩ (Nat.lt_succ_self _) ⟨(IntKind.i64.wrap (y2 + 1)), (IntKind.i64.wrap (y3 + 1)), rfl, hS.pick [] [0] rfl, H⟩
      · replace H := pif_f (of_decide_eq_false hb) H
        refine CJ.exit (EJ.skE (EJ.skE (EJ.hit (?_))))
        exact EJ.meet (F' := [(1, .int .i64 y2)]) ⟨rfl, trivial⟩ ⟨y2, H, rfl, hS.pick [] [0] rfl⟩
  · rintro F w1 ⟨y1, he, rfl, hS⟩
    obtain rfl := Option.some.inj he
    have H := K177
    refine EJ.next ?_
    refine CJ.seq ?_
    refine CJ.region ?_
    refine OJ.pures tU_ok 2 rfl ?_
    refine OJ.nil (EJ.next ?_)
    refine CJ.ret (?_)
    obtain rfl := Option.some.inj H
    exact EJ.fin rfl (.tmp rfl .nil) ⟨rfl, hS.ext⟩

def laws_heldHerd.f (k : Nat) (a0 : Herd) (a1 : Int) : Option Int := (laws_heldStringS.f k a0.Names a1).bind fun t2 => if t2 < 0 then (some (-1)) else ((laws_heldInt16S.f k a0.Eats t2).bind fun t3 => if t3 < 0 then (some (-1)) else ((laws_heldUint16S.f k a0.Foes t3).bind fun t4 => if t4 < 0 then (some (-1)) else (some t4)))
theorem laws_heldHerd.c (k : Nat) (w : World) (Aa0_0 : Option Addr) (ca0_0 : Nat) (Aa0_1 : Option Addr) (ca0_1 : Nat) (Aa0_2 : Option Addr) (ca0_2 : Nat) (a0 : Herd) (hr0_0 : Rd G.cs w Aa0_0 a0.Names) (hc0_0 : a0.Names.length ≤ ca0_0) (hr0_1 : Rd (ci .i16) w Aa0_1 a0.Eats) (hc0_1 : a0.Eats.length ≤ ca0_1) (hr0_2 : Rd (ci .u16) w Aa0_2 a0.Foes) (hc0_2 : a0.Foes.length ≤ ca0_2) (a1 : Int) (r : Int) (H : laws_heldHerd.f k a0 a1 = some r) :
    CV Tryz.prog 34 [.agg [.slice Aa0_0 a0.Names.length ca0_0, .slice Aa0_1 a0.Eats.length ca0_1, .slice Aa0_2 a0.Foes.length ca0_2].toArray, .int .i64 a1].toArray w fun v w' => v = .int .i64 r ∧ Ext w w' := by
  have hS := ((((St.init w no).param G.cs Aa0_0 ca0_0 a0.Names hr0_0 hc0_0).param (ci .i16) Aa0_1 ca0_1 a0.Eats hr0_1 hc0_1).param (ci .u16) Aa0_2 ca0_2 a0.Foes hr0_2 hc0_2)
  unfold laws_heldHerd.f at H
  refine CV.body Tryz.func34 rfl Tryz.ntmps34 rfl ?_
  refine CJ.seq ?_
  refine CJ.region ?_
  refine OJ.ef rfl rfl rfl (Ef.box hS rfl rfl ([.slice Aa0_0 a0.Names.length ca0_0, .slice Aa0_1 a0.Eats.length ca0_1, .slice Aa0_2 a0.Foes.length ca0_2]) rfl) ?_
  rintro _ w1 ⟨b1, rfl, hS⟩
  refine OJ.pures tU_ok 1 rfl ?_
  refine OJ.nil (EJ.next ?_)
  refine CJ.seq ?_
  refine CJ.region ?_
  refine OJ.st rfl rfl rfl (SR.fieldAddr tU_ok tI_ok rfl rfl rfl rfl rfl rfl) ?_
  refine OJ.st rfl rfl rfl (SR.load rfl rfl (fun w' hx => ld1 tU_ok rfl rfl (CA.ext (CA.sub (hS.cells (i := 0) rfl) 0) hx) rfl)) ?_
  refine OJ.pures tU_ok 1 rfl ?_
  obtain ⟨t2, ht2, H⟩ := pbind H
  refine OJ.callF rfl rfl rfl rfl rfl hb92 rfl (laws_heldStringS.c k _ Aa0_0 ca0_0 a0.Names (hS.rd' (i := 0) rfl) (hS.le' (i := 0) rfl) a1 _ ht2) ?_
  rintro _ w1 ⟨rfl, hs⟩
  replace hS := hS.grow hs
  refine OJ.pures tU_ok 1 rfl ?_
  refine OJ.nil (EJ.next ?_)
  refine CJ.seq ?_
  refine CJ.seq ?_
  refine CJ.region ?_
  refine OJ.pures tU_ok 2 rfl ?_
  refine OJ.nil (EJ.next ?_)
  refine CJ.cond rfl (fun hb => ?_) (fun hb => ?_)
  · replace H := pif_t (of_decide_eq_true hb) H
    refine CJ.seq ?_
    refine CJ.region ?_
    refine OJ.pures tU_ok 1 rfl ?_
    refine OJ.nil (EJ.next ?_)
    refine CJ.ret (EJ.skR (?_))
    obtain rfl := Option.some.inj H
    exact EJ.fin rfl (.tmp rfl .nil) ⟨rfl, hS.ext⟩
  · replace H := pif_f (of_decide_eq_false hb) H
    refine CJ.skip (EJ.next ?_)
    refine CJ.seq ?_
    refine CJ.region ?_
    refine OJ.st rfl rfl rfl (SR.fieldAddr tU_ok tI_ok rfl rfl rfl rfl rfl rfl) ?_
    refine OJ.st rfl rfl rfl (SR.load rfl rfl (fun w' hx => ld1 tU_ok rfl rfl (CA.ext (CA.sub (hS.cells (i := 0) rfl) 1) hx) rfl)) ?_
    refine OJ.pures tU_ok 1 rfl ?_
    obtain ⟨t3, ht3, H⟩ := pbind H
    refine OJ.callF rfl rfl rfl rfl rfl hb93 rfl (laws_heldInt16S.c k _ Aa0_1 ca0_1 a0.Eats (hS.rd' (i := 1) rfl) (hS.le' (i := 1) rfl) t2 _ ht3) ?_
    rintro _ w1 ⟨rfl, hs⟩
    replace hS := hS.grow hs
    refine OJ.pures tU_ok 1 rfl ?_
    refine OJ.nil (EJ.next ?_)
    refine CJ.seq ?_
    refine CJ.seq ?_
    refine CJ.region ?_
    refine OJ.pures tU_ok 2 rfl ?_
    refine OJ.nil (EJ.next ?_)
    refine CJ.cond rfl (fun hb => ?_) (fun hb => ?_)
    · replace H := pif_t (of_decide_eq_true hb) H
      refine CJ.seq ?_
      refine CJ.region ?_
      refine OJ.pures tU_ok 1 rfl ?_
      refine OJ.nil (EJ.next ?_)
      refine CJ.ret (EJ.skR (?_))
      obtain rfl := Option.some.inj H
      exact EJ.fin rfl (.tmp rfl .nil) ⟨rfl, hS.ext⟩
    · replace H := pif_f (of_decide_eq_false hb) H
      refine CJ.skip (EJ.next ?_)
      refine CJ.seq ?_
      refine CJ.region ?_
      refine OJ.st rfl rfl rfl (SR.fieldAddr tU_ok tI_ok rfl rfl rfl rfl rfl rfl) ?_
      refine OJ.st rfl rfl rfl (SR.load rfl rfl (fun w' hx => ld1 tU_ok rfl rfl (CA.ext (CA.sub (hS.cells (i := 0) rfl) 2) hx) rfl)) ?_
      refine OJ.pures tU_ok 1 rfl ?_
      obtain ⟨t4, ht4, H⟩ := pbind H
      refine OJ.callF rfl rfl rfl rfl rfl hb94 rfl (laws_heldUint16S.c k _ Aa0_2 ca0_2 a0.Foes (hS.rd' (i := 2) rfl) (hS.le' (i := 2) rfl) t3 _ ht4) ?_
      rintro _ w1 ⟨rfl, hs⟩
      replace hS := hS.grow hs
      refine OJ.pures tU_ok 1 rfl ?_
      refine OJ.nil (EJ.next ?_)
      refine CJ.seq ?_
      refine CJ.seq ?_
      refine CJ.region ?_
      refine OJ.pures tU_ok 2 rfl ?_
      refine OJ.nil (EJ.next ?_)
      refine CJ.cond rfl (fun hb => ?_) (fun hb => ?_)
      · replace H := pif_t (of_decide_eq_true hb) H
        refine CJ.seq ?_
        refine CJ.region ?_
        refine OJ.pures tU_ok 1 rfl ?_
        refine OJ.nil (EJ.next ?_)
        refine CJ.ret (EJ.skR (?_))
        obtain rfl := Option.some.inj H
        exact EJ.fin rfl (.tmp rfl .nil) ⟨rfl, hS.ext⟩
      · replace H := pif_f (of_decide_eq_false hb) H
        refine CJ.skip (EJ.next ?_)
        refine CJ.seq ?_
        refine CJ.region ?_
        refine OJ.pures tU_ok 2 rfl ?_
        refine OJ.nil (EJ.next ?_)
        refine CJ.ret (?_)
        obtain rfl := Option.some.inj H
        exact EJ.fin rfl (.tmp rfl .nil) ⟨rfl, hS.ext⟩

def laws_FnExactReadHerd.f (k : Nat) (a0 : ByteArray) : Option Bool := if 1048576 < (a0.size : Int) then (some true) else ((spec_ReadHerd.f k a0).bind fun t1 => (impl_ReadHerd.f k a0).bind fun t9 => ((laws_eqHerd.f k t9.1 t1.1).bind fun t18 => if (!t18) = true then (some true) else (some (decide (t9.2 ≠ t1.2)))).bind fun y17 => if y17 = true then (some false) else ((laws_markHerd.f k t9.1 1).bind fun t19 => (laws_heldHerd.f k (⟨t19.2.1, t19.2.2.1, t19.2.2.2⟩ : Herd) 1).bind fun t20 => if t20 < 0 then (some false) else (if t20 ≠ t19.1 then (some false) else ((impl_ReadHerd.f k a0).bind fun t21 => ((laws_eqHerd.f k t21.1 t1.1).bind fun t30 => if (!t30) = true then (some true) else (some (decide (t21.2 ≠ t1.2)))).bind fun y29 => if y29 = true then (some false) else ((laws_heldHerd.f k (⟨t19.2.1, t19.2.2.1, t19.2.2.2⟩ : Herd) 1).bind fun t31 => if t31 < 0 then (some false) else (if t31 ≠ t19.1 then (some false) else (some true)))))))
theorem laws_FnExactReadHerd.c (k : Nat) (w : World) (a0 : ByteArray) (hT : (envC Tryz.prog 0).holds w) (r : Bool) (H : laws_FnExactReadHerd.f k a0 = some r) :
    CV Tryz.prog 4 [.string a0].toArray w fun v w' => v = .bool r ∧ Ext w w' := by
  have hS := ((St.init w no).paramT (envC Tryz.prog 0) hT)
  unfold laws_FnExactReadHerd.f at H
  refine CV.body Tryz.func4 rfl Tryz.ntmps4 rfl ?_
  refine CJ.seq ?_
  refine CJ.region ?_
  refine OJ.pures tU_ok 1 rfl ?_
  refine OJ.nil (EJ.next ?_)
  refine CJ.seq ?_
  refine CJ.seq ?_
  refine CJ.region ?_
  refine OJ.pures tU_ok 3 rfl ?_
  refine OJ.nil (EJ.next ?_)
  refine CJ.cond rfl (fun hb => ?_) (fun hb => ?_)
  · replace H := pif_t (of_decide_eq_true hb) H
    refine CJ.seq ?_
    refine CJ.region ?_
    refine OJ.pures tU_ok 1 rfl ?_
    refine OJ.nil (EJ.next ?_)
    refine CJ.ret (EJ.skR (?_))
    obtain rfl := Option.some.inj H
    exact EJ.fin rfl (.tmp rfl .nil) ⟨rfl, hS.ext⟩
  · replace H := pif_f (of_decide_eq_false hb) H
    refine CJ.skip (EJ.next ?_)
    refine CJ.seq ?_
    refine CJ.region ?_
    refine OJ.pures tU_ok 1 rfl ?_
    obtain ⟨t1, ht1, H⟩ := pbind H
    refine OJ.callF rfl rfl rfl rfl rfl hb31 rfl (spec_ReadHerd.c k _ a0 _ ht1) ?_
    rintro _ w1 ⟨A2, c3, A4, c5, A6, c7, rfl, hs⟩
    replace hS := hS.addN hs
    refine OJ.pures tU_ok 3 rfl ?_
    refine OJ.ef rfl rfl rfl (Ef.alloc hS tI_ok rfl rfl ([.slice none 0 0, .slice none 0 0, .slice none 0 0]) rfl) ?_
    rintro _ w1 ⟨b8, rfl, hS⟩
    refine OJ.es rfl rfl (Es.store tI_ok hS (i := 3) (vs := [.slice A2 t1.1.Names.length c3, .slice A4 t1.1.Eats.length c5, .slice A6 t1.1.Foes.length c7]) rfl rfl rfl rfl rfl rfl rfl rfl (by intro u hu; simp only [List.mem_cons, List.not_mem_nil, or_false] at hu; rcases hu with rfl | rfl | rfl <;> rfl) (Nat.le_of_ble_eq_true rfl) ([.slice A2 t1.1.Names.length c3, .slice A4 t1.1.Eats.length c5, .slice A6 t1.1.Foes.length c7]) rfl) ?_
    intro w1 hS
    refine OJ.pures tU_ok 1 rfl ?_
    refine OJ.nil (EJ.next ?_)
    refine CJ.seq ?_
    refine CJ.region ?_
    refine OJ.pures tU_ok 1 rfl ?_
    obtain ⟨t9, ht9, H⟩ := pbind H
    refine OJ.callF rfl rfl rfl rfl rfl hb7 rfl (impl_ReadHerd.c k _ a0 (hS.ro (i := 0) rfl) _ ht9) ?_
    rintro _ w1 ⟨A10, c11, A12, c13, A14, c15, rfl, hs⟩
    replace hS := hS.addN hs
    have hS : St w no w1 [rowC G.cs A2 c3 9 t1.1.Names, rowC (ci .i16) A4 c5 49 t1.1.Eats, rowC (ci .u16) A6 c7 55 t1.1.Foes, box b8 ([.slice A2 t1.1.Names.length c3, .slice A4 t1.1.Eats.length c5, .slice A6 t1.1.Foes.length c7]) 28, rowC G.cs A10 c11 9 t9.1.Names, rowC (ci .i16) A12 c13 49 t9.1.Eats, rowC (ci .u16) A14 c15 55 t9.1.Foes] [envC Tryz.prog 0] := hS
    refine OJ.pures tU_ok 3 rfl ?_
    refine OJ.ef rfl rfl rfl (Ef.alloc hS tI_ok rfl rfl ([.slice none 0 0, .slice none 0 0, .slice none 0 0]) rfl) ?_
    rintro _ w1 ⟨b16, rfl, hS⟩
    refine OJ.es rfl rfl (Es.store tI_ok hS (i := 7) (vs := [.slice A10 t9.1.Names.length c11, .slice A12 t9.1.Eats.length c13, .slice A14 t9.1.Foes.length c15]) rfl rfl rfl rfl rfl rfl rfl rfl (by intro u hu; simp only [List.mem_cons, List.not_mem_nil, or_false] at hu; rcases hu with rfl | rfl | rfl <;> rfl) (Nat.le_of_ble_eq_true rfl) ([.slice A10 t9.1.Names.length c11, .slice A12 t9.1.Eats.length c13, .slice A14 t9.1.Foes.length c15]) rfl) ?_
    intro w1 hS
    refine OJ.pures tU_ok 1 rfl ?_
    refine OJ.nil (EJ.next ?_)
    refine CJ.seq ?_
    obtain ⟨j164, H, K164⟩ := pbind H
    refine CJ.cut (fun F w1 => ∃ (y17 : Bool) , (some y17 : Option Bool) = some j164 ∧ F = [(0, .string a0), (3, .pointer (some ⟨b8, 0, none⟩)), (4, .int .i64 t1.2), (5, .pointer (some ⟨b16, 0, none⟩)), (32, .bool y17)] ∧ St w no w1 [rowC G.cs A2 c3 9 t1.1.Names, rowC (ci .i16) A4 c5 49 t1.1.Eats, rowC (ci .u16) A6 c7 55 t1.1.Foes, box b8 ([.slice A2 t1.1.Names.length c3, .slice A4 t1.1.Eats.length c5, .slice A6 t1.1.Foes.length c7]) 28, rowC G.cs A10 c11 9 t9.1.Names, rowC (ci .i16) A12 c13 49 t9.1.Eats, rowC (ci .u16) A14 c15 55 t9.1.Foes, box b16 ([.slice A10 t9.1.Names.length c11, .slice A12 t9.1.Eats.length c13, .slice A14 t9.1.Foes.length c15]) 28] [envC Tryz.prog 0]) ?_ ?_
    · skip
      refine CJ.region ?_
      refine OJ.st rfl rfl rfl (SR.load rfl rfl (fun w' hx => ldN tU_ok tI_ok rfl rfl rfl (CA.ext (hS.cells (i := 7) rfl) hx) (ds := [.slice A10 t9.1.Names.length c11, .slice A12 t9.1.Eats.length c13, .slice A14 t9.1.Foes.length c15]) rfl rfl)) ?_
      refine OJ.st rfl rfl rfl (SR.load rfl rfl (fun w' hx => ldN tU_ok tI_ok rfl rfl rfl (CA.ext (hS.cells (i := 3) rfl) hx) (ds := [.slice A2 t1.1.Names.length c3, .slice A4 t1.1.Eats.length c5, .slice A6 t1.1.Foes.length c7]) rfl rfl)) ?_
      obtain ⟨t18, ht18, H⟩ := pbind H
      refine OJ.callF rfl rfl rfl rfl rfl hb32 rfl (laws_eqHerd.c k _ A10 c11 A12 c13 A14 c15 t9.1 (hS.rd (i := 4) rfl) (hS.le (i := 4) rfl) (hS.rd (i := 5) rfl) (hS.le (i := 5) rfl) (hS.rd (i := 6) rfl) (hS.le (i := 6) rfl) A2 c3 A4 c5 A6 c7 t1.1 (hS.rd (i := 0) rfl) (hS.le (i := 0) rfl) (hS.rd (i := 1) rfl) (hS.le (i := 1) rfl) (hS.rd (i := 2) rfl) (hS.le (i := 2) rfl) _ ht18) ?_
      rintro _ w1 ⟨rfl, hs⟩
      replace hS := hS.grow hs
      refine OJ.pures tU_ok 2 rfl ?_
      refine OJ.split (t := 28) rfl (fun hb => ?_) (fun hb => ?_)
      · replace H := pif_t hb H
        refine OJ.pures tU_ok 4 rfl ?_
        refine OJ.nil ?_
        exact EJ.meet (F' := [(0, .string a0), (3, .pointer (some ⟨b8, 0, none⟩)), (4, .int .i64 t1.2), (5, .pointer (some ⟨b16, 0, none⟩)), (32, .bool true)]) ⟨rfl, rfl, rfl, rfl, rfl, trivial⟩ ⟨true, H, rfl, hS.pick [0, 1, 2, 3, 4, 5, 6, 7] [0] rfl⟩
      · replace H := pifb_f hb H
        refine OJ.pures tU_ok 4 rfl ?_
        refine OJ.nil ?_
        exact EJ.meet (F' := [(0, .string a0), (3, .pointer (some ⟨b8, 0, none⟩)), (4, .int .i64 t1.2), (5, .pointer (some ⟨b16, 0, none⟩)), (32, .bool (decide (t9.2 ≠ t1.2)))]) ⟨rfl, rfl, rfl, rfl, rfl, trivial⟩ ⟨(decide (t9.2 ≠ t1.2)), H, rfl, hS.pick [0, 1, 2, 3, 4, 5, 6, 7] [0] rfl⟩
    · rintro F w1 ⟨y17, he, rfl, hS⟩
      obtain rfl := Option.some.inj he
      have H := K164
      refine CJ.cond rfl (fun hb => ?_) (fun hb => ?_)
      · replace H := pif_t hb H
        refine CJ.seq ?_
        refine CJ.region ?_
        refine OJ.pures tU_ok 1 rfl ?_
        refine OJ.nil (EJ.next ?_)
        refine CJ.ret (EJ.skR (?_))
        obtain rfl := Option.some.inj H
        exact EJ.fin rfl (.tmp rfl .nil) ⟨rfl, hS.ext⟩
      · replace H := pifb_f hb H
        refine CJ.skip (EJ.next ?_)
        refine CJ.seq ?_
        refine CJ.region ?_
        refine OJ.pures tU_ok 1 rfl ?_
        refine OJ.nil (EJ.next ?_)
        refine CJ.seq ?_
        refine CJ.region ?_
        refine OJ.st rfl rfl rfl (SR.load rfl rfl (fun w' hx => ldN tU_ok tI_ok rfl rfl rfl (CA.ext (hS.cells (i := 7) rfl) hx) (ds := [.slice A10 t9.1.Names.length c11, .slice A12 t9.1.Eats.length c13, .slice A14 t9.1.Foes.length c15]) rfl rfl)) ?_
        refine OJ.pures tU_ok 1 rfl ?_
        obtain ⟨t19, ht19, H⟩ := pbind H
        refine OJ.callF rfl rfl rfl rfl rfl hb33 rfl (laws_markHerd.c k _ A10 c11 A12 c13 A14 c15 t9.1 1 ((hS.subs [4, 5, 6] [] [] rfl).pick [0, 1, 2] [] rfl) _ ht19) ?_
        rintro _ w1 ⟨rfl, hs, hlc0, hlc1, hlc2⟩
        replace hS := hS.back [4, 5, 6] rfl rfl [rowC G.cs A10 c11 9 t19.2.1, rowC (ci .i16) A12 c13 49 t19.2.2.1, rowC (ci .u16) A14 c15 55 t19.2.2.2] [] hs ⟨fun _ => Iff.rfl, fun _ => Iff.rfl, fun _ => Iff.rfl, trivial⟩
        have hS : St w no w1 [rowC G.cs A2 c3 9 t1.1.Names, rowC (ci .i16) A4 c5 49 t1.1.Eats, rowC (ci .u16) A6 c7 55 t1.1.Foes, box b8 ([.slice A2 t1.1.Names.length c3, .slice A4 t1.1.Eats.length c5, .slice A6 t1.1.Foes.length c7]) 28, rowC G.cs A10 c11 9 t19.2.1, rowC (ci .i16) A12 c13 49 t19.2.2.1, rowC (ci .u16) A14 c15 55 t19.2.2.2, box b16 ([.slice A10 t9.1.Names.length c11, .slice A12 t9.1.Eats.length c13, .slice A14 t9.1.Foes.length c15]) 28] [envC Tryz.prog 0] := hS
        refine OJ.as (t := 33) rfl (show _ = (.agg [.slice A10 t19.2.1.length c11, .slice A12 t9.1.Eats.length c13, .slice A14 t9.1.Foes.length c15].toArray : Value) by simp only [hlc0]) ?_
        replace hS := hS.boxAs (i := 7) rfl (show _ = ([.slice A10 t19.2.1.length c11, .slice A12 t9.1.Eats.length c13, .slice A14 t9.1.Foes.length c15] : List Value) by simp only [hlc0])
        refine OJ.as (t := 33) rfl (show _ = (.agg [.slice A10 t19.2.1.length c11, .slice A12 t19.2.2.1.length c13, .slice A14 t9.1.Foes.length c15].toArray : Value) by simp only [hlc1]) ?_
        replace hS := hS.boxAs (i := 7) rfl (show _ = ([.slice A10 t19.2.1.length c11, .slice A12 t19.2.2.1.length c13, .slice A14 t9.1.Foes.length c15] : List Value) by simp only [hlc1])
        refine OJ.as (t := 33) rfl (show _ = (.agg [.slice A10 t19.2.1.length c11, .slice A12 t19.2.2.1.length c13, .slice A14 t19.2.2.2.length c15].toArray : Value) by simp only [hlc2]) ?_
        replace hS := hS.boxAs (i := 7) rfl (show _ = ([.slice A10 t19.2.1.length c11, .slice A12 t19.2.2.1.length c13, .slice A14 t19.2.2.2.length c15] : List Value) by simp only [hlc2])
        have hS : St w no w1 [rowC G.cs A2 c3 9 t1.1.Names, rowC (ci .i16) A4 c5 49 t1.1.Eats, rowC (ci .u16) A6 c7 55 t1.1.Foes, box b8 ([.slice A2 t1.1.Names.length c3, .slice A4 t1.1.Eats.length c5, .slice A6 t1.1.Foes.length c7]) 28, rowC G.cs A10 c11 9 t19.2.1, rowC (ci .i16) A12 c13 49 t19.2.2.1, rowC (ci .u16) A14 c15 55 t19.2.2.2, box b16 ([.slice A10 t19.2.1.length c11, .slice A12 t19.2.2.1.length c13, .slice A14 t19.2.2.2.length c15]) 28] [envC Tryz.prog 0] := hS
        refine OJ.pures tU_ok 1 rfl ?_
        refine OJ.nil (EJ.next ?_)
        refine CJ.seq ?_
        refine CJ.region ?_
        refine OJ.pures tU_ok 1 rfl ?_
        refine OJ.nil (EJ.next ?_)
        refine CJ.seq ?_
        refine CJ.region ?_
        refine OJ.st rfl rfl rfl (SR.load rfl rfl (fun w' hx => ldN tU_ok tI_ok rfl rfl rfl (CA.ext (hS.cells (i := 7) rfl) hx) (ds := [.slice A10 t19.2.1.length c11, .slice A12 t19.2.2.1.length c13, .slice A14 t19.2.2.2.length c15]) rfl rfl)) ?_
        refine OJ.pures tU_ok 1 rfl ?_
        obtain ⟨t20, ht20, H⟩ := pbind H
        refine OJ.callF rfl rfl rfl rfl rfl hb34 rfl (laws_heldHerd.c k _ A10 c11 A12 c13 A14 c15 (⟨t19.2.1, t19.2.2.1, t19.2.2.2⟩ : Herd) (hS.rd (i := 4) rfl) (hS.le (i := 4) rfl) (hS.rd (i := 5) rfl) (hS.le (i := 5) rfl) (hS.rd (i := 6) rfl) (hS.le (i := 6) rfl) 1 _ ht20) ?_
        rintro _ w1 ⟨rfl, hs⟩
        replace hS := hS.grow hs
        refine OJ.pures tU_ok 1 rfl ?_
        refine OJ.nil (EJ.next ?_)
        refine CJ.seq ?_
        refine CJ.seq ?_
        refine CJ.region ?_
        refine OJ.pures tU_ok 2 rfl ?_
        refine OJ.nil (EJ.next ?_)
        refine CJ.cond rfl (fun hb => ?_) (fun hb => ?_)
        · replace H := pif_t (of_decide_eq_true hb) H
          refine CJ.seq ?_
          refine CJ.region ?_
          refine OJ.pures tU_ok 1 rfl ?_
          refine OJ.nil (EJ.next ?_)
          refine CJ.ret (EJ.skR (?_))
          obtain rfl := Option.some.inj H
          exact EJ.fin rfl (.tmp rfl .nil) ⟨rfl, hS.ext⟩
        · replace H := pif_f (of_decide_eq_false hb) H
          refine CJ.skip (EJ.next ?_)
          refine CJ.seq ?_
          refine CJ.seq ?_
          refine CJ.region ?_
          refine OJ.pures tU_ok 3 rfl ?_
          refine OJ.nil (EJ.next ?_)
          refine CJ.cond rfl (fun hb => ?_) (fun hb => ?_)
          · replace H := pif_t (of_decide_eq_true hb) H
            refine CJ.seq ?_
            refine CJ.region ?_
            refine OJ.pures tU_ok 1 rfl ?_
            refine OJ.nil (EJ.next ?_)
            refine CJ.ret (EJ.skR (?_))
            obtain rfl := Option.some.inj H
            exact EJ.fin rfl (.tmp rfl .nil) ⟨rfl, hS.ext⟩
          · replace H := pif_f (of_decide_eq_false hb) H
            refine CJ.skip (EJ.next ?_)
            refine CJ.seq ?_
            refine CJ.region ?_
            refine OJ.pures tU_ok 1 rfl ?_
            obtain ⟨t21, ht21, H⟩ := pbind H
            refine OJ.callF rfl rfl rfl rfl rfl hb7 rfl (impl_ReadHerd.c k _ a0 (hS.ro (i := 0) rfl) _ ht21) ?_
            rintro _ w1 ⟨A22, c23, A24, c25, A26, c27, rfl, hs⟩
            replace hS := hS.addN hs
            have hS : St w no w1 [rowC G.cs A2 c3 9 t1.1.Names, rowC (ci .i16) A4 c5 49 t1.1.Eats, rowC (ci .u16) A6 c7 55 t1.1.Foes, box b8 ([.slice A2 t1.1.Names.length c3, .slice A4 t1.1.Eats.length c5, .slice A6 t1.1.Foes.length c7]) 28, rowC G.cs A10 c11 9 t19.2.1, rowC (ci .i16) A12 c13 49 t19.2.2.1, rowC (ci .u16) A14 c15 55 t19.2.2.2, box b16 ([.slice A10 t19.2.1.length c11, .slice A12 t19.2.2.1.length c13, .slice A14 t19.2.2.2.length c15]) 28, rowC G.cs A22 c23 9 t21.1.Names, rowC (ci .i16) A24 c25 49 t21.1.Eats, rowC (ci .u16) A26 c27 55 t21.1.Foes] [envC Tryz.prog 0] := hS
            refine OJ.pures tU_ok 3 rfl ?_
            refine OJ.ef rfl rfl rfl (Ef.alloc hS tI_ok rfl rfl ([.slice none 0 0, .slice none 0 0, .slice none 0 0]) rfl) ?_
            rintro _ w1 ⟨b28, rfl, hS⟩
            refine OJ.es rfl rfl (Es.store tI_ok hS (i := 11) (vs := [.slice A22 t21.1.Names.length c23, .slice A24 t21.1.Eats.length c25, .slice A26 t21.1.Foes.length c27]) rfl rfl rfl rfl rfl rfl rfl rfl (by intro u hu; simp only [List.mem_cons, List.not_mem_nil, or_false] at hu; rcases hu with rfl | rfl | rfl <;> rfl) (Nat.le_of_ble_eq_true rfl) ([.slice A22 t21.1.Names.length c23, .slice A24 t21.1.Eats.length c25, .slice A26 t21.1.Foes.length c27]) rfl) ?_
            intro w1 hS
            refine OJ.pures tU_ok 1 rfl ?_
            refine OJ.nil (EJ.next ?_)
            refine CJ.seq ?_
            obtain ⟨j178, H, K178⟩ := pbind H
            refine CJ.cut (fun F w1 => ∃ (y29 : Bool) , (some y29 : Option Bool) = some j178 ∧ F = [(5, .pointer (some ⟨b16, 0, none⟩)), (7, .int .i64 t19.1), (57, .bool y29)] ∧ St w no w1 [rowC G.cs A10 c11 9 t19.2.1, rowC (ci .i16) A12 c13 49 t19.2.2.1, rowC (ci .u16) A14 c15 55 t19.2.2.2, box b16 ([.slice A10 t19.2.1.length c11, .slice A12 t19.2.2.1.length c13, .slice A14 t19.2.2.2.length c15]) 28] [envC Tryz.prog 0]) ?_ ?_
            · skip
              refine CJ.region ?_
              refine OJ.st rfl rfl rfl (SR.load rfl rfl (fun w' hx => ldN tU_ok tI_ok rfl rfl rfl (CA.ext (hS.cells (i := 11) rfl) hx) (ds := [.slice A22 t21.1.Names.length c23, .slice A24 t21.1.Eats.length c25, .slice A26 t21.1.Foes.length c27]) rfl rfl)) ?_
              refine OJ.st rfl rfl rfl (SR.load rfl rfl (fun w' hx => ldN tU_ok tI_ok rfl rfl rfl (CA.ext (hS.cells (i := 3) rfl) hx) (ds := [.slice A2 t1.1.Names.length c3, .slice A4 t1.1.Eats.length c5, .slice A6 t1.1.Foes.length c7]) rfl rfl)) ?_
              obtain ⟨t30, ht30, H⟩ := pbind H
              refine OJ.callF rfl rfl rfl rfl rfl hb32 rfl (laws_eqHerd.c k _ A22 c23 A24 c25 A26 c27 t21.1 (hS.rd (i := 8) rfl) (hS.le (i := 8) rfl) (hS.rd (i := 9) rfl) (hS.le (i := 9) rfl) (hS.rd (i := 10) rfl) (hS.le (i := 10) rfl) A2 c3 A4 c5 A6 c7 t1.1 (hS.rd (i := 0) rfl) (hS.le (i := 0) rfl) (hS.rd (i := 1) rfl) (hS.le (i := 1) rfl) (hS.rd (i := 2) rfl) (hS.le (i := 2) rfl) _ ht30) ?_
              rintro _ w1 ⟨rfl, hs⟩
              replace hS := hS.grow hs
              refine OJ.pures tU_ok 2 rfl ?_
              refine OJ.split (t := 53) rfl (fun hb => ?_) (fun hb => ?_)
              · replace H := pif_t hb H
                refine OJ.pures tU_ok 4 rfl ?_
                refine OJ.nil ?_
                exact EJ.meet (F' := [(5, .pointer (some ⟨b16, 0, none⟩)), (7, .int .i64 t19.1), (57, .bool true)]) ⟨rfl, rfl, rfl, trivial⟩ ⟨true, H, rfl, hS.pick [4, 5, 6, 7] [0] rfl⟩
              · replace H := pifb_f hb H
                refine OJ.pures tU_ok 4 rfl ?_
                refine OJ.nil ?_
                exact EJ.meet (F' := [(5, .pointer (some ⟨b16, 0, none⟩)), (7, .int .i64 t19.1), (57, .bool (decide (t21.2 ≠ t1.2)))]) ⟨rfl, rfl, rfl, trivial⟩ ⟨(decide (t21.2 ≠ t1.2)), H, rfl, hS.pick [4, 5, 6, 7] [0] rfl⟩
            · rintro F w1 ⟨y29, he, rfl, hS⟩
              obtain rfl := Option.some.inj he
              have H := K178
              refine CJ.cond rfl (fun hb => ?_) (fun hb => ?_)
              · replace H := pif_t hb H
                refine CJ.seq ?_
                refine CJ.region ?_
                refine OJ.pures tU_ok 1 rfl ?_
                refine OJ.nil (EJ.next ?_)
                refine CJ.ret (EJ.skR (?_))
                obtain rfl := Option.some.inj H
                exact EJ.fin rfl (.tmp rfl .nil) ⟨rfl, hS.ext⟩
              · replace H := pifb_f hb H
                refine CJ.skip (EJ.next ?_)
                refine CJ.seq ?_
                refine CJ.region ?_
                refine OJ.pures tU_ok 1 rfl ?_
                refine OJ.nil (EJ.next ?_)
                refine CJ.seq ?_
                refine CJ.region ?_
                refine OJ.st rfl rfl rfl (SR.load rfl rfl (fun w' hx => ldN tU_ok tI_ok rfl rfl rfl (CA.ext (hS.cells (i := 3) rfl) hx) (ds := [.slice A10 t19.2.1.length c11, .slice A12 t19.2.2.1.length c13, .slice A14 t19.2.2.2.length c15]) rfl rfl)) ?_
                refine OJ.pures tU_ok 1 rfl ?_
                obtain ⟨t31, ht31, H⟩ := pbind H
                refine OJ.callF rfl rfl rfl rfl rfl hb34 rfl (laws_heldHerd.c k _ A10 c11 A12 c13 A14 c15 (⟨t19.2.1, t19.2.2.1, t19.2.2.2⟩ : Herd) (hS.rd (i := 0) rfl) (hS.le (i := 0) rfl) (hS.rd (i := 1) rfl) (hS.le (i := 1) rfl) (hS.rd (i := 2) rfl) (hS.le (i := 2) rfl) 1 _ ht31) ?_
                rintro _ w1 ⟨rfl, hs⟩
                replace hS := hS.grow hs
                refine OJ.pures tU_ok 1 rfl ?_
                refine OJ.nil (EJ.next ?_)
                refine CJ.seq ?_
                refine CJ.seq ?_
                refine CJ.region ?_
                refine OJ.pures tU_ok 2 rfl ?_
                refine OJ.nil (EJ.next ?_)
                refine CJ.cond rfl (fun hb => ?_) (fun hb => ?_)
                · replace H := pif_t (of_decide_eq_true hb) H
                  refine CJ.seq ?_
                  refine CJ.region ?_
                  refine OJ.pures tU_ok 1 rfl ?_
                  refine OJ.nil (EJ.next ?_)
                  refine CJ.ret (EJ.skR (?_))
                  obtain rfl := Option.some.inj H
                  exact EJ.fin rfl (.tmp rfl .nil) ⟨rfl, hS.ext⟩
                · replace H := pif_f (of_decide_eq_false hb) H
                  refine CJ.skip (EJ.next ?_)
                  refine CJ.seq ?_
                  refine CJ.seq ?_
                  refine CJ.region ?_
                  refine OJ.pures tU_ok 3 rfl ?_
                  refine OJ.nil (EJ.next ?_)
                  refine CJ.cond rfl (fun hb => ?_) (fun hb => ?_)
                  · replace H := pif_t (of_decide_eq_true hb) H
                    refine CJ.seq ?_
                    refine CJ.region ?_
                    refine OJ.pures tU_ok 1 rfl ?_
                    refine OJ.nil (EJ.next ?_)
                    refine CJ.ret (EJ.skR (?_))
                    obtain rfl := Option.some.inj H
                    exact EJ.fin rfl (.tmp rfl .nil) ⟨rfl, hS.ext⟩
                  · replace H := pif_f (of_decide_eq_false hb) H
                    refine CJ.skip (EJ.next ?_)
                    refine CJ.seq ?_
                    refine CJ.region ?_
                    refine OJ.pures tU_ok 1 rfl ?_
                    refine OJ.nil (EJ.next ?_)
                    refine CJ.ret (?_)
                    obtain rfl := Option.some.inj H
                    exact EJ.fin rfl (.tmp rfl .nil) ⟨rfl, hS.ext⟩
end Go.Proofs.YtplfdbfdalaefaaGreatDoor
