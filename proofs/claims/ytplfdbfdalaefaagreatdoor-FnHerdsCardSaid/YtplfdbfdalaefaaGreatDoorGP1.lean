/-
  What the functions come to.
-/
import Derived.Test.YtplfdbfdalaefaaGreatDoorGP0
namespace Go.Proofs.YtplfdbfdalaefaaGreatDoor
open G
set_option linter.unusedVariables false
set_option linter.unusedSimpArgs false
set_option maxRecDepth 100000
set_option maxHeartbeats 4000000
def impl_ReadHerd.l1 (k : Nat) : List ByteArray → (List (List ByteArray)) → (List ByteArray) → (List Int) → (List Int) → Option ((Herd × Int) ⊕ ((List (List ByteArray)) × (List ByteArray) × (List Int) × (List Int)))
  | [], y8, y12, y15, y18 => some (Sum.inr (y8, y12, y15, y18))
  | line :: rest, y8, y12, y15, y18 => (strings_TrimSuffix.f line (⟨#[10]⟩ : ByteArray)).bind fun t21 => (strings_Split.f t21 (⟨#[32]⟩ : ByteArray)).bind fun t22 => (if (t22.length : Int) < 2 then (some true) else (some (decide ((y8.length : Int) = 14)))).bind fun y25 => if y25 = true then (some (Sum.inl ((⟨[], [], []⟩ : Herd), 5))) else ((getI t22 1).bind fun t26 => (impl_number.f t26 100).bind fun t27 => if (!t27.2) = true then (some (Sum.inl ((⟨[], [], []⟩ : Herd), 5))) else ((getI t22 0).bind fun t28 => (chk (y12.length + ([t28] : List ByteArray).length ≤ 4294967296)).bind fun u30 => (chk (y15.length + ([IntKind.i16.wrap t27.1] : List Int).length ≤ 4294967296)).bind fun u34 => (chk (y18.length + ([0] : List Int).length ≤ 4294967296)).bind fun u38 => (chk ((0 : Int) ≤ 2 ∧ 2 ≤ (t22.length : Int) ∧ (t22.length : Int) ≤ (t22.length : Int))).bind fun u149 => (chk (y8.length + [t22.drop 2].length ≤ 4294967296)).bind fun u151 => impl_ReadHerd.l1 k rest (y8 ++ [t22.drop 2]) (y12 ++ ([t28] : List ByteArray)) (y15 ++ ([IntKind.i16.wrap t27.1] : List Int)) (y18 ++ ([0] : List Int))))
def impl_ReadHerd.l3 (y12 : List ByteArray) (y156 : Int) (t158 : List ByteArray) : Nat → (List Int) → Int → Option ((((Herd × Int) ⊕ (List Int)) ⊕ (List Int)) ⊕ (List Int))
  | 0, _, _ => none
  | k + 1, y160, y161 => if y161 < (t158.length : Int) then ((getI t158 y161).bind fun t162 => (slices_Index_string_string.f k y12 t162).bind fun t163 => if t163 < 0 then (some (Sum.inl (Sum.inl (Sum.inl ((⟨[], [], []⟩ : Herd), 5))))) else ((getI y160 y156).bind fun t164 => (chk (0 ≤ t163)).bind fun u165 => (getI y160 y156).bind fun t166 => impl_ReadHerd.l3 y12 y156 t158 k (y160.set y156.toNat (orI .u16 t164 (shlI .u16 1 t163))) (IntKind.i64.wrap (y161 + 1)))) else (some (Sum.inr y160))
def impl_ReadHerd.l2 (y8 : List (List ByteArray)) (y12 : List ByteArray) : Nat → (List Int) → Int → Option ((Herd × Int) ⊕ (List Int))
  | 0, _, _ => none
  | k + 1, y155, y156 => if y156 < (y8.length : Int) then (((getI y8 y156).bind fun t158 => (impl_ReadHerd.l3 y12 y156 t158 k y155 0).bind fun s70 => match s70 with | .inl r => some r | .inr y159 => some (Sum.inr y159)).bind fun s68 => match s68 with | .inl r => some r | .inr y157 => impl_ReadHerd.l2 y8 y12 k y157 (IntKind.i64.wrap (y156 + 1))) else (some (Sum.inr y155))
def impl_ReadHerd.f (k : Nat) (a0 : ByteArray) : Option (Herd × Int) := (chk (a0.size ≤ 4294967296)).bind fun u7 => (impl_ReadHerd.l1 k (linesB a0) ([] : List (List ByteArray)) ([] : List ByteArray) ([] : List Int) ([] : List Int)).bind fun s56 => match s56 with | .inl r => some r | .inr (y8, y12, y15, y18) => (impl_ReadHerd.l2 y8 y12 k y18 0).bind fun s61 => match s61 with | .inl r => some r | .inr y154 => (impl_HerdText.f k (⟨y12, y15, y154⟩ : Herd)).bind fun t167 => if t167 ≠ a0 then (some ((⟨[], [], []⟩ : Herd), 5)) else (some ((⟨y12, y15, y154⟩ : Herd), 0))
theorem impl_ReadHerd.c {k w} {a0 : ByteArray} (hT : (envC Tryz.prog 0).holds w) (r : Herd × Int) (H : impl_ReadHerd.f k a0 = some r) :
 CV Tryz.prog 7 [.string a0].toArray w fun v w' => ∃ (A0_0 : Option Addr) (c0_0 : Nat) (A0_1 : Option Addr) (c0_1 : Nat) (A0_2 : Option Addr) (c0_2 : Nat), v = .tuple #[.agg (hv A0_0 A0_1 A0_2 c0_0 c0_1 c0_2 r.1).toArray, .int .i64 r.2] ∧ St w no w' [rowC G.cs A0_0 c0_0 9 r.1.Names, rowC (ci .i16) A0_1 c0_1 49 r.1.Eats, rowC (ci .u16) A0_2 c0_2 55 r.1.Foes] [] := by
 have hS := ((St.init w no).paramT (envC Tryz.prog 0) hT)
 unfold impl_ReadHerd.f at H
 refine CV.bodyM Tryz.func7 Z Tryz.ntmps7 Z ?_
 refine GO ?_
 refine OF (EA hS ([.slice none 0 0, .slice none 0 0, .slice none 0 0])) ?_
 rintro _ w1 ⟨b1, rfl, hS⟩
 refine oA hS ((ci .i64).enc 0) fun b2 w1 hS => ?_
 refine OJ.st Z Z Z (SR.build' oU oI Z Z Z (zs := [.slice none 0 0, .slice none 0 0, .slice none 0 0]) Z Z Z ([.slice none 0 0, .slice none 0 0, .slice none 0 0]) Z) ?_
 refine OJ.ef Z Z Z (Ef.litT0 (e := 9) (lo := 2) oU oI hS Z Z Z Z G.cs) ?_
 rintro _ w1 ⟨A3, rfl, hS⟩
 refine OF (EA hS ([.slice none 0 0, .slice none 0 0, .slice none 0 0])) ?_
 rintro _ w1 ⟨b4, rfl, hS⟩
 refine OF (EA hS ([.slice none 0 0])) ?_
 rintro _ w1 ⟨b5, rfl, hS⟩
 refine OE (WV hS 3 [.slice none 0 0, .slice none 0 0, .slice none 0 0]) fun w1 hS => ?_
 refine oE (WV hS 4 [.slice A3 ([] : List (List ByteArray)).length (([] : List (List ByteArray)).length)]) fun w1 hS => ?_
 refine OC hb37 (strings_Lines.c _ a0) ?_
 rintro _ w1 ⟨b6, rfl, hs⟩
 replace hS := hS.addN hs
 refine GO ?_
 obtain ⟨u7, hu7, H⟩ := pbind H
 refine CJ.block ?_
 replace hS := hS.addNil G.cs 9 none
 replace hS := hS.addNil (ci .i16) 49 none
 replace hS := hS.addNil (ci .u16) 55 none
 obtain ⟨j56, hj56, K56⟩ := pbind H
 refine CJ.lines (bI := b6) (d := 6) (σ := (List (List ByteArray)) × (List ByteArray) × (List Int) × (List Int) × (Option Addr) × Nat × (List (TH ByteArray)) × (Option Addr) × Nat × (Option Addr) × Nat × (Option Addr) × Nat) (τ := Unit) (ls := linesB) (text := a0) (fun (y8, y12, y15, y18, A9, c10, D11, A13, c14, A16, c17, A19, c20) => [box b1 ([.slice none 0 0, .slice none 0 0, .slice none 0 0]) 28, box b2 ((ci .i64).enc 0) 2, tlsC G.cs 2 A9 c10 24 9 D11 y8, box b4 ([sl A13 y12 c14, sl A16 y15 c17, sl A19 y18 c20]) 28, box b5 ([sl A9 y8 c10]) 76, rowC G.cs A13 c14 9 y12, rowC (ci .i16) A16 c17 49 y15, rowC (ci .u16) A19 c20 55 y18]) (fun _ => [box b1 ([.slice none 0 0, .slice none 0 0, .slice none 0 0]) 28, box b2 ((ci .i64).enc 5) 2]) (fun rest (y8, y12, y15, y18, A9, c10, D11, A13, c14, A16, c17, A19, c20) => impl_ReadHerd.l1 k rest y8 y12 y15 y18 = some j56) (fun _ => j56 = Sum.inl ((⟨[], [], []⟩ : Herd), 5)) (([] : List (List ByteArray)), ([] : List ByteArray), ([] : List Int), ([] : List Int), A3, ([] : List (List ByteArray)).length, [], none, 0, none, 0, none, 0) rfl hb98 lines_it (by have := chk_some hu7; omega) (hS.pick [0, 1, 2, 3, 4, 6, 7, 8, 5] [0] rfl) hj56 rfl ?_ ?_ ?_ ?_
 intro r v Q W h
 exact CJ.region (OJ.pures oU 1 Z (OJ.nil h))
 rintro r D rec line rest ⟨y8, y12, y15, y18, A9, c10, D11, A13, c14, A16, c17, A19, c20⟩ w1 str RP H next stop hS
 replace H : impl_ReadHerd.l1 k (line :: rest) y8 y12 y15 y18 = some j56 := H
 replace hS : St _ _ _ [_, _, _, _, _, _, _, _, _, _, _] _ := hS
 rw [impl_ReadHerd.l1] at H
 refine CJ.block ?_
 refine GO ?_
 refine OB H hS hb39 (strings_TrimSuffix.c) fun t21 w1 H hS => ?_
 obtain ⟨t22, ht22, H⟩ := pbind H
 refine OC hb38 (strings_Split.c (hS.ro (i := 0) Z) _ ht22) ?_
 rintro _ w1 ⟨A23, c24, rfl, hs⟩
 replace hS := hS.addN hs
 have hS : St _ _ _ [_, _, _, _, _, _, _, _, _, _, _, _] _ := hS
 refine PX 1 ?_
 refine CJ.seq ?_
 obtain ⟨j60, H, K60⟩ := pbind H
 refine CJ.cut (fun F w1 => ∃ y25, some y25 = some j60 ∧ F = [(0, .string a0), (2, pt b1), (3, pt b2), (4, pt b4), (5, pt b5), (6, .string line), (7, sl A23 t22 c24), (30, .bool y25)] ∧ St w no w1 [box b1 ([.slice none 0 0, .slice none 0 0, .slice none 0 0]) 28, box b2 ((ci .i64).enc 0) 2, tlsC G.cs 2 A9 c10 24 9 D11 y8, box b4 ([sl A13 y12 c14, sl A16 y15 c17, sl A19 y18 c20]) 28, box b5 ([sl A9 y8 c10]) 76, rowC G.cs A13 c14 9 y12, rowC (ci .i16) A16 c17 49 y15, rowC (ci .u16) A19 c20 55 y18, box b6 [.string str] 9, dfr D, rcd r rec, rowC G.cs A23 c24 9 t22] [envC Tryz.prog 0]) ?_ ?_
 refine GO ?_
 refine OJ.split (t := 26) Z (fun hb => ?_) (fun hb => ?_)
 replace H := pif_t (of_decide_eq_true hb) H
 exact MD H hS
 replace H := pif_f (of_decide_eq_false hb) H
 refine OS (SL (ce hS 4)) ?_
 exact MD H hS
 rintro F w1 ⟨y25, he, rfl, hS⟩
 obtain rfl := Option.some.inj he
 have H := K60
 refine CB H (fun H => GO ?_) (fun H => ?_)
 refine OJ.st Z Z Z (SR.build' oU oI Z Z Z (zs := [.slice none 0 0, .slice none 0 0, .slice none 0 0]) Z Z Z ([.slice none 0 0, .slice none 0 0, .slice none 0 0]) Z) ?_
 refine OE (WV hS 0 [.slice none 0 0, .slice none 0 0, .slice none 0 0]) fun w1 hS => ?_
 refine oE (WV hS 1 ((ci .i64).enc 5)) fun w1 hS => ?_
 exact stop () _ _ (Option.some.inj H).symm (hS.pick [0, 1, 8, 9, 10] [0] Z)
 refine GO ?_
 refine xI H (rC hS 11 Z) fun t26 ad26 ht26 H => ?_
 refine oB H hS hb40 (impl_number.c (hS.ro (i := 0) Z)) fun t27 w1 H hS => ?_
 refine CB H (fun H => GO ?_) (fun H => ?_)
 refine OJ.st Z Z Z (SR.build' oU oI Z Z Z (zs := [.slice none 0 0, .slice none 0 0, .slice none 0 0]) Z Z Z ([.slice none 0 0, .slice none 0 0, .slice none 0 0]) Z) ?_
 refine OE (WV hS 0 [.slice none 0 0, .slice none 0 0, .slice none 0 0]) fun w1 hS => ?_
 refine oE (WV hS 1 ((ci .i64).enc 5)) fun w1 hS => ?_
 exact stop () _ _ (Option.some.inj H).symm (hS.pick [0, 1, 8, 9, 10] [0] Z)
 refine GO ?_
 obtain ⟨t28, ht28, H⟩ := pbind H
 obtain ⟨u30, hu30, H⟩ := pbind H
 obtain ⟨u34, hu34, H⟩ := pbind H
 obtain ⟨u38, hu38, H⟩ := pbind H
 refine CJ.cut1 (fun F w1 => ∃ (A29 A31 c32 A33 A35 c36 A37 A39 c40 : _), F = [(0, .string a0), (2, pt b1), (3, pt b2), (4, pt b4), (5, pt b5), (6, .string line), (7, sl A23 t22 c24)] ∧ St w no w1 [box b1 ([.slice none 0 0, .slice none 0 0, .slice none 0 0]) 28, box b2 ((ci .i64).enc 0) 2, tlsC G.cs 2 A9 c10 24 9 D11 y8, box b4 ([sl A31 (y12 ++ ([t28] : List ByteArray)) c32, sl A35 (y15 ++ ([IntKind.i16.wrap t27.1] : List Int)) c36, sl A39 (y18 ++ ([0] : List Int)) c40]) 28, box b5 ([sl A9 y8 c10]) 76, rowC G.cs A31 c32 9 (y12 ++ ([t28] : List ByteArray)), rowC (ci .i16) A35 c36 49 (y15 ++ ([IntKind.i16.wrap t27.1] : List Int)), rowC (ci .u16) A39 c40 55 (y18 ++ ([0] : List Int)), box b6 [.string str] 9, dfr D, rcd r rec, rowC G.cs A23 c24 9 t22, rowC G.cs A29 (([t28] : List ByteArray).length) 9 ([t28] : List ByteArray), rowC (ci .i16) A33 (([IntKind.i16.wrap t27.1] : List Int).length) 49 ([IntKind.i16.wrap t27.1] : List Int), rowC (ci .u16) A37 (([0] : List Int).length) 55 ([0] : List Int)] [envC Tryz.prog 0]) ?_ ?_
 refine CJ.drawT [18, 20, 22] [5, 6, 11, 12, 15, 16] (.one 0 (.one 1 (.one 2 (.one 3 (.one 4 (.one 7 (.one 8 (.one 9 (.one 10 (.one 13 (.one 14 (.br (.alt 5 (.br (.alt 6 (.one 17 (.br (.alt 11 (.br (.alt 12 (.one 15 (.one 16 (.one 18 (.one 19 (.one 20 (.one 21 (.one 22 (.fin)))))))) (.alt 15 (.one 12 (.one 16 (.one 18 (.one 19 (.one 20 (.one 21 (.one 22 (.fin)))))))) (.stop)))) (.alt 15 (.one 11 (.one 12 (.one 16 (.one 18 (.one 19 (.one 20 (.one 21 (.one 22 (.fin))))))))) (.stop))))) (.alt 11 (.br (.alt 6 (.one 17 (.br (.alt 12 (.one 15 (.one 16 (.one 18 (.one 19 (.one 20 (.one 21 (.one 22 (.fin)))))))) (.alt 15 (.one 12 (.one 16 (.one 18 (.one 19 (.one 20 (.one 21 (.one 22 (.fin)))))))) (.stop))))) (.alt 15 (.one 6 (.one 17 (.one 12 (.one 16 (.one 18 (.one 19 (.one 20 (.one 21 (.one 22 (.fin)))))))))) (.stop)))) (.alt 15 (.br (.alt 6 (.one 17 (.one 11 (.one 12 (.one 16 (.one 18 (.one 19 (.one 20 (.one 21 (.one 22 (.fin)))))))))) (.alt 11 (.one 6 (.one 17 (.one 12 (.one 16 (.one 18 (.one 19 (.one 20 (.one 21 (.one 22 (.fin)))))))))) (.stop)))) (.stop))))) (.alt 11 (.br (.alt 5 (.br (.alt 6 (.one 17 (.br (.alt 12 (.one 15 (.one 16 (.one 18 (.one 19 (.one 20 (.one 21 (.one 22 (.fin)))))))) (.alt 15 (.one 12 (.one 16 (.one 18 (.one 19 (.one 20 (.one 21 (.one 22 (.fin)))))))) (.stop))))) (.alt 15 (.one 6 (.one 17 (.one 12 (.one 16 (.one 18 (.one 19 (.one 20 (.one 21 (.one 22 (.fin)))))))))) (.stop)))) (.alt 15 (.one 5 (.one 6 (.one 17 (.one 12 (.one 16 (.one 18 (.one 19 (.one 20 (.one 21 (.one 22 (.fin))))))))))) (.stop)))) (.alt 15 (.br (.alt 5 (.br (.alt 6 (.one 17 (.one 11 (.one 12 (.one 16 (.one 18 (.one 19 (.one 20 (.one 21 (.one 22 (.fin)))))))))) (.alt 11 (.one 6 (.one 17 (.one 12 (.one 16 (.one 18 (.one 19 (.one 20 (.one 21 (.one 22 (.fin)))))))))) (.stop)))) (.alt 11 (.one 5 (.one 6 (.one 17 (.one 12 (.one 16 (.one 18 (.one 19 (.one 20 (.one 21 (.one 22 (.fin))))))))))) (.stop)))) (.stop)))))))))))))))) mixed (by kernel_rfl) hS [3, 11] fun w1 hS hY hV => ?_
 refine TP (fun _ => SF) ?_
 refine TL hY (fun w2 hY => SL (CA.sub ((hV w2 hY).cellsR (i := 1) Z) 0)) ?_
 refine GO ?_
 obtain ⟨ad28, e28⟩ := (rC hS 11 Z).some' ht28
 refine TP (fun _ => SI e28 (getI_some ht28).1) ?_
 refine TL hY (fun w2 hY => SL (((hV w2 hY).rdR (i := 2) Z).at_ e28 ht28)) ?_
 refine TP (fun _ => SF) ?_
 refine TL hY (fun w2 hY => SL (CA.sub ((hV w2 hY).cellsR (i := 1) Z) 1)) ?_
 refine GO ?_
 refine TP (fun _ => SF) ?_
 refine TL hY (fun w2 hY => SL (CA.sub ((hV w2 hY).cellsR (i := 1) Z) 2)) ?_
 refine TJ.br ?_
 refine TJ.alt ?_ ?_
 refine TF hY (EL hS G.cs ([t28] : List ByteArray)) ?_
 rintro _ w1 hY ⟨A41, rfl, hS⟩
 refine TJ.br ?_
 refine TJ.alt ?_ ?_
 refine tW [3, 11] 5 1 hY hS (rC hS 12 Z) (chk_some hu30) fun A42 c43 w1 hY (hS : St _ _ _ [_, _, _, _, _, _, _, _, _, _, _, _, _] _) => ?_
 refine TP (fun _ => SF) ?_
 refine TJ.br ?_
 refine TJ.alt ?_ ?_
 refine TF hY (EL hS (ci .i16) ([IntKind.i16.wrap t27.1] : List Int)) ?_
 rintro _ w1 hY ⟨A44, rfl, hS⟩
 refine TJ.br ?_
 refine TJ.alt ?_ ?_
 refine tW [3, 11] 6 1 hY hS (rC hS 13 Z) (chk_some hu34) fun A45 c46 w1 hY (hS : St _ _ _ [_, _, _, _, _, _, _, _, _, _, _, _, _, _] _) => ?_
 refine TF hY (EL hS (ci .u16) ([0] : List Int)) ?_
 rintro _ w1 hY ⟨A47, rfl, hS⟩
 refine tW [3, 11] 7 1 hY hS (rC hS 14 Z) (chk_some hu38) fun A48 c49 w1 hY (hS : St _ _ _ [_, _, _, _, _, _, _, _, _, _, _, _, _, _, _] _) => ?_
 refine TB (WS hS 3 [sl A42 (y12 ++ ([t28] : List ByteArray)) c43] [sl A42 (y12 ++ ([t28] : List ByteArray)) c43, sl A16 y15 c17, sl A19 y18 c20]) ?_
 intro w1 hS
 refine TP (fun _ => SF) ?_
 refine TB (WS hS 3 [sl A45 (y15 ++ ([IntKind.i16.wrap t27.1] : List Int)) c46] [sl A42 (y12 ++ ([t28] : List ByteArray)) c43, sl A45 (y15 ++ ([IntKind.i16.wrap t27.1] : List Int)) c46, sl A19 y18 c20]) ?_
 intro w1 hS
 refine TP (fun _ => SF) ?_
 refine TB (WS hS 3 [sl A48 (y18 ++ ([0] : List Int)) c49] [sl A42 (y12 ++ ([t28] : List ByteArray)) c43, sl A45 (y15 ++ ([IntKind.i16.wrap t27.1] : List Int)) c46, sl A48 (y18 ++ ([0] : List Int)) c49]) ?_
 intro w1 hS
 exact MD H hS
 refine TJ.alt ?_ ?_
 refine TF hY (EL hS (ci .u16) ([0] : List Int)) ?_
 rintro _ w1 hY ⟨A50, rfl, hS⟩
 refine tW [3, 11] 6 1 hY hS (rC hS 13 Z) (chk_some hu34) fun A51 c52 w1 hY (hS : St _ _ _ [_, _, _, _, _, _, _, _, _, _, _, _, _, _, _] _) => ?_
 refine tW [3, 11] 7 1 hY hS (rC hS 14 Z) (chk_some hu38) fun A53 c54 w1 hY (hS : St _ _ _ [_, _, _, _, _, _, _, _, _, _, _, _, _, _, _] _) => ?_
 refine TB (WS hS 3 [sl A42 (y12 ++ ([t28] : List ByteArray)) c43] [sl A42 (y12 ++ ([t28] : List ByteArray)) c43, sl A16 y15 c17, sl A19 y18 c20]) ?_
 intro w1 hS
 refine TP (fun _ => SF) ?_
 refine TB (WS hS 3 [sl A51 (y15 ++ ([IntKind.i16.wrap t27.1] : List Int)) c52] [sl A42 (y12 ++ ([t28] : List ByteArray)) c43, sl A51 (y15 ++ ([IntKind.i16.wrap t27.1] : List Int)) c52, sl A19 y18 c20]) ?_
 intro w1 hS
 refine TP (fun _ => SF) ?_
 refine TB (WS hS 3 [sl A53 (y18 ++ ([0] : List Int)) c54] [sl A42 (y12 ++ ([t28] : List ByteArray)) c43, sl A51 (y15 ++ ([IntKind.i16.wrap t27.1] : List Int)) c52, sl A53 (y18 ++ ([0] : List Int)) c54]) ?_
 intro w1 hS
 exact MD H hS
 exact TJ.stop
 refine TJ.alt ?_ ?_
 refine TF hY (EL hS (ci .u16) ([0] : List Int)) ?_
 rintro _ w1 hY ⟨A55, rfl, hS⟩
 refine TF hY (EL hS (ci .i16) ([IntKind.i16.wrap t27.1] : List Int)) ?_
 rintro _ w1 hY ⟨A56, rfl, hS⟩
 refine tW [3, 11] 6 1 hY hS (rC hS 14 Z) (chk_some hu34) fun A57 c58 w1 hY (hS : St _ _ _ [_, _, _, _, _, _, _, _, _, _, _, _, _, _, _] _) => ?_
 refine tW [3, 11] 7 1 hY hS (rC hS 13 Z) (chk_some hu38) fun A59 c60 w1 hY (hS : St _ _ _ [_, _, _, _, _, _, _, _, _, _, _, _, _, _, _] _) => ?_
 refine TB (WS hS 3 [sl A42 (y12 ++ ([t28] : List ByteArray)) c43] [sl A42 (y12 ++ ([t28] : List ByteArray)) c43, sl A16 y15 c17, sl A19 y18 c20]) ?_
 intro w1 hS
 refine TP (fun _ => SF) ?_
 refine TB (WS hS 3 [sl A57 (y15 ++ ([IntKind.i16.wrap t27.1] : List Int)) c58] [sl A42 (y12 ++ ([t28] : List ByteArray)) c43, sl A57 (y15 ++ ([IntKind.i16.wrap t27.1] : List Int)) c58, sl A19 y18 c20]) ?_
 intro w1 hS
 refine TP (fun _ => SF) ?_
 refine TB (WS hS 3 [sl A59 (y18 ++ ([0] : List Int)) c60] [sl A42 (y12 ++ ([t28] : List ByteArray)) c43, sl A57 (y15 ++ ([IntKind.i16.wrap t27.1] : List Int)) c58, sl A59 (y18 ++ ([0] : List Int)) c60]) ?_
 intro w1 hS
 refine GO ?_
 exact MT ⟨A41, A42, c43, A56, A57, c58, A55, A59, c60, Z, hS.pick [0, 1, 2, 3, 4, 5, 6, 7, 8, 9, 10, 11, 12, 14, 13] [0] Z⟩
 exact TJ.stop
 refine TJ.alt ?_ ?_
 refine TF hY (EL hS (ci .i16) ([IntKind.i16.wrap t27.1] : List Int)) ?_
 rintro _ w1 hY ⟨A61, rfl, hS⟩
 refine TJ.br ?_
 refine TJ.alt ?_ ?_
 refine tW [3, 11] 5 1 hY hS (rC hS 12 Z) (chk_some hu30) fun A62 c63 w1 hY (hS : St _ _ _ [_, _, _, _, _, _, _, _, _, _, _, _, _, _] _) => ?_
 refine TP (fun _ => SF) ?_
 refine TJ.br ?_
 refine TJ.alt ?_ ?_
 refine tW [3, 11] 6 1 hY hS (rC hS 13 Z) (chk_some hu34) fun A64 c65 w1 hY (hS : St _ _ _ [_, _, _, _, _, _, _, _, _, _, _, _, _, _] _) => ?_
 refine TF hY (EL hS (ci .u16) ([0] : List Int)) ?_
 rintro _ w1 hY ⟨A66, rfl, hS⟩
 refine tW [3, 11] 7 1 hY hS (rC hS 14 Z) (chk_some hu38) fun A67 c68 w1 hY (hS : St _ _ _ [_, _, _, _, _, _, _, _, _, _, _, _, _, _, _] _) => ?_
 refine TB (WS hS 3 [sl A62 (y12 ++ ([t28] : List ByteArray)) c63] [sl A62 (y12 ++ ([t28] : List ByteArray)) c63, sl A16 y15 c17, sl A19 y18 c20]) ?_
 intro w1 hS
 refine TP (fun _ => SF) ?_
 refine TB (WS hS 3 [sl A64 (y15 ++ ([IntKind.i16.wrap t27.1] : List Int)) c65] [sl A62 (y12 ++ ([t28] : List ByteArray)) c63, sl A64 (y15 ++ ([IntKind.i16.wrap t27.1] : List Int)) c65, sl A19 y18 c20]) ?_
 intro w1 hS
 refine TP (fun _ => SF) ?_
 refine TB (WS hS 3 [sl A67 (y18 ++ ([0] : List Int)) c68] [sl A62 (y12 ++ ([t28] : List ByteArray)) c63, sl A64 (y15 ++ ([IntKind.i16.wrap t27.1] : List Int)) c65, sl A67 (y18 ++ ([0] : List Int)) c68]) ?_
 intro w1 hS
 exact MD H hS
 refine TJ.alt ?_ ?_
 refine TF hY (EL hS (ci .u16) ([0] : List Int)) ?_
 rintro _ w1 hY ⟨A69, rfl, hS⟩
 refine tW [3, 11] 6 1 hY hS (rC hS 13 Z) (chk_some hu34) fun A70 c71 w1 hY (hS : St _ _ _ [_, _, _, _, _, _, _, _, _, _, _, _, _, _, _] _) => ?_
 refine tW [3, 11] 7 1 hY hS (rC hS 14 Z) (chk_some hu38) fun A72 c73 w1 hY (hS : St _ _ _ [_, _, _, _, _, _, _, _, _, _, _, _, _, _, _] _) => ?_
 refine TB (WS hS 3 [sl A62 (y12 ++ ([t28] : List ByteArray)) c63] [sl A62 (y12 ++ ([t28] : List ByteArray)) c63, sl A16 y15 c17, sl A19 y18 c20]) ?_
 intro w1 hS
 refine TP (fun _ => SF) ?_
 refine TB (WS hS 3 [sl A70 (y15 ++ ([IntKind.i16.wrap t27.1] : List Int)) c71] [sl A62 (y12 ++ ([t28] : List ByteArray)) c63, sl A70 (y15 ++ ([IntKind.i16.wrap t27.1] : List Int)) c71, sl A19 y18 c20]) ?_
 intro w1 hS
 refine TP (fun _ => SF) ?_
 refine TB (WS hS 3 [sl A72 (y18 ++ ([0] : List Int)) c73] [sl A62 (y12 ++ ([t28] : List ByteArray)) c63, sl A70 (y15 ++ ([IntKind.i16.wrap t27.1] : List Int)) c71, sl A72 (y18 ++ ([0] : List Int)) c73]) ?_
 intro w1 hS
 exact MD H hS
 exact TJ.stop
 refine TJ.alt ?_ ?_
 refine TF hY (EL hS (ci .u16) ([0] : List Int)) ?_
 rintro _ w1 hY ⟨A74, rfl, hS⟩
 refine tW [3, 11] 5 1 hY hS (rC hS 12 Z) (chk_some hu30) fun A75 c76 w1 hY (hS : St _ _ _ [_, _, _, _, _, _, _, _, _, _, _, _, _, _, _] _) => ?_
 refine TP (fun _ => SF) ?_
 refine tW [3, 11] 6 1 hY hS (rC hS 13 Z) (chk_some hu34) fun A77 c78 w1 hY (hS : St _ _ _ [_, _, _, _, _, _, _, _, _, _, _, _, _, _, _] _) => ?_
 refine tW [3, 11] 7 1 hY hS (rC hS 14 Z) (chk_some hu38) fun A79 c80 w1 hY (hS : St _ _ _ [_, _, _, _, _, _, _, _, _, _, _, _, _, _, _] _) => ?_
 refine TB (WS hS 3 [sl A75 (y12 ++ ([t28] : List ByteArray)) c76] [sl A75 (y12 ++ ([t28] : List ByteArray)) c76, sl A16 y15 c17, sl A19 y18 c20]) ?_
 intro w1 hS
 refine TP (fun _ => SF) ?_
 refine TB (WS hS 3 [sl A77 (y15 ++ ([IntKind.i16.wrap t27.1] : List Int)) c78] [sl A75 (y12 ++ ([t28] : List ByteArray)) c76, sl A77 (y15 ++ ([IntKind.i16.wrap t27.1] : List Int)) c78, sl A19 y18 c20]) ?_
 intro w1 hS
 refine TP (fun _ => SF) ?_
 refine TB (WS hS 3 [sl A79 (y18 ++ ([0] : List Int)) c80] [sl A75 (y12 ++ ([t28] : List ByteArray)) c76, sl A77 (y15 ++ ([IntKind.i16.wrap t27.1] : List Int)) c78, sl A79 (y18 ++ ([0] : List Int)) c80]) ?_
 intro w1 hS
 exact MD H hS
 exact TJ.stop
 refine TJ.alt ?_ ?_
 refine TF hY (EL hS (ci .u16) ([0] : List Int)) ?_
 rintro _ w1 hY ⟨A81, rfl, hS⟩
 refine TJ.br ?_
 refine TJ.alt ?_ ?_
 refine tW [3, 11] 5 1 hY hS (rC hS 12 Z) (chk_some hu30) fun A82 c83 w1 hY (hS : St _ _ _ [_, _, _, _, _, _, _, _, _, _, _, _, _, _] _) => ?_
 refine TP (fun _ => SF) ?_
 refine TF hY (EL hS (ci .i16) ([IntKind.i16.wrap t27.1] : List Int)) ?_
 rintro _ w1 hY ⟨A84, rfl, hS⟩
 refine tW [3, 11] 6 1 hY hS (rC hS 14 Z) (chk_some hu34) fun A85 c86 w1 hY (hS : St _ _ _ [_, _, _, _, _, _, _, _, _, _, _, _, _, _, _] _) => ?_
 refine tW [3, 11] 7 1 hY hS (rC hS 13 Z) (chk_some hu38) fun A87 c88 w1 hY (hS : St _ _ _ [_, _, _, _, _, _, _, _, _, _, _, _, _, _, _] _) => ?_
 refine TB (WS hS 3 [sl A82 (y12 ++ ([t28] : List ByteArray)) c83] [sl A82 (y12 ++ ([t28] : List ByteArray)) c83, sl A16 y15 c17, sl A19 y18 c20]) ?_
 intro w1 hS
 refine TP (fun _ => SF) ?_
 refine TB (WS hS 3 [sl A85 (y15 ++ ([IntKind.i16.wrap t27.1] : List Int)) c86] [sl A82 (y12 ++ ([t28] : List ByteArray)) c83, sl A85 (y15 ++ ([IntKind.i16.wrap t27.1] : List Int)) c86, sl A19 y18 c20]) ?_
 intro w1 hS
 refine TP (fun _ => SF) ?_
 refine TB (WS hS 3 [sl A87 (y18 ++ ([0] : List Int)) c88] [sl A82 (y12 ++ ([t28] : List ByteArray)) c83, sl A85 (y15 ++ ([IntKind.i16.wrap t27.1] : List Int)) c86, sl A87 (y18 ++ ([0] : List Int)) c88]) ?_
 intro w1 hS
 refine GO ?_
 exact MT ⟨A41, A82, c83, A84, A85, c86, A81, A87, c88, Z, hS.pick [0, 1, 2, 3, 4, 5, 6, 7, 8, 9, 10, 11, 12, 14, 13] [0] Z⟩
 refine TJ.alt ?_ ?_
 refine TF hY (EL hS (ci .i16) ([IntKind.i16.wrap t27.1] : List Int)) ?_
 rintro _ w1 hY ⟨A89, rfl, hS⟩
 refine tW [3, 11] 5 1 hY hS (rC hS 12 Z) (chk_some hu30) fun A90 c91 w1 hY (hS : St _ _ _ [_, _, _, _, _, _, _, _, _, _, _, _, _, _, _] _) => ?_
 refine TP (fun _ => SF) ?_
 refine tW [3, 11] 6 1 hY hS (rC hS 14 Z) (chk_some hu34) fun A92 c93 w1 hY (hS : St _ _ _ [_, _, _, _, _, _, _, _, _, _, _, _, _, _, _] _) => ?_
 refine tW [3, 11] 7 1 hY hS (rC hS 13 Z) (chk_some hu38) fun A94 c95 w1 hY (hS : St _ _ _ [_, _, _, _, _, _, _, _, _, _, _, _, _, _, _] _) => ?_
 refine TB (WS hS 3 [sl A90 (y12 ++ ([t28] : List ByteArray)) c91] [sl A90 (y12 ++ ([t28] : List ByteArray)) c91, sl A16 y15 c17, sl A19 y18 c20]) ?_
 intro w1 hS
 refine TP (fun _ => SF) ?_
 refine TB (WS hS 3 [sl A92 (y15 ++ ([IntKind.i16.wrap t27.1] : List Int)) c93] [sl A90 (y12 ++ ([t28] : List ByteArray)) c91, sl A92 (y15 ++ ([IntKind.i16.wrap t27.1] : List Int)) c93, sl A19 y18 c20]) ?_
 intro w1 hS
 refine TP (fun _ => SF) ?_
 refine TB (WS hS 3 [sl A94 (y18 ++ ([0] : List Int)) c95] [sl A90 (y12 ++ ([t28] : List ByteArray)) c91, sl A92 (y15 ++ ([IntKind.i16.wrap t27.1] : List Int)) c93, sl A94 (y18 ++ ([0] : List Int)) c95]) ?_
 intro w1 hS
 refine GO ?_
 exact MT ⟨A41, A90, c91, A89, A92, c93, A81, A94, c95, Z, hS.pick [0, 1, 2, 3, 4, 5, 6, 7, 8, 9, 10, 11, 12, 14, 13] [0] Z⟩
 exact TJ.stop
 exact TJ.stop
 refine TJ.alt ?_ ?_
 refine TF hY (EL hS (ci .i16) ([IntKind.i16.wrap t27.1] : List Int)) ?_
 rintro _ w1 hY ⟨A96, rfl, hS⟩
 refine TJ.br ?_
 refine TJ.alt ?_ ?_
 refine TF hY (EL hS G.cs ([t28] : List ByteArray)) ?_
 rintro _ w1 hY ⟨A97, rfl, hS⟩
 refine TJ.br ?_
 refine TJ.alt ?_ ?_
 refine tW [3, 11] 5 1 hY hS (rC hS 13 Z) (chk_some hu30) fun A98 c99 w1 hY (hS : St _ _ _ [_, _, _, _, _, _, _, _, _, _, _, _, _, _] _) => ?_
 refine TP (fun _ => SF) ?_
 refine TJ.br ?_
 refine TJ.alt ?_ ?_
 refine tW [3, 11] 6 1 hY hS (rC hS 12 Z) (chk_some hu34) fun A100 c101 w1 hY (hS : St _ _ _ [_, _, _, _, _, _, _, _, _, _, _, _, _, _] _) => ?_
 refine TF hY (EL hS (ci .u16) ([0] : List Int)) ?_
 rintro _ w1 hY ⟨A102, rfl, hS⟩
 refine tW [3, 11] 7 1 hY hS (rC hS 14 Z) (chk_some hu38) fun A103 c104 w1 hY (hS : St _ _ _ [_, _, _, _, _, _, _, _, _, _, _, _, _, _, _] _) => ?_
 refine TB (WS hS 3 [sl A98 (y12 ++ ([t28] : List ByteArray)) c99] [sl A98 (y12 ++ ([t28] : List ByteArray)) c99, sl A16 y15 c17, sl A19 y18 c20]) ?_
 intro w1 hS
 refine TP (fun _ => SF) ?_
 refine TB (WS hS 3 [sl A100 (y15 ++ ([IntKind.i16.wrap t27.1] : List Int)) c101] [sl A98 (y12 ++ ([t28] : List ByteArray)) c99, sl A100 (y15 ++ ([IntKind.i16.wrap t27.1] : List Int)) c101, sl A19 y18 c20]) ?_
 intro w1 hS
 refine TP (fun _ => SF) ?_
 refine TB (WS hS 3 [sl A103 (y18 ++ ([0] : List Int)) c104] [sl A98 (y12 ++ ([t28] : List ByteArray)) c99, sl A100 (y15 ++ ([IntKind.i16.wrap t27.1] : List Int)) c101, sl A103 (y18 ++ ([0] : List Int)) c104]) ?_
 intro w1 hS
 refine GO ?_
 exact MT ⟨A97, A98, c99, A96, A100, c101, A102, A103, c104, Z, hS.pick [0, 1, 2, 3, 4, 5, 6, 7, 8, 9, 10, 11, 13, 12, 14] [0] Z⟩
 refine TJ.alt ?_ ?_
 refine TF hY (EL hS (ci .u16) ([0] : List Int)) ?_
 rintro _ w1 hY ⟨A105, rfl, hS⟩
 refine tW [3, 11] 6 1 hY hS (rC hS 12 Z) (chk_some hu34) fun A106 c107 w1 hY (hS : St _ _ _ [_, _, _, _, _, _, _, _, _, _, _, _, _, _, _] _) => ?_
 refine tW [3, 11] 7 1 hY hS (rC hS 14 Z) (chk_some hu38) fun A108 c109 w1 hY (hS : St _ _ _ [_, _, _, _, _, _, _, _, _, _, _, _, _, _, _] _) => ?_
 refine TB (WS hS 3 [sl A98 (y12 ++ ([t28] : List ByteArray)) c99] [sl A98 (y12 ++ ([t28] : List ByteArray)) c99, sl A16 y15 c17, sl A19 y18 c20]) ?_
 intro w1 hS
 refine TP (fun _ => SF) ?_
 refine TB (WS hS 3 [sl A106 (y15 ++ ([IntKind.i16.wrap t27.1] : List Int)) c107] [sl A98 (y12 ++ ([t28] : List ByteArray)) c99, sl A106 (y15 ++ ([IntKind.i16.wrap t27.1] : List Int)) c107, sl A19 y18 c20]) ?_
 intro w1 hS
 refine TP (fun _ => SF) ?_
 refine TB (WS hS 3 [sl A108 (y18 ++ ([0] : List Int)) c109] [sl A98 (y12 ++ ([t28] : List ByteArray)) c99, sl A106 (y15 ++ ([IntKind.i16.wrap t27.1] : List Int)) c107, sl A108 (y18 ++ ([0] : List Int)) c109]) ?_
 intro w1 hS
 refine GO ?_
 exact MT ⟨A97, A98, c99, A96, A106, c107, A105, A108, c109, Z, hS.pick [0, 1, 2, 3, 4, 5, 6, 7, 8, 9, 10, 11, 13, 12, 14] [0] Z⟩
 exact TJ.stop
 refine TJ.alt ?_ ?_
 refine TF hY (EL hS (ci .u16) ([0] : List Int)) ?_
 rintro _ w1 hY ⟨A110, rfl, hS⟩
 refine tW [3, 11] 5 1 hY hS (rC hS 13 Z) (chk_some hu30) fun A111 c112 w1 hY (hS : St _ _ _ [_, _, _, _, _, _, _, _, _, _, _, _, _, _, _] _) => ?_
 refine TP (fun _ => SF) ?_
 refine tW [3, 11] 6 1 hY hS (rC hS 12 Z) (chk_some hu34) fun A113 c114 w1 hY (hS : St _ _ _ [_, _, _, _, _, _, _, _, _, _, _, _, _, _, _] _) => ?_
 refine tW [3, 11] 7 1 hY hS (rC hS 14 Z) (chk_some hu38) fun A115 c116 w1 hY (hS : St _ _ _ [_, _, _, _, _, _, _, _, _, _, _, _, _, _, _] _) => ?_
 refine TB (WS hS 3 [sl A111 (y12 ++ ([t28] : List ByteArray)) c112] [sl A111 (y12 ++ ([t28] : List ByteArray)) c112, sl A16 y15 c17, sl A19 y18 c20]) ?_
 intro w1 hS
 refine TP (fun _ => SF) ?_
 refine TB (WS hS 3 [sl A113 (y15 ++ ([IntKind.i16.wrap t27.1] : List Int)) c114] [sl A111 (y12 ++ ([t28] : List ByteArray)) c112, sl A113 (y15 ++ ([IntKind.i16.wrap t27.1] : List Int)) c114, sl A19 y18 c20]) ?_
 intro w1 hS
 refine TP (fun _ => SF) ?_
 refine TB (WS hS 3 [sl A115 (y18 ++ ([0] : List Int)) c116] [sl A111 (y12 ++ ([t28] : List ByteArray)) c112, sl A113 (y15 ++ ([IntKind.i16.wrap t27.1] : List Int)) c114, sl A115 (y18 ++ ([0] : List Int)) c116]) ?_
 intro w1 hS
 refine GO ?_
 exact MT ⟨A97, A111, c112, A96, A113, c114, A110, A115, c116, Z, hS.pick [0, 1, 2, 3, 4, 5, 6, 7, 8, 9, 10, 11, 13, 12, 14] [0] Z⟩
 exact TJ.stop
 refine TJ.alt ?_ ?_
 refine TF hY (EL hS (ci .u16) ([0] : List Int)) ?_
 rintro _ w1 hY ⟨A117, rfl, hS⟩
 refine TF hY (EL hS G.cs ([t28] : List ByteArray)) ?_
 rintro _ w1 hY ⟨A118, rfl, hS⟩
 refine tW [3, 11] 5 1 hY hS (rC hS 14 Z) (chk_some hu30) fun A119 c120 w1 hY (hS : St _ _ _ [_, _, _, _, _, _, _, _, _, _, _, _, _, _, _] _) => ?_
 refine TP (fun _ => SF) ?_
 refine tW [3, 11] 6 1 hY hS (rC hS 12 Z) (chk_some hu34) fun A121 c122 w1 hY (hS : St _ _ _ [_, _, _, _, _, _, _, _, _, _, _, _, _, _, _] _) => ?_
 refine tW [3, 11] 7 1 hY hS (rC hS 13 Z) (chk_some hu38) fun A123 c124 w1 hY (hS : St _ _ _ [_, _, _, _, _, _, _, _, _, _, _, _, _, _, _] _) => ?_
 refine TB (WS hS 3 [sl A119 (y12 ++ ([t28] : List ByteArray)) c120] [sl A119 (y12 ++ ([t28] : List ByteArray)) c120, sl A16 y15 c17, sl A19 y18 c20]) ?_
 intro w1 hS
 refine TP (fun _ => SF) ?_
 refine TB (WS hS 3 [sl A121 (y15 ++ ([IntKind.i16.wrap t27.1] : List Int)) c122] [sl A119 (y12 ++ ([t28] : List ByteArray)) c120, sl A121 (y15 ++ ([IntKind.i16.wrap t27.1] : List Int)) c122, sl A19 y18 c20]) ?_
 intro w1 hS
 refine TP (fun _ => SF) ?_
 refine TB (WS hS 3 [sl A123 (y18 ++ ([0] : List Int)) c124] [sl A119 (y12 ++ ([t28] : List ByteArray)) c120, sl A121 (y15 ++ ([IntKind.i16.wrap t27.1] : List Int)) c122, sl A123 (y18 ++ ([0] : List Int)) c124]) ?_
 intro w1 hS
 refine GO ?_
 exact MT ⟨A118, A119, c120, A96, A121, c122, A117, A123, c124, Z, hS.pick [0, 1, 2, 3, 4, 5, 6, 7, 8, 9, 10, 11, 14, 12, 13] [0] Z⟩
 exact TJ.stop
 refine TJ.alt ?_ ?_
 refine TF hY (EL hS (ci .u16) ([0] : List Int)) ?_
 rintro _ w1 hY ⟨A125, rfl, hS⟩
 refine TJ.br ?_
 refine TJ.alt ?_ ?_
 refine TF hY (EL hS G.cs ([t28] : List ByteArray)) ?_
 rintro _ w1 hY ⟨A126, rfl, hS⟩
 refine TJ.br ?_
 refine TJ.alt ?_ ?_
 refine tW [3, 11] 5 1 hY hS (rC hS 13 Z) (chk_some hu30) fun A127 c128 w1 hY (hS : St _ _ _ [_, _, _, _, _, _, _, _, _, _, _, _, _, _] _) => ?_
 refine TP (fun _ => SF) ?_
 refine TF hY (EL hS (ci .i16) ([IntKind.i16.wrap t27.1] : List Int)) ?_
 rintro _ w1 hY ⟨A129, rfl, hS⟩
 refine tW [3, 11] 6 1 hY hS (rC hS 14 Z) (chk_some hu34) fun A130 c131 w1 hY (hS : St _ _ _ [_, _, _, _, _, _, _, _, _, _, _, _, _, _, _] _) => ?_
 refine tW [3, 11] 7 1 hY hS (rC hS 12 Z) (chk_some hu38) fun A132 c133 w1 hY (hS : St _ _ _ [_, _, _, _, _, _, _, _, _, _, _, _, _, _, _] _) => ?_
 refine TB (WS hS 3 [sl A127 (y12 ++ ([t28] : List ByteArray)) c128] [sl A127 (y12 ++ ([t28] : List ByteArray)) c128, sl A16 y15 c17, sl A19 y18 c20]) ?_
 intro w1 hS
 refine TP (fun _ => SF) ?_
 refine TB (WS hS 3 [sl A130 (y15 ++ ([IntKind.i16.wrap t27.1] : List Int)) c131] [sl A127 (y12 ++ ([t28] : List ByteArray)) c128, sl A130 (y15 ++ ([IntKind.i16.wrap t27.1] : List Int)) c131, sl A19 y18 c20]) ?_
 intro w1 hS
 refine TP (fun _ => SF) ?_
 refine TB (WS hS 3 [sl A132 (y18 ++ ([0] : List Int)) c133] [sl A127 (y12 ++ ([t28] : List ByteArray)) c128, sl A130 (y15 ++ ([IntKind.i16.wrap t27.1] : List Int)) c131, sl A132 (y18 ++ ([0] : List Int)) c133]) ?_
 intro w1 hS
 refine GO ?_
 exact MT ⟨A126, A127, c128, A129, A130, c131, A125, A132, c133, Z, hS.pick [0, 1, 2, 3, 4, 5, 6, 7, 8, 9, 10, 11, 13, 14, 12] [0] Z⟩
 refine TJ.alt ?_ ?_
 refine TF hY (EL hS (ci .i16) ([IntKind.i16.wrap t27.1] : List Int)) ?_
 rintro _ w1 hY ⟨A134, rfl, hS⟩
 refine tW [3, 11] 5 1 hY hS (rC hS 13 Z) (chk_some hu30) fun A135 c136 w1 hY (hS : St _ _ _ [_, _, _, _, _, _, _, _, _, _, _, _, _, _, _] _) => ?_
 refine TP (fun _ => SF) ?_
 refine tW [3, 11] 6 1 hY hS (rC hS 14 Z) (chk_some hu34) fun A137 c138 w1 hY (hS : St _ _ _ [_, _, _, _, _, _, _, _, _, _, _, _, _, _, _] _) => ?_
 refine tW [3, 11] 7 1 hY hS (rC hS 12 Z) (chk_some hu38) fun A139 c140 w1 hY (hS : St _ _ _ [_, _, _, _, _, _, _, _, _, _, _, _, _, _, _] _) => ?_
 refine TB (WS hS 3 [sl A135 (y12 ++ ([t28] : List ByteArray)) c136] [sl A135 (y12 ++ ([t28] : List ByteArray)) c136, sl A16 y15 c17, sl A19 y18 c20]) ?_
 intro w1 hS
 refine TP (fun _ => SF) ?_
 refine TB (WS hS 3 [sl A137 (y15 ++ ([IntKind.i16.wrap t27.1] : List Int)) c138] [sl A135 (y12 ++ ([t28] : List ByteArray)) c136, sl A137 (y15 ++ ([IntKind.i16.wrap t27.1] : List Int)) c138, sl A19 y18 c20]) ?_
 intro w1 hS
 refine TP (fun _ => SF) ?_
 refine TB (WS hS 3 [sl A139 (y18 ++ ([0] : List Int)) c140] [sl A135 (y12 ++ ([t28] : List ByteArray)) c136, sl A137 (y15 ++ ([IntKind.i16.wrap t27.1] : List Int)) c138, sl A139 (y18 ++ ([0] : List Int)) c140]) ?_
 intro w1 hS
 refine GO ?_
 exact MT ⟨A126, A135, c136, A134, A137, c138, A125, A139, c140, Z, hS.pick [0, 1, 2, 3, 4, 5, 6, 7, 8, 9, 10, 11, 13, 14, 12] [0] Z⟩
 exact TJ.stop
 refine TJ.alt ?_ ?_
 refine TF hY (EL hS (ci .i16) ([IntKind.i16.wrap t27.1] : List Int)) ?_
 rintro _ w1 hY ⟨A141, rfl, hS⟩
 refine TF hY (EL hS G.cs ([t28] : List ByteArray)) ?_
 rintro _ w1 hY ⟨A142, rfl, hS⟩
 refine tW [3, 11] 5 1 hY hS (rC hS 14 Z) (chk_some hu30) fun A143 c144 w1 hY (hS : St _ _ _ [_, _, _, _, _, _, _, _, _, _, _, _, _, _, _] _) => ?_
 refine TP (fun _ => SF) ?_
 refine tW [3, 11] 6 1 hY hS (rC hS 13 Z) (chk_some hu34) fun A145 c146 w1 hY (hS : St _ _ _ [_, _, _, _, _, _, _, _, _, _, _, _, _, _, _] _) => ?_
 refine tW [3, 11] 7 1 hY hS (rC hS 12 Z) (chk_some hu38) fun A147 c148 w1 hY (hS : St _ _ _ [_, _, _, _, _, _, _, _, _, _, _, _, _, _, _] _) => ?_
 refine TB (WS hS 3 [sl A143 (y12 ++ ([t28] : List ByteArray)) c144] [sl A143 (y12 ++ ([t28] : List ByteArray)) c144, sl A16 y15 c17, sl A19 y18 c20]) ?_
 intro w1 hS
 refine TP (fun _ => SF) ?_
 refine TB (WS hS 3 [sl A145 (y15 ++ ([IntKind.i16.wrap t27.1] : List Int)) c146] [sl A143 (y12 ++ ([t28] : List ByteArray)) c144, sl A145 (y15 ++ ([IntKind.i16.wrap t27.1] : List Int)) c146, sl A19 y18 c20]) ?_
 intro w1 hS
 refine TP (fun _ => SF) ?_
 refine TB (WS hS 3 [sl A147 (y18 ++ ([0] : List Int)) c148] [sl A143 (y12 ++ ([t28] : List ByteArray)) c144, sl A145 (y15 ++ ([IntKind.i16.wrap t27.1] : List Int)) c146, sl A147 (y18 ++ ([0] : List Int)) c148]) ?_
 intro w1 hS
 refine GO ?_
 exact MT ⟨A142, A143, c144, A141, A145, c146, A125, A147, c148, Z, hS.pick [0, 1, 2, 3, 4, 5, 6, 7, 8, 9, 10, 11, 14, 13, 12] [0] Z⟩
 exact TJ.stop
 exact TJ.stop
 rintro F w1 ⟨A29, A31, c32, A33, A35, c36, A37, A39, c40, rfl, hS⟩
 refine EJ.next ?_
 refine CJ.draw [] [0, 1, 2, 3, 4, 5] mixed (by kernel_rfl) hS fun w1 hS => ?_
 refine dS (SL (ce hS 4)) ?_
 obtain ⟨u149, hu149, H⟩ := pbind H
 refine DJ.st rfl rfl rfl rfl rfl (SR.cutS oU oI ((2 : Int).toNat) (t22.length) rfl rfl rfl rfl rfl rfl (.inr ⟨_, _, rfl, (chk_some hu149).1, rfl⟩) (.inl ⟨rfl, rfl⟩) (by have := (chk_some hu149); omega) (by have := (chk_some hu149); have := (hS.le (i := 11) rfl : t22.length ≤ c24); omega)) ?_
 refine DJ.ef rfl rfl rfl rfl rfl (Ef.litT1 (C := G.cs) (lo := 2) oU oI hS (k := 11) rfl (by have := (chk_some hu149); omega) rfl rfl rfl rfl rfl) ?_
 rintro _ w1 ⟨A150, rfl, hS⟩
 obtain ⟨u151, hu151, H⟩ := pbind H
 refine DJ.ew Z Z Z Z Z (Ew.appendT oU oI hS (i := 2) (j := 15) Z Z Z Z Z Z Z Z Z Z Z Z Z Z (chk_some hu151)) ?_
 rintro _ w1 ⟨A152, c153, rfl, hS⟩
 refine dE (WV hS 4 [sl A152 (y8 ++ [t22.drop 2]) c153]) fun w1 hS => ?_
 exact next (y8 ++ [t22.drop 2], y12 ++ ([t28] : List ByteArray), y15 ++ ([IntKind.i16.wrap t27.1] : List Int), y18 ++ ([0] : List Int), A152, c153, D11 ++ [(A23, c24, t22)], A31, c32, A35, c36, A39, c40) _ _ H (hS.pick [0, 1, 2, 3, 4, 5, 6, 7, 8, 9, 10] [0] Z)
 rintro D ⟨y8, y12, y15, y18, A9, c10, D11, A13, c14, A16, c17, A19, c20⟩ w1 H hS
 replace H : impl_ReadHerd.l1 k [] y8 y12 y15 y18 = some j56 := H
 replace hS : St _ _ _ [_, _, _, _, _, _, _, _, _] _ := hS
 rw [impl_ReadHerd.l1] at H
 obtain rfl := Option.some.inj H
 have H := K56
 refine EJ.blk (EJ.next ?_)
 refine GO ?_
 refine oS (SL (ce hS 4)) ?_
 obtain ⟨j61, H, K61⟩ := pbind H
 refine CJ.cut1 (fun F w1 => ∃ y154, some j61 = some (Sum.inr y154) ∧ F = [(0, .string a0), (2, pt b1), (3, pt b2), (4, pt b4)] ∧ St w no w1 [box b1 ([.slice none 0 0, .slice none 0 0, .slice none 0 0]) 28, box b2 ((ci .i64).enc 0) 2, box b4 ([sl A13 y12 c14, sl A16 y15 c17, sl A19 y154 c20]) 28, rowC G.cs A13 c14 9 y12, rowC (ci .i16) A16 c17 49 y15, rowC (ci .u16) A19 c20 55 y154, dfr D] [envC Tryz.prog 0]) ?_ ?_
 refine CJ.block ?_
 refine LQ (fun k F w1 => ∃ (y155 : List Int) (y156 : Int), F = [(0, .string a0), (2, pt b1), (3, pt b2), (4, pt b4), (67, sl A9 y8 c10), (68, i6 (y8.length : Int)), (69, i6 y156)] ∧ St w no w1 [box b1 ([.slice none 0 0, .slice none 0 0, .slice none 0 0]) 28, box b2 ((ci .i64).enc 0) 2, tlsC G.cs 2 A9 c10 24 9 D11 y8, box b4 ([sl A13 y12 c14, sl A16 y15 c17, sl A19 y155 c20]) 28, rowC G.cs A13 c14 9 y12, rowC (ci .i16) A16 c17 49 y15, rowC (ci .u16) A19 c20 55 y155, dfr D] [envC Tryz.prog 0] ∧ impl_ReadHerd.l2 y8 y12 k y155 y156 = some j61) k H hS ?_
 rintro k F w1 ⟨y155, y156, rfl, hS, H⟩
 rw [impl_ReadHerd.l2] at H
 refine GO ?_
 refine CP H (fun H => ?_) (fun H => ?_)
 refine CJ.skip (EJ.next ?_)
 obtain ⟨j68, H, K68⟩ := pbind H
 refine CJ.cut (fun F w1 => ∃ y157, some j68 = some (Sum.inr y157) ∧ F = [(0, .string a0), (2, pt b1), (3, pt b2), (4, pt b4), (67, sl A9 y8 c10), (68, i6 (y8.length : Int)), (69, i6 y156)] ∧ St w no w1 [box b1 ([.slice none 0 0, .slice none 0 0, .slice none 0 0]) 28, box b2 ((ci .i64).enc 0) 2, tlsC G.cs 2 A9 c10 24 9 D11 y8, box b4 ([sl A13 y12 c14, sl A16 y15 c17, sl A19 y157 c20]) 28, rowC G.cs A13 c14 9 y12, rowC (ci .i16) A16 c17 49 y15, rowC (ci .u16) A19 c20 55 y157, dfr D] [envC Tryz.prog 0]) ?_ ?_
 refine CJ.block ?_
 refine GO ?_
 obtain ⟨t158, ht158, H⟩ := pbind H
 obtain ⟨Ae158, ce158, g158, d158, hx158⟩ := ros_el (hS.tlsRo (i := 2) rfl) ht158
 obtain ⟨ad158, e158⟩ := (ros_rd (hS.tlsRo (i := 2) rfl)).some' g158
 refine OS (SI e158 (getI_some ht158).1) ?_
 refine oS (SL ((ros_rd (hS.tlsRo (i := 2) Z)).at_ e158 g158)) ?_
 obtain ⟨j70, H, K70⟩ := pbind H
 refine CJ.cut1 (fun F w1 => ∃ y159, some j70 = some (Sum.inr y159) ∧ F = [(0, .string a0), (2, pt b1), (3, pt b2), (4, pt b4), (67, sl A9 y8 c10), (68, i6 (y8.length : Int)), (69, i6 y156)] ∧ St w no w1 [box b1 ([.slice none 0 0, .slice none 0 0, .slice none 0 0]) 28, box b2 ((ci .i64).enc 0) 2, tlsC G.cs 2 A9 c10 24 9 D11 y8, box b4 ([sl A13 y12 c14, sl A16 y15 c17, sl A19 y159 c20]) 28, rowC G.cs A13 c14 9 y12, rowC (ci .i16) A16 c17 49 y15, rowC (ci .u16) A19 c20 55 y159, dfr D] [envC Tryz.prog 0]) ?_ ?_
 refine CJ.block ?_
 refine LQ (fun k F w1 => ∃ (y160 : List Int) (y161 : Int), F = [(0, .string a0), (2, pt b1), (3, pt b2), (4, pt b4), (10, i6 y156), (67, sl A9 y8 c10), (68, i6 (y8.length : Int)), (69, i6 y156), (74, sl Ae158 t158 ce158), (75, i6 (t158.length : Int)), (76, i6 y161)] ∧ St w no w1 [box b1 ([.slice none 0 0, .slice none 0 0, .slice none 0 0]) 28, box b2 ((ci .i64).enc 0) 2, tlsC G.cs 2 A9 c10 24 9 D11 y8, box b4 ([sl A13 y12 c14, sl A16 y15 c17, sl A19 y160 c20]) 28, rowC G.cs A13 c14 9 y12, rowC (ci .i16) A16 c17 49 y15, rowC (ci .u16) A19 c20 55 y160, dfr D] [envC Tryz.prog 0] ∧ impl_ReadHerd.l3 y12 y156 t158 k y160 y161 = some j70) k H hS ?_
 rintro k F w1 ⟨y160, y161, rfl, hS, H⟩
 rw [impl_ReadHerd.l3] at H
 refine GO ?_
 refine CP H (fun H => GO ?_) (fun H => ?_)
 refine CJ.block ?_
 refine GO ?_
 obtain ⟨t162, ht162, H⟩ := pbind H
 obtain ⟨ad162, e162⟩ := ((ros_sub (hS.tlsRo (i := 2) rfl) d158 hx158)).some' ht162
 refine OS (SI e162 (getI_some ht162).1) ?_
 refine oS (SL ((ros_sub (hS.tlsRo (i := 2) Z) d158 hx158).at_ e162 ht162)) ?_
 refine oS (SL (cf hS 3 0)) ?_
 refine oB H hS hb41 (slices_Index_string_string.c (rC hS 4 Z) (rD hS 4 Z)) fun t163 w1 H hS => ?_
 refine CP H (fun H => GO ?_) (fun H => ?_)
 refine OJ.st Z Z Z (SR.build' oU oI Z Z Z (zs := [.slice none 0 0, .slice none 0 0, .slice none 0 0]) Z Z Z ([.slice none 0 0, .slice none 0 0, .slice none 0 0]) Z) ?_
 refine OE (WV hS 0 [.slice none 0 0, .slice none 0 0, .slice none 0 0]) fun w1 hS => ?_
 refine oE (WV hS 1 ((ci .i64).enc 5)) fun w1 hS => ?_
 obtain rfl := Option.some.inj H; have H := K70
 obtain rfl := Option.some.inj H; have H := K68
 obtain rfl := Option.some.inj H; have H := K61
 replace hS := hS.addNil G.cs 9 none
 replace hS := hS.addNil (ci .i16) 49 none
 replace hS := hS.addNil (ci .u16) 55 none
 obtain rfl := Option.some.inj H
 refine EJ.finM (L := [box b1 ([.slice none 0 0, .slice none 0 0, .slice none 0 0]) 28, box b2 ((ci .i64).enc 5) 2, rowC G.cs none 0 9 [], rowC (ci .i16) none 0 49 [], rowC (ci .u16) none 0 55 []]) (vs := [.agg [.slice none 0 0, .slice none 0 0, .slice none 0 0].toArray, .int .i64 5]) Z (hS.pick [0, 1, 8, 9, 10, 7] [] Z) fun w' hS => ?_
 exact ⟨(.cell Z (ldN oU oI Z Z Z (hS.cells (i := 0) Z) (ds := [.slice none 0 0, .slice none 0 0, .slice none 0 0]) Z Z) (.cell Z (ld1 oU Z Z (hS.cells (i := 1) Z) Z) .nil)), none, 0, none, 0, none, 0, Z, hS.pick [2, 3, 4] [] Z⟩
 refine GO ?_
 refine CJ.draw [] [0, 1, 2, 3, 4, 5, 6, 7, 8, 9] mixed (by kernel_rfl) hS fun w1 hS => ?_
 refine GO ?_
 refine dS (SL (cf hS 3 2)) ?_
 refine xD H (rC hS 6 Z) fun t164 ad164 ht164 H => ?_
 obtain ⟨u165, hu165, H⟩ := pbind H
 refine DJ.st Z Z Z Z Z (SR.shl Z Z Z (chk_some hu165)) ?_
 refine GO ?_
 obtain ⟨t166, ht166, H⟩ := pbind H
 obtain ⟨ad166, e166⟩ := (rC hS 6 Z).some' ht166
 refine DS (SI e166 (getI_some ht166).1) ?_
 refine DJ.es Z Z Z Z (Es.storeR oI hS (i := 6) (off := 0) Z Z ht166 e166 Z Z Z Z (vs := (ci .u16).enc (orI .u16 t164 (shlI .u16 1 t163))) Z Z (one1 Z) (Nat.le_of_ble_eq_true Z) (orI .u16 t164 (shlI .u16 1 t163)) Z) ?_
 intro w1 hS
 refine DJ.as (t := 88) rfl (show _ = (.slice A19 (y160.set y156.toNat (orI .u16 t164 (shlI .u16 1 t163))).length c20 : Value) by simp only [List.length_set]) ?_
 replace hS := hS.boxAs (i := 3) rfl (show _ = ([.slice A13 y12.length c14, .slice A16 y15.length c17, .slice A19 (y160.set y156.toNat (orI .u16 t164 (shlI .u16 1 t163))).length c20] : List Value) by simp only [List.length_set])
 exact MD H hS
 exact MD H hS
 rintro F w1 ⟨y159, ⟨⟩, rfl, hS⟩
 have H := K70
 refine EJ.blk (?_)
 exact MD H hS
 rintro F w1 ⟨y157, ⟨⟩, rfl, hS⟩
 have H := K68
 exact MD H hS
 exact MD H hS
 rintro F w1 ⟨y154, ⟨⟩, rfl, hS⟩
 have H := K61
 refine EJ.next ?_
 refine GO ?_
 refine OS (SN [sl A13 y12 c14, sl A16 y15 c17, sl A19 y154 c20] (ce hS 2)) ?_
 refine oB H hS hb8 (impl_HerdText.c (⟨y12, y15, y154⟩ : Herd) (rC hS 3 Z) (rD hS 3 Z) (rC hS 4 Z) (rD hS 4 Z) (rC hS 5 Z) (rD hS 5 Z) (hS.ro (i := 0) Z)) fun t167 w1 H hS => ?_
 refine CP H (fun H => GO ?_) (fun H => ?_)
 refine OJ.st Z Z Z (SR.build' oU oI Z Z Z (zs := [.slice none 0 0, .slice none 0 0, .slice none 0 0]) Z Z Z ([.slice none 0 0, .slice none 0 0, .slice none 0 0]) Z) ?_
 refine OE (WV hS 0 [.slice none 0 0, .slice none 0 0, .slice none 0 0]) fun w1 hS => ?_
 refine oE (WV hS 1 ((ci .i64).enc 5)) fun w1 hS => ?_
 replace hS := hS.addNil G.cs 9 none
 replace hS := hS.addNil (ci .i16) 49 none
 replace hS := hS.addNil (ci .u16) 55 none
 obtain rfl := Option.some.inj H
 refine EJ.finM (L := [box b1 ([.slice none 0 0, .slice none 0 0, .slice none 0 0]) 28, box b2 ((ci .i64).enc 5) 2, rowC G.cs none 0 9 [], rowC (ci .i16) none 0 49 [], rowC (ci .u16) none 0 55 []]) (vs := [.agg [.slice none 0 0, .slice none 0 0, .slice none 0 0].toArray, .int .i64 5]) Z (hS.pick [0, 1, 7, 8, 9, 6] [] Z) fun w' hS => ?_
 exact ⟨(.cell Z (ldN oU oI Z Z Z (hS.cells (i := 0) Z) (ds := [.slice none 0 0, .slice none 0 0, .slice none 0 0]) Z Z) (.cell Z (ld1 oU Z Z (hS.cells (i := 1) Z) Z) .nil)), none, 0, none, 0, none, 0, Z, hS.pick [2, 3, 4] [] Z⟩
 refine GO ?_
 refine OS (SN [sl A13 y12 c14, sl A16 y15 c17, sl A19 y154 c20] (ce hS 2)) ?_
 refine OE (WV hS 0 [sl A13 y12 c14, sl A16 y15 c17, sl A19 y154 c20]) fun w1 hS => ?_
 refine oE (WV hS 1 ((ci .i64).enc 0)) fun w1 hS => ?_
 obtain rfl := Option.some.inj H
 refine EJ.finM (L := [box b1 ([sl A13 y12 c14, sl A16 y15 c17, sl A19 y154 c20]) 28, box b2 ((ci .i64).enc 0) 2, rowC G.cs A13 c14 9 y12, rowC (ci .i16) A16 c17 49 y15, rowC (ci .u16) A19 c20 55 y154]) (vs := [.agg [sl A13 y12 c14, sl A16 y15 c17, sl A19 y154 c20].toArray, .int .i64 0]) Z (hS.pick [0, 1, 3, 4, 5, 6] [] Z) fun w' hS => ?_
 exact ⟨(.cell Z (ldN oU oI Z Z Z (hS.cells (i := 0) Z) (ds := [sl A13 y12 c14, sl A16 y15 c17, sl A19 y154 c20]) Z Z) (.cell Z (ld1 oU Z Z (hS.cells (i := 1) Z) Z) .nil)), A13, c14, A16, c17, A19, c20, Z, hS.pick [2, 3, 4] [] Z⟩
 rintro D ⟨⟩ w1 rfl hS
 refine EJ.bkR (EJ.skR (?_))
 have H := K56
 replace hS := hS.addNil G.cs 9 none
 replace hS := hS.addNil (ci .i16) 49 none
 replace hS := hS.addNil (ci .u16) 55 none
 obtain rfl := Option.some.inj H
 refine EJ.finM (L := [box b1 ([.slice none 0 0, .slice none 0 0, .slice none 0 0]) 28, box b2 ((ci .i64).enc 5) 2, rowC G.cs none 0 9 [], rowC (ci .i16) none 0 49 [], rowC (ci .u16) none 0 55 []]) (vs := [.agg [.slice none 0 0, .slice none 0 0, .slice none 0 0].toArray, .int .i64 5]) Z (hS.pick [0, 1, 3, 4, 5, 2] [] Z) fun w' hS => ?_
 exact ⟨(.cell Z (ldN oU oI Z Z Z (hS.cells (i := 0) Z) (ds := [.slice none 0 0, .slice none 0 0, .slice none 0 0]) Z Z) (.cell Z (ld1 oU Z Z (hS.cells (i := 1) Z) Z) .nil)), none, 0, none, 0, none, 0, Z, hS.pick [2, 3, 4] [] Z⟩

def impl_PeaceGroups.l3 (a0 : Herd) (t24 : List Int) : Nat → Int → Int → Option Int
  | 0, _, _ => none
  | k + 1, y28, y29 => if y29 < (t24.length : Int) then ((getI t24 y29).bind fun t30 => (getI a0.Foes t30).bind fun t31 => impl_PeaceGroups.l3 a0 t24 k (orI .u16 y28 t31) (IntKind.i64.wrap (y29 + 1))) else (some y28)
def impl_PeaceGroups.l2 (a0 : Herd) : Nat → Int → Int → Option Int
  | 0, _, _ => none
  | k + 1, y22, y23 => if y23 ≠ y22 then ((impl_listed.f k y22).bind fun t24 => (impl_PeaceGroups.l3 a0 t24 k y22 0).bind fun y27 => impl_PeaceGroups.l2 a0 k y27 y22) else (some y22)
def impl_PeaceGroups.l1 (a0 : Herd) : Nat → (List (List Int)) → Int → Int → Option (List (List Int))
  | 0, _, _, _ => none
  | k + 1, y8, y12, y13 => if y13 < (a0.Names.length : Int) then (((chk (0 ≤ y13)).bind fun u19 => if (andI .u16 (shrI .u16 y12 y13) 1) = 1 then (some (y8, y12)) else ((chk (0 ≤ y13)).bind fun u20 => (impl_PeaceGroups.l2 a0 k (shlI .u16 1 y13) 0).bind fun y21 => (impl_listed.f k y21).bind fun t32 => (chk (y8.length + [t32].length ≤ 4294967296)).bind fun u36 => some (y8 ++ [t32], orI .u16 y12 y21))).bind fun (y14, y18) => impl_PeaceGroups.l1 a0 k y14 y18 (IntKind.i64.wrap (y13 + 1))) else (some y8)
def impl_PeaceGroups.f (k : Nat) (a0 : Herd) : Option (List (List Int) × Int) := (impl_ValidHerd.f k a0).bind fun t2 => if (!t2) = true then (some ([], 1)) else ((impl_PeaceGroups.l1 a0 k ([] : List (List Int)) 0 0).bind fun y4 => some (y4, 0))
theorem impl_PeaceGroups.c {k w Aa0_0 ca0_0 Aa0_1 ca0_1 Aa0_2 ca0_2} (a0 : Herd) (hr0_0 : Rd G.cs w Aa0_0 a0.Names) (hc0_0 : a0.Names.length ≤ ca0_0) (hr0_1 : Rd (ci .i16) w Aa0_1 a0.Eats) (hc0_1 : a0.Eats.length ≤ ca0_1) (hr0_2 : Rd (ci .u16) w Aa0_2 a0.Foes) (hc0_2 : a0.Foes.length ≤ ca0_2) (r : List (List Int) × Int) (H : impl_PeaceGroups.f k a0 = some r) :
 CV Tryz.prog 9 [.agg (hv Aa0_0 Aa0_1 Aa0_2 ca0_0 ca0_1 ca0_2 a0).toArray].toArray w fun v w' => ∃ (A0 : Option Addr) (c0 : Nat) (D0 : List SH), v = .tuple #[sl A0 r.1 c0, i6 r.2] ∧ St w no w' [rowsC (ci .i64) A0 c0 40 2 D0 r.1] [] := by
 have hS := ((((St.init w no).param G.cs Aa0_0 ca0_0 a0.Names hr0_0 hc0_0).param (ci .i16) Aa0_1 ca0_1 a0.Eats hr0_1 hc0_1).param (ci .u16) Aa0_2 ca0_2 a0.Foes hr0_2 hc0_2)
 unfold impl_PeaceGroups.f at H
 refine CV.body Tryz.func9 Z Tryz.ntmps9 Z ?_
 refine GO ?_
 refine oX hS (hv Aa0_0 Aa0_1 Aa0_2 ca0_0 ca0_1 ca0_2 a0) fun b1 w1 hS => ?_
 refine OS (SN (hv Aa0_0 Aa0_1 Aa0_2 ca0_0 ca0_1 ca0_2 a0) (ce hS 0)) ?_
 refine oB H hS hb13 (impl_ValidHerd.c a0 (rA hS 0 Z) (rB hS 0 Z) (rA hS 1 Z) (rB hS 1 Z) (rA hS 2 Z) (rB hS 2 Z)) fun t2 w1 H hS => ?_
 refine CB H (fun H => GO ?_) (fun H => ?_)
 replace hS := hS.addNilS (ci .i64) 40 2
 obtain rfl := Option.some.inj H
 exact EJ.fin Z (.tmp Z (.tmp Z .nil)) ⟨none, 0, [], Z, hS.pick [1] [] Z⟩
 refine GO ?_
 refine OJ.ef Z Z Z (Ef.litS0 (e := 2) oU oI hS Z Z Z Z (ci .i64)) ?_
 rintro _ w1 ⟨A3, rfl, hS⟩
 refine GO ?_
 refine oS (SL (cf hS 0 0)) ?_
 obtain ⟨j71, H, K71⟩ := pbind H
 refine CJ.cut1 (fun F w1 => ∃ y4 A5 c6 D7, some y4 = some j71 ∧ F = [(4, sl A5 y4 c6)] ∧ St w no w1 [rowsC (ci .i64) A5 c6 40 2 D7 y4] [roC G.cs Aa0_0 ca0_0 a0.Names, roC (ci .i16) Aa0_1 ca0_1 a0.Eats, roC (ci .u16) Aa0_2 ca0_2 a0.Foes]) ?_ ?_
 refine CJ.block ?_
 refine LQ (fun k F w1 => ∃ (y8 : List (List Int)) (y12 : Int) (y13 : Int) (A9 c10 D11 : _), F = [(1, pt b1), (4, sl A9 y8 c10), (5, .int .u16 y12), (17, i6 (a0.Names.length : Int)), (18, i6 y13)] ∧ St w no w1 [box b1 (hv Aa0_0 Aa0_1 Aa0_2 ca0_0 ca0_1 ca0_2 a0) 28, rowsC (ci .i64) A9 c10 40 2 D11 y8] [roC G.cs Aa0_0 ca0_0 a0.Names, roC (ci .i16) Aa0_1 ca0_1 a0.Eats, roC (ci .u16) Aa0_2 ca0_2 a0.Foes] ∧ impl_PeaceGroups.l1 a0 k y8 y12 y13 = some j71) k H hS ?_
 rintro k F w1 ⟨y8, y12, y13, A9, c10, D11, rfl, hS, H⟩
 rw [impl_PeaceGroups.l1] at H
 refine GO ?_
 refine CP H (fun H => ?_) (fun H => ?_)
 refine CJ.skip (EJ.next ?_)
 obtain ⟨j90, H, K90⟩ := pbind H
 refine CJ.cut (fun F w1 => ∃ y14 y18 A15 c16 D17, some j90 = some (y14, y18) ∧ F = [(1, pt b1), (4, sl A15 y14 c16), (5, .int .u16 y18), (17, i6 (a0.Names.length : Int)), (18, i6 y13)] ∧ St w no w1 [box b1 (hv Aa0_0 Aa0_1 Aa0_2 ca0_0 ca0_1 ca0_2 a0) 28, rowsC (ci .i64) A15 c16 40 2 D17 y14] [roC G.cs Aa0_0 ca0_0 a0.Names, roC (ci .i16) Aa0_1 ca0_1 a0.Eats, roC (ci .u16) Aa0_2 ca0_2 a0.Foes]) ?_ ?_
 refine CJ.block ?_
 refine GO ?_
 obtain ⟨u19, hu19, H⟩ := pbind H
 refine OJ.st Z Z Z (SR.shr Z Z Z (chk_some hu19)) ?_
 refine GO ?_
 refine CP H (fun H => ?_) (fun H => ?_)
 exact MD H hS
 refine GO ?_
 obtain ⟨u20, hu20, H⟩ := pbind H
 refine OJ.st Z Z Z (SR.shl Z Z Z (chk_some hu20)) ?_
 refine GO ?_
 obtain ⟨j95, H, K95⟩ := pbind H
 refine CJ.cut1 (fun F w1 => ∃ y21, some y21 = some j95 ∧ F = [(1, pt b1), (4, sl A9 y8 c10), (5, .int .u16 y12), (7, .int .u16 y21), (17, i6 (a0.Names.length : Int)), (18, i6 y13)] ∧ St w no w1 [box b1 (hv Aa0_0 Aa0_1 Aa0_2 ca0_0 ca0_1 ca0_2 a0) 28, rowsC (ci .i64) A9 c10 40 2 D11 y8] [roC G.cs Aa0_0 ca0_0 a0.Names, roC (ci .i16) Aa0_1 ca0_1 a0.Eats, roC (ci .u16) Aa0_2 ca0_2 a0.Foes]) ?_ ?_
 refine CJ.block ?_
 refine LQ (fun k F w1 => ∃ (y22 : Int) (y23 : Int), F = [(1, pt b1), (4, sl A9 y8 c10), (5, .int .u16 y12), (7, .int .u16 y22), (8, .int .u16 y23), (17, i6 (a0.Names.length : Int)), (18, i6 y13)] ∧ St w no w1 [box b1 (hv Aa0_0 Aa0_1 Aa0_2 ca0_0 ca0_1 ca0_2 a0) 28, rowsC (ci .i64) A9 c10 40 2 D11 y8] [roC G.cs Aa0_0 ca0_0 a0.Names, roC (ci .i16) Aa0_1 ca0_1 a0.Eats, roC (ci .u16) Aa0_2 ca0_2 a0.Foes] ∧ impl_PeaceGroups.l2 a0 k y22 y23 = some j95) k H hS ?_
 rintro k F w1 ⟨y22, y23, rfl, hS, H⟩
 rw [impl_PeaceGroups.l2] at H
 refine GO ?_
 refine CP H (fun H => GO ?_) (fun H => ?_)
 refine CJ.block ?_
 refine GO ?_
 obtain ⟨t24, ht24, H⟩ := pbind H
 refine OC hb43 (impl_listed.c _ ht24) ?_
 rintro _ w1 ⟨A25, c26, rfl, hs⟩
 replace hS := hS.addN hs
 refine GO ?_
 obtain ⟨j98, H, K98⟩ := pbind H
 refine CJ.cut1 (fun F w1 => ∃ y27, some y27 = some j98 ∧ F = [(1, pt b1), (4, sl A9 y8 c10), (5, .int .u16 y12), (7, .int .u16 y27), (8, .int .u16 y22), (17, i6 (a0.Names.length : Int)), (18, i6 y13)] ∧ St w no w1 [box b1 (hv Aa0_0 Aa0_1 Aa0_2 ca0_0 ca0_1 ca0_2 a0) 28, rowsC (ci .i64) A9 c10 40 2 D11 y8] [roC G.cs Aa0_0 ca0_0 a0.Names, roC (ci .i16) Aa0_1 ca0_1 a0.Eats, roC (ci .u16) Aa0_2 ca0_2 a0.Foes]) ?_ ?_
 refine CJ.block ?_
 refine LQ (fun k F w1 => ∃ (y28 : Int) (y29 : Int), F = [(1, pt b1), (4, sl A9 y8 c10), (5, .int .u16 y12), (7, .int .u16 y28), (8, .int .u16 y22), (17, i6 (a0.Names.length : Int)), (18, i6 y13), (33, sl A25 t24 c26), (34, i6 (t24.length : Int)), (35, i6 y29)] ∧ St w no w1 [box b1 (hv Aa0_0 Aa0_1 Aa0_2 ca0_0 ca0_1 ca0_2 a0) 28, rowsC (ci .i64) A9 c10 40 2 D11 y8, rowC (ci .i64) A25 c26 2 t24] [roC G.cs Aa0_0 ca0_0 a0.Names, roC (ci .i16) Aa0_1 ca0_1 a0.Eats, roC (ci .u16) Aa0_2 ca0_2 a0.Foes] ∧ impl_PeaceGroups.l3 a0 t24 k y28 y29 = some j98) k H hS ?_
 rintro k F w1 ⟨y28, y29, rfl, hS, H⟩
 rw [impl_PeaceGroups.l3] at H
 refine GO ?_
 refine CP H (fun H => GO ?_) (fun H => ?_)
 refine CJ.block ?_
 refine GO ?_
 refine xI H (rC hS 2 Z) fun t30 ad30 ht30 H => ?_
 refine oS (SL (cf hS 0 2)) ?_
 obtain ⟨t31, ht31, H⟩ := pbind H
 obtain ⟨ad31, e31⟩ := (rA hS 2 Z).some' ht31
 refine OS (SI e31 (getI_some ht31).1) ?_
 refine OS (SL ((rA hS 2 Z).at_ e31 ht31)) ?_
 exact MD H hS
 exact MD H hS
 rintro F w1 ⟨y27, he, rfl, hS⟩
 obtain rfl := Option.some.inj he
 have H := K98
 refine EJ.blk (?_)
 exact MD H hS
 exact MD H hS
 rintro F w1 ⟨y21, he, rfl, hS⟩
 obtain rfl := Option.some.inj he
 have H := K95
 refine EJ.next ?_
 refine GO ?_
 obtain ⟨t32, ht32, H⟩ := pbind H
 refine OC hb43 (impl_listed.c _ ht32) ?_
 rintro _ w1 ⟨A33, c34, rfl, hs⟩
 replace hS := hS.addN hs
 refine OJ.ef Z Z Z (Ef.litS1 (C := (ci .i64)) oU oI hS (k := 2) Z Z Z Z Z Z) ?_
 rintro _ w1 ⟨A35, rfl, hS⟩
 obtain ⟨u36, hu36, H⟩ := pbind H
 have hdl := (hS.rowsRo (i := 1) rfl).1
 have dd39 := subD (D := D11) hdl (show ([(A33, c34)] : List SH)[0]? = _ from rfl)
 have xd39 := subD (D := y8) rfl (show ([t32] : List (List Int))[0]? = _ from rfl)
 refine OJ.ew Z Z Z (Ew.appendS oU oI hS (i := 1) (j := 3) Z Z Z Z Z Z Z Z Z Z Z Z Z Z (chk_some hu36)) ?_
 rintro _ w1 ⟨A37, c38, rfl, hS⟩
 exact MD H hS
 rintro F w1 ⟨y14, y18, A15, c16, D17, ⟨⟩, rfl, hS⟩
 have H := K90
 exact MD H hS
 exact MD H hS
 rintro F w1 ⟨y4, A5, c6, D7, ⟨⟩, rfl, hS⟩
 have H := K71
 refine EJ.next ?_
 refine GO ?_
 obtain rfl := Option.some.inj H
 exact EJ.fin Z (.tmp Z (.tmp Z .nil)) ⟨A5, c6, D7, Z, hS.pick [0] [] Z⟩

def spec_l00In.f (a0 : Int) (a1 : Int) (a2 : Int) : Option Bool := if a1 ≤ a0 then (some (decide (a0 ≤ a2))) else (some false)
theorem spec_l00In.c {w} {a0 : Int} {a1 : Int} {a2 : Int} (r : Bool) (H : spec_l00In.f a0 a1 a2 = some r) :
 CV Tryz.prog 75 [.int .i64 a0, i6 a1, i6 a2].toArray w fun v w' => v = .bool r ∧ Ext w w' := by
 have hS := (St.init w no)
 unfold spec_l00In.f at H
 refine CV.body Tryz.func75 Z Tryz.ntmps75 Z ?_
 refine GO ?_
 refine OJ.split (t := 10) Z (fun hb => ?_) (fun hb => ?_)
 replace H := pif_t (of_decide_eq_true hb) H
 exact FE H hS
 replace H := pif_f (of_decide_eq_false hb) H
 exact FE H hS

def spec_l06Name.l1 (a0 : ByteArray) : Nat → Int → Option (Bool ⊕ Unit)
  | 0, _ => none
  | k + 1, y1 => if y1 < (a0.size : Int) then ((getB a0 y1).bind fun t2 => if t2 < 97 then (some (Sum.inl false)) else ((getB a0 y1).bind fun t3 => if 122 < t3 then (some (Sum.inl false)) else (spec_l06Name.l1 a0 k (IntKind.i64.wrap (y1 + 1))))) else (some (Sum.inr ()))
def spec_l06Name.f (k : Nat) (a0 : ByteArray) : Option Bool := (spec_l06Name.l1 a0 k 0).bind fun s103 => match s103 with | .inl r => some r | .inr _ => (spec_l00In.f (a0.size : Int) 1 8).bind fun t4 => some t4
theorem spec_l06Name.c {k w} {a0 : ByteArray} (r : Bool) (H : spec_l06Name.f k a0 = some r) :
 CV Tryz.prog 106 [.string a0].toArray w fun v w' => v = .bool r ∧ Ext w w' := by
 have hS := (St.init w no)
 unfold spec_l06Name.f at H
 refine CV.body Tryz.func106 Z Tryz.ntmps106 Z ?_
 refine GO ?_
 obtain ⟨j103, H, K103⟩ := pbind H
 refine CJ.cut1 (fun F w1 => some j103 = some (Sum.inr ()) ∧ F = [(0, .string a0)] ∧ St w no w1 [] []) ?_ ?_
 refine CJ.block ?_
 refine LQ (fun k F w1 => ∃ (y1 : Int), F = [(0, .string a0), (3, i6 y1)] ∧ St w no w1 [] [] ∧ spec_l06Name.l1 a0 k y1 = some j103) k H hS ?_
 rintro k F w1 ⟨y1, rfl, hS, H⟩
 rw [spec_l06Name.l1] at H
 refine GO ?_
 refine CP H (fun H => GO ?_) (fun H => ?_)
 refine CJ.block ?_
 refine GO ?_
 obtain ⟨t2, ht2, H⟩ := pbind H
 refine OJ.st Z Z Z (SR.idxStr oU Z Z Z Z ht2) ?_
 refine GO ?_
 refine OJ.split (t := 14) Z (fun hb => ?_) (fun hb => ?_)
 replace H := pif_t (of_decide_eq_true hb) H
 refine GO ?_
 refine CJ.condT Z ?_
 refine GO ?_
 obtain rfl := Option.some.inj H; have H := K103
 exact FE H hS
 replace H := pif_f (of_decide_eq_false hb) H
 refine GO ?_
 obtain ⟨t3, ht3, H⟩ := pbind H
 refine OJ.st Z Z Z (SR.idxStr oU Z Z Z Z ht3) ?_
 refine GO ?_
 refine CP H (fun H => GO ?_) (fun H => ?_)
 obtain rfl := Option.some.inj H; have H := K103
 exact FE H hS
 exact MD H hS
 exact MD H hS
 rintro F w1 ⟨⟨⟩, rfl, hS⟩
 have H := K103
 refine EJ.next ?_
 refine GO ?_
 refine OB H hS hb75 (spec_l00In.c) fun t4 w1 H hS => ?_
 exact FE H hS

def spec_l06Are.f (a0 : Herd) (a1 : Int) (a2 : Int) : Option Bool := (getI a0.Foes a1).bind fun t1 => (chk (0 ≤ (IntKind.u64.wrap a2))).bind fun u2 => some (decide ((Int.tmod (shrI .u16 t1 (IntKind.u64.wrap a2)) 2) = 1))
theorem spec_l06Are.c {w Aa0_0 ca0_0 Aa0_1 ca0_1 Aa0_2 ca0_2} (a0 : Herd) (hr0_0 : Rd G.cs w Aa0_0 a0.Names) (hc0_0 : a0.Names.length ≤ ca0_0) (hr0_1 : Rd (ci .i16) w Aa0_1 a0.Eats) (hc0_1 : a0.Eats.length ≤ ca0_1) (hr0_2 : Rd (ci .u16) w Aa0_2 a0.Foes) (hc0_2 : a0.Foes.length ≤ ca0_2) (pa0 : Addr) (hp0 : CA w pa0 (hv Aa0_0 Aa0_1 Aa0_2 ca0_0 ca0_1 ca0_2 a0)) {a1 : Int} {a2 : Int} (r : Bool) (H : spec_l06Are.f a0 a1 a2 = some r) :
 CV Tryz.prog 107 [.pointer (some pa0), .int .i64 a1, i6 a2].toArray w fun v w' => v = .bool r ∧ Ext w w' := by
 have hS := (((((St.init w no).param G.cs Aa0_0 ca0_0 a0.Names hr0_0 hc0_0).param (ci .i16) Aa0_1 ca0_1 a0.Eats hr0_1 hc0_1).param (ci .u16) Aa0_2 ca0_2 a0.Foes hr0_2 hc0_2).paramP pa0 (hv Aa0_0 Aa0_1 Aa0_2 ca0_0 ca0_1 ca0_2 a0) hp0)
 unfold spec_l06Are.f at H
 refine CV.body Tryz.func107 Z Tryz.ntmps107 Z ?_
 refine GO ?_
 refine oS (SL (CA.sub (hS.ca (i := 3) Z) 2)) ?_
 refine xI H (rA hS 2 Z) fun t1 ad1 ht1 H => ?_
 obtain ⟨u2, hu2, H⟩ := pbind H
 refine OJ.st Z Z Z (SR.shr Z Z Z (chk_some hu2)) ?_
 refine OJ.st rfl rfl rfl (SR.rem rfl rfl rfl (by decide)) ?_
 exact FE H hS

def spec_l06Ok.l2 (a0 : Herd) (y2 : Int) : Nat → Int → Option (((Bool ⊕ Unit) ⊕ Unit) ⊕ Unit)
  | 0, _ => none
  | k + 1, y11 => if y11 < y2 then ((getI a0.Names y11).bind fun t12 => (getI a0.Names y2).bind fun t13 => if t12 = t13 then (some (Sum.inl (Sum.inl (Sum.inl false)))) else ((spec_l06Are.f a0 y2 y11).bind fun t14 => (spec_l06Are.f a0 y11 y2).bind fun t15 => if t14 ≠ t15 then (some (Sum.inl (Sum.inl (Sum.inl false)))) else (spec_l06Ok.l2 a0 y2 k (IntKind.i64.wrap (y11 + 1))))) else (some (Sum.inr ()))
def spec_l06Ok.l1 (a0 : Herd) : Nat → Int → Option (Bool ⊕ Unit)
  | 0, _ => none
  | k + 1, y2 => if y2 < (a0.Names.length : Int) then ((((getI a0.Names y2).bind fun t4 => (spec_l06Name.f k t4).bind fun t5 => if (!t5) = true then (some true) else ((getI a0.Eats y2).bind fun t6 => (spec_l00In.f (IntKind.i64.wrap t6) 0 100).bind fun t7 => if (!t7) = true then (some true) else ((getI a0.Foes y2).bind fun t8 => (chk (0 ≤ (IntKind.u64.wrap (a0.Names.length : Int)))).bind fun u9 => if (shrI .u16 t8 (IntKind.u64.wrap (a0.Names.length : Int))) ≠ 0 then (some true) else ((spec_l06Are.f a0 y2 y2).bind fun t10 => some t10)))).bind fun y3 => if y3 = true then (some (Sum.inl (Sum.inl false))) else ((spec_l06Ok.l2 a0 y2 k 0).bind fun s116 => match s116 with | .inl r => some r | .inr _ => some (Sum.inr ()))).bind fun s112 => match s112 with | .inl r => some r | .inr _ => spec_l06Ok.l1 a0 k (IntKind.i64.wrap (y2 + 1))) else (some (Sum.inr ()))
def spec_l06Ok.f (k : Nat) (a0 : Herd) : Option Bool := (if 14 < (a0.Names.length : Int) then (some true) else (if (a0.Eats.length : Int) ≠ (a0.Names.length : Int) then (some true) else (some (decide ((a0.Foes.length : Int) ≠ (a0.Names.length : Int)))))).bind fun y1 => if y1 = true then (some false) else ((spec_l06Ok.l1 a0 k 0).bind fun s100 => match s100 with | .inl r => some r | .inr _ => some true)
theorem spec_l06Ok.c {k w Aa0_0 ca0_0 Aa0_1 ca0_1 Aa0_2 ca0_2} (a0 : Herd) (hr0_0 : Rd G.cs w Aa0_0 a0.Names) (hc0_0 : a0.Names.length ≤ ca0_0) (hr0_1 : Rd (ci .i16) w Aa0_1 a0.Eats) (hc0_1 : a0.Eats.length ≤ ca0_1) (hr0_2 : Rd (ci .u16) w Aa0_2 a0.Foes) (hc0_2 : a0.Foes.length ≤ ca0_2) (pa0 : Addr) (hp0 : CA w pa0 (hv Aa0_0 Aa0_1 Aa0_2 ca0_0 ca0_1 ca0_2 a0)) (r : Bool) (H : spec_l06Ok.f k a0 = some r) :
 CV Tryz.prog 47 [.pointer (some pa0)].toArray w fun v w' => v = .bool r ∧ Ext w w' := by
 have hS := (((((St.init w no).param G.cs Aa0_0 ca0_0 a0.Names hr0_0 hc0_0).param (ci .i16) Aa0_1 ca0_1 a0.Eats hr0_1 hc0_1).param (ci .u16) Aa0_2 ca0_2 a0.Foes hr0_2 hc0_2).paramP pa0 (hv Aa0_0 Aa0_1 Aa0_2 ca0_0 ca0_1 ca0_2 a0) hp0)
 unfold spec_l06Ok.f at H
 refine CV.body Tryz.func47 Z Tryz.ntmps47 Z ?_
 refine GO ?_
 refine OS (SL (CA.sub (hS.ca (i := 3) Z) 0)) ?_
 refine PX 2 ?_
 refine CJ.seq ?_
 obtain ⟨j99, H, K99⟩ := pbind H
 refine CJ.cut (fun F w1 => ∃ y1, some y1 = some j99 ∧ F = [(0, .pointer (some pa0)), (3, i6 (a0.Names.length : Int)), (30, .bool y1)] ∧ St w no w1 [] [roC G.cs Aa0_0 ca0_0 a0.Names, roC (ci .i16) Aa0_1 ca0_1 a0.Eats, roC (ci .u16) Aa0_2 ca0_2 a0.Foes, roP pa0 (hv Aa0_0 Aa0_1 Aa0_2 ca0_0 ca0_1 ca0_2 a0)]) ?_ ?_
 refine GO ?_
 refine OJ.split (t := 13) Z (fun hb => ?_) (fun hb => ?_)
 replace H := pif_t (of_decide_eq_true hb) H
 exact MD H hS
 replace H := pif_f (of_decide_eq_false hb) H
 refine GO ?_
 refine oS (SL (CA.sub (hS.ca (i := 3) Z) 1)) ?_
 refine OJ.split (t := 22) Z (fun hb => ?_) (fun hb => ?_)
 replace H := pif_t (of_decide_eq_true hb) H
 exact MD H hS
 replace H := pif_f (of_decide_eq_false hb) H
 refine GO ?_
 refine OS (SL (CA.sub (hS.ca (i := 3) Z) 2)) ?_
 exact MD H hS
 rintro F w1 ⟨y1, he, rfl, hS⟩
 obtain rfl := Option.some.inj he
 have H := K99
 refine CB H (fun H => ?_) (fun H => ?_)
 exact FE H hS
 refine GO ?_
 obtain ⟨j100, H, K100⟩ := pbind H
 refine CJ.cut1 (fun F w1 => some j100 = some (Sum.inr ()) ∧ F = [] ∧ St w no w1 [] [roC G.cs Aa0_0 ca0_0 a0.Names, roC (ci .i16) Aa0_1 ca0_1 a0.Eats, roC (ci .u16) Aa0_2 ca0_2 a0.Foes, roP pa0 (hv Aa0_0 Aa0_1 Aa0_2 ca0_0 ca0_1 ca0_2 a0)]) ?_ ?_
 refine CJ.block ?_
 refine LQ (fun k F w1 => ∃ (y2 : Int), F = [(0, .pointer (some pa0)), (3, i6 (a0.Names.length : Int)), (4, i6 y2)] ∧ St w no w1 [] [roC G.cs Aa0_0 ca0_0 a0.Names, roC (ci .i16) Aa0_1 ca0_1 a0.Eats, roC (ci .u16) Aa0_2 ca0_2 a0.Foes, roP pa0 (hv Aa0_0 Aa0_1 Aa0_2 ca0_0 ca0_1 ca0_2 a0)] ∧ spec_l06Ok.l1 a0 k y2 = some j100) k H hS ?_
 rintro k F w1 ⟨y2, rfl, hS, H⟩
 rw [spec_l06Ok.l1] at H
 refine GO ?_
 refine CP H (fun H => ?_) (fun H => ?_)
 refine CJ.skip (EJ.next ?_)
 obtain ⟨j112, H, K112⟩ := pbind H
 refine CJ.cut (fun F w1 => some j112 = some (Sum.inr ()) ∧ F = [(0, .pointer (some pa0)), (3, i6 (a0.Names.length : Int)), (4, i6 y2)] ∧ St w no w1 [] [roC G.cs Aa0_0 ca0_0 a0.Names, roC (ci .i16) Aa0_1 ca0_1 a0.Eats, roC (ci .u16) Aa0_2 ca0_2 a0.Foes, roP pa0 (hv Aa0_0 Aa0_1 Aa0_2 ca0_0 ca0_1 ca0_2 a0)]) ?_ ?_
 refine CJ.block ?_
 refine CJ.seq ?_
 obtain ⟨j115, H, K115⟩ := pbind H
 refine CJ.cut (fun F w1 => ∃ y3, some y3 = some j115 ∧ F = [(0, .pointer (some pa0)), (3, i6 (a0.Names.length : Int)), (4, i6 y2), (75, .bool y3)] ∧ St w no w1 [] [roC G.cs Aa0_0 ca0_0 a0.Names, roC (ci .i16) Aa0_1 ca0_1 a0.Eats, roC (ci .u16) Aa0_2 ca0_2 a0.Foes, roP pa0 (hv Aa0_0 Aa0_1 Aa0_2 ca0_0 ca0_1 ca0_2 a0)]) ?_ ?_
 refine GO ?_
 refine oS (SL (CA.sub (hS.ca (i := 3) Z) 0)) ?_
 refine xI H (rA hS 0 Z) fun t4 ad4 ht4 H => ?_
 refine oB H hS hb106 (spec_l06Name.c) fun t5 w1 H hS => ?_
 refine OJ.split (t := 45) Z (fun hb => ?_) (fun hb => ?_)
 replace H := pif_t hb H
 exact MD H hS
 replace H := pifb_f hb H
 refine GO ?_
 refine oS (SL (CA.sub (hS.ca (i := 3) Z) 1)) ?_
 refine xI H (rA hS 1 Z) fun t6 ad6 ht6 H => ?_
 refine oB H hS hb75 (spec_l00In.c) fun t7 w1 H hS => ?_
 refine OJ.split (t := 57) Z (fun hb => ?_) (fun hb => ?_)
 replace H := pif_t hb H
 exact MD H hS
 replace H := pifb_f hb H
 refine GO ?_
 refine oS (SL (CA.sub (hS.ca (i := 3) Z) 2)) ?_
 refine xI H (rA hS 2 Z) fun t8 ad8 ht8 H => ?_
 obtain ⟨u9, hu9, H⟩ := pbind H
 refine OJ.st Z Z Z (SR.shr Z Z Z (chk_some hu9)) ?_
 refine GO ?_
 refine OJ.split (t := 70) Z (fun hb => ?_) (fun hb => ?_)
 replace H := pif_t (of_decide_eq_true hb) H
 exact MD H hS
 replace H := pif_f (of_decide_eq_false hb) H
 refine GO ?_
 refine OB H hS hb107 (spec_l06Are.c a0 (rA hS 0 Z) (rB hS 0 Z) (rA hS 1 Z) (rB hS 1 Z) (rA hS 2 Z) (rB hS 2 Z) pa0 (hS.ca (i := 3) Z)) fun t10 w1 H hS => ?_
 exact MD H hS
 rintro F w1 ⟨y3, he, rfl, hS⟩
 obtain rfl := Option.some.inj he
 have H := K115
 refine CB H (fun H => GO ?_) (fun H => ?_)
 obtain rfl := Option.some.inj H; have H := K112
 obtain rfl := Option.some.inj H; have H := K100
 exact FE H hS
 refine GO ?_
 obtain ⟨j116, H, K116⟩ := pbind H
 refine CJ.cut1 (fun F w1 => some j116 = some (Sum.inr ()) ∧ F = [(0, .pointer (some pa0)), (3, i6 (a0.Names.length : Int)), (4, i6 y2)] ∧ St w no w1 [] [roC G.cs Aa0_0 ca0_0 a0.Names, roC (ci .i16) Aa0_1 ca0_1 a0.Eats, roC (ci .u16) Aa0_2 ca0_2 a0.Foes, roP pa0 (hv Aa0_0 Aa0_1 Aa0_2 ca0_0 ca0_1 ca0_2 a0)]) ?_ ?_
 refine CJ.block ?_
 refine LQ (fun k F w1 => ∃ (y11 : Int), F = [(0, .pointer (some pa0)), (3, i6 (a0.Names.length : Int)), (4, i6 y2), (5, i6 y11)] ∧ St w no w1 [] [roC G.cs Aa0_0 ca0_0 a0.Names, roC (ci .i16) Aa0_1 ca0_1 a0.Eats, roC (ci .u16) Aa0_2 ca0_2 a0.Foes, roP pa0 (hv Aa0_0 Aa0_1 Aa0_2 ca0_0 ca0_1 ca0_2 a0)] ∧ spec_l06Ok.l2 a0 y2 k y11 = some j116) k H hS ?_
 rintro k F w1 ⟨y11, rfl, hS, H⟩
 rw [spec_l06Ok.l2] at H
 refine GO ?_
 refine CP H (fun H => GO ?_) (fun H => ?_)
 refine CJ.block ?_
 refine GO ?_
 refine CJ.draw [] [0, 1, 2, 3, 4, 5, 6, 7, 8, 9, 10, 11, 12, 13, 14, 15, 16, 17, 18, 20, 21, 22, 19, 23, 24, 25] mixed (by kernel_rfl) hS fun w1 hS => ?_
 refine GO ?_
 refine dS (SL (CA.sub (hS.ca (i := 3) Z) 0)) ?_
 refine xD H (rA hS 0 Z) fun t12 ad12 ht12 H => ?_
 refine dS (SL (CA.sub (hS.ca (i := 3) Z) 0)) ?_
 refine xD H (rA hS 0 Z) fun t13 ad13 ht13 H => ?_
 refine DJ.split (t := 96) Z (fun hb => ?_) (fun hb => ?_)
 replace H := pif_t (of_decide_eq_true hb) H
 refine GO ?_
 refine CJ.condT Z ?_
 refine GO ?_
 obtain rfl := Option.some.inj H; have H := K116
 obtain rfl := Option.some.inj H; have H := K112
 obtain rfl := Option.some.inj H; have H := K100
 exact FE H hS
 replace H := pif_f (of_decide_eq_false hb) H
 refine GO ?_
 obtain ⟨t14, ht14, H⟩ := pbind H
 refine DJ.callF rfl rfl rfl rfl rfl rfl rfl hb107 rfl (spec_l06Are.c a0 (rA hS 0 Z) (rB hS 0 Z) (rA hS 1 Z) (rB hS 1 Z) (rA hS 2 Z) (rB hS 2 Z) pa0 (hS.ca (i := 3) rfl) _ ht14) (by rintro v w' ⟨rfl, hs⟩; exact hs) ?_
 rintro _ w1 ⟨rfl, hs⟩
 replace hS := hS.grow hs
 obtain ⟨t15, ht15, H⟩ := pbind H
 refine DJ.callF rfl rfl rfl rfl rfl rfl rfl hb107 rfl (spec_l06Are.c a0 (rA hS 0 Z) (rB hS 0 Z) (rA hS 1 Z) (rB hS 1 Z) (rA hS 2 Z) (rB hS 2 Z) pa0 (hS.ca (i := 3) rfl) _ ht15) (by rintro v w' ⟨rfl, hs⟩; exact hs) ?_
 rintro _ w1 ⟨rfl, hs⟩
 replace hS := hS.grow hs
 refine DJ.st Z Z Z Z Z (SR.neB oU Z Z Z Z) ?_
 refine GO ?_
 refine CP H (fun H => GO ?_) (fun H => ?_)
 obtain rfl := Option.some.inj H; have H := K116
 obtain rfl := Option.some.inj H; have H := K112
 obtain rfl := Option.some.inj H; have H := K100
 exact FE H hS
 exact MD H hS
 exact MD H hS
 rintro F w1 ⟨⟨⟩, rfl, hS⟩
 have H := K116
 refine EJ.blk (?_)
 exact MD H hS
 rintro F w1 ⟨⟨⟩, rfl, hS⟩
 have H := K112
 exact MD H hS
 exact MD H hS
 rintro F w1 ⟨⟨⟩, rfl, hS⟩
 have H := K100
 refine EJ.next ?_
 exact FE H hS

def spec_PeaceGroups.l3 (a0 : Herd) : Nat → Int → Int → Option Int
  | 0, _, _ => none
  | k + 1, y27, y28 => if y28 < (a0.Names.length : Int) then ((chk (0 ≤ (IntKind.u64.wrap y28))).bind fun u29 => if (Int.tmod (shrI .u16 y27 (IntKind.u64.wrap y28)) 2) = 1 then ((getI a0.Foes y28).bind fun t30 => spec_PeaceGroups.l3 a0 k (orI .u16 y27 t30) (IntKind.i64.wrap (y28 + 1))) else (spec_PeaceGroups.l3 a0 k y27 (IntKind.i64.wrap (y28 + 1)))) else (some y27)
def spec_PeaceGroups.l2 (a0 : Herd) : Nat → Int → Int → Option Int
  | 0, _, _ => none
  | k + 1, y23, y24 => if y24 < (a0.Names.length : Int) then (((spec_PeaceGroups.l3 a0 k y23 0).bind fun y26 => some y26).bind fun y25 => spec_PeaceGroups.l2 a0 k y25 (IntKind.i64.wrap (y24 + 1))) else (some y23)
def spec_PeaceGroups.l4 (a0 : Herd) (y22 : Int) : Nat → (List Int) → Int → Option (List Int)
  | 0, _, _ => none
  | k + 1, y35, y38 => if y38 < (a0.Names.length : Int) then ((chk (0 ≤ (IntKind.u64.wrap y38))).bind fun u39 => if (Int.tmod (shrI .u16 y22 (IntKind.u64.wrap y38)) 2) = 1 then ((chk (y35.length + ([y38] : List Int).length ≤ 4294967296)).bind fun u41 => spec_PeaceGroups.l4 a0 y22 k (y35 ++ ([y38] : List Int)) (IntKind.i64.wrap (y38 + 1))) else (spec_PeaceGroups.l4 a0 y22 k y35 (IntKind.i64.wrap (y38 + 1)))) else (some y35)
def spec_PeaceGroups.l1 (a0 : Herd) : Nat → (List (List Int)) → Int → Int → Option (List (List Int))
  | 0, _, _, _ => none
  | k + 1, y9, y13, y14 => if y14 < (a0.Names.length : Int) then (((chk (0 ≤ (IntKind.u64.wrap y14))).bind fun u20 => if (Int.tmod (shrI .u16 y13 (IntKind.u64.wrap y14)) 2) = 1 then (some (y9, y13)) else ((chk (0 ≤ (IntKind.u64.wrap y14))).bind fun u21 => (spec_PeaceGroups.l2 a0 k (shlI .u16 1 (IntKind.u64.wrap y14)) 0).bind fun y22 => (spec_PeaceGroups.l4 a0 y22 k ([] : List Int) 0).bind fun y32 => (chk (y9.length + [y32].length ≤ 4294967296)).bind fun u45 => some (y9 ++ [y32], orI .u16 y13 y22))).bind fun (y15, y19) => spec_PeaceGroups.l1 a0 k y15 y19 (IntKind.i64.wrap (y14 + 1))) else (some y9)
def spec_PeaceGroups.f (k : Nat) (a0 : Herd) : Option (List (List Int) × Int) := (spec_l06Ok.f k a0).bind fun t2 => if (!t2) = true then (some (([] : List (List Int)), 1)) else ((spec_PeaceGroups.l1 a0 k ([] : List (List Int)) 0 0).bind fun y5 => some (y5, 0))
theorem spec_PeaceGroups.c {k w Aa0_0 ca0_0 Aa0_1 ca0_1 Aa0_2 ca0_2} (a0 : Herd) (hr0_0 : Rd G.cs w Aa0_0 a0.Names) (hc0_0 : a0.Names.length ≤ ca0_0) (hr0_1 : Rd (ci .i16) w Aa0_1 a0.Eats) (hc0_1 : a0.Eats.length ≤ ca0_1) (hr0_2 : Rd (ci .u16) w Aa0_2 a0.Foes) (hc0_2 : a0.Foes.length ≤ ca0_2) (r : List (List Int) × Int) (H : spec_PeaceGroups.f k a0 = some r) :
 CV Tryz.prog 10 [.agg (hv Aa0_0 Aa0_1 Aa0_2 ca0_0 ca0_1 ca0_2 a0).toArray].toArray w fun v w' => ∃ (A0 : Option Addr) (c0 : Nat) (D0 : List SH), v = .tuple #[sl A0 r.1 c0, i6 r.2] ∧ St w no w' [rowsC (ci .i64) A0 c0 40 2 D0 r.1] [] := by
 have hS := ((((St.init w no).param G.cs Aa0_0 ca0_0 a0.Names hr0_0 hc0_0).param (ci .i16) Aa0_1 ca0_1 a0.Eats hr0_1 hc0_1).param (ci .u16) Aa0_2 ca0_2 a0.Foes hr0_2 hc0_2)
 unfold spec_PeaceGroups.f at H
 refine CV.body Tryz.func10 Z Tryz.ntmps10 Z ?_
 refine GO ?_
 refine oX hS (hv Aa0_0 Aa0_1 Aa0_2 ca0_0 ca0_1 ca0_2 a0) fun b1 w1 hS => ?_
 refine oB H hS hb47 (spec_l06Ok.c a0 (rA hS 0 Z) (rB hS 0 Z) (rA hS 1 Z) (rB hS 1 Z) (rA hS 2 Z) (rB hS 2 Z) ⟨b1, 0, none⟩ (hS.cells (i := 0) Z)) fun t2 w1 H hS => ?_
 refine CB H (fun H => GO ?_) (fun H => ?_)
 refine OJ.ef Z Z Z (Ef.litS0 (e := 2) oU oI hS Z Z Z Z (ci .i64)) ?_
 rintro _ w1 ⟨A3, rfl, hS⟩
 refine GO ?_
 obtain rfl := Option.some.inj H
 exact EJ.fin Z (.tmp Z (.tmp Z .nil)) ⟨A3, (([] : List (List Int)).length), [], Z, hS.pick [1] [] Z⟩
 refine GO ?_
 refine OJ.ef Z Z Z (Ef.litS0 (e := 2) oU oI hS Z Z Z Z (ci .i64)) ?_
 rintro _ w1 ⟨A4, rfl, hS⟩
 refine GO ?_
 obtain ⟨j117, H, K117⟩ := pbind H
 refine CJ.cut1 (fun F w1 => ∃ y5 A6 c7 D8, some y5 = some j117 ∧ F = [(4, sl A6 y5 c7)] ∧ St w no w1 [rowsC (ci .i64) A6 c7 40 2 D8 y5] [roC G.cs Aa0_0 ca0_0 a0.Names, roC (ci .i16) Aa0_1 ca0_1 a0.Eats, roC (ci .u16) Aa0_2 ca0_2 a0.Foes]) ?_ ?_
 refine CJ.block ?_
 refine LQ (fun k F w1 => ∃ (y9 : List (List Int)) (y13 : Int) (y14 : Int) (A10 c11 D12 : _), F = [(1, pt b1), (4, sl A10 y9 c11), (5, .int .u16 y13), (6, i6 y14)] ∧ St w no w1 [box b1 (hv Aa0_0 Aa0_1 Aa0_2 ca0_0 ca0_1 ca0_2 a0) 28, rowsC (ci .i64) A10 c11 40 2 D12 y9] [roC G.cs Aa0_0 ca0_0 a0.Names, roC (ci .i16) Aa0_1 ca0_1 a0.Eats, roC (ci .u16) Aa0_2 ca0_2 a0.Foes] ∧ spec_PeaceGroups.l1 a0 k y9 y13 y14 = some j117) k H hS ?_
 rintro k F w1 ⟨y9, y13, y14, A10, c11, D12, rfl, hS, H⟩
 rw [spec_PeaceGroups.l1] at H
 refine GO ?_
 refine oS (SL (cf hS 0 0)) ?_
 refine CP H (fun H => ?_) (fun H => ?_)
 refine CJ.skip (EJ.next ?_)
 obtain ⟨j164, H, K164⟩ := pbind H
 refine CJ.cut (fun F w1 => ∃ y15 y19 A16 c17 D18, some j164 = some (y15, y19) ∧ F = [(1, pt b1), (4, sl A16 y15 c17), (5, .int .u16 y19), (6, i6 y14)] ∧ St w no w1 [box b1 (hv Aa0_0 Aa0_1 Aa0_2 ca0_0 ca0_1 ca0_2 a0) 28, rowsC (ci .i64) A16 c17 40 2 D18 y15] [roC G.cs Aa0_0 ca0_0 a0.Names, roC (ci .i16) Aa0_1 ca0_1 a0.Eats, roC (ci .u16) Aa0_2 ca0_2 a0.Foes]) ?_ ?_
 refine CJ.block ?_
 refine GO ?_
 obtain ⟨u20, hu20, H⟩ := pbind H
 refine OJ.st Z Z Z (SR.shr Z Z Z (chk_some hu20)) ?_
 refine OJ.st rfl rfl rfl (SR.rem rfl rfl rfl (by decide)) ?_
 refine GO ?_
 refine CP H (fun H => ?_) (fun H => ?_)
 exact MD H hS
 refine GO ?_
 obtain ⟨u21, hu21, H⟩ := pbind H
 refine OJ.st Z Z Z (SR.shl Z Z Z (chk_some hu21)) ?_
 refine GO ?_
 obtain ⟨j176, H, K176⟩ := pbind H
 refine CJ.cut1 (fun F w1 => ∃ y22, some y22 = some j176 ∧ F = [(1, pt b1), (4, sl A10 y9 c11), (5, .int .u16 y13), (6, i6 y14), (7, .int .u16 y22)] ∧ St w no w1 [box b1 (hv Aa0_0 Aa0_1 Aa0_2 ca0_0 ca0_1 ca0_2 a0) 28, rowsC (ci .i64) A10 c11 40 2 D12 y9] [roC G.cs Aa0_0 ca0_0 a0.Names, roC (ci .i16) Aa0_1 ca0_1 a0.Eats, roC (ci .u16) Aa0_2 ca0_2 a0.Foes]) ?_ ?_
 refine CJ.block ?_
 refine LQ (fun k F w1 => ∃ (y23 : Int) (y24 : Int), F = [(1, pt b1), (4, sl A10 y9 c11), (5, .int .u16 y13), (6, i6 y14), (7, .int .u16 y23), (8, i6 y24)] ∧ St w no w1 [box b1 (hv Aa0_0 Aa0_1 Aa0_2 ca0_0 ca0_1 ca0_2 a0) 28, rowsC (ci .i64) A10 c11 40 2 D12 y9] [roC G.cs Aa0_0 ca0_0 a0.Names, roC (ci .i16) Aa0_1 ca0_1 a0.Eats, roC (ci .u16) Aa0_2 ca0_2 a0.Foes] ∧ spec_PeaceGroups.l2 a0 k y23 y24 = some j176) k H hS ?_
 rintro k F w1 ⟨y23, y24, rfl, hS, H⟩
 rw [spec_PeaceGroups.l2] at H
 refine GO ?_
 refine oS (SL (cf hS 0 0)) ?_
 refine CP H (fun H => ?_) (fun H => ?_)
 refine CJ.skip (EJ.next ?_)
 obtain ⟨j183, H, K183⟩ := pbind H
 refine CJ.cut (fun F w1 => ∃ y25, some y25 = some j183 ∧ F = [(1, pt b1), (4, sl A10 y9 c11), (5, .int .u16 y13), (6, i6 y14), (7, .int .u16 y25), (8, i6 y24)] ∧ St w no w1 [box b1 (hv Aa0_0 Aa0_1 Aa0_2 ca0_0 ca0_1 ca0_2 a0) 28, rowsC (ci .i64) A10 c11 40 2 D12 y9] [roC G.cs Aa0_0 ca0_0 a0.Names, roC (ci .i16) Aa0_1 ca0_1 a0.Eats, roC (ci .u16) Aa0_2 ca0_2 a0.Foes]) ?_ ?_
 refine CJ.block ?_
 refine GO ?_
 obtain ⟨j185, H, K185⟩ := pbind H
 refine CJ.cut1 (fun F w1 => ∃ y26, some y26 = some j185 ∧ F = [(1, pt b1), (4, sl A10 y9 c11), (5, .int .u16 y13), (6, i6 y14), (7, .int .u16 y26), (8, i6 y24)] ∧ St w no w1 [box b1 (hv Aa0_0 Aa0_1 Aa0_2 ca0_0 ca0_1 ca0_2 a0) 28, rowsC (ci .i64) A10 c11 40 2 D12 y9] [roC G.cs Aa0_0 ca0_0 a0.Names, roC (ci .i16) Aa0_1 ca0_1 a0.Eats, roC (ci .u16) Aa0_2 ca0_2 a0.Foes]) ?_ ?_
 refine CJ.block ?_
 refine LQ (fun k F w1 => ∃ (y27 : Int) (y28 : Int), F = [(1, pt b1), (4, sl A10 y9 c11), (5, .int .u16 y13), (6, i6 y14), (7, .int .u16 y27), (8, i6 y24), (9, i6 y28)] ∧ St w no w1 [box b1 (hv Aa0_0 Aa0_1 Aa0_2 ca0_0 ca0_1 ca0_2 a0) 28, rowsC (ci .i64) A10 c11 40 2 D12 y9] [roC G.cs Aa0_0 ca0_0 a0.Names, roC (ci .i16) Aa0_1 ca0_1 a0.Eats, roC (ci .u16) Aa0_2 ca0_2 a0.Foes] ∧ spec_PeaceGroups.l3 a0 k y27 y28 = some j185) k H hS ?_
 rintro k F w1 ⟨y27, y28, rfl, hS, H⟩
 rw [spec_PeaceGroups.l3] at H
 refine GO ?_
 refine oS (SL (cf hS 0 0)) ?_
 refine CP H (fun H => GO ?_) (fun H => ?_)
 refine CJ.block ?_
 refine GO ?_
 obtain ⟨u29, hu29, H⟩ := pbind H
 refine OJ.st Z Z Z (SR.shr Z Z Z (chk_some hu29)) ?_
 refine OJ.st rfl rfl rfl (SR.rem rfl rfl rfl (by decide)) ?_
 refine GO ?_
 refine CP H (fun H => GO ?_) (fun H => ?_)
 refine oS (SL (cf hS 0 2)) ?_
 obtain ⟨t30, ht30, H⟩ := pbind H
 obtain ⟨ad30, e30⟩ := (rA hS 2 Z).some' ht30
 refine OS (SI e30 (getI_some ht30).1) ?_
 refine OS (SL ((rA hS 2 Z).at_ e30 ht30)) ?_
 exact MD H hS
 exact MD H hS
 exact MD H hS
 rintro F w1 ⟨y26, he, rfl, hS⟩
 obtain rfl := Option.some.inj he
 have H := K185
 refine EJ.blk (?_)
 exact MD H hS
 rintro F w1 ⟨y25, he, rfl, hS⟩
 obtain rfl := Option.some.inj he
 have H := K183
 exact MD H hS
 exact MD H hS
 rintro F w1 ⟨y22, he, rfl, hS⟩
 obtain rfl := Option.some.inj he
 have H := K176
 refine EJ.next ?_
 refine GO ?_
 refine OF (EL hS (ci .i64) ([] : List Int)) ?_
 rintro _ w1 ⟨A31, rfl, hS⟩
 refine GO ?_
 obtain ⟨j186, H, K186⟩ := pbind H
 refine CJ.cut1 (fun F w1 => ∃ y32 A33 c34, some y32 = some j186 ∧ F = [(1, pt b1), (4, sl A10 y9 c11), (5, .int .u16 y13), (6, i6 y14), (7, .int .u16 y22), (10, sl A33 y32 c34)] ∧ St w no w1 [box b1 (hv Aa0_0 Aa0_1 Aa0_2 ca0_0 ca0_1 ca0_2 a0) 28, rowsC (ci .i64) A10 c11 40 2 D12 y9, rowC (ci .i64) A33 c34 2 y32] [roC G.cs Aa0_0 ca0_0 a0.Names, roC (ci .i16) Aa0_1 ca0_1 a0.Eats, roC (ci .u16) Aa0_2 ca0_2 a0.Foes]) ?_ ?_
 refine CJ.block ?_
 refine LQ (fun k F w1 => ∃ (y35 : List Int) (y38 : Int) (A36 c37 : _), F = [(1, pt b1), (4, sl A10 y9 c11), (5, .int .u16 y13), (6, i6 y14), (7, .int .u16 y22), (10, sl A36 y35 c37), (11, i6 y38)] ∧ St w no w1 [box b1 (hv Aa0_0 Aa0_1 Aa0_2 ca0_0 ca0_1 ca0_2 a0) 28, rowsC (ci .i64) A10 c11 40 2 D12 y9, rowC (ci .i64) A36 c37 2 y35] [roC G.cs Aa0_0 ca0_0 a0.Names, roC (ci .i16) Aa0_1 ca0_1 a0.Eats, roC (ci .u16) Aa0_2 ca0_2 a0.Foes] ∧ spec_PeaceGroups.l4 a0 y22 k y35 y38 = some j186) k H hS ?_
 rintro k F w1 ⟨y35, y38, A36, c37, rfl, hS, H⟩
 rw [spec_PeaceGroups.l4] at H
 refine GO ?_
 refine oS (SL (cf hS 0 0)) ?_
 refine CP H (fun H => GO ?_) (fun H => ?_)
 refine CJ.block ?_
 refine GO ?_
 obtain ⟨u39, hu39, H⟩ := pbind H
 refine OJ.st Z Z Z (SR.shr Z Z Z (chk_some hu39)) ?_
 refine OJ.st rfl rfl rfl (SR.rem rfl rfl rfl (by decide)) ?_
 refine GO ?_
 refine CP H (fun H => GO ?_) (fun H => ?_)
 refine OF (EL hS (ci .i64) ([y38] : List Int)) ?_
 rintro _ w1 ⟨A40, rfl, hS⟩
 obtain ⟨u41, hu41, H⟩ := pbind H
 refine OW (AP hS 2 (rC hS 3 Z) (chk_some hu41)) ?_
 rintro _ w1 ⟨A42, c43, rfl, hS⟩
 exact MD H hS
 exact MD H hS
 exact MD H hS
 rintro F w1 ⟨y32, A33, c34, he, rfl, hS⟩
 obtain rfl := Option.some.inj he
 have H := K186
 refine EJ.next ?_
 refine GO ?_
 refine OJ.ef Z Z Z (Ef.litS1 (C := (ci .i64)) oU oI hS (k := 2) Z Z Z Z Z Z) ?_
 rintro _ w1 ⟨A44, rfl, hS⟩
 obtain ⟨u45, hu45, H⟩ := pbind H
 have hdl := (hS.rowsRo (i := 1) rfl).1
 have dd48 := subD (D := D12) hdl (show ([(A33, c34)] : List SH)[0]? = _ from rfl)
 have xd48 := subD (D := y9) rfl (show ([y32] : List (List Int))[0]? = _ from rfl)
 refine OJ.ew Z Z Z (Ew.appendS oU oI hS (i := 1) (j := 3) Z Z Z Z Z Z Z Z Z Z Z Z Z Z (chk_some hu45)) ?_
 rintro _ w1 ⟨A46, c47, rfl, hS⟩
 exact MD H hS
 rintro F w1 ⟨y15, y19, A16, c17, D18, ⟨⟩, rfl, hS⟩
 have H := K164
 exact MD H hS
 exact MD H hS
 rintro F w1 ⟨y5, A6, c7, D8, ⟨⟩, rfl, hS⟩
 have H := K117
 refine EJ.next ?_
 refine GO ?_
 obtain rfl := Option.some.inj H
 exact EJ.fin Z (.tmp Z (.tmp Z .nil)) ⟨A6, c7, D8, Z, hS.pick [0] [] Z⟩

def spec_SameHerd.l1 (a0 : Herd) (a1 : Herd) : Nat → Int → Option (Bool ⊕ Unit)
  | 0, _ => none
  | k + 1, y4 => if y4 < (a0.Names.length : Int) then ((getI a0.Names y4).bind fun t5 => (getI a1.Names y4).bind fun t6 => if t5 ≠ t6 then (some (Sum.inl false)) else (spec_SameHerd.l1 a0 a1 k (IntKind.i64.wrap (y4 + 1)))) else (some (Sum.inr ()))
def spec_SameHerd.l2 (a0 : Herd) (a1 : Herd) : Nat → Int → Option (Bool ⊕ Unit)
  | 0, _ => none
  | k + 1, y7 => if y7 < (a0.Eats.length : Int) then ((getI a0.Eats y7).bind fun t8 => (getI a1.Eats y7).bind fun t9 => if t8 ≠ t9 then (some (Sum.inl false)) else (spec_SameHerd.l2 a0 a1 k (IntKind.i64.wrap (y7 + 1)))) else (some (Sum.inr ()))
def spec_SameHerd.l3 (a0 : Herd) (a1 : Herd) : Nat → Int → Option (Bool ⊕ Unit)
  | 0, _ => none
  | k + 1, y10 => if y10 < (a0.Foes.length : Int) then ((getI a0.Foes y10).bind fun t11 => (getI a1.Foes y10).bind fun t12 => if t11 ≠ t12 then (some (Sum.inl false)) else (spec_SameHerd.l3 a0 a1 k (IntKind.i64.wrap (y10 + 1)))) else (some (Sum.inr ()))
def spec_SameHerd.f (k : Nat) (a0 : Herd) (a1 : Herd) : Option Bool := (if (a0.Names.length : Int) ≠ (a1.Names.length : Int) then (some true) else (if (a0.Eats.length : Int) ≠ (a1.Eats.length : Int) then (some true) else (some (decide ((a0.Foes.length : Int) ≠ (a1.Foes.length : Int)))))).bind fun y3 => if y3 = true then (some false) else ((spec_SameHerd.l1 a0 a1 k 0).bind fun s189 => match s189 with | .inl r => some r | .inr _ => (spec_SameHerd.l2 a0 a1 k 0).bind fun s190 => match s190 with | .inl r => some r | .inr _ => (spec_SameHerd.l3 a0 a1 k 0).bind fun s191 => match s191 with | .inl r => some r | .inr _ => some true)
theorem spec_SameHerd.c {k w Aa0_0 ca0_0 Aa0_1 ca0_1 Aa0_2 ca0_2} (a0 : Herd) (hr0_0 : Rd G.cs w Aa0_0 a0.Names) (hc0_0 : a0.Names.length ≤ ca0_0) (hr0_1 : Rd (ci .i16) w Aa0_1 a0.Eats) (hc0_1 : a0.Eats.length ≤ ca0_1) (hr0_2 : Rd (ci .u16) w Aa0_2 a0.Foes) (hc0_2 : a0.Foes.length ≤ ca0_2) {Aa1_0 ca1_0 Aa1_1 ca1_1 Aa1_2 ca1_2} (a1 : Herd) (hr1_0 : Rd G.cs w Aa1_0 a1.Names) (hc1_0 : a1.Names.length ≤ ca1_0) (hr1_1 : Rd (ci .i16) w Aa1_1 a1.Eats) (hc1_1 : a1.Eats.length ≤ ca1_1) (hr1_2 : Rd (ci .u16) w Aa1_2 a1.Foes) (hc1_2 : a1.Foes.length ≤ ca1_2) (r : Bool) (H : spec_SameHerd.f k a0 a1 = some r) :
 CV Tryz.prog 11 [.agg (hv Aa0_0 Aa0_1 Aa0_2 ca0_0 ca0_1 ca0_2 a0).toArray, .agg (hv Aa1_0 Aa1_1 Aa1_2 ca1_0 ca1_1 ca1_2 a1).toArray].toArray w fun v w' => v = .bool r ∧ Ext w w' := by
 have hS := (((((((St.init w no).param G.cs Aa0_0 ca0_0 a0.Names hr0_0 hc0_0).param (ci .i16) Aa0_1 ca0_1 a0.Eats hr0_1 hc0_1).param (ci .u16) Aa0_2 ca0_2 a0.Foes hr0_2 hc0_2).param G.cs Aa1_0 ca1_0 a1.Names hr1_0 hc1_0).param (ci .i16) Aa1_1 ca1_1 a1.Eats hr1_1 hc1_1).param (ci .u16) Aa1_2 ca1_2 a1.Foes hr1_2 hc1_2)
 unfold spec_SameHerd.f at H
 refine CV.body Tryz.func11 Z Tryz.ntmps11 Z ?_
 refine GO ?_
 refine OF (EB hS (hv Aa0_0 Aa0_1 Aa0_2 ca0_0 ca0_1 ca0_2 a0)) ?_
 rintro _ w1 ⟨b1, rfl, hS⟩
 refine OF (EB hS (hv Aa1_0 Aa1_1 Aa1_2 ca1_0 ca1_1 ca1_2 a1)) ?_
 rintro _ w1 ⟨b2, rfl, hS⟩
 refine PX 1 ?_
 refine CJ.seq ?_
 obtain ⟨j188, H, K188⟩ := pbind H
 refine CJ.cut (fun F w1 => ∃ y3, some y3 = some j188 ∧ F = [(2, pt b1), (3, pt b2), (32, .bool y3)] ∧ St w no w1 [box b1 (hv Aa0_0 Aa0_1 Aa0_2 ca0_0 ca0_1 ca0_2 a0) 28, box b2 (hv Aa1_0 Aa1_1 Aa1_2 ca1_0 ca1_1 ca1_2 a1) 28] [roC G.cs Aa0_0 ca0_0 a0.Names, roC (ci .i16) Aa0_1 ca0_1 a0.Eats, roC (ci .u16) Aa0_2 ca0_2 a0.Foes, roC G.cs Aa1_0 ca1_0 a1.Names, roC (ci .i16) Aa1_1 ca1_1 a1.Eats, roC (ci .u16) Aa1_2 ca1_2 a1.Foes]) ?_ ?_
 refine GO ?_
 refine oS (SL (cf hS 0 0)) ?_
 refine oS (SL (cf hS 1 0)) ?_
 refine OJ.split (t := 15) Z (fun hb => ?_) (fun hb => ?_)
 replace H := pif_t (of_decide_eq_true hb) H
 exact MD H hS
 replace H := pif_f (of_decide_eq_false hb) H
 refine GO ?_
 refine oS (SL (cf hS 0 1)) ?_
 refine oS (SL (cf hS 1 1)) ?_
 refine OJ.split (t := 24) Z (fun hb => ?_) (fun hb => ?_)
 replace H := pif_t (of_decide_eq_true hb) H
 exact MD H hS
 replace H := pif_f (of_decide_eq_false hb) H
 refine GO ?_
 refine oS (SL (cf hS 0 2)) ?_
 refine OS (SL (cf hS 1 2)) ?_
 exact MD H hS
 rintro F w1 ⟨y3, he, rfl, hS⟩
 obtain rfl := Option.some.inj he
 have H := K188
 refine CB H (fun H => ?_) (fun H => ?_)
 exact FE H hS
 refine GO ?_
 obtain ⟨j189, H, K189⟩ := pbind H
 refine CJ.cut1 (fun F w1 => some j189 = some (Sum.inr ()) ∧ F = [(2, pt b1), (3, pt b2)] ∧ St w no w1 [box b1 (hv Aa0_0 Aa0_1 Aa0_2 ca0_0 ca0_1 ca0_2 a0) 28, box b2 (hv Aa1_0 Aa1_1 Aa1_2 ca1_0 ca1_1 ca1_2 a1) 28] [roC G.cs Aa0_0 ca0_0 a0.Names, roC (ci .i16) Aa0_1 ca0_1 a0.Eats, roC (ci .u16) Aa0_2 ca0_2 a0.Foes, roC G.cs Aa1_0 ca1_0 a1.Names, roC (ci .i16) Aa1_1 ca1_1 a1.Eats, roC (ci .u16) Aa1_2 ca1_2 a1.Foes]) ?_ ?_
 refine CJ.block ?_
 refine LQ (fun k F w1 => ∃ (y4 : Int), F = [(2, pt b1), (3, pt b2), (5, i6 y4)] ∧ St w no w1 [box b1 (hv Aa0_0 Aa0_1 Aa0_2 ca0_0 ca0_1 ca0_2 a0) 28, box b2 (hv Aa1_0 Aa1_1 Aa1_2 ca1_0 ca1_1 ca1_2 a1) 28] [roC G.cs Aa0_0 ca0_0 a0.Names, roC (ci .i16) Aa0_1 ca0_1 a0.Eats, roC (ci .u16) Aa0_2 ca0_2 a0.Foes, roC G.cs Aa1_0 ca1_0 a1.Names, roC (ci .i16) Aa1_1 ca1_1 a1.Eats, roC (ci .u16) Aa1_2 ca1_2 a1.Foes] ∧ spec_SameHerd.l1 a0 a1 k y4 = some j189) k H hS ?_
 rintro k F w1 ⟨y4, rfl, hS, H⟩
 rw [spec_SameHerd.l1] at H
 refine GO ?_
 refine oS (SL (cf hS 0 0)) ?_
 refine CP H (fun H => GO ?_) (fun H => ?_)
 refine CJ.block ?_
 refine GO ?_
 refine CJ.draw [] [0, 1, 2, 3, 4, 5, 6, 7, 8, 9, 10] mixed (by kernel_rfl) hS fun w1 hS => ?_
 refine GO ?_
 refine dS (SL (cf hS 0 0)) ?_
 refine xD H (rA hS 0 Z) fun t5 ad5 ht5 H => ?_
 refine dS (SL (cf hS 1 0)) ?_
 refine xD H (rA hS 3 Z) fun t6 ad6 ht6 H => ?_
 refine CP H (fun H => GO ?_) (fun H => ?_)
 obtain rfl := Option.some.inj H; have H := K189
 exact FE H hS
 exact MD H hS
 exact MD H hS
 rintro F w1 ⟨⟨⟩, rfl, hS⟩
 have H := K189
 refine EJ.next ?_
 refine GO ?_
 obtain ⟨j190, H, K190⟩ := pbind H
 refine CJ.cut1 (fun F w1 => some j190 = some (Sum.inr ()) ∧ F = [(2, pt b1), (3, pt b2)] ∧ St w no w1 [box b1 (hv Aa0_0 Aa0_1 Aa0_2 ca0_0 ca0_1 ca0_2 a0) 28, box b2 (hv Aa1_0 Aa1_1 Aa1_2 ca1_0 ca1_1 ca1_2 a1) 28] [roC G.cs Aa0_0 ca0_0 a0.Names, roC (ci .i16) Aa0_1 ca0_1 a0.Eats, roC (ci .u16) Aa0_2 ca0_2 a0.Foes, roC G.cs Aa1_0 ca1_0 a1.Names, roC (ci .i16) Aa1_1 ca1_1 a1.Eats, roC (ci .u16) Aa1_2 ca1_2 a1.Foes]) ?_ ?_
 refine CJ.block ?_
 refine LQ (fun k F w1 => ∃ (y7 : Int), F = [(2, pt b1), (3, pt b2), (6, i6 y7)] ∧ St w no w1 [box b1 (hv Aa0_0 Aa0_1 Aa0_2 ca0_0 ca0_1 ca0_2 a0) 28, box b2 (hv Aa1_0 Aa1_1 Aa1_2 ca1_0 ca1_1 ca1_2 a1) 28] [roC G.cs Aa0_0 ca0_0 a0.Names, roC (ci .i16) Aa0_1 ca0_1 a0.Eats, roC (ci .u16) Aa0_2 ca0_2 a0.Foes, roC G.cs Aa1_0 ca1_0 a1.Names, roC (ci .i16) Aa1_1 ca1_1 a1.Eats, roC (ci .u16) Aa1_2 ca1_2 a1.Foes] ∧ spec_SameHerd.l2 a0 a1 k y7 = some j190) k H hS ?_
 rintro k F w1 ⟨y7, rfl, hS, H⟩
 rw [spec_SameHerd.l2] at H
 refine GO ?_
 refine oS (SL (cf hS 0 1)) ?_
 refine CP H (fun H => GO ?_) (fun H => ?_)
 refine CJ.block ?_
 refine GO ?_
 refine CJ.draw [] [0, 1, 2, 3, 4, 5, 6, 7, 8, 9, 10] mixed (by kernel_rfl) hS fun w1 hS => ?_
 refine GO ?_
 refine dS (SL (cf hS 0 1)) ?_
 refine xD H (rA hS 1 Z) fun t8 ad8 ht8 H => ?_
 refine dS (SL (cf hS 1 1)) ?_
 refine xD H (rA hS 4 Z) fun t9 ad9 ht9 H => ?_
 refine CP H (fun H => GO ?_) (fun H => ?_)
 obtain rfl := Option.some.inj H; have H := K190
 exact FE H hS
 exact MD H hS
 exact MD H hS
 rintro F w1 ⟨⟨⟩, rfl, hS⟩
 have H := K190
 refine EJ.next ?_
 refine GO ?_
 obtain ⟨j191, H, K191⟩ := pbind H
 refine CJ.cut1 (fun F w1 => some j191 = some (Sum.inr ()) ∧ F = [] ∧ St w no w1 [] [roC G.cs Aa0_0 ca0_0 a0.Names, roC (ci .i16) Aa0_1 ca0_1 a0.Eats, roC (ci .u16) Aa0_2 ca0_2 a0.Foes, roC G.cs Aa1_0 ca1_0 a1.Names, roC (ci .i16) Aa1_1 ca1_1 a1.Eats, roC (ci .u16) Aa1_2 ca1_2 a1.Foes]) ?_ ?_
 refine CJ.block ?_
 refine LQ (fun k F w1 => ∃ (y10 : Int), F = [(2, pt b1), (3, pt b2), (7, i6 y10)] ∧ St w no w1 [box b1 (hv Aa0_0 Aa0_1 Aa0_2 ca0_0 ca0_1 ca0_2 a0) 28, box b2 (hv Aa1_0 Aa1_1 Aa1_2 ca1_0 ca1_1 ca1_2 a1) 28] [roC G.cs Aa0_0 ca0_0 a0.Names, roC (ci .i16) Aa0_1 ca0_1 a0.Eats, roC (ci .u16) Aa0_2 ca0_2 a0.Foes, roC G.cs Aa1_0 ca1_0 a1.Names, roC (ci .i16) Aa1_1 ca1_1 a1.Eats, roC (ci .u16) Aa1_2 ca1_2 a1.Foes] ∧ spec_SameHerd.l3 a0 a1 k y10 = some j191) k H hS ?_
 rintro k F w1 ⟨y10, rfl, hS, H⟩
 rw [spec_SameHerd.l3] at H
 refine GO ?_
 refine oS (SL (cf hS 0 2)) ?_
 refine CP H (fun H => GO ?_) (fun H => ?_)
 refine CJ.block ?_
 refine GO ?_
 refine CJ.draw [] [0, 1, 2, 3, 4, 5, 6, 7, 8, 9, 10] mixed (by kernel_rfl) hS fun w1 hS => ?_
 refine GO ?_
 refine dS (SL (cf hS 0 2)) ?_
 refine xD H (rA hS 2 Z) fun t11 ad11 ht11 H => ?_
 refine dS (SL (cf hS 1 2)) ?_
 refine xD H (rA hS 5 Z) fun t12 ad12 ht12 H => ?_
 refine CP H (fun H => GO ?_) (fun H => ?_)
 obtain rfl := Option.some.inj H; have H := K191
 exact FE H hS
 exact MD H hS
 exact MD H hS
 rintro F w1 ⟨⟨⟩, rfl, hS⟩
 have H := K191
 refine EJ.next ?_
 exact FE H hS

def slices_Equal_string_string.l1 (a0 : List ByteArray) (a1 : List ByteArray) : Nat → Int → Option (Bool ⊕ Unit)
  | 0, _ => none
  | k + 1, y1 => if y1 < (a0.length : Int) then ((getI a0 y1).bind fun t2 => (getI a1 y1).bind fun t3 => if t2 ≠ t3 then (some (Sum.inl false)) else (slices_Equal_string_string.l1 a0 a1 k (IntKind.i64.wrap (y1 + 1)))) else (some (Sum.inr ()))
def slices_Equal_string_string.f (k : Nat) (a0 : List ByteArray) (a1 : List ByteArray) : Option Bool := if (a0.length : Int) ≠ (a1.length : Int) then (some false) else ((slices_Equal_string_string.l1 a0 a1 k 0).bind fun s192 => match s192 with | .inl r => some r | .inr _ => some true)
theorem slices_Equal_string_string.c {k w Aa0 ca0} {a0 : List ByteArray} (hr0 : Rd G.cs w Aa0 a0) (hc0 : a0.length ≤ ca0) {Aa1 ca1} {a1 : List ByteArray} (hr1 : Rd G.cs w Aa1 a1) (hc1 : a1.length ≤ ca1) (r : Bool) (H : slices_Equal_string_string.f k a0 a1 = some r) :
 CV Tryz.prog 48 [sl Aa0 a0 ca0, sl Aa1 a1 ca1].toArray w fun v w' => v = .bool r ∧ Ext w w' := by
 have hS := (((St.init w no).param G.cs Aa0 ca0 a0 hr0 hc0).param G.cs Aa1 ca1 a1 hr1 hc1)
 unfold slices_Equal_string_string.f at H
 refine CV.body Tryz.func48 Z Tryz.ntmps48 Z ?_
 refine GO ?_
 refine CP H (fun H => ?_) (fun H => ?_)
 exact FE H hS
 refine GO ?_
 obtain ⟨j192, H, K192⟩ := pbind H
 refine CJ.cut1 (fun F w1 => some j192 = some (Sum.inr ()) ∧ F = [] ∧ St w no w1 [] [roC G.cs Aa0 ca0 a0, roC G.cs Aa1 ca1 a1]) ?_ ?_
 refine CJ.block ?_
 refine LQ (fun k F w1 => ∃ (y1 : Int), F = [(0, sl Aa0 a0 ca0), (1, sl Aa1 a1 ca1), (12, i6 (a0.length : Int)), (13, i6 y1)] ∧ St w no w1 [] [roC G.cs Aa0 ca0 a0, roC G.cs Aa1 ca1 a1] ∧ slices_Equal_string_string.l1 a0 a1 k y1 = some j192) k H hS ?_
 rintro k F w1 ⟨y1, rfl, hS, H⟩
 rw [slices_Equal_string_string.l1] at H
 refine GO ?_
 refine CP H (fun H => GO ?_) (fun H => ?_)
 refine CJ.block ?_
 refine GO ?_
 refine CJ.draw [] [0, 1, 2, 3, 4, 5, 6, 7, 8] mixed (by kernel_rfl) hS fun w1 hS => ?_
 refine GO ?_
 refine xD H (rA hS 0 Z) fun t2 ad2 ht2 H => ?_
 refine xD H (rA hS 1 Z) fun t3 ad3 ht3 H => ?_
 refine CP H (fun H => GO ?_) (fun H => ?_)
 obtain rfl := Option.some.inj H; have H := K192
 exact FE H hS
 exact MD H hS
 exact MD H hS
 rintro F w1 ⟨⟨⟩, rfl, hS⟩
 have H := K192
 refine EJ.next ?_
 exact FE H hS

def slices_Equal_int16_int16.l1 (a0 : List Int) (a1 : List Int) : Nat → Int → Option (Bool ⊕ Unit)
  | 0, _ => none
  | k + 1, y1 => if y1 < (a0.length : Int) then ((getI a0 y1).bind fun t2 => (getI a1 y1).bind fun t3 => if t2 ≠ t3 then (some (Sum.inl false)) else (slices_Equal_int16_int16.l1 a0 a1 k (IntKind.i64.wrap (y1 + 1)))) else (some (Sum.inr ()))
def slices_Equal_int16_int16.f (k : Nat) (a0 : List Int) (a1 : List Int) : Option Bool := if (a0.length : Int) ≠ (a1.length : Int) then (some false) else ((slices_Equal_int16_int16.l1 a0 a1 k 0).bind fun s193 => match s193 with | .inl r => some r | .inr _ => some true)
theorem slices_Equal_int16_int16.c {k w Aa0 ca0} {a0 : List Int} (hr0 : Rd (ci .i16) w Aa0 a0) (hc0 : a0.length ≤ ca0) {Aa1 ca1} {a1 : List Int} (hr1 : Rd (ci .i16) w Aa1 a1) (hc1 : a1.length ≤ ca1) (r : Bool) (H : slices_Equal_int16_int16.f k a0 a1 = some r) :
 CV Tryz.prog 49 [sl Aa0 a0 ca0, sl Aa1 a1 ca1].toArray w fun v w' => v = .bool r ∧ Ext w w' := by
 have hS := (((St.init w no).param (ci .i16) Aa0 ca0 a0 hr0 hc0).param (ci .i16) Aa1 ca1 a1 hr1 hc1)
 unfold slices_Equal_int16_int16.f at H
 refine CV.body Tryz.func49 Z Tryz.ntmps49 Z ?_
 refine GO ?_
 refine CP H (fun H => ?_) (fun H => ?_)
 exact FE H hS
 refine GO ?_
 obtain ⟨j193, H, K193⟩ := pbind H
 refine CJ.cut1 (fun F w1 => some j193 = some (Sum.inr ()) ∧ F = [] ∧ St w no w1 [] [roC (ci .i16) Aa0 ca0 a0, roC (ci .i16) Aa1 ca1 a1]) ?_ ?_
 refine CJ.block ?_
 refine LQ (fun k F w1 => ∃ (y1 : Int), F = [(0, sl Aa0 a0 ca0), (1, sl Aa1 a1 ca1), (12, i6 (a0.length : Int)), (13, i6 y1)] ∧ St w no w1 [] [roC (ci .i16) Aa0 ca0 a0, roC (ci .i16) Aa1 ca1 a1] ∧ slices_Equal_int16_int16.l1 a0 a1 k y1 = some j193) k H hS ?_
 rintro k F w1 ⟨y1, rfl, hS, H⟩
 rw [slices_Equal_int16_int16.l1] at H
 refine GO ?_
 refine CP H (fun H => GO ?_) (fun H => ?_)
 refine CJ.block ?_
 refine GO ?_
 refine CJ.draw [] [0, 1, 2, 3, 4, 5, 6, 7, 8] mixed (by kernel_rfl) hS fun w1 hS => ?_
 refine GO ?_
 refine xD H (rA hS 0 Z) fun t2 ad2 ht2 H => ?_
 refine xD H (rA hS 1 Z) fun t3 ad3 ht3 H => ?_
 refine CP H (fun H => GO ?_) (fun H => ?_)
 obtain rfl := Option.some.inj H; have H := K193
 exact FE H hS
 exact MD H hS
 exact MD H hS
 rintro F w1 ⟨⟨⟩, rfl, hS⟩
 have H := K193
 refine EJ.next ?_
 exact FE H hS

def slices_Equal_uint16_uint16.l1 (a0 : List Int) (a1 : List Int) : Nat → Int → Option (Bool ⊕ Unit)
  | 0, _ => none
  | k + 1, y1 => if y1 < (a0.length : Int) then ((getI a0 y1).bind fun t2 => (getI a1 y1).bind fun t3 => if t2 ≠ t3 then (some (Sum.inl false)) else (slices_Equal_uint16_uint16.l1 a0 a1 k (IntKind.i64.wrap (y1 + 1)))) else (some (Sum.inr ()))
def slices_Equal_uint16_uint16.f (k : Nat) (a0 : List Int) (a1 : List Int) : Option Bool := if (a0.length : Int) ≠ (a1.length : Int) then (some false) else ((slices_Equal_uint16_uint16.l1 a0 a1 k 0).bind fun s194 => match s194 with | .inl r => some r | .inr _ => some true)
theorem slices_Equal_uint16_uint16.c {k w Aa0 ca0} {a0 : List Int} (hr0 : Rd (ci .u16) w Aa0 a0) (hc0 : a0.length ≤ ca0) {Aa1 ca1} {a1 : List Int} (hr1 : Rd (ci .u16) w Aa1 a1) (hc1 : a1.length ≤ ca1) (r : Bool) (H : slices_Equal_uint16_uint16.f k a0 a1 = some r) :
 CV Tryz.prog 50 [sl Aa0 a0 ca0, sl Aa1 a1 ca1].toArray w fun v w' => v = .bool r ∧ Ext w w' := by
 have hS := (((St.init w no).param (ci .u16) Aa0 ca0 a0 hr0 hc0).param (ci .u16) Aa1 ca1 a1 hr1 hc1)
 unfold slices_Equal_uint16_uint16.f at H
 refine CV.body Tryz.func50 Z Tryz.ntmps50 Z ?_
 refine GO ?_
 refine CP H (fun H => ?_) (fun H => ?_)
 exact FE H hS
 refine GO ?_
 obtain ⟨j194, H, K194⟩ := pbind H
 refine CJ.cut1 (fun F w1 => some j194 = some (Sum.inr ()) ∧ F = [] ∧ St w no w1 [] [roC (ci .u16) Aa0 ca0 a0, roC (ci .u16) Aa1 ca1 a1]) ?_ ?_
 refine CJ.block ?_
 refine LQ (fun k F w1 => ∃ (y1 : Int), F = [(0, sl Aa0 a0 ca0), (1, sl Aa1 a1 ca1), (12, i6 (a0.length : Int)), (13, i6 y1)] ∧ St w no w1 [] [roC (ci .u16) Aa0 ca0 a0, roC (ci .u16) Aa1 ca1 a1] ∧ slices_Equal_uint16_uint16.l1 a0 a1 k y1 = some j194) k H hS ?_
 rintro k F w1 ⟨y1, rfl, hS, H⟩
 rw [slices_Equal_uint16_uint16.l1] at H
 refine GO ?_
 refine CP H (fun H => GO ?_) (fun H => ?_)
 refine CJ.block ?_
 refine GO ?_
 refine CJ.draw [] [0, 1, 2, 3, 4, 5, 6, 7, 8] mixed (by kernel_rfl) hS fun w1 hS => ?_
 refine GO ?_
 refine xD H (rA hS 0 Z) fun t2 ad2 ht2 H => ?_
 refine xD H (rA hS 1 Z) fun t3 ad3 ht3 H => ?_
 refine CP H (fun H => GO ?_) (fun H => ?_)
 obtain rfl := Option.some.inj H; have H := K194
 exact FE H hS
 exact MD H hS
 exact MD H hS
 rintro F w1 ⟨⟨⟩, rfl, hS⟩
 have H := K194
 refine EJ.next ?_
 exact FE H hS

def impl_SameHerd.f (k : Nat) (a0 : Herd) (a1 : Herd) : Option Bool := (slices_Equal_string_string.f k a0.Names a1.Names).bind fun t3 => if t3 = true then ((slices_Equal_int16_int16.f k a0.Eats a1.Eats).bind fun t4 => if t4 = true then ((slices_Equal_uint16_uint16.f k a0.Foes a1.Foes).bind fun t5 => some t5) else (some false)) else (some false)
theorem impl_SameHerd.c {k w Aa0_0 ca0_0 Aa0_1 ca0_1 Aa0_2 ca0_2} (a0 : Herd) (hr0_0 : Rd G.cs w Aa0_0 a0.Names) (hc0_0 : a0.Names.length ≤ ca0_0) (hr0_1 : Rd (ci .i16) w Aa0_1 a0.Eats) (hc0_1 : a0.Eats.length ≤ ca0_1) (hr0_2 : Rd (ci .u16) w Aa0_2 a0.Foes) (hc0_2 : a0.Foes.length ≤ ca0_2) {Aa1_0 ca1_0 Aa1_1 ca1_1 Aa1_2 ca1_2} (a1 : Herd) (hr1_0 : Rd G.cs w Aa1_0 a1.Names) (hc1_0 : a1.Names.length ≤ ca1_0) (hr1_1 : Rd (ci .i16) w Aa1_1 a1.Eats) (hc1_1 : a1.Eats.length ≤ ca1_1) (hr1_2 : Rd (ci .u16) w Aa1_2 a1.Foes) (hc1_2 : a1.Foes.length ≤ ca1_2) (r : Bool) (H : impl_SameHerd.f k a0 a1 = some r) :
 CV Tryz.prog 12 [.agg (hv Aa0_0 Aa0_1 Aa0_2 ca0_0 ca0_1 ca0_2 a0).toArray, .agg (hv Aa1_0 Aa1_1 Aa1_2 ca1_0 ca1_1 ca1_2 a1).toArray].toArray w fun v w' => v = .bool r ∧ Ext w w' := by
 have hS := (((((((St.init w no).param G.cs Aa0_0 ca0_0 a0.Names hr0_0 hc0_0).param (ci .i16) Aa0_1 ca0_1 a0.Eats hr0_1 hc0_1).param (ci .u16) Aa0_2 ca0_2 a0.Foes hr0_2 hc0_2).param G.cs Aa1_0 ca1_0 a1.Names hr1_0 hc1_0).param (ci .i16) Aa1_1 ca1_1 a1.Eats hr1_1 hc1_1).param (ci .u16) Aa1_2 ca1_2 a1.Foes hr1_2 hc1_2)
 unfold impl_SameHerd.f at H
 refine CV.body Tryz.func12 Z Tryz.ntmps12 Z ?_
 refine GO ?_
 refine OF (EB hS (hv Aa0_0 Aa0_1 Aa0_2 ca0_0 ca0_1 ca0_2 a0)) ?_
 rintro _ w1 ⟨b1, rfl, hS⟩
 refine oX hS (hv Aa1_0 Aa1_1 Aa1_2 ca1_0 ca1_1 ca1_2 a1) fun b2 w1 hS => ?_
 refine oS (SL (cf hS 0 0)) ?_
 refine OS (SL (cf hS 1 0)) ?_
 refine oB H hS hb48 (slices_Equal_string_string.c (rA hS 0 Z) (rB hS 0 Z) (rA hS 3 Z) (rB hS 3 Z)) fun t3 w1 H hS => ?_
 refine OJ.split (t := 10) Z (fun hb => ?_) (fun hb => ?_)
 replace H := pif_t hb H
 refine GO ?_
 refine oS (SL (cf hS 0 1)) ?_
 refine OS (SL (cf hS 1 1)) ?_
 refine oB H hS hb49 (slices_Equal_int16_int16.c (rA hS 1 Z) (rB hS 1 Z) (rA hS 4 Z) (rB hS 4 Z)) fun t4 w1 H hS => ?_
 refine OJ.split (t := 17) Z (fun hb => ?_) (fun hb => ?_)
 replace H := pif_t hb H
 refine GO ?_
 refine oS (SL (cf hS 0 2)) ?_
 refine OS (SL (cf hS 1 2)) ?_
 refine OB H hS hb50 (slices_Equal_uint16_uint16.c (rA hS 2 Z) (rB hS 2 Z) (rA hS 5 Z) (rB hS 5 Z)) fun t5 w1 H hS => ?_
 exact FE H hS
 replace H := pifb_f hb H
 exact FE H hS
 replace H := pifb_f hb H
 exact FE H hS

def spec_l00Same.l1 (a0 : List Int) (a1 : List Int) : Nat → Int → Option (Bool ⊕ Unit)
  | 0, _ => none
  | k + 1, y1 => if y1 < (a0.length : Int) then ((getI a0 y1).bind fun t2 => (getI a1 y1).bind fun t3 => if t2 ≠ t3 then (some (Sum.inl false)) else (spec_l00Same.l1 a0 a1 k (IntKind.i64.wrap (y1 + 1)))) else (some (Sum.inr ()))
def spec_l00Same.f (k : Nat) (a0 : List Int) (a1 : List Int) : Option Bool := if (a0.length : Int) ≠ (a1.length : Int) then (some false) else ((spec_l00Same.l1 a0 a1 k 0).bind fun s196 => match s196 with | .inl r => some r | .inr _ => some true)
theorem spec_l00Same.c {k w Aa0 ca0} {a0 : List Int} (hr0 : Rd (ci .i64) w Aa0 a0) (hc0 : a0.length ≤ ca0) {Aa1 ca1} {a1 : List Int} (hr1 : Rd (ci .i64) w Aa1 a1) (hc1 : a1.length ≤ ca1) (r : Bool) (H : spec_l00Same.f k a0 a1 = some r) :
 CV Tryz.prog 55 [sl Aa0 a0 ca0, sl Aa1 a1 ca1].toArray w fun v w' => v = .bool r ∧ Ext w w' := by
 have hS := (((St.init w no).param (ci .i64) Aa0 ca0 a0 hr0 hc0).param (ci .i64) Aa1 ca1 a1 hr1 hc1)
 unfold spec_l00Same.f at H
 refine CV.body Tryz.func55 Z Tryz.ntmps55 Z ?_
 refine GO ?_
 refine CP H (fun H => ?_) (fun H => ?_)
 exact FE H hS
 refine GO ?_
 obtain ⟨j196, H, K196⟩ := pbind H
 refine CJ.cut1 (fun F w1 => some j196 = some (Sum.inr ()) ∧ F = [] ∧ St w no w1 [] [roC (ci .i64) Aa0 ca0 a0, roC (ci .i64) Aa1 ca1 a1]) ?_ ?_
 refine CJ.block ?_
 refine LQ (fun k F w1 => ∃ (y1 : Int), F = [(0, sl Aa0 a0 ca0), (1, sl Aa1 a1 ca1), (5, i6 y1)] ∧ St w no w1 [] [roC (ci .i64) Aa0 ca0 a0, roC (ci .i64) Aa1 ca1 a1] ∧ spec_l00Same.l1 a0 a1 k y1 = some j196) k H hS ?_
 rintro k F w1 ⟨y1, rfl, hS, H⟩
 rw [spec_l00Same.l1] at H
 refine GO ?_
 refine CP H (fun H => GO ?_) (fun H => ?_)
 refine CJ.block ?_
 refine GO ?_
 refine CJ.draw [] [0, 1, 2, 3, 4, 5, 6, 7, 8] mixed (by kernel_rfl) hS fun w1 hS => ?_
 refine GO ?_
 refine xD H (rA hS 0 Z) fun t2 ad2 ht2 H => ?_
 refine xD H (rA hS 1 Z) fun t3 ad3 ht3 H => ?_
 refine CP H (fun H => GO ?_) (fun H => ?_)
 obtain rfl := Option.some.inj H; have H := K196
 exact FE H hS
 exact MD H hS
 exact MD H hS
 rintro F w1 ⟨⟨⟩, rfl, hS⟩
 have H := K196
 refine EJ.next ?_
 exact FE H hS

def spec_A2SameGroups.l1 (a0 : List (List Int)) (a1 : List (List Int)) : Nat → Int → Option (Bool ⊕ Unit)
  | 0, _ => none
  | k + 1, y1 => if y1 < (a0.length : Int) then ((getI a0 y1).bind fun t2 => (getI a1 y1).bind fun t3 => (spec_l00Same.f k t2 t3).bind fun t4 => if (!t4) = true then (some (Sum.inl false)) else (spec_A2SameGroups.l1 a0 a1 k (IntKind.i64.wrap (y1 + 1)))) else (some (Sum.inr ()))
def spec_A2SameGroups.f (k : Nat) (a0 : List (List Int)) (a1 : List (List Int)) : Option Bool := if (a0.length : Int) ≠ (a1.length : Int) then (some false) else ((spec_A2SameGroups.l1 a0 a1 k 0).bind fun s195 => match s195 with | .inl r => some r | .inr _ => some true)
theorem spec_A2SameGroups.c {k w Aa0 ca0} (Da0 : List SH) {a0 : List (List Int)} (hr0 : (rosC (ci .i64) Aa0 ca0 Da0 a0).holds w) {Aa1 ca1} (Da1 : List SH) {a1 : List (List Int)} (hr1 : (rosC (ci .i64) Aa1 ca1 Da1 a1).holds w) (r : Bool) (H : spec_A2SameGroups.f k a0 a1 = some r) :
 CV Tryz.prog 14 [sl Aa0 a0 ca0, sl Aa1 a1 ca1].toArray w fun v w' => v = .bool r ∧ Ext w w' := by
 have hS := (((St.init w no).paramC (rosC (ci .i64) Aa0 ca0 Da0 a0) hr0).paramC (rosC (ci .i64) Aa1 ca1 Da1 a1) hr1)
 unfold spec_A2SameGroups.f at H
 refine CV.body Tryz.func14 Z Tryz.ntmps14 Z ?_
 refine GO ?_
 refine CP H (fun H => ?_) (fun H => ?_)
 exact FE H hS
 refine GO ?_
 obtain ⟨j195, H, K195⟩ := pbind H
 refine CJ.cut1 (fun F w1 => some j195 = some (Sum.inr ()) ∧ F = [] ∧ St w no w1 [] [rosC (ci .i64) Aa0 ca0 Da0 a0, rosC (ci .i64) Aa1 ca1 Da1 a1]) ?_ ?_
 refine CJ.block ?_
 refine LQ (fun k F w1 => ∃ (y1 : Int), F = [(0, sl Aa0 a0 ca0), (1, sl Aa1 a1 ca1), (5, i6 y1)] ∧ St w no w1 [] [rosC (ci .i64) Aa0 ca0 Da0 a0, rosC (ci .i64) Aa1 ca1 Da1 a1] ∧ spec_A2SameGroups.l1 a0 a1 k y1 = some j195) k H hS ?_
 rintro k F w1 ⟨y1, rfl, hS, H⟩
 rw [spec_A2SameGroups.l1] at H
 refine GO ?_
 refine CP H (fun H => GO ?_) (fun H => ?_)
 refine CJ.block ?_
 refine GO ?_
 refine CJ.draw [] [0, 1, 2, 3, 4, 5, 6, 7, 8, 9] mixed (by kernel_rfl) hS fun w1 hS => ?_
 refine GO ?_
 obtain ⟨t2, ht2, H⟩ := pbind H
 obtain ⟨Ae2, ce2, g2, d2, hx2⟩ := ros_el (hS.rosH (i := 0) rfl) ht2
 obtain ⟨ad2, e2⟩ := (ros_rd (hS.rosH (i := 0) rfl)).some' g2
 refine DS (SI e2 (getI_some ht2).1) ?_
 refine dS (SL ((ros_rd (hS.rosH (i := 0) Z)).at_ e2 g2)) ?_
 obtain ⟨t3, ht3, H⟩ := pbind H
 obtain ⟨Ae3, ce3, g3, d3, hx3⟩ := ros_el (hS.rosH (i := 1) rfl) ht3
 obtain ⟨ad3, e3⟩ := (ros_rd (hS.rosH (i := 1) rfl)).some' g3
 refine DS (SI e3 (getI_some ht3).1) ?_
 refine DS (SL ((ros_rd (hS.rosH (i := 1) Z)).at_ e3 g3)) ?_
 obtain ⟨t4, ht4, H⟩ := pbind H
 refine DJ.callF rfl rfl rfl rfl rfl rfl rfl hb55 rfl (spec_l00Same.c (ros_sub (hS.rosH (i := 0) rfl) d2 hx2) (ros_subLe (hS.rosH (i := 0) rfl) d2 hx2) (ros_sub (hS.rosH (i := 1) rfl) d3 hx3) (ros_subLe (hS.rosH (i := 1) rfl) d3 hx3) _ ht4) (by rintro v w' ⟨rfl, hs⟩; exact hs) ?_
 rintro _ w1 ⟨rfl, hs⟩
 replace hS := hS.grow hs
 refine GO ?_
 refine CB H (fun H => GO ?_) (fun H => ?_)
 obtain rfl := Option.some.inj H; have H := K195
 exact FE H hS
 exact MD H hS
 exact MD H hS
 rintro F w1 ⟨⟨⟩, rfl, hS⟩
 have H := K195
 refine EJ.next ?_
 exact FE H hS
end Go.Proofs.YtplfdbfdalaefaaGreatDoor
