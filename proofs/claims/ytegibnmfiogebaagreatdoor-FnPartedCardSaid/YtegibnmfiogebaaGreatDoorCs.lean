/-
  What is sorted by a comparator.
-/
import Derived.Test.YtegibnmfiogebaaGreatDoorGT
import Derived.Deep.Draws
import Derived.BigFrame
import Derived.Tactics2
import Derived.IntWalk
import Derived.LoopN
namespace Go.Proofs.YtegibnmfiogebaaGreatDoor
open G Go.RowKit Go.Sort
set_option maxHeartbeats 4000000
set_option maxRecDepth 100000
set_option linter.unusedVariables false
theorem wr64 (n : Int) (h : -9223372036854775808 ≤ n ∧ n ≤ 9223372036854775807) : wrap64 n = n := by unfold wrap64; omega
def cmpSpot (x y : Spot) : Int := if x.Y ≠ y.Y then wrap64 (wrap64 x.Y - wrap64 y.Y) else wrap64 (wrap64 x.X - wrap64 y.X)
def okSpot (s : Spot) : Bool := decide (-128 ≤ s.X ∧ s.X ≤ 127) && decide (-128 ≤ s.Y ∧ s.Y ≤ 127)
def leSpot (x y : Spot) : Bool := decide (x.Y < y.Y ∨ (x.Y = y.Y ∧ x.X ≤ y.X))
theorem cmpSpot_calls (x y : Spot) (W : World) : Calls Tryz.prog 88 #[.agg #[.int .i8 x.X, .int .i8 x.Y], .agg #[.int .i8 y.X, .int .i8 y.Y]] W fun e w' => e = .returned (.int .i64 (cmpSpot x y)) ∧ ∃ q os', w' = Go.Sort.grow (W.drewN q) os' := by
 go_enter Tryz.func88, Tryz.ntmps88
 go_wp2
 ·rename_i h
  go_ret
  refine ⟨?_, 0, #[_, _], by rw [Go.Sort.alloc_eq_grow, Go.Sort.alloc_eq_grow, Go.Sort.grow_grow]; rfl⟩
  have h : x.Y ≠ y.Y := by simpa using h
  unfold cmpSpot
  rw [if_pos h]; rfl
 rename_i h
 go_ret
 refine ⟨?_, 0, #[_, _], by rw [Go.Sort.alloc_eq_grow, Go.Sort.alloc_eq_grow, Go.Sort.grow_grow]; rfl⟩
 have h : x.Y = y.Y := by simpa using h
 unfold cmpSpot
 rw [if_neg (by simp [h])]; rfl
theorem okSpot_iff {s : Spot} : okSpot s = true ↔ (-128 ≤ s.X ∧ s.X ≤ 127) ∧ (-128 ≤ s.Y ∧ s.Y ≤ 127) := by
 unfold okSpot; simp
theorem ltSpot {x y : Spot} (hx : okSpot x = true) (hy : okSpot y = true) : decide (cmpSpot x y < 0) = decide (x.Y < y.Y ∨ (x.Y = y.Y ∧ x.X < y.X)) := by
 obtain ⟨a, b⟩ := okSpot_iff.1 hx
 obtain ⟨c, d⟩ := okSpot_iff.1 hy
 rw [decide_eq_decide]
 unfold cmpSpot
 by_cases h : x.Y = y.Y
 ·rw [if_neg (by simp [h]), wr64 x.X (by omega), wr64 y.X (by omega), wr64 _ (by omega)]; omega
 rw [if_pos h, wr64 x.Y (by omega), wr64 y.Y (by omega), wr64 _ (by omega)]; omega
instance : Inhabited {x : Spot // okSpot x = true} := ⟨⟨⟨0, 0⟩, by decide⟩⟩
theorem sortSpot_calls (blk off cap : Nat) (d : Array {x : Spot // okSpot x = true}) (w : World) (h1 : Go.Sort.HoldsK (fun x : {x : Spot // okSpot x = true} => cSpot.enc x.1) cSpot.sz w blk off d) (h2 : blk < w.heap.size) (h3 : d.size < 4611686018427387904) :
 Calls Tryz.prog 87 #[.slice (some ⟨blk, off, none⟩) d.size cap, .func (.func 88) #[] #[]] w fun e w' => e = .returned (.tuple #[]) ∧ ∃ n os, w' = sortWorldK (fun x : {x : Spot // okSpot x = true} => cSpot.enc x.1) cSpot.sz w blk off n (d.toList.mergeSort fun x y => leSpot x.1 y.1).toArray os := by
 have e : (fun x y : {x : Spot // okSpot x = true} => !(ltOf fun x y : {x : Spot // okSpot x = true} => cmpSpot x.1 y.1) y x) = fun x y => leSpot x.1 y.1 := by
   funext x y
   unfold ltOf leSpot
   rw [ltSpot y.2 x.2, ← decide_not, decide_eq_decide]
   omega
 rw [← e]
 have eg : ∀ args w, (callFunc 88 args).run Tryz.prog w = .ok (.enter 88 args) w := enters_of Tryz.func88 (by kernel_rfl) rfl
 refine AnyQ.slices_SortFunc_total laySortSpot 2 (fun w => (run_isAgg (d := .struct #[{ name := "X", type := 24, offset := 0, embedded := false, tag := "", pkgPath := "", byteOffset := 0 }, { name := "Y", type := 24, offset := 1, embedded := false, tag := "", pkgPath := "", byteOffset := 1 }]) (by kernel_rfl) w).trans rfl) (fun w => ?_) (fun x : {x : Spot // okSpot x = true} => cSpot.enc x.1) (fun x => rfl) (fun x v hv => cSpot.one x.1 v hv) (fun x y => cmpSpot x.1 y.1) ⟨fun x => ?_, fun x y z => ?_, fun x y z => ?_⟩ 88 #[] blk off cap d w eg (fun m os dk hs x y => ?_) h1 h2 h3 (fun x y h h' => ?_)
 ·obtain ⟨i, hi⟩ := info_of_underlying (P := Tryz.prog) (t := 55) (d := .struct #[{ name := "X", type := 24, offset := 0, embedded := false, tag := "", pkgPath := "", byteOffset := 0 }, { name := "Y", type := 24, offset := 1, embedded := false, tag := "", pkgPath := "", byteOffset := 1 }]) (by kernel_rfl)
  exact (run_sizeOf w hi).trans (by kernel_rfl)
 ·unfold ltOf; rw [ltSpot x.2 x.2]; simp
 ·unfold ltOf; rw [ltSpot x.2 y.2, ltSpot y.2 z.2, ltSpot x.2 z.2]; simp only [decide_eq_true_eq]; omega
 ·unfold ltOf; rw [ltSpot x.2 y.2, ltSpot y.2 z.2, ltSpot x.2 z.2]; simp only [decide_eq_false_iff_not]; omega
 ·exact cmpSpot_calls x.1 y.1 _
 unfold ltOf at h h'
 rw [ltSpot x.2 y.2, decide_eq_false_iff_not] at h
 rw [ltSpot y.2 x.2, decide_eq_false_iff_not] at h'
 apply Subtype.ext
 obtain ⟨⟨a, b⟩, _⟩ := x
 obtain ⟨⟨c, d⟩, _⟩ := y
 simp only at h h'
 simp only [Spot.mk.injEq]
 omega

def GB (w w' : World) : Prop := ∃ q os, w' = Go.Sort.grow (w.drewN q) os
theorem GB.refl (w : World) : GB w w := ⟨0, #[], by rw [grow_empty]; rfl⟩
theorem GB.trans {a b c : World} (h : GB a b) (k : GB b c) : GB a c := by
 obtain ⟨q, os, rfl⟩ := h
 obtain ⟨q', os', rfl⟩ := k
 exact ⟨q + q', os ++ os', by show grow (grow ((a.drewN q).drewN q') os) os' = _; rw [grow_grow, World.drewN_drewN]⟩
theorem GB.alloc {w w' : World} (h : ∃ ob, w' = w.alloc ob) : GB w w' := by
 obtain ⟨ob, rfl⟩ := h
 exact ⟨0, #[ob], by rw [alloc_eq_grow]; rfl⟩
theorem GB.drew (w : World) : GB w w.drew := ⟨1, #[], by rw [grow_empty]; rfl⟩
theorem GB.ext {w w' : World} (h : GB w w') : Ext w w' := by
 obtain ⟨q, os, rfl⟩ := h
 exact ⟨rfl, rfl, rfl, by rw [size_grow]; exact Nat.le_add_right _ _, fun k hk _ => heap_grow_old _ _ hk⟩
def bitI (b : Bool) : Int := if b then 1 else 0
def cmpI (x y : Int) : Int := if x < y then -1 else if y < x then 1 else 0
def orI2 (x y : Int) : Int := if x ≠ 0 then x else y
theorem bit_calls (b : Bool) (W : World) : Calls Tryz.prog 115 #[.bool b] W fun e w' => e = .returned (.int .i64 (bitI b)) ∧ w' = W := by
 unfold bitI
 go_enter Tryz.func115, Tryz.ntmps115
 go_wp2
 all_goals go_ret
 all_goals simp_all
theorem cmpI_calls (x y : Int) (W : World) : Calls Tryz.prog 122 #[.int .i64 x, .int .i64 y] W fun e w' => e = .returned (.int .i64 (cmpI x y)) ∧ w' = W := by
 unfold cmpI
 go_enter Tryz.func122, Tryz.ntmps122
 go_wp2
 all_goals go_ret
 all_goals simp_all
theorem or_calls0 (x y r : Int) (hx : x ≠ 0 → r = x) (hy : x = 0 → r = y) (b : Nat) (W : World) (h0 : W.cell? ⟨b, 0, none⟩ = some (.int .i64 x)) (h1 : W.cell? ⟨b, 1, none⟩ = some (.int .i64 y)) : Calls Tryz.prog 121 #[.slice (some ⟨b, 0, none⟩) 2 2] W fun e w' => e = .returned (.int .i64 r) ∧ w' = W := by
 go_enter Tryz.func121, Tryz.ntmps121
 go_wp2
 refine wp_loop_rounds 3 ?_
 rw [rounds_succ]
 go_wp2
 ·go_ret
  have e : r = x := hx (by simp_all)
  exact ⟨by rw [e]; rfl, rfl⟩
 rw [rounds_succ]
 go_wp2
 ·go_ret
  have e : r = y := hy (by simp_all)
  exact ⟨by rw [e]; rfl, rfl⟩
 rw [rounds_succ]
 go_wp2
 go_ret
 have e : r = y := hy (by simp_all)
 exact ⟨by rw [e]; simp_all, rfl⟩
theorem or_calls {A : Option Addr} {x y : Int} {W : World} (hr : RowAt W A 2 3 1 2 [.int .i64 x, .int .i64 y]) : Calls Tryz.prog 121 #[.slice A 2 2] W fun e w' => e = .returned (.int .i64 (orI2 x y)) ∧ w' = W := by
 obtain ⟨g, cur, rfl, hb, hsz, ht⟩ := hr.arr.resolve_left (by omega)
 have hc : ∀ j v, [Value.int .i64 x, .int .i64 y][j]? = some v → W.cell? ⟨g, j, none⟩ = some v := fun j v hv => by
   rw [cell_of_row W g j _ 3 _ hb]
   have e1 := congrArg (fun l => l[j]?) ht
   have hj : j < 2 := (List.getElem?_eq_some_iff.1 hv).1
   simp only [List.getElem?_take, if_pos (show j < 2 * 1 from hj), Array.getElem?_toList] at e1
   rw [e1]; exact hv
 exact or_calls0 x y _ (fun h => if_pos h) (fun h => if_neg (by simp [h])) g W (hc 0 _ rfl) (hc 1 _ rfl)
def cmpHurdle (x y : Hurdle) : Int := orI2 (cmpSpot x.At y.At) (cmpI (bitI x.South) (bitI y.South))
theorem CV.ofEq {f : FuncId} {args : Array Value} {w : World} {v0 : Value} (h : Calls Tryz.prog f args w fun e w' => e = .returned v0 ∧ w' = w) : CV Tryz.prog f args w fun v w' => v = v0 ∧ GB w w' := Calls.mono h fun e w' ⟨he, hw⟩ => ⟨_, he, rfl, hw ▸ GB.refl w⟩
theorem cmpHurdle_cv (x y : Hurdle) (w : World) : CV Tryz.prog 75 [.agg (cHurdle.enc x).toArray, .agg (cHurdle.enc y).toArray].toArray w fun v w' => v = .int .i64 (cmpHurdle x y) ∧ GB w w' := by
 have hS := (St.init w no)
 have hG := GB.refl w
 refine CV.body Tryz.func75 rfl Tryz.ntmps75 rfl ?_
 refine CJ.seq ?_
 refine CJ.region ?_
 refine OJ.ef rfl rfl rfl (Ef.boxA hS rfl rfl (cHurdle.enc x) rfl) ?_
 rintro _ w1 ⟨⟨b1, rfl, hS⟩, g⟩
 have hG := hG.trans (GB.alloc g)
 refine OJ.ef rfl rfl rfl (Ef.boxA hS rfl rfl (cHurdle.enc y) rfl) ?_
 rintro _ w1 ⟨⟨b2, rfl, hS⟩, g⟩
 have hG := hG.trans (GB.alloc g)
 refine OJ.pures tU_ok 1 rfl ?_
 refine OJ.nil (EJ.next ?_)
 refine CJ.seq ?_
 refine fun a ha => wp_draw (bars := []) (order := [0, 1, 2, 3, 5, 6, 8, 9, 4, 7, 10, 11, 12, 13, 14]) mixed rfl (ordOkM_ok (by kernel_rfl)) ((?_ : DJ Tryz.prog _ _ _ _ _ _ _) a ha)
 have hG := hG.trans (GB.drew _)
 replace hS := hS.grow (Chg.drew _ _)
 refine DJ.st rfl rfl rfl rfl rfl (SR.fieldAddr tU_ok tI_ok rfl rfl rfl rfl rfl rfl) ?_
 refine DJ.st rfl rfl rfl rfl rfl (SR.load rfl rfl (fun w' hx => ldN tU_ok tI_ok rfl rfl rfl (CA.ext (CA.sub (hS.cells (i := 0) rfl) 0) hx) (cSpot.len _) rfl)) ?_
 refine DJ.st rfl rfl rfl rfl rfl (SR.fieldAddr tU_ok tI_ok rfl rfl rfl rfl rfl rfl) ?_
 refine DJ.st rfl rfl rfl rfl rfl (SR.load rfl rfl (fun w' hx => ldN tU_ok tI_ok rfl rfl rfl (CA.ext (CA.sub (hS.cells (i := 1) rfl) 0) hx) (cSpot.len _) rfl)) ?_
 refine DJ.st rfl rfl rfl rfl rfl (SR.fieldAddr tU_ok tI_ok rfl rfl rfl rfl rfl rfl) ?_
 refine DJ.st rfl rfl rfl rfl rfl (SR.load rfl rfl (fun w' hx => ld1 tU_ok rfl rfl (CA.ext (CA.sub (hS.cells (i := 0) rfl) 2) hx) rfl)) ?_
 refine DJ.st rfl rfl rfl rfl rfl (SR.fieldAddr tU_ok tI_ok rfl rfl rfl rfl rfl rfl) ?_
 refine DJ.st rfl rfl rfl rfl rfl (SR.load rfl rfl (fun w' hx => ld1 tU_ok rfl rfl (CA.ext (CA.sub (hS.cells (i := 1) rfl) 2) hx) rfl)) ?_
 refine DJ.callF rfl rfl rfl rfl rfl rfl rfl hb88 rfl (show CV Tryz.prog 88 _ _ (fun v w' => v = .int .i64 (cmpSpot x.At y.At) ∧ GB _ w') from Calls.mono (cmpSpot_calls x.At y.At _) fun e w' ⟨he, hw⟩ => ⟨_, he, rfl, hw⟩) (by rintro v w' ⟨rfl, hs⟩; exact hs.ext) ?_
 rintro _ w1 ⟨rfl, g⟩
 have hG := hG.trans g
 replace hS := hS.grow g.ext
 refine DJ.callF rfl rfl rfl rfl rfl rfl rfl hb115 rfl (CV.ofEq (bit_calls x.South _)) (by rintro v w' ⟨rfl, hs⟩; exact hs.ext) ?_
 rintro _ w1 ⟨rfl, g⟩
 have hG := hG.trans g
 replace hS := hS.grow g.ext
 refine DJ.callF rfl rfl rfl rfl rfl rfl rfl hb115 rfl (CV.ofEq (bit_calls y.South _)) (by rintro v w' ⟨rfl, hs⟩; exact hs.ext) ?_
 rintro _ w1 ⟨rfl, g⟩
 have hG := hG.trans g
 replace hS := hS.grow g.ext
 refine DJ.callF rfl rfl rfl rfl rfl rfl rfl hb122 rfl (CV.ofEq (cmpI_calls (bitI x.South) (bitI y.South) _)) (by rintro v w' ⟨rfl, hs⟩; exact hs.ext) ?_
 rintro _ w1 ⟨rfl, g⟩
 have hG := hG.trans g
 replace hS := hS.grow g.ext
 refine DJ.ef rfl rfl rfl rfl rfl (Ef.litA tU_ok tI_ok hS (C := (ci .i64)) rfl rfl rfl rfl rfl rfl ([cmpSpot x.At y.At, cmpI (bitI x.South) (bitI y.South)] : List Int) rfl rfl rfl rfl) ?_
 rintro _ w1 ⟨⟨A7, rfl, hS⟩, g⟩
 have hG := hG.trans (GB.alloc g)
 refine DJ.callF rfl rfl rfl rfl rfl rfl rfl hb121 rfl (CV.ofEq (or_calls (hS.row (i := 2) rfl))) (by rintro v w' ⟨rfl, hs⟩; exact hs.ext) ?_
 rintro _ w1 ⟨rfl, g⟩
 have hG := hG.trans g
 refine DJ.pures tU_ok 1 rfl ?_
 refine DJ.nil (EJ.next ?_)
 refine CJ.ret (?_)
 exact EJ.fin rfl (.tmp rfl .nil) ⟨rfl, hG⟩
theorem cmpHurdle_calls (x y : Hurdle) (W : World) : Calls Tryz.prog 75 #[.agg (cHurdle.enc x).toArray, .agg (cHurdle.enc y).toArray] W fun e w' => e = .returned (.int .i64 (cmpHurdle x y)) ∧ ∃ q os', w' = Go.Sort.grow (W.drewN q) os' :=
  Calls.mono (cmpHurdle_cv x y W) fun e w' ⟨v, he, hv, hw⟩ => ⟨by rw [he, hv], hw⟩
def okHurdle (h : Hurdle) : Bool := okSpot h.At
def leHurdle (x y : Hurdle) : Bool := decide (x.At.Y < y.At.Y ∨ (x.At.Y = y.At.Y ∧ (x.At.X < y.At.X ∨ (x.At.X = y.At.X ∧ bitI x.South ≤ bitI y.South))))
theorem ltHurdle {x y : Hurdle} (hx : okHurdle x = true) (hy : okHurdle y = true) : decide (cmpHurdle x y < 0) = decide (x.At.Y < y.At.Y ∨ (x.At.Y = y.At.Y ∧ (x.At.X < y.At.X ∨ (x.At.X = y.At.X ∧ bitI x.South < bitI y.South)))) := by
 obtain ⟨a, b⟩ := okSpot_iff.1 hx
 obtain ⟨c, d⟩ := okSpot_iff.1 hy
 rw [decide_eq_decide]
 unfold cmpHurdle orI2 cmpI
 by_cases h : x.At.Y = y.At.Y
 ·have hc : cmpSpot x.At y.At = x.At.X - y.At.X := by
    unfold cmpSpot
    rw [if_neg (by simp [h]), wr64 x.At.X (by omega), wr64 y.At.X (by omega), wr64 _ (by omega)]
  rw [hc]
  by_cases h2 : x.At.X - y.At.X ≠ 0
  ·rw [if_pos h2]; omega
  rw [if_neg h2]; split
  ·omega
  split <;> omega
 have hc : cmpSpot x.At y.At = x.At.Y - y.At.Y := by
   unfold cmpSpot
   rw [if_pos h, wr64 x.At.Y (by omega), wr64 y.At.Y (by omega), wr64 _ (by omega)]
 rw [hc, if_pos (by omega)]; omega
instance : Inhabited {x : Hurdle // okHurdle x = true} := ⟨⟨⟨⟨0, 0⟩, false⟩, by decide⟩⟩
theorem sortHurdle_calls (blk off cap : Nat) (d : Array {x : Hurdle // okHurdle x = true}) (w : World) (h1 : Go.Sort.HoldsK (fun x : {x : Hurdle // okHurdle x = true} => cHurdle.enc x.1) cHurdle.sz w blk off d) (h2 : blk < w.heap.size) (h3 : d.size < 4611686018427387904) :
 Calls Tryz.prog 74 #[.slice (some ⟨blk, off, none⟩) d.size cap, .func (.func 75) #[] #[]] w fun e w' => e = .returned (.tuple #[]) ∧ ∃ n os, w' = sortWorldK (fun x : {x : Hurdle // okHurdle x = true} => cHurdle.enc x.1) cHurdle.sz w blk off n (d.toList.mergeSort fun x y => leHurdle x.1 y.1).toArray os := by
 have e : (fun x y : {x : Hurdle // okHurdle x = true} => !(ltOf fun x y : {x : Hurdle // okHurdle x = true} => cmpHurdle x.1 y.1) y x) = fun x y => leHurdle x.1 y.1 := by
   funext x y
   unfold ltOf leHurdle
   rw [ltHurdle y.2 x.2, ← decide_not, decide_eq_decide]
   omega
 rw [← e]
 have eg : ∀ args w, (callFunc 75 args).run Tryz.prog w = .ok (.enter 75 args) w := enters_of Tryz.func75 (by kernel_rfl) rfl
 refine AnyQ.slices_SortFunc_total laySortHurdle 3 (fun w => (run_isAgg (d := .struct #[{ name := "At", type := 55, offset := 0, embedded := false, tag := "", pkgPath := "", byteOffset := 0 }, { name := "South", type := 4, offset := 2, embedded := false, tag := "", pkgPath := "", byteOffset := 2 }]) (by kernel_rfl) w).trans rfl) (fun w => ?_) (fun x : {x : Hurdle // okHurdle x = true} => cHurdle.enc x.1) (fun x => rfl) (fun x v hv => cHurdle.one x.1 v hv) (fun x y => cmpHurdle x.1 y.1) ⟨fun x => ?_, fun x y z => ?_, fun x y z => ?_⟩ 75 #[] blk off cap d w eg (fun m os dk hs x y => ?_) h1 h2 h3 (fun x y h h' => ?_)
 ·obtain ⟨i, hi⟩ := info_of_underlying (P := Tryz.prog) (t := 58) (d := .struct #[{ name := "At", type := 55, offset := 0, embedded := false, tag := "", pkgPath := "", byteOffset := 0 }, { name := "South", type := 4, offset := 2, embedded := false, tag := "", pkgPath := "", byteOffset := 2 }]) (by kernel_rfl)
  exact (run_sizeOf w hi).trans (by kernel_rfl)
 ·unfold ltOf; rw [ltHurdle x.2 x.2]; simp
 ·unfold ltOf; rw [ltHurdle x.2 y.2, ltHurdle y.2 z.2, ltHurdle x.2 z.2]; simp only [decide_eq_true_eq]; omega
 ·unfold ltOf; rw [ltHurdle x.2 y.2, ltHurdle y.2 z.2, ltHurdle x.2 z.2]; simp only [decide_eq_false_iff_not]; omega
 ·exact cmpHurdle_calls x.1 y.1 _
 unfold ltOf at h h'
 rw [ltHurdle x.2 y.2, decide_eq_false_iff_not] at h
 rw [ltHurdle y.2 x.2, decide_eq_false_iff_not] at h'
 apply Subtype.ext
 obtain ⟨⟨⟨a, b⟩, s⟩, _⟩ := x
 obtain ⟨⟨⟨c, d⟩, t⟩, _⟩ := y
 simp only at h h'
 have hs : bitI s = bitI t := by omega
 have hs : s = t := by cases s <;> cases t <;> simp [bitI] at hs <;> rfl
 subst hs
 simp only [Hurdle.mk.injEq, Spot.mk.injEq, and_true]
 omega
end Go.Proofs.YtegibnmfiogebaaGreatDoor
