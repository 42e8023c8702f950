/-
  The tied card of the law FnExactPeaceGroups: it returns true at every input, and the input reads as it did. No further condition; the listed tables are tied to the program's text (a pruned copy), and the call does not read them.
-/
import Derived.Test.YtimpcenflahchaaDoorQFnExactPeaceGroups
import Derived.ChangeMaps5
import Derived.Test.YtimpcenflahchaaDoorCards
import Derived.Test.YtimpcenflahchaaDoorTie
import Derived.LaidMore
import Derived.Lay
import Derived.SevenTiedAt
import Derived.Stop.Joined
import Derived.Stop.LaidErr
import Derived.Lib.LaidTab
namespace Go.Proofs.YtimpcenflahchaaDoor
open G Go.ChangeShapes Go.WideShapes Go.ChangeAt Go.RowKit
set_option linter.unusedVariables false
set_option linter.unusedSimpArgs false
set_option maxRecDepth 100000
set_option maxHeartbeats 4000000
theorem FnExactPeaceGroups.lifted (os : Os) (started : os.Started) (H : Type) (enc : TypeId × Value → H) :
    ReturnsInHanded {} Tryd.checked os 8 .any (fun w args => (Rows.fnExactPeaceGroupsSpec.pre enc Tryd.prog Tryd.f8 Rows.fnExactPeaceGroupsRow.domain false w args ∧ laidMetH Tryd.prog Rows.fnExactPeaceGroupsRow.laid w) ∧ sizedMet enc Tryd.prog Tryd.f8 (OpenSpec.ofChange Rows.fnExactPeaceGroupsSpec) false w args)
      (Rows.fnExactPeaceGroupsSpec.post enc Tryd.prog Tryd.f8 false true false false) := by
  refine returnsInHanded_of_change_and (C := Tryd.checked) (X := fun w _ => laidMetH Tryd.prog Rows.fnExactPeaceGroupsRow.laid w) (fun _ _ _ hh h => h.of_heap hh) own started (by kernel_rfl) Tryd.func8
    (ChangeSpec.witness_shaped (enc := enc) (C := Tryd.checked) (os := os) (X := fun w _ => laidMetH Tryd.prog Rows.fnExactPeaceGroupsRow.laid w) false (World.laidAll Tryd.prog os Rows.fnExactPeaceGroupsRow.laid) #[.agg #[.slice none 0 0, .slice none 0 0, .slice none 0 0]] 8 (World.laidAll_os _ _ _)
      (World.shaped_of_ZipB (by kernel_rfl) (by kernel_rfl)) (by kernel_rfl) (by kernel_rfl) (by kernel_rfl)
      (by rw [MakeChecks.laidMetH_plain _ _ _ (by kernel_rfl)]; exact laidMet_laidAll _ (by kernel_rfl) (by kernel_rfl))) ?_
  intro W base args ds gs before hval0 hW hcnd hsz0 hL _
  have hsz : (DataW.weightsEach Tryd.prog (Tryd.f8.params.toList ++ Rows.fnExactPeaceGroupsSpec.plain.varTypes Tryd.prog) (ds ++ gs)).all (· ≤ reachBytes) = true := hsz0
  have hval : ∀ (j : Nat) t v, Tryd.f8.params[j]? = some t → args[j]? = some v → Value.okWide Tryd.prog W .any base t v := hval0
  have hW' := hW
  obtain ⟨p, q, hA0, hV, rfl, hfz, hnd⟩ := hW
  have hA : DataW.TrodAll enc Tryd.prog W 0 (fun _ => true) true Tryd.f8.params.toList args.toList ds p := hA0
  rw [Tryd.params8] at hA hval hsz
  obtain ⟨v0, vs0, d0, ds0, p0, q0, hargs, rfl, rfl, h0, r0⟩ := trodAll_cons hA
  obtain ⟨rfl, rfl, rfl⟩ := trodAll_nil r0
  obtain rfl : args = #[v0] := by cases args; simp_all
  obtain ⟨rfl, rfl⟩ := trodVars_none hV
  obtain ⟨cs0, rfl⟩ := okAgg (by kernel_rfl : Tryd.prog.underlying 26 = some (.struct #[{ name := "Names", type := 22, offset := 0, embedded := false, tag := "", pkgPath := "", byteOffset := 0 }, { name := "Eats", type := 23, offset := 1, embedded := false, tag := "", pkgPath := "", byteOffset := 24 }, { name := "Foes", type := 24, offset := 2, embedded := false, tag := "", pkgPath := "", byteOffset := 48 }])) (hval 0 26 v0 rfl rfl)
  have lt0 : ∀ x ∈ p0, x.block < W.heap.size := by obtain ⟨m, hm⟩ := h0; exact DataW.trod_lt m _ _ _ hm
  have hh0 := h0
  obtain ⟨fu0, hf0⟩ := hh0
  obtain ⟨hl0, hp0⟩ := fieldsOf' (by kernel_rfl : Tryd.prog.underlying 26 = some (.struct #[{ name := "Names", type := 22, offset := 0, embedded := false, tag := "", pkgPath := "", byteOffset := 0 }, { name := "Eats", type := 23, offset := 1, embedded := false, tag := "", pkgPath := "", byteOffset := 24 }, { name := "Foes", type := 24, offset := 2, embedded := false, tag := "", pkgPath := "", byteOffset := 48 }])) hf0
  rw [(by kernel_rfl : Tryd.prog.cellsOf 26 = 3)] at hl0
  obtain ⟨n0_0, y0_0, g0_0⟩ := hp0 0 _ rfl 0 1 rfl (by kernel_rfl)
  obtain ⟨A0_0, c0_0, x0_0, e0_0, hr0_0, hc0_0, hv0_0, hb0_0⟩ := openCell (C := G.cs) (V := fun s => s.size ≤ maxLen) (by kernel_rfl : Tryd.prog.underlying 22 = some (.slice 9)) (by kernel_rfl) opn9 g0_0
  obtain ⟨n0_1, y0_1, g0_1⟩ := hp0 1 _ rfl 1 1 rfl (by kernel_rfl)
  obtain ⟨A0_1, c0_1, x0_1, e0_1, hr0_1, hc0_1, hv0_1, hb0_1⟩ := openCell (C := (ci .i16)) (V := inI .i16) (by kernel_rfl : Tryd.prog.underlying 23 = some (.slice 73)) (by kernel_rfl) opn73 g0_1
  obtain ⟨n0_2, y0_2, g0_2⟩ := hp0 2 _ rfl 2 1 rfl (by kernel_rfl)
  obtain ⟨A0_2, c0_2, x0_2, e0_2, hr0_2, hc0_2, hv0_2, hb0_2⟩ := openCell (C := (ci .u16)) (V := inI .u16) (by kernel_rfl : Tryd.prog.underlying 24 = some (.slice 74)) (by kernel_rfl) opn74 g0_2
  have hcs0 := (glue e0_0 (glue e0_1 (glue e0_2 (glue0 hl0) rfl) rfl) rfl)
  rw [List.drop_zero] at hcs0
  obtain rfl : cs0 = List.toArray _ := Array.ext' hcs0
  clear hA0 hval0 hsz0 hsz
  obtain ⟨k, hk⟩ := FnExactPeaceGroups.pure (⟨x0_0, x0_1, x0_2⟩ : Herd) ⟨hv0_0, hb0_0, hv0_1, hb0_1, hv0_2, hb0_2⟩
  refine Calls.mono (laws_FnExactPeaceGroups.c k _ A0_0 c0_0 A0_1 c0_1 A0_2 c0_2 (⟨x0_0, x0_1, x0_2⟩ : Herd) hr0_0 hc0_0 hr0_1 hc0_1 hr0_2 hc0_2 _ hk) fun e W' ⟨v, he, hv, hx⟩ => ?_
  subst he hv
  have bel := hx.below
  exact ⟨_, rfl, _, _, _, [], _, [], hW', trodAll_mk1 (shut_bool Tryd.underlying4 _), (trodAll_cons_mk (Below.trod laidOut (by kernel_rfl) (of_decide_eq_true (by kernel_rfl)) h0 bel lt0) trodAll_mk0), rfl, bel.frame _, fun h => by cases h⟩
theorem FnExactPeaceGroups.over : Rows.fnExactPeaceGroupsRow.holds Tryd.pinned (OpenSpec.ofChange Rows.fnExactPeaceGroupsSpec) :=
  OpenClaim.holds_of_wide 8 Tryd.f8 rfl rfl rfl rfl rfl rfl rfl ⟨rfl, rfl, rfl, rfl, rfl⟩ rfl rfl rfl rfl rfl (by kernel_rfl) Tryd.func8 (by kernel_rfl)
    (of_decide_eq_true (by kernel_rfl)) (by unfold Func.isWrapper; first | (rw [if_pos (by decide +kernel)]; kernel_rfl) | (rw [if_neg (by decide +kernel)]; exact ⟨rfl, rfl⟩))
    (fun os started H enc _ => FnExactPeaceGroups.lifted os started H enc)
/-- The tied card. -/
theorem fnExactPeaceGroups_holds : Rows.FnExactPeaceGroupsCardSaid :=
  Claim7.holds_tied_plain_at .later [] [.data, .pinned] true (true, "f1ee44d62e26d6b942ae4ce47e3dae1866c28b75d2342f45ef9d1953277cfeae") false FnExactPeaceGroups.over (fun _ h => by cases h) (by kernel_rfl) (fun _ h => by cases h) fnExactPeaceGroups_row_tie rfl ⟨rfl, rfl⟩ (by kernel_rfl) rfl
    (fun f fn hf hfn => by
      obtain rfl : f = 8 := Option.some.inj ((show Tryd.prog.funcNamed "loop.example/g01345/laws.FnExactPeaceGroups" = some 8 by kernel_rfl).symm.trans hf) |>.symm
      obtain rfl : fn = Tryd.f8 := (Option.some.inj (Tryd.func8.symm.trans hfn)).symm
      exact ⟨by kernel_rfl, fun j t ht => by
        rw [Tryd.params8] at ht
        have hm : t ∈ [26] := by simpa using Array.mem_of_getElem? ht
        have hall : ([26].all fun u => !Tryd.prog.wantsStandIn u) = true := by kernel_rfl
        exact (show Tryd.prog.wantsStandIn t = false by simpa using List.all_eq_true.1 hall t hm)⟩)
    (by kernel_rfl)
end Go.Proofs.YtimpcenflahchaaDoor
