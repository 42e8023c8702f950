/-
  The tied card of the law FnExactReadPasture: it returns true at every input, and the input reads as it did. No further condition; the listed tables are tied to the program's text (a pruned copy), and the call does not read them.
-/
import Derived.Test.YthlljmjaaljdnaaDoorQFnExactReadPasture
import Derived.ChangeMaps5
import Derived.Test.YthlljmjaaljdnaaDoorCards
import Derived.Test.YthlljmjaaljdnaaDoorTie
import Derived.LaidMore
import Derived.Lay
import Derived.SevenTiedAt
import Derived.Stop.Joined
import Derived.Stop.LaidErr
import Derived.Lib.LaidTab
namespace Go.Proofs.YthlljmjaaljdnaaDoor
open G Go.ChangeShapes Go.WideShapes Go.ChangeAt Go.RowKit
set_option linter.unusedVariables false
set_option linter.unusedSimpArgs false
set_option maxRecDepth 100000
set_option maxHeartbeats 4000000
theorem FnExactReadPasture.lifted (os : Os) (started : os.Started) (H : Type) (enc : TypeId × Value → H) :
    ReturnsInHanded {} Tryd.checked os 3 .any (fun w args => (Rows.fnExactReadPastureSpec.pre enc Tryd.prog Tryd.f3 Rows.fnExactReadPastureRow.domain false w args ∧ laidMetH Tryd.prog Rows.fnExactReadPastureRow.laid w) ∧ sizedMet enc Tryd.prog Tryd.f3 (OpenSpec.ofChange Rows.fnExactReadPastureSpec) false w args)
      (Rows.fnExactReadPastureSpec.post enc Tryd.prog Tryd.f3 false true false false) := by
  refine returnsIn_shaped (C := Tryd.checked) (X := fun w _ => laidMetH Tryd.prog Rows.fnExactReadPastureRow.laid w) (fun _ _ _ hh h => h.of_heap hh) own started (by kernel_rfl) Tryd.func3
    (ChangeSpec.witness_shaped (enc := enc) (C := Tryd.checked) (os := os) (X := fun w _ => laidMetH Tryd.prog Rows.fnExactReadPastureRow.laid w) false (World.laidAll Tryd.prog os Rows.fnExactReadPastureRow.laid) #[.string ByteArray.empty] 8 (World.laidAll_os _ _ _)
      (World.shaped_of_ZipB (by kernel_rfl) (by kernel_rfl)) (by kernel_rfl) (by kernel_rfl) (by kernel_rfl)
      (by rw [MakeChecks.laidMetH_plain _ _ _ (by kernel_rfl)]; exact laidMet_laidAll _ (by kernel_rfl) (by kernel_rfl))) ?_
  intro W base args ds gs before hval0 hW hcnd hsz0 hL hsh _
  have hsz : (DataW.weightsEach Tryd.prog (Tryd.f3.params.toList ++ Rows.fnExactReadPastureSpec.plain.varTypes Tryd.prog) (ds ++ gs)).all (· ≤ reachBytes) = true := hsz0
  have hval : ∀ (j : Nat) t v, Tryd.f3.params[j]? = some t → args[j]? = some v → Value.okWide Tryd.prog W .any base t v := hval0
  have hW' := hW
  obtain ⟨p, q, hA0, hV, rfl, hfz, hnd⟩ := hW
  have hA : DataW.TrodAll enc Tryd.prog W 0 (fun _ => true) true Tryd.f3.params.toList args.toList ds p := hA0
  rw [Tryd.params3] at hA hval hsz
  obtain ⟨v0, vs0, d0, ds0, p0, q0, hargs, rfl, rfl, h0, r0⟩ := trodAll_cons hA
  obtain ⟨rfl, rfl, rfl⟩ := trodAll_nil r0
  obtain rfl : args = #[v0] := by cases args; simp_all
  obtain ⟨rfl, rfl⟩ := trodVars_none hV
  obtain ⟨x0, rfl, rfl, rfl, hv0⟩ := Go.ChangeMaps.open_string Tryd.underlying9 (hval 0 9 v0 rfl rfl) h0
  have hL1 : laidMet Tryd.prog Rows.fnExactReadPastureRow.laid W := by
    have h := hL
    rw [MakeChecks.laidMetH_plain _ _ _ (by kernel_rfl)] at h
    exact h
  have hE0 : (tabC Tryd.prog).holds W := Go.Lib.tabIs_of_head (g := 5) (t := 127) (e := 95) (n := 20) (by kernel_rfl) (by kernel_rfl) (by kernel_rfl) (by kernel_rfl) (by kernel_rfl) (by kernel_rfl) (hL1.tail.tail)
  have hE1 : (errC Tryd.prog "strconv.ErrSyntax").holds W := by
    obtain ⟨a, _, h, _⟩ := laid_sentinel (hL1.tail.tail.tail.tail.tail) (g := 1) (by kernel_rfl) (by kernel_rfl) Tryd.underlying63 errRow Tryd.underlying123 Tryd.underlying125 rfl rfl Tryd.underlying9 (by kernel_rfl) (by kernel_rfl)
    exact ⟨_, _, h⟩
  have hE2 : (errC Tryd.prog "strconv.ErrRange").holds W := by
    obtain ⟨a, _, h, _⟩ := laid_sentinel (hL1.tail.tail.tail.tail) (g := 2) (by kernel_rfl) (by kernel_rfl) Tryd.underlying63 errRow Tryd.underlying123 Tryd.underlying125 rfl rfl Tryd.underlying9 (by kernel_rfl) (by kernel_rfl)
    exact ⟨_, _, h⟩
  have hT : (envC Tryd.prog 0).holds W := ⟨hE0, laySplit.s1_3 W hsh, hE1, hE2⟩
  clear hA0 hval0 hsz0 hsz
  obtain ⟨k, hk⟩ := FnExactReadPasture.pure x0 hv0
  refine Calls.mono (laws_FnExactReadPasture.c k _ x0 hT _ hk) fun e W' ⟨v, he, hv, hx⟩ => ?_
  subst he hv
  have bel := hx.below
  exact ⟨_, rfl, _, _, _, [], _, [], hW', trodAll_mk1 (shut_bool Tryd.underlying4 _), (trodAll_cons_mk (Go.ChangeMaps.shut_string Tryd.underlying9 hv0) trodAll_mk0), rfl, bel.frame _, fun h => by cases h⟩
theorem FnExactReadPasture.over : Rows.fnExactReadPastureRow.holds Tryd.pinned (OpenSpec.ofChange Rows.fnExactReadPastureSpec) :=
  OpenClaim.holds_of_wide 3 Tryd.f3 rfl rfl rfl rfl rfl rfl rfl ⟨rfl, rfl, rfl, rfl, rfl⟩ rfl rfl rfl rfl rfl (by kernel_rfl) Tryd.func3 (by kernel_rfl)
    (of_decide_eq_true (by kernel_rfl)) (by unfold Func.isWrapper; first | (rw [if_pos (by decide +kernel)]; kernel_rfl) | (rw [if_neg (by decide +kernel)]; exact ⟨rfl, rfl⟩))
    (fun os started H enc _ => FnExactReadPasture.lifted os started H enc)
/-- The tied card. -/
theorem fnExactReadPasture_holds : Rows.FnExactReadPastureCardSaid :=
  Claim7.holds_tied_plain_at .later [] [.data, .data, .data, .data, .sentinel, .sentinel, .pinned] true (true, "3cf6411b7ce73c628972be92f44f524a1a4b83d98a42fb3180841cdf63e5477a") true FnExactReadPasture.over (fun _ h => by cases h) (by kernel_rfl) (fun _ h => by cases h) fnExactReadPasture_row_tie rfl ⟨rfl, rfl⟩ (by kernel_rfl) rfl
    (fun f fn hf hfn => by
      obtain rfl : f = 3 := Option.some.inj ((show Tryd.prog.funcNamed "loop.example/g01345/laws.FnExactReadPasture" = some 3 by kernel_rfl).symm.trans hf) |>.symm
      obtain rfl : fn = Tryd.f3 := (Option.some.inj (Tryd.func3.symm.trans hfn)).symm
      exact ⟨by kernel_rfl, fun j t ht => by
        rw [Tryd.params3] at ht
        have hm : t ∈ [9] := by simpa using Array.mem_of_getElem? ht
        have hall : ([9].all fun u => !Tryd.prog.wantsStandIn u) = true := by kernel_rfl
        exact (show Tryd.prog.wantsStandIn t = false by simpa using List.all_eq_true.1 hall t hm)⟩)
    (by kernel_rfl)
end Go.Proofs.YthlljmjaaljdnaaDoor
