/-
  No cell of these rows narrows 'for every input' (looked for: loops, veiled, ifaces, maps, wideKeys, modest, calm, conditions, laid).
  DERIVED. THE GIVEN ROWS OF THIS SEAT. 9 by the template 'for every input the law returns true; each argument reads behind the call as it read before'; 0 by the template 'total and deterministic' (their statements: YtpaciifeklccfaaTotals.lean).
  GIVEN WITH THE SEED: the statements are not yours to turn. If you find one false, say at which input.
  Laid BY PROGRAM, IN A SANDBOX (cutbox-rows.mjs): the forced cells as the released guide's own fill.sh prints them over the translation 62d6f774c471e954… (all of the seat's roots in one cut). By AI agents, Wed Nov 11 2026. No macro, syntax, notation, axiom, sorry.
-/
import Derived.Test.YtpaciifeklccfaaChecked
import GoSem.Claim
import GoSem.ClaimJoined
import GoSem.ClaimMapViews
import Derived.JoinedTies
import Derived.KernelRfl
namespace Go.Proofs.Ytpaciifeklccfaa
/- THE CELL 'sum', in the pinned program and in every row, IS THE sha256 OF THE DUMP (.gsa) THAT YtpaciifeklccfaaProg.lean LOADS. Nothing in Lean hashes anything: it is a label: what it is worth is what the hold of that sum in a sandbox is worth. -/
noncomputable def Try.pinned : Pinned := { name := "ytpaciifeklccfaa", sum := "62d6f774c471e95401fadd654eb8b50c0f8eb96a2dc3a1f8959fcacc4a4e0334", checked := Try.checked }
namespace Rows
def none {H : Type} : Left H := { results := [], args := [] }

/-- 'laws.FnExactCutColumn': WHATEVER THE INPUT: true; the input reads as it did. -/
def fnExactCutColumnSpec : ChangeSpec := { name := "fnExactCutColumn", fn := fun _ => fun
  | [d1, d2, d3] => { results := [.lit (.bool true)], args := [d1, d2, d3] }
  | _ => none }
def fnExactCutColumnRow : OpenClaim := { program := "ytpaciifeklccfaa", sum := "62d6f774c471e95401fadd654eb8b50c0f8eb96a2dc3a1f8959fcacc4a4e0334", func := "loop.example/g01345/laws.FnExactCutColumn", spec := "fnExactCutColumn", unfollowed := true, recurses := true, plainKeys := false, apart := false }
def FnExactCutColumnSaid : Prop := fnExactCutColumnRow.holds Try.pinned (OpenSpec.ofChange fnExactCutColumnSpec)

/-- ITS FALSE NEIGHBOUR: 'it returns false'. Refute it at one input. -/
def fnExactCutColumnWrong : ChangeSpec := { name := "fnExactCutColumn", fn := fun _ => fun
  | [d1, d2, d3] => { results := [.lit (.bool false)], args := [d1, d2, d3] }
  | _ => none }
def FnExactCutColumnWrongFalsely : Prop := fnExactCutColumnRow.holds Try.pinned (OpenSpec.ofChange fnExactCutColumnWrong)

/-- 'laws.FnExactValidSights': WHATEVER THE INPUT: true; the input reads as it did. -/
def fnExactValidSightsSpec : ChangeSpec := { name := "fnExactValidSights", fn := fun _ => fun
  | [d1, d2] => { results := [.lit (.bool true)], args := [d1, d2] }
  | _ => none }
def fnExactValidSightsRow : OpenClaim := { program := "ytpaciifeklccfaa", sum := "62d6f774c471e95401fadd654eb8b50c0f8eb96a2dc3a1f8959fcacc4a4e0334", func := "loop.example/g01345/laws.FnExactValidSights", spec := "fnExactValidSights", plainKeys := false, apart := false }
def FnExactValidSightsSaid : Prop := fnExactValidSightsRow.holds Try.pinned (OpenSpec.ofChange fnExactValidSightsSpec)

/-- ITS FALSE NEIGHBOUR: 'it returns false'. Refute it at one input. -/
def fnExactValidSightsWrong : ChangeSpec := { name := "fnExactValidSights", fn := fun _ => fun
  | [d1, d2] => { results := [.lit (.bool false)], args := [d1, d2] }
  | _ => none }
def FnExactValidSightsWrongFalsely : Prop := fnExactValidSightsRow.holds Try.pinned (OpenSpec.ofChange fnExactValidSightsWrong)

/-- 'laws.FnExactGreatestNeed': WHATEVER THE INPUT: true; the input reads as it did. -/
def fnExactGreatestNeedSpec : ChangeSpec := { name := "fnExactGreatestNeed", fn := fun _ => fun
  | [d1, d2, d3] => { results := [.lit (.bool true)], args := [d1, d2, d3] }
  | _ => none }
def fnExactGreatestNeedRow : OpenClaim := { program := "ytpaciifeklccfaa", sum := "62d6f774c471e95401fadd654eb8b50c0f8eb96a2dc3a1f8959fcacc4a4e0334", func := "loop.example/g01345/laws.FnExactGreatestNeed", spec := "fnExactGreatestNeed", unfollowed := true, recurses := true, plainKeys := false, apart := false }
def FnExactGreatestNeedSaid : Prop := fnExactGreatestNeedRow.holds Try.pinned (OpenSpec.ofChange fnExactGreatestNeedSpec)

/-- ITS FALSE NEIGHBOUR: 'it returns false'. Refute it at one input. -/
def fnExactGreatestNeedWrong : ChangeSpec := { name := "fnExactGreatestNeed", fn := fun _ => fun
  | [d1, d2, d3] => { results := [.lit (.bool false)], args := [d1, d2, d3] }
  | _ => none }
def FnExactGreatestNeedWrongFalsely : Prop := fnExactGreatestNeedRow.holds Try.pinned (OpenSpec.ofChange fnExactGreatestNeedWrong)

/-- 'laws.FnExactFirstPlan': WHATEVER THE INPUT: true; the input reads as it did. -/
def fnExactFirstPlanSpec : ChangeSpec := { name := "fnExactFirstPlan", fn := fun _ => fun
  | [d1, d2, d3, d4] => { results := [.lit (.bool true)], args := [d1, d2, d3, d4] }
  | _ => none }
def fnExactFirstPlanRow : OpenClaim := { program := "ytpaciifeklccfaa", sum := "62d6f774c471e95401fadd654eb8b50c0f8eb96a2dc3a1f8959fcacc4a4e0334", func := "loop.example/g01345/laws.FnExactFirstPlan", spec := "fnExactFirstPlan", unfollowed := true, recurses := true, plainKeys := false, apart := false }
def FnExactFirstPlanSaid : Prop := fnExactFirstPlanRow.holds Try.pinned (OpenSpec.ofChange fnExactFirstPlanSpec)

/-- ITS FALSE NEIGHBOUR: 'it returns false'. Refute it at one input. -/
def fnExactFirstPlanWrong : ChangeSpec := { name := "fnExactFirstPlan", fn := fun _ => fun
  | [d1, d2, d3, d4] => { results := [.lit (.bool false)], args := [d1, d2, d3, d4] }
  | _ => none }
def FnExactFirstPlanWrongFalsely : Prop := fnExactFirstPlanRow.holds Try.pinned (OpenSpec.ofChange fnExactFirstPlanWrong)

/-- 'laws.FnExactFirstStrange': WHATEVER THE INPUT: true; the input reads as it did. -/
def fnExactFirstStrangeSpec : ChangeSpec := { name := "fnExactFirstStrange", fn := fun _ => fun
  | [d1, d2, d3] => { results := [.lit (.bool true)], args := [d1, d2, d3] }
  | _ => none }
def fnExactFirstStrangeRow : OpenClaim := { program := "ytpaciifeklccfaa", sum := "62d6f774c471e95401fadd654eb8b50c0f8eb96a2dc3a1f8959fcacc4a4e0334", func := "loop.example/g01345/laws.FnExactFirstStrange", spec := "fnExactFirstStrange", plainKeys := false, apart := false }
def FnExactFirstStrangeSaid : Prop := fnExactFirstStrangeRow.holds Try.pinned (OpenSpec.ofChange fnExactFirstStrangeSpec)

/-- ITS FALSE NEIGHBOUR: 'it returns false'. Refute it at one input. -/
def fnExactFirstStrangeWrong : ChangeSpec := { name := "fnExactFirstStrange", fn := fun _ => fun
  | [d1, d2, d3] => { results := [.lit (.bool false)], args := [d1, d2, d3] }
  | _ => none }
def FnExactFirstStrangeWrongFalsely : Prop := fnExactFirstStrangeRow.holds Try.pinned (OpenSpec.ofChange fnExactFirstStrangeWrong)

/-- 'laws.FnExactMeadowsOf': WHATEVER THE INPUT: true; the input reads as it did. -/
def fnExactMeadowsOfSpec : ChangeSpec := { name := "fnExactMeadowsOf", fn := fun _ => fun
  | [d1, d2] => { results := [.lit (.bool true)], args := [d1, d2] }
  | _ => none }
def fnExactMeadowsOfRow : OpenClaim := { program := "ytpaciifeklccfaa", sum := "62d6f774c471e95401fadd654eb8b50c0f8eb96a2dc3a1f8959fcacc4a4e0334", func := "loop.example/g01345/laws.FnExactMeadowsOf", spec := "fnExactMeadowsOf", unfollowed := true, recurses := true, plainKeys := false, apart := false }
def FnExactMeadowsOfSaid : Prop := fnExactMeadowsOfRow.holds Try.pinned (OpenSpec.ofChange fnExactMeadowsOfSpec)

/-- ITS FALSE NEIGHBOUR: 'it returns false'. Refute it at one input. -/
def fnExactMeadowsOfWrong : ChangeSpec := { name := "fnExactMeadowsOf", fn := fun _ => fun
  | [d1, d2] => { results := [.lit (.bool false)], args := [d1, d2] }
  | _ => none }
def FnExactMeadowsOfWrongFalsely : Prop := fnExactMeadowsOfRow.holds Try.pinned (OpenSpec.ofChange fnExactMeadowsOfWrong)

/-- 'laws.FnExactWateredYards': WHATEVER THE INPUT: true; the input reads as it did. -/
def fnExactWateredYardsSpec : ChangeSpec := { name := "fnExactWateredYards", fn := fun _ => fun
  | [d1, d2] => { results := [.lit (.bool true)], args := [d1, d2] }
  | _ => none }
def fnExactWateredYardsRow : OpenClaim := { program := "ytpaciifeklccfaa", sum := "62d6f774c471e95401fadd654eb8b50c0f8eb96a2dc3a1f8959fcacc4a4e0334", func := "loop.example/g01345/laws.FnExactWateredYards", spec := "fnExactWateredYards", unfollowed := true, recurses := true, plainKeys := false, apart := false }
def FnExactWateredYardsSaid : Prop := fnExactWateredYardsRow.holds Try.pinned (OpenSpec.ofChange fnExactWateredYardsSpec)

/-- ITS FALSE NEIGHBOUR: 'it returns false'. Refute it at one input. -/
def fnExactWateredYardsWrong : ChangeSpec := { name := "fnExactWateredYards", fn := fun _ => fun
  | [d1, d2] => { results := [.lit (.bool false)], args := [d1, d2] }
  | _ => none }
def FnExactWateredYardsWrongFalsely : Prop := fnExactWateredYardsRow.holds Try.pinned (OpenSpec.ofChange fnExactWateredYardsWrong)

/-- 'laws.FnSeasons': WHATEVER THE INPUT: true; the input reads as it did. -/
def fnSeasonsSpec : ChangeSpec := { name := "fnSeasons", fn := fun _ => fun
  | [d1, d2] => { results := [.lit (.bool true)], args := [d1, d2] }
  | _ => none }
def fnSeasonsRow : OpenClaim := { program := "ytpaciifeklccfaa", sum := "62d6f774c471e95401fadd654eb8b50c0f8eb96a2dc3a1f8959fcacc4a4e0334", func := "loop.example/g01345/laws.FnSeasons", spec := "fnSeasons", unfollowed := true, recurses := true, plainKeys := false, apart := false }
def FnSeasonsSaid : Prop := fnSeasonsRow.holds Try.pinned (OpenSpec.ofChange fnSeasonsSpec)

/-- ITS FALSE NEIGHBOUR: 'it returns false'. Refute it at one input. -/
def fnSeasonsWrong : ChangeSpec := { name := "fnSeasons", fn := fun _ => fun
  | [d1, d2] => { results := [.lit (.bool false)], args := [d1, d2] }
  | _ => none }
def FnSeasonsWrongFalsely : Prop := fnSeasonsRow.holds Try.pinned (OpenSpec.ofChange fnSeasonsWrong)

/-- 'laws.FnExactExplainedBy': WHATEVER THE INPUT: true; the input reads as it did. -/
def fnExactExplainedBySpec : ChangeSpec := { name := "fnExactExplainedBy", fn := fun _ => fun
  | [d1, d2, d3] => { results := [.lit (.bool true)], args := [d1, d2, d3] }
  | _ => none }
def fnExactExplainedByRow : OpenClaim := { program := "ytpaciifeklccfaa", sum := "62d6f774c471e95401fadd654eb8b50c0f8eb96a2dc3a1f8959fcacc4a4e0334", func := "loop.example/g01345/laws.FnExactExplainedBy", spec := "fnExactExplainedBy", unfollowed := true, recurses := true, plainKeys := false, apart := false }
def FnExactExplainedBySaid : Prop := fnExactExplainedByRow.holds Try.pinned (OpenSpec.ofChange fnExactExplainedBySpec)

/-- ITS FALSE NEIGHBOUR: 'it returns false'. Refute it at one input. -/
def fnExactExplainedByWrong : ChangeSpec := { name := "fnExactExplainedBy", fn := fun _ => fun
  | [d1, d2, d3] => { results := [.lit (.bool false)], args := [d1, d2, d3] }
  | _ => none }
def FnExactExplainedByWrongFalsely : Prop := fnExactExplainedByRow.holds Try.pinned (OpenSpec.ofChange fnExactExplainedByWrong)

/- THE SECOND FORM. 'bulk': how many values and letters a reading holds, each counted each time it is reached (what is shared counts as often as it is met; a slice's spare places count too). A statement '..UptoSaid' is the law's where the arguments, and the package variables that the reading takes, are together of bulk at most 1048576: NARROWER than '..Said'. Prove '..Said' where nothing that the law and all that it calls make is longer than what came in: it says more and counts as full. Else prove '..UptoSaid'. A law counts once. -/
mutual
def uptoBulk {H : Type} : DataW H → Nat
  | .lit (.string bytes) => bytes.length + 1
  | .lit _ => 1
  | .nil => 1
  | .ptr d => uptoBulk d + 1
  | .slice elems spare => uptoBulkAll elems + uptoBulkAll spare + 1
  | .agg parts => uptoBulkAll parts + 1
  | .iface _ d => uptoBulk d + 1
  | .map entries => uptoBulkEntries entries + 1
  | .held _ => 1
def uptoBulkAll {H : Type} : List (DataW H) → Nat
  | [] => 0
  | d :: r => uptoBulk d + uptoBulkAll r
def uptoBulkEntries {H : Type} : List (Lit × DataW H) → Nat
  | [] => 0
  | x :: r => uptoBulkEntry x + uptoBulkEntries r
def uptoBulkEntry {H : Type} : Lit × DataW H → Nat
  | (.string bytes, d) => bytes.length + uptoBulk d + 1
  | (_, d) => uptoBulk d + 1
 end
def uptoSmall : (H : Type) → List (DataW H) → Bool := fun _ ds => decide (uptoBulkAll ds ≤ 1048576)
def OpenSpec.upto (s : _root_.Go.ChangeSpec) : _root_.Go.OpenSpec := { _root_.Go.OpenSpec.ofChange s with cond := some uptoSmall }

/-- 'laws.FnExactCutColumn', WHERE WHAT IT READS IS OF BULK AT MOST 1048576: true; the input reads as it did. -/
def fnExactCutColumnUptoRow : OpenClaim := { program := "ytpaciifeklccfaa", sum := "62d6f774c471e95401fadd654eb8b50c0f8eb96a2dc3a1f8959fcacc4a4e0334", func := "loop.example/g01345/laws.FnExactCutColumn", spec := "fnExactCutColumn", unfollowed := true, recurses := true, plainKeys := false, apart := false, narrowed := true }
def FnExactCutColumnUptoSaid : Prop := fnExactCutColumnUptoRow.holds Try.pinned (OpenSpec.upto fnExactCutColumnSpec)

/-- 'laws.FnExactValidSights', WHERE WHAT IT READS IS OF BULK AT MOST 1048576: true; the input reads as it did. -/
def fnExactValidSightsUptoRow : OpenClaim := { program := "ytpaciifeklccfaa", sum := "62d6f774c471e95401fadd654eb8b50c0f8eb96a2dc3a1f8959fcacc4a4e0334", func := "loop.example/g01345/laws.FnExactValidSights", spec := "fnExactValidSights", plainKeys := false, apart := false, narrowed := true }
def FnExactValidSightsUptoSaid : Prop := fnExactValidSightsUptoRow.holds Try.pinned (OpenSpec.upto fnExactValidSightsSpec)

/-- 'laws.FnExactGreatestNeed', WHERE WHAT IT READS IS OF BULK AT MOST 1048576: true; the input reads as it did. -/
def fnExactGreatestNeedUptoRow : OpenClaim := { program := "ytpaciifeklccfaa", sum := "62d6f774c471e95401fadd654eb8b50c0f8eb96a2dc3a1f8959fcacc4a4e0334", func := "loop.example/g01345/laws.FnExactGreatestNeed", spec := "fnExactGreatestNeed", unfollowed := true, recurses := true, plainKeys := false, apart := false, narrowed := true }
def FnExactGreatestNeedUptoSaid : Prop := fnExactGreatestNeedUptoRow.holds Try.pinned (OpenSpec.upto fnExactGreatestNeedSpec)

/-- 'laws.FnExactFirstPlan', WHERE WHAT IT READS IS OF BULK AT MOST 1048576: true; the input reads as it did. -/
def fnExactFirstPlanUptoRow : OpenClaim := { program := "ytpaciifeklccfaa", sum := "62d6f774c471e95401fadd654eb8b50c0f8eb96a2dc3a1f8959fcacc4a4e0334", func := "loop.example/g01345/laws.FnExactFirstPlan", spec := "fnExactFirstPlan", unfollowed := true, recurses := true, plainKeys := false, apart := false, narrowed := true }
def FnExactFirstPlanUptoSaid : Prop := fnExactFirstPlanUptoRow.holds Try.pinned (OpenSpec.upto fnExactFirstPlanSpec)

/-- 'laws.FnExactFirstStrange', WHERE WHAT IT READS IS OF BULK AT MOST 1048576: true; the input reads as it did. -/
def fnExactFirstStrangeUptoRow : OpenClaim := { program := "ytpaciifeklccfaa", sum := "62d6f774c471e95401fadd654eb8b50c0f8eb96a2dc3a1f8959fcacc4a4e0334", func := "loop.example/g01345/laws.FnExactFirstStrange", spec := "fnExactFirstStrange", plainKeys := false, apart := false, narrowed := true }
def FnExactFirstStrangeUptoSaid : Prop := fnExactFirstStrangeUptoRow.holds Try.pinned (OpenSpec.upto fnExactFirstStrangeSpec)

/-- 'laws.FnExactMeadowsOf', WHERE WHAT IT READS IS OF BULK AT MOST 1048576: true; the input reads as it did. -/
def fnExactMeadowsOfUptoRow : OpenClaim := { program := "ytpaciifeklccfaa", sum := "62d6f774c471e95401fadd654eb8b50c0f8eb96a2dc3a1f8959fcacc4a4e0334", func := "loop.example/g01345/laws.FnExactMeadowsOf", spec := "fnExactMeadowsOf", unfollowed := true, recurses := true, plainKeys := false, apart := false, narrowed := true }
def FnExactMeadowsOfUptoSaid : Prop := fnExactMeadowsOfUptoRow.holds Try.pinned (OpenSpec.upto fnExactMeadowsOfSpec)

/-- 'laws.FnExactWateredYards', WHERE WHAT IT READS IS OF BULK AT MOST 1048576: true; the input reads as it did. -/
def fnExactWateredYardsUptoRow : OpenClaim := { program := "ytpaciifeklccfaa", sum := "62d6f774c471e95401fadd654eb8b50c0f8eb96a2dc3a1f8959fcacc4a4e0334", func := "loop.example/g01345/laws.FnExactWateredYards", spec := "fnExactWateredYards", unfollowed := true, recurses := true, plainKeys := false, apart := false, narrowed := true }
def FnExactWateredYardsUptoSaid : Prop := fnExactWateredYardsUptoRow.holds Try.pinned (OpenSpec.upto fnExactWateredYardsSpec)

/-- 'laws.FnSeasons', WHERE WHAT IT READS IS OF BULK AT MOST 1048576: true; the input reads as it did. -/
def fnSeasonsUptoRow : OpenClaim := { program := "ytpaciifeklccfaa", sum := "62d6f774c471e95401fadd654eb8b50c0f8eb96a2dc3a1f8959fcacc4a4e0334", func := "loop.example/g01345/laws.FnSeasons", spec := "fnSeasons", unfollowed := true, recurses := true, plainKeys := false, apart := false, narrowed := true }
def FnSeasonsUptoSaid : Prop := fnSeasonsUptoRow.holds Try.pinned (OpenSpec.upto fnSeasonsSpec)

/-- 'laws.FnExactExplainedBy', WHERE WHAT IT READS IS OF BULK AT MOST 1048576: true; the input reads as it did. -/
def fnExactExplainedByUptoRow : OpenClaim := { program := "ytpaciifeklccfaa", sum := "62d6f774c471e95401fadd654eb8b50c0f8eb96a2dc3a1f8959fcacc4a4e0334", func := "loop.example/g01345/laws.FnExactExplainedBy", spec := "fnExactExplainedBy", unfollowed := true, recurses := true, plainKeys := false, apart := false, narrowed := true }
def FnExactExplainedByUptoSaid : Prop := fnExactExplainedByUptoRow.holds Try.pinned (OpenSpec.upto fnExactExplainedBySpec)

end Rows
end Go.Proofs.Ytpaciifeklccfaa
