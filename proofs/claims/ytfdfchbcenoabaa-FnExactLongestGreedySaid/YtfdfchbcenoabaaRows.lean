/-
  No cell of these rows narrows 'for every input' (looked for: loops, veiled, ifaces, maps, wideKeys, modest, calm, conditions, laid).
  DERIVED. THE GIVEN ROWS OF THIS SEAT. 12 by the template 'for every input the law returns true; each argument reads behind the call as it read before'; 0 by the template 'total and deterministic' (their statements: YtfdfchbcenoabaaTotals.lean).
  GIVEN WITH THE SEED: the statements are not yours to turn. If you find one false, say at which input.
  Laid BY PROGRAM, IN A SANDBOX (cutbox-rows.mjs): the forced cells as the released guide's own fill.sh prints them over the translation 3f3fd365efffbb86… (all of the seat's roots in one cut). By AI agents, Wed Nov 11 2026. No macro, syntax, notation, axiom, sorry.
-/
import Derived.Test.YtfdfchbcenoabaaChecked
import GoSem.Claim
import GoSem.ClaimJoined
import GoSem.ClaimMapViews
import Derived.JoinedTies
import Derived.KernelRfl
namespace Go.Proofs.Ytfdfchbcenoabaa
/- THE CELL 'sum', in the pinned program and in every row, IS THE sha256 OF THE DUMP (.gsa) THAT YtfdfchbcenoabaaProg.lean LOADS. Nothing in Lean hashes anything: it is a label: what it is worth is what the hold of that sum in a sandbox is worth. -/
noncomputable def Try.pinned : Pinned := { name := "ytfdfchbcenoabaa", sum := "3f3fd365efffbb86758826371da6e62e80234ee968793ab9fbbe8776dd56bf26", checked := Try.checked }
namespace Rows
def none {H : Type} : Left H := { results := [], args := [] }

/-- 'laws.FnExactSameMeadows': WHATEVER THE INPUT: true; the input reads as it did. -/
def fnExactSameMeadowsSpec : ChangeSpec := { name := "fnExactSameMeadows", fn := fun _ => fun
  | [d1, d2] => { results := [.lit (.bool true)], args := [d1, d2] }
  | _ => none }
def fnExactSameMeadowsRow : OpenClaim := { program := "ytfdfchbcenoabaa", sum := "3f3fd365efffbb86758826371da6e62e80234ee968793ab9fbbe8776dd56bf26", func := "loop.example/g01345/laws.FnExactSameMeadows", spec := "fnExactSameMeadows", apart := false }
def FnExactSameMeadowsSaid : Prop := fnExactSameMeadowsRow.holds Try.pinned (OpenSpec.ofChange fnExactSameMeadowsSpec)

/-- ITS FALSE NEIGHBOUR: 'it returns false'. Refute it at one input. -/
def fnExactSameMeadowsWrong : ChangeSpec := { name := "fnExactSameMeadows", fn := fun _ => fun
  | [d1, d2] => { results := [.lit (.bool false)], args := [d1, d2] }
  | _ => none }
def FnExactSameMeadowsWrongFalsely : Prop := fnExactSameMeadowsRow.holds Try.pinned (OpenSpec.ofChange fnExactSameMeadowsWrong)

/-- 'laws.FnExactValidMeadows': WHATEVER THE INPUT: true; the input reads as it did. -/
def fnExactValidMeadowsSpec : ChangeSpec := { name := "fnExactValidMeadows", fn := fun _ => fun
  | [d] => { results := [.lit (.bool true)], args := [d] }
  | _ => none }
def fnExactValidMeadowsRow : OpenClaim := { program := "ytfdfchbcenoabaa", sum := "3f3fd365efffbb86758826371da6e62e80234ee968793ab9fbbe8776dd56bf26", func := "loop.example/g01345/laws.FnExactValidMeadows", spec := "fnExactValidMeadows", unfollowed := true, recurses := true, apart := false }
def FnExactValidMeadowsSaid : Prop := fnExactValidMeadowsRow.holds Try.pinned (OpenSpec.ofChange fnExactValidMeadowsSpec)

/-- ITS FALSE NEIGHBOUR: 'it returns false'. Refute it at one input. -/
def fnExactValidMeadowsWrong : ChangeSpec := { name := "fnExactValidMeadows", fn := fun _ => fun
  | [d] => { results := [.lit (.bool false)], args := [d] }
  | _ => none }
def FnExactValidMeadowsWrongFalsely : Prop := fnExactValidMeadowsRow.holds Try.pinned (OpenSpec.ofChange fnExactValidMeadowsWrong)

/-- 'laws.FnExactRestsOf': WHATEVER THE INPUT: true; the input reads as it did. -/
def fnExactRestsOfSpec : ChangeSpec := { name := "fnExactRestsOf", fn := fun _ => fun
  | [d1, d2] => { results := [.lit (.bool true)], args := [d1, d2] }
  | _ => none }
def fnExactRestsOfRow : OpenClaim := { program := "ytfdfchbcenoabaa", sum := "3f3fd365efffbb86758826371da6e62e80234ee968793ab9fbbe8776dd56bf26", func := "loop.example/g01345/laws.FnExactRestsOf", spec := "fnExactRestsOf", apart := false }
def FnExactRestsOfSaid : Prop := fnExactRestsOfRow.holds Try.pinned (OpenSpec.ofChange fnExactRestsOfSpec)

/-- ITS FALSE NEIGHBOUR: 'it returns false'. Refute it at one input. -/
def fnExactRestsOfWrong : ChangeSpec := { name := "fnExactRestsOf", fn := fun _ => fun
  | [d1, d2] => { results := [.lit (.bool false)], args := [d1, d2] }
  | _ => none }
def FnExactRestsOfWrongFalsely : Prop := fnExactRestsOfRow.holds Try.pinned (OpenSpec.ofChange fnExactRestsOfWrong)

/-- 'laws.FnExactEnoughFor': WHATEVER THE INPUT: true; the input reads as it did. -/
def fnExactEnoughForSpec : ChangeSpec := { name := "fnExactEnoughFor", fn := fun _ => fun
  | [d1, d2, d3] => { results := [.lit (.bool true)], args := [d1, d2, d3] }
  | _ => none }
def fnExactEnoughForRow : OpenClaim := { program := "ytfdfchbcenoabaa", sum := "3f3fd365efffbb86758826371da6e62e80234ee968793ab9fbbe8776dd56bf26", func := "loop.example/g01345/laws.FnExactEnoughFor", spec := "fnExactEnoughFor", unfollowed := true, recurses := true, apart := false }
def FnExactEnoughForSaid : Prop := fnExactEnoughForRow.holds Try.pinned (OpenSpec.ofChange fnExactEnoughForSpec)

/-- ITS FALSE NEIGHBOUR: 'it returns false'. Refute it at one input. -/
def fnExactEnoughForWrong : ChangeSpec := { name := "fnExactEnoughFor", fn := fun _ => fun
  | [d1, d2, d3] => { results := [.lit (.bool false)], args := [d1, d2, d3] }
  | _ => none }
def FnExactEnoughForWrongFalsely : Prop := fnExactEnoughForRow.holds Try.pinned (OpenSpec.ofChange fnExactEnoughForWrong)

/-- 'laws.FnExactDayBehind': WHATEVER THE INPUT: true; the input reads as it did. -/
def fnExactDayBehindSpec : ChangeSpec := { name := "fnExactDayBehind", fn := fun _ => fun
  | [d1, d2, d3] => { results := [.lit (.bool true)], args := [d1, d2, d3] }
  | _ => none }
def fnExactDayBehindRow : OpenClaim := { program := "ytfdfchbcenoabaa", sum := "3f3fd365efffbb86758826371da6e62e80234ee968793ab9fbbe8776dd56bf26", func := "loop.example/g01345/laws.FnExactDayBehind", spec := "fnExactDayBehind", unfollowed := true, recurses := true, apart := false }
def FnExactDayBehindSaid : Prop := fnExactDayBehindRow.holds Try.pinned (OpenSpec.ofChange fnExactDayBehindSpec)

/-- ITS FALSE NEIGHBOUR: 'it returns false'. Refute it at one input. -/
def fnExactDayBehindWrong : ChangeSpec := { name := "fnExactDayBehind", fn := fun _ => fun
  | [d1, d2, d3] => { results := [.lit (.bool false)], args := [d1, d2, d3] }
  | _ => none }
def FnExactDayBehindWrongFalsely : Prop := fnExactDayBehindRow.holds Try.pinned (OpenSpec.ofChange fnExactDayBehindWrong)

/-- 'laws.FnExactLongestGreedy': WHATEVER THE INPUT: true; the input reads as it did. -/
def fnExactLongestGreedySpec : ChangeSpec := { name := "fnExactLongestGreedy", fn := fun _ => fun
  | [d1, d2] => { results := [.lit (.bool true)], args := [d1, d2] }
  | _ => none }
def fnExactLongestGreedyRow : OpenClaim := { program := "ytfdfchbcenoabaa", sum := "3f3fd365efffbb86758826371da6e62e80234ee968793ab9fbbe8776dd56bf26", func := "loop.example/g01345/laws.FnExactLongestGreedy", spec := "fnExactLongestGreedy", unfollowed := true, recurses := true, apart := false }
def FnExactLongestGreedySaid : Prop := fnExactLongestGreedyRow.holds Try.pinned (OpenSpec.ofChange fnExactLongestGreedySpec)

/-- ITS FALSE NEIGHBOUR: 'it returns false'. Refute it at one input. -/
def fnExactLongestGreedyWrong : ChangeSpec := { name := "fnExactLongestGreedy", fn := fun _ => fun
  | [d1, d2] => { results := [.lit (.bool false)], args := [d1, d2] }
  | _ => none }
def FnExactLongestGreedyWrongFalsely : Prop := fnExactLongestGreedyRow.holds Try.pinned (OpenSpec.ofChange fnExactLongestGreedyWrong)

/-- 'laws.FnExactCheckPlan': WHATEVER THE INPUT: true; the input reads as it did. -/
def fnExactCheckPlanSpec : ChangeSpec := { name := "fnExactCheckPlan", fn := fun _ => fun
  | [d1, d2, d3] => { results := [.lit (.bool true)], args := [d1, d2, d3] }
  | _ => none }
def fnExactCheckPlanRow : OpenClaim := { program := "ytfdfchbcenoabaa", sum := "3f3fd365efffbb86758826371da6e62e80234ee968793ab9fbbe8776dd56bf26", func := "loop.example/g01345/laws.FnExactCheckPlan", spec := "fnExactCheckPlan", unfollowed := true, recurses := true, apart := false }
def FnExactCheckPlanSaid : Prop := fnExactCheckPlanRow.holds Try.pinned (OpenSpec.ofChange fnExactCheckPlanSpec)

/-- ITS FALSE NEIGHBOUR: 'it returns false'. Refute it at one input. -/
def fnExactCheckPlanWrong : ChangeSpec := { name := "fnExactCheckPlan", fn := fun _ => fun
  | [d1, d2, d3] => { results := [.lit (.bool false)], args := [d1, d2, d3] }
  | _ => none }
def FnExactCheckPlanWrongFalsely : Prop := fnExactCheckPlanRow.holds Try.pinned (OpenSpec.ofChange fnExactCheckPlanWrong)

/-- 'laws.FnExactFirstHungry': WHATEVER THE INPUT: true; the input reads as it did. -/
def fnExactFirstHungrySpec : ChangeSpec := { name := "fnExactFirstHungry", fn := fun _ => fun
  | [d1, d2, d3] => { results := [.lit (.bool true)], args := [d1, d2, d3] }
  | _ => none }
def fnExactFirstHungryRow : OpenClaim := { program := "ytfdfchbcenoabaa", sum := "3f3fd365efffbb86758826371da6e62e80234ee968793ab9fbbe8776dd56bf26", func := "loop.example/g01345/laws.FnExactFirstHungry", spec := "fnExactFirstHungry", unfollowed := true, recurses := true, apart := false }
def FnExactFirstHungrySaid : Prop := fnExactFirstHungryRow.holds Try.pinned (OpenSpec.ofChange fnExactFirstHungrySpec)

/-- ITS FALSE NEIGHBOUR: 'it returns false'. Refute it at one input. -/
def fnExactFirstHungryWrong : ChangeSpec := { name := "fnExactFirstHungry", fn := fun _ => fun
  | [d1, d2, d3] => { results := [.lit (.bool false)], args := [d1, d2, d3] }
  | _ => none }
def FnExactFirstHungryWrongFalsely : Prop := fnExactFirstHungryRow.holds Try.pinned (OpenSpec.ofChange fnExactFirstHungryWrong)

/-- 'laws.FnExactGreedyPlan': WHATEVER THE INPUT: true; the input reads as it did. -/
def fnExactGreedyPlanSpec : ChangeSpec := { name := "fnExactGreedyPlan", fn := fun _ => fun
  | [d1, d2, d3] => { results := [.lit (.bool true)], args := [d1, d2, d3] }
  | _ => none }
def fnExactGreedyPlanRow : OpenClaim := { program := "ytfdfchbcenoabaa", sum := "3f3fd365efffbb86758826371da6e62e80234ee968793ab9fbbe8776dd56bf26", func := "loop.example/g01345/laws.FnExactGreedyPlan", spec := "fnExactGreedyPlan", unfollowed := true, recurses := true, apart := false }
def FnExactGreedyPlanSaid : Prop := fnExactGreedyPlanRow.holds Try.pinned (OpenSpec.ofChange fnExactGreedyPlanSpec)

/-- ITS FALSE NEIGHBOUR: 'it returns false'. Refute it at one input. -/
def fnExactGreedyPlanWrong : ChangeSpec := { name := "fnExactGreedyPlan", fn := fun _ => fun
  | [d1, d2, d3] => { results := [.lit (.bool false)], args := [d1, d2, d3] }
  | _ => none }
def FnExactGreedyPlanWrongFalsely : Prop := fnExactGreedyPlanRow.holds Try.pinned (OpenSpec.ofChange fnExactGreedyPlanWrong)

/-- 'laws.FnExactGrassBehind': WHATEVER THE INPUT: true; the input reads as it did. -/
def fnExactGrassBehindSpec : ChangeSpec := { name := "fnExactGrassBehind", fn := fun _ => fun
  | [d1, d2, d3] => { results := [.lit (.bool true)], args := [d1, d2, d3] }
  | _ => none }
def fnExactGrassBehindRow : OpenClaim := { program := "ytfdfchbcenoabaa", sum := "3f3fd365efffbb86758826371da6e62e80234ee968793ab9fbbe8776dd56bf26", func := "loop.example/g01345/laws.FnExactGrassBehind", spec := "fnExactGrassBehind", unfollowed := true, recurses := true, apart := false }
def FnExactGrassBehindSaid : Prop := fnExactGrassBehindRow.holds Try.pinned (OpenSpec.ofChange fnExactGrassBehindSpec)

/-- ITS FALSE NEIGHBOUR: 'it returns false'. Refute it at one input. -/
def fnExactGrassBehindWrong : ChangeSpec := { name := "fnExactGrassBehind", fn := fun _ => fun
  | [d1, d2, d3] => { results := [.lit (.bool false)], args := [d1, d2, d3] }
  | _ => none }
def FnExactGrassBehindWrongFalsely : Prop := fnExactGrassBehindRow.holds Try.pinned (OpenSpec.ofChange fnExactGrassBehindWrong)

/-- 'laws.FnExactGreatestNeed': WHATEVER THE INPUT: true; the input reads as it did. -/
def fnExactGreatestNeedSpec : ChangeSpec := { name := "fnExactGreatestNeed", fn := fun _ => fun
  | [d1, d2, d3] => { results := [.lit (.bool true)], args := [d1, d2, d3] }
  | _ => none }
def fnExactGreatestNeedRow : OpenClaim := { program := "ytfdfchbcenoabaa", sum := "3f3fd365efffbb86758826371da6e62e80234ee968793ab9fbbe8776dd56bf26", func := "loop.example/g01345/laws.FnExactGreatestNeed", spec := "fnExactGreatestNeed", unfollowed := true, recurses := true, apart := false }
def FnExactGreatestNeedSaid : Prop := fnExactGreatestNeedRow.holds Try.pinned (OpenSpec.ofChange fnExactGreatestNeedSpec)

/-- ITS FALSE NEIGHBOUR: 'it returns false'. Refute it at one input. -/
def fnExactGreatestNeedWrong : ChangeSpec := { name := "fnExactGreatestNeed", fn := fun _ => fun
  | [d1, d2, d3] => { results := [.lit (.bool false)], args := [d1, d2, d3] }
  | _ => none }
def FnExactGreatestNeedWrongFalsely : Prop := fnExactGreatestNeedRow.holds Try.pinned (OpenSpec.ofChange fnExactGreatestNeedWrong)

/-- 'laws.FnExactFirstPlan': WHATEVER THE INPUT: true; the input reads as it did. -/
def fnExactFirstPlanSpec : ChangeSpec := { name := "fnExactFirstPlan", fn := fun _ => fun
  | [d1, d2, d3, d4] => { results := [.lit (.bool true)], args := [d1, d2, d3, d4] }
  | _ => none }
def fnExactFirstPlanRow : OpenClaim := { program := "ytfdfchbcenoabaa", sum := "3f3fd365efffbb86758826371da6e62e80234ee968793ab9fbbe8776dd56bf26", func := "loop.example/g01345/laws.FnExactFirstPlan", spec := "fnExactFirstPlan", unfollowed := true, recurses := true, apart := false }
def FnExactFirstPlanSaid : Prop := fnExactFirstPlanRow.holds Try.pinned (OpenSpec.ofChange fnExactFirstPlanSpec)

/-- ITS FALSE NEIGHBOUR: 'it returns false'. Refute it at one input. -/
def fnExactFirstPlanWrong : ChangeSpec := { name := "fnExactFirstPlan", fn := fun _ => fun
  | [d1, d2, d3, d4] => { results := [.lit (.bool false)], args := [d1, d2, d3, d4] }
  | _ => none }
def FnExactFirstPlanWrongFalsely : Prop := fnExactFirstPlanRow.holds Try.pinned (OpenSpec.ofChange fnExactFirstPlanWrong)

/- THE SECOND FORM. 'bulk': how many values and letters a reading holds, each counted each time it is reached (what is shared counts as often as it is met; a slice's spare places count too). A statement '..UptoSaid' is the law's where the arguments, and the package variables that the reading takes, are together of bulk at most 1048576: NARROWER than '..Said'. Prove '..Said' where nothing that the law and all that it calls make is longer than what came in: it says more and counts as full. Else prove '..UptoSaid'. A law counts once. -/
mutual
def uptoBulk {H : Type} : DataW H → Nat
  | .lit (.string bytes) => bytes.length + 1
  | .lit _ => 1
  | .nil => 1
  | .ptr d => uptoBulk d + 1
  | .slice elems spare => uptoBulkAll elems + uptoBulkAll spare + 1
  | .agg parts => uptoBulkAll parts + 1
  | .iface _ d => uptoBulk d + 1
  | .map entries => uptoBulkEntries entries + 1
  | .held _ => 1
def uptoBulkAll {H : Type} : List (DataW H) → Nat
  | [] => 0
  | d :: r => uptoBulk d + uptoBulkAll r
def uptoBulkEntries {H : Type} : List (Lit × DataW H) → Nat
  | [] => 0
  | x :: r => uptoBulkEntry x + uptoBulkEntries r
def uptoBulkEntry {H : Type} : Lit × DataW H → Nat
  | (.string bytes, d) => bytes.length + uptoBulk d + 1
  | (_, d) => uptoBulk d + 1
 end
def uptoSmall : (H : Type) → List (DataW H) → Bool := fun _ ds => decide (uptoBulkAll ds ≤ 1048576)
def OpenSpec.upto (s : _root_.Go.ChangeSpec) : _root_.Go.OpenSpec := { _root_.Go.OpenSpec.ofChange s with cond := some uptoSmall }

/-- 'laws.FnExactSameMeadows', WHERE WHAT IT READS IS OF BULK AT MOST 1048576: true; the input reads as it did. -/
def fnExactSameMeadowsUptoRow : OpenClaim := { program := "ytfdfchbcenoabaa", sum := "3f3fd365efffbb86758826371da6e62e80234ee968793ab9fbbe8776dd56bf26", func := "loop.example/g01345/laws.FnExactSameMeadows", spec := "fnExactSameMeadows", apart := false, narrowed := true }
def FnExactSameMeadowsUptoSaid : Prop := fnExactSameMeadowsUptoRow.holds Try.pinned (OpenSpec.upto fnExactSameMeadowsSpec)

/-- 'laws.FnExactValidMeadows', WHERE WHAT IT READS IS OF BULK AT MOST 1048576: true; the input reads as it did. -/
def fnExactValidMeadowsUptoRow : OpenClaim := { program := "ytfdfchbcenoabaa", sum := "3f3fd365efffbb86758826371da6e62e80234ee968793ab9fbbe8776dd56bf26", func := "loop.example/g01345/laws.FnExactValidMeadows", spec := "fnExactValidMeadows", unfollowed := true, recurses := true, apart := false, narrowed := true }
def FnExactValidMeadowsUptoSaid : Prop := fnExactValidMeadowsUptoRow.holds Try.pinned (OpenSpec.upto fnExactValidMeadowsSpec)

/-- 'laws.FnExactRestsOf', WHERE WHAT IT READS IS OF BULK AT MOST 1048576: true; the input reads as it did. -/
def fnExactRestsOfUptoRow : OpenClaim := { program := "ytfdfchbcenoabaa", sum := "3f3fd365efffbb86758826371da6e62e80234ee968793ab9fbbe8776dd56bf26", func := "loop.example/g01345/laws.FnExactRestsOf", spec := "fnExactRestsOf", apart := false, narrowed := true }
def FnExactRestsOfUptoSaid : Prop := fnExactRestsOfUptoRow.holds Try.pinned (OpenSpec.upto fnExactRestsOfSpec)

/-- 'laws.FnExactEnoughFor', WHERE WHAT IT READS IS OF BULK AT MOST 1048576: true; the input reads as it did. -/
def fnExactEnoughForUptoRow : OpenClaim := { program := "ytfdfchbcenoabaa", sum := "3f3fd365efffbb86758826371da6e62e80234ee968793ab9fbbe8776dd56bf26", func := "loop.example/g01345/laws.FnExactEnoughFor", spec := "fnExactEnoughFor", unfollowed := true, recurses := true, apart := false, narrowed := true }
def FnExactEnoughForUptoSaid : Prop := fnExactEnoughForUptoRow.holds Try.pinned (OpenSpec.upto fnExactEnoughForSpec)

/-- 'laws.FnExactDayBehind', WHERE WHAT IT READS IS OF BULK AT MOST 1048576: true; the input reads as it did. -/
def fnExactDayBehindUptoRow : OpenClaim := { program := "ytfdfchbcenoabaa", sum := "3f3fd365efffbb86758826371da6e62e80234ee968793ab9fbbe8776dd56bf26", func := "loop.example/g01345/laws.FnExactDayBehind", spec := "fnExactDayBehind", unfollowed := true, recurses := true, apart := false, narrowed := true }
def FnExactDayBehindUptoSaid : Prop := fnExactDayBehindUptoRow.holds Try.pinned (OpenSpec.upto fnExactDayBehindSpec)

/-- 'laws.FnExactLongestGreedy', WHERE WHAT IT READS IS OF BULK AT MOST 1048576: true; the input reads as it did. -/
def fnExactLongestGreedyUptoRow : OpenClaim := { program := "ytfdfchbcenoabaa", sum := "3f3fd365efffbb86758826371da6e62e80234ee968793ab9fbbe8776dd56bf26", func := "loop.example/g01345/laws.FnExactLongestGreedy", spec := "fnExactLongestGreedy", unfollowed := true, recurses := true, apart := false, narrowed := true }
def FnExactLongestGreedyUptoSaid : Prop := fnExactLongestGreedyUptoRow.holds Try.pinned (OpenSpec.upto fnExactLongestGreedySpec)

/-- 'laws.FnExactCheckPlan', WHERE WHAT IT READS IS OF BULK AT MOST 1048576: true; the input reads as it did. -/
def fnExactCheckPlanUptoRow : OpenClaim := { program := "ytfdfchbcenoabaa", sum := "3f3fd365efffbb86758826371da6e62e80234ee968793ab9fbbe8776dd56bf26", func := "loop.example/g01345/laws.FnExactCheckPlan", spec := "fnExactCheckPlan", unfollowed := true, recurses := true, apart := false, narrowed := true }
def FnExactCheckPlanUptoSaid : Prop := fnExactCheckPlanUptoRow.holds Try.pinned (OpenSpec.upto fnExactCheckPlanSpec)

/-- 'laws.FnExactFirstHungry', WHERE WHAT IT READS IS OF BULK AT MOST 1048576: true; the input reads as it did. -/
def fnExactFirstHungryUptoRow : OpenClaim := { program := "ytfdfchbcenoabaa", sum := "3f3fd365efffbb86758826371da6e62e80234ee968793ab9fbbe8776dd56bf26", func := "loop.example/g01345/laws.FnExactFirstHungry", spec := "fnExactFirstHungry", unfollowed := true, recurses := true, apart := false, narrowed := true }
def FnExactFirstHungryUptoSaid : Prop := fnExactFirstHungryUptoRow.holds Try.pinned (OpenSpec.upto fnExactFirstHungrySpec)

/-- 'laws.FnExactGreedyPlan', WHERE WHAT IT READS IS OF BULK AT MOST 1048576: true; the input reads as it did. -/
def fnExactGreedyPlanUptoRow : OpenClaim := { program := "ytfdfchbcenoabaa", sum := "3f3fd365efffbb86758826371da6e62e80234ee968793ab9fbbe8776dd56bf26", func := "loop.example/g01345/laws.FnExactGreedyPlan", spec := "fnExactGreedyPlan", unfollowed := true, recurses := true, apart := false, narrowed := true }
def FnExactGreedyPlanUptoSaid : Prop := fnExactGreedyPlanUptoRow.holds Try.pinned (OpenSpec.upto fnExactGreedyPlanSpec)

/-- 'laws.FnExactGrassBehind', WHERE WHAT IT READS IS OF BULK AT MOST 1048576: true; the input reads as it did. -/
def fnExactGrassBehindUptoRow : OpenClaim := { program := "ytfdfchbcenoabaa", sum := "3f3fd365efffbb86758826371da6e62e80234ee968793ab9fbbe8776dd56bf26", func := "loop.example/g01345/laws.FnExactGrassBehind", spec := "fnExactGrassBehind", unfollowed := true, recurses := true, apart := false, narrowed := true }
def FnExactGrassBehindUptoSaid : Prop := fnExactGrassBehindUptoRow.holds Try.pinned (OpenSpec.upto fnExactGrassBehindSpec)

/-- 'laws.FnExactGreatestNeed', WHERE WHAT IT READS IS OF BULK AT MOST 1048576: true; the input reads as it did. -/
def fnExactGreatestNeedUptoRow : OpenClaim := { program := "ytfdfchbcenoabaa", sum := "3f3fd365efffbb86758826371da6e62e80234ee968793ab9fbbe8776dd56bf26", func := "loop.example/g01345/laws.FnExactGreatestNeed", spec := "fnExactGreatestNeed", unfollowed := true, recurses := true, apart := false, narrowed := true }
def FnExactGreatestNeedUptoSaid : Prop := fnExactGreatestNeedUptoRow.holds Try.pinned (OpenSpec.upto fnExactGreatestNeedSpec)

/-- 'laws.FnExactFirstPlan', WHERE WHAT IT READS IS OF BULK AT MOST 1048576: true; the input reads as it did. -/
def fnExactFirstPlanUptoRow : OpenClaim := { program := "ytfdfchbcenoabaa", sum := "3f3fd365efffbb86758826371da6e62e80234ee968793ab9fbbe8776dd56bf26", func := "loop.example/g01345/laws.FnExactFirstPlan", spec := "fnExactFirstPlan", unfollowed := true, recurses := true, apart := false, narrowed := true }
def FnExactFirstPlanUptoSaid : Prop := fnExactFirstPlanUptoRow.holds Try.pinned (OpenSpec.upto fnExactFirstPlanSpec)

end Rows
end Go.Proofs.Ytfdfchbcenoabaa
