/-
  No cell of these rows narrows 'for every input' (looked for: loops, veiled, ifaces, maps, wideKeys, modest, calm, conditions, laid).
  DERIVED. THE GIVEN ROWS OF THIS SEAT. 2 by the template 'for every input the law returns true; each argument reads behind the call as it read before'; 0 by the template 'total and deterministic' (their statements: YtlmfhjjhgiobdaaTotals.lean).
  GIVEN WITH THE SEED: the statements are not yours to turn. If you find one false, say at which input.
  Laid BY PROGRAM, IN A SANDBOX (cutbox-rows.mjs): the forced cells as the released guide's own fill.sh prints them over the translation 4d2ad06874a7feab… (all of the seat's roots in one cut). By AI agents, Wed Nov 11 2026. No macro, syntax, notation, axiom, sorry.
-/
import Derived.Test.YtlmfhjjhgiobdaaChecked
import GoSem.Claim
import GoSem.ClaimJoined
import GoSem.ClaimMapViews
import Derived.JoinedTies
import Derived.KernelRfl
namespace Go.Proofs.Ytlmfhjjhgiobdaa
/- THE CELL 'sum', in the pinned program and in every row, IS THE sha256 OF THE DUMP (.gsa) THAT YtlmfhjjhgiobdaaProg.lean LOADS. Nothing in Lean hashes anything: it is a label: what it is worth is what the hold of that sum in a sandbox is worth. -/
noncomputable def Try.pinned : Pinned := { name := "ytlmfhjjhgiobdaa", sum := "4d2ad06874a7feabff62bcee3999955bfe9b1a144022c84de35d154de8beabcb", checked := Try.checked }
namespace Rows
def none {H : Type} : Left H := { results := [], args := [] }

/-- 'laws.FnExactMeadowsOf': WHATEVER THE INPUT: true; the input reads as it did. -/
def fnExactMeadowsOfSpec : ChangeSpec := { name := "fnExactMeadowsOf", fn := fun _ => fun
  | [d1, d2] => { results := [.lit (.bool true)], args := [d1, d2] }
  | _ => none }
def fnExactMeadowsOfRow : OpenClaim := { program := "ytlmfhjjhgiobdaa", sum := "4d2ad06874a7feabff62bcee3999955bfe9b1a144022c84de35d154de8beabcb", func := "loop.example/g01345/laws.FnExactMeadowsOf", spec := "fnExactMeadowsOf", unfollowed := true, recurses := true, plainKeys := false, apart := false }
def FnExactMeadowsOfSaid : Prop := fnExactMeadowsOfRow.holds Try.pinned (OpenSpec.ofChange fnExactMeadowsOfSpec)

/-- ITS FALSE NEIGHBOUR: 'it returns false'. Refute it at one input. -/
def fnExactMeadowsOfWrong : ChangeSpec := { name := "fnExactMeadowsOf", fn := fun _ => fun
  | [d1, d2] => { results := [.lit (.bool false)], args := [d1, d2] }
  | _ => none }
def FnExactMeadowsOfWrongFalsely : Prop := fnExactMeadowsOfRow.holds Try.pinned (OpenSpec.ofChange fnExactMeadowsOfWrong)

/-- 'laws.FnExactWateredYards': WHATEVER THE INPUT: true; the input reads as it did. -/
def fnExactWateredYardsSpec : ChangeSpec := { name := "fnExactWateredYards", fn := fun _ => fun
  | [d1, d2] => { results := [.lit (.bool true)], args := [d1, d2] }
  | _ => none }
def fnExactWateredYardsRow : OpenClaim := { program := "ytlmfhjjhgiobdaa", sum := "4d2ad06874a7feabff62bcee3999955bfe9b1a144022c84de35d154de8beabcb", func := "loop.example/g01345/laws.FnExactWateredYards", spec := "fnExactWateredYards", unfollowed := true, recurses := true, plainKeys := false, apart := false }
def FnExactWateredYardsSaid : Prop := fnExactWateredYardsRow.holds Try.pinned (OpenSpec.ofChange fnExactWateredYardsSpec)

/-- ITS FALSE NEIGHBOUR: 'it returns false'. Refute it at one input. -/
def fnExactWateredYardsWrong : ChangeSpec := { name := "fnExactWateredYards", fn := fun _ => fun
  | [d1, d2] => { results := [.lit (.bool false)], args := [d1, d2] }
  | _ => none }
def FnExactWateredYardsWrongFalsely : Prop := fnExactWateredYardsRow.holds Try.pinned (OpenSpec.ofChange fnExactWateredYardsWrong)

/- THE SECOND FORM. 'bulk': how many values and letters a reading holds, each counted each time it is reached (what is shared counts as often as it is met; a slice's spare places count too). A statement '..UptoSaid' is the law's where the arguments, and the package variables that the reading takes, are together of bulk at most 1048576: NARROWER than '..Said'. Prove '..Said' where nothing that the law and all that it calls make is longer than what came in: it says more and counts as full. Else prove '..UptoSaid'. A law counts once. -/
mutual
def uptoBulk {H : Type} : DataW H → Nat
  | .lit (.string bytes) => bytes.length + 1
  | .lit _ => 1
  | .nil => 1
  | .ptr d => uptoBulk d + 1
  | .slice elems spare => uptoBulkAll elems + uptoBulkAll spare + 1
  | .agg parts => uptoBulkAll parts + 1
  | .iface _ d => uptoBulk d + 1
  | .map entries => uptoBulkEntries entries + 1
  | .held _ => 1
def uptoBulkAll {H : Type} : List (DataW H) → Nat
  | [] => 0
  | d :: r => uptoBulk d + uptoBulkAll r
def uptoBulkEntries {H : Type} : List (Lit × DataW H) → Nat
  | [] => 0
  | x :: r => uptoBulkEntry x + uptoBulkEntries r
def uptoBulkEntry {H : Type} : Lit × DataW H → Nat
  | (.string bytes, d) => bytes.length + uptoBulk d + 1
  | (_, d) => uptoBulk d + 1
 end
def uptoSmall : (H : Type) → List (DataW H) → Bool := fun _ ds => decide (uptoBulkAll ds ≤ 1048576)
def OpenSpec.upto (s : _root_.Go.ChangeSpec) : _root_.Go.OpenSpec := { _root_.Go.OpenSpec.ofChange s with cond := some uptoSmall }

/-- 'laws.FnExactMeadowsOf', WHERE WHAT IT READS IS OF BULK AT MOST 1048576: true; the input reads as it did. -/
def fnExactMeadowsOfUptoRow : OpenClaim := { program := "ytlmfhjjhgiobdaa", sum := "4d2ad06874a7feabff62bcee3999955bfe9b1a144022c84de35d154de8beabcb", func := "loop.example/g01345/laws.FnExactMeadowsOf", spec := "fnExactMeadowsOf", unfollowed := true, recurses := true, plainKeys := false, apart := false, narrowed := true }
def FnExactMeadowsOfUptoSaid : Prop := fnExactMeadowsOfUptoRow.holds Try.pinned (OpenSpec.upto fnExactMeadowsOfSpec)

/-- 'laws.FnExactWateredYards', WHERE WHAT IT READS IS OF BULK AT MOST 1048576: true; the input reads as it did. -/
def fnExactWateredYardsUptoRow : OpenClaim := { program := "ytlmfhjjhgiobdaa", sum := "4d2ad06874a7feabff62bcee3999955bfe9b1a144022c84de35d154de8beabcb", func := "loop.example/g01345/laws.FnExactWateredYards", spec := "fnExactWateredYards", unfollowed := true, recurses := true, plainKeys := false, apart := false, narrowed := true }
def FnExactWateredYardsUptoSaid : Prop := fnExactWateredYardsUptoRow.holds Try.pinned (OpenSpec.upto fnExactWateredYardsSpec)

end Rows
end Go.Proofs.Ytlmfhjjhgiobdaa
