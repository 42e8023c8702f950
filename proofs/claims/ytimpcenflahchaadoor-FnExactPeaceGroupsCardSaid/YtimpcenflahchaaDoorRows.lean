/-
  NARROWER THAN 'FOR EVERY INPUT', by the rows' own cells (each row's printed sentence says how): FnExactValidHerd: laid · FnExactAreFoes: laid · FnExactCheckGroups: laid · FnExactFirstQuarrel: laid · FnExactFoesOf: laid · FnExactPeaceGroups: laid · FnExactJoinHerds: laid · FnExactNeedsOf: laid · FnExactFewestGroups: laid · FnExactAddToHerd: laid · FnExactAllFoes: laid.
  DERIVED. THE GIVEN ROWS OF THIS SEAT. 11 by the template 'for every input the law returns true; each argument reads behind the call as it read before'; 0 by the template 'total and deterministic' (their statements: YtimpcenflahchaaDoorTotals.lean).
  GIVEN WITH THE SEED: the statements are not yours to turn. If you find one false, say at which input.
  Laid BY PROGRAM, IN A SANDBOX (cutbox-rows.mjs): the forced cells as the released guide's own fill.sh prints them over the translation 2dfc1d22077bd171… (all of the seat's roots in one cut). By AI agents, Wed Nov 11 2026. No macro, syntax, notation, axiom, sorry.
-/
import Derived.Test.YtimpcenflahchaaDoorChecked
import GoSem.PinnedTables
import GoSem.Claim
import GoSem.ClaimJoined
import GoSem.ClaimMapViews
import Derived.JoinedTies
import Derived.KernelRfl
namespace Go.Proofs.YtimpcenflahchaaDoor
/- THE CELL 'sum', in the pinned program and in every row, IS THE sha256 OF THE DUMP (.gsa) THAT YtimpcenflahchaaDoorProg.lean LOADS. Nothing in Lean hashes anything: it is a label: what it is worth is what the hold of that sum in a sandbox is worth. -/
noncomputable def Tryd.pinned : Pinned := { name := "ytimpcenflahchaadoor", sum := "2dfc1d22077bd171935d0b52e20025a0a971b1e1f58e148bede8f50afdb1493c", checked := Tryd.checked }
namespace Rows
def none {H : Type} : Left H := { results := [], args := [] }

/- WHAT THE LISTED PACKAGE-LEVEL VARIABLES READ AS WHEN THE CALL BEGINS. Each datum BY PROGRAM (the guide's laid-datum.mjs) off the statement by which the dump's own 'gosem.cut.vars' lays the variable. In a bare row this is a premise. The card (YtimpcenflahchaaDoorCards.lean) ties it to the program's text. -/
def laid_unicode_utf8_acceptRanges {H : Type} : DataW H := .agg [.agg [.lit (.int .u8 128), .lit (.int .u8 191)], .agg [.lit (.int .u8 160), .lit (.int .u8 191)], .agg [.lit (.int .u8 128), .lit (.int .u8 159)], .agg [.lit (.int .u8 144), .lit (.int .u8 191)], .agg [.lit (.int .u8 128), .lit (.int .u8 143)], .agg [.lit (.int .u8 0), .lit (.int .u8 0)], .agg [.lit (.int .u8 0), .lit (.int .u8 0)], .agg [.lit (.int .u8 0), .lit (.int .u8 0)], .agg [.lit (.int .u8 0), .lit (.int .u8 0)], .agg [.lit (.int .u8 0), .lit (.int .u8 0)], .agg [.lit (.int .u8 0), .lit (.int .u8 0)], .agg [.lit (.int .u8 0), .lit (.int .u8 0)], .agg [.lit (.int .u8 0), .lit (.int .u8 0)], .agg [.lit (.int .u8 0), .lit (.int .u8 0)], .agg [.lit (.int .u8 0), .lit (.int .u8 0)], .agg [.lit (.int .u8 0), .lit (.int .u8 0)]]
/-- One of Go's own tables, pinned by name: the form's constant. -/
def laid_unicode_utf8_first : DataW Unit := Go.Pinned.utf8First

/-- 'laws.FnExactValidHerd': WHATEVER THE INPUT: true; the input reads as it did. -/
def fnExactValidHerdSpec : ChangeSpec := { name := "fnExactValidHerd", fn := fun _ => fun
  | [d] => { results := [.lit (.bool true)], args := [d] }
  | _ => none }
def fnExactValidHerdRow : OpenClaim := { program := "ytimpcenflahchaadoor", sum := "2dfc1d22077bd171935d0b52e20025a0a971b1e1f58e148bede8f50afdb1493c", func := "loop.example/g01345/laws.FnExactValidHerd", spec := "fnExactValidHerd", inPlace := ["internal/bytealg.IndexByteString", "internal/bytealg.IndexString"], named := ["unicode/utf8.first", "unicode/utf8.acceptRanges", "internal/bytealg.MaxLen"], apart := false, laid := [("unicode/utf8.acceptRanges", laid_unicode_utf8_acceptRanges), ("unicode/utf8.first", laid_unicode_utf8_first)] }
def FnExactValidHerdSaid : Prop := fnExactValidHerdRow.holds Tryd.pinned (OpenSpec.ofChange fnExactValidHerdSpec)

/-- ITS FALSE NEIGHBOUR: 'it returns false'. Refute it at one input. -/
def fnExactValidHerdWrong : ChangeSpec := { name := "fnExactValidHerd", fn := fun _ => fun
  | [d] => { results := [.lit (.bool false)], args := [d] }
  | _ => none }
def FnExactValidHerdWrongFalsely : Prop := fnExactValidHerdRow.holds Tryd.pinned (OpenSpec.ofChange fnExactValidHerdWrong)

/-- 'laws.FnExactAreFoes': WHATEVER THE INPUT: true; the input reads as it did. -/
def fnExactAreFoesSpec : ChangeSpec := { name := "fnExactAreFoes", fn := fun _ => fun
  | [d1, d2, d3] => { results := [.lit (.bool true)], args := [d1, d2, d3] }
  | _ => none }
def fnExactAreFoesRow : OpenClaim := { program := "ytimpcenflahchaadoor", sum := "2dfc1d22077bd171935d0b52e20025a0a971b1e1f58e148bede8f50afdb1493c", func := "loop.example/g01345/laws.FnExactAreFoes", spec := "fnExactAreFoes", inPlace := ["internal/bytealg.IndexByteString", "internal/bytealg.IndexString"], unfollowed := true, recurses := true, named := ["unicode/utf8.first", "unicode/utf8.acceptRanges", "internal/bytealg.MaxLen"], apart := false, laid := [("unicode/utf8.acceptRanges", laid_unicode_utf8_acceptRanges), ("unicode/utf8.first", laid_unicode_utf8_first)] }
def FnExactAreFoesSaid : Prop := fnExactAreFoesRow.holds Tryd.pinned (OpenSpec.ofChange fnExactAreFoesSpec)

/-- ITS FALSE NEIGHBOUR: 'it returns false'. Refute it at one input. -/
def fnExactAreFoesWrong : ChangeSpec := { name := "fnExactAreFoes", fn := fun _ => fun
  | [d1, d2, d3] => { results := [.lit (.bool false)], args := [d1, d2, d3] }
  | _ => none }
def FnExactAreFoesWrongFalsely : Prop := fnExactAreFoesRow.holds Tryd.pinned (OpenSpec.ofChange fnExactAreFoesWrong)

/-- 'laws.FnExactCheckGroups': WHATEVER THE INPUT: true; the input reads as it did. -/
def fnExactCheckGroupsSpec : ChangeSpec := { name := "fnExactCheckGroups", fn := fun _ => fun
  | [d1, d2] => { results := [.lit (.bool true)], args := [d1, d2] }
  | _ => none }
def fnExactCheckGroupsRow : OpenClaim := { program := "ytimpcenflahchaadoor", sum := "2dfc1d22077bd171935d0b52e20025a0a971b1e1f58e148bede8f50afdb1493c", func := "loop.example/g01345/laws.FnExactCheckGroups", spec := "fnExactCheckGroups", inPlace := ["internal/bytealg.IndexByteString", "internal/bytealg.IndexString"], unfollowed := true, recurses := true, named := ["unicode/utf8.first", "unicode/utf8.acceptRanges", "internal/bytealg.MaxLen"], apart := false, laid := [("unicode/utf8.acceptRanges", laid_unicode_utf8_acceptRanges), ("unicode/utf8.first", laid_unicode_utf8_first)] }
def FnExactCheckGroupsSaid : Prop := fnExactCheckGroupsRow.holds Tryd.pinned (OpenSpec.ofChange fnExactCheckGroupsSpec)

/-- ITS FALSE NEIGHBOUR: 'it returns false'. Refute it at one input. -/
def fnExactCheckGroupsWrong : ChangeSpec := { name := "fnExactCheckGroups", fn := fun _ => fun
  | [d1, d2] => { results := [.lit (.bool false)], args := [d1, d2] }
  | _ => none }
def FnExactCheckGroupsWrongFalsely : Prop := fnExactCheckGroupsRow.holds Tryd.pinned (OpenSpec.ofChange fnExactCheckGroupsWrong)

/-- 'laws.FnExactFirstQuarrel': WHATEVER THE INPUT: true; the input reads as it did. -/
def fnExactFirstQuarrelSpec : ChangeSpec := { name := "fnExactFirstQuarrel", fn := fun _ => fun
  | [d1, d2] => { results := [.lit (.bool true)], args := [d1, d2] }
  | _ => none }
def fnExactFirstQuarrelRow : OpenClaim := { program := "ytimpcenflahchaadoor", sum := "2dfc1d22077bd171935d0b52e20025a0a971b1e1f58e148bede8f50afdb1493c", func := "loop.example/g01345/laws.FnExactFirstQuarrel", spec := "fnExactFirstQuarrel", inPlace := ["internal/bytealg.IndexByteString", "internal/bytealg.IndexString"], unfollowed := true, recurses := true, named := ["unicode/utf8.first", "unicode/utf8.acceptRanges", "internal/bytealg.MaxLen"], apart := false, laid := [("unicode/utf8.acceptRanges", laid_unicode_utf8_acceptRanges), ("unicode/utf8.first", laid_unicode_utf8_first)] }
def FnExactFirstQuarrelSaid : Prop := fnExactFirstQuarrelRow.holds Tryd.pinned (OpenSpec.ofChange fnExactFirstQuarrelSpec)

/-- ITS FALSE NEIGHBOUR: 'it returns false'. Refute it at one input. -/
def fnExactFirstQuarrelWrong : ChangeSpec := { name := "fnExactFirstQuarrel", fn := fun _ => fun
  | [d1, d2] => { results := [.lit (.bool false)], args := [d1, d2] }
  | _ => none }
def FnExactFirstQuarrelWrongFalsely : Prop := fnExactFirstQuarrelRow.holds Tryd.pinned (OpenSpec.ofChange fnExactFirstQuarrelWrong)

/-- 'laws.FnExactFoesOf': WHATEVER THE INPUT: true; the input reads as it did. -/
def fnExactFoesOfSpec : ChangeSpec := { name := "fnExactFoesOf", fn := fun _ => fun
  | [d1, d2] => { results := [.lit (.bool true)], args := [d1, d2] }
  | _ => none }
def fnExactFoesOfRow : OpenClaim := { program := "ytimpcenflahchaadoor", sum := "2dfc1d22077bd171935d0b52e20025a0a971b1e1f58e148bede8f50afdb1493c", func := "loop.example/g01345/laws.FnExactFoesOf", spec := "fnExactFoesOf", inPlace := ["internal/bytealg.IndexByteString", "internal/bytealg.IndexString"], unfollowed := true, recurses := true, named := ["unicode/utf8.first", "unicode/utf8.acceptRanges", "internal/bytealg.MaxLen"], apart := false, laid := [("unicode/utf8.acceptRanges", laid_unicode_utf8_acceptRanges), ("unicode/utf8.first", laid_unicode_utf8_first)] }
def FnExactFoesOfSaid : Prop := fnExactFoesOfRow.holds Tryd.pinned (OpenSpec.ofChange fnExactFoesOfSpec)

/-- ITS FALSE NEIGHBOUR: 'it returns false'. Refute it at one input. -/
def fnExactFoesOfWrong : ChangeSpec := { name := "fnExactFoesOf", fn := fun _ => fun
  | [d1, d2] => { results := [.lit (.bool false)], args := [d1, d2] }
  | _ => none }
def FnExactFoesOfWrongFalsely : Prop := fnExactFoesOfRow.holds Tryd.pinned (OpenSpec.ofChange fnExactFoesOfWrong)

/-- 'laws.FnExactPeaceGroups': WHATEVER THE INPUT: true; the input reads as it did. -/
def fnExactPeaceGroupsSpec : ChangeSpec := { name := "fnExactPeaceGroups", fn := fun _ => fun
  | [d] => { results := [.lit (.bool true)], args := [d] }
  | _ => none }
def fnExactPeaceGroupsRow : OpenClaim := { program := "ytimpcenflahchaadoor", sum := "2dfc1d22077bd171935d0b52e20025a0a971b1e1f58e148bede8f50afdb1493c", func := "loop.example/g01345/laws.FnExactPeaceGroups", spec := "fnExactPeaceGroups", inPlace := ["internal/bytealg.IndexByteString", "internal/bytealg.IndexString"], named := ["unicode/utf8.first", "unicode/utf8.acceptRanges", "internal/bytealg.MaxLen"], apart := false, laid := [("unicode/utf8.acceptRanges", laid_unicode_utf8_acceptRanges), ("unicode/utf8.first", laid_unicode_utf8_first)] }
def FnExactPeaceGroupsSaid : Prop := fnExactPeaceGroupsRow.holds Tryd.pinned (OpenSpec.ofChange fnExactPeaceGroupsSpec)

/-- ITS FALSE NEIGHBOUR: 'it returns false'. Refute it at one input. -/
def fnExactPeaceGroupsWrong : ChangeSpec := { name := "fnExactPeaceGroups", fn := fun _ => fun
  | [d] => { results := [.lit (.bool false)], args := [d] }
  | _ => none }
def FnExactPeaceGroupsWrongFalsely : Prop := fnExactPeaceGroupsRow.holds Tryd.pinned (OpenSpec.ofChange fnExactPeaceGroupsWrong)

/-- 'laws.FnExactJoinHerds': WHATEVER THE INPUT: true; the input reads as it did. -/
def fnExactJoinHerdsSpec : ChangeSpec := { name := "fnExactJoinHerds", fn := fun _ => fun
  | [d1, d2] => { results := [.lit (.bool true)], args := [d1, d2] }
  | _ => none }
def fnExactJoinHerdsRow : OpenClaim := { program := "ytimpcenflahchaadoor", sum := "2dfc1d22077bd171935d0b52e20025a0a971b1e1f58e148bede8f50afdb1493c", func := "loop.example/g01345/laws.FnExactJoinHerds", spec := "fnExactJoinHerds", inPlace := ["internal/bytealg.IndexByteString", "internal/bytealg.IndexString"], unfollowed := true, recurses := true, named := ["unicode/utf8.first", "unicode/utf8.acceptRanges", "internal/bytealg.MaxLen"], apart := false, laid := [("unicode/utf8.acceptRanges", laid_unicode_utf8_acceptRanges), ("unicode/utf8.first", laid_unicode_utf8_first)] }
def FnExactJoinHerdsSaid : Prop := fnExactJoinHerdsRow.holds Tryd.pinned (OpenSpec.ofChange fnExactJoinHerdsSpec)

/-- ITS FALSE NEIGHBOUR: 'it returns false'. Refute it at one input. -/
def fnExactJoinHerdsWrong : ChangeSpec := { name := "fnExactJoinHerds", fn := fun _ => fun
  | [d1, d2] => { results := [.lit (.bool false)], args := [d1, d2] }
  | _ => none }
def FnExactJoinHerdsWrongFalsely : Prop := fnExactJoinHerdsRow.holds Tryd.pinned (OpenSpec.ofChange fnExactJoinHerdsWrong)

/-- 'laws.FnExactNeedsOf': WHATEVER THE INPUT: true; the input reads as it did. -/
def fnExactNeedsOfSpec : ChangeSpec := { name := "fnExactNeedsOf", fn := fun _ => fun
  | [d1, d2] => { results := [.lit (.bool true)], args := [d1, d2] }
  | _ => none }
def fnExactNeedsOfRow : OpenClaim := { program := "ytimpcenflahchaadoor", sum := "2dfc1d22077bd171935d0b52e20025a0a971b1e1f58e148bede8f50afdb1493c", func := "loop.example/g01345/laws.FnExactNeedsOf", spec := "fnExactNeedsOf", inPlace := ["internal/bytealg.IndexByteString", "internal/bytealg.IndexString"], unfollowed := true, recurses := true, named := ["unicode/utf8.first", "unicode/utf8.acceptRanges", "internal/bytealg.MaxLen"], apart := false, laid := [("unicode/utf8.acceptRanges", laid_unicode_utf8_acceptRanges), ("unicode/utf8.first", laid_unicode_utf8_first)] }
def FnExactNeedsOfSaid : Prop := fnExactNeedsOfRow.holds Tryd.pinned (OpenSpec.ofChange fnExactNeedsOfSpec)

/-- ITS FALSE NEIGHBOUR: 'it returns false'. Refute it at one input. -/
def fnExactNeedsOfWrong : ChangeSpec := { name := "fnExactNeedsOf", fn := fun _ => fun
  | [d1, d2] => { results := [.lit (.bool false)], args := [d1, d2] }
  | _ => none }
def FnExactNeedsOfWrongFalsely : Prop := fnExactNeedsOfRow.holds Tryd.pinned (OpenSpec.ofChange fnExactNeedsOfWrong)

/-- 'laws.FnExactFewestGroups': WHATEVER THE INPUT: true; the input reads as it did. -/
def fnExactFewestGroupsSpec : ChangeSpec := { name := "fnExactFewestGroups", fn := fun _ => fun
  | [d] => { results := [.lit (.bool true)], args := [d] }
  | _ => none }
def fnExactFewestGroupsRow : OpenClaim := { program := "ytimpcenflahchaadoor", sum := "2dfc1d22077bd171935d0b52e20025a0a971b1e1f58e148bede8f50afdb1493c", func := "loop.example/g01345/laws.FnExactFewestGroups", spec := "fnExactFewestGroups", inPlace := ["internal/bytealg.IndexByteString", "internal/bytealg.IndexString"], unfollowed := true, recurses := true, named := ["unicode/utf8.first", "unicode/utf8.acceptRanges", "internal/bytealg.MaxLen"], apart := false, laid := [("unicode/utf8.acceptRanges", laid_unicode_utf8_acceptRanges), ("unicode/utf8.first", laid_unicode_utf8_first)] }
def FnExactFewestGroupsSaid : Prop := fnExactFewestGroupsRow.holds Tryd.pinned (OpenSpec.ofChange fnExactFewestGroupsSpec)

/-- ITS FALSE NEIGHBOUR: 'it returns false'. Refute it at one input. -/
def fnExactFewestGroupsWrong : ChangeSpec := { name := "fnExactFewestGroups", fn := fun _ => fun
  | [d] => { results := [.lit (.bool false)], args := [d] }
  | _ => none }
def FnExactFewestGroupsWrongFalsely : Prop := fnExactFewestGroupsRow.holds Tryd.pinned (OpenSpec.ofChange fnExactFewestGroupsWrong)

/-- 'laws.FnExactAddToHerd': WHATEVER THE INPUT: true; the input reads as it did. -/
def fnExactAddToHerdSpec : ChangeSpec := { name := "fnExactAddToHerd", fn := fun _ => fun
  | [d1, d2, d3] => { results := [.lit (.bool true)], args := [d1, d2, d3] }
  | _ => none }
def fnExactAddToHerdRow : OpenClaim := { program := "ytimpcenflahchaadoor", sum := "2dfc1d22077bd171935d0b52e20025a0a971b1e1f58e148bede8f50afdb1493c", func := "loop.example/g01345/laws.FnExactAddToHerd", spec := "fnExactAddToHerd", inPlace := ["internal/bytealg.IndexByteString", "internal/bytealg.IndexString"], unfollowed := true, recurses := true, named := ["unicode/utf8.first", "unicode/utf8.acceptRanges", "internal/bytealg.MaxLen"], apart := false, laid := [("unicode/utf8.acceptRanges", laid_unicode_utf8_acceptRanges), ("unicode/utf8.first", laid_unicode_utf8_first)] }
def FnExactAddToHerdSaid : Prop := fnExactAddToHerdRow.holds Tryd.pinned (OpenSpec.ofChange fnExactAddToHerdSpec)

/-- ITS FALSE NEIGHBOUR: 'it returns false'. Refute it at one input. -/
def fnExactAddToHerdWrong : ChangeSpec := { name := "fnExactAddToHerd", fn := fun _ => fun
  | [d1, d2, d3] => { results := [.lit (.bool false)], args := [d1, d2, d3] }
  | _ => none }
def FnExactAddToHerdWrongFalsely : Prop := fnExactAddToHerdRow.holds Tryd.pinned (OpenSpec.ofChange fnExactAddToHerdWrong)

/-- 'laws.FnExactAllFoes': WHATEVER THE INPUT: true; the input reads as it did. -/
def fnExactAllFoesSpec : ChangeSpec := { name := "fnExactAllFoes", fn := fun _ => fun
  | [d] => { results := [.lit (.bool true)], args := [d] }
  | _ => none }
def fnExactAllFoesRow : OpenClaim := { program := "ytimpcenflahchaadoor", sum := "2dfc1d22077bd171935d0b52e20025a0a971b1e1f58e148bede8f50afdb1493c", func := "loop.example/g01345/laws.FnExactAllFoes", spec := "fnExactAllFoes", inPlace := ["internal/bytealg.IndexByteString", "internal/bytealg.IndexString"], named := ["unicode/utf8.first", "unicode/utf8.acceptRanges", "internal/bytealg.MaxLen"], apart := false, laid := [("unicode/utf8.acceptRanges", laid_unicode_utf8_acceptRanges), ("unicode/utf8.first", laid_unicode_utf8_first)] }
def FnExactAllFoesSaid : Prop := fnExactAllFoesRow.holds Tryd.pinned (OpenSpec.ofChange fnExactAllFoesSpec)

/-- ITS FALSE NEIGHBOUR: 'it returns false'. Refute it at one input. -/
def fnExactAllFoesWrong : ChangeSpec := { name := "fnExactAllFoes", fn := fun _ => fun
  | [d] => { results := [.lit (.bool false)], args := [d] }
  | _ => none }
def FnExactAllFoesWrongFalsely : Prop := fnExactAllFoesRow.holds Tryd.pinned (OpenSpec.ofChange fnExactAllFoesWrong)

/- THE SECOND FORM. 'bulk': how many values and letters a reading holds, each counted each time it is reached (what is shared counts as often as it is met; a slice's spare places count too). A statement '..UptoSaid' is the law's where the arguments, and the package variables that the reading takes, are together of bulk at most 1048576: NARROWER than '..Said'. Prove '..Said' where nothing that the law and all that it calls make is longer than what came in: it says more and counts as full. Else prove '..UptoSaid'. A law counts once. -/
mutual
def uptoBulk {H : Type} : DataW H → Nat
  | .lit (.string bytes) => bytes.length + 1
  | .lit _ => 1
  | .nil => 1
  | .ptr d => uptoBulk d + 1
  | .slice elems spare => uptoBulkAll elems + uptoBulkAll spare + 1
  | .agg parts => uptoBulkAll parts + 1
  | .iface _ d => uptoBulk d + 1
  | .map entries => uptoBulkEntries entries + 1
  | .held _ => 1
def uptoBulkAll {H : Type} : List (DataW H) → Nat
  | [] => 0
  | d :: r => uptoBulk d + uptoBulkAll r
def uptoBulkEntries {H : Type} : List (Lit × DataW H) → Nat
  | [] => 0
  | x :: r => uptoBulkEntry x + uptoBulkEntries r
def uptoBulkEntry {H : Type} : Lit × DataW H → Nat
  | (.string bytes, d) => bytes.length + uptoBulk d + 1
  | (_, d) => uptoBulk d + 1
 end
def uptoSmall : (H : Type) → List (DataW H) → Bool := fun _ ds => decide (uptoBulkAll ds ≤ 1048576)
def OpenSpec.upto (s : _root_.Go.ChangeSpec) : _root_.Go.OpenSpec := { _root_.Go.OpenSpec.ofChange s with cond := some uptoSmall }

/-- 'laws.FnExactValidHerd', WHERE WHAT IT READS IS OF BULK AT MOST 1048576: true; the input reads as it did. -/
def fnExactValidHerdUptoRow : OpenClaim := { program := "ytimpcenflahchaadoor", sum := "2dfc1d22077bd171935d0b52e20025a0a971b1e1f58e148bede8f50afdb1493c", func := "loop.example/g01345/laws.FnExactValidHerd", spec := "fnExactValidHerd", inPlace := ["internal/bytealg.IndexByteString", "internal/bytealg.IndexString"], named := ["unicode/utf8.first", "unicode/utf8.acceptRanges", "internal/bytealg.MaxLen"], apart := false, laid := [("unicode/utf8.acceptRanges", laid_unicode_utf8_acceptRanges), ("unicode/utf8.first", laid_unicode_utf8_first)], narrowed := true }
def FnExactValidHerdUptoSaid : Prop := fnExactValidHerdUptoRow.holds Tryd.pinned (OpenSpec.upto fnExactValidHerdSpec)

/-- 'laws.FnExactAreFoes', WHERE WHAT IT READS IS OF BULK AT MOST 1048576: true; the input reads as it did. -/
def fnExactAreFoesUptoRow : OpenClaim := { program := "ytimpcenflahchaadoor", sum := "2dfc1d22077bd171935d0b52e20025a0a971b1e1f58e148bede8f50afdb1493c", func := "loop.example/g01345/laws.FnExactAreFoes", spec := "fnExactAreFoes", inPlace := ["internal/bytealg.IndexByteString", "internal/bytealg.IndexString"], unfollowed := true, recurses := true, named := ["unicode/utf8.first", "unicode/utf8.acceptRanges", "internal/bytealg.MaxLen"], apart := false, laid := [("unicode/utf8.acceptRanges", laid_unicode_utf8_acceptRanges), ("unicode/utf8.first", laid_unicode_utf8_first)], narrowed := true }
def FnExactAreFoesUptoSaid : Prop := fnExactAreFoesUptoRow.holds Tryd.pinned (OpenSpec.upto fnExactAreFoesSpec)

/-- 'laws.FnExactCheckGroups', WHERE WHAT IT READS IS OF BULK AT MOST 1048576: true; the input reads as it did. -/
def fnExactCheckGroupsUptoRow : OpenClaim := { program := "ytimpcenflahchaadoor", sum := "2dfc1d22077bd171935d0b52e20025a0a971b1e1f58e148bede8f50afdb1493c", func := "loop.example/g01345/laws.FnExactCheckGroups", spec := "fnExactCheckGroups", inPlace := ["internal/bytealg.IndexByteString", "internal/bytealg.IndexString"], unfollowed := true, recurses := true, named := ["unicode/utf8.first", "unicode/utf8.acceptRanges", "internal/bytealg.MaxLen"], apart := false, laid := [("unicode/utf8.acceptRanges", laid_unicode_utf8_acceptRanges), ("unicode/utf8.first", laid_unicode_utf8_first)], narrowed := true }
def FnExactCheckGroupsUptoSaid : Prop := fnExactCheckGroupsUptoRow.holds Tryd.pinned (OpenSpec.upto fnExactCheckGroupsSpec)

/-- 'laws.FnExactFirstQuarrel', WHERE WHAT IT READS IS OF BULK AT MOST 1048576: true; the input reads as it did. -/
def fnExactFirstQuarrelUptoRow : OpenClaim := { program := "ytimpcenflahchaadoor", sum := "2dfc1d22077bd171935d0b52e20025a0a971b1e1f58e148bede8f50afdb1493c", func := "loop.example/g01345/laws.FnExactFirstQuarrel", spec := "fnExactFirstQuarrel", inPlace := ["internal/bytealg.IndexByteString", "internal/bytealg.IndexString"], unfollowed := true, recurses := true, named := ["unicode/utf8.first", "unicode/utf8.acceptRanges", "internal/bytealg.MaxLen"], apart := false, laid := [("unicode/utf8.acceptRanges", laid_unicode_utf8_acceptRanges), ("unicode/utf8.first", laid_unicode_utf8_first)], narrowed := true }
def FnExactFirstQuarrelUptoSaid : Prop := fnExactFirstQuarrelUptoRow.holds Tryd.pinned (OpenSpec.upto fnExactFirstQuarrelSpec)

/-- 'laws.FnExactFoesOf', WHERE WHAT IT READS IS OF BULK AT MOST 1048576: true; the input reads as it did. -/
def fnExactFoesOfUptoRow : OpenClaim := { program := "ytimpcenflahchaadoor", sum := "2dfc1d22077bd171935d0b52e20025a0a971b1e1f58e148bede8f50afdb1493c", func := "loop.example/g01345/laws.FnExactFoesOf", spec := "fnExactFoesOf", inPlace := ["internal/bytealg.IndexByteString", "internal/bytealg.IndexString"], unfollowed := true, recurses := true, named := ["unicode/utf8.first", "unicode/utf8.acceptRanges", "internal/bytealg.MaxLen"], apart := false, laid := [("unicode/utf8.acceptRanges", laid_unicode_utf8_acceptRanges), ("unicode/utf8.first", laid_unicode_utf8_first)], narrowed := true }
def FnExactFoesOfUptoSaid : Prop := fnExactFoesOfUptoRow.holds Tryd.pinned (OpenSpec.upto fnExactFoesOfSpec)

/-- 'laws.FnExactPeaceGroups', WHERE WHAT IT READS IS OF BULK AT MOST 1048576: true; the input reads as it did. -/
def fnExactPeaceGroupsUptoRow : OpenClaim := { program := "ytimpcenflahchaadoor", sum := "2dfc1d22077bd171935d0b52e20025a0a971b1e1f58e148bede8f50afdb1493c", func := "loop.example/g01345/laws.FnExactPeaceGroups", spec := "fnExactPeaceGroups", inPlace := ["internal/bytealg.IndexByteString", "internal/bytealg.IndexString"], named := ["unicode/utf8.first", "unicode/utf8.acceptRanges", "internal/bytealg.MaxLen"], apart := false, laid := [("unicode/utf8.acceptRanges", laid_unicode_utf8_acceptRanges), ("unicode/utf8.first", laid_unicode_utf8_first)], narrowed := true }
def FnExactPeaceGroupsUptoSaid : Prop := fnExactPeaceGroupsUptoRow.holds Tryd.pinned (OpenSpec.upto fnExactPeaceGroupsSpec)

/-- 'laws.FnExactJoinHerds', WHERE WHAT IT READS IS OF BULK AT MOST 1048576: true; the input reads as it did. -/
def fnExactJoinHerdsUptoRow : OpenClaim := { program := "ytimpcenflahchaadoor", sum := "2dfc1d22077bd171935d0b52e20025a0a971b1e1f58e148bede8f50afdb1493c", func := "loop.example/g01345/laws.FnExactJoinHerds", spec := "fnExactJoinHerds", inPlace := ["internal/bytealg.IndexByteString", "internal/bytealg.IndexString"], unfollowed := true, recurses := true, named := ["unicode/utf8.first", "unicode/utf8.acceptRanges", "internal/bytealg.MaxLen"], apart := false, laid := [("unicode/utf8.acceptRanges", laid_unicode_utf8_acceptRanges), ("unicode/utf8.first", laid_unicode_utf8_first)], narrowed := true }
def FnExactJoinHerdsUptoSaid : Prop := fnExactJoinHerdsUptoRow.holds Tryd.pinned (OpenSpec.upto fnExactJoinHerdsSpec)

/-- 'laws.FnExactNeedsOf', WHERE WHAT IT READS IS OF BULK AT MOST 1048576: true; the input reads as it did. -/
def fnExactNeedsOfUptoRow : OpenClaim := { program := "ytimpcenflahchaadoor", sum := "2dfc1d22077bd171935d0b52e20025a0a971b1e1f58e148bede8f50afdb1493c", func := "loop.example/g01345/laws.FnExactNeedsOf", spec := "fnExactNeedsOf", inPlace := ["internal/bytealg.IndexByteString", "internal/bytealg.IndexString"], unfollowed := true, recurses := true, named := ["unicode/utf8.first", "unicode/utf8.acceptRanges", "internal/bytealg.MaxLen"], apart := false, laid := [("unicode/utf8.acceptRanges", laid_unicode_utf8_acceptRanges), ("unicode/utf8.first", laid_unicode_utf8_first)], narrowed := true }
def FnExactNeedsOfUptoSaid : Prop := fnExactNeedsOfUptoRow.holds Tryd.pinned (OpenSpec.upto fnExactNeedsOfSpec)

/-- 'laws.FnExactFewestGroups', WHERE WHAT IT READS IS OF BULK AT MOST 1048576: true; the input reads as it did. -/
def fnExactFewestGroupsUptoRow : OpenClaim := { program := "ytimpcenflahchaadoor", sum := "2dfc1d22077bd171935d0b52e20025a0a971b1e1f58e148bede8f50afdb1493c", func := "loop.example/g01345/laws.FnExactFewestGroups", spec := "fnExactFewestGroups", inPlace := ["internal/bytealg.IndexByteString", "internal/bytealg.IndexString"], unfollowed := true, recurses := true, named := ["unicode/utf8.first", "unicode/utf8.acceptRanges", "internal/bytealg.MaxLen"], apart := false, laid := [("unicode/utf8.acceptRanges", laid_unicode_utf8_acceptRanges), ("unicode/utf8.first", laid_unicode_utf8_first)], narrowed := true }
def FnExactFewestGroupsUptoSaid : Prop := fnExactFewestGroupsUptoRow.holds Tryd.pinned (OpenSpec.upto fnExactFewestGroupsSpec)

/-- 'laws.FnExactAddToHerd', WHERE WHAT IT READS IS OF BULK AT MOST 1048576: true; the input reads as it did. -/
def fnExactAddToHerdUptoRow : OpenClaim := { program := "ytimpcenflahchaadoor", sum := "2dfc1d22077bd171935d0b52e20025a0a971b1e1f58e148bede8f50afdb1493c", func := "loop.example/g01345/laws.FnExactAddToHerd", spec := "fnExactAddToHerd", inPlace := ["internal/bytealg.IndexByteString", "internal/bytealg.IndexString"], unfollowed := true, recurses := true, named := ["unicode/utf8.first", "unicode/utf8.acceptRanges", "internal/bytealg.MaxLen"], apart := false, laid := [("unicode/utf8.acceptRanges", laid_unicode_utf8_acceptRanges), ("unicode/utf8.first", laid_unicode_utf8_first)], narrowed := true }
def FnExactAddToHerdUptoSaid : Prop := fnExactAddToHerdUptoRow.holds Tryd.pinned (OpenSpec.upto fnExactAddToHerdSpec)

/-- 'laws.FnExactAllFoes', WHERE WHAT IT READS IS OF BULK AT MOST 1048576: true; the input reads as it did. -/
def fnExactAllFoesUptoRow : OpenClaim := { program := "ytimpcenflahchaadoor", sum := "2dfc1d22077bd171935d0b52e20025a0a971b1e1f58e148bede8f50afdb1493c", func := "loop.example/g01345/laws.FnExactAllFoes", spec := "fnExactAllFoes", inPlace := ["internal/bytealg.IndexByteString", "internal/bytealg.IndexString"], named := ["unicode/utf8.first", "unicode/utf8.acceptRanges", "internal/bytealg.MaxLen"], apart := false, laid := [("unicode/utf8.acceptRanges", laid_unicode_utf8_acceptRanges), ("unicode/utf8.first", laid_unicode_utf8_first)], narrowed := true }
def FnExactAllFoesUptoSaid : Prop := fnExactAllFoesUptoRow.holds Tryd.pinned (OpenSpec.upto fnExactAllFoesSpec)

end Rows
end Go.Proofs.YtimpcenflahchaaDoor
