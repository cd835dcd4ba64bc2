/-
  No cell of these rows narrows 'for every input' (looked for: loops, veiled, ifaces, maps, wideKeys, modest, calm, conditions, laid).
  DERIVED. THE GIVEN ROWS OF THIS SEAT. 5 by the template 'for every input the law returns true; each argument reads behind the call as it read before'; 0 by the template 'total and deterministic' (their statements: YtmccpbabpnffcaaTotals.lean).
  GIVEN WITH THE SEED: the statements are not yours to turn. If you find one false, say at which input.
  Laid BY PROGRAM, IN A SANDBOX (cutbox-rows.mjs): the forced cells as the released guide's own fill.sh prints them over the translation 85a26616b065cadf… (all of the seat's roots in one cut). By AI agents, Wed Nov 11 2026. No macro, syntax, notation, axiom, sorry.
-/
import Derived.Test.YtmccpbabpnffcaaChecked
import GoSem.Claim
import GoSem.ClaimJoined
import GoSem.ClaimMapViews
import Derived.JoinedTies
import Derived.KernelRfl
namespace Go.Proofs.Ytmccpbabpnffcaa
/- THE CELL 'sum', in the pinned program and in every row, IS THE sha256 OF THE DUMP (.gsa) THAT YtmccpbabpnffcaaProg.lean LOADS. Nothing in Lean hashes anything: it is a label: what it is worth is what the hold of that sum in a sandbox is worth. -/
noncomputable def Try.pinned : Pinned := { name := "ytmccpbabpnffcaa", sum := "85a26616b065cadf840602250a245b4a5e96a651a524a5c9ad5317ba13f6ac4e", checked := Try.checked }
namespace Rows
def none {H : Type} : Left H := { results := [], args := [] }

/-- 'laws.FnExactDepthOf': WHATEVER THE INPUT: true; the input reads as it did. -/
def fnExactDepthOfSpec : ChangeSpec := { name := "fnExactDepthOf", fn := fun _ => fun
  | [d1, d2] => { results := [.lit (.bool true)], args := [d1, d2] }
  | _ => none }
def fnExactDepthOfRow : OpenClaim := { program := "ytmccpbabpnffcaa", sum := "85a26616b065cadf840602250a245b4a5e96a651a524a5c9ad5317ba13f6ac4e", func := "loop.example/g00452/laws.FnExactDepthOf", spec := "fnExactDepthOf", apart := false }
def FnExactDepthOfSaid : Prop := fnExactDepthOfRow.holds Try.pinned (OpenSpec.ofChange fnExactDepthOfSpec)

/-- ITS FALSE NEIGHBOUR: 'it returns false'. Refute it at one input. -/
def fnExactDepthOfWrong : ChangeSpec := { name := "fnExactDepthOf", fn := fun _ => fun
  | [d1, d2] => { results := [.lit (.bool false)], args := [d1, d2] }
  | _ => none }
def FnExactDepthOfWrongFalsely : Prop := fnExactDepthOfRow.holds Try.pinned (OpenSpec.ofChange fnExactDepthOfWrong)

/-- 'laws.FnExactFresh': WHATEVER THE INPUT: true; the input reads as it did. -/
def fnExactFreshSpec : ChangeSpec := { name := "fnExactFresh", fn := fun _ => fun
  | [d1, d2] => { results := [.lit (.bool true)], args := [d1, d2] }
  | _ => none }
def fnExactFreshRow : OpenClaim := { program := "ytmccpbabpnffcaa", sum := "85a26616b065cadf840602250a245b4a5e96a651a524a5c9ad5317ba13f6ac4e", func := "loop.example/g00452/laws.FnExactFresh", spec := "fnExactFresh", apart := false }
def FnExactFreshSaid : Prop := fnExactFreshRow.holds Try.pinned (OpenSpec.ofChange fnExactFreshSpec)

/-- ITS FALSE NEIGHBOUR: 'it returns false'. Refute it at one input. -/
def fnExactFreshWrong : ChangeSpec := { name := "fnExactFresh", fn := fun _ => fun
  | [d1, d2] => { results := [.lit (.bool false)], args := [d1, d2] }
  | _ => none }
def FnExactFreshWrongFalsely : Prop := fnExactFreshRow.holds Try.pinned (OpenSpec.ofChange fnExactFreshWrong)

/-- 'laws.FnExactWorldNew': WHATEVER THE INPUT: true; the input reads as it did. -/
def fnExactWorldNewSpec : ChangeSpec := { name := "fnExactWorldNew", fn := fun _ => fun
  | [d] => { results := [.lit (.bool true)], args := [d] }
  | _ => none }
def fnExactWorldNewRow : OpenClaim := { program := "ytmccpbabpnffcaa", sum := "85a26616b065cadf840602250a245b4a5e96a651a524a5c9ad5317ba13f6ac4e", func := "loop.example/g00452/laws.FnExactWorldNew", spec := "fnExactWorldNew", apart := false }
def FnExactWorldNewSaid : Prop := fnExactWorldNewRow.holds Try.pinned (OpenSpec.ofChange fnExactWorldNewSpec)

/-- ITS FALSE NEIGHBOUR: 'it returns false'. Refute it at one input. -/
def fnExactWorldNewWrong : ChangeSpec := { name := "fnExactWorldNew", fn := fun _ => fun
  | [d] => { results := [.lit (.bool false)], args := [d] }
  | _ => none }
def FnExactWorldNewWrongFalsely : Prop := fnExactWorldNewRow.holds Try.pinned (OpenSpec.ofChange fnExactWorldNewWrong)

/-- 'laws.FnExactAskFor': WHATEVER THE INPUT: true; the input reads as it did. -/
def fnExactAskForSpec : ChangeSpec := { name := "fnExactAskFor", fn := fun _ => fun
  | [d1, d2] => { results := [.lit (.bool true)], args := [d1, d2] }
  | _ => none }
def fnExactAskForRow : OpenClaim := { program := "ytmccpbabpnffcaa", sum := "85a26616b065cadf840602250a245b4a5e96a651a524a5c9ad5317ba13f6ac4e", func := "loop.example/g00452/laws.FnExactAskFor", spec := "fnExactAskFor", inPlace := ["internal/bytealg.IndexByteString", "internal/bytealg.IndexString", "internal/abi.NoEscape", "internal/bytealg.MakeNoZero"], named := ["internal/bytealg.MaxLen"], apart := false }
def FnExactAskForSaid : Prop := fnExactAskForRow.holds Try.pinned (OpenSpec.ofChange fnExactAskForSpec)

/-- ITS FALSE NEIGHBOUR: 'it returns false'. Refute it at one input. -/
def fnExactAskForWrong : ChangeSpec := { name := "fnExactAskFor", fn := fun _ => fun
  | [d1, d2] => { results := [.lit (.bool false)], args := [d1, d2] }
  | _ => none }
def FnExactAskForWrongFalsely : Prop := fnExactAskForRow.holds Try.pinned (OpenSpec.ofChange fnExactAskForWrong)

/-- 'laws.FnExactMultiNode': WHATEVER THE INPUT: true; the input reads as it did. -/
def fnExactMultiNodeSpec : ChangeSpec := { name := "fnExactMultiNode", fn := fun _ => fun
  | [d1, d2] => { results := [.lit (.bool true)], args := [d1, d2] }
  | _ => none }
def fnExactMultiNodeRow : OpenClaim := { program := "ytmccpbabpnffcaa", sum := "85a26616b065cadf840602250a245b4a5e96a651a524a5c9ad5317ba13f6ac4e", func := "loop.example/g00452/laws.FnExactMultiNode", spec := "fnExactMultiNode", inPlace := ["internal/bytealg.IndexByteString", "internal/bytealg.IndexString", "internal/abi.NoEscape", "internal/bytealg.MakeNoZero"], recurses := true, named := ["internal/bytealg.MaxLen"], apart := false }
def FnExactMultiNodeSaid : Prop := fnExactMultiNodeRow.holds Try.pinned (OpenSpec.ofChange fnExactMultiNodeSpec)

/-- ITS FALSE NEIGHBOUR: 'it returns false'. Refute it at one input. -/
def fnExactMultiNodeWrong : ChangeSpec := { name := "fnExactMultiNode", fn := fun _ => fun
  | [d1, d2] => { results := [.lit (.bool false)], args := [d1, d2] }
  | _ => none }
def FnExactMultiNodeWrongFalsely : Prop := fnExactMultiNodeRow.holds Try.pinned (OpenSpec.ofChange fnExactMultiNodeWrong)

/- THE SECOND FORM. 'bulk': how many values and letters a reading holds, each counted each time it is reached (what is shared counts as often as it is met; a slice's spare places count too). A statement '..UptoSaid' is the law's where the arguments, and the package variables that the reading takes, are together of bulk at most 1048576: NARROWER than '..Said'. Prove '..Said' where nothing that the law and all that it calls make is longer than what came in: it says more and counts as full. Else prove '..UptoSaid'. A law counts once. -/
mutual
def uptoBulk {H : Type} : DataW H → Nat
  | .lit (.string bytes) => bytes.length + 1
  | .lit _ => 1
  | .nil => 1
  | .ptr d => uptoBulk d + 1
  | .slice elems spare => uptoBulkAll elems + uptoBulkAll spare + 1
  | .agg parts => uptoBulkAll parts + 1
  | .iface _ d => uptoBulk d + 1
  | .map entries => uptoBulkEntries entries + 1
  | .held _ => 1
def uptoBulkAll {H : Type} : List (DataW H) → Nat
  | [] => 0
  | d :: r => uptoBulk d + uptoBulkAll r
def uptoBulkEntries {H : Type} : List (Lit × DataW H) → Nat
  | [] => 0
  | x :: r => uptoBulkEntry x + uptoBulkEntries r
def uptoBulkEntry {H : Type} : Lit × DataW H → Nat
  | (.string bytes, d) => bytes.length + uptoBulk d + 1
  | (_, d) => uptoBulk d + 1
 end
def uptoSmall : (H : Type) → List (DataW H) → Bool := fun _ ds => decide (uptoBulkAll ds ≤ 1048576)
def OpenSpec.upto (s : _root_.Go.ChangeSpec) : _root_.Go.OpenSpec := { _root_.Go.OpenSpec.ofChange s with cond := some uptoSmall }

/-- 'laws.FnExactDepthOf', WHERE WHAT IT READS IS OF BULK AT MOST 1048576: true; the input reads as it did. -/
def fnExactDepthOfUptoRow : OpenClaim := { program := "ytmccpbabpnffcaa", sum := "85a26616b065cadf840602250a245b4a5e96a651a524a5c9ad5317ba13f6ac4e", func := "loop.example/g00452/laws.FnExactDepthOf", spec := "fnExactDepthOf", apart := false, narrowed := true }
def FnExactDepthOfUptoSaid : Prop := fnExactDepthOfUptoRow.holds Try.pinned (OpenSpec.upto fnExactDepthOfSpec)

/-- 'laws.FnExactFresh', WHERE WHAT IT READS IS OF BULK AT MOST 1048576: true; the input reads as it did. -/
def fnExactFreshUptoRow : OpenClaim := { program := "ytmccpbabpnffcaa", sum := "85a26616b065cadf840602250a245b4a5e96a651a524a5c9ad5317ba13f6ac4e", func := "loop.example/g00452/laws.FnExactFresh", spec := "fnExactFresh", apart := false, narrowed := true }
def FnExactFreshUptoSaid : Prop := fnExactFreshUptoRow.holds Try.pinned (OpenSpec.upto fnExactFreshSpec)

/-- 'laws.FnExactWorldNew', WHERE WHAT IT READS IS OF BULK AT MOST 1048576: true; the input reads as it did. -/
def fnExactWorldNewUptoRow : OpenClaim := { program := "ytmccpbabpnffcaa", sum := "85a26616b065cadf840602250a245b4a5e96a651a524a5c9ad5317ba13f6ac4e", func := "loop.example/g00452/laws.FnExactWorldNew", spec := "fnExactWorldNew", apart := false, narrowed := true }
def FnExactWorldNewUptoSaid : Prop := fnExactWorldNewUptoRow.holds Try.pinned (OpenSpec.upto fnExactWorldNewSpec)

/-- 'laws.FnExactAskFor', WHERE WHAT IT READS IS OF BULK AT MOST 1048576: true; the input reads as it did. -/
def fnExactAskForUptoRow : OpenClaim := { program := "ytmccpbabpnffcaa", sum := "85a26616b065cadf840602250a245b4a5e96a651a524a5c9ad5317ba13f6ac4e", func := "loop.example/g00452/laws.FnExactAskFor", spec := "fnExactAskFor", inPlace := ["internal/bytealg.IndexByteString", "internal/bytealg.IndexString", "internal/abi.NoEscape", "internal/bytealg.MakeNoZero"], named := ["internal/bytealg.MaxLen"], apart := false, narrowed := true }
def FnExactAskForUptoSaid : Prop := fnExactAskForUptoRow.holds Try.pinned (OpenSpec.upto fnExactAskForSpec)

/-- 'laws.FnExactMultiNode', WHERE WHAT IT READS IS OF BULK AT MOST 1048576: true; the input reads as it did. -/
def fnExactMultiNodeUptoRow : OpenClaim := { program := "ytmccpbabpnffcaa", sum := "85a26616b065cadf840602250a245b4a5e96a651a524a5c9ad5317ba13f6ac4e", func := "loop.example/g00452/laws.FnExactMultiNode", spec := "fnExactMultiNode", inPlace := ["internal/bytealg.IndexByteString", "internal/bytealg.IndexString", "internal/abi.NoEscape", "internal/bytealg.MakeNoZero"], recurses := true, named := ["internal/bytealg.MaxLen"], apart := false, narrowed := true }
def FnExactMultiNodeUptoSaid : Prop := fnExactMultiNodeUptoRow.holds Try.pinned (OpenSpec.upto fnExactMultiNodeSpec)

end Rows
end Go.Proofs.Ytmccpbabpnffcaa
