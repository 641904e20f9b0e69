/-
  No cell of these rows narrows 'for every input' (looked for: loops, veiled, ifaces, maps, wideKeys, modest, calm, conditions, laid).
  DERIVED. THE GIVEN ROWS OF THIS SEAT. 11 by the template 'for every input the law returns true; each argument reads behind the call as it read before'; 0 by the template 'total and deterministic' (their statements: YtdibkgacplbaeaaTotals.lean).
  GIVEN WITH THE SEED: the statements are not yours to turn. If you find one false, say at which input.
  Laid BY PROGRAM, IN A SANDBOX (cutbox-rows.mjs): the forced cells as the released guide's own fill.sh prints them over the translation 6239e3e08c97b72b… (all of the seat's roots in one cut). By AI agents, Wed Nov 11 2026. No macro, syntax, notation, axiom, sorry.
-/
import Derived.Test.YtdibkgacplbaeaaChecked
import GoSem.Claim
import GoSem.ClaimJoined
import GoSem.ClaimMapViews
import Derived.JoinedTies
import Derived.KernelRfl
namespace Go.Proofs.Ytdibkgacplbaeaa
/- THE CELL 'sum', in the pinned program and in every row, IS THE sha256 OF THE DUMP (.gsa) THAT YtdibkgacplbaeaaProg.lean LOADS. Nothing in Lean hashes anything: it is a label: what it is worth is what the hold of that sum in a sandbox is worth. -/
noncomputable def Try.pinned : Pinned := { name := "ytdibkgacplbaeaa", sum := "6239e3e08c97b72b65bf3859807b6a02381af197997475dfb78ac6e8d9140e9e", checked := Try.checked }
namespace Rows
def none {H : Type} : Left H := { results := [], args := [] }

/-- 'laws.FnExactIsCostTable': WHATEVER THE INPUT: true; the input reads as it did. -/
def fnExactIsCostTableSpec : ChangeSpec := { name := "fnExactIsCostTable", fn := fun _ => fun
  | [d] => { results := [.lit (.bool true)], args := [d] }
  | _ => none }
def fnExactIsCostTableRow : OpenClaim := { program := "ytdibkgacplbaeaa", sum := "6239e3e08c97b72b65bf3859807b6a02381af197997475dfb78ac6e8d9140e9e", func := "loop.example/g00917/laws.FnExactIsCostTable", spec := "fnExactIsCostTable", unfollowed := true, recurses := true, apart := false }
def FnExactIsCostTableSaid : Prop := fnExactIsCostTableRow.holds Try.pinned (OpenSpec.ofChange fnExactIsCostTableSpec)

/-- ITS FALSE NEIGHBOUR: 'it returns false'. Refute it at one input. -/
def fnExactIsCostTableWrong : ChangeSpec := { name := "fnExactIsCostTable", fn := fun _ => fun
  | [d] => { results := [.lit (.bool false)], args := [d] }
  | _ => none }
def FnExactIsCostTableWrongFalsely : Prop := fnExactIsCostTableRow.holds Try.pinned (OpenSpec.ofChange fnExactIsCostTableWrong)

/-- 'laws.FnExactAreFair': WHATEVER THE INPUT: true; the input reads as it did. -/
def fnExactAreFairSpec : ChangeSpec := { name := "fnExactAreFair", fn := fun _ => fun
  | [d1, d2, d3] => { results := [.lit (.bool true)], args := [d1, d2, d3] }
  | _ => none }
def fnExactAreFairRow : OpenClaim := { program := "ytdibkgacplbaeaa", sum := "6239e3e08c97b72b65bf3859807b6a02381af197997475dfb78ac6e8d9140e9e", func := "loop.example/g00917/laws.FnExactAreFair", spec := "fnExactAreFair", unfollowed := true, recurses := true, apart := false }
def FnExactAreFairSaid : Prop := fnExactAreFairRow.holds Try.pinned (OpenSpec.ofChange fnExactAreFairSpec)

/-- ITS FALSE NEIGHBOUR: 'it returns false'. Refute it at one input. -/
def fnExactAreFairWrong : ChangeSpec := { name := "fnExactAreFair", fn := fun _ => fun
  | [d1, d2, d3] => { results := [.lit (.bool false)], args := [d1, d2, d3] }
  | _ => none }
def FnExactAreFairWrongFalsely : Prop := fnExactAreFairRow.holds Try.pinned (OpenSpec.ofChange fnExactAreFairWrong)

/-- 'laws.FnExactAssignmentCost': WHATEVER THE INPUT: true; the input reads as it did. -/
def fnExactAssignmentCostSpec : ChangeSpec := { name := "fnExactAssignmentCost", fn := fun _ => fun
  | [d1, d2] => { results := [.lit (.bool true)], args := [d1, d2] }
  | _ => none }
def fnExactAssignmentCostRow : OpenClaim := { program := "ytdibkgacplbaeaa", sum := "6239e3e08c97b72b65bf3859807b6a02381af197997475dfb78ac6e8d9140e9e", func := "loop.example/g00917/laws.FnExactAssignmentCost", spec := "fnExactAssignmentCost", unfollowed := true, recurses := true, apart := false }
def FnExactAssignmentCostSaid : Prop := fnExactAssignmentCostRow.holds Try.pinned (OpenSpec.ofChange fnExactAssignmentCostSpec)

/-- ITS FALSE NEIGHBOUR: 'it returns false'. Refute it at one input. -/
def fnExactAssignmentCostWrong : ChangeSpec := { name := "fnExactAssignmentCost", fn := fun _ => fun
  | [d1, d2] => { results := [.lit (.bool false)], args := [d1, d2] }
  | _ => none }
def FnExactAssignmentCostWrongFalsely : Prop := fnExactAssignmentCostRow.holds Try.pinned (OpenSpec.ofChange fnExactAssignmentCostWrong)

/-- 'laws.FnExactPriceValue': WHATEVER THE INPUT: true; the input reads as it did. -/
def fnExactPriceValueSpec : ChangeSpec := { name := "fnExactPriceValue", fn := fun _ => fun
  | [d1, d2, d3] => { results := [.lit (.bool true)], args := [d1, d2, d3] }
  | _ => none }
def fnExactPriceValueRow : OpenClaim := { program := "ytdibkgacplbaeaa", sum := "6239e3e08c97b72b65bf3859807b6a02381af197997475dfb78ac6e8d9140e9e", func := "loop.example/g00917/laws.FnExactPriceValue", spec := "fnExactPriceValue", unfollowed := true, recurses := true, apart := false }
def FnExactPriceValueSaid : Prop := fnExactPriceValueRow.holds Try.pinned (OpenSpec.ofChange fnExactPriceValueSpec)

/-- ITS FALSE NEIGHBOUR: 'it returns false'. Refute it at one input. -/
def fnExactPriceValueWrong : ChangeSpec := { name := "fnExactPriceValue", fn := fun _ => fun
  | [d1, d2, d3] => { results := [.lit (.bool false)], args := [d1, d2, d3] }
  | _ => none }
def FnExactPriceValueWrongFalsely : Prop := fnExactPriceValueRow.holds Try.pinned (OpenSpec.ofChange fnExactPriceValueWrong)

/-- 'laws.FnExactSwapSaving': WHATEVER THE INPUT: true; the input reads as it did. -/
def fnExactSwapSavingSpec : ChangeSpec := { name := "fnExactSwapSaving", fn := fun _ => fun
  | [d1, d2, d3, d4] => { results := [.lit (.bool true)], args := [d1, d2, d3, d4] }
  | _ => none }
def fnExactSwapSavingRow : OpenClaim := { program := "ytdibkgacplbaeaa", sum := "6239e3e08c97b72b65bf3859807b6a02381af197997475dfb78ac6e8d9140e9e", func := "loop.example/g00917/laws.FnExactSwapSaving", spec := "fnExactSwapSaving", unfollowed := true, recurses := true, apart := false }
def FnExactSwapSavingSaid : Prop := fnExactSwapSavingRow.holds Try.pinned (OpenSpec.ofChange fnExactSwapSavingSpec)

/-- ITS FALSE NEIGHBOUR: 'it returns false'. Refute it at one input. -/
def fnExactSwapSavingWrong : ChangeSpec := { name := "fnExactSwapSaving", fn := fun _ => fun
  | [d1, d2, d3, d4] => { results := [.lit (.bool false)], args := [d1, d2, d3, d4] }
  | _ => none }
def FnExactSwapSavingWrongFalsely : Prop := fnExactSwapSavingRow.holds Try.pinned (OpenSpec.ofChange fnExactSwapSavingWrong)

/-- 'laws.FnExactRaisePrices': WHATEVER THE INPUT: true; the input reads as it did. -/
def fnExactRaisePricesSpec : ChangeSpec := { name := "fnExactRaisePrices", fn := fun _ => fun
  | [d1, d2] => { results := [.lit (.bool true)], args := [d1, d2] }
  | _ => none }
def fnExactRaisePricesRow : OpenClaim := { program := "ytdibkgacplbaeaa", sum := "6239e3e08c97b72b65bf3859807b6a02381af197997475dfb78ac6e8d9140e9e", func := "loop.example/g00917/laws.FnExactRaisePrices", spec := "fnExactRaisePrices", unfollowed := true, recurses := true, apart := false }
def FnExactRaisePricesSaid : Prop := fnExactRaisePricesRow.holds Try.pinned (OpenSpec.ofChange fnExactRaisePricesSpec)

/-- ITS FALSE NEIGHBOUR: 'it returns false'. Refute it at one input. -/
def fnExactRaisePricesWrong : ChangeSpec := { name := "fnExactRaisePrices", fn := fun _ => fun
  | [d1, d2] => { results := [.lit (.bool false)], args := [d1, d2] }
  | _ => none }
def FnExactRaisePricesWrongFalsely : Prop := fnExactRaisePricesRow.holds Try.pinned (OpenSpec.ofChange fnExactRaisePricesWrong)

/-- 'laws.FnExactCheapestAssignment': WHATEVER THE INPUT: true; the input reads as it did. -/
def fnExactCheapestAssignmentSpec : ChangeSpec := { name := "fnExactCheapestAssignment", fn := fun _ => fun
  | [d] => { results := [.lit (.bool true)], args := [d] }
  | _ => none }
def fnExactCheapestAssignmentRow : OpenClaim := { program := "ytdibkgacplbaeaa", sum := "6239e3e08c97b72b65bf3859807b6a02381af197997475dfb78ac6e8d9140e9e", func := "loop.example/g00917/laws.FnExactCheapestAssignment", spec := "fnExactCheapestAssignment", unfollowed := true, recurses := true, apart := false }
def FnExactCheapestAssignmentSaid : Prop := fnExactCheapestAssignmentRow.holds Try.pinned (OpenSpec.ofChange fnExactCheapestAssignmentSpec)

/-- ITS FALSE NEIGHBOUR: 'it returns false'. Refute it at one input. -/
def fnExactCheapestAssignmentWrong : ChangeSpec := { name := "fnExactCheapestAssignment", fn := fun _ => fun
  | [d] => { results := [.lit (.bool false)], args := [d] }
  | _ => none }
def FnExactCheapestAssignmentWrongFalsely : Prop := fnExactCheapestAssignmentRow.holds Try.pinned (OpenSpec.ofChange fnExactCheapestAssignmentWrong)

/-- 'laws.FnExactRotateSaving': WHATEVER THE INPUT: true; the input reads as it did. -/
def fnExactRotateSavingSpec : ChangeSpec := { name := "fnExactRotateSaving", fn := fun _ => fun
  | [d1, d2] => { results := [.lit (.bool true)], args := [d1, d2] }
  | _ => none }
def fnExactRotateSavingRow : OpenClaim := { program := "ytdibkgacplbaeaa", sum := "6239e3e08c97b72b65bf3859807b6a02381af197997475dfb78ac6e8d9140e9e", func := "loop.example/g00917/laws.FnExactRotateSaving", spec := "fnExactRotateSaving", unfollowed := true, recurses := true, apart := false }
def FnExactRotateSavingSaid : Prop := fnExactRotateSavingRow.holds Try.pinned (OpenSpec.ofChange fnExactRotateSavingSpec)

/-- ITS FALSE NEIGHBOUR: 'it returns false'. Refute it at one input. -/
def fnExactRotateSavingWrong : ChangeSpec := { name := "fnExactRotateSaving", fn := fun _ => fun
  | [d1, d2] => { results := [.lit (.bool false)], args := [d1, d2] }
  | _ => none }
def FnExactRotateSavingWrongFalsely : Prop := fnExactRotateSavingRow.holds Try.pinned (OpenSpec.ofChange fnExactRotateSavingWrong)

/-- 'laws.FnExactProvesCheapest': WHATEVER THE INPUT: true; the input reads as it did. -/
def fnExactProvesCheapestSpec : ChangeSpec := { name := "fnExactProvesCheapest", fn := fun _ => fun
  | [d1, d2, d3, d4] => { results := [.lit (.bool true)], args := [d1, d2, d3, d4] }
  | _ => none }
def fnExactProvesCheapestRow : OpenClaim := { program := "ytdibkgacplbaeaa", sum := "6239e3e08c97b72b65bf3859807b6a02381af197997475dfb78ac6e8d9140e9e", func := "loop.example/g00917/laws.FnExactProvesCheapest", spec := "fnExactProvesCheapest", unfollowed := true, recurses := true, apart := false }
def FnExactProvesCheapestSaid : Prop := fnExactProvesCheapestRow.holds Try.pinned (OpenSpec.ofChange fnExactProvesCheapestSpec)

/-- ITS FALSE NEIGHBOUR: 'it returns false'. Refute it at one input. -/
def fnExactProvesCheapestWrong : ChangeSpec := { name := "fnExactProvesCheapest", fn := fun _ => fun
  | [d1, d2, d3, d4] => { results := [.lit (.bool false)], args := [d1, d2, d3, d4] }
  | _ => none }
def FnExactProvesCheapestWrongFalsely : Prop := fnExactProvesCheapestRow.holds Try.pinned (OpenSpec.ofChange fnExactProvesCheapestWrong)

/-- 'laws.FnPrices': WHATEVER THE INPUT: true; the input reads as it did. -/
def fnPricesSpec : ChangeSpec := { name := "fnPrices", fn := fun _ => fun
  | [d] => { results := [.lit (.bool true)], args := [d] }
  | _ => none }
def fnPricesRow : OpenClaim := { program := "ytdibkgacplbaeaa", sum := "6239e3e08c97b72b65bf3859807b6a02381af197997475dfb78ac6e8d9140e9e", func := "loop.example/g00917/laws.FnPrices", spec := "fnPrices", unfollowed := true, recurses := true, apart := false }
def FnPricesSaid : Prop := fnPricesRow.holds Try.pinned (OpenSpec.ofChange fnPricesSpec)

/-- ITS FALSE NEIGHBOUR: 'it returns false'. Refute it at one input. -/
def fnPricesWrong : ChangeSpec := { name := "fnPrices", fn := fun _ => fun
  | [d] => { results := [.lit (.bool false)], args := [d] }
  | _ => none }
def FnPricesWrongFalsely : Prop := fnPricesRow.holds Try.pinned (OpenSpec.ofChange fnPricesWrong)

/-- 'laws.FnAssignments': WHATEVER THE INPUT: true; the input reads as it did. -/
def fnAssignmentsSpec : ChangeSpec := { name := "fnAssignments", fn := fun _ => fun
  | [d] => { results := [.lit (.bool true)], args := [d] }
  | _ => none }
def fnAssignmentsRow : OpenClaim := { program := "ytdibkgacplbaeaa", sum := "6239e3e08c97b72b65bf3859807b6a02381af197997475dfb78ac6e8d9140e9e", func := "loop.example/g00917/laws.FnAssignments", spec := "fnAssignments", unfollowed := true, recurses := true, apart := false }
def FnAssignmentsSaid : Prop := fnAssignmentsRow.holds Try.pinned (OpenSpec.ofChange fnAssignmentsSpec)

/-- ITS FALSE NEIGHBOUR: 'it returns false'. Refute it at one input. -/
def fnAssignmentsWrong : ChangeSpec := { name := "fnAssignments", fn := fun _ => fun
  | [d] => { results := [.lit (.bool false)], args := [d] }
  | _ => none }
def FnAssignmentsWrongFalsely : Prop := fnAssignmentsRow.holds Try.pinned (OpenSpec.ofChange fnAssignmentsWrong)

/- THE SECOND FORM. 'bulk': how many values and letters a reading holds, each counted each time it is reached (what is shared counts as often as it is met; a slice's spare places count too). A statement '..UptoSaid' is the law's where the arguments, and the package variables that the reading takes, are together of bulk at most 1048576: NARROWER than '..Said'. Prove '..Said' where nothing that the law and all that it calls make is longer than what came in: it says more and counts as full. Else prove '..UptoSaid'. A law counts once. -/
mutual
def uptoBulk {H : Type} : DataW H → Nat
  | .lit (.string bytes) => bytes.length + 1
  | .lit _ => 1
  | .nil => 1
  | .ptr d => uptoBulk d + 1
  | .slice elems spare => uptoBulkAll elems + uptoBulkAll spare + 1
  | .agg parts => uptoBulkAll parts + 1
  | .iface _ d => uptoBulk d + 1
  | .map entries => uptoBulkEntries entries + 1
  | .held _ => 1
def uptoBulkAll {H : Type} : List (DataW H) → Nat
  | [] => 0
  | d :: r => uptoBulk d + uptoBulkAll r
def uptoBulkEntries {H : Type} : List (Lit × DataW H) → Nat
  | [] => 0
  | x :: r => uptoBulkEntry x + uptoBulkEntries r
def uptoBulkEntry {H : Type} : Lit × DataW H → Nat
  | (.string bytes, d) => bytes.length + uptoBulk d + 1
  | (_, d) => uptoBulk d + 1
 end
def uptoSmall : (H : Type) → List (DataW H) → Bool := fun _ ds => decide (uptoBulkAll ds ≤ 1048576)
def OpenSpec.upto (s : _root_.Go.ChangeSpec) : _root_.Go.OpenSpec := { _root_.Go.OpenSpec.ofChange s with cond := some uptoSmall }

/-- 'laws.FnExactIsCostTable', WHERE WHAT IT READS IS OF BULK AT MOST 1048576: true; the input reads as it did. -/
def fnExactIsCostTableUptoRow : OpenClaim := { program := "ytdibkgacplbaeaa", sum := "6239e3e08c97b72b65bf3859807b6a02381af197997475dfb78ac6e8d9140e9e", func := "loop.example/g00917/laws.FnExactIsCostTable", spec := "fnExactIsCostTable", unfollowed := true, recurses := true, apart := false, narrowed := true }
def FnExactIsCostTableUptoSaid : Prop := fnExactIsCostTableUptoRow.holds Try.pinned (OpenSpec.upto fnExactIsCostTableSpec)

/-- 'laws.FnExactAreFair', WHERE WHAT IT READS IS OF BULK AT MOST 1048576: true; the input reads as it did. -/
def fnExactAreFairUptoRow : OpenClaim := { program := "ytdibkgacplbaeaa", sum := "6239e3e08c97b72b65bf3859807b6a02381af197997475dfb78ac6e8d9140e9e", func := "loop.example/g00917/laws.FnExactAreFair", spec := "fnExactAreFair", unfollowed := true, recurses := true, apart := false, narrowed := true }
def FnExactAreFairUptoSaid : Prop := fnExactAreFairUptoRow.holds Try.pinned (OpenSpec.upto fnExactAreFairSpec)

/-- 'laws.FnExactAssignmentCost', WHERE WHAT IT READS IS OF BULK AT MOST 1048576: true; the input reads as it did. -/
def fnExactAssignmentCostUptoRow : OpenClaim := { program := "ytdibkgacplbaeaa", sum := "6239e3e08c97b72b65bf3859807b6a02381af197997475dfb78ac6e8d9140e9e", func := "loop.example/g00917/laws.FnExactAssignmentCost", spec := "fnExactAssignmentCost", unfollowed := true, recurses := true, apart := false, narrowed := true }
def FnExactAssignmentCostUptoSaid : Prop := fnExactAssignmentCostUptoRow.holds Try.pinned (OpenSpec.upto fnExactAssignmentCostSpec)

/-- 'laws.FnExactPriceValue', WHERE WHAT IT READS IS OF BULK AT MOST 1048576: true; the input reads as it did. -/
def fnExactPriceValueUptoRow : OpenClaim := { program := "ytdibkgacplbaeaa", sum := "6239e3e08c97b72b65bf3859807b6a02381af197997475dfb78ac6e8d9140e9e", func := "loop.example/g00917/laws.FnExactPriceValue", spec := "fnExactPriceValue", unfollowed := true, recurses := true, apart := false, narrowed := true }
def FnExactPriceValueUptoSaid : Prop := fnExactPriceValueUptoRow.holds Try.pinned (OpenSpec.upto fnExactPriceValueSpec)

/-- 'laws.FnExactSwapSaving', WHERE WHAT IT READS IS OF BULK AT MOST 1048576: true; the input reads as it did. -/
def fnExactSwapSavingUptoRow : OpenClaim := { program := "ytdibkgacplbaeaa", sum := "6239e3e08c97b72b65bf3859807b6a02381af197997475dfb78ac6e8d9140e9e", func := "loop.example/g00917/laws.FnExactSwapSaving", spec := "fnExactSwapSaving", unfollowed := true, recurses := true, apart := false, narrowed := true }
def FnExactSwapSavingUptoSaid : Prop := fnExactSwapSavingUptoRow.holds Try.pinned (OpenSpec.upto fnExactSwapSavingSpec)

/-- 'laws.FnExactRaisePrices', WHERE WHAT IT READS IS OF BULK AT MOST 1048576: true; the input reads as it did. -/
def fnExactRaisePricesUptoRow : OpenClaim := { program := "ytdibkgacplbaeaa", sum := "6239e3e08c97b72b65bf3859807b6a02381af197997475dfb78ac6e8d9140e9e", func := "loop.example/g00917/laws.FnExactRaisePrices", spec := "fnExactRaisePrices", unfollowed := true, recurses := true, apart := false, narrowed := true }
def FnExactRaisePricesUptoSaid : Prop := fnExactRaisePricesUptoRow.holds Try.pinned (OpenSpec.upto fnExactRaisePricesSpec)

/-- 'laws.FnExactCheapestAssignment', WHERE WHAT IT READS IS OF BULK AT MOST 1048576: true; the input reads as it did. -/
def fnExactCheapestAssignmentUptoRow : OpenClaim := { program := "ytdibkgacplbaeaa", sum := "6239e3e08c97b72b65bf3859807b6a02381af197997475dfb78ac6e8d9140e9e", func := "loop.example/g00917/laws.FnExactCheapestAssignment", spec := "fnExactCheapestAssignment", unfollowed := true, recurses := true, apart := false, narrowed := true }
def FnExactCheapestAssignmentUptoSaid : Prop := fnExactCheapestAssignmentUptoRow.holds Try.pinned (OpenSpec.upto fnExactCheapestAssignmentSpec)

/-- 'laws.FnExactRotateSaving', WHERE WHAT IT READS IS OF BULK AT MOST 1048576: true; the input reads as it did. -/
def fnExactRotateSavingUptoRow : OpenClaim := { program := "ytdibkgacplbaeaa", sum := "6239e3e08c97b72b65bf3859807b6a02381af197997475dfb78ac6e8d9140e9e", func := "loop.example/g00917/laws.FnExactRotateSaving", spec := "fnExactRotateSaving", unfollowed := true, recurses := true, apart := false, narrowed := true }
def FnExactRotateSavingUptoSaid : Prop := fnExactRotateSavingUptoRow.holds Try.pinned (OpenSpec.upto fnExactRotateSavingSpec)

/-- 'laws.FnExactProvesCheapest', WHERE WHAT IT READS IS OF BULK AT MOST 1048576: true; the input reads as it did. -/
def fnExactProvesCheapestUptoRow : OpenClaim := { program := "ytdibkgacplbaeaa", sum := "6239e3e08c97b72b65bf3859807b6a02381af197997475dfb78ac6e8d9140e9e", func := "loop.example/g00917/laws.FnExactProvesCheapest", spec := "fnExactProvesCheapest", unfollowed := true, recurses := true, apart := false, narrowed := true }
def FnExactProvesCheapestUptoSaid : Prop := fnExactProvesCheapestUptoRow.holds Try.pinned (OpenSpec.upto fnExactProvesCheapestSpec)

/-- 'laws.FnPrices', WHERE WHAT IT READS IS OF BULK AT MOST 1048576: true; the input reads as it did. -/
def fnPricesUptoRow : OpenClaim := { program := "ytdibkgacplbaeaa", sum := "6239e3e08c97b72b65bf3859807b6a02381af197997475dfb78ac6e8d9140e9e", func := "loop.example/g00917/laws.FnPrices", spec := "fnPrices", unfollowed := true, recurses := true, apart := false, narrowed := true }
def FnPricesUptoSaid : Prop := fnPricesUptoRow.holds Try.pinned (OpenSpec.upto fnPricesSpec)

/-- 'laws.FnAssignments', WHERE WHAT IT READS IS OF BULK AT MOST 1048576: true; the input reads as it did. -/
def fnAssignmentsUptoRow : OpenClaim := { program := "ytdibkgacplbaeaa", sum := "6239e3e08c97b72b65bf3859807b6a02381af197997475dfb78ac6e8d9140e9e", func := "loop.example/g00917/laws.FnAssignments", spec := "fnAssignments", unfollowed := true, recurses := true, apart := false, narrowed := true }
def FnAssignmentsUptoSaid : Prop := fnAssignmentsUptoRow.holds Try.pinned (OpenSpec.upto fnAssignmentsSpec)

end Rows
end Go.Proofs.Ytdibkgacplbaeaa
