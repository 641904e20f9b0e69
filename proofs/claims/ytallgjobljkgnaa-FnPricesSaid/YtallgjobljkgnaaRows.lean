/-
  No cell of these rows narrows 'for every input' (looked for: loops, veiled, ifaces, maps, wideKeys, modest, calm, conditions, laid).
  DERIVED. THE GIVEN ROWS OF THIS SEAT. 3 by the template 'for every input the law returns true; each argument reads behind the call as it read before'; 0 by the template 'total and deterministic' (their statements: YtallgjobljkgnaaTotals.lean).
  GIVEN WITH THE SEED: the statements are not yours to turn. If you find one false, say at which input.
  Laid BY PROGRAM, IN A SANDBOX (cutbox-rows.mjs): the forced cells as the released guide's own fill.sh prints them over the translation 65b825a1b3dd5757… (all of the seat's roots in one cut). By AI agents, Wed Nov 11 2026. No macro, syntax, notation, axiom, sorry.
-/
import Derived.Test.YtallgjobljkgnaaChecked
import GoSem.Claim
import GoSem.ClaimJoined
import GoSem.ClaimMapViews
import Derived.JoinedTies
import Derived.KernelRfl
namespace Go.Proofs.Ytallgjobljkgnaa
/- THE CELL 'sum', in the pinned program and in every row, IS THE sha256 OF THE DUMP (.gsa) THAT YtallgjobljkgnaaProg.lean LOADS. Nothing in Lean hashes anything: it is a label: what it is worth is what the hold of that sum in a sandbox is worth. -/
noncomputable def Try.pinned : Pinned := { name := "ytallgjobljkgnaa", sum := "65b825a1b3dd57578838f2b8ef41951a02da14a22138bf4260bd9bce94fe146b", checked := Try.checked }
namespace Rows
def none {H : Type} : Left H := { results := [], args := [] }

/-- 'laws.FnExactCheapestAssignment': WHATEVER THE INPUT: true; the input reads as it did. -/
def fnExactCheapestAssignmentSpec : ChangeSpec := { name := "fnExactCheapestAssignment", fn := fun _ => fun
  | [d] => { results := [.lit (.bool true)], args := [d] }
  | _ => none }
def fnExactCheapestAssignmentRow : OpenClaim := { program := "ytallgjobljkgnaa", sum := "65b825a1b3dd57578838f2b8ef41951a02da14a22138bf4260bd9bce94fe146b", func := "loop.example/g00917/laws.FnExactCheapestAssignment", spec := "fnExactCheapestAssignment", unfollowed := true, recurses := true, apart := false }
def FnExactCheapestAssignmentSaid : Prop := fnExactCheapestAssignmentRow.holds Try.pinned (OpenSpec.ofChange fnExactCheapestAssignmentSpec)

/-- ITS FALSE NEIGHBOUR: 'it returns false'. Refute it at one input. -/
def fnExactCheapestAssignmentWrong : ChangeSpec := { name := "fnExactCheapestAssignment", fn := fun _ => fun
  | [d] => { results := [.lit (.bool false)], args := [d] }
  | _ => none }
def FnExactCheapestAssignmentWrongFalsely : Prop := fnExactCheapestAssignmentRow.holds Try.pinned (OpenSpec.ofChange fnExactCheapestAssignmentWrong)

/-- 'laws.FnPrices': WHATEVER THE INPUT: true; the input reads as it did. -/
def fnPricesSpec : ChangeSpec := { name := "fnPrices", fn := fun _ => fun
  | [d] => { results := [.lit (.bool true)], args := [d] }
  | _ => none }
def fnPricesRow : OpenClaim := { program := "ytallgjobljkgnaa", sum := "65b825a1b3dd57578838f2b8ef41951a02da14a22138bf4260bd9bce94fe146b", func := "loop.example/g00917/laws.FnPrices", spec := "fnPrices", unfollowed := true, recurses := true, apart := false }
def FnPricesSaid : Prop := fnPricesRow.holds Try.pinned (OpenSpec.ofChange fnPricesSpec)

/-- ITS FALSE NEIGHBOUR: 'it returns false'. Refute it at one input. -/
def fnPricesWrong : ChangeSpec := { name := "fnPrices", fn := fun _ => fun
  | [d] => { results := [.lit (.bool false)], args := [d] }
  | _ => none }
def FnPricesWrongFalsely : Prop := fnPricesRow.holds Try.pinned (OpenSpec.ofChange fnPricesWrong)

/-- 'laws.FnAssignments': WHATEVER THE INPUT: true; the input reads as it did. -/
def fnAssignmentsSpec : ChangeSpec := { name := "fnAssignments", fn := fun _ => fun
  | [d] => { results := [.lit (.bool true)], args := [d] }
  | _ => none }
def fnAssignmentsRow : OpenClaim := { program := "ytallgjobljkgnaa", sum := "65b825a1b3dd57578838f2b8ef41951a02da14a22138bf4260bd9bce94fe146b", func := "loop.example/g00917/laws.FnAssignments", spec := "fnAssignments", unfollowed := true, recurses := true, apart := false }
def FnAssignmentsSaid : Prop := fnAssignmentsRow.holds Try.pinned (OpenSpec.ofChange fnAssignmentsSpec)

/-- ITS FALSE NEIGHBOUR: 'it returns false'. Refute it at one input. -/
def fnAssignmentsWrong : ChangeSpec := { name := "fnAssignments", fn := fun _ => fun
  | [d] => { results := [.lit (.bool false)], args := [d] }
  | _ => none }
def FnAssignmentsWrongFalsely : Prop := fnAssignmentsRow.holds Try.pinned (OpenSpec.ofChange fnAssignmentsWrong)

/- THE SECOND FORM. 'bulk': how many values and letters a reading holds, each counted each time it is reached (what is shared counts as often as it is met; a slice's spare places count too). A statement '..UptoSaid' is the law's where the arguments, and the package variables that the reading takes, are together of bulk at most 1048576: NARROWER than '..Said'. Prove '..Said' where nothing that the law and all that it calls make is longer than what came in: it says more and counts as full. Else prove '..UptoSaid'. A law counts once. -/
mutual
def uptoBulk {H : Type} : DataW H → Nat
  | .lit (.string bytes) => bytes.length + 1
  | .lit _ => 1
  | .nil => 1
  | .ptr d => uptoBulk d + 1
  | .slice elems spare => uptoBulkAll elems + uptoBulkAll spare + 1
  | .agg parts => uptoBulkAll parts + 1
  | .iface _ d => uptoBulk d + 1
  | .map entries => uptoBulkEntries entries + 1
  | .held _ => 1
def uptoBulkAll {H : Type} : List (DataW H) → Nat
  | [] => 0
  | d :: r => uptoBulk d + uptoBulkAll r
def uptoBulkEntries {H : Type} : List (Lit × DataW H) → Nat
  | [] => 0
  | x :: r => uptoBulkEntry x + uptoBulkEntries r
def uptoBulkEntry {H : Type} : Lit × DataW H → Nat
  | (.string bytes, d) => bytes.length + uptoBulk d + 1
  | (_, d) => uptoBulk d + 1
 end
def uptoSmall : (H : Type) → List (DataW H) → Bool := fun _ ds => decide (uptoBulkAll ds ≤ 1048576)
def OpenSpec.upto (s : _root_.Go.ChangeSpec) : _root_.Go.OpenSpec := { _root_.Go.OpenSpec.ofChange s with cond := some uptoSmall }

/-- 'laws.FnExactCheapestAssignment', WHERE WHAT IT READS IS OF BULK AT MOST 1048576: true; the input reads as it did. -/
def fnExactCheapestAssignmentUptoRow : OpenClaim := { program := "ytallgjobljkgnaa", sum := "65b825a1b3dd57578838f2b8ef41951a02da14a22138bf4260bd9bce94fe146b", func := "loop.example/g00917/laws.FnExactCheapestAssignment", spec := "fnExactCheapestAssignment", unfollowed := true, recurses := true, apart := false, narrowed := true }
def FnExactCheapestAssignmentUptoSaid : Prop := fnExactCheapestAssignmentUptoRow.holds Try.pinned (OpenSpec.upto fnExactCheapestAssignmentSpec)

/-- 'laws.FnPrices', WHERE WHAT IT READS IS OF BULK AT MOST 1048576: true; the input reads as it did. -/
def fnPricesUptoRow : OpenClaim := { program := "ytallgjobljkgnaa", sum := "65b825a1b3dd57578838f2b8ef41951a02da14a22138bf4260bd9bce94fe146b", func := "loop.example/g00917/laws.FnPrices", spec := "fnPrices", unfollowed := true, recurses := true, apart := false, narrowed := true }
def FnPricesUptoSaid : Prop := fnPricesUptoRow.holds Try.pinned (OpenSpec.upto fnPricesSpec)

/-- 'laws.FnAssignments', WHERE WHAT IT READS IS OF BULK AT MOST 1048576: true; the input reads as it did. -/
def fnAssignmentsUptoRow : OpenClaim := { program := "ytallgjobljkgnaa", sum := "65b825a1b3dd57578838f2b8ef41951a02da14a22138bf4260bd9bce94fe146b", func := "loop.example/g00917/laws.FnAssignments", spec := "fnAssignments", unfollowed := true, recurses := true, apart := false, narrowed := true }
def FnAssignmentsUptoSaid : Prop := fnAssignmentsUptoRow.holds Try.pinned (OpenSpec.upto fnAssignmentsSpec)

end Rows
end Go.Proofs.Ytallgjobljkgnaa
