/-
  No cell of these rows narrows 'for every input' (looked for: loops, veiled, ifaces, maps, wideKeys, modest, calm, conditions, laid).
  DERIVED. THE GIVEN ROWS OF THIS SEAT. 9 by the template 'for every input the law returns true; each argument reads behind the call as it read before'; 0 by the template 'total and deterministic' (their statements: YtgmofnceheapmaaTotals.lean).
  GIVEN WITH THE SEED: the statements are not yours to turn. If you find one false, say at which input.
  Laid BY PROGRAM, IN A SANDBOX (cutbox-rows.mjs): the forced cells as the released guide's own fill.sh prints them over the translation 535861bbf84741b2… (all of the seat's roots in one cut). By AI agents, Wed Nov 11 2026. No macro, syntax, notation, axiom, sorry.
-/
import Derived.Test.YtgmofnceheapmaaChecked
import GoSem.Claim
import GoSem.ClaimJoined
import GoSem.ClaimMapViews
import Derived.JoinedTies
import Derived.KernelRfl
namespace Go.Proofs.Ytgmofnceheapmaa
/- THE CELL 'sum', in the pinned program and in every row, IS THE sha256 OF THE DUMP (.gsa) THAT YtgmofnceheapmaaProg.lean LOADS. Nothing in Lean hashes anything: it is a label: what it is worth is what the hold of that sum in a sandbox is worth. -/
noncomputable def Try.pinned : Pinned := { name := "ytgmofnceheapmaa", sum := "535861bbf84741b2e708f797d07839deccb368a9edfa47805f686e06707fc8a7", checked := Try.checked }
namespace Rows
def none {H : Type} : Left H := { results := [], args := [] }

/-- 'laws.FnExactIsSituation': WHATEVER THE INPUT: true; the input reads as it did. -/
def fnExactIsSituationSpec : ChangeSpec := { name := "fnExactIsSituation", fn := fun _ => fun
  | [d] => { results := [.lit (.bool true)], args := [d] }
  | _ => none }
def fnExactIsSituationRow : OpenClaim := { program := "ytgmofnceheapmaa", sum := "535861bbf84741b2e708f797d07839deccb368a9edfa47805f686e06707fc8a7", func := "loop.example/g00917/laws.FnExactIsSituation", spec := "fnExactIsSituation", apart := false }
def FnExactIsSituationSaid : Prop := fnExactIsSituationRow.holds Try.pinned (OpenSpec.ofChange fnExactIsSituationSpec)

/-- ITS FALSE NEIGHBOUR: 'it returns false'. Refute it at one input. -/
def fnExactIsSituationWrong : ChangeSpec := { name := "fnExactIsSituation", fn := fun _ => fun
  | [d] => { results := [.lit (.bool false)], args := [d] }
  | _ => none }
def FnExactIsSituationWrongFalsely : Prop := fnExactIsSituationRow.holds Try.pinned (OpenSpec.ofChange fnExactIsSituationWrong)

/-- 'laws.FnExactSituationState': WHATEVER THE INPUT: true; the input reads as it did. -/
def fnExactSituationStateSpec : ChangeSpec := { name := "fnExactSituationState", fn := fun _ => fun
  | [d] => { results := [.lit (.bool true)], args := [d] }
  | _ => none }
def fnExactSituationStateRow : OpenClaim := { program := "ytgmofnceheapmaa", sum := "535861bbf84741b2e708f797d07839deccb368a9edfa47805f686e06707fc8a7", func := "loop.example/g00917/laws.FnExactSituationState", spec := "fnExactSituationState", apart := false }
def FnExactSituationStateSaid : Prop := fnExactSituationStateRow.holds Try.pinned (OpenSpec.ofChange fnExactSituationStateSpec)

/-- ITS FALSE NEIGHBOUR: 'it returns false'. Refute it at one input. -/
def fnExactSituationStateWrong : ChangeSpec := { name := "fnExactSituationState", fn := fun _ => fun
  | [d] => { results := [.lit (.bool false)], args := [d] }
  | _ => none }
def FnExactSituationStateWrongFalsely : Prop := fnExactSituationStateRow.holds Try.pinned (OpenSpec.ofChange fnExactSituationStateWrong)

/-- 'laws.FnExactIsSeries': WHATEVER THE INPUT: true; the input reads as it did. -/
def fnExactIsSeriesSpec : ChangeSpec := { name := "fnExactIsSeries", fn := fun _ => fun
  | [d] => { results := [.lit (.bool true)], args := [d] }
  | _ => none }
def fnExactIsSeriesRow : OpenClaim := { program := "ytgmofnceheapmaa", sum := "535861bbf84741b2e708f797d07839deccb368a9edfa47805f686e06707fc8a7", func := "loop.example/g00917/laws.FnExactIsSeries", spec := "fnExactIsSeries", unfollowed := true, recurses := true, apart := false }
def FnExactIsSeriesSaid : Prop := fnExactIsSeriesRow.holds Try.pinned (OpenSpec.ofChange fnExactIsSeriesSpec)

/-- ITS FALSE NEIGHBOUR: 'it returns false'. Refute it at one input. -/
def fnExactIsSeriesWrong : ChangeSpec := { name := "fnExactIsSeries", fn := fun _ => fun
  | [d] => { results := [.lit (.bool false)], args := [d] }
  | _ => none }
def FnExactIsSeriesWrongFalsely : Prop := fnExactIsSeriesRow.holds Try.pinned (OpenSpec.ofChange fnExactIsSeriesWrong)

/-- 'laws.FnExactFastestGrowth': WHATEVER THE INPUT: true; the input reads as it did. -/
def fnExactFastestGrowthSpec : ChangeSpec := { name := "fnExactFastestGrowth", fn := fun _ => fun
  | [d] => { results := [.lit (.bool true)], args := [d] }
  | _ => none }
def fnExactFastestGrowthRow : OpenClaim := { program := "ytgmofnceheapmaa", sum := "535861bbf84741b2e708f797d07839deccb368a9edfa47805f686e06707fc8a7", func := "loop.example/g00917/laws.FnExactFastestGrowth", spec := "fnExactFastestGrowth", unfollowed := true, recurses := true, apart := false }
def FnExactFastestGrowthSaid : Prop := fnExactFastestGrowthRow.holds Try.pinned (OpenSpec.ofChange fnExactFastestGrowthSpec)

/-- ITS FALSE NEIGHBOUR: 'it returns false'. Refute it at one input. -/
def fnExactFastestGrowthWrong : ChangeSpec := { name := "fnExactFastestGrowth", fn := fun _ => fun
  | [d] => { results := [.lit (.bool false)], args := [d] }
  | _ => none }
def FnExactFastestGrowthWrongFalsely : Prop := fnExactFastestGrowthRow.holds Try.pinned (OpenSpec.ofChange fnExactFastestGrowthWrong)

/-- 'laws.FnExactGrowthBetween': WHATEVER THE INPUT: true; the input reads as it did. -/
def fnExactGrowthBetweenSpec : ChangeSpec := { name := "fnExactGrowthBetween", fn := fun _ => fun
  | [d1, d2, d3] => { results := [.lit (.bool true)], args := [d1, d2, d3] }
  | _ => none }
def fnExactGrowthBetweenRow : OpenClaim := { program := "ytgmofnceheapmaa", sum := "535861bbf84741b2e708f797d07839deccb368a9edfa47805f686e06707fc8a7", func := "loop.example/g00917/laws.FnExactGrowthBetween", spec := "fnExactGrowthBetween", unfollowed := true, recurses := true, apart := false }
def FnExactGrowthBetweenSaid : Prop := fnExactGrowthBetweenRow.holds Try.pinned (OpenSpec.ofChange fnExactGrowthBetweenSpec)

/-- ITS FALSE NEIGHBOUR: 'it returns false'. Refute it at one input. -/
def fnExactGrowthBetweenWrong : ChangeSpec := { name := "fnExactGrowthBetween", fn := fun _ => fun
  | [d1, d2, d3] => { results := [.lit (.bool false)], args := [d1, d2, d3] }
  | _ => none }
def FnExactGrowthBetweenWrongFalsely : Prop := fnExactGrowthBetweenRow.holds Try.pinned (OpenSpec.ofChange fnExactGrowthBetweenWrong)

/-- 'laws.FnExactAddReport': WHATEVER THE INPUT: true; the input reads as it did. -/
def fnExactAddReportSpec : ChangeSpec := { name := "fnExactAddReport", fn := fun _ => fun
  | [d1, d2] => { results := [.lit (.bool true)], args := [d1, d2] }
  | _ => none }
def fnExactAddReportRow : OpenClaim := { program := "ytgmofnceheapmaa", sum := "535861bbf84741b2e708f797d07839deccb368a9edfa47805f686e06707fc8a7", func := "loop.example/g00917/laws.FnExactAddReport", spec := "fnExactAddReport", unfollowed := true, recurses := true, apart := false }
def FnExactAddReportSaid : Prop := fnExactAddReportRow.holds Try.pinned (OpenSpec.ofChange fnExactAddReportSpec)

/-- ITS FALSE NEIGHBOUR: 'it returns false'. Refute it at one input. -/
def fnExactAddReportWrong : ChangeSpec := { name := "fnExactAddReport", fn := fun _ => fun
  | [d1, d2] => { results := [.lit (.bool false)], args := [d1, d2] }
  | _ => none }
def FnExactAddReportWrongFalsely : Prop := fnExactAddReportRow.holds Try.pinned (OpenSpec.ofChange fnExactAddReportWrong)

/-- 'laws.FnExactCorrectReport': WHATEVER THE INPUT: true; the input reads as it did. -/
def fnExactCorrectReportSpec : ChangeSpec := { name := "fnExactCorrectReport", fn := fun _ => fun
  | [d1, d2] => { results := [.lit (.bool true)], args := [d1, d2] }
  | _ => none }
def fnExactCorrectReportRow : OpenClaim := { program := "ytgmofnceheapmaa", sum := "535861bbf84741b2e708f797d07839deccb368a9edfa47805f686e06707fc8a7", func := "loop.example/g00917/laws.FnExactCorrectReport", spec := "fnExactCorrectReport", unfollowed := true, recurses := true, apart := false }
def FnExactCorrectReportSaid : Prop := fnExactCorrectReportRow.holds Try.pinned (OpenSpec.ofChange fnExactCorrectReportSpec)

/-- ITS FALSE NEIGHBOUR: 'it returns false'. Refute it at one input. -/
def fnExactCorrectReportWrong : ChangeSpec := { name := "fnExactCorrectReport", fn := fun _ => fun
  | [d1, d2] => { results := [.lit (.bool false)], args := [d1, d2] }
  | _ => none }
def FnExactCorrectReportWrongFalsely : Prop := fnExactCorrectReportRow.holds Try.pinned (OpenSpec.ofChange fnExactCorrectReportWrong)

/-- 'laws.FnExactStateChanges': WHATEVER THE INPUT: true; the input reads as it did. -/
def fnExactStateChangesSpec : ChangeSpec := { name := "fnExactStateChanges", fn := fun _ => fun
  | [d] => { results := [.lit (.bool true)], args := [d] }
  | _ => none }
def fnExactStateChangesRow : OpenClaim := { program := "ytgmofnceheapmaa", sum := "535861bbf84741b2e708f797d07839deccb368a9edfa47805f686e06707fc8a7", func := "loop.example/g00917/laws.FnExactStateChanges", spec := "fnExactStateChanges", unfollowed := true, recurses := true, apart := false }
def FnExactStateChangesSaid : Prop := fnExactStateChangesRow.holds Try.pinned (OpenSpec.ofChange fnExactStateChangesSpec)

/-- ITS FALSE NEIGHBOUR: 'it returns false'. Refute it at one input. -/
def fnExactStateChangesWrong : ChangeSpec := { name := "fnExactStateChanges", fn := fun _ => fun
  | [d] => { results := [.lit (.bool false)], args := [d] }
  | _ => none }
def FnExactStateChangesWrongFalsely : Prop := fnExactStateChangesRow.holds Try.pinned (OpenSpec.ofChange fnExactStateChangesWrong)

/-- 'laws.FnSeries': WHATEVER THE INPUT: true; the input reads as it did. -/
def fnSeriesSpec : ChangeSpec := { name := "fnSeries", fn := fun _ => fun
  | [d] => { results := [.lit (.bool true)], args := [d] }
  | _ => none }
def fnSeriesRow : OpenClaim := { program := "ytgmofnceheapmaa", sum := "535861bbf84741b2e708f797d07839deccb368a9edfa47805f686e06707fc8a7", func := "loop.example/g00917/laws.FnSeries", spec := "fnSeries", unfollowed := true, recurses := true, apart := false }
def FnSeriesSaid : Prop := fnSeriesRow.holds Try.pinned (OpenSpec.ofChange fnSeriesSpec)

/-- ITS FALSE NEIGHBOUR: 'it returns false'. Refute it at one input. -/
def fnSeriesWrong : ChangeSpec := { name := "fnSeries", fn := fun _ => fun
  | [d] => { results := [.lit (.bool false)], args := [d] }
  | _ => none }
def FnSeriesWrongFalsely : Prop := fnSeriesRow.holds Try.pinned (OpenSpec.ofChange fnSeriesWrong)

/- THE SECOND FORM. 'bulk': how many values and letters a reading holds, each counted each time it is reached (what is shared counts as often as it is met; a slice's spare places count too). A statement '..UptoSaid' is the law's where the arguments, and the package variables that the reading takes, are together of bulk at most 1048576: NARROWER than '..Said'. Prove '..Said' where nothing that the law and all that it calls make is longer than what came in: it says more and counts as full. Else prove '..UptoSaid'. A law counts once. -/
mutual
def uptoBulk {H : Type} : DataW H → Nat
  | .lit (.string bytes) => bytes.length + 1
  | .lit _ => 1
  | .nil => 1
  | .ptr d => uptoBulk d + 1
  | .slice elems spare => uptoBulkAll elems + uptoBulkAll spare + 1
  | .agg parts => uptoBulkAll parts + 1
  | .iface _ d => uptoBulk d + 1
  | .map entries => uptoBulkEntries entries + 1
  | .held _ => 1
def uptoBulkAll {H : Type} : List (DataW H) → Nat
  | [] => 0
  | d :: r => uptoBulk d + uptoBulkAll r
def uptoBulkEntries {H : Type} : List (Lit × DataW H) → Nat
  | [] => 0
  | x :: r => uptoBulkEntry x + uptoBulkEntries r
def uptoBulkEntry {H : Type} : Lit × DataW H → Nat
  | (.string bytes, d) => bytes.length + uptoBulk d + 1
  | (_, d) => uptoBulk d + 1
 end
def uptoSmall : (H : Type) → List (DataW H) → Bool := fun _ ds => decide (uptoBulkAll ds ≤ 1048576)
def OpenSpec.upto (s : _root_.Go.ChangeSpec) : _root_.Go.OpenSpec := { _root_.Go.OpenSpec.ofChange s with cond := some uptoSmall }

/-- 'laws.FnExactIsSituation', WHERE WHAT IT READS IS OF BULK AT MOST 1048576: true; the input reads as it did. -/
def fnExactIsSituationUptoRow : OpenClaim := { program := "ytgmofnceheapmaa", sum := "535861bbf84741b2e708f797d07839deccb368a9edfa47805f686e06707fc8a7", func := "loop.example/g00917/laws.FnExactIsSituation", spec := "fnExactIsSituation", apart := false, narrowed := true }
def FnExactIsSituationUptoSaid : Prop := fnExactIsSituationUptoRow.holds Try.pinned (OpenSpec.upto fnExactIsSituationSpec)

/-- 'laws.FnExactSituationState', WHERE WHAT IT READS IS OF BULK AT MOST 1048576: true; the input reads as it did. -/
def fnExactSituationStateUptoRow : OpenClaim := { program := "ytgmofnceheapmaa", sum := "535861bbf84741b2e708f797d07839deccb368a9edfa47805f686e06707fc8a7", func := "loop.example/g00917/laws.FnExactSituationState", spec := "fnExactSituationState", apart := false, narrowed := true }
def FnExactSituationStateUptoSaid : Prop := fnExactSituationStateUptoRow.holds Try.pinned (OpenSpec.upto fnExactSituationStateSpec)

/-- 'laws.FnExactIsSeries', WHERE WHAT IT READS IS OF BULK AT MOST 1048576: true; the input reads as it did. -/
def fnExactIsSeriesUptoRow : OpenClaim := { program := "ytgmofnceheapmaa", sum := "535861bbf84741b2e708f797d07839deccb368a9edfa47805f686e06707fc8a7", func := "loop.example/g00917/laws.FnExactIsSeries", spec := "fnExactIsSeries", unfollowed := true, recurses := true, apart := false, narrowed := true }
def FnExactIsSeriesUptoSaid : Prop := fnExactIsSeriesUptoRow.holds Try.pinned (OpenSpec.upto fnExactIsSeriesSpec)

/-- 'laws.FnExactFastestGrowth', WHERE WHAT IT READS IS OF BULK AT MOST 1048576: true; the input reads as it did. -/
def fnExactFastestGrowthUptoRow : OpenClaim := { program := "ytgmofnceheapmaa", sum := "535861bbf84741b2e708f797d07839deccb368a9edfa47805f686e06707fc8a7", func := "loop.example/g00917/laws.FnExactFastestGrowth", spec := "fnExactFastestGrowth", unfollowed := true, recurses := true, apart := false, narrowed := true }
def FnExactFastestGrowthUptoSaid : Prop := fnExactFastestGrowthUptoRow.holds Try.pinned (OpenSpec.upto fnExactFastestGrowthSpec)

/-- 'laws.FnExactGrowthBetween', WHERE WHAT IT READS IS OF BULK AT MOST 1048576: true; the input reads as it did. -/
def fnExactGrowthBetweenUptoRow : OpenClaim := { program := "ytgmofnceheapmaa", sum := "535861bbf84741b2e708f797d07839deccb368a9edfa47805f686e06707fc8a7", func := "loop.example/g00917/laws.FnExactGrowthBetween", spec := "fnExactGrowthBetween", unfollowed := true, recurses := true, apart := false, narrowed := true }
def FnExactGrowthBetweenUptoSaid : Prop := fnExactGrowthBetweenUptoRow.holds Try.pinned (OpenSpec.upto fnExactGrowthBetweenSpec)

/-- 'laws.FnExactAddReport', WHERE WHAT IT READS IS OF BULK AT MOST 1048576: true; the input reads as it did. -/
def fnExactAddReportUptoRow : OpenClaim := { program := "ytgmofnceheapmaa", sum := "535861bbf84741b2e708f797d07839deccb368a9edfa47805f686e06707fc8a7", func := "loop.example/g00917/laws.FnExactAddReport", spec := "fnExactAddReport", unfollowed := true, recurses := true, apart := false, narrowed := true }
def FnExactAddReportUptoSaid : Prop := fnExactAddReportUptoRow.holds Try.pinned (OpenSpec.upto fnExactAddReportSpec)

/-- 'laws.FnExactCorrectReport', WHERE WHAT IT READS IS OF BULK AT MOST 1048576: true; the input reads as it did. -/
def fnExactCorrectReportUptoRow : OpenClaim := { program := "ytgmofnceheapmaa", sum := "535861bbf84741b2e708f797d07839deccb368a9edfa47805f686e06707fc8a7", func := "loop.example/g00917/laws.FnExactCorrectReport", spec := "fnExactCorrectReport", unfollowed := true, recurses := true, apart := false, narrowed := true }
def FnExactCorrectReportUptoSaid : Prop := fnExactCorrectReportUptoRow.holds Try.pinned (OpenSpec.upto fnExactCorrectReportSpec)

/-- 'laws.FnExactStateChanges', WHERE WHAT IT READS IS OF BULK AT MOST 1048576: true; the input reads as it did. -/
def fnExactStateChangesUptoRow : OpenClaim := { program := "ytgmofnceheapmaa", sum := "535861bbf84741b2e708f797d07839deccb368a9edfa47805f686e06707fc8a7", func := "loop.example/g00917/laws.FnExactStateChanges", spec := "fnExactStateChanges", unfollowed := true, recurses := true, apart := false, narrowed := true }
def FnExactStateChangesUptoSaid : Prop := fnExactStateChangesUptoRow.holds Try.pinned (OpenSpec.upto fnExactStateChangesSpec)

/-- 'laws.FnSeries', WHERE WHAT IT READS IS OF BULK AT MOST 1048576: true; the input reads as it did. -/
def fnSeriesUptoRow : OpenClaim := { program := "ytgmofnceheapmaa", sum := "535861bbf84741b2e708f797d07839deccb368a9edfa47805f686e06707fc8a7", func := "loop.example/g00917/laws.FnSeries", spec := "fnSeries", unfollowed := true, recurses := true, apart := false, narrowed := true }
def FnSeriesUptoSaid : Prop := fnSeriesUptoRow.holds Try.pinned (OpenSpec.upto fnSeriesSpec)

end Rows
end Go.Proofs.Ytgmofnceheapmaa
