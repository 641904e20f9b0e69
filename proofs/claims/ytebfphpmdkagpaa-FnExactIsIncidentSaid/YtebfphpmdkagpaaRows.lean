/-
  No cell of these rows narrows 'for every input' (looked for: loops, veiled, ifaces, maps, wideKeys, modest, calm, conditions, laid).
  DERIVED. THE GIVEN ROWS OF THIS SEAT. 6 by the template 'for every input the law returns true; each argument reads behind the call as it read before'; 0 by the template 'total and deterministic' (their statements: YtebfphpmdkagpaaTotals.lean).
  GIVEN WITH THE SEED: the statements are not yours to turn. If you find one false, say at which input.
  Laid BY PROGRAM, IN A SANDBOX (cutbox-rows.mjs): the forced cells as the released guide's own fill.sh prints them over the translation 0be7489733e0900b… (all of the seat's roots in one cut). By AI agents, Wed Nov 11 2026. No macro, syntax, notation, axiom, sorry.
-/
import Derived.Test.YtebfphpmdkagpaaChecked
import GoSem.Claim
import GoSem.ClaimJoined
import GoSem.ClaimMapViews
import Derived.JoinedTies
import Derived.KernelRfl
namespace Go.Proofs.Ytebfphpmdkagpaa
/- THE CELL 'sum', in the pinned program and in every row, IS THE sha256 OF THE DUMP (.gsa) THAT YtebfphpmdkagpaaProg.lean LOADS. Nothing in Lean hashes anything: it is a label: what it is worth is what the hold of that sum in a sandbox is worth. -/
noncomputable def Try.pinned : Pinned := { name := "ytebfphpmdkagpaa", sum := "0be7489733e0900bb7dd126b5a4ec0a3dc32416db6b75fd3a3b791e6b0823707", checked := Try.checked }
namespace Rows
def none {H : Type} : Left H := { results := [], args := [] }

/-- 'laws.FnExactIsSmoke': WHATEVER THE INPUT: true; the input reads as it did. -/
def fnExactIsSmokeSpec : ChangeSpec := { name := "fnExactIsSmoke", fn := fun _ => fun
  | [d] => { results := [.lit (.bool true)], args := [d] }
  | _ => none }
def fnExactIsSmokeRow : OpenClaim := { program := "ytebfphpmdkagpaa", sum := "0be7489733e0900bb7dd126b5a4ec0a3dc32416db6b75fd3a3b791e6b0823707", func := "loop.example/g00917/laws.FnExactIsSmoke", spec := "fnExactIsSmoke", unfollowed := true, recurses := true, apart := false }
def FnExactIsSmokeSaid : Prop := fnExactIsSmokeRow.holds Try.pinned (OpenSpec.ofChange fnExactIsSmokeSpec)

/-- ITS FALSE NEIGHBOUR: 'it returns false'. Refute it at one input. -/
def fnExactIsSmokeWrong : ChangeSpec := { name := "fnExactIsSmoke", fn := fun _ => fun
  | [d] => { results := [.lit (.bool false)], args := [d] }
  | _ => none }
def FnExactIsSmokeWrongFalsely : Prop := fnExactIsSmokeRow.holds Try.pinned (OpenSpec.ofChange fnExactIsSmokeWrong)

/-- 'laws.FnExactTotalSmoke': WHATEVER THE INPUT: true; the input reads as it did. -/
def fnExactTotalSmokeSpec : ChangeSpec := { name := "fnExactTotalSmoke", fn := fun _ => fun
  | [d] => { results := [.lit (.bool true)], args := [d] }
  | _ => none }
def fnExactTotalSmokeRow : OpenClaim := { program := "ytebfphpmdkagpaa", sum := "0be7489733e0900bb7dd126b5a4ec0a3dc32416db6b75fd3a3b791e6b0823707", func := "loop.example/g00917/laws.FnExactTotalSmoke", spec := "fnExactTotalSmoke", unfollowed := true, recurses := true, apart := false }
def FnExactTotalSmokeSaid : Prop := fnExactTotalSmokeRow.holds Try.pinned (OpenSpec.ofChange fnExactTotalSmokeSpec)

/-- ITS FALSE NEIGHBOUR: 'it returns false'. Refute it at one input. -/
def fnExactTotalSmokeWrong : ChangeSpec := { name := "fnExactTotalSmoke", fn := fun _ => fun
  | [d] => { results := [.lit (.bool false)], args := [d] }
  | _ => none }
def FnExactTotalSmokeWrongFalsely : Prop := fnExactTotalSmokeRow.holds Try.pinned (OpenSpec.ofChange fnExactTotalSmokeWrong)

/-- 'laws.FnExactSmokeCenter': WHATEVER THE INPUT: true; the input reads as it did. -/
def fnExactSmokeCenterSpec : ChangeSpec := { name := "fnExactSmokeCenter", fn := fun _ => fun
  | [d] => { results := [.lit (.bool true)], args := [d] }
  | _ => none }
def fnExactSmokeCenterRow : OpenClaim := { program := "ytebfphpmdkagpaa", sum := "0be7489733e0900bb7dd126b5a4ec0a3dc32416db6b75fd3a3b791e6b0823707", func := "loop.example/g00917/laws.FnExactSmokeCenter", spec := "fnExactSmokeCenter", unfollowed := true, recurses := true, apart := false }
def FnExactSmokeCenterSaid : Prop := fnExactSmokeCenterRow.holds Try.pinned (OpenSpec.ofChange fnExactSmokeCenterSpec)

/-- ITS FALSE NEIGHBOUR: 'it returns false'. Refute it at one input. -/
def fnExactSmokeCenterWrong : ChangeSpec := { name := "fnExactSmokeCenter", fn := fun _ => fun
  | [d] => { results := [.lit (.bool false)], args := [d] }
  | _ => none }
def FnExactSmokeCenterWrongFalsely : Prop := fnExactSmokeCenterRow.holds Try.pinned (OpenSpec.ofChange fnExactSmokeCenterWrong)

/-- 'laws.FnExactThickCells': WHATEVER THE INPUT: true; the input reads as it did. -/
def fnExactThickCellsSpec : ChangeSpec := { name := "fnExactThickCells", fn := fun _ => fun
  | [d1, d2] => { results := [.lit (.bool true)], args := [d1, d2] }
  | _ => none }
def fnExactThickCellsRow : OpenClaim := { program := "ytebfphpmdkagpaa", sum := "0be7489733e0900bb7dd126b5a4ec0a3dc32416db6b75fd3a3b791e6b0823707", func := "loop.example/g00917/laws.FnExactThickCells", spec := "fnExactThickCells", unfollowed := true, recurses := true, apart := false }
def FnExactThickCellsSaid : Prop := fnExactThickCellsRow.holds Try.pinned (OpenSpec.ofChange fnExactThickCellsSpec)

/-- ITS FALSE NEIGHBOUR: 'it returns false'. Refute it at one input. -/
def fnExactThickCellsWrong : ChangeSpec := { name := "fnExactThickCells", fn := fun _ => fun
  | [d1, d2] => { results := [.lit (.bool false)], args := [d1, d2] }
  | _ => none }
def FnExactThickCellsWrongFalsely : Prop := fnExactThickCellsRow.holds Try.pinned (OpenSpec.ofChange fnExactThickCellsWrong)

/-- 'laws.FnExactSmokeFrom': WHATEVER THE INPUT: true; the input reads as it did. -/
def fnExactSmokeFromSpec : ChangeSpec := { name := "fnExactSmokeFrom", fn := fun _ => fun
  | [d1, d2, d3] => { results := [.lit (.bool true)], args := [d1, d2, d3] }
  | _ => none }
def fnExactSmokeFromRow : OpenClaim := { program := "ytebfphpmdkagpaa", sum := "0be7489733e0900bb7dd126b5a4ec0a3dc32416db6b75fd3a3b791e6b0823707", func := "loop.example/g00917/laws.FnExactSmokeFrom", spec := "fnExactSmokeFrom", unfollowed := true, recurses := true, apart := false }
def FnExactSmokeFromSaid : Prop := fnExactSmokeFromRow.holds Try.pinned (OpenSpec.ofChange fnExactSmokeFromSpec)

/-- ITS FALSE NEIGHBOUR: 'it returns false'. Refute it at one input. -/
def fnExactSmokeFromWrong : ChangeSpec := { name := "fnExactSmokeFrom", fn := fun _ => fun
  | [d1, d2, d3] => { results := [.lit (.bool false)], args := [d1, d2, d3] }
  | _ => none }
def FnExactSmokeFromWrongFalsely : Prop := fnExactSmokeFromRow.holds Try.pinned (OpenSpec.ofChange fnExactSmokeFromWrong)

/-- 'laws.FnExactIsIncident': WHATEVER THE INPUT: true; the input reads as it did. -/
def fnExactIsIncidentSpec : ChangeSpec := { name := "fnExactIsIncident", fn := fun _ => fun
  | [d] => { results := [.lit (.bool true)], args := [d] }
  | _ => none }
def fnExactIsIncidentRow : OpenClaim := { program := "ytebfphpmdkagpaa", sum := "0be7489733e0900bb7dd126b5a4ec0a3dc32416db6b75fd3a3b791e6b0823707", func := "loop.example/g00917/laws.FnExactIsIncident", spec := "fnExactIsIncident", unfollowed := true, recurses := true, apart := false }
def FnExactIsIncidentSaid : Prop := fnExactIsIncidentRow.holds Try.pinned (OpenSpec.ofChange fnExactIsIncidentSpec)

/-- ITS FALSE NEIGHBOUR: 'it returns false'. Refute it at one input. -/
def fnExactIsIncidentWrong : ChangeSpec := { name := "fnExactIsIncident", fn := fun _ => fun
  | [d] => { results := [.lit (.bool false)], args := [d] }
  | _ => none }
def FnExactIsIncidentWrongFalsely : Prop := fnExactIsIncidentRow.holds Try.pinned (OpenSpec.ofChange fnExactIsIncidentWrong)

/- THE SECOND FORM. 'bulk': how many values and letters a reading holds, each counted each time it is reached (what is shared counts as often as it is met; a slice's spare places count too). A statement '..UptoSaid' is the law's where the arguments, and the package variables that the reading takes, are together of bulk at most 1048576: NARROWER than '..Said'. Prove '..Said' where nothing that the law and all that it calls make is longer than what came in: it says more and counts as full. Else prove '..UptoSaid'. A law counts once. -/
mutual
def uptoBulk {H : Type} : DataW H → Nat
  | .lit (.string bytes) => bytes.length + 1
  | .lit _ => 1
  | .nil => 1
  | .ptr d => uptoBulk d + 1
  | .slice elems spare => uptoBulkAll elems + uptoBulkAll spare + 1
  | .agg parts => uptoBulkAll parts + 1
  | .iface _ d => uptoBulk d + 1
  | .map entries => uptoBulkEntries entries + 1
  | .held _ => 1
def uptoBulkAll {H : Type} : List (DataW H) → Nat
  | [] => 0
  | d :: r => uptoBulk d + uptoBulkAll r
def uptoBulkEntries {H : Type} : List (Lit × DataW H) → Nat
  | [] => 0
  | x :: r => uptoBulkEntry x + uptoBulkEntries r
def uptoBulkEntry {H : Type} : Lit × DataW H → Nat
  | (.string bytes, d) => bytes.length + uptoBulk d + 1
  | (_, d) => uptoBulk d + 1
 end
def uptoSmall : (H : Type) → List (DataW H) → Bool := fun _ ds => decide (uptoBulkAll ds ≤ 1048576)
def OpenSpec.upto (s : _root_.Go.ChangeSpec) : _root_.Go.OpenSpec := { _root_.Go.OpenSpec.ofChange s with cond := some uptoSmall }

/-- 'laws.FnExactIsSmoke', WHERE WHAT IT READS IS OF BULK AT MOST 1048576: true; the input reads as it did. -/
def fnExactIsSmokeUptoRow : OpenClaim := { program := "ytebfphpmdkagpaa", sum := "0be7489733e0900bb7dd126b5a4ec0a3dc32416db6b75fd3a3b791e6b0823707", func := "loop.example/g00917/laws.FnExactIsSmoke", spec := "fnExactIsSmoke", unfollowed := true, recurses := true, apart := false, narrowed := true }
def FnExactIsSmokeUptoSaid : Prop := fnExactIsSmokeUptoRow.holds Try.pinned (OpenSpec.upto fnExactIsSmokeSpec)

/-- 'laws.FnExactTotalSmoke', WHERE WHAT IT READS IS OF BULK AT MOST 1048576: true; the input reads as it did. -/
def fnExactTotalSmokeUptoRow : OpenClaim := { program := "ytebfphpmdkagpaa", sum := "0be7489733e0900bb7dd126b5a4ec0a3dc32416db6b75fd3a3b791e6b0823707", func := "loop.example/g00917/laws.FnExactTotalSmoke", spec := "fnExactTotalSmoke", unfollowed := true, recurses := true, apart := false, narrowed := true }
def FnExactTotalSmokeUptoSaid : Prop := fnExactTotalSmokeUptoRow.holds Try.pinned (OpenSpec.upto fnExactTotalSmokeSpec)

/-- 'laws.FnExactSmokeCenter', WHERE WHAT IT READS IS OF BULK AT MOST 1048576: true; the input reads as it did. -/
def fnExactSmokeCenterUptoRow : OpenClaim := { program := "ytebfphpmdkagpaa", sum := "0be7489733e0900bb7dd126b5a4ec0a3dc32416db6b75fd3a3b791e6b0823707", func := "loop.example/g00917/laws.FnExactSmokeCenter", spec := "fnExactSmokeCenter", unfollowed := true, recurses := true, apart := false, narrowed := true }
def FnExactSmokeCenterUptoSaid : Prop := fnExactSmokeCenterUptoRow.holds Try.pinned (OpenSpec.upto fnExactSmokeCenterSpec)

/-- 'laws.FnExactThickCells', WHERE WHAT IT READS IS OF BULK AT MOST 1048576: true; the input reads as it did. -/
def fnExactThickCellsUptoRow : OpenClaim := { program := "ytebfphpmdkagpaa", sum := "0be7489733e0900bb7dd126b5a4ec0a3dc32416db6b75fd3a3b791e6b0823707", func := "loop.example/g00917/laws.FnExactThickCells", spec := "fnExactThickCells", unfollowed := true, recurses := true, apart := false, narrowed := true }
def FnExactThickCellsUptoSaid : Prop := fnExactThickCellsUptoRow.holds Try.pinned (OpenSpec.upto fnExactThickCellsSpec)

/-- 'laws.FnExactSmokeFrom', WHERE WHAT IT READS IS OF BULK AT MOST 1048576: true; the input reads as it did. -/
def fnExactSmokeFromUptoRow : OpenClaim := { program := "ytebfphpmdkagpaa", sum := "0be7489733e0900bb7dd126b5a4ec0a3dc32416db6b75fd3a3b791e6b0823707", func := "loop.example/g00917/laws.FnExactSmokeFrom", spec := "fnExactSmokeFrom", unfollowed := true, recurses := true, apart := false, narrowed := true }
def FnExactSmokeFromUptoSaid : Prop := fnExactSmokeFromUptoRow.holds Try.pinned (OpenSpec.upto fnExactSmokeFromSpec)

/-- 'laws.FnExactIsIncident', WHERE WHAT IT READS IS OF BULK AT MOST 1048576: true; the input reads as it did. -/
def fnExactIsIncidentUptoRow : OpenClaim := { program := "ytebfphpmdkagpaa", sum := "0be7489733e0900bb7dd126b5a4ec0a3dc32416db6b75fd3a3b791e6b0823707", func := "loop.example/g00917/laws.FnExactIsIncident", spec := "fnExactIsIncident", unfollowed := true, recurses := true, apart := false, narrowed := true }
def FnExactIsIncidentUptoSaid : Prop := fnExactIsIncidentUptoRow.holds Try.pinned (OpenSpec.upto fnExactIsIncidentSpec)

end Rows
end Go.Proofs.Ytebfphpmdkagpaa
