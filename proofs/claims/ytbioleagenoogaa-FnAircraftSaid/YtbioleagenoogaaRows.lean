/-
  No cell of these rows narrows 'for every input' (looked for: loops, veiled, ifaces, maps, wideKeys, modest, calm, conditions, laid).
  DERIVED. THE GIVEN ROWS OF THIS SEAT. 3 by the template 'for every input the law returns true; each argument reads behind the call as it read before'; 0 by the template 'total and deterministic' (their statements: YtbioleagenoogaaTotals.lean).
  GIVEN WITH THE SEED: the statements are not yours to turn. If you find one false, say at which input.
  Laid BY PROGRAM, IN A SANDBOX (cutbox-rows.mjs): the forced cells as the released guide's own fill.sh prints them over the translation fc241bb5307d8f19… (all of the seat's roots in one cut). By AI agents, Wed Nov 11 2026. No macro, syntax, notation, axiom, sorry.
-/
import Derived.Test.YtbioleagenoogaaChecked
import GoSem.Claim
import GoSem.ClaimJoined
import GoSem.ClaimMapViews
import Derived.JoinedTies
import Derived.KernelRfl
namespace Go.Proofs.Ytbioleagenoogaa
/- THE CELL 'sum', in the pinned program and in every row, IS THE sha256 OF THE DUMP (.gsa) THAT YtbioleagenoogaaProg.lean LOADS. Nothing in Lean hashes anything: it is a label: what it is worth is what the hold of that sum in a sandbox is worth. -/
noncomputable def Try.pinned : Pinned := { name := "ytbioleagenoogaa", sum := "fc241bb5307d8f19f240dbec97055d92c6a8b2db72272e25d6c17564879e263b", checked := Try.checked }
namespace Rows
def none {H : Type} : Left H := { results := [], args := [] }

/-- 'laws.FnExactFewestFor': WHATEVER THE INPUT: true; the input reads as it did. -/
def fnExactFewestForSpec : ChangeSpec := { name := "fnExactFewestFor", fn := fun _ => fun
  | [d1, d2, d3] => { results := [.lit (.bool true)], args := [d1, d2, d3] }
  | _ => none }
def fnExactFewestForRow : OpenClaim := { program := "ytbioleagenoogaa", sum := "fc241bb5307d8f19f240dbec97055d92c6a8b2db72272e25d6c17564879e263b", func := "loop.example/g00917/laws.FnExactFewestFor", spec := "fnExactFewestFor", unfollowed := true, recurses := true, apart := false }
def FnExactFewestForSaid : Prop := fnExactFewestForRow.holds Try.pinned (OpenSpec.ofChange fnExactFewestForSpec)

/-- ITS FALSE NEIGHBOUR: 'it returns false'. Refute it at one input. -/
def fnExactFewestForWrong : ChangeSpec := { name := "fnExactFewestFor", fn := fun _ => fun
  | [d1, d2, d3] => { results := [.lit (.bool false)], args := [d1, d2, d3] }
  | _ => none }
def FnExactFewestForWrongFalsely : Prop := fnExactFewestForRow.holds Try.pinned (OpenSpec.ofChange fnExactFewestForWrong)

/-- 'laws.FnSorties': WHATEVER THE INPUT: true; the input reads as it did. -/
def fnSortiesSpec : ChangeSpec := { name := "fnSorties", fn := fun _ => fun
  | [d] => { results := [.lit (.bool true)], args := [d] }
  | _ => none }
def fnSortiesRow : OpenClaim := { program := "ytbioleagenoogaa", sum := "fc241bb5307d8f19f240dbec97055d92c6a8b2db72272e25d6c17564879e263b", func := "loop.example/g00917/laws.FnSorties", spec := "fnSorties", apart := false }
def FnSortiesSaid : Prop := fnSortiesRow.holds Try.pinned (OpenSpec.ofChange fnSortiesSpec)

/-- ITS FALSE NEIGHBOUR: 'it returns false'. Refute it at one input. -/
def fnSortiesWrong : ChangeSpec := { name := "fnSorties", fn := fun _ => fun
  | [d] => { results := [.lit (.bool false)], args := [d] }
  | _ => none }
def FnSortiesWrongFalsely : Prop := fnSortiesRow.holds Try.pinned (OpenSpec.ofChange fnSortiesWrong)

/-- 'laws.FnAircraft': WHATEVER THE INPUT: true; the input reads as it did. -/
def fnAircraftSpec : ChangeSpec := { name := "fnAircraft", fn := fun _ => fun
  | [d] => { results := [.lit (.bool true)], args := [d] }
  | _ => none }
def fnAircraftRow : OpenClaim := { program := "ytbioleagenoogaa", sum := "fc241bb5307d8f19f240dbec97055d92c6a8b2db72272e25d6c17564879e263b", func := "loop.example/g00917/laws.FnAircraft", spec := "fnAircraft", unfollowed := true, recurses := true, apart := false }
def FnAircraftSaid : Prop := fnAircraftRow.holds Try.pinned (OpenSpec.ofChange fnAircraftSpec)

/-- ITS FALSE NEIGHBOUR: 'it returns false'. Refute it at one input. -/
def fnAircraftWrong : ChangeSpec := { name := "fnAircraft", fn := fun _ => fun
  | [d] => { results := [.lit (.bool false)], args := [d] }
  | _ => none }
def FnAircraftWrongFalsely : Prop := fnAircraftRow.holds Try.pinned (OpenSpec.ofChange fnAircraftWrong)

/- THE SECOND FORM. 'bulk': how many values and letters a reading holds, each counted each time it is reached (what is shared counts as often as it is met; a slice's spare places count too). A statement '..UptoSaid' is the law's where the arguments, and the package variables that the reading takes, are together of bulk at most 1048576: NARROWER than '..Said'. Prove '..Said' where nothing that the law and all that it calls make is longer than what came in: it says more and counts as full. Else prove '..UptoSaid'. A law counts once. -/
mutual
def uptoBulk {H : Type} : DataW H → Nat
  | .lit (.string bytes) => bytes.length + 1
  | .lit _ => 1
  | .nil => 1
  | .ptr d => uptoBulk d + 1
  | .slice elems spare => uptoBulkAll elems + uptoBulkAll spare + 1
  | .agg parts => uptoBulkAll parts + 1
  | .iface _ d => uptoBulk d + 1
  | .map entries => uptoBulkEntries entries + 1
  | .held _ => 1
def uptoBulkAll {H : Type} : List (DataW H) → Nat
  | [] => 0
  | d :: r => uptoBulk d + uptoBulkAll r
def uptoBulkEntries {H : Type} : List (Lit × DataW H) → Nat
  | [] => 0
  | x :: r => uptoBulkEntry x + uptoBulkEntries r
def uptoBulkEntry {H : Type} : Lit × DataW H → Nat
  | (.string bytes, d) => bytes.length + uptoBulk d + 1
  | (_, d) => uptoBulk d + 1
 end
def uptoSmall : (H : Type) → List (DataW H) → Bool := fun _ ds => decide (uptoBulkAll ds ≤ 1048576)
def OpenSpec.upto (s : _root_.Go.ChangeSpec) : _root_.Go.OpenSpec := { _root_.Go.OpenSpec.ofChange s with cond := some uptoSmall }

/-- 'laws.FnExactFewestFor', WHERE WHAT IT READS IS OF BULK AT MOST 1048576: true; the input reads as it did. -/
def fnExactFewestForUptoRow : OpenClaim := { program := "ytbioleagenoogaa", sum := "fc241bb5307d8f19f240dbec97055d92c6a8b2db72272e25d6c17564879e263b", func := "loop.example/g00917/laws.FnExactFewestFor", spec := "fnExactFewestFor", unfollowed := true, recurses := true, apart := false, narrowed := true }
def FnExactFewestForUptoSaid : Prop := fnExactFewestForUptoRow.holds Try.pinned (OpenSpec.upto fnExactFewestForSpec)

/-- 'laws.FnSorties', WHERE WHAT IT READS IS OF BULK AT MOST 1048576: true; the input reads as it did. -/
def fnSortiesUptoRow : OpenClaim := { program := "ytbioleagenoogaa", sum := "fc241bb5307d8f19f240dbec97055d92c6a8b2db72272e25d6c17564879e263b", func := "loop.example/g00917/laws.FnSorties", spec := "fnSorties", apart := false, narrowed := true }
def FnSortiesUptoSaid : Prop := fnSortiesUptoRow.holds Try.pinned (OpenSpec.upto fnSortiesSpec)

/-- 'laws.FnAircraft', WHERE WHAT IT READS IS OF BULK AT MOST 1048576: true; the input reads as it did. -/
def fnAircraftUptoRow : OpenClaim := { program := "ytbioleagenoogaa", sum := "fc241bb5307d8f19f240dbec97055d92c6a8b2db72272e25d6c17564879e263b", func := "loop.example/g00917/laws.FnAircraft", spec := "fnAircraft", unfollowed := true, recurses := true, apart := false, narrowed := true }
def FnAircraftUptoSaid : Prop := fnAircraftUptoRow.holds Try.pinned (OpenSpec.upto fnAircraftSpec)

end Rows
end Go.Proofs.Ytbioleagenoogaa
