/-
  No cell of these rows narrows 'for every input' (looked for: loops, veiled, ifaces, maps, wideKeys, modest, calm, conditions, laid).
  DERIVED. THE GIVEN ROWS OF THIS SEAT. 7 by the template 'for every input the law returns true; each argument reads behind the call as it read before'; 0 by the template 'total and deterministic' (their statements: YthgabapegpndnaaTotals.lean).
  GIVEN WITH THE SEED: the statements are not yours to turn. If you find one false, say at which input.
  Laid BY PROGRAM, IN A SANDBOX (cutbox-rows.mjs): the forced cells as the released guide's own fill.sh prints them over the translation 10b88b882a53c11b… (all of the seat's roots in one cut). By AI agents, Wed Nov 11 2026. No macro, syntax, notation, axiom, sorry.
-/
import Derived.Test.YthgabapegpndnaaChecked
import GoSem.Claim
import GoSem.ClaimJoined
import GoSem.ClaimMapViews
import Derived.JoinedTies
import Derived.KernelRfl
namespace Go.Proofs.Ythgabapegpndnaa
/- THE CELL 'sum', in the pinned program and in every row, IS THE sha256 OF THE DUMP (.gsa) THAT YthgabapegpndnaaProg.lean LOADS. Nothing in Lean hashes anything: it is a label: what it is worth is what the hold of that sum in a sandbox is worth. -/
noncomputable def Try.pinned : Pinned := { name := "ythgabapegpndnaa", sum := "10b88b882a53c11b8717454f1daee2ff55f87bb5de090ebd0ce4bc6b875eedcc", checked := Try.checked }
namespace Rows
def none {H : Type} : Left H := { results := [], args := [] }

/-- 'laws.FnExactIsNotebook': WHATEVER THE INPUT: true; the input reads as it did. -/
def fnExactIsNotebookSpec : ChangeSpec := { name := "fnExactIsNotebook", fn := fun _ => fun
  | [d1, d2] => { results := [.lit (.bool true)], args := [d1, d2] }
  | _ => none }
def fnExactIsNotebookRow : OpenClaim := { program := "ythgabapegpndnaa", sum := "10b88b882a53c11b8717454f1daee2ff55f87bb5de090ebd0ce4bc6b875eedcc", func := "loop.example/g00917/laws.FnExactIsNotebook", spec := "fnExactIsNotebook", unfollowed := true, recurses := true, apart := false }
def FnExactIsNotebookSaid : Prop := fnExactIsNotebookRow.holds Try.pinned (OpenSpec.ofChange fnExactIsNotebookSpec)

/-- ITS FALSE NEIGHBOUR: 'it returns false'. Refute it at one input. -/
def fnExactIsNotebookWrong : ChangeSpec := { name := "fnExactIsNotebook", fn := fun _ => fun
  | [d1, d2] => { results := [.lit (.bool false)], args := [d1, d2] }
  | _ => none }
def FnExactIsNotebookWrongFalsely : Prop := fnExactIsNotebookRow.holds Try.pinned (OpenSpec.ofChange fnExactIsNotebookWrong)

/-- 'laws.FnExactIsBefore': WHATEVER THE INPUT: true; the input reads as it did. -/
def fnExactIsBeforeSpec : ChangeSpec := { name := "fnExactIsBefore", fn := fun _ => fun
  | [d1, d2, d3] => { results := [.lit (.bool true)], args := [d1, d2, d3] }
  | _ => none }
def fnExactIsBeforeRow : OpenClaim := { program := "ythgabapegpndnaa", sum := "10b88b882a53c11b8717454f1daee2ff55f87bb5de090ebd0ce4bc6b875eedcc", func := "loop.example/g00917/laws.FnExactIsBefore", spec := "fnExactIsBefore", unfollowed := true, recurses := true, apart := false }
def FnExactIsBeforeSaid : Prop := fnExactIsBeforeRow.holds Try.pinned (OpenSpec.ofChange fnExactIsBeforeSpec)

/-- ITS FALSE NEIGHBOUR: 'it returns false'. Refute it at one input. -/
def fnExactIsBeforeWrong : ChangeSpec := { name := "fnExactIsBefore", fn := fun _ => fun
  | [d1, d2, d3] => { results := [.lit (.bool false)], args := [d1, d2, d3] }
  | _ => none }
def FnExactIsBeforeWrongFalsely : Prop := fnExactIsBeforeRow.holds Try.pinned (OpenSpec.ofChange fnExactIsBeforeWrong)

/-- 'laws.FnExactLatestNotes': WHATEVER THE INPUT: true; the input reads as it did. -/
def fnExactLatestNotesSpec : ChangeSpec := { name := "fnExactLatestNotes", fn := fun _ => fun
  | [d1, d2] => { results := [.lit (.bool true)], args := [d1, d2] }
  | _ => none }
def fnExactLatestNotesRow : OpenClaim := { program := "ythgabapegpndnaa", sum := "10b88b882a53c11b8717454f1daee2ff55f87bb5de090ebd0ce4bc6b875eedcc", func := "loop.example/g00917/laws.FnExactLatestNotes", spec := "fnExactLatestNotes", unfollowed := true, recurses := true, apart := false }
def FnExactLatestNotesSaid : Prop := fnExactLatestNotesRow.holds Try.pinned (OpenSpec.ofChange fnExactLatestNotesSpec)

/-- ITS FALSE NEIGHBOUR: 'it returns false'. Refute it at one input. -/
def fnExactLatestNotesWrong : ChangeSpec := { name := "fnExactLatestNotes", fn := fun _ => fun
  | [d1, d2] => { results := [.lit (.bool false)], args := [d1, d2] }
  | _ => none }
def FnExactLatestNotesWrongFalsely : Prop := fnExactLatestNotesRow.holds Try.pinned (OpenSpec.ofChange fnExactLatestNotesWrong)

/-- 'laws.FnExactConcurrentPairs': WHATEVER THE INPUT: true; the input reads as it did. -/
def fnExactConcurrentPairsSpec : ChangeSpec := { name := "fnExactConcurrentPairs", fn := fun _ => fun
  | [d1, d2] => { results := [.lit (.bool true)], args := [d1, d2] }
  | _ => none }
def fnExactConcurrentPairsRow : OpenClaim := { program := "ythgabapegpndnaa", sum := "10b88b882a53c11b8717454f1daee2ff55f87bb5de090ebd0ce4bc6b875eedcc", func := "loop.example/g00917/laws.FnExactConcurrentPairs", spec := "fnExactConcurrentPairs", unfollowed := true, recurses := true, apart := false }
def FnExactConcurrentPairsSaid : Prop := fnExactConcurrentPairsRow.holds Try.pinned (OpenSpec.ofChange fnExactConcurrentPairsSpec)

/-- ITS FALSE NEIGHBOUR: 'it returns false'. Refute it at one input. -/
def fnExactConcurrentPairsWrong : ChangeSpec := { name := "fnExactConcurrentPairs", fn := fun _ => fun
  | [d1, d2] => { results := [.lit (.bool false)], args := [d1, d2] }
  | _ => none }
def FnExactConcurrentPairsWrongFalsely : Prop := fnExactConcurrentPairsRow.holds Try.pinned (OpenSpec.ofChange fnExactConcurrentPairsWrong)

/-- 'laws.FnExactIsCompleteBook': WHATEVER THE INPUT: true; the input reads as it did. -/
def fnExactIsCompleteBookSpec : ChangeSpec := { name := "fnExactIsCompleteBook", fn := fun _ => fun
  | [d1, d2] => { results := [.lit (.bool true)], args := [d1, d2] }
  | _ => none }
def fnExactIsCompleteBookRow : OpenClaim := { program := "ythgabapegpndnaa", sum := "10b88b882a53c11b8717454f1daee2ff55f87bb5de090ebd0ce4bc6b875eedcc", func := "loop.example/g00917/laws.FnExactIsCompleteBook", spec := "fnExactIsCompleteBook", unfollowed := true, recurses := true, apart := false }
def FnExactIsCompleteBookSaid : Prop := fnExactIsCompleteBookRow.holds Try.pinned (OpenSpec.ofChange fnExactIsCompleteBookSpec)

/-- ITS FALSE NEIGHBOUR: 'it returns false'. Refute it at one input. -/
def fnExactIsCompleteBookWrong : ChangeSpec := { name := "fnExactIsCompleteBook", fn := fun _ => fun
  | [d1, d2] => { results := [.lit (.bool false)], args := [d1, d2] }
  | _ => none }
def FnExactIsCompleteBookWrongFalsely : Prop := fnExactIsCompleteBookRow.holds Try.pinned (OpenSpec.ofChange fnExactIsCompleteBookWrong)

/-- 'laws.FnExactMissingNotes': WHATEVER THE INPUT: true; the input reads as it did. -/
def fnExactMissingNotesSpec : ChangeSpec := { name := "fnExactMissingNotes", fn := fun _ => fun
  | [d1, d2] => { results := [.lit (.bool true)], args := [d1, d2] }
  | _ => none }
def fnExactMissingNotesRow : OpenClaim := { program := "ythgabapegpndnaa", sum := "10b88b882a53c11b8717454f1daee2ff55f87bb5de090ebd0ce4bc6b875eedcc", func := "loop.example/g00917/laws.FnExactMissingNotes", spec := "fnExactMissingNotes", unfollowed := true, recurses := true, apart := false }
def FnExactMissingNotesSaid : Prop := fnExactMissingNotesRow.holds Try.pinned (OpenSpec.ofChange fnExactMissingNotesSpec)

/-- ITS FALSE NEIGHBOUR: 'it returns false'. Refute it at one input. -/
def fnExactMissingNotesWrong : ChangeSpec := { name := "fnExactMissingNotes", fn := fun _ => fun
  | [d1, d2] => { results := [.lit (.bool false)], args := [d1, d2] }
  | _ => none }
def FnExactMissingNotesWrongFalsely : Prop := fnExactMissingNotesRow.holds Try.pinned (OpenSpec.ofChange fnExactMissingNotesWrong)

/-- 'laws.FnExactOrderNotes': WHATEVER THE INPUT: true; the input reads as it did. -/
def fnExactOrderNotesSpec : ChangeSpec := { name := "fnExactOrderNotes", fn := fun _ => fun
  | [d1, d2] => { results := [.lit (.bool true)], args := [d1, d2] }
  | _ => none }
def fnExactOrderNotesRow : OpenClaim := { program := "ythgabapegpndnaa", sum := "10b88b882a53c11b8717454f1daee2ff55f87bb5de090ebd0ce4bc6b875eedcc", func := "loop.example/g00917/laws.FnExactOrderNotes", spec := "fnExactOrderNotes", unfollowed := true, recurses := true, apart := false }
def FnExactOrderNotesSaid : Prop := fnExactOrderNotesRow.holds Try.pinned (OpenSpec.ofChange fnExactOrderNotesSpec)

/-- ITS FALSE NEIGHBOUR: 'it returns false'. Refute it at one input. -/
def fnExactOrderNotesWrong : ChangeSpec := { name := "fnExactOrderNotes", fn := fun _ => fun
  | [d1, d2] => { results := [.lit (.bool false)], args := [d1, d2] }
  | _ => none }
def FnExactOrderNotesWrongFalsely : Prop := fnExactOrderNotesRow.holds Try.pinned (OpenSpec.ofChange fnExactOrderNotesWrong)

/- THE SECOND FORM. 'bulk': how many values and letters a reading holds, each counted each time it is reached (what is shared counts as often as it is met; a slice's spare places count too). A statement '..UptoSaid' is the law's where the arguments, and the package variables that the reading takes, are together of bulk at most 1048576: NARROWER than '..Said'. Prove '..Said' where nothing that the law and all that it calls make is longer than what came in: it says more and counts as full. Else prove '..UptoSaid'. A law counts once. -/
mutual
def uptoBulk {H : Type} : DataW H → Nat
  | .lit (.string bytes) => bytes.length + 1
  | .lit _ => 1
  | .nil => 1
  | .ptr d => uptoBulk d + 1
  | .slice elems spare => uptoBulkAll elems + uptoBulkAll spare + 1
  | .agg parts => uptoBulkAll parts + 1
  | .iface _ d => uptoBulk d + 1
  | .map entries => uptoBulkEntries entries + 1
  | .held _ => 1
def uptoBulkAll {H : Type} : List (DataW H) → Nat
  | [] => 0
  | d :: r => uptoBulk d + uptoBulkAll r
def uptoBulkEntries {H : Type} : List (Lit × DataW H) → Nat
  | [] => 0
  | x :: r => uptoBulkEntry x + uptoBulkEntries r
def uptoBulkEntry {H : Type} : Lit × DataW H → Nat
  | (.string bytes, d) => bytes.length + uptoBulk d + 1
  | (_, d) => uptoBulk d + 1
 end
def uptoSmall : (H : Type) → List (DataW H) → Bool := fun _ ds => decide (uptoBulkAll ds ≤ 1048576)
def OpenSpec.upto (s : _root_.Go.ChangeSpec) : _root_.Go.OpenSpec := { _root_.Go.OpenSpec.ofChange s with cond := some uptoSmall }

/-- 'laws.FnExactIsNotebook', WHERE WHAT IT READS IS OF BULK AT MOST 1048576: true; the input reads as it did. -/
def fnExactIsNotebookUptoRow : OpenClaim := { program := "ythgabapegpndnaa", sum := "10b88b882a53c11b8717454f1daee2ff55f87bb5de090ebd0ce4bc6b875eedcc", func := "loop.example/g00917/laws.FnExactIsNotebook", spec := "fnExactIsNotebook", unfollowed := true, recurses := true, apart := false, narrowed := true }
def FnExactIsNotebookUptoSaid : Prop := fnExactIsNotebookUptoRow.holds Try.pinned (OpenSpec.upto fnExactIsNotebookSpec)

/-- 'laws.FnExactIsBefore', WHERE WHAT IT READS IS OF BULK AT MOST 1048576: true; the input reads as it did. -/
def fnExactIsBeforeUptoRow : OpenClaim := { program := "ythgabapegpndnaa", sum := "10b88b882a53c11b8717454f1daee2ff55f87bb5de090ebd0ce4bc6b875eedcc", func := "loop.example/g00917/laws.FnExactIsBefore", spec := "fnExactIsBefore", unfollowed := true, recurses := true, apart := false, narrowed := true }
def FnExactIsBeforeUptoSaid : Prop := fnExactIsBeforeUptoRow.holds Try.pinned (OpenSpec.upto fnExactIsBeforeSpec)

/-- 'laws.FnExactLatestNotes', WHERE WHAT IT READS IS OF BULK AT MOST 1048576: true; the input reads as it did. -/
def fnExactLatestNotesUptoRow : OpenClaim := { program := "ythgabapegpndnaa", sum := "10b88b882a53c11b8717454f1daee2ff55f87bb5de090ebd0ce4bc6b875eedcc", func := "loop.example/g00917/laws.FnExactLatestNotes", spec := "fnExactLatestNotes", unfollowed := true, recurses := true, apart := false, narrowed := true }
def FnExactLatestNotesUptoSaid : Prop := fnExactLatestNotesUptoRow.holds Try.pinned (OpenSpec.upto fnExactLatestNotesSpec)

/-- 'laws.FnExactConcurrentPairs', WHERE WHAT IT READS IS OF BULK AT MOST 1048576: true; the input reads as it did. -/
def fnExactConcurrentPairsUptoRow : OpenClaim := { program := "ythgabapegpndnaa", sum := "10b88b882a53c11b8717454f1daee2ff55f87bb5de090ebd0ce4bc6b875eedcc", func := "loop.example/g00917/laws.FnExactConcurrentPairs", spec := "fnExactConcurrentPairs", unfollowed := true, recurses := true, apart := false, narrowed := true }
def FnExactConcurrentPairsUptoSaid : Prop := fnExactConcurrentPairsUptoRow.holds Try.pinned (OpenSpec.upto fnExactConcurrentPairsSpec)

/-- 'laws.FnExactIsCompleteBook', WHERE WHAT IT READS IS OF BULK AT MOST 1048576: true; the input reads as it did. -/
def fnExactIsCompleteBookUptoRow : OpenClaim := { program := "ythgabapegpndnaa", sum := "10b88b882a53c11b8717454f1daee2ff55f87bb5de090ebd0ce4bc6b875eedcc", func := "loop.example/g00917/laws.FnExactIsCompleteBook", spec := "fnExactIsCompleteBook", unfollowed := true, recurses := true, apart := false, narrowed := true }
def FnExactIsCompleteBookUptoSaid : Prop := fnExactIsCompleteBookUptoRow.holds Try.pinned (OpenSpec.upto fnExactIsCompleteBookSpec)

/-- 'laws.FnExactMissingNotes', WHERE WHAT IT READS IS OF BULK AT MOST 1048576: true; the input reads as it did. -/
def fnExactMissingNotesUptoRow : OpenClaim := { program := "ythgabapegpndnaa", sum := "10b88b882a53c11b8717454f1daee2ff55f87bb5de090ebd0ce4bc6b875eedcc", func := "loop.example/g00917/laws.FnExactMissingNotes", spec := "fnExactMissingNotes", unfollowed := true, recurses := true, apart := false, narrowed := true }
def FnExactMissingNotesUptoSaid : Prop := fnExactMissingNotesUptoRow.holds Try.pinned (OpenSpec.upto fnExactMissingNotesSpec)

/-- 'laws.FnExactOrderNotes', WHERE WHAT IT READS IS OF BULK AT MOST 1048576: true; the input reads as it did. -/
def fnExactOrderNotesUptoRow : OpenClaim := { program := "ythgabapegpndnaa", sum := "10b88b882a53c11b8717454f1daee2ff55f87bb5de090ebd0ce4bc6b875eedcc", func := "loop.example/g00917/laws.FnExactOrderNotes", spec := "fnExactOrderNotes", unfollowed := true, recurses := true, apart := false, narrowed := true }
def FnExactOrderNotesUptoSaid : Prop := fnExactOrderNotesUptoRow.holds Try.pinned (OpenSpec.upto fnExactOrderNotesSpec)

end Rows
end Go.Proofs.Ythgabapegpndnaa
