/-
  No cell of these rows narrows 'for every input' (looked for: loops, veiled, ifaces, maps, wideKeys, modest, calm, conditions, laid).
  DERIVED. THE GIVEN ROWS OF THIS SEAT. 11 by the template 'for every input the law returns true; each argument reads behind the call as it read before'; 0 by the template 'total and deterministic' (their statements: YtkbhpfgbodellaaTotals.lean).
  GIVEN WITH THE SEED: the statements are not yours to turn. If you find one false, say at which input.
  Laid BY PROGRAM, IN A SANDBOX (cutbox-rows.mjs): the forced cells as the released guide's own fill.sh prints them over the translation 30c338b22975799c… (all of the seat's roots in one cut). By AI agents, Wed Nov 11 2026. No macro, syntax, notation, axiom, sorry.
-/
import Derived.Test.YtkbhpfgbodellaaChecked
import GoSem.Claim
import GoSem.ClaimJoined
import GoSem.ClaimMapViews
import Derived.JoinedTies
import Derived.KernelRfl
namespace Go.Proofs.Ytkbhpfgbodellaa
/- THE CELL 'sum', in the pinned program and in every row, IS THE sha256 OF THE DUMP (.gsa) THAT YtkbhpfgbodellaaProg.lean LOADS. Nothing in Lean hashes anything: it is a label: what it is worth is what the hold of that sum in a sandbox is worth. -/
noncomputable def Try.pinned : Pinned := { name := "ytkbhpfgbodellaa", sum := "30c338b22975799c79cfb4dc320917ae02bf5c43592db05b47b7a34a6f06687f", checked := Try.checked }
namespace Rows
def none {H : Type} : Left H := { results := [], args := [] }

/-- 'laws.FnExactIsFuelbed': WHATEVER THE INPUT: true; the input reads as it did. -/
def fnExactIsFuelbedSpec : ChangeSpec := { name := "fnExactIsFuelbed", fn := fun _ => fun
  | [d] => { results := [.lit (.bool true)], args := [d] }
  | _ => none }
def fnExactIsFuelbedRow : OpenClaim := { program := "ytkbhpfgbodellaa", sum := "30c338b22975799c79cfb4dc320917ae02bf5c43592db05b47b7a34a6f06687f", func := "loop.example/g00917/laws.FnExactIsFuelbed", spec := "fnExactIsFuelbed", apart := false }
def FnExactIsFuelbedSaid : Prop := fnExactIsFuelbedRow.holds Try.pinned (OpenSpec.ofChange fnExactIsFuelbedSpec)

/-- ITS FALSE NEIGHBOUR: 'it returns false'. Refute it at one input. -/
def fnExactIsFuelbedWrong : ChangeSpec := { name := "fnExactIsFuelbed", fn := fun _ => fun
  | [d] => { results := [.lit (.bool false)], args := [d] }
  | _ => none }
def FnExactIsFuelbedWrongFalsely : Prop := fnExactIsFuelbedRow.holds Try.pinned (OpenSpec.ofChange fnExactIsFuelbedWrong)

/-- 'laws.FnExactClassOf': WHATEVER THE INPUT: true; the input reads as it did. -/
def fnExactClassOfSpec : ChangeSpec := { name := "fnExactClassOf", fn := fun _ => fun
  | [d] => { results := [.lit (.bool true)], args := [d] }
  | _ => none }
def fnExactClassOfRow : OpenClaim := { program := "ytkbhpfgbodellaa", sum := "30c338b22975799c79cfb4dc320917ae02bf5c43592db05b47b7a34a6f06687f", func := "loop.example/g00917/laws.FnExactClassOf", spec := "fnExactClassOf", apart := false }
def FnExactClassOfSaid : Prop := fnExactClassOfRow.holds Try.pinned (OpenSpec.ofChange fnExactClassOfSpec)

/-- ITS FALSE NEIGHBOUR: 'it returns false'. Refute it at one input. -/
def fnExactClassOfWrong : ChangeSpec := { name := "fnExactClassOf", fn := fun _ => fun
  | [d] => { results := [.lit (.bool false)], args := [d] }
  | _ => none }
def FnExactClassOfWrongFalsely : Prop := fnExactClassOfRow.holds Try.pinned (OpenSpec.ofChange fnExactClassOfWrong)

/-- 'laws.FnExactBalanceOf': WHATEVER THE INPUT: true; the input reads as it did. -/
def fnExactBalanceOfSpec : ChangeSpec := { name := "fnExactBalanceOf", fn := fun _ => fun
  | [d] => { results := [.lit (.bool true)], args := [d] }
  | _ => none }
def fnExactBalanceOfRow : OpenClaim := { program := "ytkbhpfgbodellaa", sum := "30c338b22975799c79cfb4dc320917ae02bf5c43592db05b47b7a34a6f06687f", func := "loop.example/g00917/laws.FnExactBalanceOf", spec := "fnExactBalanceOf", apart := false }
def FnExactBalanceOfSaid : Prop := fnExactBalanceOfRow.holds Try.pinned (OpenSpec.ofChange fnExactBalanceOfSpec)

/-- ITS FALSE NEIGHBOUR: 'it returns false'. Refute it at one input. -/
def fnExactBalanceOfWrong : ChangeSpec := { name := "fnExactBalanceOf", fn := fun _ => fun
  | [d] => { results := [.lit (.bool false)], args := [d] }
  | _ => none }
def FnExactBalanceOfWrongFalsely : Prop := fnExactBalanceOfRow.holds Try.pinned (OpenSpec.ofChange fnExactBalanceOfWrong)

/-- 'laws.FnExactAfterHour': WHATEVER THE INPUT: true; the input reads as it did. -/
def fnExactAfterHourSpec : ChangeSpec := { name := "fnExactAfterHour", fn := fun _ => fun
  | [d1, d2] => { results := [.lit (.bool true)], args := [d1, d2] }
  | _ => none }
def fnExactAfterHourRow : OpenClaim := { program := "ytkbhpfgbodellaa", sum := "30c338b22975799c79cfb4dc320917ae02bf5c43592db05b47b7a34a6f06687f", func := "loop.example/g00917/laws.FnExactAfterHour", spec := "fnExactAfterHour", apart := false }
def FnExactAfterHourSaid : Prop := fnExactAfterHourRow.holds Try.pinned (OpenSpec.ofChange fnExactAfterHourSpec)

/-- ITS FALSE NEIGHBOUR: 'it returns false'. Refute it at one input. -/
def fnExactAfterHourWrong : ChangeSpec := { name := "fnExactAfterHour", fn := fun _ => fun
  | [d1, d2] => { results := [.lit (.bool false)], args := [d1, d2] }
  | _ => none }
def FnExactAfterHourWrongFalsely : Prop := fnExactAfterHourRow.holds Try.pinned (OpenSpec.ofChange fnExactAfterHourWrong)

/-- 'laws.FnExactHoursUntil': WHATEVER THE INPUT: true; the input reads as it did. -/
def fnExactHoursUntilSpec : ChangeSpec := { name := "fnExactHoursUntil", fn := fun _ => fun
  | [d1, d2, d3] => { results := [.lit (.bool true)], args := [d1, d2, d3] }
  | _ => none }
def fnExactHoursUntilRow : OpenClaim := { program := "ytkbhpfgbodellaa", sum := "30c338b22975799c79cfb4dc320917ae02bf5c43592db05b47b7a34a6f06687f", func := "loop.example/g00917/laws.FnExactHoursUntil", spec := "fnExactHoursUntil", apart := false }
def FnExactHoursUntilSaid : Prop := fnExactHoursUntilRow.holds Try.pinned (OpenSpec.ofChange fnExactHoursUntilSpec)

/-- ITS FALSE NEIGHBOUR: 'it returns false'. Refute it at one input. -/
def fnExactHoursUntilWrong : ChangeSpec := { name := "fnExactHoursUntil", fn := fun _ => fun
  | [d1, d2, d3] => { results := [.lit (.bool false)], args := [d1, d2, d3] }
  | _ => none }
def FnExactHoursUntilWrongFalsely : Prop := fnExactHoursUntilRow.holds Try.pinned (OpenSpec.ofChange fnExactHoursUntilWrong)

/-- 'laws.FnExactMixMoisture': WHATEVER THE INPUT: true; the input reads as it did. -/
def fnExactMixMoistureSpec : ChangeSpec := { name := "fnExactMixMoisture", fn := fun _ => fun
  | [d1, d2] => { results := [.lit (.bool true)], args := [d1, d2] }
  | _ => none }
def fnExactMixMoistureRow : OpenClaim := { program := "ytkbhpfgbodellaa", sum := "30c338b22975799c79cfb4dc320917ae02bf5c43592db05b47b7a34a6f06687f", func := "loop.example/g00917/laws.FnExactMixMoisture", spec := "fnExactMixMoisture", unfollowed := true, recurses := true, apart := false }
def FnExactMixMoistureSaid : Prop := fnExactMixMoistureRow.holds Try.pinned (OpenSpec.ofChange fnExactMixMoistureSpec)

/-- ITS FALSE NEIGHBOUR: 'it returns false'. Refute it at one input. -/
def fnExactMixMoistureWrong : ChangeSpec := { name := "fnExactMixMoisture", fn := fun _ => fun
  | [d1, d2] => { results := [.lit (.bool false)], args := [d1, d2] }
  | _ => none }
def FnExactMixMoistureWrongFalsely : Prop := fnExactMixMoistureRow.holds Try.pinned (OpenSpec.ofChange fnExactMixMoistureWrong)

/-- 'laws.FnExactDriestHour': WHATEVER THE INPUT: true; the input reads as it did. -/
def fnExactDriestHourSpec : ChangeSpec := { name := "fnExactDriestHour", fn := fun _ => fun
  | [d1, d2] => { results := [.lit (.bool true)], args := [d1, d2] }
  | _ => none }
def fnExactDriestHourRow : OpenClaim := { program := "ytkbhpfgbodellaa", sum := "30c338b22975799c79cfb4dc320917ae02bf5c43592db05b47b7a34a6f06687f", func := "loop.example/g00917/laws.FnExactDriestHour", spec := "fnExactDriestHour", unfollowed := true, recurses := true, apart := false }
def FnExactDriestHourSaid : Prop := fnExactDriestHourRow.holds Try.pinned (OpenSpec.ofChange fnExactDriestHourSpec)

/-- ITS FALSE NEIGHBOUR: 'it returns false'. Refute it at one input. -/
def fnExactDriestHourWrong : ChangeSpec := { name := "fnExactDriestHour", fn := fun _ => fun
  | [d1, d2] => { results := [.lit (.bool false)], args := [d1, d2] }
  | _ => none }
def FnExactDriestHourWrongFalsely : Prop := fnExactDriestHourRow.holds Try.pinned (OpenSpec.ofChange fnExactDriestHourWrong)

/-- 'laws.FnExactMoistureRun': WHATEVER THE INPUT: true; the input reads as it did. -/
def fnExactMoistureRunSpec : ChangeSpec := { name := "fnExactMoistureRun", fn := fun _ => fun
  | [d1, d2] => { results := [.lit (.bool true)], args := [d1, d2] }
  | _ => none }
def fnExactMoistureRunRow : OpenClaim := { program := "ytkbhpfgbodellaa", sum := "30c338b22975799c79cfb4dc320917ae02bf5c43592db05b47b7a34a6f06687f", func := "loop.example/g00917/laws.FnExactMoistureRun", spec := "fnExactMoistureRun", unfollowed := true, recurses := true, apart := false }
def FnExactMoistureRunSaid : Prop := fnExactMoistureRunRow.holds Try.pinned (OpenSpec.ofChange fnExactMoistureRunSpec)

/-- ITS FALSE NEIGHBOUR: 'it returns false'. Refute it at one input. -/
def fnExactMoistureRunWrong : ChangeSpec := { name := "fnExactMoistureRun", fn := fun _ => fun
  | [d1, d2] => { results := [.lit (.bool false)], args := [d1, d2] }
  | _ => none }
def FnExactMoistureRunWrongFalsely : Prop := fnExactMoistureRunRow.holds Try.pinned (OpenSpec.ofChange fnExactMoistureRunWrong)

/-- 'laws.FnExactHoursInClass': WHATEVER THE INPUT: true; the input reads as it did. -/
def fnExactHoursInClassSpec : ChangeSpec := { name := "fnExactHoursInClass", fn := fun _ => fun
  | [d1, d2] => { results := [.lit (.bool true)], args := [d1, d2] }
  | _ => none }
def fnExactHoursInClassRow : OpenClaim := { program := "ytkbhpfgbodellaa", sum := "30c338b22975799c79cfb4dc320917ae02bf5c43592db05b47b7a34a6f06687f", func := "loop.example/g00917/laws.FnExactHoursInClass", spec := "fnExactHoursInClass", unfollowed := true, recurses := true, apart := false }
def FnExactHoursInClassSaid : Prop := fnExactHoursInClassRow.holds Try.pinned (OpenSpec.ofChange fnExactHoursInClassSpec)

/-- ITS FALSE NEIGHBOUR: 'it returns false'. Refute it at one input. -/
def fnExactHoursInClassWrong : ChangeSpec := { name := "fnExactHoursInClass", fn := fun _ => fun
  | [d1, d2] => { results := [.lit (.bool false)], args := [d1, d2] }
  | _ => none }
def FnExactHoursInClassWrongFalsely : Prop := fnExactHoursInClassRow.holds Try.pinned (OpenSpec.ofChange fnExactHoursInClassWrong)

/-- 'laws.FnMoisture': WHATEVER THE INPUT: true; the input reads as it did. -/
def fnMoistureSpec : ChangeSpec := { name := "fnMoisture", fn := fun _ => fun
  | [d] => { results := [.lit (.bool true)], args := [d] }
  | _ => none }
def fnMoistureRow : OpenClaim := { program := "ytkbhpfgbodellaa", sum := "30c338b22975799c79cfb4dc320917ae02bf5c43592db05b47b7a34a6f06687f", func := "loop.example/g00917/laws.FnMoisture", spec := "fnMoisture", unfollowed := true, recurses := true, apart := false }
def FnMoistureSaid : Prop := fnMoistureRow.holds Try.pinned (OpenSpec.ofChange fnMoistureSpec)

/-- ITS FALSE NEIGHBOUR: 'it returns false'. Refute it at one input. -/
def fnMoistureWrong : ChangeSpec := { name := "fnMoisture", fn := fun _ => fun
  | [d] => { results := [.lit (.bool false)], args := [d] }
  | _ => none }
def FnMoistureWrongFalsely : Prop := fnMoistureRow.holds Try.pinned (OpenSpec.ofChange fnMoistureWrong)

/-- 'laws.FnMoistClasses': WHATEVER THE INPUT: true; the input reads as it did. -/
def fnMoistClassesSpec : ChangeSpec := { name := "fnMoistClasses", fn := fun _ => fun
  | [d] => { results := [.lit (.bool true)], args := [d] }
  | _ => none }
def fnMoistClassesRow : OpenClaim := { program := "ytkbhpfgbodellaa", sum := "30c338b22975799c79cfb4dc320917ae02bf5c43592db05b47b7a34a6f06687f", func := "loop.example/g00917/laws.FnMoistClasses", spec := "fnMoistClasses", unfollowed := true, recurses := true, apart := false }
def FnMoistClassesSaid : Prop := fnMoistClassesRow.holds Try.pinned (OpenSpec.ofChange fnMoistClassesSpec)

/-- ITS FALSE NEIGHBOUR: 'it returns false'. Refute it at one input. -/
def fnMoistClassesWrong : ChangeSpec := { name := "fnMoistClasses", fn := fun _ => fun
  | [d] => { results := [.lit (.bool false)], args := [d] }
  | _ => none }
def FnMoistClassesWrongFalsely : Prop := fnMoistClassesRow.holds Try.pinned (OpenSpec.ofChange fnMoistClassesWrong)

/- THE SECOND FORM. 'bulk': how many values and letters a reading holds, each counted each time it is reached (what is shared counts as often as it is met; a slice's spare places count too). A statement '..UptoSaid' is the law's where the arguments, and the package variables that the reading takes, are together of bulk at most 1048576: NARROWER than '..Said'. Prove '..Said' where nothing that the law and all that it calls make is longer than what came in: it says more and counts as full. Else prove '..UptoSaid'. A law counts once. -/
mutual
def uptoBulk {H : Type} : DataW H → Nat
  | .lit (.string bytes) => bytes.length + 1
  | .lit _ => 1
  | .nil => 1
  | .ptr d => uptoBulk d + 1
  | .slice elems spare => uptoBulkAll elems + uptoBulkAll spare + 1
  | .agg parts => uptoBulkAll parts + 1
  | .iface _ d => uptoBulk d + 1
  | .map entries => uptoBulkEntries entries + 1
  | .held _ => 1
def uptoBulkAll {H : Type} : List (DataW H) → Nat
  | [] => 0
  | d :: r => uptoBulk d + uptoBulkAll r
def uptoBulkEntries {H : Type} : List (Lit × DataW H) → Nat
  | [] => 0
  | x :: r => uptoBulkEntry x + uptoBulkEntries r
def uptoBulkEntry {H : Type} : Lit × DataW H → Nat
  | (.string bytes, d) => bytes.length + uptoBulk d + 1
  | (_, d) => uptoBulk d + 1
 end
def uptoSmall : (H : Type) → List (DataW H) → Bool := fun _ ds => decide (uptoBulkAll ds ≤ 1048576)
def OpenSpec.upto (s : _root_.Go.ChangeSpec) : _root_.Go.OpenSpec := { _root_.Go.OpenSpec.ofChange s with cond := some uptoSmall }

/-- 'laws.FnExactIsFuelbed', WHERE WHAT IT READS IS OF BULK AT MOST 1048576: true; the input reads as it did. -/
def fnExactIsFuelbedUptoRow : OpenClaim := { program := "ytkbhpfgbodellaa", sum := "30c338b22975799c79cfb4dc320917ae02bf5c43592db05b47b7a34a6f06687f", func := "loop.example/g00917/laws.FnExactIsFuelbed", spec := "fnExactIsFuelbed", apart := false, narrowed := true }
def FnExactIsFuelbedUptoSaid : Prop := fnExactIsFuelbedUptoRow.holds Try.pinned (OpenSpec.upto fnExactIsFuelbedSpec)

/-- 'laws.FnExactClassOf', WHERE WHAT IT READS IS OF BULK AT MOST 1048576: true; the input reads as it did. -/
def fnExactClassOfUptoRow : OpenClaim := { program := "ytkbhpfgbodellaa", sum := "30c338b22975799c79cfb4dc320917ae02bf5c43592db05b47b7a34a6f06687f", func := "loop.example/g00917/laws.FnExactClassOf", spec := "fnExactClassOf", apart := false, narrowed := true }
def FnExactClassOfUptoSaid : Prop := fnExactClassOfUptoRow.holds Try.pinned (OpenSpec.upto fnExactClassOfSpec)

/-- 'laws.FnExactBalanceOf', WHERE WHAT IT READS IS OF BULK AT MOST 1048576: true; the input reads as it did. -/
def fnExactBalanceOfUptoRow : OpenClaim := { program := "ytkbhpfgbodellaa", sum := "30c338b22975799c79cfb4dc320917ae02bf5c43592db05b47b7a34a6f06687f", func := "loop.example/g00917/laws.FnExactBalanceOf", spec := "fnExactBalanceOf", apart := false, narrowed := true }
def FnExactBalanceOfUptoSaid : Prop := fnExactBalanceOfUptoRow.holds Try.pinned (OpenSpec.upto fnExactBalanceOfSpec)

/-- 'laws.FnExactAfterHour', WHERE WHAT IT READS IS OF BULK AT MOST 1048576: true; the input reads as it did. -/
def fnExactAfterHourUptoRow : OpenClaim := { program := "ytkbhpfgbodellaa", sum := "30c338b22975799c79cfb4dc320917ae02bf5c43592db05b47b7a34a6f06687f", func := "loop.example/g00917/laws.FnExactAfterHour", spec := "fnExactAfterHour", apart := false, narrowed := true }
def FnExactAfterHourUptoSaid : Prop := fnExactAfterHourUptoRow.holds Try.pinned (OpenSpec.upto fnExactAfterHourSpec)

/-- 'laws.FnExactHoursUntil', WHERE WHAT IT READS IS OF BULK AT MOST 1048576: true; the input reads as it did. -/
def fnExactHoursUntilUptoRow : OpenClaim := { program := "ytkbhpfgbodellaa", sum := "30c338b22975799c79cfb4dc320917ae02bf5c43592db05b47b7a34a6f06687f", func := "loop.example/g00917/laws.FnExactHoursUntil", spec := "fnExactHoursUntil", apart := false, narrowed := true }
def FnExactHoursUntilUptoSaid : Prop := fnExactHoursUntilUptoRow.holds Try.pinned (OpenSpec.upto fnExactHoursUntilSpec)

/-- 'laws.FnExactMixMoisture', WHERE WHAT IT READS IS OF BULK AT MOST 1048576: true; the input reads as it did. -/
def fnExactMixMoistureUptoRow : OpenClaim := { program := "ytkbhpfgbodellaa", sum := "30c338b22975799c79cfb4dc320917ae02bf5c43592db05b47b7a34a6f06687f", func := "loop.example/g00917/laws.FnExactMixMoisture", spec := "fnExactMixMoisture", unfollowed := true, recurses := true, apart := false, narrowed := true }
def FnExactMixMoistureUptoSaid : Prop := fnExactMixMoistureUptoRow.holds Try.pinned (OpenSpec.upto fnExactMixMoistureSpec)

/-- 'laws.FnExactDriestHour', WHERE WHAT IT READS IS OF BULK AT MOST 1048576: true; the input reads as it did. -/
def fnExactDriestHourUptoRow : OpenClaim := { program := "ytkbhpfgbodellaa", sum := "30c338b22975799c79cfb4dc320917ae02bf5c43592db05b47b7a34a6f06687f", func := "loop.example/g00917/laws.FnExactDriestHour", spec := "fnExactDriestHour", unfollowed := true, recurses := true, apart := false, narrowed := true }
def FnExactDriestHourUptoSaid : Prop := fnExactDriestHourUptoRow.holds Try.pinned (OpenSpec.upto fnExactDriestHourSpec)

/-- 'laws.FnExactMoistureRun', WHERE WHAT IT READS IS OF BULK AT MOST 1048576: true; the input reads as it did. -/
def fnExactMoistureRunUptoRow : OpenClaim := { program := "ytkbhpfgbodellaa", sum := "30c338b22975799c79cfb4dc320917ae02bf5c43592db05b47b7a34a6f06687f", func := "loop.example/g00917/laws.FnExactMoistureRun", spec := "fnExactMoistureRun", unfollowed := true, recurses := true, apart := false, narrowed := true }
def FnExactMoistureRunUptoSaid : Prop := fnExactMoistureRunUptoRow.holds Try.pinned (OpenSpec.upto fnExactMoistureRunSpec)

/-- 'laws.FnExactHoursInClass', WHERE WHAT IT READS IS OF BULK AT MOST 1048576: true; the input reads as it did. -/
def fnExactHoursInClassUptoRow : OpenClaim := { program := "ytkbhpfgbodellaa", sum := "30c338b22975799c79cfb4dc320917ae02bf5c43592db05b47b7a34a6f06687f", func := "loop.example/g00917/laws.FnExactHoursInClass", spec := "fnExactHoursInClass", unfollowed := true, recurses := true, apart := false, narrowed := true }
def FnExactHoursInClassUptoSaid : Prop := fnExactHoursInClassUptoRow.holds Try.pinned (OpenSpec.upto fnExactHoursInClassSpec)

/-- 'laws.FnMoisture', WHERE WHAT IT READS IS OF BULK AT MOST 1048576: true; the input reads as it did. -/
def fnMoistureUptoRow : OpenClaim := { program := "ytkbhpfgbodellaa", sum := "30c338b22975799c79cfb4dc320917ae02bf5c43592db05b47b7a34a6f06687f", func := "loop.example/g00917/laws.FnMoisture", spec := "fnMoisture", unfollowed := true, recurses := true, apart := false, narrowed := true }
def FnMoistureUptoSaid : Prop := fnMoistureUptoRow.holds Try.pinned (OpenSpec.upto fnMoistureSpec)

/-- 'laws.FnMoistClasses', WHERE WHAT IT READS IS OF BULK AT MOST 1048576: true; the input reads as it did. -/
def fnMoistClassesUptoRow : OpenClaim := { program := "ytkbhpfgbodellaa", sum := "30c338b22975799c79cfb4dc320917ae02bf5c43592db05b47b7a34a6f06687f", func := "loop.example/g00917/laws.FnMoistClasses", spec := "fnMoistClasses", unfollowed := true, recurses := true, apart := false, narrowed := true }
def FnMoistClassesUptoSaid : Prop := fnMoistClassesUptoRow.holds Try.pinned (OpenSpec.upto fnMoistClassesSpec)

end Rows
end Go.Proofs.Ytkbhpfgbodellaa
