/-
  DERIVED. GIVEN WITH THE SEED: THE CARDS: each row of YthblodglmmaocaaDoorRows.lean that lists a variable, with what it lists TIED to the program's text (the seventh form; the later family's looks); each row that meets fmt, with fmt's text TOLD by the authors' own Lean function (tested against real Go, not proved from fmt's source: count such statements apart). THE CARD IS WHAT COUNTS. Prove the row's statement (the work); the ties are given (YthblodglmmaocaaDoorTie.lean); close each card by the builder's one call (the guide's Derived/Test/ToyasCard.lean, 'card_holds'). Laid BY PROGRAM, IN A SANDBOX (cutbox-door.mjs). By AI agents, Wed Nov 11 2026. No macro, syntax, notation, axiom, sorry.
-/
import Derived.Test.YthblodglmmaocaaDoorRows
import GoSem.ClaimSeven
namespace Go.Proofs.YthblodglmmaocaaDoor
namespace Rows

/-- THE TIED CARD OF 'laws.FnExactParseOrder'. -/
def fnExactParseOrderCard : Claim7 := { stood := { row := fnExactParseOrderRow, standIns := [], harness := (true, "08fc20bf7e1567e896356c25003c7ad04b8d10b26a010e1b70f1693c7130c921"), looks := true }, kinds := [], alts := [], laidByText := true, laidKinds := [.data, .data, .data, .data, .sentinel, .sentinel, .pinned], laidTests := true, laidLooks := .later }
def FnExactParseOrderCardSaid : Prop := Claim7.holds Tryd.pinned (.plain (OpenSpec.ofChange fnExactParseOrderSpec)) fnExactParseOrderCard

/-- THE SECOND FORM's CARD OF 'laws.FnExactParseOrder'. -/
def fnExactParseOrderUptoCard : Claim7 := { stood := { row := fnExactParseOrderUptoRow, standIns := [], harness := (true, "08fc20bf7e1567e896356c25003c7ad04b8d10b26a010e1b70f1693c7130c921"), looks := true }, kinds := [], alts := [], laidByText := true, laidKinds := [.data, .data, .data, .data, .sentinel, .sentinel, .pinned], laidTests := true, laidLooks := .later }
def FnExactParseOrderUptoCardSaid : Prop := Claim7.holds Tryd.pinned (.plain (OpenSpec.upto fnExactParseOrderSpec)) fnExactParseOrderUptoCard
end Rows
end Go.Proofs.YthblodglmmaocaaDoor
