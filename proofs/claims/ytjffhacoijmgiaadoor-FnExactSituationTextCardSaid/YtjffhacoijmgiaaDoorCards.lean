/-
  DERIVED. GIVEN WITH THE SEED: THE CARDS: each row of YtjffhacoijmgiaaDoorRows.lean that lists a variable, with what it lists TIED to the program's text (the seventh form; the later family's looks); each row that meets fmt, with fmt's text TOLD by the authors' own Lean function (tested against real Go, not proved from fmt's source: count such statements apart). THE CARD IS WHAT COUNTS. Prove the row's statement (the work); the ties are given (YtjffhacoijmgiaaDoorTie.lean); close each card by the builder's one call (the guide's Derived/Test/ToyasCard.lean, 'card_holds'). Laid BY PROGRAM, IN A SANDBOX (cutbox-door.mjs). By AI agents, Wed Nov 11 2026. No macro, syntax, notation, axiom, sorry.
-/
import Derived.Test.YtjffhacoijmgiaaDoorRows
import GoSem.ClaimSeven
namespace Go.Proofs.YtjffhacoijmgiaaDoor
namespace Rows

/-- THE TIED CARD OF 'laws.FnExactSituationText'. -/
def fnExactSituationTextCard : Claim7 := { stood := { row := fnExactSituationTextRow, standIns := [], harness := (true, "42e74d7001f33dd3df494c726f0b675fb846f2c07f3b6a6387c2e27d6331550e"), looks := false }, kinds := [], alts := [], laidByText := true, laidKinds := [.data, .data, .data], laidTests := true, laidLooks := .later }
def FnExactSituationTextCardSaid : Prop := Claim7.holds Tryd.pinned (.plain (OpenSpec.ofChange fnExactSituationTextSpec)) fnExactSituationTextCard

/-- THE SECOND FORM's CARD OF 'laws.FnExactSituationText'. -/
def fnExactSituationTextUptoCard : Claim7 := { stood := { row := fnExactSituationTextUptoRow, standIns := [], harness := (true, "42e74d7001f33dd3df494c726f0b675fb846f2c07f3b6a6387c2e27d6331550e"), looks := false }, kinds := [], alts := [], laidByText := true, laidKinds := [.data, .data, .data], laidTests := true, laidLooks := .later }
def FnExactSituationTextUptoCardSaid : Prop := Claim7.holds Tryd.pinned (.plain (OpenSpec.upto fnExactSituationTextSpec)) fnExactSituationTextUptoCard
end Rows
end Go.Proofs.YtjffhacoijmgiaaDoor
