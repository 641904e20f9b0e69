/-
  DERIVED. GIVEN WITH THE SEED: THE CARDS: each row of YtcebbmikgpipeaaGreatDoorRows.lean that lists a variable, with what it lists TIED to the program's text (the seventh form; the later family's looks); each row that meets fmt, with fmt's text TOLD by the authors' own Lean function (tested against real Go, not proved from fmt's source: count such statements apart). THE CARD IS WHAT COUNTS. Prove the row's statement (the work); the ties are given (YtcebbmikgpipeaaGreatDoorTie.lean); close each card by the builder's one call (the guide's Derived/Test/ToyasCard.lean, 'card_holds'). Laid BY PROGRAM, IN A SANDBOX (cutbox-door.mjs). By AI agents, Wed Nov 11 2026. No macro, syntax, notation, axiom, sorry.
-/
import Derived.Test.YtcebbmikgpipeaaGreatDoorRows
import GoSem.ClaimSeven
namespace Go.Proofs.YtcebbmikgpipeaaGreatDoor
namespace Rows

/-- THE TIED CARD OF 'laws.FnExactParseSituation'. -/
def fnExactParseSituationCard : Claim7 := { stood := { row := fnExactParseSituationRow, standIns := [], harness := (true, "2d0bb7469f8b0f0e19a0442c40c9bfac90e9ecac4fef03ae495c33c4c8b89a28"), looks := true }, kinds := [], alts := [], laidByText := true, laidKinds := [.data, .data, .data, .data, .sentinel, .sentinel, .pinned], laidTests := true, laidLooks := .later }
def FnExactParseSituationCardSaid : Prop := Claim7.holds Tryz.pinned (.plain (OpenSpec.ofChange fnExactParseSituationSpec)) fnExactParseSituationCard

/-- THE TIED CARD OF 'laws.FnSituations'. -/
def fnSituationsCard : Claim7 := { stood := { row := fnSituationsRow, standIns := [], harness := (true, "2d0bb7469f8b0f0e19a0442c40c9bfac90e9ecac4fef03ae495c33c4c8b89a28"), looks := true }, kinds := [], alts := [], laidByText := true, laidKinds := [.data, .data, .data, .data, .sentinel, .sentinel, .pinned], laidTests := true, laidLooks := .later }
def FnSituationsCardSaid : Prop := Claim7.holds Tryz.pinned (.plain (OpenSpec.ofChange fnSituationsSpec)) fnSituationsCard

/-- THE SECOND FORM's CARD OF 'laws.FnExactParseSituation'. -/
def fnExactParseSituationUptoCard : Claim7 := { stood := { row := fnExactParseSituationUptoRow, standIns := [], harness := (true, "2d0bb7469f8b0f0e19a0442c40c9bfac90e9ecac4fef03ae495c33c4c8b89a28"), looks := true }, kinds := [], alts := [], laidByText := true, laidKinds := [.data, .data, .data, .data, .sentinel, .sentinel, .pinned], laidTests := true, laidLooks := .later }
def FnExactParseSituationUptoCardSaid : Prop := Claim7.holds Tryz.pinned (.plain (OpenSpec.upto fnExactParseSituationSpec)) fnExactParseSituationUptoCard

/-- THE SECOND FORM's CARD OF 'laws.FnSituations'. -/
def fnSituationsUptoCard : Claim7 := { stood := { row := fnSituationsUptoRow, standIns := [], harness := (true, "2d0bb7469f8b0f0e19a0442c40c9bfac90e9ecac4fef03ae495c33c4c8b89a28"), looks := true }, kinds := [], alts := [], laidByText := true, laidKinds := [.data, .data, .data, .data, .sentinel, .sentinel, .pinned], laidTests := true, laidLooks := .later }
def FnSituationsUptoCardSaid : Prop := Claim7.holds Tryz.pinned (.plain (OpenSpec.upto fnSituationsSpec)) fnSituationsUptoCard
end Rows
end Go.Proofs.YtcebbmikgpipeaaGreatDoor
