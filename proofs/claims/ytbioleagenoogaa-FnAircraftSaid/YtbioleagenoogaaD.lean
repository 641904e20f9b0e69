/-
  FnExactLitersIn, walked. Conditions: none.
-/
import Derived.Test.YtbioleagenoogaaC
namespace Go.Proofs.Ytbioleagenoogaa
open Go.RowKit
set_option maxRecDepth 100000
set_option maxHeartbeats 1000000

theorem MD_if (i l s f fi wa le ba : Int) : ∃ N, acB i l s f fi = true → tgB wa le ba = true → MD s f fi wa le ba N := by
  by_cases h : acB i l s f fi = true ∧ tgB wa le ba = true
  · obtain ⟨g1, g2, g3, g4, g5⟩ := acB_bd h.1
    obtain ⟨g6, g7, g8⟩ := tgB_bd h.2
    obtain ⟨N, hN⟩ := MD_ex g3 g4 g5 g6 g7 g8
    exact ⟨N, fun _ _ => hN⟩
  · exact ⟨0, fun h1 h2 => absurd ⟨h1, h2⟩ h⟩
end Go.Proofs.Ytbioleagenoogaa
