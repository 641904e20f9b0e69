/-
  The law FnExactIsSeries walked over the contracts. Conditions: the bounds that a slice of the given length has.
-/
import Derived.Test.YtjffhacoijmgiaaW
namespace Go.Proofs.Ytjffhacoijmgiaa
open Go.RowKit
set_option maxHeartbeats 2000000

theorem sit_rd {w : World} {g n : Nat} {t : TypeId} {zs : List SituationT} (h : Bk w g t (sitF zs)) (hl : zs.length = n) : Rd w 6 (some ⟨g, 0, none⟩) n (sitF zs) := h.rd (by rw [sitF_len, hl])

end Go.Proofs.Ytjffhacoijmgiaa
