/-
  FnExactAddReport, walked. Conditions: none beyond the layout of its arguments.
-/
import Derived.Test.YtjffhacoijmgiaaZC
import Derived.Lib.Hide
namespace Go.Proofs.Ytjffhacoijmgiaa
open Go.RowKit
set_option maxRecDepth 100000
set_option maxHeartbeats 1000000

theorem addL_len (zs : List SituationT) (a : SituationT) : (addL zs a).length ≤ zs.length + 1 := by
  unfold addL
  split <;> simp
end Go.Proofs.Ytjffhacoijmgiaa
