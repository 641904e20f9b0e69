/-
  FnExactMoistureRun, walked. Conditions: none beyond the layout of its arguments.
-/
import Derived.Test.YtlnfccncbfpoiaaU
import Derived.Deep.RegionWith
namespace Go.Proofs.Ytlnfccncbfpoiaa
open Go.RowKit
set_option maxRecDepth 100000
set_option maxHeartbeats 1000000

theorem two_cells {w : World} {g : Nat} {t : TypeId} {a b : Value} (h : Bk w g t [a, b]) : w.cell? ⟨g, 0, none⟩ = some a ∧ w.cell? ⟨g, 1, none⟩ = some b := ⟨h.cell 0, h.cell 1⟩
theorem mrL_len (l m : Int) (zs : List AirT) : (mrL l m zs).length ≤ zs.length := by
  unfold mrL
  split
  · rw [runA_len]; exact Nat.le_refl _
  · exact Nat.zero_le _
theorem air_rd {w : World} {g n : Nat} {t : TypeId} {zs : List AirT} (h : Bk w g t (airF zs)) (hl : zs.length = n) : Rd w 3 (some ⟨g, 0, none⟩) n (airF zs) := h.rd (by rw [airF_len, hl])
end Go.Proofs.Ytlnfccncbfpoiaa
