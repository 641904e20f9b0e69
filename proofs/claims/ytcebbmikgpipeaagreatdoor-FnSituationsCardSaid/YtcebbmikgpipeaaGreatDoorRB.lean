/-
  What the laws over drawn arguments share: the bound on the text, lists compared. Conditions: lengths within the bound of a slice.
-/
import Derived.Test.YtcebbmikgpipeaaGreatDoorCX
import Derived.Test.YtcebbmikgpipeaaGreatDoorN
namespace Go.Proofs.YtcebbmikgpipeaaGreatDoor
open Go.RowKit
set_option maxHeartbeats 1000000

theorem code_of {w : World} {A : Option Addr} {n : Nat} {zs : List Int} (hr : Rd w 1 A n (zs.flatMap (fun n => [Value.int .u8 n]))) (hl : zs.length = n) (hn : n ≤ 65536) (ok : ∀ z ∈ zs, 0 ≤ z ∧ z ≤ 255) : Code w A n (zs.map (Value.int .u8)) := by
  have hf : ∀ (zs : List Int), zs.flatMap (fun n => [Value.int .u8 n]) = zs.map (Value.int .u8) := by
    intro zs
    induction zs with
    | nil => rfl
    | cons z zs ih => rw [List.flatMap_cons, ih]; rfl
  rw [hf] at hr
  refine ⟨hr, fun h0 a ha => ?_, fun k hk => ?_, by omega⟩
  · obtain ⟨b, o, e, hb, _⟩ := hr.2 h0
    rw [e] at ha; cases ha; exact hb
  · have hk' : k < zs.length := by omega
    exact ⟨zs[k], by simp [hk'], ok _ (List.getElem_mem hk')⟩
end Go.Proofs.YtcebbmikgpipeaaGreatDoor
