/-
  Slices of situations: copying. Conditions: lengths within the bound of a slice, as each statement says.
-/
import Derived.Test.YtjffhacoijmgiaaA
import Derived.Test.YtjffhacoijmgiaaS
namespace Go.Proofs.Ytjffhacoijmgiaa
open Go.RowKit
set_option maxHeartbeats 1000000
abbrev SituationT := Int × Int × Int × Int × Int × Int
def sitE (a : SituationT) : List Value := [.int .i64 a.1, .int .i64 a.2.1, .int .i64 a.2.2.1, .int .i64 a.2.2.2.1, .int .i64 a.2.2.2.2.1, .int .i64 a.2.2.2.2.2]
theorem sitE_len (a : SituationT) : (sitE a).length = 6 := rfl
def sitF (zs : List SituationT) : List Value := zs.flatMap sitE
theorem sitF_len (zs : List SituationT) : (sitF zs).length = zs.length * 6 := flat_length sitE_len zs
/-- an element of a slice that lies below the world w, read in a later world -/
theorem sit_at {w wr : World} {A : Option Addr} {n k : Nat} {zs : List SituationT} (hr : Rd w 6 A n (sitF zs)) (hW : Below w.heap.size w wr) (hl : zs.length = n) (hk : k < n) :
    ∃ b off, A = some ⟨b, off, none⟩ ∧ b < w.heap.size ∧ ∃ x0 x1 x2 x3 x4 x5, zs[k]'(by omega) = (x0, x1, x2, x3, x4, x5)
    ∧ wr.cell? ⟨b, off + k * 6, none⟩ = some (.int .i64 x0)
    ∧ wr.cell? ⟨b, off + k * 6 + 1, none⟩ = some (.int .i64 x1)
    ∧ wr.cell? ⟨b, off + k * 6 + 2, none⟩ = some (.int .i64 x2)
    ∧ wr.cell? ⟨b, off + k * 6 + 3, none⟩ = some (.int .i64 x3)
    ∧ wr.cell? ⟨b, off + k * 6 + 4, none⟩ = some (.int .i64 x4)
    ∧ wr.cell? ⟨b, off + k * 6 + 5, none⟩ = some (.int .i64 x5) := by
  obtain ⟨b, off, e, hb, hc⟩ := hr.2 (by omega)
  have hg : ∀ j u, j < 6 → (sitE (zs[k]'(by omega)))[j]? = some u → wr.cell? ⟨b, off + k * 6 + j, none⟩ = some u := fun j u hj hu => by
    rw [Nat.add_assoc]
    refine (hW.cell (p := ⟨b, off + (k * 6 + j), none⟩) hb).trans (hc _ _ ?_)
    rw [← hu]; exact flat_get sitE_len zs k j (by omega) hj
  refine ⟨b, off, e, hb, (zs[k]'(by omega)).1, (zs[k]'(by omega)).2.1, (zs[k]'(by omega)).2.2.1, (zs[k]'(by omega)).2.2.2.1, (zs[k]'(by omega)).2.2.2.2.1, (zs[k]'(by omega)).2.2.2.2.2, rfl, hg 0 _ (by omega) rfl, hg 1 _ (by omega) rfl, hg 2 _ (by omega) rfl, hg 3 _ (by omega) rfl, hg 4 _ (by omega) rfl, hg 5 _ (by omega) rfl⟩
theorem sit_step {zs : List SituationT} {k n : Nat} (hl : zs.length = n) (hk : k < n) {x0 : Int} {x1 : Int} {x2 : Int} {x3 : Int} {x4 : Int} {x5 : Int} (hz : zs[k]'(by omega) = (x0, x1, x2, x3, x4, x5)) :
    sets (sitF (zs.take k) ++ (List.replicate (n - k) [.int .i64 0, .int .i64 0, .int .i64 0, .int .i64 0, .int .i64 0, .int .i64 0]).flatten) (k * 6) [.int .i64 x0, .int .i64 x1, .int .i64 x2, .int .i64 x3, .int .i64 x4, .int .i64 x5] = sitF (zs.take (k + 1)) ++ (List.replicate (n - (k + 1)) [.int .i64 0, .int .i64 0, .int .i64 0, .int .i64 0, .int .i64 0, .int .i64 0]).flatten := by
  have hL : (sitF (zs.take k)).length = k * 6 := by rw [sitF_len, List.length_take, Nat.min_eq_left (by omega)]
  have e2 : n - k = (n - (k + 1)) + 1 := by omega
  rw [e2, List.replicate_succ, List.flatten_cons, sets_mid hL (by rfl)]
  unfold sitF
  rw [List.take_succ_eq_append_getElem (by omega), List.flatMap_append, hz, List.append_assoc]
  rfl
theorem sit_there {zs : List SituationT} {k n j : Nat} (hl : zs.length = n) (hk : k < n) (hj : j < 6) : ∃ u, (sitF (zs.take k) ++ (List.replicate (n - k) [.int .i64 0, .int .i64 0, .int .i64 0, .int .i64 0, .int .i64 0, .int .i64 0]).flatten)[k * 6 + j]? = some u := by
  have hL : (sitF (zs.take k)).length = k * 6 := by rw [sitF_len, List.length_take, Nat.min_eq_left (by omega)]
  have e2 : n - k = (n - (k + 1)) + 1 := by omega
  refine ⟨_, List.getElem?_eq_getElem ?_⟩
  rw [e2, List.replicate_succ, List.flatten_cons, List.length_append, List.length_append, hL]
  simp
  omega
end Go.Proofs.Ytjffhacoijmgiaa
