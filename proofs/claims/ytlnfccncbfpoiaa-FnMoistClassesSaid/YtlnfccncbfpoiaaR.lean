/-
  Slices of air and of fuelbeds: copying, comparing, marking. Conditions: lengths within the bound of a slice, as each statement says.
-/
import Derived.Test.YtlnfccncbfpoiaaA
import Derived.Test.YtlnfccncbfpoiaaS
namespace Go.Proofs.Ytlnfccncbfpoiaa
open Go.RowKit
set_option maxHeartbeats 1000000
abbrev AirT := Int × Int × Int
def airE (a : AirT) : List Value := [.int .i64 a.1, .int .i64 a.2.1, .int .i64 a.2.2]
theorem airE_len (a : AirT) : (airE a).length = 3 := rfl
def airF (zs : List AirT) : List Value := zs.flatMap airE
theorem airF_len (zs : List AirT) : (airF zs).length = zs.length * 3 := flat_length airE_len zs
/-- an element of a slice that lies below the world w, read in a later world -/
theorem air_at {w wr : World} {A : Option Addr} {n k : Nat} {zs : List AirT} (hr : Rd w 3 A n (airF zs)) (hW : Below w.heap.size w wr) (hl : zs.length = n) (hk : k < n) :
    ∃ b off, A = some ⟨b, off, none⟩ ∧ b < w.heap.size ∧ ∃ x0 x1 x2, zs[k]'(by omega) = (x0, x1, x2)
    ∧ wr.cell? ⟨b, off + k * 3, none⟩ = some (.int .i64 x0)
    ∧ wr.cell? ⟨b, off + k * 3 + 1, none⟩ = some (.int .i64 x1)
    ∧ wr.cell? ⟨b, off + k * 3 + 2, none⟩ = some (.int .i64 x2) := by
  obtain ⟨b, off, e, hb, hc⟩ := hr.2 (by omega)
  have hg : ∀ j u, j < 3 → (airE (zs[k]'(by omega)))[j]? = some u → wr.cell? ⟨b, off + k * 3 + j, none⟩ = some u := fun j u hj hu => by
    rw [Nat.add_assoc]
    refine (hW.cell (p := ⟨b, off + (k * 3 + j), none⟩) hb).trans (hc _ _ ?_)
    rw [← hu]; exact flat_get airE_len zs k j (by omega) hj
  refine ⟨b, off, e, hb, (zs[k]'(by omega)).1, (zs[k]'(by omega)).2.1, (zs[k]'(by omega)).2.2, rfl, hg 0 _ (by omega) rfl, hg 1 _ (by omega) rfl, hg 2 _ (by omega) rfl⟩
theorem air_step {zs : List AirT} {k n : Nat} (hl : zs.length = n) (hk : k < n) {x0 : Int} {x1 : Int} {x2 : Int} (hz : zs[k]'(by omega) = (x0, x1, x2)) :
    sets (airF (zs.take k) ++ (List.replicate (n - k) [.int .i64 0, .int .i64 0, .int .i64 0]).flatten) (k * 3) [.int .i64 x0, .int .i64 x1, .int .i64 x2] = airF (zs.take (k + 1)) ++ (List.replicate (n - (k + 1)) [.int .i64 0, .int .i64 0, .int .i64 0]).flatten := by
  have hL : (airF (zs.take k)).length = k * 3 := by rw [airF_len, List.length_take, Nat.min_eq_left (by omega)]
  have e2 : n - k = (n - (k + 1)) + 1 := by omega
  rw [e2, List.replicate_succ, List.flatten_cons, sets_mid hL (by rfl)]
  unfold airF
  rw [List.take_succ_eq_append_getElem (by omega), List.flatMap_append, hz, List.append_assoc]
  rfl
theorem air_there {zs : List AirT} {k n j : Nat} (hl : zs.length = n) (hk : k < n) (hj : j < 3) : ∃ u, (airF (zs.take k) ++ (List.replicate (n - k) [.int .i64 0, .int .i64 0, .int .i64 0]).flatten)[k * 3 + j]? = some u := by
  have hL : (airF (zs.take k)).length = k * 3 := by rw [airF_len, List.length_take, Nat.min_eq_left (by omega)]
  have e2 : n - k = (n - (k + 1)) + 1 := by omega
  refine ⟨_, List.getElem?_eq_getElem ?_⟩
  rw [e2, List.replicate_succ, List.flatten_cons, List.length_append, List.length_append, hL]
  simp
  omega
abbrev FuelbedT := Int × Int
def fubE (a : FuelbedT) : List Value := [.int .i64 a.1, .int .i64 a.2]
theorem fubE_len (a : FuelbedT) : (fubE a).length = 2 := rfl
def fubF (zs : List FuelbedT) : List Value := zs.flatMap fubE
theorem fubF_len (zs : List FuelbedT) : (fubF zs).length = zs.length * 2 := flat_length fubE_len zs
/-- an element of a slice that lies below the world w, read in a later world -/
theorem fub_at {w wr : World} {A : Option Addr} {n k : Nat} {zs : List FuelbedT} (hr : Rd w 2 A n (fubF zs)) (hW : Below w.heap.size w wr) (hl : zs.length = n) (hk : k < n) :
    ∃ b off, A = some ⟨b, off, none⟩ ∧ b < w.heap.size ∧ ∃ x0 x1, zs[k]'(by omega) = (x0, x1)
    ∧ wr.cell? ⟨b, off + k * 2, none⟩ = some (.int .i64 x0)
    ∧ wr.cell? ⟨b, off + k * 2 + 1, none⟩ = some (.int .i64 x1) := by
  obtain ⟨b, off, e, hb, hc⟩ := hr.2 (by omega)
  have hg : ∀ j u, j < 2 → (fubE (zs[k]'(by omega)))[j]? = some u → wr.cell? ⟨b, off + k * 2 + j, none⟩ = some u := fun j u hj hu => by
    rw [Nat.add_assoc]
    refine (hW.cell (p := ⟨b, off + (k * 2 + j), none⟩) hb).trans (hc _ _ ?_)
    rw [← hu]; exact flat_get fubE_len zs k j (by omega) hj
  refine ⟨b, off, e, hb, (zs[k]'(by omega)).1, (zs[k]'(by omega)).2, rfl, hg 0 _ (by omega) rfl, hg 1 _ (by omega) rfl⟩
theorem fub_step {zs : List FuelbedT} {k n : Nat} (hl : zs.length = n) (hk : k < n) {x0 : Int} {x1 : Int} (hz : zs[k]'(by omega) = (x0, x1)) :
    sets (fubF (zs.take k) ++ (List.replicate (n - k) [.int .i64 0, .int .i64 0]).flatten) (k * 2) [.int .i64 x0, .int .i64 x1] = fubF (zs.take (k + 1)) ++ (List.replicate (n - (k + 1)) [.int .i64 0, .int .i64 0]).flatten := by
  have hL : (fubF (zs.take k)).length = k * 2 := by rw [fubF_len, List.length_take, Nat.min_eq_left (by omega)]
  have e2 : n - k = (n - (k + 1)) + 1 := by omega
  rw [e2, List.replicate_succ, List.flatten_cons, sets_mid hL (by rfl)]
  unfold fubF
  rw [List.take_succ_eq_append_getElem (by omega), List.flatMap_append, hz, List.append_assoc]
  rfl
theorem fub_there {zs : List FuelbedT} {k n j : Nat} (hl : zs.length = n) (hk : k < n) (hj : j < 2) : ∃ u, (fubF (zs.take k) ++ (List.replicate (n - k) [.int .i64 0, .int .i64 0]).flatten)[k * 2 + j]? = some u := by
  have hL : (fubF (zs.take k)).length = k * 2 := by rw [fubF_len, List.length_take, Nat.min_eq_left (by omega)]
  have e2 : n - k = (n - (k + 1)) + 1 := by omega
  refine ⟨_, List.getElem?_eq_getElem ?_⟩
  rw [e2, List.replicate_succ, List.flatten_cons, List.length_append, List.length_append, hL]
  simp
  omega
end Go.Proofs.Ytlnfccncbfpoiaa
