/-
  The reference's number of a text: its reading. Conditions: the text's length within the bound of a slice.
-/
import Derived.Test.YtcebbmikgpipeaaGreatDoorPR
namespace Go.Proofs.YtcebbmikgpipeaaGreatDoor
open Go Go.RowKit
set_option maxRecDepth 100000
set_option maxHeartbeats 4000000

def sgB (s : ByteArray) : Bool := match s.data.toList with
  | a :: _ :: _ => a == 45
  | _ => false
def rdT (s : ByteArray) : ByteArray := if sgB s = true then s.extract 1 s.size else s
def dgC (x : UInt8) : Bool := decide (48 ≤ x.toNat) && decide (x.toNat ≤ 57)
def decK (t : ByteArray) : Nat → Int
  | 0 => 0
  | k + 1 => 10 * decK t k + ((t.data.toList.getD k 0).toNat - 48 : Int)
def rdN (s : ByteArray) : Int := if sgB s = true then - decK (rdT s) (rdT s).size else decK (rdT s) (rdT s).size
def rdB (s : ByteArray) : Bool := (decide (1 ≤ (rdT s).size) && decide ((rdT s).size ≤ 6)) && ((rdT s).data.toList.all dgC && decide (numI (rdN s) = s))
def rdV (s : ByteArray) : Int := if rdB s = true then rdN s else 0
theorem sg_no {s : ByteArray} (h : s.size < 2) : sgB s = false := by
  unfold sgB
  have h2 : s.data.toList.length < 2 := by simpa using h
  match hl : s.data.toList with
  | [] => rfl
  | [_] => rfl
  | _ :: _ :: _ => rw [hl] at h2; simp at h2; omega
theorem sg_is {s : ByteArray} (h : 1 < s.size) : sgB s = (s[0] == 45) := by
  have e := byte_at (s := s) (k := 0) (by omega)
  have h2 : 1 < s.data.toList.length := by simpa using h
  unfold sgB
  match hl : s.data.toList with
  | [] => rw [hl] at h2; simp at h2
  | [_] => rw [hl] at h2; simp at h2
  | a :: _ :: _ =>
    have : a = s[0] := by rw [← e]; simp [hl]
    rw [this]
theorem rdT_size {s : ByteArray} : (rdT s).size = if sgB s = true then s.size - 1 else s.size := by
  unfold rdT
  split
  · simp [ByteArray.size_extract]
  · rfl
theorem decK_bd {t : ByteArray} : ∀ k, k ≤ t.size → (∀ x ∈ t.data.toList.take k, dgC x = true) → 0 ≤ decK t k ∧ decK t k < 10 ^ k
  | 0, _, _ => by simp [decK]
  | k + 1, hk, h => by
    have ih := decK_bd (t := t) k (by omega) (fun x hx => h x (by
      rw [List.take_succ_eq_append_getElem (by simpa using (show k < t.size by omega))]
      exact List.mem_append.2 (.inl hx)))
    have hx : dgC (t.data.toList.getD k 0) = true := h _ (by
      rw [List.take_succ_eq_append_getElem (by simpa using (show k < t.size by omega)), List.getD_eq_getElem?_getD, List.getElem?_eq_getElem (by simpa using (show k < t.size by omega))]
      exact List.mem_append.2 (.inr (by simp)))
    simp only [dgC, Bool.and_eq_true, decide_eq_true_eq] at hx
    simp only [decK]
    have e : (10 : Int) ^ (k + 1) = 10 * 10 ^ k := by rw [Int.pow_succ]; omega
    omega
end Go.Proofs.YtcebbmikgpipeaaGreatDoor
