/-
  Numbers of a text on both sides: a numeral reads as its number. Conditions: those that stand in each statement.
-/
import Derived.Test.YtcebbmikgpipeaaGreatDoorPL
namespace Go.Proofs.YtcebbmikgpipeaaGreatDoor
open Go Go.RowKit
set_option maxRecDepth 100000
set_option maxHeartbeats 4000000

theorem dec_len : ∀ (k n : Nat), n < 10 ^ (k + 1) → (Lib.decDigits n).length ≤ k + 1
  | 0, n, h => by rw [Lib.decDigits_one (by simpa using h)]; simp
  | k + 1, n, h => by
    by_cases h10 : n < 10
    · rw [Lib.decDigits_one h10]; simp
    · have ih := dec_len k (n / 10) (by rw [Nat.pow_succ] at h; omega)
      rw [Lib.decDigits, dif_neg h10, List.length_append]
      simp; omega
theorem numS_len {k n : Nat} (h : n < 10 ^ (k + 1)) : (numS n).size ≤ k + 1 := by
  simpa [numS, ByteArray.size] using dec_len k n h
theorem numS_pos (n : Nat) : 1 ≤ (numS n).size := by
  have h := (dg_dec (n + 1) n (Nat.lt_succ_self _)).1
  show 1 ≤ (Lib.decDigits n).toArray.size
  rw [List.size_toArray]
  exact List.length_pos_iff.2 h
theorem numS_list (n : Nat) : (numS n).data.toList = Lib.decDigits n := by simp [numS]
theorem numS_sg (n : Nat) : sgB (numS n) = false := by
  have h := dg_dec (n + 1) n (Nat.lt_succ_self _)
  unfold sgB
  rw [numS_list]
  match hl : Lib.decDigits n with
  | [] => rfl
  | [_] => rfl
  | a :: _ :: _ =>
    have h1 : 48 ≤ a := (h.2 a (by rw [hl]; exact List.mem_cons_self)).1
    simp only [beq_eq_false_iff_ne]
    intro e
    subst e
    exact absurd h1 (by decide)
theorem decK_pre {a b : ByteArray} : ∀ (k : Nat), k ≤ a.size → decK (a ++ b) k = decK a k
  | 0, _ => rfl
  | k + 1, h => by
    simp only [decK]
    rw [decK_pre k (by omega)]
    have e : (a ++ b).data.toList.getD k 0 = a.data.toList.getD k 0 := by
      rw [ByteArray.data_append, Array.toList_append, List.getD_eq_getElem?_getD, List.getD_eq_getElem?_getD, List.getElem?_append_left (by simpa using (show k < a.size by omega))]
    rw [e]
theorem decK_num : ∀ (k n : Nat), n < k → decK (numS n) (numS n).size = (n : Int)
  | 0, _, h => absurd h (Nat.not_lt_zero _)
  | k + 1, n, h => by
    by_cases h10 : n < 10
    · have e : (numS n).size = 1 := by simp [numS, ByteArray.size, Lib.decDigits_one h10]
      rw [e]
      simp only [decK]
      have e2 : (numS n).data.toList.getD 0 0 = UInt8.ofNat (48 + n) := by rw [numS_list, Lib.decDigits_one h10]; rfl
      rw [e2, dig_nat n h10]; omega
    · have hs := numS_step h10
      have hr : n % 10 < 10 := Nat.mod_lt _ (by omega)
      have e1 : (numS (n % 10)).size = 1 := by simp [numS, ByteArray.size, Lib.decDigits_one hr]
      have ih := decK_num k (n / 10) (by omega)
      rw [hs, ByteArray.size_append, e1]
      simp only [decK]
      rw [decK_pre _ (Nat.le_refl _), ih]
      have e2 : (numS (n / 10) ++ numS (n % 10)).data.toList.getD (numS (n / 10)).size 0 = UInt8.ofNat (48 + n % 10) := by
        rw [ByteArray.data_append, Array.toList_append, List.getD_eq_getElem?_getD, List.getElem?_append_right (by simp), numS_list (n % 10), Lib.decDigits_one hr]
        simp
      rw [e2, dig_nat _ hr]; omega
theorem numI_nat (n : Nat) : numI (n : Int) = numS n := by unfold numI; rw [if_neg (by omega)]; simp
theorem rdN_num (n : Nat) : rdN (numS n) = (n : Int) := by
  have h := numS_sg n
  unfold rdN rdT
  rw [h]
  simp only [Bool.false_eq_true, if_false]
  exact decK_num (n + 1) n (Nat.lt_succ_self _)
theorem rdV_num {n : Nat} (h : n < 1000000) : rdV (numS n) = (n : Int) := by
  have h1 := numS_pos n
  have h2 := numS_len (k := 5) (n := n) (by omega)
  have hd := dg_dec (n + 1) n (Nat.lt_succ_self _)
  have h3 : rdB (numS n) = true := by
    unfold rdB
    have e : rdT (numS n) = numS n := by unfold rdT; rw [numS_sg]; rfl
    rw [e, decide_eq_true h1, decide_eq_true h2, rdN_num, numI_nat, decide_eq_true rfl]
    have e2 : (numS n).data.toList.all dgC = true := by
      rw [numS_list, List.all_eq_true]
      intro x hx
      obtain ⟨a, b⟩ := hd.2 x hx
      have a2 : 48 ≤ x.toNat := a
      have b2 : x.toNat ≤ 57 := b
      simp [dgC, a2, b2]
    rw [e2]; rfl
  unfold rdV
  rw [if_pos h3, rdN_num]
/-- the program's number of a text -/
def piV (s : ByteArray) : Int :=
  if s.size ≤ 7 then
    match Lib.atoiAll s.data.toList with
    | .ok v => if (decide (-999999 ≤ v) && decide (v ≤ 999999)) && decide (numI v = s) then v else 0
    | _ => 0
  else 0
theorem piV_num {n : Nat} (h : n < 1000000) : piV (numS n) = (n : Int) := by
  have h2 := numS_len (k := 5) (n := n) (by omega)
  unfold piV
  rw [if_pos (by omega), numS_list, atoi_dec (by omega)]
  simp only [numI_nat]
  rw [decide_eq_true (show -999999 ≤ (n : Int) by omega), decide_eq_true (show (n : Int) ≤ 999999 by omega)]
  simp
theorem numS_ext {n : Nat} (c : UInt8) : (numS n ++ mkB [c]).extract 0 ((numS n ++ mkB [c]).size - 1) = numS n := by
  have h1 : (numS n ++ mkB [c]).data.toList = Lib.decDigits n ++ [c] := by rw [ByteArray.data_append, Array.toList_append]; rfl
  have h2 : (numS n ++ mkB [c]).size = (Lib.decDigits n).length + 1 := by
    have h3 : (numS n ++ mkB [c]).data.toList.length = (numS n ++ mkB [c]).size := Array.length_toList
    rw [← h3, h1, List.length_append]; rfl
  rw [ext_mk, h1, h2, List.drop_zero, Nat.add_sub_cancel, Nat.sub_zero, List.take_left]
  rfl
end Go.Proofs.YtcebbmikgpipeaaGreatDoor
