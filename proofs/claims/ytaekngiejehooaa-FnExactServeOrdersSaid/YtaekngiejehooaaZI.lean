/-
  ServingOrder of the reference, whole. Conditions: lengths within the bound of a slice.
-/
import Derived.Test.YtaekngiejehooaaZH
namespace Go.Proofs.Ytaekngiejehooaa
open Go.RowKit
set_option maxRecDepth 100000
set_option maxHeartbeats 4000000

/-- the queue whose first k places are written over by their ids -/
def rowO (zs : List OrderT) (L : List Int) (k : Nat) : List Int := idsO zs L k ++ L.drop k
theorem rowO_len {zs : List OrderT} {L : List Int} {k : Nat} (h : k ≤ L.length) : (rowO zs L k).length = L.length := by
  unfold rowO; rw [List.length_append, idsO_len h, List.length_drop]; omega
theorem rowO_get {zs : List OrderT} {L : List Int} {k : Nat} (h : k < L.length) : (rowO zs L k)[k]'(by rw [rowO_len (by omega)]; exact h) = L[k] := by
  unfold rowO
  rw [List.getElem_append_right (by rw [idsO_len (by omega)]; exact Nat.le_refl _)]
  simp [idsO_len (zs := zs) (L := L) (k := k) (by omega)]
theorem rowO_set {zs : List OrderT} {L : List Int} {k i : Nat} {x : OrderT} {sp : List Value} (hk : k < L.length) (hx : L[k] = (i : Int)) (hi : i < zs.length) (hz : zs[i] = x) : (ints (rowO zs L k) ++ sp).set k (.int .i64 x.1) = ints (rowO zs L (k + 1)) ++ sp := by
  rw [List.set_append_left _ _ (by rw [ints_length, rowO_len (by omega)]; exact hk), ← ints_set]
  congr 2
  unfold rowO
  rw [idsO_succ hk hx hi hz, List.set_append_right _ _ (by rw [idsO_len (by omega)]; exact Nat.le_refl _), idsO_len (by omega), Nat.sub_self, List.drop_eq_getElem_cons hk]
  simp only [List.set_cons_zero, List.append_assoc, List.singleton_append]
theorem sServingOrder_is {q : Bool} {L : List Int} {A : Option Addr} {n c : Nat} {zs : List OrderT} (hq : listedB zs 10 = q) (hL : soL zs = L) (w : World) (hr : Rd w 5 A n (ordF zs)) (hl : zs.length = n) (hn : n ≤ 1048577) (hz9 : ∀ z ∈ zs, z.2.1.size ≤ maxLen) :
    Calls Try.prog 30 #[.slice A n c] w fun e w' => ∃ v, e = .returned (.tuple #[v, .bool q]) ∧ w'.ownsRow w.heap.size 3 1 v L.length (ints L) ∧ Below w.heap.size w w' := by
  have HQ := Lib.hid hq
  have HL := Lib.hid hL
  have hgood := l15Good_of (c := c) hq w hr hl (by omega) hz9
  clear hq hL
  go_enter Try.func30, Try.ntmps30
  go_wp2_with fail
  refine hgood.mono ?_
  rintro e w1 ⟨rfl, b1⟩
  clear hgood
  rcases q with _ | _
  · obtain rfl : L = [] := by rw [← HL.out]; simp [soL, HQ.out]
    have hO := own_lit' (w := w1) (t := 3) (k := 1) (base := w.heap.size) rfl b1.size
    go_wp2
    go_returns
    exact ⟨_, rfl, hO, by (repeat' (first | (with_reducible exact Below.refl _ _) | (with_reducible assumption) | (with_reducible refine balloc ?_ _) | (with_reducible refine bdrew ?_) | (with_reducible refine bdrewN ?_ _) | (with_reducible refine bstep ?_ (by assumption)) | (with_reducible refine bset ?_ ?_ _) | (exact Below.size (by assumption)) | go_size))⟩
  obtain ⟨Q, hQ⟩ : ∃ Q, quO zs = Q := ⟨_, rfl⟩
  have hL2 : idsO zs Q n = L := by rw [← HL.out, ← hQ, ← hl]; simp [soL, HQ.out]
  have hQl : Q.length = n := by rw [← hQ, quO_len, hl]
  have hQm : ∀ y ∈ Q, ∃ i : Nat, i < zs.length ∧ y = (i : Int) := fun y hy => quO_mem (hQ ▸ hy)
  have HL2 := Lib.hid hL2
  have HQQ := Lib.hid hQ
  have HQM := Lib.hid hQm
  have HQL := Lib.hid hQl
  clear hL2 hQ hQl hQm HL
  go_wp2_with fail
  refine (l15Queue_is HQ.out HQQ.out _ (hr.below b1) hl).mono ?_
  rintro e w2 ⟨v2, rfl, ho2, hnn, hb2⟩
  have b2 := bstep b1 hb2
  rcases own_bk ho2 with ⟨hv, _⟩ | ⟨g, cap, cs, rfl, hbg, hB, h1, h2, h3, h4⟩
  · exact absurd hv hnn
  have hbg2 : w.heap.size ≤ g := Nat.le_trans b1.size hbg
  have hcs : cs = ints (rowO zs Q 0) ++ cs.drop n := by
    have : rowO zs Q 0 = Q := by simp [rowO, idsO]
    rw [this, ← h4, Nat.mul_one]; exact (List.take_append_drop _ _).symm
  obtain ⟨sp, hsp⟩ : ∃ sp, cs.drop n = sp := ⟨_, rfl⟩
  rw [hsp] at hcs
  rw [hcs] at hB h3
  have HB := Lib.hid hB
  have H3 := Lib.hid h3
  clear ho2 hnn hB h3 h4 hcs hsp
  go_wp2_with fail
  go_loopw [5] (fun i wr => ∃ k : Nat, k ≤ n ∧ i = .int .i64 k ∧ Bk wr g 3 (ints (rowO zs Q k) ++ sp) ∧ Below w.heap.size w wr) (fun i _ => n - (intOf i).toNat)
  case atStart => exact ⟨0, Nat.zero_le _, rfl, HB.out, b2⟩
  case round =>
    obtain ⟨k, hk, rfl, hB, hW⟩ := hrel
    by_cases hlt : k < n
    · have hkq : k < Q.length := by have := HQL.out; omega
      obtain ⟨i, hi, hqi⟩ := HQM.out Q[k] (List.getElem_mem hkq)
      have c0 := cell_ints hB (k := k) (x := (i : Int)) (by rw [rowO_len (by omega)]; exact hkq) ((rowO_get hkq).trans hqi)
      obtain ⟨b, off, rfl, hbl, x0, x1, x2, x3, x4, hz, d0, d1, d2, d3, d4⟩ := ord_at hr hW hl (k := i) (by omega)
      have f0 := hB.frozen k
      have hB2 := hB.set_ k (.int .i64 x0)
      rw [rowO_set hkq hqi hi hz] at hB2
      have bS := bset hW (p := ⟨g, k, none⟩) hbg2 (.int .i64 x0)
      have HB2 := Lib.hid hB2
      have s1 : b < wr.heap.size := Nat.lt_of_lt_of_le hbl hW.size
      have s2 : g < wr.heap.size := hB.lt
      have i1 : (0 : Int) ≤ (k : Int) := by omega
      have i2 : (k : Int) < (n : Int) := by omega
      have i3 : (0 : Int) ≤ (i : Int) := by omega
      have i4 : (i : Int) < (n : Int) := by omega
      clear hz hqi d1 d2 d3 d4 hB hB2
      go_wp2
      go_roundw
      case rel => exact ⟨k + 1, by omega, by go_num, HB2.out, bS⟩
      case measure => simp [intOf]; omega
    · obtain rfl : k = n := by omega
      have hll : L.length = k := by rw [← HL2.out]; exact idsO_len (by rw [HQL.out]; exact Nat.le_refl _)
      have hrow : rowO zs Q k = L := by unfold rowO; rw [HL2.out, List.drop_of_length_le (by rw [HQL.out]; exact Nat.le_refl _), List.append_nil]
      rw [hrow] at hB
      have hown := bk_own (n := k) (k := 1) (xs := ints L) hbg2 hB h1 h2 (by
        have h8 := H3.out
        rw [List.length_append, ints_length] at h8 ⊢
        rw [rowO_len (Nat.zero_le _), HQL.out] at h8
        rw [hll]; exact h8) (by
        rw [Nat.mul_one, List.take_append_of_le_length (by rw [ints_length, hll]; exact Nat.le_refl _)]
        exact List.take_of_length_le (by rw [ints_length, hll]; exact Nat.le_refl _))
      have HO := Lib.hid hown
      have HLL := Lib.hid hll
      clear hown hll hrow hB
      go_wp2
      go_returns
      exact ⟨_, rfl, by rw [HLL.out]; exact HO.out, hW⟩
end Go.Proofs.Ytaekngiejehooaa
