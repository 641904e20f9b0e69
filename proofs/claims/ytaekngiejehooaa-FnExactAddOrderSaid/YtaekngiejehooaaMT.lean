/-
  The text of a mark. Conditions: the mark is positive and small.
-/
import Derived.Test.YtaekngiejehooaaN
import Derived.Test.YtaekngiejehooaaP
import Derived.Laws.Concat
import Derived.Laws.IdiomStrings
namespace Go.Proofs.Ytaekngiejehooaa
open Go.RowKit
set_option maxRecDepth 100000
set_option maxHeartbeats 1000000

/-- the last decimal digit, as a byte -/
def dgt (q : Nat) : UInt8 := UInt8.ofNat (48 + q % 10)
theorem dgt_nat (q : Nat) : ((dgt q).toNat : Int) = 48 + (q : Int) % 10 := by
  have h9 : (dgt q).toNat = 48 + q % 10 := by
    unfold dgt; rw [UInt8.toNat_ofNat']; omega
  rw [h9]; omega
def mtN (k : Nat) (out : List UInt8) : List UInt8 := if h : k = 0 then out else mtN (k / 10) (dgt k :: out)
termination_by k
decreasing_by omega
def mtx (k : Int) : ByteArray := ⟨(109 :: mtN k.toNat []).toArray⟩
theorem mtN_step {k : Nat} {out : List UInt8} (h : 0 < k) : mtN k out = mtN (k / 10) (dgt k :: out) := by
  conv => lhs; unfold mtN
  rw [dif_neg (by omega)]
theorem dig_bd {q l m : Nat} (h : q * 10 ^ l ≤ m) (hq : 0 < q) (hm : m ≤ 8000000000000) : l ≤ 13 := by
  rcases Nat.lt_or_ge 13 l with h1 | h1
  · have h2 : (10 : Nat) ^ 13 ≤ 10 ^ l := Nat.pow_le_pow_right (by omega) (by omega)
    have h3 : 10 ^ l ≤ q * 10 ^ l := Nat.le_mul_of_pos_left _ hq
    omega
  · exact h1
theorem dig_step {q l m : Nat} (h : q * 10 ^ l ≤ m) : q / 10 * 10 ^ (l + 1) ≤ m := by
  refine Nat.le_trans ?_ h
  rw [Nat.pow_succ, Nat.mul_comm (10 ^ l) 10, ← Nat.mul_assoc]
  exact Nat.mul_le_mul_right _ (Nat.div_mul_le_self q 10)
theorem dig_le {q l m : Nat} (h : q * 10 ^ l ≤ m) : q ≤ m := Nat.le_trans (Nat.le_mul_of_pos_right q (Nat.pow_pos (by omega))) h
theorem markText_any (k : Int) (w : World) (hk : 0 < k ∧ k ≤ 8000000000000) : Calls Try.prog 52 #[.int .i64 k] w fun e w' => e = .returned (.string (mtx k)) ∧ Below w.heap.size w w' := by
  obtain ⟨h0, h1⟩ := hk
  obtain ⟨m, rfl⟩ : ∃ m : Nat, k = (m : Int) := ⟨k.toNat, by omega⟩
  go_enter Try.func52, Try.ntmps52
  go_wp2
  go_loopw [0, 3] (fun a b wr => ∃ (q : Nat) (out : List UInt8), a = .int .i64 (q : Int) ∧ b = .string ⟨out.toArray⟩ ∧ mtN q out = mtN m [] ∧ Hid (q * 10 ^ out.length ≤ m) ∧ out.length ≤ 14 ∧ Below w.heap.size w wr) (fun a _ _ => (intOf a).toNat)
  case atStart => exact ⟨m, [], rfl, rfl, rfl, Lib.hid (by simp), by simp, Below.refl _ _⟩
  case round =>
    obtain ⟨q, out, rfl, rfl, hm, hq, hl14, hW⟩ := hrel
    have hqm := dig_le hq.out
    by_cases hlt : 0 < q
    · have hlen := dig_bd hq.out hlt (by omega)
      have hstep := mtN_step (out := out) hlt
      rw [hm] at hstep
      have HS := Lib.hid hstep
      clear hstep hm
      have hwr : IntKind.u8.wrap (48 + (q : Int) % 10) = 48 + (q : Int) % 10 := by
        unfold IntKind.wrap; simp [IntKind.bits, IntKind.signed]; omega
      have hcv := run_convert_bytes_back (P := Try.prog) (wr.alloc (.cells #[.int .u8 (48 + (q : Int) % 10)] 5)) 78 9 5 ⟨wr.heap.size, 0, none⟩ 1 [dgt q] Try.underlying78 Try.underlying5 Try.underlying9 (fun j hj => by
        obtain rfl : j = 0 := by simpa using hj
        simp only [List.getElem_cons_zero, dgt_nat]
        simp [go_sem])
      simp only [List.length_cons, List.length_nil, Nat.zero_add] at hcv
      have hadd := run_string_add_lists (P := Try.prog) (w := wr.alloc (.cells #[.int .u8 (48 + (q : Int) % 10)] 5)) [dgt q] out (by simp) (by omega)
      go_wp2
      go_roundw
      case rel => exact ⟨q / 10, dgt q :: out, by go_num, rfl, HS.out.symm, Lib.hid (dig_step hq.out), by rw [List.length_cons]; omega, by (repeat' (first | (with_reducible exact Below.refl _ _) | (with_reducible assumption) | (with_reducible refine balloc ?_ _) | (with_reducible refine bdrew ?_) | (with_reducible refine bdrewN ?_ _) | (with_reducible refine bstep ?_ (by assumption)) | (with_reducible refine bset ?_ ?_ _) | (exact Below.size (by assumption)) | go_size))⟩
      case measure => simp [intOf]; omega
    · have e : q = 0 := by omega
      subst e
      have hm2 : out = mtN m [] := by rw [← hm]; conv => rhs; unfold mtN
                                      simp
      have HM := Lib.hid hm2
      clear hm2
      clear hm
      go_wp2
      go_returns
      exact ⟨by rw [HM.out]; rfl, hW⟩
theorem Bk.at_ {w : World} {g : Nat} {t : TypeId} {cs : List Value} (h : Bk w g t cs) {i : Nat} (hi : i < cs.length) : ∃ u, w.cell? ⟨g, i, none⟩ = some u := ⟨cs[i], by rw [h.cell, List.getElem?_eq_getElem hi]⟩
theorem grown_of_below {w w' : World} (h : Below w.heap.size w w') (row : Option Nat) : w.grownBy w' row := ⟨h.os, h.tape, h.output, h.size, fun i hi _ => h.block i hi⟩
theorem grown_drew {w w' : World} {row : Option Nat} (h : w.grownBy w' row) : w.grownBy w'.drew row := ⟨h.os, h.tape, h.output, h.size, h.block⟩
end Go.Proofs.Ytaekngiejehooaa
