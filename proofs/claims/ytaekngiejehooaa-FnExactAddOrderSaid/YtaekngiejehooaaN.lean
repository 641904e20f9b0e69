/-
  Lists of ints: their cells, all of them. Conditions: lengths within the bound of a slice.
-/
import Derived.Test.YtaekngiejehooaaS
import Derived.Lib.Hide
namespace Go.Proofs.Ytaekngiejehooaa
open Go.RowKit
set_option maxRecDepth 100000
set_option maxHeartbeats 1000000

theorem ints_at {w wr : World} {A : Option Addr} {n k : Nat} {zs : List Int} (hr : Rd w 1 A n (ints zs)) (hW : Below w.heap.size w wr) (hl : zs.length = n) (hk : k < n) :
    ∃ b off x, A = some ⟨b, off, none⟩ ∧ b < w.heap.size ∧ zs[k]'(by omega) = x ∧ wr.cell? ⟨b, off + k, none⟩ = some (.int .i64 x) := by
  obtain ⟨b, off, e, hb, hc⟩ := hr.2 (by omega)
  exact ⟨b, off, _, e, hb, rfl, (hW.cell (p := ⟨b, off + k, none⟩) hb).trans (hc _ _ (ints_get zs k (by omega)))⟩
def sumL : List Int → Int
  | [] => 0
  | x :: xs => x + sumL xs
theorem sumL_append (xs ys : List Int) : sumL (xs ++ ys) = sumL xs + sumL ys := by
  induction xs with
  | nil => simp [sumL]
  | cons x xs ih => simp only [List.cons_append, sumL, ih]; omega
theorem sumL_bd {xs : List Int} {B : Int} (_hB : 0 ≤ B) (h : ∀ x ∈ xs, 0 ≤ x ∧ x ≤ B) : 0 ≤ sumL xs ∧ sumL xs ≤ B * (xs.length : Int) := by
  induction xs with
  | nil => simp [sumL]
  | cons x xs ih =>
    have h1 := ih (fun y hy => h y (List.mem_cons_of_mem _ hy))
    have h2 := h x (List.mem_cons_self ..)
    simp only [sumL, List.length_cons]
    rw [show ((xs.length + 1 : Nat) : Int) = (xs.length : Int) + 1 from by omega, Int.mul_add]
    omega
theorem sumL_take {xs : List Int} {k : Nat} {x : Int} (hk : k < xs.length) (hx : xs[k] = x) : sumL (xs.take (k + 1)) = sumL (xs.take k) + x := by
  rw [List.take_succ_eq_append_getElem hk, sumL_append, hx]; simp [sumL]
theorem sumL_take_bd {xs : List Int} {B : Int} (hB : 0 ≤ B) (h : ∀ x ∈ xs, 0 ≤ x ∧ x ≤ B) (k : Nat) : 0 ≤ sumL (xs.take k) ∧ sumL (xs.take k) ≤ B * (xs.length : Int) := by
  have h1 := sumL_bd hB (xs := xs.take k) (fun x hx => h x (List.mem_of_mem_take hx))
  have h2 : B * ((xs.take k).length : Int) ≤ B * (xs.length : Int) := Int.mul_le_mul_of_nonneg_left (by rw [List.length_take]; omega) hB
  omega
end Go.Proofs.Ytaekngiejehooaa
