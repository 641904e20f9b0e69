/-
  Small shared functions without loops. Each walk returns what the plain function beside it says. Conditions: none.
-/
import Derived.Test.YtebfphpmdkagpaaChecked
import Derived.Test.YtebfphpmdkagpaaOpen
namespace Go.Proofs.Ytebfphpmdkagpaa
open Go.RowKit
set_option maxHeartbeats 1000000

theorem ret_int {k : IntKind} {a b : Int} (h : a = b) : Ending.returned (.int k a) = .returned (.int k b) := by rw [h]
def inB (n lo hi : Int) : Bool := decide (lo ≤ n) && decide (n ≤ hi)
theorem inB_iff {n lo hi : Int} : inB n lo hi = true ↔ lo ≤ n ∧ n ≤ hi := by simp [inB]
theorem in_any (n lo hi : Int) (w : World) : Calls Try.prog 35 #[.int .i64 n, .int .i64 lo, .int .i64 hi] w fun e w' => e = .returned (.bool (inB n lo hi)) ∧ w = w' := by
  go_enter Try.func35, Try.ntmps35
  go_wp2
  all_goals (go_returns; exact ⟨by first | (simp [inB, *]; done) | (simp [inB, *]; omega), rfl⟩)
theorem l1In_any (n lo hi : Int) (w : World) : Calls Try.prog 41 #[.int .i64 n, .int .i64 lo, .int .i64 hi] w fun e w' => e = .returned (.bool (inB n lo hi)) ∧ w = w' := by
  go_enter Try.func41, Try.ntmps41
  go_wp2
  all_goals (go_returns; exact ⟨by first | (simp [inB, *]; done) | (simp [inB, *]; omega), rfl⟩)
theorem isTick_any (n : Int) (w : World) : Calls Try.prog 49 #[.int .i64 n] w fun e w' => e = .returned (.bool (inB n 0 9999)) ∧ w = w' := by
  go_enter Try.func49, Try.ntmps49
  go_wp2_with (first | (go_at_call 35; refine (in_any _ _ _ _).mono ?_; rintro e w' ⟨rfl, rfl⟩))
  all_goals (go_returns; exact ⟨by simp [*], rfl⟩)
theorem l4Tick_any (n : Int) (w : World) : Calls Try.prog 54 #[.int .i64 n] w fun e w' => e = .returned (.bool (inB n 0 9999)) ∧ w = w' := by
  go_enter Try.func54, Try.ntmps54
  go_wp2_with (first | (go_at_call 41; refine (l1In_any _ _ _ _).mono ?_; rintro e w' ⟨rfl, rfl⟩))
  all_goals (go_returns; exact ⟨by simp [*], rfl⟩)
end Go.Proofs.Ytebfphpmdkagpaa
