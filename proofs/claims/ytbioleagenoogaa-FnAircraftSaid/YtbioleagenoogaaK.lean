/-
  Small shared functions without loops. Each walk returns what the plain function beside it says. Conditions: none.
-/
import Derived.Test.YtbioleagenoogaaChecked
import Derived.Test.YtbioleagenoogaaOpen
namespace Go.Proofs.Ytbioleagenoogaa
open Go.RowKit
set_option maxHeartbeats 1000000

theorem ret_int {k : IntKind} {a b : Int} (h : a = b) : Ending.returned (.int k a) = .returned (.int k b) := by rw [h]
def inB (n lo hi : Int) : Bool := decide (lo ≤ n) && decide (n ≤ hi)
theorem inB_iff {n lo hi : Int} : inB n lo hi = true ↔ lo ≤ n ∧ n ≤ hi := by simp [inB]
theorem in_any (n lo hi : Int) (w : World) : Calls Try.prog 45 #[.int .i64 n, .int .i64 lo, .int .i64 hi] w fun e w' => e = .returned (.bool (inB n lo hi)) ∧ w = w' := by
  go_enter Try.func45, Try.ntmps45
  go_wp2
  all_goals (go_returns; exact ⟨by first | (simp [inB, *]; done) | (simp [inB, *]; omega), rfl⟩)
theorem l1In_any (n lo hi : Int) (w : World) : Calls Try.prog 40 #[.int .i64 n, .int .i64 lo, .int .i64 hi] w fun e w' => e = .returned (.bool (inB n lo hi)) ∧ w = w' := by
  go_enter Try.func40, Try.ntmps40
  go_wp2
  all_goals (go_returns; exact ⟨by first | (simp [inB, *]; done) | (simp [inB, *]; omega), rfl⟩)
theorem l1Least_any (a b : Int) (w : World) : Calls Try.prog 57 #[.int .i64 a, .int .i64 b] w fun e w' => e = .returned (.int .i64 (min a b)) ∧ w = w' := by
  go_enter Try.func57, Try.ntmps57
  go_wp2
  all_goals (go_returns; exact ⟨ret_int (by omega), rfl⟩)
end Go.Proofs.Ytbioleagenoogaa
