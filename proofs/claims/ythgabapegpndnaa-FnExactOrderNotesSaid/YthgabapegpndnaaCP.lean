/-
  cmp.Compare and cmp.Or over two ints. Conditions: none.
-/
import Derived.Test.YthgabapegpndnaaN
namespace Go.Proofs.Ythgabapegpndnaa
open Go.RowKit
set_option maxRecDepth 100000
set_option maxHeartbeats 1000000

def cmpv (a b : Int) : Int := if a < b then -1 else if b < a then 1 else 0
def orv (a b : Int) : Int := if a = 0 then b else a
theorem isNaN_any (x : Int) (w : World) : Calls Try.prog 72 #[.int .i64 x] w fun e w' => e = .returned (.bool false) ∧ w = w' := by
  go_enter Try.func72, Try.ntmps72
  have h : (x != x) = false := by simp
  go_wp2
  go_returns
  exact ⟨rfl, rfl⟩
theorem Compare_any (a b : Int) (w : World) : Calls Try.prog 57 #[.int .i64 a, .int .i64 b] w fun e w' => e = .returned (.int .i64 (cmpv a b)) ∧ w = w' := by
  go_enter Try.func57, Try.ntmps57
  go_wp2_with (first | (go_at_call 72; refine (isNaN_any _ _).mono ?_; rintro e w' ⟨rfl, rfl⟩))
  all_goals (go_returns; exact ⟨ret_int (by unfold cmpv; (repeat' split) <;> omega), rfl⟩)
theorem Or2_any (a b : Int) (g : Nat) (w : World) (h0 : w.cell? ⟨g, 0, none⟩ = some (.int .i64 a)) (h1 : w.cell? ⟨g, 1, none⟩ = some (.int .i64 b)) :
    Calls Try.prog 63 #[.slice (some ⟨g, 0, none⟩) 2 2] w fun e w' => e = .returned (.int .i64 (orv a b)) ∧ w = w' := by
  by_cases ha : a = 0
  · have hd : (a != 0) = false := by simp [ha]
    by_cases hb : b = 0
    · have hd2 : (b != 0) = false := by simp [hb]
      go_enter Try.func63, Try.ntmps63
      go_wp2_with fail
      refine wp_loop_rounds 3 ?_
      rw [rounds_succ]
      go_wp2_with fail
      rw [rounds_succ]
      go_wp2_with fail
      rw [rounds_succ]
      go_wp2
      go_returns
      exact ⟨ret_int (by simp [orv, ha, hb]), rfl⟩
    · have hd2 : (b != 0) = true := by simp [hb]
      go_enter Try.func63, Try.ntmps63
      go_wp2_with fail
      refine wp_loop_rounds 3 ?_
      rw [rounds_succ]
      go_wp2_with fail
      rw [rounds_succ]
      go_wp2
      go_returns
      exact ⟨ret_int (by simp [orv, ha]), rfl⟩
  · have hd : (a != 0) = true := by simp [ha]
    go_enter Try.func63, Try.ntmps63
    go_wp2_with fail
    refine wp_loop_rounds 3 ?_
    rw [rounds_succ]
    go_wp2
    go_returns
    exact ⟨ret_int (by simp [orv, ha]), rfl⟩
end Go.Proofs.Ythgabapegpndnaa
