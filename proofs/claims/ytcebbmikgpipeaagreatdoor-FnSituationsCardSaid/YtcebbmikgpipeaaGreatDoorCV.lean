/-
  The draws' cursor: pick, one, among. Conditions: a cursor that has drawn less than 2^50 times.
-/
import Derived.Test.YtcebbmikgpipeaaGreatDoorCU
namespace Go.Proofs.YtcebbmikgpipeaaGreatDoor
open Go.RowKit
set_option maxRecDepth 100000
set_option maxHeartbeats 4000000

theorem emod_bd {x n hi : Int} (h : 1 < n) (h1 : n - 1 ≤ hi) : 0 ≤ x % n ∧ x % n ≤ hi :=
  ⟨Int.emod_nonneg _ (by omega), by have := Int.emod_lt_of_pos x (show 0 < n by omega); omega⟩
theorem pick_ty (X : DX) (B N hi : Int) (w : World) (hC : Cur w X B) (hB : B ≤ 1125899906842624) (hN : N ≤ 1099511627776) (h0 : 0 ≤ hi) (h1 : N - 1 ≤ hi) :
    Calls Tryz.prog 45 #[.pointer (some ⟨X.g, 0, none⟩), .int .i64 N] w (Drawn X (B + 2) w (.int 0 hi)) := by
  go_enter Tryz.func45, Tryz.ntmps45
  by_cases hle : N ≤ 1
  · have hd : decide (N ≤ 1) = true := decide_eq_true hle
    go_wp2
    go_returns
    exact ⟨_, rfl, below_grown (Below.refl _ _) _, hC.le (by omega), 0, rfl, by omega, by omega⟩
  · have hd : decide (N ≤ 1) = false := decide_eq_false hle
    have hdiv : ¬ N = 0 := by omega
    by_cases hbig : 200 < N
    · have hd2 : decide (200 < N) = true := decide_eq_true hbig
      go_wp2_with (first
        | (go_at_call 55; refine (next_ty X (B + 1) _ (by assumption) (by omega)).mono ?_; rintro e w' ⟨v, rfl, hg2, hC2, x2, rfl, x20, x21⟩)
        | (go_at_call 55; refine (next_ty X B _ (by assumption) (by omega)).mono ?_; rintro e w' ⟨v, rfl, hg1, hC1, x1, rfl, x10, x11⟩))
      go_returns
      exact ⟨_, rfl, hg1.trans hg2, hC2.le (by omega), _, rfl, emod_bd (by omega) (by omega)⟩
    · have hd2 : decide (200 < N) = false := decide_eq_false hbig
      go_wp2_with (go_at_call 55; refine (next_ty X B _ (by assumption) (by omega)).mono ?_; rintro e w' ⟨v, rfl, hg1, hC1, x1, rfl, x10, x11⟩)
      go_returns
      exact ⟨_, rfl, hg1, hC1.le (by omega), _, rfl, emod_bd (by omega) (by omega)⟩
theorem one_ty (X : DX) (B N : Int) (w : World) (hC : Cur w X B) (hB : B ≤ 1125899906842624) (hN : N ≤ 1099511627776) :
    Calls Tryz.prog 32 #[.pointer (some ⟨X.g, 0, none⟩), .int .i64 N] w (Drawn X (B + 2) w .bool) := by
  go_enter Tryz.func32, Tryz.ntmps32
  go_wp2_with (go_at_call 45; refine (pick_ty X B N 1099511627776 _ (by assumption) (by omega) (by omega) (by omega) (by omega)).mono ?_; rintro e w' ⟨v, rfl, hg1, hC1, x1, rfl, x10, x11⟩)
  go_returns
  exact ⟨_, rfl, hg1, hC1, _, rfl⟩
theorem among_ty (X : DX) (B : Int) (w : World) (hC : Cur w X B) (hB : B ≤ 1125899906842624) {b m c : Nat} (hG : Good w b 3 c) (hb : b ≠ X.g) (hm : 0 < m) (hmc : m ≤ c) (hbig : m ≤ 1048576) :
    Calls Tryz.prog 31 #[.pointer (some ⟨X.g, 0, none⟩), .slice (some ⟨b, 0, none⟩) m c] w (Drawn X (B + 2) w (.int (-9223372036854775808) 9223372036854775807)) := by
  go_enter Tryz.func31, Tryz.ntmps31
  go_upto_region 1 with fail
  go_wp2_with (go_at_call 45; refine (pick_ty X B (m : Int) ((m : Int) - 1) _ (by assumption) (by omega) (by omega) (by omega) (by omega)).mono ?_; rintro e w' ⟨v, rfl, hg1, hC1, x1, rfl, x10, x11⟩; obtain ⟨k, rfl⟩ : ∃ k : Nat, x1 = (k : Int) := ⟨x1.toNat, by omega⟩; have hlt : k < m := (by omega); have hG1 : Good w' b 3 c := hG.of_eq (hg1.block b hG.lt (fun e => hb (by cases e; rfl))); obtain ⟨y, hy, y0, y1⟩ := hG1.cell (j := k) (by omega))
  go_returns
  exact ⟨_, rfl, hg1, hC1, y, rfl, y0, y1⟩
end Go.Proofs.YtcebbmikgpipeaaGreatDoor
