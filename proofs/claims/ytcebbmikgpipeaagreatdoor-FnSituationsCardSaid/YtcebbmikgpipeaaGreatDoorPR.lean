/-
  The reference's number of a text. Conditions: none.
-/
import Derived.Test.YtcebbmikgpipeaaGreatDoorNU
import Derived.Test.YtcebbmikgpipeaaGreatDoorPS
namespace Go.Proofs.YtcebbmikgpipeaaGreatDoor
open Go Go.RowKit
set_option maxRecDepth 100000
set_option maxHeartbeats 4000000

/-- the text of a whole number -/
def numI (n : Int) : ByteArray := if n < 0 then ({ data := #[45] } : ByteArray) ++ numS n.natAbs else numS n.toNat
theorem l1NumI_is {n : Int} {s : ByteArray} (hs : numI n = s) (hn : -1000000000 ≤ n ∧ n ≤ 1000000000) (w : World) : Calls Tryz.prog 37 #[.int .i64 n] w fun e w' => e = .returned (.string s) ∧ Below w.heap.size w w' := by
  by_cases h0 : n < 0
  · obtain ⟨m, hm⟩ : ∃ m : Nat, n.natAbs = m := ⟨_, rfl⟩
    have i1 : decide (n < 0) = true := decide_eq_true h0
    obtain ⟨sm, hsm⟩ : ∃ s, numS m = s := ⟨_, rfl⟩
    have z1 := numS_size (n := m) (by omega)
    have hs2 : ({ data := #[45] } : ByteArray) ++ sm = s := by rw [← hs]; unfold numI; rw [if_pos h0, hm, hsm]
    have HC := Lib.hid (fun (ki : Int) (hk : ki = (m : Int)) (W : World) => (by subst hk; exact l1Num_is (m + 1) m (Nat.lt_succ_self _) (by omega) sm hsm W : Calls Tryz.prog 37 #[.int .i64 ki] W fun e w' => e = .returned (.string sm) ∧ Below W.heap.size W w'))
    have HE : Hid (-n = (m : Int)) := Lib.hid (by omega)
    rw [hsm] at z1
    have hz : ¬ (9223372036854775807 < 1 + sm.size) := by omega
    have hz2 : ¬ (9223372036854775807 < sm.size + 1) := by omega
    have HS := Lib.hid hs2
    clear hs hs2 hsm hm
    go_enter Tryz.func37, Tryz.ntmps37
    go_wp2_with (go_at_call 37; refine (HC.out _ HE.out _).mono ?_; rintro e w' ⟨rfl, hb⟩)
    go_returns
    exact ⟨by simp [HS.out], hb⟩
  · have e : n = (n.toNat : Int) := by omega
    rw [e]
    exact l1Num_is (n.toNat + 1) n.toNat (Nat.lt_succ_self _) (by omega) s (by rw [← hs]; unfold numI; rw [if_neg h0]) w
end Go.Proofs.YtcebbmikgpipeaaGreatDoor
