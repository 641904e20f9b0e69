/-
  The law FnExactIsSeries walked over the contracts. Conditions: the bounds that a slice of the given length has.
-/
import Derived.Test.YtgmofnceheapmaaW
namespace Go.Proofs.Ytgmofnceheapmaa
open Go.RowKit
set_option maxHeartbeats 2000000

theorem sit_rd {w : World} {g n : Nat} {t : TypeId} {zs : List SituationT} (h : Bk w g t (sitF zs)) (hl : zs.length = n) : Rd w 6 (some ⟨g, 0, none⟩) n (sitF zs) := h.rd (by rw [sitF_len, hl])

theorem fnExactIsSeries_walk (A : Option Addr) (n c : Nat) (zs : List SituationT) (w : World) (hr : Rd w 6 A n (sitF zs)) (hl : zs.length = n) (hn : n ≤ 9223372036854775807) (_ok : ∀ z ∈ zs, I64 z.1 ∧ I64 z.2.1 ∧ I64 z.2.2.1 ∧ I64 z.2.2.2.1 ∧ I64 z.2.2.2.2.1 ∧ I64 z.2.2.2.2.2) :
    Calls Try.prog 5 #[.slice A n c] w fun e w' => e = .returned (.bool true) ∧ Below w.heap.size w w' := by
  go_enter Try.func5, Try.ntmps5
  go_wp2_with fail
  refine (szSituationS_any A n c 1048576 w (by omega) (by omega)).mono ?_
  rintro e w0 ⟨rfl, rfl⟩
  by_cases hbig : n ≤ 1048576
  · have hs : 0 ≤ szI n 1048576 := by unfold szI; split <;> omega
    go_wp2_with fail
    refine (toSituationS_any A n c zs _ hr hl (by omega)).mono ?_
    rintro e w1 ⟨g1, rfl, hg1, hB1, hb1⟩
    go_wp2_with fail
    refine (sIsSeries_any _ n n zs _ (sit_rd hB1 hl) hl (by omega)).mono ?_
    rintro e w2 ⟨rfl, hb2⟩
    have b2 := bstep hb1 hb2
    go_wp2_with fail
    refine (toSituationS_any A n c zs _ (hr.below b2) hl (by omega)).mono ?_
    rintro e w3 ⟨g3, rfl, hg3, hB3, hb3⟩
    have b3 := bstep b2 hb3
    go_wp2_with fail
    refine (IsSeries_any _ n n zs _ (sit_rd hB3 hl) hl (by omega)).mono ?_
    rintro e w4 ⟨rfl, hb4⟩
    have b4 := bstep b3 hb4
    go_wp2_with fail
    refine (toSituationS_any A n c zs _ (hr.below b4) hl (by omega)).mono ?_
    rintro e w5 ⟨g5, rfl, hg5, hB5, hb5⟩
    have b5 := bstep b4 hb5
    go_wp2_with fail
    refine (eqSituationS_same _ _ n n n zs _ ((sit_rd hB3 hl).below (bstep hb4 hb5)) (sit_rd hB5 hl) hl (by omega)).mono ?_
    rintro e w6 ⟨rfl, hb6⟩
    have b6 := bstep b5 hb6
    go_wp2
    go_returns
    exact ⟨rfl, b6⟩
  · have hs : szI n 1048576 < 0 := by unfold szI; split <;> omega
    go_wp2
    go_returns
    exact ⟨rfl, Below.refl _ _⟩
end Go.Proofs.Ytgmofnceheapmaa
