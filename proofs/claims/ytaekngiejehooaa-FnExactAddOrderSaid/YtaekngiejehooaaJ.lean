/-
  FnExactAreOrders, walked. Conditions: none beyond the layout of its arguments.
-/
import Derived.Test.YtaekngiejehooaaH
namespace Go.Proofs.Ytaekngiejehooaa
open Go.RowKit
set_option maxRecDepth 100000
set_option maxHeartbeats 2000000

theorem ord_rd {w : World} {g n : Nat} {t : TypeId} {zs : List OrderT} (h : Bk w g t (ordF zs)) (hl : zs.length = n) : Rd w 5 (some ⟨g, 0, none⟩) n (ordF zs) := h.rd (by rw [ordF_len, hl])
theorem fnExactAreOrders_walk (A : Option Addr) (n c : Nat) (zs : List OrderT) (w : World) (hr : Rd w 5 A n (ordF zs)) (hl : zs.length = n) (hn : n ≤ 9223372036854775807) (ok : ∀ z ∈ zs, I64 z.1 ∧ z.2.1.size ≤ maxLen ∧ I64 z.2.2.1 ∧ I64 z.2.2.2.1 ∧ I64 z.2.2.2.2) :
    Calls Try.prog 4 #[.slice A n c] w fun e w' => e = .returned (.bool true) ∧ Below w.heap.size w w' := by
  have hz9 : ∀ z ∈ zs, (z.2.1).size ≤ maxLen := fun z hz => (ok z hz).2.1
  clear ok
  obtain ⟨q, hq⟩ : ∃ q, listedB zs 10 = q := ⟨_, rfl⟩
  have HQ := Lib.hid hq
  clear hq
  go_enter Try.func4, Try.ntmps4
  go_wp2_with fail
  refine (szOrderS_any A n c zs 1048576 w hr hl hn hz9 (by omega)).mono ?_
  rintro e w0 ⟨v, rfl, _, hv, b0⟩
  by_cases hneg : v < 0
  · go_wp2
    go_returns
    exact ⟨rfl, b0⟩
  have hbig := hv (by omega)
  clear hv
  go_wp2_with fail
  refine (toOrderS_any A n c zs _ (hr.below b0) hl (by omega)).mono ?_
  rintro e w1 ⟨g1, rfl, hg1, hB1, hb1⟩
  have b1 := bstep b0 hb1
  go_wp2_with fail
  refine (sAreOrders_of HQ.out _ (ord_rd hB1 hl) hl (by omega) hz9).mono ?_
  rintro e w2 ⟨rfl, hb2⟩
  have b2 := bstep b1 hb2
  go_wp2_with fail
  refine (toOrderS_any A n c zs _ (hr.below b2) hl (by omega)).mono ?_
  rintro e w3 ⟨g3, rfl, hg3, hB3, hb3⟩
  have b3 := bstep b2 hb3
  go_wp2_with fail
  refine (AreOrders_of HQ.out _ (ord_rd hB3 hl) hl (by omega) hz9).mono ?_
  rintro e w4 ⟨rfl, hb4⟩
  have b4 := bstep b3 hb4
  go_wp2_with fail
  refine (toOrderS_any A n c zs _ (hr.below b4) hl (by omega)).mono ?_
  rintro e w5 ⟨g5, rfl, hg5, hB5, hb5⟩
  have b5 := bstep b4 hb5
  go_wp2_with fail
  refine (eqOrderS_same _ _ n n n zs _ ((ord_rd hB3 hl).below (bstep hb4 hb5)) (ord_rd hB5 hl) hl (by omega)).mono ?_
  rintro e w6 ⟨rfl, hb6⟩
  have b6 := bstep b5 hb6
  go_wp2
  go_returns
  exact ⟨rfl, b6⟩
end Go.Proofs.Ytaekngiejehooaa
