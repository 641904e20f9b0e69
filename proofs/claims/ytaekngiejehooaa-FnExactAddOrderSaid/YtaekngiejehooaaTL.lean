/-
  AddOrder of the program. Conditions: lengths within the bound of a slice.
-/
import Derived.Test.YtaekngiejehooaaTJ
import Derived.Test.YtaekngiejehooaaTK
namespace Go.Proofs.Ytaekngiejehooaa
open Go.RowKit
set_option maxRecDepth 100000
set_option maxHeartbeats 4000000

theorem AddOrder_is {q : Bool} {L : List OrderT} {g n c : Nat} {t : TypeId} {zs : List OrderT} {x0 : Int} {x1 : ByteArray} {x2 x3 x4 : Int} (hq : addR zs (x0, x1, x2, x3, x4) = q) (hL : addL zs (x0, x1, x2, x3, x4) = L) (w : World) (hB : Bk w g t (ordF zs)) (hl : zs.length = n) (hn : n ≤ 1048576) (hz9 : ∀ z ∈ zs, z.2.1.size ≤ maxLen) (hx9 : x1.size ≤ maxLen) :
    Calls Try.prog 29 #[.slice (some ⟨g, 0, none⟩) n c, .agg #[.int .i64 x0, .string x1, .int .i64 x2, .int .i64 x3, .int .i64 x4]] w fun e w' => ∃ v, e = .returned (.tuple #[v, .bool q]) ∧ w'.ownsRow w.heap.size 46 5 v L.length (ordF L) ∧ Below w.heap.size w w' := by
  have HQ := Lib.hid hq
  have HL := Lib.hid hL
  clear hq hL
  have hr := ord_rd hB hl
  go_enter Try.func29, Try.ntmps29
  go_upto_region 1 with fail
  refine wp_gen (fun w0 => Bk w0 w.heap.size 46 [.int .i64 x0, .string x1, .int .i64 x2, .int .i64 x3, .int .i64 x4] ∧ Below w.heap.size w w0) ⟨Bk.new w _ _, by (repeat' (first | (with_reducible exact Below.refl _ _) | (with_reducible assumption) | (with_reducible refine balloc ?_ _) | (with_reducible refine bdrew ?_) | (with_reducible refine bdrewN ?_ _) | (with_reducible refine bstep ?_ (by assumption)) | (with_reducible refine bset ?_ ?_ _) | (exact Below.size (by assumption)) | go_size))⟩ ?_
  intro w0 ⟨hbox, hW⟩
  obtain ⟨k0, k1, k2, k3, k4⟩ := five_cells hbox
  go_wp2_with fail
  refine (inserted_any g n c t zs x0 x1 x2 x3 x4 _ (hB.below hW hB.lt) hl hn hz9 hx9).mono ?_
  rintro e w1 ⟨v, ys, rfl, hown, hyl, hy9, hyp, hb1⟩
  have hW1 := bstep hW hb1
  have hown := own_weaken hown hW.size
  obtain ⟨A', c', rfl, hr', _⟩ := own_rd hown
  clear k0 k1 k2 k3 k4 hbox
  rcases h1 : listedB zs 10 with _ | _
  · have e1 : addR zs (x0, x1, x2, x3, x4) = false := by simp [addR, h1]
    have e2 : addL zs (x0, x1, x2, x3, x4) = [] := by simp [addL, e1]
    obtain rfl := e1.symm.trans HQ.out
    obtain rfl := e2.symm.trans HL.out
    go_wp2_with fail
    refine (AreOrders_of (c := c) h1 _ (hr.below hW1) hl (by omega) hz9).mono ?_
    rintro e w2 ⟨rfl, hb2⟩
    go_wp2
    go_returns
    exact ⟨_, rfl, World.ownsRow_nil _ _ _ _, bstep hW1 hb2⟩
  · have hs := sorted_is (x := (x0, x1, x2, x3, x4)) (ys := ys) h1 (fun h => hyp (by omega))
    have HS := Lib.hid hs
    clear hs
    have ha : addR zs (x0, x1, x2, x3, x4) = listedB ys 10 := by rw [HS.out.1]; simp [addR, h1]
    go_wp2_with fail
    refine (AreOrders_of (c := c) h1 _ (hr.below hW1) hl (by omega) hz9).mono ?_
    rintro e w2 ⟨rfl, hb2⟩
    have hW2 := bstep hW1 hb2
    rcases h2 : listedB ys 10 with _ | _
    · have e1 : addR zs (x0, x1, x2, x3, x4) = false := by rw [ha, h2]
      have e2 : addL zs (x0, x1, x2, x3, x4) = [] := by simp [addL, e1]
      obtain rfl := e1.symm.trans HQ.out
      obtain rfl := e2.symm.trans HL.out
      clear ha e1 e2
      go_wp2_with fail
      refine (AreOrders_of (c := c') h2 _ (hr'.below hb2) hyl (by omega) hy9).mono ?_
      rintro e w3 ⟨rfl, hb3⟩
      go_wp2
      go_returns
      exact ⟨_, rfl, World.ownsRow_nil _ _ _ _, bstep hW2 hb3⟩
    · have e1 : addR zs (x0, x1, x2, x3, x4) = true := by rw [ha, h2]
      have e2 : addL zs (x0, x1, x2, x3, x4) = ys := by
        rw [HS.out.2 (by rw [← HS.out.1, h2])]
        simp [addL, e1]
      obtain rfl := e1.symm.trans HQ.out
      have HE := Lib.hid (e2.symm.trans HL.out)
      clear ha e1 e2
      go_wp2_with fail
      refine (AreOrders_of (c := c') h2 _ (hr'.below hb2) hyl (by omega) hy9).mono ?_
      rintro e w3 ⟨rfl, hb3⟩
      go_wp2
      go_returns
      obtain rfl := HE.out
      exact ⟨_, rfl, by rw [hyl]; exact own_below (own_below hown hb2) hb3, bstep hW2 hb3⟩
end Go.Proofs.Ytaekngiejehooaa
