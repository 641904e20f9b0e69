/-
  ServeOrders of the reference, whole. Conditions: lengths within the bound of a slice.
-/
import Derived.Test.YtaekngiejehooaaZO
namespace Go.Proofs.Ytaekngiejehooaa
open Go.RowKit
set_option maxRecDepth 100000
set_option maxHeartbeats 4000000

theorem sServeOrders_is {q : Bool} {R : StT} {g n c gs m : Nat} {t ts : TypeId} {zs : List OrderT} {S : List StockT} (hq : srvQ zs S = q) (hR : srvS zs S = R) (w : World) (hB : Bk w g t (ordF zs)) (hl : zs.length = n) (hBs : Bk w gs ts (stkF S)) (hls : S.length = m) (hn : n ≤ 1048577) (hm : m ≤ 1048577) (hz9 : ∀ z ∈ zs, z.2.1.size ≤ maxLen) (hs9 : ∀ z ∈ S, z.1.size ≤ maxLen) :
    Calls Try.prog 35 #[.slice (some ⟨g, 0, none⟩) n c, .slice (some ⟨gs, 0, none⟩) m m] w fun e w' => ∃ v1 v2, e = .returned (.tuple #[v1, v2, .bool q]) ∧ w'.ownsRow w.heap.size 3 1 v1 R.1.length (ints R.1) ∧ w'.ownsRow w.heap.size 61 2 v2 R.2.length (stkF R.2) ∧ apart2 v1 v2 ∧ Below w.heap.size w w' := by
  have HQ := Lib.hid hq
  have HR := Lib.hid hR
  have hr := ord_rd hB hl
  have hrs := stk_rd hBs hls
  obtain ⟨qa, hqa⟩ : ∃ qa, listedB zs 10 = qa := ⟨_, rfl⟩
  obtain ⟨qb, hqb⟩ : ∃ qb, storeB S = qb := ⟨_, rfl⟩
  have hqq : (qa && qb) = q := by rw [← hq, ← hqa, ← hqb]; rfl
  have hgood := l15Good_of (c := c) hqa w hr hl (by omega) hz9
  have hstor := fun W (hW : Below w.heap.size w W) => l15Store_is (c := m) hqb W (hrs.below hW) hls (by omega) hs9
  have HA := Lib.hid hqa
  have HB := Lib.hid hqb
  clear hq hR hqa hqb
  go_enter Try.func35, Try.ntmps35
  go_wp2_with fail
  refine hgood.mono ?_
  rintro e w1 ⟨rfl, b1⟩
  clear hgood
  rcases qa with _ | _
  · obtain rfl : q = false := hqq.symm
    obtain rfl : R = ([], []) := by rw [← HR.out]; exact srvS_no HQ.out
    go_wp2
    go_returns
    exact ⟨_, _, rfl, own_alloc (own_lit' rfl b1.size) _, own_lit' (by simp) (by have := b1.size; simp; omega), apart_of (by simp), by (repeat' (first | (with_reducible exact Below.refl _ _) | (with_reducible assumption) | (with_reducible refine balloc ?_ _) | (with_reducible refine bdrew ?_) | (with_reducible refine bdrewN ?_ _) | (with_reducible refine bstep ?_ (by assumption)) | (with_reducible refine bset ?_ ?_ _) | (exact Below.size (by assumption)) | go_size))⟩
  go_wp2_with fail
  refine (hstor _ b1).mono ?_
  rintro e w2 ⟨rfl, hb2⟩
  have b2 := bstep b1 hb2
  clear hstor
  rcases qb with _ | _
  · obtain rfl : q = false := hqq.symm
    obtain rfl : R = ([], []) := by rw [← HR.out]; exact srvS_no HQ.out
    go_wp2
    go_returns
    exact ⟨_, _, rfl, own_alloc (own_lit' rfl b2.size) _, own_lit' (by simp) (by have := b2.size; simp; omega), apart_of (by simp), by (repeat' (first | (with_reducible exact Below.refl _ _) | (with_reducible assumption) | (with_reducible refine balloc ?_ _) | (with_reducible refine bdrew ?_) | (with_reducible refine bdrewN ?_ _) | (with_reducible refine bstep ?_ (by assumption)) | (with_reducible refine bset ?_ ?_ _) | (exact Below.size (by assumption)) | go_size))⟩
  obtain rfl : q = true := hqq.symm
  have hR2 : stF zs (quO zs) (List.replicate n 0, S) n = R := by rw [← HR.out]; unfold srvS; rw [if_pos HQ.out, hl]
  have hiv := srv_inv HQ.out
  rw [HR.out] at hiv
  have hl1 : R.1.length = n := by rw [hiv.1, hl]
  have hl2 : R.2.length = m := by rw [inv_len hiv, hls]
  have HL1 := Lib.hid hl1
  have HL2 := Lib.hid hl2
  go_wp2_with fail
  refine (l15Serve_is HA.out HB.out rfl hR2 _ (hB.below b2 hB.lt) hl (hBs.below b2 hBs.lt) hls).mono ?_
  rintro e w3 ⟨gG, gS, cp, sp, rfl, k1, k2, k3, hG, hS, k4, k5, k6, hb3⟩
  have o1 := bk_own (base := w.heap.size) (n := n) (k := 1) (cap := n) (xs := ints R.1) (Nat.le_trans b2.size k1) hG (Nat.le_refl _) (by unfold maxLen; omega) (by rw [ints_length, hl1]; omega) (by rw [Nat.mul_one]; exact List.take_of_length_le (by rw [ints_length, hl1]; exact Nat.le_refl _))
  have o2 := bk_own (base := w.heap.size) (n := m) (k := 2) (xs := stkF R.2) (Nat.le_trans b2.size k2) hS k4 k5 k6 (by
    rw [List.take_append_of_le_length (by rw [stkF_len, hl2]; exact Nat.le_refl _)]
    exact List.take_of_length_le (by rw [stkF_len, hl2]; exact Nat.le_refl _))
  have O1 := Lib.hid o1
  have O2 := Lib.hid o2
  clear o1 o2 hG hS hl1 hl2 hiv hR2
  go_wp2
  go_returns
  exact ⟨_, _, rfl, by rw [HL1.out]; exact O1.out, by rw [HL2.out]; exact O2.out, apart_of k3, bstep b2 hb3⟩
end Go.Proofs.Ytaekngiejehooaa
