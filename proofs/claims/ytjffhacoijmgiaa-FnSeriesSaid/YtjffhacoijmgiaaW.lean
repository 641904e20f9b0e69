/-
  IsSeries of the program returns the same condition on the list. Conditions: lengths within the bound of a slice.
-/
import Derived.Test.YtjffhacoijmgiaaV
import Derived.ChangeAlike
namespace Go.Proofs.Ytjffhacoijmgiaa
open Go.RowKit
set_option maxHeartbeats 4000000

theorem IsSeries_any (A : Option Addr) (n c : Nat) (zs : List SituationT) (w : World) (hr : Rd w 6 A n (sitF zs)) (hl : zs.length = n) (hn : n ≤ 140737488355328) :
    Calls Try.prog 9 #[.slice A n c] w fun e w' => e = .returned (.bool (seriesB zs)) ∧ Below w.heap.size w w' := by
  go_enter Try.func9, Try.ntmps9
  go_wp2
  go_loopw [3] (fun i wr => ∃ k : Nat, (k ≤ n ∨ k = 1) ∧ 1 ≤ k ∧ i = .int .i64 k ∧ Hid (∀ j, j < k → okM zs j) ∧ Below w.heap.size w wr) (fun i _ => n - (intOf i).toNat)
  case atStart => exact ⟨1, .inr rfl, Nat.le_refl _, rfl, fun j hj hjl h => by omega, Below.refl _ _⟩
  case round =>
    obtain ⟨k, hk, hk1, rfl, hO, hW⟩ := hrel
    have hk9 : k ≤ 140737488355328 := by omega
    by_cases hlt : k < n
    · have hsz := hW.size
      clear hk
      obtain ⟨b, off, rfl, hbl, x0, x1, x2, x3, x4, x5, hz, c0, c1, c2, c3, c4, c5⟩ := sit_at hr hW hl hlt
      have s1 : b < wr.heap.size := Nat.lt_of_lt_of_le hbl hW.size
      have HZ := Lib.hid hz
      clear hz
      obtain ⟨q, rfl⟩ : ∃ q, k = q + 1 := ⟨k - 1, by omega⟩
      obtain ⟨b', off', hbe, hbl', y0, y1, y2, y3, y4, y5, hy, d0, d1, d2, d3, d4, d5⟩ := sit_at (k := q) hr hW hl (by omega)
      simp only [Option.some.injEq, Addr.mk.injEq, and_true] at hbe
      obtain ⟨rfl, rfl⟩ := hbe
      have HY := Lib.hid hy
      clear hy
      have i1 : (q : Int) < (n : Int) := by omega
      by_cases hgood : y1 ≤ x1 ∧ y2 ≤ x2 ∧ y5 ≤ x5
      · obtain ⟨p1, p2, p3⟩ := hgood
        have g2 : decide (x1 < y1) = false := by simp; omega
        have g3 : decide (x2 < y2) = false := by simp; omega
        have g4 : decide (x5 < y5) = false := by simp; omega
        go_wp2
        go_region
        all_goals
          go_wp2
          go_roundw
          case rel =>
            refine ⟨q + 1 + 1, by omega, by omega, by go_num, (show Hid _ from fun j hj => ?_), by (repeat' (first | (with_reducible exact Below.refl _ _) | (with_reducible assumption) | (with_reducible refine balloc ?_ _) | (with_reducible refine bdrew ?_) | (with_reducible refine bdrewN ?_ _) | (with_reducible refine bstep ?_ (by assumption)) | (with_reducible refine bset ?_ ?_ _) | (exact Below.size (by assumption)) | go_size))⟩
            by_cases h2 : j < q + 1
            · exact hO.out j h2
            · have h3 : j = q + 1 := by omega
              subst h3
              have h4 := HY.out
              intro hjl _
              simp only [Nat.add_sub_cancel, h4]
              rw [HZ.out]
              exact ⟨p1, p2, p3⟩
          case measure => simp [intOf]; omega
      · have hd : seriesB zs = false := seriesB_false (k := q + 1) (by omega) (fun h => by
          have h3 := h.2 (by omega) (by omega)
          rw [HZ.out] at h3
          have h2 := HY.out
          simp only [Nat.add_sub_cancel, h2] at h3
          exact hgood h3)
        have HD := Lib.hid hd
        clear hd
        by_cases p1 : x1 < y1
        · have g2 : decide (x1 < y1) = true := by simp [p1]
          clear hgood
          go_wp2
          go_region
          all_goals
            go_wp2
            go_ret
            exact ⟨by rw [HD.out]; rfl, by (repeat' (first | (with_reducible exact Below.refl _ _) | (with_reducible assumption) | (with_reducible refine balloc ?_ _) | (with_reducible refine bdrew ?_) | (with_reducible refine bdrewN ?_ _) | (with_reducible refine bstep ?_ (by assumption)) | (with_reducible refine bset ?_ ?_ _) | (exact Below.size (by assumption)) | go_size))⟩
        · have g2 : decide (x1 < y1) = false := by simp; omega
          by_cases p2 : x2 < y2
          · have g3 : decide (x2 < y2) = true := by simp [p2]
            clear hgood p1
            go_wp2
            go_region
            all_goals
              go_wp2
              go_ret
              exact ⟨by rw [HD.out]; rfl, by (repeat' (first | (with_reducible exact Below.refl _ _) | (with_reducible assumption) | (with_reducible refine balloc ?_ _) | (with_reducible refine bdrew ?_) | (with_reducible refine bdrewN ?_ _) | (with_reducible refine bstep ?_ (by assumption)) | (with_reducible refine bset ?_ ?_ _) | (exact Below.size (by assumption)) | go_size))⟩
          · have g3 : decide (x2 < y2) = false := by simp; omega
            have g4 : decide (x5 < y5) = true := by simp; omega
            clear hgood p1 p2
            go_wp2
            go_region
            all_goals
              go_wp2
              go_ret
              exact ⟨by rw [HD.out]; rfl, by (repeat' (first | (with_reducible exact Below.refl _ _) | (with_reducible assumption) | (with_reducible refine balloc ?_ _) | (with_reducible refine bdrew ?_) | (with_reducible refine bdrewN ?_ _) | (with_reducible refine bstep ?_ (by assumption)) | (with_reducible refine bset ?_ ?_ _) | (exact Below.size (by assumption)) | go_size))⟩
    · have HM : ∀ j, j < zs.length → okM zs j := fun j hj => hO.out j (by omega)
      have HS := Lib.hid (seriesB_listed HM)
      clear HM hO
      go_wp2_with (first | (go_at_call 29; refine (areListed_any A n c zs 12 _ (hr.below hW) hl (by omega)).mono ?_; rintro e w' ⟨rfl, hb⟩; (try clear cW fW zW); (first | (have bW := bstep bW hb) | (have bW := bstep (bdrew bW) hb) | (have bW := bstep (balloc bW _) hb) | (have bW := bstep (bdrewN bW _) hb) | (have bW := hb)); clear hb; obtain ⟨cW, fW⟩ := bcell bW; have zW := bsize bW))
      go_ret
      exact ⟨by rw [HS.out]; rfl, by (repeat' (first | (with_reducible exact Below.refl _ _) | (with_reducible assumption) | (with_reducible refine balloc ?_ _) | (with_reducible refine bdrew ?_) | (with_reducible refine bdrewN ?_ _) | (with_reducible refine bstep ?_ (by assumption)) | (with_reducible refine bset ?_ ?_ _) | (exact Below.size (by assumption)) | go_size))⟩
end Go.Proofs.Ytjffhacoijmgiaa
