/-
  TotalSmoke of the reference and of the program. Conditions: lengths within the bound of a slice.
-/
import Derived.Test.YtebfphpmdkagpaaB
namespace Go.Proofs.Ytebfphpmdkagpaa
open Go.RowKit
set_option maxRecDepth 100000
set_option maxHeartbeats 1000000

theorem grms_bd {zs : List Int} (h : zs.all grmP = true) : ∀ x ∈ zs, 0 ≤ x ∧ x ≤ 10000 := fun x hx => grm_bd (List.all_eq_true.1 h x hx)
theorem smB_all {W H : Int} {zs : List Int} (h : smB W H zs = true) : zs.all grmP = true := by simp only [smB, Bool.and_eq_true] at h; exact h.2.2
theorem l19Total_any (W H : Int) (A : Option Addr) (n c : Nat) (zs : List Int) (w : World) (hr : Rd w 1 A n (ints zs)) (hl : zs.length = n) (hn : n ≤ 140737488355) (hb : ∀ x ∈ zs, 0 ≤ x ∧ x ≤ 10000) :
    Calls Try.prog 38 #[.agg #[.int .i64 W, .int .i64 H, .slice A n c]] w fun e w' => e = .returned (.int .i64 (sumL zs)) ∧ Below w.heap.size w w' := by
  go_enter Try.func38, Try.ntmps38
  go_wp2
  go_loopw [3, 4] (fun s i wr => ∃ k : Nat, k ≤ n ∧ i = .int .i64 k ∧ s = .int .i64 (sumL (zs.take k)) ∧ Bk wr w.heap.size 27 [.int .i64 W, .int .i64 H, .slice A n c] ∧ Below w.heap.size w wr) (fun _ i _ => n - (intOf i).toNat)
  case atStart => exact ⟨0, Nat.zero_le _, rfl, rfl, Bk.new' rfl, by (repeat' (first | (with_reducible exact Below.refl _ _) | (with_reducible assumption) | (with_reducible refine balloc ?_ _) | (with_reducible refine bdrew ?_) | (with_reducible refine bdrewN ?_ _) | (with_reducible refine bstep ?_ (by assumption)) | (with_reducible refine bset ?_ ?_ _) | (exact Below.size (by assumption)) | go_size))⟩
  case round =>
    obtain ⟨k, hk, rfl, rfl, hX, hW⟩ := hrel
    obtain ⟨_, _, x2, xl⟩ := three_cells hX
    have HX := Lib.hid hX
    clear hX
    by_cases hlt : k < n
    · obtain ⟨b, off, x, rfl, hbl, hz, c0⟩ := ints_at hr hW hl hlt
      have hk2 : k < zs.length := by omega
      have hx := hb x (hz ▸ List.getElem_mem hk2)
      have hst := sumL_take hk2 hz
      have hbd := sumL_take_bd (by omega) hb k
      rw [hl] at hbd
      obtain ⟨u, hu⟩ : ∃ u, sumL (zs.take k) = u := ⟨_, rfl⟩
      rw [hu] at hst hbd ⊢
      have HS := Lib.hid hst
      have i1 : (0 : Int) ≤ (k : Int) := by omega
      have i2 : (k : Int) < (n : Int) := by omega
      have s1 : b < wr.heap.size := Nat.lt_of_lt_of_le hbl hW.size
      clear hz hst hu
      go_wp2
      go_roundw
      case rel => exact ⟨k + 1, by omega, by go_num, by rw [HS.out], HX.out, by (repeat' (first | (with_reducible exact Below.refl _ _) | (with_reducible assumption) | (with_reducible refine balloc ?_ _) | (with_reducible refine bdrew ?_) | (with_reducible refine bdrewN ?_ _) | (with_reducible refine bstep ?_ (by assumption)) | (with_reducible refine bset ?_ ?_ _) | (exact Below.size (by assumption)) | go_size))⟩
      case measure => simp [intOf]; omega
    · have hkn : k = n := by omega
      have h1 : zs.take k = zs := List.take_of_length_le (by omega)
      rw [h1]
      go_wp2
      go_returns
      exact ⟨rfl, hW⟩
def totI (W H : Int) (zs : List Int) : Int := if smB W H zs = true then sumL zs else 0
theorem sTotal_is {q : Bool} {I W H : Int} {A : Option Addr} {n c : Nat} {zs : List Int} (hq : smB W H zs = q) (hI : totI W H zs = I) (w : World) (hr : Rd w 1 A n (ints zs)) (hl : zs.length = n) (hn : n ≤ 1048576) :
    Calls Try.prog 14 #[.agg #[.int .i64 W, .int .i64 H, .slice A n c]] w fun e w' => e = .returned (.tuple #[.int .i64 I, .bool q]) ∧ Below w.heap.size w w' := by
  have hG := fun W0 (hW : Below w.heap.size w W0) => l19Good_is (A := A) (c := c) hq W0 (hr.below hW) hl (by omega)
  go_enter Try.func14, Try.ntmps14
  cases q
  · obtain rfl : (0 : Int) = I := by rw [← hI]; simp [totI, hq]
    clear hI hq
    go_wp2_with (first | (go_at_call 33; refine (hG _ (balloc (Below.refl _ _) _)).mono ?_; rintro e w' ⟨rfl, hb⟩; (try clear cW fW zW); (first | (have bW := bstep bW hb) | (have bW := bstep (bdrew bW) hb) | (have bW := bstep (balloc bW _) hb) | (have bW := bstep (bdrewN bW _) hb) | (have bW := hb)); clear hb; obtain ⟨cW, fW⟩ := bcell bW; have zW := bsize bW))
    go_returns
    exact ⟨rfl, by (repeat' (first | (with_reducible exact Below.refl _ _) | (with_reducible assumption) | (with_reducible refine balloc ?_ _) | (with_reducible refine bdrew ?_) | (with_reducible refine bdrewN ?_ _) | (with_reducible refine bstep ?_ (by assumption)) | (with_reducible refine bset ?_ ?_ _) | (exact Below.size (by assumption)) | go_size))⟩
  · have hT := fun W0 (hW : Below w.heap.size w W0) => l19Total_any W H A n c zs W0 (hr.below hW) hl (by omega) (grms_bd (smB_all hq))
    obtain rfl : sumL zs = I := by rw [← hI]; simp [totI, hq]
    obtain ⟨I, hI2⟩ : ∃ I, sumL zs = I := ⟨_, rfl⟩
    rw [hI2] at hT ⊢
    clear hI hq hI2
    have HG := Lib.hid hG
    have HT := Lib.hid hT
    clear hG hT
    have hX := Bk.new w 27 [.int .i64 W, .int .i64 H, .slice A n c]
    go_wp2_with fail
    refine (HG.out _ (balloc (Below.refl _ _) _)).mono ?_
    rintro e w1 ⟨rfl, hb1⟩
    have b1 := bstep (balloc (Below.refl _ _) _) hb1
    obtain ⟨x0, x1, x2, xl⟩ := three_cells (hX.below hb1 hX.lt)
    go_wp2_with fail
    refine (HT.out _ b1).mono ?_
    rintro e w2 ⟨rfl, hb2⟩
    go_wp2
    go_returns
    exact ⟨rfl, bstep b1 hb2⟩
theorem Total_is {q : Bool} {I W H : Int} {A : Option Addr} {n c : Nat} {zs : List Int} (hq : smB W H zs = q) (hI : totI W H zs = I) (w : World) (hr : Rd w 1 A n (ints zs)) (hl : zs.length = n) (hn : n ≤ 1048576) :
    Calls Try.prog 15 #[.agg #[.int .i64 W, .int .i64 H, .slice A n c]] w fun e w' => e = .returned (.tuple #[.int .i64 I, .bool q]) ∧ Below w.heap.size w w' := by
  have hG := fun W0 (hW : Below w.heap.size w W0) => IsSmoke_is (A := A) (c := c) hq W0 (hr.below hW) hl (by omega)
  go_enter Try.func15, Try.ntmps15
  cases q
  · obtain rfl : (0 : Int) = I := by rw [← hI]; simp [totI, hq]
    clear hI hq
    go_wp2_with (first | (go_at_call 12; refine (hG _ (balloc (Below.refl _ _) _)).mono ?_; rintro e w' ⟨rfl, hb⟩; (try clear cW fW zW); (first | (have bW := bstep bW hb) | (have bW := bstep (bdrew bW) hb) | (have bW := bstep (balloc bW _) hb) | (have bW := bstep (bdrewN bW _) hb) | (have bW := hb)); clear hb; obtain ⟨cW, fW⟩ := bcell bW; have zW := bsize bW))
    go_returns
    exact ⟨rfl, by (repeat' (first | (with_reducible exact Below.refl _ _) | (with_reducible assumption) | (with_reducible refine balloc ?_ _) | (with_reducible refine bdrew ?_) | (with_reducible refine bdrewN ?_ _) | (with_reducible refine bstep ?_ (by assumption)) | (with_reducible refine bset ?_ ?_ _) | (exact Below.size (by assumption)) | go_size))⟩
  · have hT := fun W0 (hW : Below w.heap.size w W0) => sum_any A n c zs W0 (hr.below hW) hl (by omega) (grms_bd (smB_all hq))
    obtain rfl : sumL zs = I := by rw [← hI]; simp [totI, hq]
    obtain ⟨I, hI2⟩ : ∃ I, sumL zs = I := ⟨_, rfl⟩
    rw [hI2] at hT ⊢
    clear hI hq hI2
    have HG := Lib.hid hG
    have HT := Lib.hid hT
    clear hG hT
    have hX := Bk.new w 27 [.int .i64 W, .int .i64 H, .slice A n c]
    go_wp2_with fail
    refine (HG.out _ (balloc (Below.refl _ _) _)).mono ?_
    rintro e w1 ⟨rfl, hb1⟩
    have b1 := bstep (balloc (Below.refl _ _) _) hb1
    obtain ⟨x0, x1, x2, xl⟩ := three_cells (hX.below hb1 hX.lt)
    go_wp2_with fail
    refine (HT.out _ b1).mono ?_
    rintro e w2 ⟨rfl, hb2⟩
    go_wp2
    go_returns
    exact ⟨rfl, bstep b1 hb2⟩
end Go.Proofs.Ytebfphpmdkagpaa
