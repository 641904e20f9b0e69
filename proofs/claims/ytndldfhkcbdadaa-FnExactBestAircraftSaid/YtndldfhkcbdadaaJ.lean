/-
  FnExactBestAircraft, walked. Conditions: none beyond the layout of its arguments.
-/
import Derived.Test.YtndldfhkcbdadaaI
namespace Go.Proofs.Ytndldfhkcbdadaa
open Go.RowKit
set_option maxRecDepth 100000
set_option maxHeartbeats 4000000

theorem acr_rd {w : World} {g n : Nat} {t : TypeId} {zs : List AircraftT} (h : Bk w g t (acrF zs)) (hl : zs.length = n) : Rd w 5 (some ⟨g, 0, none⟩) n (acrF zs) := h.rd (by rw [acrF_len, hl])
theorem fnExactBestAircraft_walk (A : Option Addr) (n c : Nat) (zs : List AircraftT) (b : Int × Int × Int) (w : World) (hr : Rd w 5 A n (acrF zs)) (hl : zs.length = n) (hn : n ≤ 9223372036854775807) (_ok : ∀ z ∈ zs, I64 z.1 ∧ I64 z.2.1 ∧ I64 z.2.2.1 ∧ I64 z.2.2.2.1 ∧ I64 z.2.2.2.2) (_h' : I64 b.1 ∧ I64 b.2.1 ∧ I64 b.2.2) : Calls Try.prog 5 #[.slice A n c, .agg #[.int .i64 b.1, .int .i64 b.2.1, .int .i64 b.2.2]] w fun e w' => e = .returned (.bool true) ∧ Below w.heap.size w w' := by
  obtain ⟨wa, le, ba⟩ := b
  dsimp only at *
  clear _ok _h'
  go_enter Try.func5, Try.ntmps5
  go_upto_region 1 with fail
  refine wp_gen (fun w0 => Bk w0 w.heap.size 25 [.int .i64 wa, .int .i64 le, .int .i64 ba] ∧ Below w.heap.size w w0) ⟨Bk.new' rfl, by (repeat' (first | (with_reducible exact Below.refl _ _) | (with_reducible assumption) | (with_reducible refine balloc ?_ _) | (with_reducible refine bdrew ?_) | (with_reducible refine bdrewN ?_ _) | (with_reducible refine bstep ?_ (by assumption)) | (with_reducible refine bset ?_ ?_ _) | (exact Below.size (by assumption)) | go_size))⟩ ?_
  intro w0 ⟨hy, hW⟩
  have hr := hr.below hW
  by_cases hbig : n ≤ 1048576
  · obtain ⟨q, hq⟩ : ∃ q, baQ zs wa le ba = q := ⟨_, rfl⟩
    obtain ⟨I, hI⟩ : ∃ q, baI zs wa le ba = q := ⟨_, rfl⟩
    obtain ⟨M, hM⟩ : ∃ q, baM zs wa le ba = q := ⟨_, rfl⟩
    have HQ := Lib.hid hq
    have HI := Lib.hid hI
    have HM := Lib.hid hM
    have hs : 0 ≤ szI n 1048576 := by unfold szI; split <;> omega
    clear hq hI hM
    go_wp2_with fail
    refine (szAircraftS_any A n c 1048576 _ (by omega) (by omega)).mono ?_
    rintro e w1 ⟨rfl, rfl⟩
    obtain ⟨y0, y1, y2, yl⟩ := three_cells hy
    go_upto_region 5 with fail
    go_cut [6, 7, 8] (fun s6 s7 s8 wx => s6 = .int .i64 I ∧ s7 = .int .i64 M ∧ s8 = .bool q ∧ Below w0.heap.size w0 wx)
    case first =>
      go_region_with (first
        | (go_at_call 20; refine (toAircraftS_any A n c zs _ (hr.below (show Below w0.heap.size w0 _ from by (repeat' (first | (with_reducible exact Below.refl _ _) | (with_reducible assumption) | (with_reducible refine balloc ?_ _) | (with_reducible refine bdrew ?_) | (with_reducible refine bdrewN ?_ _) | (with_reducible refine bstep ?_ (by assumption)) | (with_reducible refine bset ?_ ?_ _) | (exact Below.size (by assumption)) | go_size)))) hl (by omega)).mono ?_; rintro e w' ⟨g1, rfl, hg1, hB1, hb⟩; have B : Below w0.heap.size w0 w' := bstep (by (repeat' (first | (with_reducible exact Below.refl _ _) | (with_reducible assumption) | (with_reducible refine balloc ?_ _) | (with_reducible refine bdrew ?_) | (with_reducible refine bdrewN ?_ _) | (with_reducible refine bstep ?_ (by assumption)) | (with_reducible refine bset ?_ ?_ _) | (exact Below.size (by assumption)) | go_size))) hb; clear y0 y1 y2 yl; obtain ⟨y0, y1, y2, yl⟩ := three_cells (hy.below B hy.lt))
        | (go_at_call 11; refine (toTarget_any _ _ _ _).mono ?_; rintro e w' ⟨rfl, hb2⟩; have B : Below w0.heap.size w0 w' := bstep (by (repeat' (first | (with_reducible exact Below.refl _ _) | (with_reducible assumption) | (with_reducible refine balloc ?_ _) | (with_reducible refine bdrew ?_) | (with_reducible refine bdrewN ?_ _) | (with_reducible refine bstep ?_ (by assumption)) | (with_reducible refine bset ?_ ?_ _) | (exact Below.size (by assumption)) | go_size))) hb2; clear y0 y1 y2 yl; obtain ⟨y0, y1, y2, yl⟩ := three_cells (hy.below B hy.lt))
        | (go_at_call 19; refine (sBest_is HQ.out HI.out HM.out _ (acr_rd (by first | exact hB1 | exact hB1.below hb2 hB1.lt) hl) hl hbig).mono ?_; rintro e w' ⟨rfl, hb⟩; have B : Below w0.heap.size w0 w' := bstep (by (repeat' (first | (with_reducible exact Below.refl _ _) | (with_reducible assumption) | (with_reducible refine balloc ?_ _) | (with_reducible refine bdrew ?_) | (with_reducible refine bdrewN ?_ _) | (with_reducible refine bstep ?_ (by assumption)) | (with_reducible refine bset ?_ ?_ _) | (exact Below.size (by assumption)) | go_size))) hb))
      all_goals ((try go_wp2_with fail); go_meet; exact ⟨rfl, rfl, rfl, B⟩)
    case rest =>
      obtain ⟨rfl, rfl, rfl, b2⟩ := hcut
      clear y0 y1 y2 yl
      go_wp2_with fail
      refine (toAircraftS_any A n c zs _ (hr.below b2) hl (by omega)).mono ?_
      rintro e w3 ⟨g3, rfl, hg3, hB3, hb3⟩
      have b3 := bstep b2 hb3
      obtain ⟨y0, y1, y2, yl⟩ := three_cells (hy.below b3 hy.lt)
      go_wp2_with fail
      refine (toTarget_any _ _ _ _).mono ?_
      rintro e w4 ⟨rfl, hb4⟩
      have b4 := bstep b3 hb4
      have hB4 := hB3.below hb4 hB3.lt
      clear y0 y1 y2 yl
      go_wp2_with fail
      refine (Best_is HQ.out HI.out HM.out _ (acr_rd hB4 hl) hl hbig).mono ?_
      rintro e w5 ⟨rfl, hb5⟩
      have b5 := bstep b4 hb5
      have hB5 := hB4.below hb5 hB4.lt
      go_wp2_with fail
      refine (toAircraftS_any A n c zs _ (hr.below b5) hl (by omega)).mono ?_
      rintro e w6 ⟨g6, rfl, hg6, hB6, hb6⟩
      have b6 := bstep b5 hb6
      have hB5 := hB5.below hb6 hB5.lt
      go_wp2_with fail
      refine (eqAircraftS_same _ _ n n n zs _ (acr_rd hB5 hl) (acr_rd hB6 hl) hl (by omega)).mono ?_
      rintro e w7 ⟨rfl, hb7⟩
      go_wp2
      go_returns
      exact ⟨rfl, bstep hW (bstep b6 hb7)⟩
  · have hs : szI n 1048576 < 0 := by unfold szI; split <;> omega
    go_wp2_with fail
    refine (szAircraftS_any A n c 1048576 _ (by omega) (by omega)).mono ?_
    rintro e w1 ⟨rfl, rfl⟩
    go_wp2
    go_returns
    exact ⟨rfl, hW⟩
end Go.Proofs.Ytndldfhkcbdadaa
