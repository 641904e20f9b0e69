/-
  FnExactDropMinutes, walked. Conditions: none.
-/
import Derived.Test.YtndldfhkcbdadaaE
namespace Go.Proofs.Ytndldfhkcbdadaa
open Go.RowKit
set_option maxRecDepth 100000
set_option maxHeartbeats 4000000

theorem fnExactDropMinutes_walk (a : Int × Int × Int × Int × Int) (b : Int × Int × Int) (w : World) (_h : I64 a.1 ∧ I64 a.2.1 ∧ I64 a.2.2.1 ∧ I64 a.2.2.2.1 ∧ I64 a.2.2.2.2) (_h' : I64 b.1 ∧ I64 b.2.1 ∧ I64 b.2.2) : Calls Try.prog 4 #[.agg #[.int .i64 a.1, .int .i64 a.2.1, .int .i64 a.2.2.1, .int .i64 a.2.2.2.1, .int .i64 a.2.2.2.2], .agg #[.int .i64 b.1, .int .i64 b.2.1, .int .i64 b.2.2]] w fun e w' => e = .returned (.bool true) ∧ Below w.heap.size w w' := by
  obtain ⟨i, l, s, f, fi⟩ := a
  obtain ⟨wa, le, ba⟩ := b
  dsimp only at *
  clear _h _h'
  obtain ⟨N, hN⟩ := MD_if i l s f fi wa le ba
  obtain ⟨q, hq⟩ : ∃ q, (acB i l s f fi && tgB wa le ba) = q := ⟨_, rfl⟩
  obtain ⟨L, hL⟩ : ∃ q, dmL i l s f fi wa le ba N = q := ⟨_, rfl⟩
  have hm20 : L.length ≤ 20 := by rw [← hL]; exact dmL_len _ _ _ _ _ _ _ _ _
  obtain ⟨m, hm⟩ : ∃ m, L.length = m := ⟨_, rfl⟩
  rw [hm] at hm20
  have HS := Lib.hid (fun W => sDropMinutes_is hN hq hL W)
  have HI := Lib.hid (fun W => DropMinutes_is hN hq hL W)
  have HM := Lib.hid hm
  clear hN hq hL hm
  go_enter Try.func4, Try.ntmps4
  go_upto_region 1 with fail
  refine wp_gen (fun w0 => Bk w0 w.heap.size 23 [.int .i64 i, .int .i64 l, .int .i64 s, .int .i64 f, .int .i64 fi] ∧ Bk w0 (w.heap.size + 1) 25 [.int .i64 wa, .int .i64 le, .int .i64 ba] ∧ Below w.heap.size w w0) ⟨Bk.alloc (Bk.new' rfl) _, Bk.new' (by simp), by (repeat' (first | (with_reducible exact Below.refl _ _) | (with_reducible assumption) | (with_reducible refine balloc ?_ _) | (with_reducible refine bdrew ?_) | (with_reducible refine bdrewN ?_ _) | (with_reducible refine bstep ?_ (by assumption)) | (with_reducible refine bset ?_ ?_ _) | (exact Below.size (by assumption)) | go_size))⟩ ?_
  intro w0 ⟨hx, hy, hW⟩
  obtain ⟨x0, x1, x2, x3, x4, xl⟩ := five_cells hx
  obtain ⟨y0, y1, y2, yl⟩ := three_cells hy
  go_cut [5, 6] (fun s5 s6 wx => ∃ A2 c2, s5 = .slice A2 m c2 ∧ s6 = .bool q ∧ wx.ownsRow w0.heap.size 3 1 (.slice A2 m c2) m (ints L) ∧ Below w0.heap.size w0 wx)
  case first =>
    go_region_with (first
      | (go_at_call 10; refine (toAircraft_any _ _ _ _ _ _).mono ?_; rintro e w' ⟨rfl, hb⟩; have B : Below w0.heap.size w0 w' := bstep (by (repeat' (first | (with_reducible exact Below.refl _ _) | (with_reducible assumption) | (with_reducible refine balloc ?_ _) | (with_reducible refine bdrew ?_) | (with_reducible refine bdrewN ?_ _) | (with_reducible refine bstep ?_ (by assumption)) | (with_reducible refine bset ?_ ?_ _) | (exact Below.size (by assumption)) | go_size))) hb; clear x0 x1 x2 x3 x4 xl y0 y1 y2 yl; obtain ⟨x0, x1, x2, x3, x4, xl⟩ := five_cells (hx.below B hx.lt); obtain ⟨y0, y1, y2, yl⟩ := three_cells (hy.below B hy.lt))
      | (go_at_call 11; refine (toTarget_any _ _ _ _).mono ?_; rintro e w' ⟨rfl, hb⟩; have B : Below w0.heap.size w0 w' := bstep (by (repeat' (first | (with_reducible exact Below.refl _ _) | (with_reducible assumption) | (with_reducible refine balloc ?_ _) | (with_reducible refine bdrew ?_) | (with_reducible refine bdrewN ?_ _) | (with_reducible refine bstep ?_ (by assumption)) | (with_reducible refine bset ?_ ?_ _) | (exact Below.size (by assumption)) | go_size))) hb; clear x0 x1 x2 x3 x4 xl y0 y1 y2 yl; obtain ⟨x0, x1, x2, x3, x4, xl⟩ := five_cells (hx.below B hx.lt); obtain ⟨y0, y1, y2, yl⟩ := three_cells (hy.below B hy.lt))
      | (go_at_call 13; refine (HS.out _).mono ?_; rintro e w' ⟨v3, rfl, ho3, hb⟩; have B : Below w0.heap.size w0 w' := bstep (by (repeat' (first | (with_reducible exact Below.refl _ _) | (with_reducible assumption) | (with_reducible refine balloc ?_ _) | (with_reducible refine bdrew ?_) | (with_reducible refine bdrewN ?_ _) | (with_reducible refine bstep ?_ (by assumption)) | (with_reducible refine bset ?_ ?_ _) | (exact Below.size (by assumption)) | go_size))) hb; have o3 := own_weaken (base' := w0.heap.size) ho3 (Below.size (by (repeat' (first | (with_reducible exact Below.refl _ _) | (with_reducible assumption) | (with_reducible refine balloc ?_ _) | (with_reducible refine bdrew ?_) | (with_reducible refine bdrewN ?_ _) | (with_reducible refine bstep ?_ (by assumption)) | (with_reducible refine bset ?_ ?_ _) | (exact Below.size (by assumption)) | go_size)))); clear ho3))
    all_goals (rw [HM.out] at o3; obtain ⟨A2, c2, rfl, _, _⟩ := own_rd o3; go_wp2_with fail; go_meet; exact ⟨A2, c2, rfl, rfl, o3, B⟩)
  case rest =>
    obtain ⟨A2, c2, rfl, rfl, o2, b2⟩ := hcut
    have r20 := own_r o2
    have hx := hx.below b2 hx.lt
    have hy := hy.below b2 hy.lt
    clear x0 x1 x2 x3 x4 xl y0 y1 y2 yl o2
    obtain ⟨x0, x1, x2, x3, x4, xl⟩ := five_cells hx
    obtain ⟨y0, y1, y2, yl⟩ := three_cells hy
    have R20 := Lib.hid r20
    have hW2 := bstep hW b2
    clear r20
    obtain ⟨w2, rfl⟩ : ∃ w2, w2 = wc := ⟨_, rfl⟩
    go_upto_region 2 with fail
    go_cut [7, 8] (fun s5 s6 wx => ∃ A3 c3, s5 = .slice A3 m c3 ∧ s6 = .bool q ∧ wx.ownsRow w2.heap.size 3 1 (.slice A3 m c3) m (ints L) ∧ Below w2.heap.size w2 wx)
    case first =>
      go_region_with (first
      | (go_at_call 10; refine (toAircraft_any _ _ _ _ _ _).mono ?_; rintro e w' ⟨rfl, hb⟩; have B : Below w2.heap.size w2 w' := bstep (by (repeat' (first | (with_reducible exact Below.refl _ _) | (with_reducible assumption) | (with_reducible refine balloc ?_ _) | (with_reducible refine bdrew ?_) | (with_reducible refine bdrewN ?_ _) | (with_reducible refine bstep ?_ (by assumption)) | (with_reducible refine bset ?_ ?_ _) | (exact Below.size (by assumption)) | go_size))) hb; clear x0 x1 x2 x3 x4 xl y0 y1 y2 yl; obtain ⟨x0, x1, x2, x3, x4, xl⟩ := five_cells (hx.below B hx.lt); obtain ⟨y0, y1, y2, yl⟩ := three_cells (hy.below B hy.lt))
      | (go_at_call 11; refine (toTarget_any _ _ _ _).mono ?_; rintro e w' ⟨rfl, hb⟩; have B : Below w2.heap.size w2 w' := bstep (by (repeat' (first | (with_reducible exact Below.refl _ _) | (with_reducible assumption) | (with_reducible refine balloc ?_ _) | (with_reducible refine bdrew ?_) | (with_reducible refine bdrewN ?_ _) | (with_reducible refine bstep ?_ (by assumption)) | (with_reducible refine bset ?_ ?_ _) | (exact Below.size (by assumption)) | go_size))) hb; clear x0 x1 x2 x3 x4 xl y0 y1 y2 yl; obtain ⟨x0, x1, x2, x3, x4, xl⟩ := five_cells (hx.below B hx.lt); obtain ⟨y0, y1, y2, yl⟩ := three_cells (hy.below B hy.lt))
      | (go_at_call 14; refine (HI.out _).mono ?_; rintro e w' ⟨v3, rfl, ho3, hb⟩; have B : Below w2.heap.size w2 w' := bstep (by (repeat' (first | (with_reducible exact Below.refl _ _) | (with_reducible assumption) | (with_reducible refine balloc ?_ _) | (with_reducible refine bdrew ?_) | (with_reducible refine bdrewN ?_ _) | (with_reducible refine bstep ?_ (by assumption)) | (with_reducible refine bset ?_ ?_ _) | (exact Below.size (by assumption)) | go_size))) hb; have o3 := own_weaken (base' := w2.heap.size) ho3 (Below.size (by (repeat' (first | (with_reducible exact Below.refl _ _) | (with_reducible assumption) | (with_reducible refine balloc ?_ _) | (with_reducible refine bdrew ?_) | (with_reducible refine bdrewN ?_ _) | (with_reducible refine bstep ?_ (by assumption)) | (with_reducible refine bset ?_ ?_ _) | (exact Below.size (by assumption)) | go_size)))); clear ho3))
      all_goals (rw [HM.out] at o3; obtain ⟨A2, c2, rfl, _, _⟩ := own_rd o3; go_wp2_with fail; go_meet; exact ⟨A2, c2, rfl, rfl, o3, B⟩)
    case rest =>
      obtain ⟨A3, c3, rfl, rfl, o3, b3⟩ := hcut
      obtain ⟨w3, rfl⟩ : ∃ w3, w3 = wc := ⟨_, rfl⟩
      have O3 := Lib.hid o3
      clear o3 x0 x1 x2 x3 x4 xl y0 y1 y2 yl
      go_wp2_with fail
      refine (eqIntS_yes _ (own_r O3.out) (R20.out.below b3) (by omega) rfl).mono ?_
      rintro e w4 ⟨rfl, hb4⟩
      have b4 := bstep b3 hb4
      have o4 := own_below O3.out hb4
      go_wp2_with fail
      refine (markIntS_own o4 (by omega) (by omega)).mono ?_
      rintro e w5 ⟨rfl, o5, hG5⟩
      have b5 := own_grownBy o4 b4 hG5 (Nat.le_refl _) b4.size
      go_wp2_with fail
      refine (heldIntS_any _ _ _ 1 _ (own_r o5) (by omega) (by omega)).mono ?_
      rintro e w6 ⟨rfl, rfl⟩
      have hx := hx.below b5 hx.lt
      have hy := hy.below b5 hy.lt
      obtain ⟨x0, x1, x2, x3, x4, xl⟩ := five_cells hx
      obtain ⟨y0, y1, y2, yl⟩ := three_cells hy
      have O5 := Lib.hid o5
      clear o4 o5
      go_upto_region 13 with fail
      go_cut [11, 12] (fun s5 s6 wx => ∃ A7 c7, s5 = .slice A7 m c7 ∧ s6 = .bool q ∧ wx.ownsRow w5.heap.size 3 1 (.slice A7 m c7) m (ints L) ∧ Below w5.heap.size w5 wx)
      case first =>
        go_region_with (first
      | (go_at_call 10; refine (toAircraft_any _ _ _ _ _ _).mono ?_; rintro e w' ⟨rfl, hb⟩; have B : Below w5.heap.size w5 w' := bstep (by (repeat' (first | (with_reducible exact Below.refl _ _) | (with_reducible assumption) | (with_reducible refine balloc ?_ _) | (with_reducible refine bdrew ?_) | (with_reducible refine bdrewN ?_ _) | (with_reducible refine bstep ?_ (by assumption)) | (with_reducible refine bset ?_ ?_ _) | (exact Below.size (by assumption)) | go_size))) hb; clear x0 x1 x2 x3 x4 xl y0 y1 y2 yl; obtain ⟨x0, x1, x2, x3, x4, xl⟩ := five_cells (hx.below B hx.lt); obtain ⟨y0, y1, y2, yl⟩ := three_cells (hy.below B hy.lt))
      | (go_at_call 11; refine (toTarget_any _ _ _ _).mono ?_; rintro e w' ⟨rfl, hb⟩; have B : Below w5.heap.size w5 w' := bstep (by (repeat' (first | (with_reducible exact Below.refl _ _) | (with_reducible assumption) | (with_reducible refine balloc ?_ _) | (with_reducible refine bdrew ?_) | (with_reducible refine bdrewN ?_ _) | (with_reducible refine bstep ?_ (by assumption)) | (with_reducible refine bset ?_ ?_ _) | (exact Below.size (by assumption)) | go_size))) hb; clear x0 x1 x2 x3 x4 xl y0 y1 y2 yl; obtain ⟨x0, x1, x2, x3, x4, xl⟩ := five_cells (hx.below B hx.lt); obtain ⟨y0, y1, y2, yl⟩ := three_cells (hy.below B hy.lt))
      | (go_at_call 14; refine (HI.out _).mono ?_; rintro e w' ⟨v3, rfl, ho3, hb⟩; have B : Below w5.heap.size w5 w' := bstep (by (repeat' (first | (with_reducible exact Below.refl _ _) | (with_reducible assumption) | (with_reducible refine balloc ?_ _) | (with_reducible refine bdrew ?_) | (with_reducible refine bdrewN ?_ _) | (with_reducible refine bstep ?_ (by assumption)) | (with_reducible refine bset ?_ ?_ _) | (exact Below.size (by assumption)) | go_size))) hb; have o3 := own_weaken (base' := w5.heap.size) ho3 (Below.size (by (repeat' (first | (with_reducible exact Below.refl _ _) | (with_reducible assumption) | (with_reducible refine balloc ?_ _) | (with_reducible refine bdrew ?_) | (with_reducible refine bdrewN ?_ _) | (with_reducible refine bstep ?_ (by assumption)) | (with_reducible refine bset ?_ ?_ _) | (exact Below.size (by assumption)) | go_size)))); clear ho3))
        all_goals (rw [HM.out] at o3; obtain ⟨A2, c2, rfl, _, _⟩ := own_rd o3; go_wp2_with fail; go_meet; exact ⟨A2, c2, rfl, rfl, o3, B⟩)
      case rest =>
        obtain ⟨A7, c7, rfl, rfl, o7, b7⟩ := hcut
        clear x0 x1 x2 x3 x4 xl y0 y1 y2 yl
        have O7 := Lib.hid o7
        clear o7
        go_wp2_with fail
        refine (eqIntS_yes _ (own_r O7.out) (R20.out.below (bstep b5 b7)) (by omega) rfl).mono ?_
        rintro e w8 ⟨rfl, hb8⟩
        go_wp2_with fail
        refine (heldIntS_any _ _ _ 1 _ (own_r (own_below (own_below O5.out b7) hb8)) (by omega) (by omega)).mono ?_
        rintro e w9 ⟨rfl, rfl⟩
        go_wp2
        go_returns
        exact ⟨rfl, bstep hW2 (bstep (bstep b5 b7) hb8)⟩
end Go.Proofs.Ytndldfhkcbdadaa
