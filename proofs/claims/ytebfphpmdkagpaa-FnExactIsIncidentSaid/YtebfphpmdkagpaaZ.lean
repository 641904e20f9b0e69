/-
  FnExactIsIncident, walked. Conditions: none beyond the layout of its arguments.
-/
import Derived.Test.YtebfphpmdkagpaaY
import Derived.Deep.RegionWith
namespace Go.Proofs.Ytebfphpmdkagpaa
open Go.RowKit
set_option maxRecDepth 100000
set_option maxHeartbeats 2000000

theorem fnExactIsIncident_walk (W H t : Int) (A A2 A3 : Option Addr) (n c n2 c2 n3 c3 : Nat) (bs fs vs : List Int) (w : World) (hr' : Rd w 1 A n (bs.flatMap (fun n => [Value.int .i64 n]))) (hl : bs.length = n) (hn : n ≤ 9223372036854775807) (hr2' : Rd w 1 A2 n2 (fs.flatMap (fun n => [Value.int .i64 n]))) (hl2 : fs.length = n2) (hn2 : n2 ≤ 9223372036854775807) (hr3' : Rd w 1 A3 n3 (vs.flatMap (fun n => [Value.int .i64 n]))) (hl3 : vs.length = n3) (hn3 : n3 ≤ 9223372036854775807) :
    Calls Try.prog 8 #[.agg #[.int .i64 W, .int .i64 H, .slice A n c, .slice A2 n2 c2, .slice A3 n3 c3, .int .i64 t]] w fun e w' => e = .returned (.bool true) ∧ Below w.heap.size w w' := by
  rw [ints_flat] at hr' hr2' hr3'
  have hr := hr'
  have hr2 := hr2'
  have hr3 := hr3'
  clear hr' hr2' hr3'
  go_enter Try.func8, Try.ntmps8
  go_upto_region 2 with fail
  refine wp_gen (fun w0 => Bk w0 w.heap.size 50 [.int .i64 W, .int .i64 H, .slice A n c, .slice A2 n2 c2, .slice A3 n3 c3, .int .i64 t] ∧ Below w.heap.size w w0) ⟨Bk.new' rfl, by (repeat' (first | (with_reducible exact Below.refl _ _) | (with_reducible assumption) | (with_reducible refine balloc ?_ _) | (with_reducible refine bdrew ?_) | (with_reducible refine bdrewN ?_ _) | (with_reducible refine bstep ?_ (by assumption)) | (with_reducible refine bset ?_ ?_ _) | (exact Below.size (by assumption)) | go_size))⟩ ?_
  intro w0 ⟨hX, hW⟩
  obtain ⟨x0, x1, x2, x3, x4, x5, xl⟩ := six_cells hX
  go_wp2_with fail
  refine (szIncident_any W H t A A2 A3 n n2 n3 c c2 c3 _ hn hn2 hn3).mono ?_
  rintro e w1 ⟨v, rfl, hv, hb1⟩
  have b1 := bstep hW hb1
  have hX := hX.below hb1 xl
  clear x0 x1 x2 x3 x4 x5 xl
  obtain ⟨x0, x1, x2, x3, x4, x5, xl⟩ := six_cells hX
  by_cases hs : v < 0
  · go_wp2
    go_returns
    exact ⟨rfl, b1⟩
  obtain ⟨hbig, hbig2, hbig3⟩ := hv (by omega)
  obtain ⟨q, hq⟩ : ∃ q, incB W H bs fs vs t = q := ⟨_, rfl⟩
  have HQ := Lib.hid hq
  clear hq hv
  go_wp2_with fail
  refine (toIncident_any W H t A A2 A3 n n2 n3 c c2 c3 bs fs vs _ (hr.below b1) (hr2.below b1) (hr3.below b1) hbig hbig2 hbig3).mono ?_
  rintro e w2 ⟨pa, pb, pc, rfl, hPa, hPb, hPc, hb2⟩
  have b2 := bstep b1 hb2
  have hX := hX.below hb2 xl
  clear x0 x1 x2 x3 x4 x5 xl
  obtain ⟨x0, x1, x2, x3, x4, x5, xl⟩ := six_cells hX
  go_wp2_with fail
  refine (sIsIncident_is HQ.out _ (bk_rd hPa hl) (bk_rd hPb hl2) (bk_rd hPc hl3) hl hl2 hl3 hbig).mono ?_
  rintro e w3 ⟨rfl, hb3⟩
  have b3 := bstep b2 hb3
  have hX := hX.below hb3 xl
  clear x0 x1 x2 x3 x4 x5 xl
  obtain ⟨x0, x1, x2, x3, x4, x5, xl⟩ := six_cells hX
  go_wp2_with fail
  refine (toIncident_any W H t A A2 A3 n n2 n3 c c2 c3 bs fs vs _ (hr.below b3) (hr2.below b3) (hr3.below b3) hbig hbig2 hbig3).mono ?_
  rintro e w4 ⟨ga, gb, gc, rfl, hGa, hGb, hGc, hb4⟩
  have b4 := bstep b3 hb4
  have hX := hX.below hb4 xl
  clear x0 x1 x2 x3 x4 x5 xl hPa hPb hPc
  have b5 := balloc b4 (.cells #[.int .i64 W, .int .i64 H, .slice (some ⟨ga, 0, none⟩) n n, .slice (some ⟨gb, 0, none⟩) n2 n2, .slice (some ⟨gc, 0, none⟩) n3 n3, .int .i64 t] 55)
  have hX5 := hX.alloc (.cells #[.int .i64 W, .int .i64 H, .slice (some ⟨ga, 0, none⟩) n n, .slice (some ⟨gb, 0, none⟩) n2 n2, .slice (some ⟨gc, 0, none⟩) n3 n3, .int .i64 t] 55)
  have hY5 := Bk.new w4 55 [.int .i64 W, .int .i64 H, .slice (some ⟨ga, 0, none⟩) n n, .slice (some ⟨gb, 0, none⟩) n2 n2, .slice (some ⟨gc, 0, none⟩) n3 n3, .int .i64 t]
  have hGa5 := hGa.alloc (.cells #[.int .i64 W, .int .i64 H, .slice (some ⟨ga, 0, none⟩) n n, .slice (some ⟨gb, 0, none⟩) n2 n2, .slice (some ⟨gc, 0, none⟩) n3 n3, .int .i64 t] 55)
  have HGa := Lib.hid hGa
  have hGb5 := hGb.alloc (.cells #[.int .i64 W, .int .i64 H, .slice (some ⟨ga, 0, none⟩) n n, .slice (some ⟨gb, 0, none⟩) n2 n2, .slice (some ⟨gc, 0, none⟩) n3 n3, .int .i64 t] 55)
  have HGb := Lib.hid hGb
  have hGc5 := hGc.alloc (.cells #[.int .i64 W, .int .i64 H, .slice (some ⟨ga, 0, none⟩) n n, .slice (some ⟨gb, 0, none⟩) n2 n2, .slice (some ⟨gc, 0, none⟩) n3 n3, .int .i64 t] 55)
  have HGc := Lib.hid hGc
  go_wp2_with fail
  refine (IsIncident_is HQ.out _ (bk_rd hGa5 hl) (bk_rd hGb5 hl2) (bk_rd hGc5 hl3) hl hl2 hl3 hbig).mono ?_
  rintro e w6 ⟨rfl, hb6⟩
  have b6 := bstep b5 hb6
  have hX6 := hX5.below hb6 hX5.lt
  have hY6 := hY5.below hb6 hY5.lt
  have hGa6 := hGa5.below hb6 hGa5.lt
  have hGb6 := hGb5.below hb6 hGb5.lt
  have hGc6 := hGc5.below hb6 hGc5.lt
  obtain ⟨x0, x1, x2, x3, x4, x5, xl⟩ := six_cells hX6
  obtain ⟨y0, y1, y2, y3, y4, y5, yl⟩ := six_cells hY6
  clear hX hX5 hY5 hb6 hb4 hb3 hb2 hb1 b1 b2 b3 b5 hGa5 hGb5 hGc5 hGa hGb hGc
  go_wp2_with fail
  go_region_with (first
    | (go_at_call 29; refine (toIncident_any W H t A A2 A3 n n2 n3 c c2 c3 bs fs vs _ (hr.below (show Below w.heap.size w _ from by (repeat' (first | (with_reducible exact Below.refl _ _) | (with_reducible assumption) | (with_reducible refine balloc ?_ _) | (with_reducible refine bdrew ?_) | (with_reducible refine bdrewN ?_ _) | (with_reducible refine bstep ?_ (by assumption)) | (with_reducible refine bset ?_ ?_ _) | (exact Below.size (by assumption)) | go_size)))) (hr2.below (show Below w.heap.size w _ from by (repeat' (first | (with_reducible exact Below.refl _ _) | (with_reducible assumption) | (with_reducible refine balloc ?_ _) | (with_reducible refine bdrew ?_) | (with_reducible refine bdrewN ?_ _) | (with_reducible refine bstep ?_ (by assumption)) | (with_reducible refine bset ?_ ?_ _) | (exact Below.size (by assumption)) | go_size)))) (hr3.below (show Below w.heap.size w _ from by (repeat' (first | (with_reducible exact Below.refl _ _) | (with_reducible assumption) | (with_reducible refine balloc ?_ _) | (with_reducible refine bdrew ?_) | (with_reducible refine bdrewN ?_ _) | (with_reducible refine bstep ?_ (by assumption)) | (with_reducible refine bset ?_ ?_ _) | (exact Below.size (by assumption)) | go_size)))) hbig hbig2 hbig3).mono ?_; rintro e w7 ⟨za, zb, zc, rfl, hZa, hZb, hZc, hb7⟩; have D7 : Below w6.heap.size w6 w7 := bstep (by (repeat' (first | (with_reducible exact Below.refl _ _) | (with_reducible assumption) | (with_reducible refine balloc ?_ _) | (with_reducible refine bdrew ?_) | (with_reducible refine bdrewN ?_ _) | (with_reducible refine bstep ?_ (by assumption)) | (with_reducible refine bset ?_ ?_ _) | (exact Below.size (by assumption)) | go_size))) hb7; have b7 := bstep b6 D7; clear x0 x1 x2 x3 x4 x5 y0 y1 y2 y3 y4 y5; obtain ⟨x0, x1, x2, x3, x4, x5, xl⟩ := six_cells (hX6.below D7 hX6.lt); obtain ⟨y0, y1, y2, y3, y4, y5, yl⟩ := six_cells (hY6.below D7 hY6.lt))
    | (go_at_call 31; refine (eqIncident_same W H t _ _ _ _ _ _ n n2 n3 n n2 n3 n n2 n3 bs fs vs _ (bk_rd (hGa6.below D7 hGa6.lt) hl) (bk_rd (hGb6.below D7 hGb6.lt) hl2) (bk_rd (hGc6.below D7 hGc6.lt) hl3) (bk_rd hZa hl) (bk_rd hZb hl2) (bk_rd hZc hl3) hbig hbig2 hbig3).mono ?_; rintro e w8 ⟨rfl, hb8⟩; have b8 := bstep b7 hb8))
  all_goals ((try go_wp2); go_returns; exact ⟨rfl, b8⟩)
end Go.Proofs.Ytebfphpmdkagpaa
