/-
  FnExactLitersIn, walked. Conditions: none.
-/
import Derived.Test.YtndldfhkcbdadaaC
namespace Go.Proofs.Ytndldfhkcbdadaa
open Go.RowKit
set_option maxRecDepth 100000
set_option maxHeartbeats 1000000

theorem MD_if (i l s f fi wa le ba : Int) : ∃ N, acB i l s f fi = true → tgB wa le ba = true → MD s f fi wa le ba N := by
  by_cases h : acB i l s f fi = true ∧ tgB wa le ba = true
  · obtain ⟨g1, g2, g3, g4, g5⟩ := acB_bd h.1
    obtain ⟨g6, g7, g8⟩ := tgB_bd h.2
    obtain ⟨N, hN⟩ := MD_ex g3 g4 g5 g6 g7 g8
    exact ⟨N, fun _ _ => hN⟩
  · exact ⟨0, fun h1 h2 => absurd ⟨h1, h2⟩ h⟩
theorem fnExactLitersIn_walk (a : Int × Int × Int × Int × Int) (b : Int × Int × Int) (M t : Int) (w : World) (_h : I64 a.1 ∧ I64 a.2.1 ∧ I64 a.2.2.1 ∧ I64 a.2.2.2.1 ∧ I64 a.2.2.2.2) (_h' : I64 b.1 ∧ I64 b.2.1 ∧ I64 b.2.2) (_hM : I64 M) (_ht : I64 t) : Calls Try.prog 3 #[.agg #[.int .i64 a.1, .int .i64 a.2.1, .int .i64 a.2.2.1, .int .i64 a.2.2.2.1, .int .i64 a.2.2.2.2], .agg #[.int .i64 b.1, .int .i64 b.2.1, .int .i64 b.2.2], .int .i64 M, .int .i64 t] w fun e w' => e = .returned (.bool true) ∧ Below w.heap.size w w' := by
  obtain ⟨i, l, s, f, fi⟩ := a
  obtain ⟨wa, le, ba⟩ := b
  dsimp only at *
  clear _h _h' _hM _ht
  obtain ⟨N, hN⟩ := MD_if i l s f fi wa le ba
  obtain ⟨q, hq⟩ : ∃ q, litB i l s f fi wa le ba M t = q := ⟨_, rfl⟩
  obtain ⟨v, hv⟩ : ∃ q, litI i l s f fi wa le ba M t N = q := ⟨_, rfl⟩
  have HS := Lib.hid (fun W => sLitersIn_is hN hq hv W)
  have HI := Lib.hid (fun W => LitersIn_is hN hq hv W)
  clear hN hq hv
  go_enter Try.func3, Try.ntmps3
  go_upto_region 1 with fail
  refine wp_gen (fun w0 => Bk w0 w.heap.size 23 [.int .i64 i, .int .i64 l, .int .i64 s, .int .i64 f, .int .i64 fi] ∧ Bk w0 (w.heap.size + 1) 25 [.int .i64 wa, .int .i64 le, .int .i64 ba] ∧ Below w.heap.size w w0) ⟨Bk.alloc (Bk.new' rfl) _, Bk.new' (by simp), by (repeat' (first | (with_reducible exact Below.refl _ _) | (with_reducible assumption) | (with_reducible refine balloc ?_ _) | (with_reducible refine bdrew ?_) | (with_reducible refine bdrewN ?_ _) | (with_reducible refine bstep ?_ (by assumption)) | (with_reducible refine bset ?_ ?_ _) | (exact Below.size (by assumption)) | go_size))⟩ ?_
  intro w0 ⟨hx, hy, b0⟩
  obtain ⟨x0, x1, x2, x3, x4, xl⟩ := five_cells hx
  obtain ⟨y0, y1, y2, yl⟩ := three_cells hy
  (refine wp_region_bel (by kernel_rfl) (by kernel_rfl) ?_; (repeat (go_big_quiet_step ((first | (go_at_call 10; exact calls_bel (toAircraft_any _ _ _ _ _ _)) | (go_at_call 11; exact calls_bel (toTarget_any _ _ _ _)) | (go_at_call 9; exact calls_bel (HS.out _)))))); refine wpQuiet_nil ?_; intro w' hw'; have hb := below_of hw'; clear hw'; (try clear cW fW zW); (first | (have bW := bstep bW hb) | (have bW := bstep (bdrew bW) hb) | (have bW := bstep (balloc bW _) hb) | (have bW := bstep (bdrewN bW _) hb) | (have bW := hb)); clear hb; obtain ⟨cW, fW⟩ := bcell bW; have zW := bsize bW)
  go_wp2_with fail
  have hx := hx.below bW xl
  have hy := hy.below bW yl
  clear x0 x1 x2 x3 x4 xl y0 y1 y2 yl cW fW zW
  obtain ⟨x0, x1, x2, x3, x4, xl⟩ := five_cells hx
  obtain ⟨y0, y1, y2, yl⟩ := three_cells hy
  have b0 := bstep b0 bW
  clear bW
  (refine wp_region_bel (by kernel_rfl) (by kernel_rfl) ?_; (repeat (go_big_quiet_step ((first | (go_at_call 10; exact calls_bel (toAircraft_any _ _ _ _ _ _)) | (go_at_call 11; exact calls_bel (toTarget_any _ _ _ _)) | (go_at_call 12; exact calls_bel (HI.out _)))))); refine wpQuiet_nil ?_; intro w' hw'; have hb := below_of hw'; clear hw'; (try clear cW fW zW); (first | (have bW := bstep bW hb) | (have bW := bstep (bdrew bW) hb) | (have bW := bstep (balloc bW _) hb) | (have bW := bstep (bdrewN bW _) hb) | (have bW := hb)); clear hb; obtain ⟨cW, fW⟩ := bcell bW; have zW := bsize bW)
  go_wp2_with fail
  go_returns
  exact ⟨rfl, bstep b0 bW⟩
end Go.Proofs.Ytndldfhkcbdadaa
