/-
  FnExactHoursUntil, walked. Conditions: none.
-/
import Derived.Test.YtkbhpfgbodellaaF
namespace Go.Proofs.Ytkbhpfgbodellaa
open Go.RowKit
set_option maxRecDepth 100000
set_option maxHeartbeats 1000000

theorem fnExactHoursUntil_walk (b : Int × Int) (a : Int × Int × Int) (limit : Int) (w : World) (_h : I64 b.1 ∧ I64 b.2) (_h' : I64 a.1 ∧ I64 a.2.1 ∧ I64 a.2.2) (_h2 : I64 limit) : Calls Try.prog 7 #[.agg #[.int .i64 b.1, .int .i64 b.2], .agg #[.int .i64 a.1, .int .i64 a.2.1, .int .i64 a.2.2], .int .i64 limit] w fun e w' => e = .returned (.bool true) ∧ Below w.heap.size w w' := by
  obtain ⟨l, m⟩ := b
  obtain ⟨h, t, r⟩ := a
  dsimp only at *
  clear _h _h' _h2
  obtain ⟨q, hq⟩ : ∃ q, huB l m h t r limit = q := ⟨_, rfl⟩
  obtain ⟨N, hN⟩ : ∃ N, huN l m h t r limit = N := ⟨_, rfl⟩
  have hS := sHoursUntil_any l m h t r limit
  have hI := HoursUntil_any l m h t r limit
  rw [hq, hN] at hS hI
  have HS := Lib.hid hS
  have HI := Lib.hid hI
  clear hS hI hq hN
  go_enter Try.func7, Try.ntmps7
  go_upto_region 1 with fail
  have hW := balloc (balloc (Below.refl w.heap.size w) (.cells #[.int .i64 l, .int .i64 m] 23)) (.cells #[.int .i64 h, .int .i64 t, .int .i64 r] 32)
  have hf := (Blk.new w 23 [.int .i64 l, .int .i64 m]).alloc (.cells #[.int .i64 h, .int .i64 t, .int .i64 r] 32)
  have ha := Blk.new (w.alloc (.cells #[.int .i64 l, .int .i64 m] 23)) 32 [.int .i64 h, .int .i64 t, .int .i64 r]
  rw [World.size_alloc] at ha
  generalize hw0 : (w.alloc (.cells #[.int .i64 l, .int .i64 m] 23)).alloc (.cells #[.int .i64 h, .int .i64 t, .int .i64 r] 32) = w0 at *
  change Blk w0 _ _ _ at hf
  change Blk w0 _ _ _ at ha
  clear hw0
  obtain ⟨x0, x1, _, _, s1⟩ := hf.two
  obtain ⟨y0, y1, y2, s2⟩ := ha.three
  (refine wp_region_bel (by kernel_rfl) (by kernel_rfl) ?_; (repeat (go_big_quiet_step ((first | (go_at_call 15; exact calls_bel (toFuelbed_any _ _ _)) | (go_at_call 20; exact calls_bel (toAir_any _ _ _ _)) | (go_at_call 25; exact calls_bel (HS.out _)))))); refine wpQuiet_nil ?_; intro w' hw'; have hb := below_of hw'; clear hw'; (try clear cW fW zW); (first | (have bW := bstep bW hb) | (have bW := bstep (bdrew bW) hb) | (have bW := bstep (balloc bW _) hb) | (have bW := bstep (bdrewN bW _) hb) | (have bW := hb)); clear hb; obtain ⟨cW, fW⟩ := bcell bW; have zW := bsize bW)
  go_wp2_with fail
  have hf := hf.keep bW
  have ha := ha.keep bW
  clear x0 x1 y0 y1 y2 s1 s2 cW fW zW
  obtain ⟨x0, x1, _, _, s1⟩ := hf.two
  obtain ⟨y0, y1, y2, s2⟩ := ha.three
  have hW := bstep hW bW
  clear bW
  (refine wp_region_bel (by kernel_rfl) (by kernel_rfl) ?_; (repeat (go_big_quiet_step ((first | (go_at_call 15; exact calls_bel (toFuelbed_any _ _ _)) | (go_at_call 20; exact calls_bel (toAir_any _ _ _ _)) | (go_at_call 26; exact calls_bel (HI.out _)))))); refine wpQuiet_nil ?_; intro w' hw'; have hb := below_of hw'; clear hw'; (try clear cW fW zW); (first | (have bW := bstep bW hb) | (have bW := bstep (bdrew bW) hb) | (have bW := bstep (balloc bW _) hb) | (have bW := bstep (bdrewN bW _) hb) | (have bW := hb)); clear hb; obtain ⟨cW, fW⟩ := bcell bW; have zW := bsize bW)
  go_wp2_with fail
  go_returns
  exact ⟨rfl, bstep hW bW⟩
end Go.Proofs.Ytkbhpfgbodellaa
