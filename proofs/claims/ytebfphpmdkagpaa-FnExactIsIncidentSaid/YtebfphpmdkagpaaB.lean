/-
  FnExactIsSmoke, walked. Conditions: none beyond the layout of its arguments.
-/
import Derived.Test.YtebfphpmdkagpaaA
import Derived.Deep.RegionWith
namespace Go.Proofs.Ytebfphpmdkagpaa
open Go.RowKit
set_option maxRecDepth 100000
set_option maxHeartbeats 1000000

theorem ints_flat (zs : List Int) : zs.flatMap (fun n => [Value.int .i64 n]) = ints zs := by
  induction zs with
  | nil => rfl
  | cons z zs ih => rw [List.flatMap_cons, ih]; rfl
theorem three_cells {w : World} {g : Nat} {t : TypeId} {a b c : Value} (h : Bk w g t [a, b, c]) : w.cell? ⟨g, 0, none⟩ = some a ∧ w.cell? ⟨g, 1, none⟩ = some b ∧ w.cell? ⟨g, 2, none⟩ = some c ∧ g < w.heap.size := ⟨h.cell 0, h.cell 1, h.cell 2, h.lt⟩
theorem bk_rd {w : World} {g n : Nat} {t : TypeId} {zs : List Int} (h : Bk w g t (ints zs)) (hl : zs.length = n) : Rd w 1 (some ⟨g, 0, none⟩) n (ints zs) := h.rd (by simp [ints, hl])
theorem fnExactIsSmoke_walk (W H : Int) (A : Option Addr) (n c : Nat) (zs : List Int) (w : World) (_wW : I64 W) (_wH : I64 H) (hr' : Rd w 1 A n (zs.flatMap (fun n => [Value.int .i64 n]))) (hl : zs.length = n) (hn : n ≤ 9223372036854775807) (_ok : ∀ z ∈ zs, I64 z) :
    Calls Try.prog 3 #[.agg #[.int .i64 W, .int .i64 H, .slice A n c]] w fun e w' => e = .returned (.bool true) ∧ Below w.heap.size w w' := by
  rw [ints_flat] at hr'
  have hr := hr'
  clear hr' _ok _wW _wH
  go_enter Try.func3, Try.ntmps3
  go_upto_region 2 with fail
  refine wp_gen (fun w0 => Bk w0 w.heap.size 24 [.int .i64 W, .int .i64 H, .slice A n c] ∧ Below w.heap.size w w0) ⟨Bk.new' rfl, by (repeat' (first | (with_reducible exact Below.refl _ _) | (with_reducible assumption) | (with_reducible refine balloc ?_ _) | (with_reducible refine bdrew ?_) | (with_reducible refine bdrewN ?_ _) | (with_reducible refine bstep ?_ (by assumption)) | (with_reducible refine bset ?_ ?_ _) | (exact Below.size (by assumption)) | go_size))⟩ ?_
  intro w0 ⟨hX, hW⟩
  obtain ⟨x0, x1, x2, xl⟩ := three_cells hX
  by_cases hbig : n ≤ 1048576
  · obtain ⟨q, hq⟩ : ∃ q, smB W H zs = q := ⟨_, rfl⟩
    have HQ := Lib.hid hq
    clear hq
    have hs : 0 ≤ szI n 1048576 := by unfold szI; split <;> omega
    go_wp2_with fail
    refine (szSmoke_any W H A n c 1048576 _ hn (by omega)).mono ?_
    rintro e w1 ⟨rfl, hb1⟩
    have b1 := bstep hW hb1
    have hX := hX.below hb1 xl
    clear x0 x1 x2 xl
    obtain ⟨x0, x1, x2, xl⟩ := three_cells hX
    go_wp2_with fail
    refine (toSmoke_any W H A n c zs _ (hr.below b1) hbig).mono ?_
    rintro e w2 ⟨g2, rfl, hg2, hB2, hb2⟩
    have b2 := bstep b1 hb2
    have hX := hX.below hb2 xl
    clear x0 x1 x2 xl
    obtain ⟨x0, x1, x2, xl⟩ := three_cells hX
    go_wp2_with fail
    refine (sIsSmoke_is HQ.out _ (bk_rd hB2 hl) hl (by omega)).mono ?_
    rintro e w3 ⟨rfl, hb3⟩
    have b3 := bstep b2 hb3
    have hX := hX.below hb3 xl
    clear x0 x1 x2 xl
    obtain ⟨x0, x1, x2, xl⟩ := three_cells hX
    go_wp2_with fail
    refine (toSmoke_any W H A n c zs _ (hr.below b3) hbig).mono ?_
    rintro e w4 ⟨g4, rfl, hg4, hB4, hb4⟩
    have b4 := bstep b3 hb4
    have hX := hX.below hb4 xl
    clear x0 x1 x2 xl
    have b5 := balloc b4 (.cells #[.int .i64 W, .int .i64 H, .slice (some ⟨g4, 0, none⟩) n n] 27)
    have hX5 := hX.alloc (.cells #[.int .i64 W, .int .i64 H, .slice (some ⟨g4, 0, none⟩) n n] 27)
    have hY5 := Bk.new w4 27 [.int .i64 W, .int .i64 H, .slice (some ⟨g4, 0, none⟩) n n]
    have hB5 := hB4.alloc (.cells #[.int .i64 W, .int .i64 H, .slice (some ⟨g4, 0, none⟩) n n] 27)
    have HB := Lib.hid hB4
    go_wp2_with fail
    refine (IsSmoke_is HQ.out _ (bk_rd hB5 hl) hl (by omega)).mono ?_
    rintro e w6 ⟨rfl, hb6⟩
    have b6 := bstep b5 hb6
    have hX6 := hX5.below hb6 hX5.lt
    have hY6 := hY5.below hb6 hY5.lt
    have hB6 := hB5.below hb6 hB5.lt
    obtain ⟨x0, x1, x2, xl⟩ := three_cells hX6
    obtain ⟨y0, y1, y2, yl⟩ := three_cells hY6
    clear hX hX5 hY5 hB5 hb6 hb4 hb3 hb2 hb1 b1 b2 b3 b5 hB2
    go_wp2_with fail
    go_region_with (first
      | (go_at_call 11; refine (toSmoke_any W H A n c zs _ (hr.below (show Below w.heap.size w _ from by (repeat' (first | (with_reducible exact Below.refl _ _) | (with_reducible assumption) | (with_reducible refine balloc ?_ _) | (with_reducible refine bdrew ?_) | (with_reducible refine bdrewN ?_ _) | (with_reducible refine bstep ?_ (by assumption)) | (with_reducible refine bset ?_ ?_ _) | (exact Below.size (by assumption)) | go_size)))) hbig).mono ?_; rintro e w7 ⟨g7, rfl, hg7, hB7, hb7⟩; have D7 : Below w6.heap.size w6 w7 := bstep (by (repeat' (first | (with_reducible exact Below.refl _ _) | (with_reducible assumption) | (with_reducible refine balloc ?_ _) | (with_reducible refine bdrew ?_) | (with_reducible refine bdrewN ?_ _) | (with_reducible refine bstep ?_ (by assumption)) | (with_reducible refine bset ?_ ?_ _) | (exact Below.size (by assumption)) | go_size))) hb7; have b7 := bstep b6 D7; clear x0 x1 x2 y0 y1 y2; obtain ⟨x0, x1, x2, xl⟩ := three_cells (hX6.below D7 hX6.lt); obtain ⟨y0, y1, y2, yl⟩ := three_cells (hY6.below D7 hY6.lt))
      | (go_at_call 13; refine (eqSmoke_same W H _ _ n n n zs _ (bk_rd (hB6.below D7 hB6.lt) hl) (bk_rd hB7 hl) hbig).mono ?_; rintro e w8 ⟨rfl, hb8⟩; have b8 := bstep b7 hb8))

    all_goals ((try go_wp2); go_returns; exact ⟨rfl, b8⟩)
  · have hs : szI n 1048576 < 0 := by unfold szI; split <;> omega
    go_wp2_with fail
    refine (szSmoke_any W H A n c 1048576 _ hn (by omega)).mono ?_
    rintro e w1 ⟨rfl, hb1⟩
    go_wp2
    go_returns
    exact ⟨rfl, bstep hW hb1⟩
end Go.Proofs.Ytebfphpmdkagpaa
