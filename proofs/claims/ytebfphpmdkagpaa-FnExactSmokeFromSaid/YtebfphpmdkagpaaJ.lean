/-
  FnExactThickCells, walked. Conditions: none beyond the layout of its arguments.
-/
import Derived.Test.YtebfphpmdkagpaaI
import Derived.Deep.RegionWith
namespace Go.Proofs.Ytebfphpmdkagpaa
open Go.RowKit
set_option maxRecDepth 100000
set_option maxHeartbeats 1000000

theorem below_grown {w w' : World} {row : Option Nat} (hb : Below w.heap.size w w') : w.grownBy w' row := ⟨hb.os, hb.tape, hb.output, hb.size, fun i hi _ => hb.block i hi⟩
theorem markSmoke_any (W H : Int) (g n c : Nat) (t : TypeId) (cs : List Value) (k : Int) (w : World) (hB : Bk w g t cs) (hl : n ≤ cs.length) (hn : n ≤ 1048576) (hk : 0 ≤ k ∧ k ≤ 1048576) :
    Calls Try.prog 21 #[.agg #[.int .i64 W, .int .i64 H, .slice (some ⟨g, 0, none⟩) n c], .int .i64 k] w fun e w' => e = .returned (.int .i64 (k + (n : Int))) ∧ w.grownBy w' (some g) := by
  go_enter Try.func21, Try.ntmps21
  go_wp2_with fail
  refine (markIntS_any g n c t cs k _ (hB.alloc _) hl (by omega) (by omega)).mono ?_
  rintro e w1 ⟨rfl, _, hG⟩
  go_wp2
  go_returns
  exact ⟨rfl, (below_grown (balloc (Below.refl _ _) _)).trans hG⟩
theorem fnExactThickCells_walk (W H : Int) (A : Option Addr) (n c : Nat) (zs : List Int) (lim : Int) (w : World) (_wW : I64 W) (_wH : I64 H) (hr' : Rd w 1 A n (zs.flatMap (fun n => [Value.int .i64 n]))) (hl : zs.length = n) (hn : n ≤ 9223372036854775807) (_ok : ∀ z ∈ zs, I64 z) (_wl : I64 lim) :
    Calls Try.prog 6 #[.agg #[.int .i64 W, .int .i64 H, .slice A n c], .int .i64 lim] w fun e w' => e = .returned (.bool true) ∧ Below w.heap.size w w' := by
  rw [ints_flat] at hr'
  have hr := hr'
  clear hr' _ok _wW _wH _wl
  go_enter Try.func6, Try.ntmps6
  go_upto_region 2 with fail
  refine wp_gen (fun w0 => Bk w0 w.heap.size 24 [.int .i64 W, .int .i64 H, .slice A n c] ∧ Below w.heap.size w w0) ⟨Bk.new' rfl, by (repeat' (first | (with_reducible exact Below.refl _ _) | (with_reducible assumption) | (with_reducible refine balloc ?_ _) | (with_reducible refine bdrew ?_) | (with_reducible refine bdrewN ?_ _) | (with_reducible refine bstep ?_ (by assumption)) | (with_reducible refine bset ?_ ?_ _) | (exact Below.size (by assumption)) | go_size))⟩ ?_
  intro w0 ⟨hX, hW⟩
  have hr := hr.below hW
  obtain ⟨x0, x1, x2, xl⟩ := three_cells hX
  by_cases hbig : n ≤ 1048576
  · obtain ⟨q, hq⟩ : ∃ q, smB W H zs = q := ⟨_, rfl⟩
    obtain ⟨L, hL⟩ : ∃ q, thkL W H lim zs = q := ⟨_, rfl⟩
    have hmn : L.length ≤ n := by rw [← hL, ← hl]; exact thkL_len W H lim zs
    obtain ⟨m, hm⟩ : ∃ m, L.length = m := ⟨_, rfl⟩
    rw [hm] at hmn
    have HQ := Lib.hid hq
    have HL := Lib.hid hL
    have HM := Lib.hid hm
    clear hq hL hm
    have hs : 0 ≤ szI n 1048576 := by unfold szI; split <;> omega
    go_wp2_with fail
    refine (szSmoke_any W H A n c 1048576 _ hn (by omega)).mono ?_
    rintro e w1 ⟨rfl, b1⟩
    clear x0 x1 x2 xl
    obtain ⟨x0, x1, x2, xl⟩ := three_cells (hX.below b1 hX.lt)
    go_wp2_with fail
    refine (toSmoke_any W H A n c zs _ (hr.below b1) hbig).mono ?_
    rintro e w2 ⟨g2, rfl, hg2, hB2, hb2⟩
    have b2 := bstep b1 hb2
    go_wp2_with fail
    refine (sThick_is HQ.out HL.out _ (bk_rd hB2 hl) hl hbig).mono ?_
    rintro e w3 ⟨v3, rfl, ho3, hb3⟩
    have b3 := bstep b2 hb3
    rw [HM.out] at ho3
    obtain ⟨A2, c2, rfl, r20, _⟩ := own_rd ho3
    clear x0 x1 x2 xl
    obtain ⟨x0, x1, x2, xl⟩ := three_cells (hX.below b3 hX.lt)
    go_wp2_with fail
    refine (toSmoke_any W H A n c zs _ (hr.below b3) hbig).mono ?_
    rintro e w4 ⟨g4, rfl, hg4, hB4, hb4⟩
    have b4 := bstep b3 hb4
    have e4 := hb4
    clear x0 x1 x2 xl
    have hY := Bk.new w4 27 [.int .i64 W, .int .i64 H, .slice (some ⟨g4, 0, none⟩) n n]
    have hBb := hB4.alloc (.cells #[.int .i64 W, .int .i64 H, .slice (some ⟨g4, 0, none⟩) n n] 27)
    have b5 := balloc b4 (.cells #[.int .i64 W, .int .i64 H, .slice (some ⟨g4, 0, none⟩) n n] 27)
    have e5 := balloc e4 (.cells #[.int .i64 W, .int .i64 H, .slice (some ⟨g4, 0, none⟩) n n] 27)
    have l45 : g4 < w4.heap.size := hB4.lt
    have HB4 := Lib.hid hB4
    clear hB4
    go_wp2_with fail
    refine (Thick_is HQ.out HL.out _ (bk_rd hBb hl) hl hbig).mono ?_
    rintro e w6 ⟨v6, rfl, ho6, hb6⟩
    rw [HM.out] at ho6
    rw [World.size_alloc] at ho6
    obtain ⟨A6, c6, rfl, r6, hm6⟩ := own_rd ho6
    have b6 := bstep b5 hb6
    have e6 := bstep e5 hb6
    have hY6 := hY.below hb6 hY.lt
    have hB6 := hBb.below hb6 hBb.lt
    clear hY hBb
    go_wp2_with fail
    refine (eqIntS_yes _ r6 (r20.below e6) (by omega) rfl).mono ?_
    rintro e w7 ⟨rfl, hb7⟩
    have b7 := bstep b6 hb7
    have e7 := bstep e6 hb7
    have ho7 := own_below ho6 hb7
    have hY7 := hY6.below hb7 hY6.lt
    have hB7 := hB6.below hb7 hB6.lt
    have hX7 := hX.below b7 hX.lt
    clear hY6 hB6 hb2 hb3 hb4 hb6 hB2 ho3 r6
    obtain ⟨x0, x1, x2, xl⟩ := three_cells hX7
    obtain ⟨y0, y1, y2, yl⟩ := three_cells hY7
    have HY := Lib.hid hY7
    have HX := Lib.hid hX7
    have HB := Lib.hid hB7
    have HO := Lib.hid ho7
    have R20 := Lib.hid r20
    clear hY7 hX7 hB7 ho7 ho6 r20
    go_upto_region 10 with fail
    go_cut [49] (fun s wx => s = .bool false ∧ Below w7.heap.size w7 wx)
    case first =>
      go_region_with (first
        | (go_at_call 11; refine (toSmoke_any W H A n c zs _ (hr.below (show Below w0.heap.size w0 _ from by (repeat' (first | (with_reducible exact Below.refl _ _) | (with_reducible assumption) | (with_reducible refine balloc ?_ _) | (with_reducible refine bdrew ?_) | (with_reducible refine bdrewN ?_ _) | (with_reducible refine bstep ?_ (by assumption)) | (with_reducible refine bset ?_ ?_ _) | (exact Below.size (by assumption)) | go_size)))) hbig).mono ?_; rintro e w8 ⟨g8, rfl, hg8, hB8, hb8⟩; have D8 : Below w7.heap.size w7 w8 := bstep (by (repeat' (first | (with_reducible exact Below.refl _ _) | (with_reducible assumption) | (with_reducible refine balloc ?_ _) | (with_reducible refine bdrew ?_) | (with_reducible refine bdrewN ?_ _) | (with_reducible refine bstep ?_ (by assumption)) | (with_reducible refine bset ?_ ?_ _) | (exact Below.size (by assumption)) | go_size))) hb8; have b8 := bstep b7 D8; clear x0 x1 x2 y0 y1 y2; obtain ⟨x0, x1, x2, xl⟩ := three_cells (HX.out.below D8 HX.out.lt); obtain ⟨y0, y1, y2, yl⟩ := three_cells (HY.out.below D8 HY.out.lt))
        | (go_at_call 13; refine (eqSmoke_same W H _ _ n n n zs _ (bk_rd (HB.out.below D8 HB.out.lt) hl) (bk_rd hB8 hl) hbig).mono ?_; rintro e w9 ⟨rfl, hb9⟩; have D9 := bstep D8 hb9))
      all_goals ((try go_wp2_with fail); go_meet; exact ⟨rfl, D9⟩)
    case rest =>
      obtain ⟨rfl, hb8⟩ := hcut
      have b8 := bstep b7 hb8
      have e8 := bstep e7 hb8
      have ho8 := own_below HO.out hb8
      have hY8 := HY.out.below hb8 HY.out.lt
      have hB8 := HB.out.below hb8 HB.out.lt
      clear x0 x1 x2 xl y0 y1 y2 yl
      obtain ⟨y0, y1, y2, yl⟩ := three_cells hY8
      have hBh := Lib.hid hB8
      have hYh := Lib.hid hY8
      clear hB8 hY8
      go_wp2_with fail
      refine (markSmoke_any W H g4 n n _ _ 1 _ hBh.out (by simp [ints, hl]) hbig (by omega)).mono ?_
      rintro e w9 ⟨rfl, hG9⟩
      have b9 := b8.grown hG9 b8.size (fun k e => by cases e; have := b3.size; omega)
      have e9 := e8.grown hG9 e8.size (fun k e => by cases e; omega)
      have ho9 := own_grown ho8 hG9 (by omega)
      go_wp2_with fail
      refine (eqIntS_yes _ (own_r ho9) (R20.out.below e9) (by omega) rfl).mono ?_
      rintro e w10 ⟨rfl, hb10⟩
      have b10 := bstep b9 hb10
      have e10 := bstep e9 hb10
      have ho10 := own_below ho9 hb10
      go_wp2_with fail
      refine (markIntS_own ho10 (by omega) (by omega)).mono ?_
      rintro e w11 ⟨rfl, ho11, hG11⟩
      have b11 := own_grownBy ho10 b10 hG11 (by have := b4.size; omega) b10.size
      have e11 := own_grownBy ho10 e10 hG11 (by have := e4.size; omega) e10.size
      go_wp2_with fail
      refine (heldIntS_any _ _ _ 1 _ (own_r ho11) (by omega) (by omega)).mono ?_
      rintro e w12 ⟨rfl, rfl⟩
      clear y0 y1 y2 yl
      obtain ⟨x0, x1, x2, xl⟩ := three_cells (hX.below b11 hX.lt)
      go_wp2_with fail
      refine (toSmoke_any W H A n c zs _ (hr.below b11) hbig).mono ?_
      rintro e w13 ⟨g13, rfl, hg13, hB13, hb13⟩
      have b13 := bstep b11 hb13
      have e13 := bstep e11 hb13
      have ho13 := own_below ho11 hb13
      clear x0 x1 x2 xl
      go_wp2_with fail
      refine (Thick_is HQ.out HL.out _ (bk_rd hB13 hl) hl hbig).mono ?_
      rintro e w14 ⟨v14, rfl, ho14, hb14⟩
      rw [HM.out] at ho14
      obtain ⟨A14, c14, rfl, r14, _⟩ := own_rd ho14
      have b14 := bstep b13 hb14
      have e14 := bstep e13 hb14
      have hp14 := own_below ho13 hb14
      go_wp2_with fail
      refine (eqIntS_yes _ r14 (R20.out.below e14) (by omega) rfl).mono ?_
      rintro e w15 ⟨rfl, hb15⟩
      go_wp2_with fail
      refine (heldIntS_any _ _ _ 1 _ (own_r (own_below hp14 hb15)) (by omega) (by omega)).mono ?_
      rintro e w16 ⟨rfl, rfl⟩
      go_wp2
      go_returns
      exact ⟨rfl, bstep hW (bstep b14 hb15)⟩
  · have hs : szI n 1048576 < 0 := by unfold szI; split <;> omega
    go_wp2_with fail
    refine (szSmoke_any W H A n c 1048576 _ hn (by omega)).mono ?_
    rintro e w1 ⟨rfl, hb1⟩
    go_wp2
    go_returns
    exact ⟨rfl, bstep hW hb1⟩
end Go.Proofs.Ytebfphpmdkagpaa
