/-
  FnExactSmokeFrom, walked. Conditions: none beyond the layout of its arguments.
-/
import Derived.Test.YtebfphpmdkagpaaU
import Derived.Deep.RegionWith
namespace Go.Proofs.Ytebfphpmdkagpaa
open Go.RowKit
set_option maxRecDepth 100000
set_option maxHeartbeats 8000000

theorem fnExactSmokeFrom_walk (W H : Int) (A : Option Addr) (n c : Nat) (zs : List Int) (a : Int × Int × Int) (x : Int) (w : World) (_wW : I64 W) (_wH : I64 H) (hr' : Rd w 1 A n (zs.flatMap (fun n => [Value.int .i64 n]))) (hl : zs.length = n) (hn : n ≤ 9223372036854775807) (_ok : ∀ z ∈ zs, I64 z) (_wa : I64 a.1 ∧ I64 a.2.1 ∧ I64 a.2.2) (_wx : I64 x) :
    Calls Try.prog 7 #[.agg #[.int .i64 W, .int .i64 H, .slice A n c], .agg #[.int .i64 a.1, .int .i64 a.2.1, .int .i64 a.2.2], .int .i64 x] w fun e w' => e = .returned (.bool true) ∧ Below w.heap.size w w' := by
  obtain ⟨e, s, h⟩ := a
  dsimp only at *
  rw [ints_flat] at hr'
  have hr := hr'
  clear hr' _ok _wW _wH _wa _wx
  go_enter Try.func7, Try.ntmps7
  go_upto_region 2 with fail
  refine wp_gen (fun w0 => Bk w0 w.heap.size 24 [.int .i64 W, .int .i64 H, .slice A n c] ∧ Bk w0 (w.heap.size + 1) 42 [.int .i64 e, .int .i64 s, .int .i64 h] ∧ Below w.heap.size w w0) ⟨Bk.alloc (Bk.new' rfl) _, Bk.new' (by simp), by (repeat' (first | (with_reducible exact Below.refl _ _) | (with_reducible assumption) | (with_reducible refine balloc ?_ _) | (with_reducible refine bdrew ?_) | (with_reducible refine bdrewN ?_ _) | (with_reducible refine bstep ?_ (by assumption)) | (with_reducible refine bset ?_ ?_ _) | (exact Below.size (by assumption)) | go_size))⟩ ?_
  intro w00 ⟨hX, hY, hW0⟩
  have hr := hr.below hW0
  obtain ⟨x0, x1, x2, xl⟩ := three_cells hX
  by_cases hbig : n ≤ 1048576
  · obtain ⟨q, hq⟩ : ∃ q, sfB W H e s h x zs = q := ⟨_, rfl⟩
    obtain ⟨L, hL⟩ : ∃ q, sfL W H e s h x zs = q := ⟨_, rfl⟩
    have hmn : L.length ≤ n := by rw [← hL, ← hl]; exact sfL_len
    obtain ⟨m, hm⟩ : ∃ m, L.length = m := ⟨_, rfl⟩
    rw [hm] at hmn
    have HQ := Lib.hid hq
    have HL := Lib.hid hL
    have HM := Lib.hid hm
    clear hq hL hm
    have hs : 0 ≤ szI n 1048576 := by unfold szI; split <;> omega
    go_wp2_with fail
    refine (szSmoke_any W H A n c 1048576 _ hn (by omega)).mono ?_
    rintro r w0 ⟨rfl, hb1⟩
    have hW := bstep hW0 hb1
    have hX := hX.below hb1 hX.lt
    have hY := hY.below hb1 hY.lt
    have hr := hr.below hb1
    clear x0 x1 x2 xl hW0 hb1
    obtain ⟨x0, x1, x2, xl⟩ := three_cells hX
    obtain ⟨y0, y1, y2, yl⟩ := three_cells hY
    have HXX := Lib.hid hX
    have HYY := Lib.hid hY
    go_upto_region 5 with fail
    clear hs
    go_cut [8, 9] (fun s8 s9 wx => ∃ A2 c2, s8 = .slice A2 m c2 ∧ s9 = .bool q ∧ wx.ownsRow w0.heap.size 3 1 (.slice A2 m c2) m (ints L) ∧ Below w0.heap.size w0 wx)
    case first =>
      go_region_with (first
        | (go_at_call 11; refine (toSmoke_any W H A n c zs _ (hr.below (show Below w0.heap.size w0 _ from bstep (by first | exact Below.refl _ _ | assumption) (show Below w0.heap.size w0 _ from by (repeat' (first | (with_reducible exact Below.refl _ _) | (with_reducible assumption) | (with_reducible refine balloc ?_ _) | (with_reducible refine bdrew ?_) | (with_reducible refine bdrewN ?_ _) | (with_reducible refine bstep ?_ (by assumption)) | (with_reducible refine bset ?_ ?_ _) | (exact Below.size (by assumption)) | go_size))))) hbig).mono ?_; rintro r w' ⟨g8, rfl, hg8, hB8, hb⟩; have B : Below w0.heap.size w0 w' := bstep (by (repeat' (first | (with_reducible exact Below.refl _ _) | (with_reducible assumption) | (with_reducible refine balloc ?_ _) | (with_reducible refine bdrew ?_) | (with_reducible refine bdrewN ?_ _) | (with_reducible refine bstep ?_ (by assumption)) | (with_reducible refine bset ?_ ?_ _) | (exact Below.size (by assumption)) | go_size))) hb; clear x0 x1 x2 xl y0 y1 y2 yl; obtain ⟨x0, x1, x2, xl⟩ := three_cells (hX.below B hX.lt); obtain ⟨y0, y1, y2, yl⟩ := three_cells (hY.below B hY.lt))
        | (go_at_call 25; refine (toWind_any _ _ _ _).mono ?_; rintro r w' ⟨rfl, hb2⟩; have B : Below w0.heap.size w0 w' := bstep (by (repeat' (first | (with_reducible exact Below.refl _ _) | (with_reducible assumption) | (with_reducible refine balloc ?_ _) | (with_reducible refine bdrew ?_) | (with_reducible refine bdrewN ?_ _) | (with_reducible refine bstep ?_ (by assumption)) | (with_reducible refine bset ?_ ?_ _) | (exact Below.size (by assumption)) | go_size))) hb2; clear x0 x1 x2 xl y0 y1 y2 yl; obtain ⟨x0, x1, x2, xl⟩ := three_cells (hX.below B hX.lt); obtain ⟨y0, y1, y2, yl⟩ := three_cells (hY.below B hY.lt))
        | (go_at_call 24; refine (sSmokeFrom_is HQ.out HL.out _ (bk_rd (by first | exact hB8 | exact hB8.below hb2 hB8.lt) hl) hl hbig).mono ?_; rintro r w' ⟨v3, rfl, ho3, hb⟩; have B : Below w0.heap.size w0 w' := bstep (by (repeat' (first | (with_reducible exact Below.refl _ _) | (with_reducible assumption) | (with_reducible refine balloc ?_ _) | (with_reducible refine bdrew ?_) | (with_reducible refine bdrewN ?_ _) | (with_reducible refine bstep ?_ (by assumption)) | (with_reducible refine bset ?_ ?_ _) | (exact Below.size (by assumption)) | go_size))) hb; have o3 := own_weaken (base' := w0.heap.size) ho3 (Below.size (by (repeat' (first | (with_reducible exact Below.refl _ _) | (with_reducible assumption) | (with_reducible refine balloc ?_ _) | (with_reducible refine bdrew ?_) | (with_reducible refine bdrewN ?_ _) | (with_reducible refine bstep ?_ (by assumption)) | (with_reducible refine bset ?_ ?_ _) | (exact Below.size (by assumption)) | go_size)))); clear ho3))
      all_goals (rw [HM.out] at o3; obtain ⟨A2, c2, rfl, _, _⟩ := own_rd o3; go_wp2_with fail; go_meet; exact ⟨A2, c2, rfl, rfl, o3, B⟩)
    case rest =>
      obtain ⟨A2, c2, rfl, rfl, o2, b2⟩ := hcut
      obtain ⟨w2, rfl⟩ : ∃ w2, w2 = wc := ⟨_, rfl⟩
      have R20 := Lib.hid (own_r o2)
      clear o2 x0 x1 x2 xl y0 y1 y2 yl hX hY
      obtain ⟨x0, x1, x2, xl⟩ := three_cells (HXX.out.below b2 HXX.out.lt)
      go_wp2_with fail
      refine (toSmoke_any W H A n c zs _ (hr.below b2) hbig).mono ?_
      rintro r w4 ⟨g4, rfl, hg4, hB4, hb4⟩
      have b4 := bstep b2 hb4
      clear x0 x1 x2 xl
      go_upto_region 7 with fail
      refine wp_gen (fun w5 => Bk w5 w4.heap.size 27 [.int .i64 W, .int .i64 H, .slice (some ⟨g4, 0, none⟩) n n] ∧ Bk w5 g4 3 (ints zs) ∧ Below w0.heap.size w0 w5 ∧ Below w2.heap.size w2 w5) ⟨Bk.new' rfl, hB4.alloc _, balloc b4 _, balloc hb4 _⟩ ?_
      intro w5 ⟨hZ, hB5, b5, e5⟩
      have hY := HYY.out.below b5 HYY.out.lt
      obtain ⟨y0, y1, y2, yl⟩ := three_cells hY
      obtain ⟨z0, z1, z2, zl⟩ := three_cells hZ
      have HB5 := Lib.hid hB5
      have HZ := Lib.hid hZ
      have HYc := Lib.hid hY
      clear hB4 hB5
      go_cut [11, 12] (fun s11 s12 wx => ∃ A3 c3, s11 = .slice A3 m c3 ∧ s12 = .bool q ∧ wx.ownsRow w5.heap.size 3 1 (.slice A3 m c3) m (ints L) ∧ Below w5.heap.size w5 wx)
      case first =>
        go_region_with (first
        | (go_at_call 25; refine (toWind_any _ _ _ _).mono ?_; rintro r w' ⟨rfl, hb2⟩; have B : Below w5.heap.size w5 w' := bstep (by (repeat' (first | (with_reducible exact Below.refl _ _) | (with_reducible assumption) | (with_reducible refine balloc ?_ _) | (with_reducible refine bdrew ?_) | (with_reducible refine bdrewN ?_ _) | (with_reducible refine bstep ?_ (by assumption)) | (with_reducible refine bset ?_ ?_ _) | (exact Below.size (by assumption)) | go_size))) hb2; clear y0 y1 y2 yl z0 z1 z2 zl; obtain ⟨y0, y1, y2, yl⟩ := three_cells (hY.below B hY.lt); obtain ⟨z0, z1, z2, zl⟩ := three_cells (hZ.below B hZ.lt))
        | (go_at_call 26; refine (SmokeFrom_is HQ.out HL.out _ (bk_rd (HB5.out.below B HB5.out.lt) hl) hl hbig).mono ?_; rintro r w' ⟨v3, rfl, ho3, hb⟩; have B : Below w5.heap.size w5 w' := bstep (by (repeat' (first | (with_reducible exact Below.refl _ _) | (with_reducible assumption) | (with_reducible refine balloc ?_ _) | (with_reducible refine bdrew ?_) | (with_reducible refine bdrewN ?_ _) | (with_reducible refine bstep ?_ (by assumption)) | (with_reducible refine bset ?_ ?_ _) | (exact Below.size (by assumption)) | go_size))) hb; have o3 := own_weaken (base' := w5.heap.size) ho3 (Below.size (by (repeat' (first | (with_reducible exact Below.refl _ _) | (with_reducible assumption) | (with_reducible refine balloc ?_ _) | (with_reducible refine bdrew ?_) | (with_reducible refine bdrewN ?_ _) | (with_reducible refine bstep ?_ (by assumption)) | (with_reducible refine bset ?_ ?_ _) | (exact Below.size (by assumption)) | go_size)))); clear ho3))
        all_goals (rw [HM.out] at o3; obtain ⟨A2, c2, rfl, _, _⟩ := own_rd o3; go_wp2_with fail; go_meet; exact ⟨A2, c2, rfl, rfl, o3, B⟩)
      case rest =>
        obtain ⟨A3, c3, rfl, rfl, o3, b6⟩ := hcut
        obtain ⟨w6, rfl⟩ : ∃ w6, w6 = wc := ⟨_, rfl⟩
        have HO := Lib.hid o3
        have e6 := bstep e5 b6
        clear o3 y0 y1 y2 yl z0 z1 z2 zl hY hZ
        go_wp2_with fail
        refine (eqIntS_yes _ (own_r HO.out) (R20.out.below e6) (by omega) rfl).mono ?_
        rintro r w7 ⟨rfl, hb7⟩
        have b7 := bstep b6 hb7
        have c7 := bstep b5 b7
        have e7 := bstep e6 hb7
        have hX := HXX.out.below c7 HXX.out.lt
        have hZ := HZ.out.below b7 HZ.out.lt
        obtain ⟨x0, x1, x2, xl⟩ := three_cells hX
        obtain ⟨z0, z1, z2, zl⟩ := three_cells hZ
        go_upto_region 10 with fail
        go_cut [55] (fun s wx => s = .bool false ∧ Below w7.heap.size w7 wx)
        case first =>
          go_region_with (first
            | (go_at_call 11; refine (toSmoke_any W H A n c zs _ (hr.below (bstep c7 (show Below w7.heap.size w7 _ from by (repeat' (first | (with_reducible exact Below.refl _ _) | (with_reducible assumption) | (with_reducible refine balloc ?_ _) | (with_reducible refine bdrew ?_) | (with_reducible refine bdrewN ?_ _) | (with_reducible refine bstep ?_ (by assumption)) | (with_reducible refine bset ?_ ?_ _) | (exact Below.size (by assumption)) | go_size))))) hbig).mono ?_; rintro r w' ⟨g8, rfl, hg8, hB8, hb⟩; have B : Below w7.heap.size w7 w' := bstep (by (repeat' (first | (with_reducible exact Below.refl _ _) | (with_reducible assumption) | (with_reducible refine balloc ?_ _) | (with_reducible refine bdrew ?_) | (with_reducible refine bdrewN ?_ _) | (with_reducible refine bstep ?_ (by assumption)) | (with_reducible refine bset ?_ ?_ _) | (exact Below.size (by assumption)) | go_size))) hb; clear x0 x1 x2 xl z0 z1 z2 zl; obtain ⟨x0, x1, x2, xl⟩ := three_cells (hX.below B hX.lt); obtain ⟨z0, z1, z2, zl⟩ := three_cells (hZ.below B hZ.lt))
            | (go_at_call 13; refine (eqSmoke_same W H _ _ n n n zs _ (bk_rd (HB5.out.below (bstep b7 B) HB5.out.lt) hl) (bk_rd hB8 hl) hbig).mono ?_; rintro r w' ⟨rfl, hb⟩; have B2 := bstep B hb))
          all_goals ((try go_wp2_with fail); go_meet; exact ⟨rfl, B2⟩)
        case rest =>
          obtain ⟨rfl, hb8⟩ := hcut
          obtain ⟨w8, rfl⟩ : ∃ w8, w8 = wc := ⟨_, rfl⟩
          have b8 := bstep b7 hb8
          have e8 := bstep e7 hb8
          have c8 := bstep c7 hb8
          have hY8 := HYY.out.below c8 HYY.out.lt
          have ho8 := own_below HO.out (bstep hb7 hb8)
          have hB8 := HB5.out.below b8 HB5.out.lt
          have hZ8 := HZ.out.below b8 HZ.out.lt
          have l45 := HB5.out.lt
          have HO8 := Lib.hid ho8
          have HB8 := Lib.hid hB8
          have HZ8 := Lib.hid hZ8
          have HY8 := Lib.hid hY8
          clear x0 x1 x2 xl z0 z1 z2 zl hX hZ ho8 hB8 hZ8 hY8
          obtain ⟨z0, z1, z2, zl⟩ := three_cells HZ8.out
          go_wp2_with fail
          refine (markSmoke_any W H g4 n n _ _ 1 _ HB8.out (by simp [ints, hl]) hbig (by omega)).mono ?_
          rintro r w9 ⟨rfl, hG9⟩
          have c9 := c8.grown hG9 c8.size (fun k e => by cases e; have := b2.size; omega)
          have e9 := e8.grown hG9 e8.size (fun k e => by cases e; omega)
          have ho9 := own_grown HO8.out hG9 (by omega)
          clear z0 z1 z2 zl
          go_wp2_with fail
          refine (eqIntS_yes _ (own_r ho9) (R20.out.below e9) (by omega) rfl).mono ?_
          rintro r w10 ⟨rfl, hb10⟩
          have c10 := bstep c9 hb10
          have e10 := bstep e9 hb10
          have ho10 := own_below ho9 hb10
          go_wp2_with fail
          refine (markIntS_own ho10 (by omega) (by omega)).mono ?_
          rintro r w11 ⟨rfl, ho11, hG11⟩
          have c11 := own_grownBy ho10 c10 hG11 (by have := b5.size; omega) c10.size
          have e11 := own_grownBy ho10 e10 hG11 (by have := e5.size; omega) e10.size
          have HO11 := Lib.hid ho11
          clear ho9 ho10 ho11
          go_wp2_with fail
          refine (heldIntS_any _ _ _ 1 _ (own_r HO11.out) (by omega) (by omega)).mono ?_
          rintro r w12 ⟨rfl, rfl⟩
          have hX := HXX.out.below c11 HXX.out.lt
          have hY := HYY.out.below c11 HYY.out.lt
          obtain ⟨x0, x1, x2, xl⟩ := three_cells hX
          obtain ⟨y0, y1, y2, yl⟩ := three_cells hY
          go_upto_region 24 with fail
          go_cut [16, 17] (fun s11 s12 wx => ∃ A3 c3, s11 = .slice A3 m c3 ∧ s12 = .bool q ∧ wx.ownsRow w11.heap.size 3 1 (.slice A3 m c3) m (ints L) ∧ Below w11.heap.size w11 wx)
          case first =>
            go_region_with (first
        | (go_at_call 11; refine (toSmoke_any W H A n c zs _ (hr.below (show Below w0.heap.size w0 _ from bstep (by first | exact Below.refl _ _ | assumption) (show Below w11.heap.size w11 _ from by (repeat' (first | (with_reducible exact Below.refl _ _) | (with_reducible assumption) | (with_reducible refine balloc ?_ _) | (with_reducible refine bdrew ?_) | (with_reducible refine bdrewN ?_ _) | (with_reducible refine bstep ?_ (by assumption)) | (with_reducible refine bset ?_ ?_ _) | (exact Below.size (by assumption)) | go_size))))) hbig).mono ?_; rintro r w' ⟨g8, rfl, hg8, hB8, hb⟩; have B : Below w11.heap.size w11 w' := bstep (by (repeat' (first | (with_reducible exact Below.refl _ _) | (with_reducible assumption) | (with_reducible refine balloc ?_ _) | (with_reducible refine bdrew ?_) | (with_reducible refine bdrewN ?_ _) | (with_reducible refine bstep ?_ (by assumption)) | (with_reducible refine bset ?_ ?_ _) | (exact Below.size (by assumption)) | go_size))) hb; clear x0 x1 x2 xl y0 y1 y2 yl; obtain ⟨x0, x1, x2, xl⟩ := three_cells (hX.below B hX.lt); obtain ⟨y0, y1, y2, yl⟩ := three_cells (hY.below B hY.lt))
        | (go_at_call 25; refine (toWind_any _ _ _ _).mono ?_; rintro r w' ⟨rfl, hb2⟩; have B : Below w11.heap.size w11 w' := bstep (by (repeat' (first | (with_reducible exact Below.refl _ _) | (with_reducible assumption) | (with_reducible refine balloc ?_ _) | (with_reducible refine bdrew ?_) | (with_reducible refine bdrewN ?_ _) | (with_reducible refine bstep ?_ (by assumption)) | (with_reducible refine bset ?_ ?_ _) | (exact Below.size (by assumption)) | go_size))) hb2; clear x0 x1 x2 xl y0 y1 y2 yl; obtain ⟨x0, x1, x2, xl⟩ := three_cells (hX.below B hX.lt); obtain ⟨y0, y1, y2, yl⟩ := three_cells (hY.below B hY.lt))
        | (go_at_call 26; refine (SmokeFrom_is HQ.out HL.out _ (bk_rd (by first | exact hB8 | exact hB8.below hb2 hB8.lt) hl) hl hbig).mono ?_; rintro r w' ⟨v3, rfl, ho3, hb⟩; have B : Below w11.heap.size w11 w' := bstep (by (repeat' (first | (with_reducible exact Below.refl _ _) | (with_reducible assumption) | (with_reducible refine balloc ?_ _) | (with_reducible refine bdrew ?_) | (with_reducible refine bdrewN ?_ _) | (with_reducible refine bstep ?_ (by assumption)) | (with_reducible refine bset ?_ ?_ _) | (exact Below.size (by assumption)) | go_size))) hb; have o3 := own_weaken (base' := w11.heap.size) ho3 (Below.size (by (repeat' (first | (with_reducible exact Below.refl _ _) | (with_reducible assumption) | (with_reducible refine balloc ?_ _) | (with_reducible refine bdrew ?_) | (with_reducible refine bdrewN ?_ _) | (with_reducible refine bstep ?_ (by assumption)) | (with_reducible refine bset ?_ ?_ _) | (exact Below.size (by assumption)) | go_size)))); clear ho3))
            all_goals (rw [HM.out] at o3; obtain ⟨A2, c2, rfl, _, _⟩ := own_rd o3; go_wp2_with fail; go_meet; exact ⟨A2, c2, rfl, rfl, o3, B⟩)
          case rest =>
            obtain ⟨A14, c14, rfl, rfl, o14, b14⟩ := hcut
            have R14 := Lib.hid (own_r o14)
            clear o14 x0 x1 x2 xl y0 y1 y2 yl hX hY
            go_wp2_with fail
            refine (eqIntS_yes _ R14.out (R20.out.below (bstep e11 b14)) (by omega) rfl).mono ?_
            rintro r w15 ⟨rfl, hb15⟩
            go_wp2_with fail
            refine (heldIntS_any _ _ _ 1 _ (own_r (own_below (own_below HO11.out b14) hb15)) (by omega) (by omega)).mono ?_
            rintro r w16 ⟨rfl, rfl⟩
            go_wp2
            go_returns
            exact ⟨rfl, bstep hW (bstep (bstep c11 b14) hb15)⟩
  · have hs : szI n 1048576 < 0 := by unfold szI; split <;> omega
    go_wp2_with fail
    refine (szSmoke_any W H A n c 1048576 _ hn (by omega)).mono ?_
    rintro r w1 ⟨rfl, hb1⟩
    go_wp2
    go_returns
    exact ⟨rfl, bstep hW0 hb1⟩
end Go.Proofs.Ytebfphpmdkagpaa
