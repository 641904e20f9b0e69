/-
  FnExactMoistureRun, walked. Conditions: none beyond the layout of its arguments.
-/
import Derived.Test.YtkbhpfgbodellaaU
import Derived.Deep.RegionWith
namespace Go.Proofs.Ytkbhpfgbodellaa
open Go.RowKit
set_option maxRecDepth 100000
set_option maxHeartbeats 1000000

theorem two_cells {w : World} {g : Nat} {t : TypeId} {a b : Value} (h : Bk w g t [a, b]) : w.cell? ⟨g, 0, none⟩ = some a ∧ w.cell? ⟨g, 1, none⟩ = some b := ⟨h.cell 0, h.cell 1⟩
theorem mrL_len (l m : Int) (zs : List AirT) : (mrL l m zs).length ≤ zs.length := by
  unfold mrL
  split
  · rw [runA_len]; exact Nat.le_refl _
  · exact Nat.zero_le _
theorem air_rd {w : World} {g n : Nat} {t : TypeId} {zs : List AirT} (h : Bk w g t (airF zs)) (hl : zs.length = n) : Rd w 3 (some ⟨g, 0, none⟩) n (airF zs) := h.rd (by rw [airF_len, hl])
theorem fnExactMoistureRun_walk (b : Int × Int) (A : Option Addr) (n c : Nat) (zs : List AirT) (w : World) (_w0 : I64 b.1 ∧ I64 b.2) (hr : Rd w 3 A n (airF zs)) (hl : zs.length = n) (hn : n ≤ 9223372036854775807) (_ok : ∀ z ∈ zs, I64 z.1 ∧ I64 z.2.1 ∧ I64 z.2.2) :
    Calls Try.prog 10 #[.agg #[.int .i64 b.1, .int .i64 b.2], .slice A n c] w fun e w' => e = .returned (.bool true) ∧ Below w.heap.size w w' := by
  obtain ⟨l, mo⟩ := b
  dsimp only at *
  clear _ok _w0
  by_cases hbig : n ≤ 1048576
  · obtain ⟨q, hq⟩ : ∃ q, mrB l mo zs = q := ⟨_, rfl⟩
    obtain ⟨L, hL⟩ : ∃ L, mrL l mo zs = L := ⟨_, rfl⟩
    have hmn : L.length ≤ n := by rw [← hL, ← hl]; exact mrL_len l mo zs
    obtain ⟨m, hm⟩ : ∃ m, L.length = m := ⟨_, rfl⟩
    rw [hm] at hmn
    go_enter Try.func10, Try.ntmps10
    go_upto_region 1 with fail
    have hbox := Bk.new w 23 [.int .i64 l, .int .i64 mo]
    have hW := balloc (Below.refl w.heap.size w) (.cells #[.int .i64 l, .int .i64 mo] 23)
    generalize hw0 : w.alloc (.cells #[.int .i64 l, .int .i64 mo] 23) = w0 at *
    change Bk w0 _ _ _ at hbox
    clear hw0
    have hr := hr.below hW
    have hs : 0 ≤ szI n 1048576 := by unfold szI; split <;> omega
    go_wp2_with fail
    refine (szAirS_any A n c 1048576 _ (by omega) (by omega)).mono ?_
    rintro e w1 ⟨rfl, rfl⟩
    obtain ⟨k0, k1⟩ := two_cells hbox
    have HQ := Lib.hid hq
    have HL := Lib.hid hL
    have HM := Lib.hid hm
    have HZ := Lib.hid hl
    clear hq hL hm hl
    go_upto_region 5 with fail
    clear hs
    go_cut [6, 7] (fun s6 s7 wx => ∃ A2 c2, s6 = .slice A2 m c2 ∧ s7 = .bool q ∧ wx.ownsRow w0.heap.size 3 1 (.slice A2 m c2) m (ints L) ∧ Below w0.heap.size w0 wx)
    case first =>
      go_wp2_with (first
        | (go_at_call 36; refine (toAirS_any A n c zs _ (hr.below (show Below w0.heap.size w0 _ from by (repeat' (first | (with_reducible exact Below.refl _ _) | (with_reducible assumption) | (with_reducible refine balloc ?_ _) | (with_reducible refine bdrew ?_) | (with_reducible refine bdrewN ?_ _) | (with_reducible refine bstep ?_ (by assumption)) | (with_reducible refine bset ?_ ?_ _) | (exact Below.size (by assumption)) | go_size)))) HZ.out (by omega)).mono ?_; rintro e w1 ⟨g1, rfl, hg1, hB1, hb1⟩; have B1 : Below w0.heap.size w0 w1 := bstep (by (repeat' (first | (with_reducible exact Below.refl _ _) | (with_reducible assumption) | (with_reducible refine balloc ?_ _) | (with_reducible refine bdrew ?_) | (with_reducible refine bdrewN ?_ _) | (with_reducible refine bstep ?_ (by assumption)) | (with_reducible refine bset ?_ ?_ _) | (exact Below.size (by assumption)) | go_size))) hb1; clear k0 k1; obtain ⟨k0, k1⟩ := two_cells (hbox.below B1 hbox.lt))
        | (go_at_call 15; refine (toFuelbed_any _ _ _).mono ?_; rintro e w2 ⟨rfl, hb2⟩; have B2 : Below w0.heap.size w0 w2 := bstep (by (repeat' (first | (with_reducible exact Below.refl _ _) | (with_reducible assumption) | (with_reducible refine balloc ?_ _) | (with_reducible refine bdrew ?_) | (with_reducible refine bdrewN ?_ _) | (with_reducible refine bstep ?_ (by assumption)) | (with_reducible refine bset ?_ ?_ _) | (exact Below.size (by assumption)) | go_size))) hb2; clear k0 k1; obtain ⟨k0, k1⟩ := two_cells (hbox.below B2 hbox.lt))
        | (go_at_call 39; refine (sMoistureRun_is HQ.out HL.out _ (air_rd (by first | exact hB1 | exact hB1.below hb2 hB1.lt) HZ.out) HZ.out (by omega)).mono ?_; rintro e w3 ⟨v3, rfl, hown3, hb3⟩; have B3 : Below w0.heap.size w0 w3 := bstep (by (repeat' (first | (with_reducible exact Below.refl _ _) | (with_reducible assumption) | (with_reducible refine balloc ?_ _) | (with_reducible refine bdrew ?_) | (with_reducible refine bdrewN ?_ _) | (with_reducible refine bstep ?_ (by assumption)) | (with_reducible refine bset ?_ ?_ _) | (exact Below.size (by assumption)) | go_size))) hb3; have o3 := own_weaken (base' := w0.heap.size) hown3 (Below.size (by (repeat' (first | (with_reducible exact Below.refl _ _) | (with_reducible assumption) | (with_reducible refine balloc ?_ _) | (with_reducible refine bdrew ?_) | (with_reducible refine bdrewN ?_ _) | (with_reducible refine bstep ?_ (by assumption)) | (with_reducible refine bset ?_ ?_ _) | (exact Below.size (by assumption)) | go_size))))))
      all_goals (rw [HM.out] at o3; obtain ⟨A2, c2, rfl, _, _⟩ := own_rd o3; (try go_wp2_with fail); go_meet; exact ⟨A2, c2, rfl, rfl, o3, B3⟩)
    case rest =>
      obtain ⟨A2, c2, rfl, rfl, o2, b2⟩ := hcut
      have hl := HZ.out
      have hm := HM.out
      clear k0 k1 HZ HM
      have r20 := own_r o2
      go_wp2_with fail
      refine (toAirS_any A n c zs _ (hr.below b2) hl (by omega)).mono ?_
      rintro e w3 ⟨g3, rfl, hg3, hB3, hb3⟩
      have b3 := bstep b2 hb3
      obtain ⟨k0, k1⟩ := two_cells (hbox.below b3 hbox.lt)
      go_wp2_with fail
      refine (toFuelbed_any _ _ _).mono ?_
      rintro e w30 ⟨rfl, hb30⟩
      have e3 := bstep hb3 hb30
      have b3 := bstep b3 hb30
      have hB3 := hB3.below hb30 hB3.lt
      go_wp2_with fail
      refine (MoistureRun_is HQ.out HL.out _ (air_rd hB3 hl) hl (by omega)).mono ?_
      rintro e w4 ⟨v4, rfl, ho4, hb4⟩
      rw [hm] at ho4
      obtain ⟨A4, c4, rfl, r4, hm4⟩ := own_rd ho4
      have b4 := bstep b3 hb4
      have e4 := bstep e3 hb4
      have hB4 := hB3.below hb4 hB3.lt
      go_wp2_with fail
      refine (eqIntS_yes _ r4 (r20.below e4) (by omega) rfl).mono ?_
      rintro e w5 ⟨rfl, hb5⟩
      have b5 := bstep b4 hb5
      have e5 := bstep e4 hb5
      have ho5 := own_below ho4 hb5
      have hB5 := hB4.below hb5 hB4.lt
      go_wp2_with fail
      refine (toAirS_any A n c zs _ (hr.below b5) hl (by omega)).mono ?_
      rintro e w6 ⟨g6, rfl, hg6, hB6, hb6⟩
      have b6 := bstep b5 hb6
      have e6 := bstep e5 hb6
      have ho6 := own_below ho5 hb6
      have hB6' := hB5.below hb6 hB5.lt
      go_wp2_with fail
      refine (eqAirS_same _ _ n n n zs _ (air_rd hB6' hl) (air_rd hB6 hl) hl (by omega)).mono ?_
      rintro e w7 ⟨rfl, hb7⟩
      have b7 := bstep b6 hb7
      have e7 := bstep e6 hb7
      have ho7 := own_below ho6 hb7
      have hB7 := hB6'.below hb7 hB6'.lt
      go_wp2_with fail
      refine (markAirS_any g3 n n _ _ 1 _ hB7 (by simp [airF_len, hl]) (by omega) (by omega)).mono ?_
      rintro e w8 ⟨rfl, hB8, hG8⟩
      have b8 := b7.grown hG8 b7.size (fun k e => by cases e; have := b2.size; omega)
      have e8 := e7.grown hG8 e7.size (fun k e => by cases e; omega)
      have ho8 := own_grown ho7 hG8 hB3.lt
      go_wp2_with fail
      refine (eqIntS_yes _ (own_r ho8) (r20.below e8) (by omega) rfl).mono ?_
      rintro e w9 ⟨rfl, hb9⟩
      have b9 := bstep b8 hb9
      have e9 := bstep e8 hb9
      have ho9 := own_below ho8 hb9
      go_wp2_with fail
      refine (markIntS_own ho9 (by omega) (by omega)).mono ?_
      rintro e w10 ⟨rfl, ho10, hG10⟩
      have b10 := own_grownBy ho9 b9 hG10 b3.size b9.size
      have e10 := own_grownBy ho9 e9 hG10 e3.size e9.size
      go_wp2_with fail
      refine (heldIntS_any _ _ _ 1 _ (own_r ho10) (by omega) (by omega)).mono ?_
      rintro e w11 ⟨rfl, rfl⟩
      clear k0 k1
      obtain ⟨k0, k1⟩ := two_cells (hbox.below b10 hbox.lt)
      have HZ := Lib.hid hl
      have HM := Lib.hid hm
      clear hl hm
      go_upto_region 24 with fail
      go_cut [14, 15] (fun s6 s7 wx => ∃ A2 c2, s6 = .slice A2 m c2 ∧ s7 = .bool q ∧ Rd wx 1 A2 m (ints L) ∧ Below w10.heap.size w10 wx)
      case first =>
        go_wp2_with (first
          | (go_at_call 36; refine (toAirS_any A n c zs _ (hr.below (show Below w0.heap.size w0 _ from by (repeat' (first | (with_reducible exact Below.refl _ _) | (with_reducible assumption) | (with_reducible refine balloc ?_ _) | (with_reducible refine bdrew ?_) | (with_reducible refine bdrewN ?_ _) | (with_reducible refine bstep ?_ (by assumption)) | (with_reducible refine bset ?_ ?_ _) | (exact Below.size (by assumption)) | go_size)))) HZ.out (by omega)).mono ?_; rintro e w1 ⟨g1, rfl, hg1, hB1, hb1⟩; have B1 : Below w10.heap.size w10 w1 := bstep (by (repeat' (first | (with_reducible exact Below.refl _ _) | (with_reducible assumption) | (with_reducible refine balloc ?_ _) | (with_reducible refine bdrew ?_) | (with_reducible refine bdrewN ?_ _) | (with_reducible refine bstep ?_ (by assumption)) | (with_reducible refine bset ?_ ?_ _) | (exact Below.size (by assumption)) | go_size))) hb1; have b1 := bstep b10 B1; clear k0 k1; obtain ⟨k0, k1⟩ := two_cells (hbox.below b1 hbox.lt))
          | (go_at_call 15; refine (toFuelbed_any _ _ _).mono ?_; rintro e w2 ⟨rfl, hb2⟩; have B2 : Below w10.heap.size w10 w2 := bstep (by (repeat' (first | (with_reducible exact Below.refl _ _) | (with_reducible assumption) | (with_reducible refine balloc ?_ _) | (with_reducible refine bdrew ?_) | (with_reducible refine bdrewN ?_ _) | (with_reducible refine bstep ?_ (by assumption)) | (with_reducible refine bset ?_ ?_ _) | (exact Below.size (by assumption)) | go_size))) hb2; have b2 := bstep b10 B2; clear k0 k1; obtain ⟨k0, k1⟩ := two_cells (hbox.below b2 hbox.lt))
          | (go_at_call 40; refine (MoistureRun_is HQ.out HL.out _ (air_rd (by first | exact hB1 | exact hB1.below hb2 hB1.lt) HZ.out) HZ.out (by omega)).mono ?_; rintro e w3 ⟨v3, rfl, hown3, hb3⟩; have B3 : Below w10.heap.size w10 w3 := bstep (by (repeat' (first | (with_reducible exact Below.refl _ _) | (with_reducible assumption) | (with_reducible refine balloc ?_ _) | (with_reducible refine bdrew ?_) | (with_reducible refine bdrewN ?_ _) | (with_reducible refine bstep ?_ (by assumption)) | (with_reducible refine bset ?_ ?_ _) | (exact Below.size (by assumption)) | go_size))) hb3))
        all_goals (rw [HM.out] at hown3; obtain ⟨A2, c2, rfl, r3, _⟩ := own_rd hown3; (try go_wp2_with fail); go_meet; exact ⟨A2, c2, rfl, rfl, r3, B3⟩)
      case rest =>
        obtain ⟨A13, c13, rfl, rfl, r13, b13⟩ := hcut
        have hm := HM.out
        go_wp2_with fail
        refine (eqIntS_yes _ r13 (r20.below (bstep e10 b13)) (by omega) rfl).mono ?_
        rintro e w14 ⟨rfl, hb14⟩
        go_wp2_with fail
        refine (heldIntS_any _ _ _ 1 _ (own_r (own_below (own_below ho10 b13) hb14)) (by omega) (by omega)).mono ?_
        rintro e w15 ⟨rfl, rfl⟩
        go_wp2
        go_returns
        exact ⟨rfl, bstep hW (bstep (bstep b10 b13) hb14)⟩
  · have hs : szI n 1048576 < 0 := by unfold szI; split <;> omega
    go_enter Try.func10, Try.ntmps10
    go_wp2_with fail
    refine (szAirS_any A n c 1048576 _ (by omega) (by omega)).mono ?_
    rintro e w0 ⟨rfl, rfl⟩
    go_wp2
    go_returns
    exact ⟨rfl, by (repeat' (first | (with_reducible exact Below.refl _ _) | (with_reducible assumption) | (with_reducible refine balloc ?_ _) | (with_reducible refine bdrew ?_) | (with_reducible refine bdrewN ?_ _) | (with_reducible refine bstep ?_ (by assumption)) | (with_reducible refine bset ?_ ?_ _) | (exact Below.size (by assumption)) | go_size))⟩
end Go.Proofs.Ytkbhpfgbodellaa
