/-
  FnExactDriestHour, walked. Conditions: none beyond the layout of its arguments.
-/
import Derived.Test.YtkbhpfgbodellaaW
namespace Go.Proofs.Ytkbhpfgbodellaa
open Go.RowKit
set_option maxRecDepth 100000
set_option maxHeartbeats 1000000

theorem fnExactDriestHour_walk (b : Int × Int) (A : Option Addr) (n c : Nat) (zs : List AirT) (w : World) (_w0 : I64 b.1 ∧ I64 b.2) (hr : Rd w 3 A n (airF zs)) (hl : zs.length = n) (hn : n ≤ 9223372036854775807) (_ok : ∀ z ∈ zs, I64 z.1 ∧ I64 z.2.1 ∧ I64 z.2.2) :
    Calls Try.prog 9 #[.agg #[.int .i64 b.1, .int .i64 b.2], .slice A n c] w fun e w' => e = .returned (.bool true) ∧ Below w.heap.size w w' := by
  obtain ⟨l, mo⟩ := b
  dsimp only at *
  clear _ok _w0
  by_cases hbig : n ≤ 1048576
  · have hS := fun A n c => sDriestHour_any l mo A n c zs
    have hI := fun A n c => DriestHour_any l mo A n c zs
    obtain ⟨q, hq⟩ : ∃ q, dhB l mo zs = q := ⟨_, rfl⟩
    obtain ⟨bi, hbi⟩ : ∃ q, dhI l mo zs = q := ⟨_, rfl⟩
    obtain ⟨bm, hbm⟩ : ∃ q, dhM l mo zs = q := ⟨_, rfl⟩
    rw [hq, hbi, hbm] at hS hI
    have HS := Lib.hid hS
    have HI := Lib.hid hI
    clear hS hI hq hbi hbm
    go_enter Try.func9, Try.ntmps9
    go_upto_region 1 with fail
    have hbox := Bk.new w 23 [.int .i64 l, .int .i64 mo]
    have hW := balloc (Below.refl w.heap.size w) (.cells #[.int .i64 l, .int .i64 mo] 23)
    generalize hw0 : w.alloc (.cells #[.int .i64 l, .int .i64 mo] 23) = w0 at *
    change Bk w0 _ _ _ at hbox
    clear hw0
    have hr := hr.below hW
    have hs : 0 ≤ szI n 1048576 := by unfold szI; split <;> omega
    go_wp2_with fail
    refine (szAirS_any A n c 1048576 _ (by omega) (by omega)).mono ?_
    rintro e w1 ⟨rfl, rfl⟩
    obtain ⟨k0, k1⟩ := two_cells hbox
    go_wp2_with fail
    refine (toFuelbed_any _ _ _).mono ?_
    rintro e w1 ⟨rfl, b1⟩
    go_wp2_with fail
    refine (toAirS_any A n c zs _ (hr.below b1) hl (by omega)).mono ?_
    rintro e w2 ⟨g2, rfl, hg2, hB2, hb2⟩
    have b2 := bstep b1 hb2
    go_wp2_with fail
    refine (HS.out _ _ _ _ (air_rd hB2 hl) hl (by omega)).mono ?_
    rintro e w3 ⟨rfl, hb3⟩
    have b3 := bstep b2 hb3
    go_wp2_with fail
    refine (toAirS_any A n c zs _ (hr.below b3) hl (by omega)).mono ?_
    rintro e w4 ⟨g4, rfl, hg4, hB4, hb4⟩
    have b4 := bstep b3 hb4
    clear k0 k1
    obtain ⟨k0, k1⟩ := two_cells (hbox.below b4 hbox.lt)
    go_wp2_with fail
    refine (toFuelbed_any _ _ _).mono ?_
    rintro e w5 ⟨rfl, hb5⟩
    have b5 := bstep b4 hb5
    have hB5 := hB4.below hb5 hB4.lt
    go_wp2_with fail
    refine (HI.out _ _ _ _ (air_rd hB5 hl) hl (by omega)).mono ?_
    rintro e w6 ⟨rfl, hb6⟩
    have b6 := bstep b5 hb6
    have hB6 := hB5.below hb6 hB5.lt
    go_wp2_with fail
    refine (toAirS_any A n c zs _ (hr.below b6) hl (by omega)).mono ?_
    rintro e w7 ⟨g7, rfl, hg7, hB7, hb7⟩
    have b7 := bstep b6 hb7
    go_wp2_with fail
    refine (eqAirS_same _ _ n n n zs _ (air_rd (hB6.below hb7 hB6.lt) hl) (air_rd hB7 hl) hl (by omega)).mono ?_
    rintro e w8 ⟨rfl, hb8⟩
    have b8 := bstep b7 hb8
    go_wp2
    go_returns
    exact ⟨rfl, bstep hW b8⟩
  · have hs : szI n 1048576 < 0 := by unfold szI; split <;> omega
    go_enter Try.func9, Try.ntmps9
    go_wp2_with fail
    refine (szAirS_any A n c 1048576 _ (by omega) (by omega)).mono ?_
    rintro e w0 ⟨rfl, rfl⟩
    go_wp2
    go_returns
    exact ⟨rfl, by (repeat' (first | (with_reducible exact Below.refl _ _) | (with_reducible assumption) | (with_reducible refine balloc ?_ _) | (with_reducible refine bdrew ?_) | (with_reducible refine bdrewN ?_ _) | (with_reducible refine bstep ?_ (by assumption)) | (with_reducible refine bset ?_ ?_ _) | (exact Below.size (by assumption)) | go_size))⟩
end Go.Proofs.Ytkbhpfgbodellaa
