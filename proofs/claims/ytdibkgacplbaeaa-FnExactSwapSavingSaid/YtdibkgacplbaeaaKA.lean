/-
  FnExactSwapSaving, walked. Conditions: none beyond the layout of its arguments.
-/
import Derived.Test.YtdibkgacplbaeaaK9
namespace Go.Proofs.Ytdibkgacplbaeaa
open Go.RowKit
set_option maxRecDepth 100000
set_option maxHeartbeats 1000000

theorem fnExactSwapSaving_walk (A : Option Addr) (n c : Nat) (z : List Row3) (B1 : Option Addr) (m1 d1 : Nat) (p1 : List Int) (x : Int) (y : Int) (w : World) (hr' : Rd w 1 A n (z.flatMap (fun r : Row3 => [Value.slice r.1 r.2.1 r.2.2]))) (hl : z.length = n) (hn : n ≤ 9223372036854775807)
    (ok : ∀ r ∈ z, r.2.1 ≤ r.2.2 ∧ r.2.2 ≤ maxLen ∧ ∃ zs : List Int, zs.length = r.2.1 ∧ Rd w 1 r.1 r.2.1 (zs.flatMap (fun n => [Value.int .i64 n])) ∧ ∀ y ∈ zs, I64 y) (hy1' : Rd w 1 B1 m1 (p1.flatMap (fun n => [Value.int .i64 n]))) (hl1 : p1.length = m1) (hn1 : m1 ≤ 9223372036854775807) (_ok1 : ∀ z ∈ p1, I64 z) (_hx : I64 x) (_hy : I64 y) :
    Calls Try.prog 7 #[.slice A n c, .slice B1 m1 d1, .int .i64 x, .int .i64 y] w fun e w' => e = .returned (.bool true) ∧ Below w.heap.size w w' := by
  obtain ⟨T, hr, hm9⟩ := table_of hr' hl ok
  rw [ints_flat] at hy1'
  have hy1 := hy1'
  clear hr' ok hl hy1' _ok1
  have hl := hr.1
  by_cases hb1 : m1 ≤ 1048576
  case neg =>
    have i1 : (1048576 : Int) < (m1 : Int) := by omega
    go_enter Try.func7, Try.ntmps7
    go_wp2
    go_returns
    exact ⟨rfl, by (repeat' (first | (with_reducible exact Below.refl _ _) | (with_reducible assumption) | (with_reducible refine balloc ?_ _) | (with_reducible refine bdrew ?_) | (with_reducible refine bdrewN ?_ _) | (with_reducible refine bstep ?_ (by assumption)) | (with_reducible refine bset ?_ ?_ _) | (exact Below.size (by assumption)) | go_size))⟩
  have i1 : ¬ (1048576 : Int) < (m1 : Int) := by omega
  have hz := fun W (hW : Below w.heap.size w W) => szIntSS_any A n c T W (hr.below hW) hn hm9
  obtain ⟨q, hq⟩ : ∃ val, ssB T p1 x y = val := ⟨_, rfl⟩
  have Hq := Lib.hid hq
  obtain ⟨fv, hfv⟩ : ∃ val, ssI T p1 x y = val := ⟨_, rfl⟩
  have Hfv := Lib.hid hfv
  clear hm9 hq hfv
  go_enter Try.func7, Try.ntmps7
  go_wp2_with fail
  refine (hz _ (Below.refl _ _)).mono ?_
  rintro e w1 ⟨v, rfl, hv, b1⟩
  clear hz
  by_cases hneg : v < 0
  case pos =>
    clear hv
    go_wp2
    go_returns
    exact ⟨rfl, b1⟩
  obtain ⟨hbig, hm⟩ := hv (by omega)
  clear hv
  have Hm := Lib.hid hm
  clear hm
  go_wp2_with fail
  refine (toIntSS_any A n c T _ (hr.below b1) hbig Hm.out).mono ?_
  rintro e w2 ⟨g2, f2, rfl, _, hB2, hc2⟩
  have b2 := bstep b1 hc2
  have HB2 := Lib.hid hB2
  clear hB2
  go_wp2_with fail
  refine (toIntS_any B1 m1 d1 p1 _ (hy1.below b2) (by omega)).mono ?_
  rintro e w3 ⟨g3, rfl, _, hB3, hc3⟩
  have b3 := bstep b2 hc3
  have HB3 := Lib.hid hB3
  clear hB3
  go_wp2_with fail
  refine (sSwapSaving_is Hq.out Hfv.out _ ((HB2.out.below hc3).rd hr.1) hbig (Nat.le_refl _) (HB3.out.rd (k := 1) (n := m1) (by simp [ints, hl1])) hl1 hb1).mono ?_
  rintro e w4 ⟨rfl, hc4⟩
  have b4 := bstep b3 hc4
  go_wp2_with fail
  refine (toIntSS_any A n c T _ (hr.below b4) hbig Hm.out).mono ?_
  rintro e w5 ⟨g5, f5, rfl, _, hB5, hc5⟩
  have b5 := bstep b4 hc5
  have HB5 := Lib.hid hB5
  clear hB5
  go_wp2_with fail
  refine (toIntS_any B1 m1 d1 p1 _ (hy1.below b5) (by omega)).mono ?_
  rintro e w6 ⟨g6, rfl, _, hB6, hc6⟩
  have b6 := bstep b5 hc6
  have HB6 := Lib.hid hB6
  clear hB6
  go_wp2_with fail
  refine (SwapSaving_is Hq.out Hfv.out _ ((HB5.out.below hc6).rd hr.1) hbig Hm.out (HB6.out.rd (k := 1) (n := m1) (by simp [ints, hl1])) hl1 hb1).mono ?_
  rintro e w7 ⟨rfl, hc7⟩
  have b7 := bstep b6 hc7
  go_wp2_with fail
  refine (toIntSS_any A n c T _ (hr.below b7) hbig Hm.out).mono ?_
  rintro e w8 ⟨g8, f8, rfl, _, hB8, hc8⟩
  have b8 := bstep b7 hc8
  have HB8 := Lib.hid hB8
  clear hB8
  go_wp2_with fail
  refine (eqIntSS_same _ _ n n n T _ ((HB5.out.below (bstep (bstep hc6 hc7) hc8)).rd hr.1) (HB8.out.rd hr.1) hbig Hm.out).mono ?_
  rintro e w9 ⟨rfl, hc9⟩
  have b9 := bstep b8 hc9
  go_wp2_with fail
  refine (toIntS_any B1 m1 d1 p1 _ (hy1.below b9) (by omega)).mono ?_
  rintro e w10 ⟨g10, rfl, _, hB10, hc10⟩
  have b10 := bstep b9 hc10
  have HB10 := Lib.hid hB10
  clear hB10
  go_wp2_with fail
  refine (eqIntS_yes _ ((HB6.out.below (bstep (bstep (bstep hc7 hc8) hc9) hc10) HB6.out.lt).rd (k := 1) (n := m1) (by simp [ints, hl1])) (HB10.out.rd (k := 1) (n := m1) (by simp [ints, hl1])) (by omega) rfl).mono ?_
  rintro e w11 ⟨rfl, hc11⟩
  have b11 := bstep b10 hc11
  go_wp2
  go_returns
  exact ⟨rfl, b11⟩
end Go.Proofs.Ytdibkgacplbaeaa
