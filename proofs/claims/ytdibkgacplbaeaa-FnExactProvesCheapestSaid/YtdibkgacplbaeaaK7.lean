/-
  FnExactProvesCheapest, walked. Conditions: none beyond the layout of its arguments.
-/
import Derived.Test.YtdibkgacplbaeaaK6
namespace Go.Proofs.Ytdibkgacplbaeaa
open Go.RowKit
set_option maxRecDepth 100000
set_option maxHeartbeats 1000000

theorem fnExactProvesCheapest_walk (A : Option Addr) (n c : Nat) (z : List Row3) (B1 : Option Addr) (m1 d1 : Nat) (p1 : List Int) (B2 : Option Addr) (m2 d2 : Nat) (p2 : List Int) (B3 : Option Addr) (m3 d3 : Nat) (p3 : List Int) (w : World) (hr' : Rd w 1 A n (z.flatMap (fun r : Row3 => [Value.slice r.1 r.2.1 r.2.2]))) (hl : z.length = n) (hn : n ≤ 9223372036854775807)
    (ok : ∀ r ∈ z, r.2.1 ≤ r.2.2 ∧ r.2.2 ≤ maxLen ∧ ∃ zs : List Int, zs.length = r.2.1 ∧ Rd w 1 r.1 r.2.1 (zs.flatMap (fun n => [Value.int .i64 n])) ∧ ∀ y ∈ zs, I64 y) (hy1' : Rd w 1 B1 m1 (p1.flatMap (fun n => [Value.int .i64 n]))) (hl1 : p1.length = m1) (hn1 : m1 ≤ 9223372036854775807) (_ok1 : ∀ z ∈ p1, I64 z) (hy2' : Rd w 1 B2 m2 (p2.flatMap (fun n => [Value.int .i64 n]))) (hl2 : p2.length = m2) (hn2 : m2 ≤ 9223372036854775807) (_ok2 : ∀ z ∈ p2, I64 z) (hy3' : Rd w 1 B3 m3 (p3.flatMap (fun n => [Value.int .i64 n]))) (hl3 : p3.length = m3) (hn3 : m3 ≤ 9223372036854775807) (_ok3 : ∀ z ∈ p3, I64 z) :
    Calls Try.prog 11 #[.slice A n c, .slice B1 m1 d1, .slice B2 m2 d2, .slice B3 m3 d3] w fun e w' => e = .returned (.bool true) ∧ Below w.heap.size w w' := by
  obtain ⟨T, hr, hm9⟩ := table_of hr' hl ok
  rw [ints_flat] at hy1'
  have hy1 := hy1'
  rw [ints_flat] at hy2'
  have hy2 := hy2'
  rw [ints_flat] at hy3'
  have hy3 := hy3'
  clear hr' ok hl hy1' _ok1 hy2' _ok2 hy3' _ok3
  have hl := hr.1
  by_cases hb1 : m1 ≤ 1048576
  case neg =>
    have i1 : (1048576 : Int) < (m1 : Int) := by omega
    go_enter Try.func11, Try.ntmps11
    go_wp2
    go_returns
    exact ⟨rfl, by (repeat' (first | (with_reducible exact Below.refl _ _) | (with_reducible assumption) | (with_reducible refine balloc ?_ _) | (with_reducible refine bdrew ?_) | (with_reducible refine bdrewN ?_ _) | (with_reducible refine bstep ?_ (by assumption)) | (with_reducible refine bset ?_ ?_ _) | (exact Below.size (by assumption)) | go_size))⟩
  have i1 : ¬ (1048576 : Int) < (m1 : Int) := by omega
  by_cases hb2 : m2 ≤ 1048576
  case neg =>
    have i1 : ¬ (1048576 : Int) < (m1 : Int) := by omega
    have i2 : (1048576 : Int) < (m2 : Int) := by omega
    go_enter Try.func11, Try.ntmps11
    go_wp2
    go_returns
    exact ⟨rfl, by (repeat' (first | (with_reducible exact Below.refl _ _) | (with_reducible assumption) | (with_reducible refine balloc ?_ _) | (with_reducible refine bdrew ?_) | (with_reducible refine bdrewN ?_ _) | (with_reducible refine bstep ?_ (by assumption)) | (with_reducible refine bset ?_ ?_ _) | (exact Below.size (by assumption)) | go_size))⟩
  have i2 : ¬ (1048576 : Int) < (m2 : Int) := by omega
  by_cases hb3 : m3 ≤ 1048576
  case neg =>
    have i1 : ¬ (1048576 : Int) < (m1 : Int) := by omega
    have i2 : ¬ (1048576 : Int) < (m2 : Int) := by omega
    have i3 : (1048576 : Int) < (m3 : Int) := by omega
    go_enter Try.func11, Try.ntmps11
    go_wp2
    go_returns
    exact ⟨rfl, by (repeat' (first | (with_reducible exact Below.refl _ _) | (with_reducible assumption) | (with_reducible refine balloc ?_ _) | (with_reducible refine bdrew ?_) | (with_reducible refine bdrewN ?_ _) | (with_reducible refine bstep ?_ (by assumption)) | (with_reducible refine bset ?_ ?_ _) | (exact Below.size (by assumption)) | go_size))⟩
  have i3 : ¬ (1048576 : Int) < (m3 : Int) := by omega
  have hz := fun W (hW : Below w.heap.size w W) => szIntSS_any A n c T W (hr.below hW) hn hm9
  obtain ⟨q, hq⟩ : ∃ y, pcB T p1 p2 p3 = y := ⟨_, rfl⟩
  have Hq := Lib.hid hq
  obtain ⟨fv, hfv⟩ : ∃ y, pcV T p1 p2 p3 = y := ⟨_, rfl⟩
  have Hfv := Lib.hid hfv
  clear hm9 hq hfv
  go_enter Try.func11, Try.ntmps11
  go_wp2_with fail
  refine (hz _ (Below.refl _ _)).mono ?_
  rintro e w1 ⟨v, rfl, hv, b1⟩
  clear hz
  by_cases hneg : v < 0
  case pos =>
    clear hv
    go_wp2
    go_returns
    exact ⟨rfl, b1⟩
  obtain ⟨hbig, hm⟩ := hv (by omega)
  clear hv
  have Hm := Lib.hid hm
  clear hm
  go_wp2_with fail
  refine (toIntSS_any A n c T _ (hr.below b1) hbig Hm.out).mono ?_
  rintro e w2 ⟨g2, f2, rfl, _, hB2, hc2⟩
  have b2 := bstep b1 hc2
  have HB2 := Lib.hid hB2
  clear hB2
  go_wp2_with fail
  refine (toIntS_any B1 m1 d1 p1 _ (hy1.below b2) (by omega)).mono ?_
  rintro e w3 ⟨g3, rfl, _, hB3, hc3⟩
  have b3 := bstep b2 hc3
  have HB3 := Lib.hid hB3
  clear hB3
  go_wp2_with fail
  refine (toIntS_any B2 m2 d2 p2 _ (hy2.below b3) (by omega)).mono ?_
  rintro e w4 ⟨g4, rfl, _, hB4, hc4⟩
  have b4 := bstep b3 hc4
  have HB4 := Lib.hid hB4
  clear hB4
  go_wp2_with fail
  refine (toIntS_any B3 m3 d3 p3 _ (hy3.below b4) (by omega)).mono ?_
  rintro e w5 ⟨g5, rfl, _, hB5, hc5⟩
  have b5 := bstep b4 hc5
  have HB5 := Lib.hid hB5
  clear hB5
  go_wp2_with fail
  refine (sProves_is Hq.out Hfv.out _ ((HB2.out.below (bstep (bstep hc3 hc4) hc5)).rd hr.1) hbig ((HB3.out.below (bstep hc4 hc5) HB3.out.lt).rd (k := 1) (n := m1) (by simp [ints, hl1])) ((HB4.out.below hc5 HB4.out.lt).rd (k := 1) (n := m2) (by simp [ints, hl2])) (HB5.out.rd (k := 1) (n := m3) (by simp [ints, hl3])) hl1 hl2 hl3 hb1 hb2 hb3 (Nat.le_refl _)).mono ?_
  rintro e w6 ⟨rfl, hc6⟩
  have b6 := bstep b5 hc6
  go_wp2_with fail
  refine (toIntSS_any A n c T _ (hr.below b6) hbig Hm.out).mono ?_
  rintro e w7 ⟨g7, f7, rfl, _, hB7, hc7⟩
  have b7 := bstep b6 hc7
  have HB7 := Lib.hid hB7
  clear hB7
  go_wp2_with fail
  refine (toIntS_any B1 m1 d1 p1 _ (hy1.below b7) (by omega)).mono ?_
  rintro e w8 ⟨g8, rfl, _, hB8, hc8⟩
  have b8 := bstep b7 hc8
  have HB8 := Lib.hid hB8
  clear hB8
  go_wp2_with fail
  refine (toIntS_any B2 m2 d2 p2 _ (hy2.below b8) (by omega)).mono ?_
  rintro e w9 ⟨g9, rfl, _, hB9, hc9⟩
  have b9 := bstep b8 hc9
  have HB9 := Lib.hid hB9
  clear hB9
  go_wp2_with fail
  refine (toIntS_any B3 m3 d3 p3 _ (hy3.below b9) (by omega)).mono ?_
  rintro e w10 ⟨g10, rfl, _, hB10, hc10⟩
  have b10 := bstep b9 hc10
  have HB10 := Lib.hid hB10
  clear hB10
  go_wp2_with fail
  refine (Proves_is Hq.out Hfv.out _ ((HB7.out.below (bstep (bstep hc8 hc9) hc10)).rd hr.1) hbig Hm.out ((HB8.out.below (bstep hc9 hc10) HB8.out.lt).rd (k := 1) (n := m1) (by simp [ints, hl1])) ((HB9.out.below hc10 HB9.out.lt).rd (k := 1) (n := m2) (by simp [ints, hl2])) (HB10.out.rd (k := 1) (n := m3) (by simp [ints, hl3])) hl1 hl2 hl3 hb1 hb2 hb3).mono ?_
  rintro e w11 ⟨rfl, hc11⟩
  have b11 := bstep b10 hc11
  go_wp2_with fail
  refine (toIntSS_any A n c T _ (hr.below b11) hbig Hm.out).mono ?_
  rintro e w12 ⟨g12, f12, rfl, _, hB12, hc12⟩
  have b12 := bstep b11 hc12
  have HB12 := Lib.hid hB12
  clear hB12
  go_wp2_with fail
  refine (eqIntSS_same _ _ n n n T _ ((HB7.out.below (bstep (bstep (bstep (bstep hc8 hc9) hc10) hc11) hc12)).rd hr.1) (HB12.out.rd hr.1) hbig Hm.out).mono ?_
  rintro e w13 ⟨rfl, hc13⟩
  have b13 := bstep b12 hc13
  go_wp2_with fail
  refine (toIntS_any B1 m1 d1 p1 _ (hy1.below b13) (by omega)).mono ?_
  rintro e w14 ⟨g14, rfl, _, hB14, hc14⟩
  have b14 := bstep b13 hc14
  have HB14 := Lib.hid hB14
  clear hB14
  go_wp2_with fail
  refine (eqIntS_yes _ ((HB8.out.below (bstep (bstep (bstep (bstep (bstep hc9 hc10) hc11) hc12) hc13) hc14) HB8.out.lt).rd (k := 1) (n := m1) (by simp [ints, hl1])) (HB14.out.rd (k := 1) (n := m1) (by simp [ints, hl1])) (by omega) rfl).mono ?_
  rintro e w15 ⟨rfl, hc15⟩
  have b15 := bstep b14 hc15
  go_wp2_with fail
  refine (toIntS_any B2 m2 d2 p2 _ (hy2.below b15) (by omega)).mono ?_
  rintro e w16 ⟨g16, rfl, _, hB16, hc16⟩
  have b16 := bstep b15 hc16
  have HB16 := Lib.hid hB16
  clear hB16
  go_wp2_with fail
  refine (eqIntS_yes _ ((HB9.out.below (bstep (bstep (bstep (bstep (bstep (bstep hc10 hc11) hc12) hc13) hc14) hc15) hc16) HB9.out.lt).rd (k := 1) (n := m2) (by simp [ints, hl2])) (HB16.out.rd (k := 1) (n := m2) (by simp [ints, hl2])) (by omega) rfl).mono ?_
  rintro e w17 ⟨rfl, hc17⟩
  have b17 := bstep b16 hc17
  go_wp2_with fail
  refine (toIntS_any B3 m3 d3 p3 _ (hy3.below b17) (by omega)).mono ?_
  rintro e w18 ⟨g18, rfl, _, hB18, hc18⟩
  have b18 := bstep b17 hc18
  have HB18 := Lib.hid hB18
  clear hB18
  go_wp2_with fail
  refine (eqIntS_yes _ ((HB10.out.below (bstep (bstep (bstep (bstep (bstep (bstep (bstep hc11 hc12) hc13) hc14) hc15) hc16) hc17) hc18) HB10.out.lt).rd (k := 1) (n := m3) (by simp [ints, hl3])) (HB18.out.rd (k := 1) (n := m3) (by simp [ints, hl3])) (by omega) rfl).mono ?_
  rintro e w19 ⟨rfl, hc19⟩
  have b19 := bstep b18 hc19
  go_wp2
  go_returns
  exact ⟨rfl, b19⟩
end Go.Proofs.Ytdibkgacplbaeaa
