/-
  FnExactMixMoisture, walked. Conditions: none beyond the layout of its arguments.
-/
import Derived.Test.YtkbhpfgbodellaaZC
namespace Go.Proofs.Ytkbhpfgbodellaa
open Go.RowKit
set_option maxRecDepth 100000
set_option maxHeartbeats 1000000

theorem ints_flat (zs : List Int) : zs.flatMap (fun n => [Value.int .i64 n]) = ints zs := by
  induction zs with
  | nil => rfl
  | cons z zs ih => rw [List.flatMap_cons, ih]; rfl
theorem fnExactMixMoisture_walk (A : Option Addr) (n c : Nat) (zs : List FuelbedT) (B : Option Addr) (m d : Nat) (ps : List Int) (w : World) (hx : Rd w 2 A n (fubF zs)) (hl : zs.length = n) (_hn : n ≤ 9223372036854775807) (_ok : ∀ z ∈ zs, I64 z.1 ∧ I64 z.2) (hy' : Rd w 1 B m (ps.flatMap (fun n => [Value.int .i64 n]))) (hm : ps.length = m) (hm' : m ≤ 9223372036854775807) (_ok' : ∀ z ∈ ps, I64 z) :
    Calls Try.prog 8 #[.slice A n c, .slice B m d] w fun e w' => e = .returned (.bool true) ∧ Below w.heap.size w w' := by
  rw [ints_flat] at hy'
  have hy := hy'
  clear hy' _ok _ok'
  by_cases hbm : m ≤ 1048576
  · by_cases hbig : n ≤ 1048576
    · obtain ⟨q, hq⟩ : ∃ q, mixOk zs ps = q := ⟨_, rfl⟩
      obtain ⟨I, hI⟩ : ∃ q, mixN zs ps = q := ⟨_, rfl⟩
      obtain ⟨D, hD⟩ : ∃ q, mixD zs ps = q := ⟨_, rfl⟩
      have hs : 0 ≤ szI n 1048576 := by unfold szI; split <;> omega
      have hi : ¬ (1048576 : Int) < (m : Int) := by omega
      have HQ := Lib.hid hq
      have HI := Lib.hid hI
      have HD := Lib.hid hD
      clear hq hI hD
      go_enter Try.func8, Try.ntmps8
      go_wp2_with fail
      refine (szFuelbedS_any A n c 1048576 _ (by omega) (by omega)).mono ?_
      rintro e w1 ⟨rfl, rfl⟩
      go_wp2_with fail
      refine (toFuelbedS_any A n c zs _ hx hl (by omega)).mono ?_
      rintro e w1 ⟨g1, rfl, hg1, hB1, b1⟩
      go_wp2_with fail
      refine (toIntS_any B m d ps _ (hy.below b1) (by omega)).mono ?_
      rintro e w2 ⟨g2, rfl, hg2, hB2, hb2⟩
      have b2 := bstep b1 hb2
      go_wp2_with fail
      refine (sMix_is HQ.out HI.out HD.out _ ((hB1.below hb2 hB1.lt).rd (by rw [fubF_len, hl])) (hB2.rd (by simp [ints, hm])) hl hm hbig hbm).mono ?_
      rintro e w3 ⟨rfl, hb3⟩
      have b3 := bstep b2 hb3
      go_wp2_with fail
      refine (toFuelbedS_any A n c zs _ (hx.below b3) hl (by omega)).mono ?_
      rintro e w4 ⟨g4, rfl, hg4, hB4, hb4⟩
      have b4 := bstep b3 hb4
      go_wp2_with fail
      refine (toIntS_any B m d ps _ (hy.below b4) (by omega)).mono ?_
      rintro e w5 ⟨g5, rfl, hg5, hB5, hb5⟩
      have b5 := bstep b4 hb5
      have hB4 := hB4.below hb5 hB4.lt
      go_wp2_with fail
      refine (Mix_is HQ.out HI.out HD.out _ (hB4.rd (by rw [fubF_len, hl])) (hB5.rd (by simp [ints, hm])) hl hm hbig hbm).mono ?_
      rintro e w6 ⟨rfl, hb6⟩
      have b6 := bstep b5 hb6
      have hB4 := hB4.below hb6 hB4.lt
      have hB5 := hB5.below hb6 hB5.lt
      go_wp2_with fail
      refine (toFuelbedS_any A n c zs _ (hx.below b6) hl (by omega)).mono ?_
      rintro e w7 ⟨g7, rfl, hg7, hB7, hb7⟩
      have b7 := bstep b6 hb7
      have hB4 := hB4.below hb7 hB4.lt
      have hB5 := hB5.below hb7 hB5.lt
      go_wp2_with fail
      refine (eqFuelbedS_same _ _ n n n zs _ (hB4.rd (by rw [fubF_len, hl])) (hB7.rd (by rw [fubF_len, hl])) hl (by omega)).mono ?_
      rintro e w8 ⟨rfl, hb8⟩
      have b8 := bstep b7 hb8
      have hB5 := hB5.below hb8 hB5.lt
      go_wp2_with fail
      refine (toIntS_any B m d ps _ (hy.below b8) (by omega)).mono ?_
      rintro e w9 ⟨g9, rfl, hg9, hB9, hb9⟩
      have b9 := bstep b8 hb9
      have hB5 := hB5.below hb9 hB5.lt
      go_wp2_with fail
      refine (eqIntS_yes _ (hB5.rd (k := 1) (n := m) (by simp [ints, hm])) (hB9.rd (k := 1) (n := m) (by simp [ints, hm])) (by omega) rfl).mono ?_
      rintro e w10 ⟨rfl, hb10⟩
      go_wp2
      go_returns
      exact ⟨rfl, bstep b9 hb10⟩
    · have hs : szI n 1048576 < 0 := by unfold szI; split <;> omega
      have hi : ¬ (1048576 : Int) < (m : Int) := by omega
      go_enter Try.func8, Try.ntmps8
      go_wp2_with fail
      refine (szFuelbedS_any A n c 1048576 _ (by omega) (by omega)).mono ?_
      rintro e w0 ⟨rfl, rfl⟩
      go_wp2
      go_returns
      exact ⟨rfl, by (repeat' (first | (with_reducible exact Below.refl _ _) | (with_reducible assumption) | (with_reducible refine balloc ?_ _) | (with_reducible refine bdrew ?_) | (with_reducible refine bdrewN ?_ _) | (with_reducible refine bstep ?_ (by assumption)) | (with_reducible refine bset ?_ ?_ _) | (exact Below.size (by assumption)) | go_size))⟩
  · have hi : (1048576 : Int) < (m : Int) := by omega
    go_enter Try.func8, Try.ntmps8
    go_wp2
    go_returns
    exact ⟨rfl, by (repeat' (first | (with_reducible exact Below.refl _ _) | (with_reducible assumption) | (with_reducible refine balloc ?_ _) | (with_reducible refine bdrew ?_) | (with_reducible refine bdrewN ?_ _) | (with_reducible refine bstep ?_ (by assumption)) | (with_reducible refine bset ?_ ?_ _) | (exact Below.size (by assumption)) | go_size))⟩
end Go.Proofs.Ytkbhpfgbodellaa
