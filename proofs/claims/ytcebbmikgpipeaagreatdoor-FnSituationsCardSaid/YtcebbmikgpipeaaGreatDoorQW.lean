/-
  The reference's situation of a text. Conditions: the text's length.
-/
import Derived.Test.YtcebbmikgpipeaaGreatDoorQWA
import Derived.Test.YtcebbmikgpipeaaGreatDoorQWB
namespace Go.Proofs.YtcebbmikgpipeaaGreatDoor
open Go Go.RowKit
set_option maxRecDepth 100000
set_option maxHeartbeats 8000000
theorem sParseSituation_is {s : ByteArray} (hs : s.size ≤ 1048576) (w : World) : Calls Tryz.prog 5 #[.string s] w (PS s w) := by
  obtain ⟨L, hL⟩ : ∃ L, spB 32 s = L := ⟨_, rfl⟩
  obtain ⟨n, hn⟩ : ∃ n, L.length = n := ⟨_, rfl⟩
  have HS := Lib.hid (fun W => by
    have h := l1Split_is (c := 32) hL hs W
    rw [hn] at h
    exact h)
  by_cases h60 : 120 < s.size
  · have hno := sitOf_no (s := s) (fun a b c d e f hq h => by have := (sit_read hL hq h).1; omega)
    have i60 : (120 : Int) < (s.size : Int) := by omega
    have HNO := Lib.hid hno
    clear hno hL
    go_enter Tryz.func5, Tryz.ntmps5
    go_upto_region 1 with fail
    obtain ⟨g2, hg2⟩ : ∃ g, w.heap.size = g := ⟨_, rfl⟩
    refine wp_gen (fun W => Below w.heap.size w W ∧ Bk W g2 23 [.int .i64 0, .int .i64 0, .int .i64 0, .int .i64 0, .int .i64 0, .int .i64 0]) ⟨by (repeat' (first | (with_reducible exact Below.refl _ _) | (with_reducible assumption) | (with_reducible refine balloc ?_ _) | (with_reducible refine bdrew ?_) | (with_reducible refine bdrewN ?_ _) | (with_reducible refine bstep ?_ (by assumption)) | (with_reducible refine bset ?_ ?_ _) | (exact Below.size (by assumption)) | go_size)), by rw [← hg2]; exact Bk.new _ _ _⟩ ?_
    intro W1 ⟨bW, kA⟩
    (try rw [hg2])
    have hA : w.heap.size ≤ g2 := by omega
    clear hg2
    go_upto_region 2 with fail
    obtain ⟨g4, hg4⟩ : ∃ g, W1.heap.size = g := ⟨_, rfl⟩
    refine wp_gen (fun W => Below w.heap.size w W ∧ Bk W g2 23 [.int .i64 0, .int .i64 0, .int .i64 0, .int .i64 0, .int .i64 0, .int .i64 0] ∧ Bk W g4 23 [.int .i64 0, .int .i64 0, .int .i64 0, .int .i64 0, .int .i64 0, .int .i64 0]) ⟨by (repeat' (first | (with_reducible exact Below.refl _ _) | (with_reducible assumption) | (with_reducible refine balloc ?_ _) | (with_reducible refine bdrew ?_) | (with_reducible refine bdrewN ?_ _) | (with_reducible refine bstep ?_ (by assumption)) | (with_reducible refine bset ?_ ?_ _) | (exact Below.size (by assumption)) | go_size)), kA.alloc _, by rw [← hg4]; exact Bk.new _ _ _⟩ ?_
    (try rw [hg4])
    have hAB : ¬ g2 = g4 := by have := kA.lt; omega
    clear hg4 bW kA
    intro W2 ⟨bW, kA, kB⟩
    go_upto_region 3 with (go_at_call 17; refine (HS.out _).mono ?_; rintro e w1 ⟨v, rfl, hO, b1⟩; obtain ⟨A, cp, rfl, hR, hm⟩ := own_rd hO)
    refine wp_gen (fun W => Below w.heap.size w W ∧ Bk W g2 23 [.int .i64 0, .int .i64 0, .int .i64 0, .int .i64 0, .int .i64 0, .int .i64 0] ∧ Bk W g4 23 [.int .i64 0, .int .i64 0, .int .i64 0, .int .i64 0, .int .i64 0, .int .i64 0] ∧ Rd W 1 A n (strs L)) ⟨bstep bW b1, kA.below b1 kA.lt, kB.below b1 kB.lt, hR⟩ ?_
    clear bW kA kB hO hR b1
    intro W3 ⟨bW, kA, kB, hR⟩
    clear hR
    have a0 := kA.cell 0
    have a1 := kA.cell 1
    have a2 := kA.cell 2
    have a3 := kA.cell 3
    have a4 := kA.cell 4
    have a5 := kA.cell 5
    have fa0 := kA.frozen 0
    have fa1 := kA.frozen 1
    have fa2 := kA.frozen 2
    have fa3 := kA.frozen 3
    have fa4 := kA.frozen 4
    have fa5 := kA.frozen 5
    have la := kA.lt
    simp only [List.getElem?_cons_zero, List.getElem?_cons_succ] at a0 a1 a2 a3 a4 a5
    have b0 := kB.cell 0
    have b1 := kB.cell 1
    have b2 := kB.cell 2
    have b3 := kB.cell 3
    have b4 := kB.cell 4
    have b5 := kB.cell 5
    have fb0 := kB.frozen 0
    have fb1 := kB.frozen 1
    have fb2 := kB.frozen 2
    have fb3 := kB.frozen 3
    have fb4 := kB.frozen 4
    have fb5 := kB.frozen 5
    have lb := kB.lt
    simp only [List.getElem?_cons_zero, List.getElem?_cons_succ] at b0 b1 b2 b3 b4 b5
    clear kA kB
    go_wp2
    (refine bodyPost_ret (by simp (maxDischargeDepth := 4) [results, Tryz.results5, go_sem, *]; try rfl) rfl ?_)
    exact PS.mk HNO.out (by (repeat' (first | (with_reducible exact Below.refl _ _) | (with_reducible assumption) | (with_reducible refine balloc ?_ _) | (with_reducible refine bdrew ?_) | (with_reducible refine bdrewN ?_ _) | (with_reducible refine bstep ?_ (by assumption)) | (with_reducible refine bset ?_ ?_ _) | (exact Below.size (by assumption)) | go_size)))
  have i60 : ¬ (120 : Int) < (s.size : Int) := by omega
  by_cases h11 : n = 11 ∨ n = 15
  case neg =>
    have hno := sitOf_no (s := s) (fun a b c d e f hq h => by have := (sit_read hL hq h).2.1; omega)
    have HNO := Lib.hid hno
    have i8 : ((n : Int) == 11) = false := by simp only [beq_eq_false_iff_ne]; omega
    have i9 : ((n : Int) != 11) = true := by simp only [bne, i8]; rfl
    have i6 : ((n : Int) == 15) = false := by simp only [beq_eq_false_iff_ne]; omega
    have i7 : ((n : Int) != 15) = true := by simp only [bne, i6]; rfl
    clear hno hL hn
    go_enter Tryz.func5, Tryz.ntmps5
    go_upto_region 1 with fail
    obtain ⟨g2, hg2⟩ : ∃ g, w.heap.size = g := ⟨_, rfl⟩
    refine wp_gen (fun W => Below w.heap.size w W ∧ Bk W g2 23 [.int .i64 0, .int .i64 0, .int .i64 0, .int .i64 0, .int .i64 0, .int .i64 0]) ⟨by (repeat' (first | (with_reducible exact Below.refl _ _) | (with_reducible assumption) | (with_reducible refine balloc ?_ _) | (with_reducible refine bdrew ?_) | (with_reducible refine bdrewN ?_ _) | (with_reducible refine bstep ?_ (by assumption)) | (with_reducible refine bset ?_ ?_ _) | (exact Below.size (by assumption)) | go_size)), by rw [← hg2]; exact Bk.new _ _ _⟩ ?_
    intro W1 ⟨bW, kA⟩
    (try rw [hg2])
    have hA : w.heap.size ≤ g2 := by omega
    clear hg2
    go_upto_region 2 with fail
    obtain ⟨g4, hg4⟩ : ∃ g, W1.heap.size = g := ⟨_, rfl⟩
    refine wp_gen (fun W => Below w.heap.size w W ∧ Bk W g2 23 [.int .i64 0, .int .i64 0, .int .i64 0, .int .i64 0, .int .i64 0, .int .i64 0] ∧ Bk W g4 23 [.int .i64 0, .int .i64 0, .int .i64 0, .int .i64 0, .int .i64 0, .int .i64 0]) ⟨by (repeat' (first | (with_reducible exact Below.refl _ _) | (with_reducible assumption) | (with_reducible refine balloc ?_ _) | (with_reducible refine bdrew ?_) | (with_reducible refine bdrewN ?_ _) | (with_reducible refine bstep ?_ (by assumption)) | (with_reducible refine bset ?_ ?_ _) | (exact Below.size (by assumption)) | go_size)), kA.alloc _, by rw [← hg4]; exact Bk.new _ _ _⟩ ?_
    (try rw [hg4])
    have hAB : ¬ g2 = g4 := by have := kA.lt; omega
    clear hg4 bW kA
    intro W2 ⟨bW, kA, kB⟩
    go_upto_region 3 with (go_at_call 17; refine (HS.out _).mono ?_; rintro e w1 ⟨v, rfl, hO, b1⟩; obtain ⟨A, cp, rfl, hR, hm⟩ := own_rd hO)
    refine wp_gen (fun W => Below w.heap.size w W ∧ Bk W g2 23 [.int .i64 0, .int .i64 0, .int .i64 0, .int .i64 0, .int .i64 0, .int .i64 0] ∧ Bk W g4 23 [.int .i64 0, .int .i64 0, .int .i64 0, .int .i64 0, .int .i64 0, .int .i64 0] ∧ Rd W 1 A n (strs L)) ⟨bstep bW b1, kA.below b1 kA.lt, kB.below b1 kB.lt, hR⟩ ?_
    clear bW kA kB hO hR b1
    intro W3 ⟨bW, kA, kB, hR⟩
    clear hR
    have a0 := kA.cell 0
    have a1 := kA.cell 1
    have a2 := kA.cell 2
    have a3 := kA.cell 3
    have a4 := kA.cell 4
    have a5 := kA.cell 5
    have fa0 := kA.frozen 0
    have fa1 := kA.frozen 1
    have fa2 := kA.frozen 2
    have fa3 := kA.frozen 3
    have fa4 := kA.frozen 4
    have fa5 := kA.frozen 5
    have la := kA.lt
    simp only [List.getElem?_cons_zero, List.getElem?_cons_succ] at a0 a1 a2 a3 a4 a5
    have b0 := kB.cell 0
    have b1 := kB.cell 1
    have b2 := kB.cell 2
    have b3 := kB.cell 3
    have b4 := kB.cell 4
    have b5 := kB.cell 5
    have fb0 := kB.frozen 0
    have fb1 := kB.frozen 1
    have fb2 := kB.frozen 2
    have fb3 := kB.frozen 3
    have fb4 := kB.frozen 4
    have fb5 := kB.frozen 5
    have lb := kB.lt
    simp only [List.getElem?_cons_zero, List.getElem?_cons_succ] at b0 b1 b2 b3 b4 b5
    clear kA kB
    go_wp2
    (refine bodyPost_ret (by simp (maxDischargeDepth := 4) [results, Tryz.results5, go_sem, *]; try rfl) rfl ?_)
    exact PS.mk HNO.out (by (repeat' (first | (with_reducible exact Below.refl _ _) | (with_reducible assumption) | (with_reducible refine balloc ?_ _) | (with_reducible refine bdrew ?_) | (with_reducible refine bdrewN ?_ _) | (with_reducible refine bstep ?_ (by assumption)) | (with_reducible refine bset ?_ ?_ _) | (exact Below.size (by assumption)) | go_size)))
  by_cases h2 : 2 ≤ (L.getD 3 ⟨#[]⟩).size
  · rcases h11 with h | h
    · exact sParseSit_11 hL hn h (by omega) h2 w
    · exact sParseSit_15 hL hn h (by omega) h2 w
  · have hno := sitOf_no (s := s) (fun a b c d e f hq h => by have := (sit_read hL hq h).2.2.1; omega)
    have HNO := Lib.hid hno
    obtain ⟨x3, hx3⟩ : ∃ x, L.getD 3 ⟨#[]⟩ = x := ⟨_, rfl⟩
    rw [hx3] at h2
    have i2 : (x3.size : Int) < 2 := by omega
    have l3 : 3 < L.length := by omega
    have HW := Lib.hid (fun (W : World) (b off : Nat) (h : Rd W 1 (some ⟨b, off, none⟩) n (strs L)) => rd_word h l3 hx3)
    have n0 : 0 < n := by omega
    clear hno hL hn l3 hx3
    rcases h11 with rfl | rfl
    · go_enter Tryz.func5, Tryz.ntmps5
      go_upto_region 1 with fail
      obtain ⟨g2, hg2⟩ : ∃ g, w.heap.size = g := ⟨_, rfl⟩
      refine wp_gen (fun W => Below w.heap.size w W ∧ Bk W g2 23 [.int .i64 0, .int .i64 0, .int .i64 0, .int .i64 0, .int .i64 0, .int .i64 0]) ⟨by (repeat' (first | (with_reducible exact Below.refl _ _) | (with_reducible assumption) | (with_reducible refine balloc ?_ _) | (with_reducible refine bdrew ?_) | (with_reducible refine bdrewN ?_ _) | (with_reducible refine bstep ?_ (by assumption)) | (with_reducible refine bset ?_ ?_ _) | (exact Below.size (by assumption)) | go_size)), by rw [← hg2]; exact Bk.new _ _ _⟩ ?_
      intro W1 ⟨bW, kA⟩
      (try rw [hg2])
      have hA : w.heap.size ≤ g2 := by omega
      clear hg2
      go_upto_region 2 with fail
      obtain ⟨g4, hg4⟩ : ∃ g, W1.heap.size = g := ⟨_, rfl⟩
      refine wp_gen (fun W => Below w.heap.size w W ∧ Bk W g2 23 [.int .i64 0, .int .i64 0, .int .i64 0, .int .i64 0, .int .i64 0, .int .i64 0] ∧ Bk W g4 23 [.int .i64 0, .int .i64 0, .int .i64 0, .int .i64 0, .int .i64 0, .int .i64 0]) ⟨by (repeat' (first | (with_reducible exact Below.refl _ _) | (with_reducible assumption) | (with_reducible refine balloc ?_ _) | (with_reducible refine bdrew ?_) | (with_reducible refine bdrewN ?_ _) | (with_reducible refine bstep ?_ (by assumption)) | (with_reducible refine bset ?_ ?_ _) | (exact Below.size (by assumption)) | go_size)), kA.alloc _, by rw [← hg4]; exact Bk.new _ _ _⟩ ?_
      (try rw [hg4])
      have hAB : ¬ g2 = g4 := by have := kA.lt; omega
      clear hg4 bW kA
      intro W2 ⟨bW, kA, kB⟩
      go_upto_region 3 with (go_at_call 17; refine (HS.out _).mono ?_; rintro e w1 ⟨v, rfl, hO, b1⟩; obtain ⟨A, cp, rfl, hR, hm⟩ := own_rd hO)
      refine wp_gen (fun W => Below w.heap.size w W ∧ Bk W g2 23 [.int .i64 0, .int .i64 0, .int .i64 0, .int .i64 0, .int .i64 0, .int .i64 0] ∧ Bk W g4 23 [.int .i64 0, .int .i64 0, .int .i64 0, .int .i64 0, .int .i64 0, .int .i64 0] ∧ Rd W 1 A 11 (strs L)) ⟨bstep bW b1, kA.below b1 kA.lt, kB.below b1 kB.lt, hR⟩ ?_
      clear bW kA kB hO hR b1
      intro W3 ⟨bW, kA, kB, hR⟩
      obtain ⟨b0, off, rfl, lb, _⟩ := hR.2 n0
      have c3 := HW.out _ _ _ hR
      clear hR
      have a0 := kA.cell 0
      have a1 := kA.cell 1
      have a2 := kA.cell 2
      have a3 := kA.cell 3
      have a4 := kA.cell 4
      have a5 := kA.cell 5
      have fa0 := kA.frozen 0
      have fa1 := kA.frozen 1
      have fa2 := kA.frozen 2
      have fa3 := kA.frozen 3
      have fa4 := kA.frozen 4
      have fa5 := kA.frozen 5
      have la := kA.lt
      simp only [List.getElem?_cons_zero, List.getElem?_cons_succ] at a0 a1 a2 a3 a4 a5
      have b0 := kB.cell 0
      have b1 := kB.cell 1
      have b2 := kB.cell 2
      have b3 := kB.cell 3
      have b4 := kB.cell 4
      have b5 := kB.cell 5
      have fb0 := kB.frozen 0
      have fb1 := kB.frozen 1
      have fb2 := kB.frozen 2
      have fb3 := kB.frozen 3
      have fb4 := kB.frozen 4
      have fb5 := kB.frozen 5
      have lb := kB.lt
      simp only [List.getElem?_cons_zero, List.getElem?_cons_succ] at b0 b1 b2 b3 b4 b5
      clear kA kB
      go_wp2
      (refine bodyPost_ret (by simp (maxDischargeDepth := 4) [results, Tryz.results5, go_sem, *]; try rfl) rfl ?_)
      exact PS.mk HNO.out (by (repeat' (first | (with_reducible exact Below.refl _ _) | (with_reducible assumption) | (with_reducible refine balloc ?_ _) | (with_reducible refine bdrew ?_) | (with_reducible refine bdrewN ?_ _) | (with_reducible refine bstep ?_ (by assumption)) | (with_reducible refine bset ?_ ?_ _) | (exact Below.size (by assumption)) | go_size)))
    · go_enter Tryz.func5, Tryz.ntmps5
      go_upto_region 1 with fail
      obtain ⟨g2, hg2⟩ : ∃ g, w.heap.size = g := ⟨_, rfl⟩
      refine wp_gen (fun W => Below w.heap.size w W ∧ Bk W g2 23 [.int .i64 0, .int .i64 0, .int .i64 0, .int .i64 0, .int .i64 0, .int .i64 0]) ⟨by (repeat' (first | (with_reducible exact Below.refl _ _) | (with_reducible assumption) | (with_reducible refine balloc ?_ _) | (with_reducible refine bdrew ?_) | (with_reducible refine bdrewN ?_ _) | (with_reducible refine bstep ?_ (by assumption)) | (with_reducible refine bset ?_ ?_ _) | (exact Below.size (by assumption)) | go_size)), by rw [← hg2]; exact Bk.new _ _ _⟩ ?_
      intro W1 ⟨bW, kA⟩
      (try rw [hg2])
      have hA : w.heap.size ≤ g2 := by omega
      clear hg2
      go_upto_region 2 with fail
      obtain ⟨g4, hg4⟩ : ∃ g, W1.heap.size = g := ⟨_, rfl⟩
      refine wp_gen (fun W => Below w.heap.size w W ∧ Bk W g2 23 [.int .i64 0, .int .i64 0, .int .i64 0, .int .i64 0, .int .i64 0, .int .i64 0] ∧ Bk W g4 23 [.int .i64 0, .int .i64 0, .int .i64 0, .int .i64 0, .int .i64 0, .int .i64 0]) ⟨by (repeat' (first | (with_reducible exact Below.refl _ _) | (with_reducible assumption) | (with_reducible refine balloc ?_ _) | (with_reducible refine bdrew ?_) | (with_reducible refine bdrewN ?_ _) | (with_reducible refine bstep ?_ (by assumption)) | (with_reducible refine bset ?_ ?_ _) | (exact Below.size (by assumption)) | go_size)), kA.alloc _, by rw [← hg4]; exact Bk.new _ _ _⟩ ?_
      (try rw [hg4])
      have hAB : ¬ g2 = g4 := by have := kA.lt; omega
      clear hg4 bW kA
      intro W2 ⟨bW, kA, kB⟩
      go_upto_region 3 with (go_at_call 17; refine (HS.out _).mono ?_; rintro e w1 ⟨v, rfl, hO, b1⟩; obtain ⟨A, cp, rfl, hR, hm⟩ := own_rd hO)
      refine wp_gen (fun W => Below w.heap.size w W ∧ Bk W g2 23 [.int .i64 0, .int .i64 0, .int .i64 0, .int .i64 0, .int .i64 0, .int .i64 0] ∧ Bk W g4 23 [.int .i64 0, .int .i64 0, .int .i64 0, .int .i64 0, .int .i64 0, .int .i64 0] ∧ Rd W 1 A 15 (strs L)) ⟨bstep bW b1, kA.below b1 kA.lt, kB.below b1 kB.lt, hR⟩ ?_
      clear bW kA kB hO hR b1
      intro W3 ⟨bW, kA, kB, hR⟩
      obtain ⟨b0, off, rfl, lb, _⟩ := hR.2 n0
      have c3 := HW.out _ _ _ hR
      clear hR
      have a0 := kA.cell 0
      have a1 := kA.cell 1
      have a2 := kA.cell 2
      have a3 := kA.cell 3
      have a4 := kA.cell 4
      have a5 := kA.cell 5
      have fa0 := kA.frozen 0
      have fa1 := kA.frozen 1
      have fa2 := kA.frozen 2
      have fa3 := kA.frozen 3
      have fa4 := kA.frozen 4
      have fa5 := kA.frozen 5
      have la := kA.lt
      simp only [List.getElem?_cons_zero, List.getElem?_cons_succ] at a0 a1 a2 a3 a4 a5
      have b0 := kB.cell 0
      have b1 := kB.cell 1
      have b2 := kB.cell 2
      have b3 := kB.cell 3
      have b4 := kB.cell 4
      have b5 := kB.cell 5
      have fb0 := kB.frozen 0
      have fb1 := kB.frozen 1
      have fb2 := kB.frozen 2
      have fb3 := kB.frozen 3
      have fb4 := kB.frozen 4
      have fb5 := kB.frozen 5
      have lb := kB.lt
      simp only [List.getElem?_cons_zero, List.getElem?_cons_succ] at b0 b1 b2 b3 b4 b5
      clear kA kB
      go_wp2
      (refine bodyPost_ret (by simp (maxDischargeDepth := 4) [results, Tryz.results5, go_sem, *]; try rfl) rfl ?_)
      exact PS.mk HNO.out (by (repeat' (first | (with_reducible exact Below.refl _ _) | (with_reducible assumption) | (with_reducible refine balloc ?_ _) | (with_reducible refine bdrew ?_) | (with_reducible refine bdrewN ?_ _) | (with_reducible refine bstep ?_ (by assumption)) | (with_reducible refine bset ?_ ?_ _) | (exact Below.size (by assumption)) | go_size)))
end Go.Proofs.YtcebbmikgpipeaaGreatDoor
