/-
  The reference's situation of a text of 11 words. Conditions: the text's length.
-/
import Derived.Test.YtcebbmikgpipeaaGreatDoorQWP
namespace Go.Proofs.YtcebbmikgpipeaaGreatDoor
open Go Go.RowKit
set_option maxRecDepth 100000
set_option maxHeartbeats 8000000
theorem sParseSit_11 {s : ByteArray} {L : List ByteArray} {n : Nat} (hL : spB 32 s = L) (hn : L.length = n) (hN : n = 11) (hs : s.size ≤ 120) (h2 : 2 ≤ (L.getD 3 ⟨#[]⟩).size) (w : World) : Calls Tryz.prog 5 #[.string s] w (PS s w) := by
  have HS := Lib.hid (fun W => by
    have h := l1Split_is (c := 32) hL (by omega) W
    rw [hn] at h
    exact h)
  have hread := fun {a b c d e f : Int} (h1 : sitB a b c d e f = true) (h2 : sitTextI a b c d e f = s) => sit_read hL h1 h2
  have z : ∀ x ∈ L, x.size ≤ s.size := fun x hx => spB_mem (by rw [hL]; exact hx)
  have zg : ∀ j, (L.getD j ⟨#[]⟩).size ≤ 1048576 := fun j => by
    by_cases h : j < L.length
    · rw [List.getD_eq_getElem?_getD, List.getElem?_eq_getElem h]
      have := z _ (List.getElem_mem h)
      simp only [Option.getD_some]; omega
    · rw [List.getD_eq_getElem?_getD, List.getElem?_eq_none (by omega)]; decide
  obtain ⟨x1, hx1⟩ : ∃ x, L.getD 1 ⟨#[]⟩ = x := ⟨_, rfl⟩
  obtain ⟨x3, hx3⟩ : ∃ x, L.getD 3 ⟨#[]⟩ = x := ⟨_, rfl⟩
  obtain ⟨x4, hx4⟩ : ∃ x, L.getD 4 ⟨#[]⟩ = x := ⟨_, rfl⟩
  obtain ⟨x6, hx6⟩ : ∃ x, L.getD 6 ⟨#[]⟩ = x := ⟨_, rfl⟩
  obtain ⟨x9, hx9⟩ : ∃ x, L.getD 9 ⟨#[]⟩ = x := ⟨_, rfl⟩
  have z1 := zg 1
  rw [hx1] at z1
  have z3 := zg 3
  rw [hx3] at z3
  have z4 := zg 4
  rw [hx4] at z4
  have z6 := zg 6
  rw [hx6] at z6
  have z9 := zg 9
  rw [hx9] at z9
  rw [hx3] at h2
  have zy : (x3.extract 0 (x3.size - 1)).size ≤ 1048576 := by simp [ByteArray.size_extract]; omega
  obtain ⟨a, ha⟩ : ∃ i, rdV x1 = i := ⟨_, rfl⟩
  obtain ⟨b, hb⟩ : ∃ i, rdV (x3.extract 0 (x3.size - 1)) = i := ⟨_, rfl⟩
  obtain ⟨c, hc⟩ : ∃ i, rdV x4 = i := ⟨_, rfl⟩
  obtain ⟨d, hd⟩ : ∃ i, rdV x6 = i := ⟨_, rfl⟩
  obtain ⟨e, he⟩ : ∃ i, rdV x9 = i := ⟨_, rfl⟩
  obtain ⟨f, hf⟩ : ∃ i : Int, i = 0 := ⟨_, rfl⟩
  obtain ⟨q, hq⟩ : ∃ q, sitB a b c d e f = q := ⟨_, rfl⟩
  have Ha := Lib.hid (fun W => l1Read_is ha rfl z1 W)
  have Hb := Lib.hid (fun W => l1Read_is hb rfl zy W)
  have Hc := Lib.hid (fun W => l1Read_is hc rfl z4 W)
  have Hd := Lib.hid (fun W => l1Read_is hd rfl z6 W)
  have He := Lib.hid (fun W => l1Read_is he rfl z9 W)
  have HQ := Lib.hid (fun W => l18One_q hq W)
  have HUN := Lib.hid (show ∀ a' b' c' d' e' f', sitB a' b' c' d' e' f' = true → sitTextI a' b' c' d' e' f' = s → a' = a ∧ b' = b ∧ c' = c ∧ d' = d ∧ e' = e ∧ f' = f from fun a' b' c' d' e' f' h1 h2 => by
    obtain ⟨_, _, _, r1, r2, r3, r4, r5, r6⟩ := hread h1 h2
    rw [hx1, ha] at r1
    rw [hx3, hb] at r2
    rw [hx4, hc] at r3
    rw [hx6, hd] at r4
    rw [hx9, he] at r5
    rw [if_neg (by omega)] at r6
    exact ⟨r1.symm, r2.symm, r3.symm, r4.symm, r5.symm, by omega⟩)
  have i60 : ¬ (120 : Int) < (s.size : Int) := by omega
  have i2 : ¬ (x3.size : Int) < 2 := by omega
  have ln : 1 < L.length ∧ 3 < L.length ∧ 4 < L.length ∧ 6 < L.length ∧ 9 < L.length := by omega
  obtain ⟨ln1, ln3, ln4, ln6, ln9⟩ := ln
  subst hN
  have w3 : ∀ (W : World) (b off : Nat), Rd W 1 (some ⟨b, off, none⟩) 11 (strs L) → W.cell? ⟨b, off + 1, none⟩ = some (.string x1) ∧ W.cell? ⟨b, off + 3, none⟩ = some (.string x3) ∧ W.cell? ⟨b, off + 4, none⟩ = some (.string x4) ∧ W.cell? ⟨b, off + 6, none⟩ = some (.string x6) ∧ W.cell? ⟨b, off + 9, none⟩ = some (.string x9) := fun W b off h => ⟨rd_word h ln1 hx1, rd_word h ln3 hx3, rd_word h ln4 hx4, rd_word h ln6 hx6, rd_word h ln9 hx9⟩
  have HW := Lib.hid w3
  clear w3 hread z zg zy hL hn hx1 z1 ln1 hx3 ln3 hx4 z4 ln4 hx6 z6 ln6 hx9 z9 ln9
  clear ha hb hc hd he
  go_enter Tryz.func5, Tryz.ntmps5
  go_upto_region 1 with fail
  obtain ⟨g2, hg2⟩ : ∃ g, w.heap.size = g := ⟨_, rfl⟩
  refine wp_gen (fun W => Below w.heap.size w W ∧ Bk W g2 23 [.int .i64 0, .int .i64 0, .int .i64 0, .int .i64 0, .int .i64 0, .int .i64 0]) ⟨by (repeat' (first | (with_reducible exact Below.refl _ _) | (with_reducible assumption) | (with_reducible refine balloc ?_ _) | (with_reducible refine bdrew ?_) | (with_reducible refine bdrewN ?_ _) | (with_reducible refine bstep ?_ (by assumption)) | (with_reducible refine bset ?_ ?_ _) | (exact Below.size (by assumption)) | go_size)), by rw [← hg2]; exact Bk.new _ _ _⟩ ?_
  intro W1 ⟨bW, kA⟩
  (try rw [hg2])
  have hA : w.heap.size ≤ g2 := by omega
  clear hg2
  go_upto_region 2 with fail
  obtain ⟨g4, hg4⟩ : ∃ g, W1.heap.size = g := ⟨_, rfl⟩
  refine wp_gen (fun W => Below w.heap.size w W ∧ Bk W g2 23 [.int .i64 0, .int .i64 0, .int .i64 0, .int .i64 0, .int .i64 0, .int .i64 0] ∧ Bk W g4 23 [.int .i64 0, .int .i64 0, .int .i64 0, .int .i64 0, .int .i64 0, .int .i64 0]) ⟨by (repeat' (first | (with_reducible exact Below.refl _ _) | (with_reducible assumption) | (with_reducible refine balloc ?_ _) | (with_reducible refine bdrew ?_) | (with_reducible refine bdrewN ?_ _) | (with_reducible refine bstep ?_ (by assumption)) | (with_reducible refine bset ?_ ?_ _) | (exact Below.size (by assumption)) | go_size)), kA.alloc _, by rw [← hg4]; exact Bk.new _ _ _⟩ ?_
  (try rw [hg4])
  have hAB : ¬ g2 = g4 := by have := kA.lt; omega
  clear hg4 bW kA
  intro W2 ⟨bW, kA, kB⟩
  go_upto_region 3 with (go_at_call 17; refine (HS.out _).mono ?_; rintro e w1 ⟨v, rfl, hO, b1⟩; obtain ⟨A, cp, rfl, hR, hm⟩ := own_rd hO)
  refine wp_gen (fun W => Below w.heap.size w W ∧ Bk W g2 23 [.int .i64 0, .int .i64 0, .int .i64 0, .int .i64 0, .int .i64 0, .int .i64 0] ∧ Bk W g4 23 [.int .i64 0, .int .i64 0, .int .i64 0, .int .i64 0, .int .i64 0, .int .i64 0] ∧ Rd W 1 A 11 (strs L)) ⟨bstep bW b1, kA.below b1 kA.lt, kB.below b1 kB.lt, hR⟩ ?_
  clear bW kA kB hO hR b1
  intro W3 ⟨bW, kA, kB, hR⟩
  obtain ⟨b0, off, rfl, lb, _⟩ := hR.2 (by decide)
  obtain ⟨g7, hg7⟩ : ∃ g, W3.heap.size = g := ⟨_, rfl⟩
  obtain ⟨c1, c3, c4, c6, c9⟩ := HW.out _ _ _ hR
  go_upto_region 7 with fail
  refine wp_gen (fun W => Below W3.heap.size W3 W ∧ Bk W g7 23 [.int .i64 0, .int .i64 0, .int .i64 0, .int .i64 0, .int .i64 0, .int .i64 0]) ⟨by (repeat' (first | (with_reducible exact Below.refl _ _) | (with_reducible assumption) | (with_reducible refine balloc ?_ _) | (with_reducible refine bdrew ?_) | (with_reducible refine bdrewN ?_ _) | (with_reducible refine bstep ?_ (by assumption)) | (with_reducible refine bset ?_ ?_ _) | (exact Below.size (by assumption)) | go_size)), by rw [← hg7]; exact Bk.new _ _ _⟩ ?_
  intro W4 ⟨bV, kO⟩
  have h36 : W3.heap.size ≤ g7 := by omega
  clear hg7 c1 c3 c4 c6 c9
  obtain ⟨c1, c3, c4, c6, c9⟩ := HW.out _ _ _ (hR.below bV)
  have lo := kO.lt
  go_upto_region 8 with (go_at_call 18; refine (Ha.out _).mono ?_; rintro e w2 ⟨rfl, b2⟩; have kN := kO.below b2 lo; have o0 := kN.cell 0; have fo0 := kN.frozen 0; simp only [List.getElem?_cons_zero] at o0)
  refine wp_gen (fun W => Below W3.heap.size W3 W ∧ Bk W g7 23 [.int .i64 a, .int .i64 0, .int .i64 0, .int .i64 0, .int .i64 0, .int .i64 0]) ⟨bset (bstep bV b2) h36 _, kN.set_ 0 _⟩ ?_
  clear bV kO c1 c3 c4 c6 c9 lo kN b2 o0 fo0 Ha
  intro W5 ⟨bV, kO⟩
  have hRV := hR.below bV
  have lb8 : b0 < W5.heap.size := Nat.lt_of_lt_of_le lb bV.size
  obtain ⟨c1, c3, c4, c6, c9⟩ := HW.out _ _ _ hRV
  have e1 : IntKind.i64.wrap ((x3.size : Int) - 1) = (x3.size : Int) - 1 := by rw [IntKind.wrap_i64]; omega
  have e2 : (0 : Int) ≤ (x3.size : Int) - 1 := by omega
  have e3 : ¬ (x3.size : Int) < (x3.size : Int) - 1 := by omega
  have e4 : ((x3.size : Int) - 1).toNat = x3.size - 1 := by omega
  have o1 := kO.cell 1
  have fo1 := kO.frozen 1
  simp only [List.getElem?_cons_zero, List.getElem?_cons_succ] at o1
  have lo := kO.lt
  go_cut [41, 42, 43, 44, 45, 46, 47, 48, 49, 50, 51, 52, 53, 54] (fun s41 s42 s43 s44 s45 s46 s47 s48 s49 s50 s51 s52 s53 s54 wx => Below W3.heap.size W3 wx ∧ Bk wx g7 23 [.int .i64 a, .int .i64 b, .int .i64 0, .int .i64 0, .int .i64 0, .int .i64 0])
  case first =>
    go_region_with (go_at_call 18; refine (Hb.out _).mono ?_; rintro e w2 ⟨rfl, b2⟩; obtain ⟨cN, fN⟩ := bcell b2; have zN := bsize b2; have n0 := (cN g7 1 lo).trans o1; have nf0 := (fN g7 1 lo).trans fo1; have nc1 := (cN b0 (off + 3) lb8).trans c3; have kN := (kO.drew).below b2 lo; have bN := bstep (bdrew bV) b2)
    all_goals
      go_wp2_with fail
      go_meet
      exact ⟨bset bN h36 _, kN.set_ 1 _⟩
  case rest =>
  clear bV kO hRV lb8 c1 c3 c4 c6 c9 o1 fo1 lo e1 e2 e3 e4 Hb
  obtain ⟨bV, kO⟩ := hcut
  obtain ⟨c1, c3, c4, c6, c9⟩ := HW.out _ _ _ (hR.below bV)
  have lo := kO.lt
  go_upto_region 10 with (go_at_call 18; refine (Hc.out _).mono ?_; rintro e w2 ⟨rfl, b2⟩; have kN := kO.below b2 lo; have o2 := kN.cell 2; have fo2 := kN.frozen 2; simp only [List.getElem?_cons_zero, List.getElem?_cons_succ] at o2)
  refine wp_gen (fun W => Below W3.heap.size W3 W ∧ Bk W g7 23 [.int .i64 a, .int .i64 b, .int .i64 c, .int .i64 0, .int .i64 0, .int .i64 0]) ⟨bset (bstep bV b2) h36 _, kN.set_ 2 _⟩ ?_
  clear bV kO c1 c3 c4 c6 c9 lo kN b2 o2 fo2 Hc
  intro W7 ⟨bV, kO⟩
  obtain ⟨c1, c3, c4, c6, c9⟩ := HW.out _ _ _ (hR.below bV)
  have lo := kO.lt
  go_upto_region 11 with (go_at_call 18; refine (Hd.out _).mono ?_; rintro e w2 ⟨rfl, b2⟩; have kN := kO.below b2 lo; have o3 := kN.cell 3; have fo3 := kN.frozen 3; simp only [List.getElem?_cons_zero, List.getElem?_cons_succ] at o3)
  refine wp_gen (fun W => Below W3.heap.size W3 W ∧ Bk W g7 23 [.int .i64 a, .int .i64 b, .int .i64 c, .int .i64 d, .int .i64 0, .int .i64 0]) ⟨bset (bstep bV b2) h36 _, kN.set_ 3 _⟩ ?_
  clear bV kO c1 c3 c4 c6 c9 lo kN b2 o3 fo3 Hd
  intro W8 ⟨bV, kO⟩
  obtain ⟨c1, c3, c4, c6, c9⟩ := HW.out _ _ _ (hR.below bV)
  have lo := kO.lt
  go_upto_region 12 with (go_at_call 18; refine (He.out _).mono ?_; rintro e w2 ⟨rfl, b2⟩; have kN := kO.below b2 lo; have o4 := kN.cell 4; have fo4 := kN.frozen 4; simp only [List.getElem?_cons_zero, List.getElem?_cons_succ] at o4)
  refine wp_gen (fun W => Below W3.heap.size W3 W ∧ Bk W g7 23 [.int .i64 a, .int .i64 b, .int .i64 c, .int .i64 d, .int .i64 e, .int .i64 0]) ⟨bset (bstep bV b2) h36 _, kN.set_ 4 _⟩ ?_
  clear bV kO c1 c3 c4 c6 c9 lo kN b2 o4 fo4 He
  intro W9 ⟨bV, kO⟩
  subst hf
  go_upto_region 14 with fail
  have kA := kA.below bV kA.lt
  have kB := kB.below bV kB.lt
  have h26 : w.heap.size ≤ g7 := Nat.le_trans bW.size h36
  have bW := bstep bW bV
  clear bV h36 hR lb HW
  rcases q with _ | _
  · have hno := sitOf_no (s := s) (fun a' b' c' d' e' f' h1 h2 => by
      obtain ⟨rfl, rfl, rfl, rfl, rfl, rfl⟩ := HUN.out a' b' c' d' e' f' h1 h2
      rw [hq] at h1; cases h1)
    have HNO := Lib.hid hno
    clear hno hq HUN
    have a0 := kA.cell 0
    have a1 := kA.cell 1
    have a2 := kA.cell 2
    have a3 := kA.cell 3
    have a4 := kA.cell 4
    have a5 := kA.cell 5
    have fa0 := kA.frozen 0
    have fa1 := kA.frozen 1
    have fa2 := kA.frozen 2
    have fa3 := kA.frozen 3
    have fa4 := kA.frozen 4
    have fa5 := kA.frozen 5
    have la := kA.lt
    simp only [List.getElem?_cons_zero, List.getElem?_cons_succ] at a0 a1 a2 a3 a4 a5
    have b0 := kB.cell 0
    have b1 := kB.cell 1
    have b2 := kB.cell 2
    have b3 := kB.cell 3
    have b4 := kB.cell 4
    have b5 := kB.cell 5
    have fb0 := kB.frozen 0
    have fb1 := kB.frozen 1
    have fb2 := kB.frozen 2
    have fb3 := kB.frozen 3
    have fb4 := kB.frozen 4
    have fb5 := kB.frozen 5
    have lb := kB.lt
    simp only [List.getElem?_cons_zero, List.getElem?_cons_succ] at b0 b1 b2 b3 b4 b5
    have o0 := kO.cell 0
    have o1 := kO.cell 1
    have o2 := kO.cell 2
    have o3 := kO.cell 3
    have o4 := kO.cell 4
    have o5 := kO.cell 5
    have fo0 := kO.frozen 0
    have fo1 := kO.frozen 1
    have fo2 := kO.frozen 2
    have fo3 := kO.frozen 3
    have fo4 := kO.frozen 4
    have fo5 := kO.frozen 5
    have lo := kO.lt
    simp only [List.getElem?_cons_zero, List.getElem?_cons_succ] at o0 o1 o2 o3 o4 o5
    go_wp2_with (first | (go_at_call 19; refine (HQ.out _).mono ?_; rintro e w2 ⟨rfl, b2⟩; have kA := kA.below b2 kA.lt; have kB := kB.below b2 kB.lt; have kO := kO.below b2 kO.lt; have bW := bstep bW b2; have a0 := kA.cell 0; have a1 := kA.cell 1; have a2 := kA.cell 2; have a3 := kA.cell 3; have a4 := kA.cell 4; have a5 := kA.cell 5; have fa0 := kA.frozen 0; have fa1 := kA.frozen 1; have fa2 := kA.frozen 2; have fa3 := kA.frozen 3; have fa4 := kA.frozen 4; have fa5 := kA.frozen 5; have la := kA.lt; simp only [List.getElem?_cons_zero, List.getElem?_cons_succ] at a0 a1 a2 a3 a4 a5; have b0 := kB.cell 0; have b1 := kB.cell 1; have b2 := kB.cell 2; have b3 := kB.cell 3; have b4 := kB.cell 4; have b5 := kB.cell 5; have fb0 := kB.frozen 0; have fb1 := kB.frozen 1; have fb2 := kB.frozen 2; have fb3 := kB.frozen 3; have fb4 := kB.frozen 4; have fb5 := kB.frozen 5; have lb := kB.lt; simp only [List.getElem?_cons_zero, List.getElem?_cons_succ] at b0 b1 b2 b3 b4 b5; have o0 := kO.cell 0; have o1 := kO.cell 1; have o2 := kO.cell 2; have o3 := kO.cell 3; have o4 := kO.cell 4; have o5 := kO.cell 5; have fo0 := kO.frozen 0; have fo1 := kO.frozen 1; have fo2 := kO.frozen 2; have fo3 := kO.frozen 3; have fo4 := kO.frozen 4; have fo5 := kO.frozen 5; have lo := kO.lt; simp only [List.getElem?_cons_zero, List.getElem?_cons_succ] at o0 o1 o2 o3 o4 o5))
    (refine bodyPost_ret (by simp (maxDischargeDepth := 4) [results, Tryz.results5, go_sem, *]; try rfl) rfl ?_)
    exact PS.mk HNO.out (by (repeat' (first | (with_reducible exact Below.refl _ _) | (with_reducible assumption) | (with_reducible refine balloc ?_ _) | (with_reducible refine bdrew ?_) | (with_reducible refine bdrewN ?_ _) | (with_reducible refine bstep ?_ (by assumption)) | (with_reducible refine bset ?_ ?_ _) | (exact Below.size (by assumption)) | go_size)))
  · obtain ⟨e1, e2, e3, e4, e5, e6⟩ := sit_nat hq
    have hp := sit_parts (a := a.toNat) (b := b.toNat) (c := c.toNat) (d := d.toNat) (e := e.toNat) (f := (0 : Int).toNat) (by rw [e1, e2, e3, e4, e5, e6]; exact hq)
    obtain ⟨x, hx⟩ : ∃ x, sitTextI a b c d e 0 = x := ⟨_, rfl⟩
    have HX := Lib.hid (fun W => (by
      have h := l18Text_is (show sitText a.toNat b.toNat c.toNat d.toNat e.toNat (0 : Int).toNat = x from hx) (by omega) (by omega) (by omega) (by omega) (by omega) (by omega) W
      rw [e1, e2, e3, e4, e5, e6] at h
      exact h : Calls Tryz.prog 20 #[.agg #[.int .i64 a, .int .i64 b, .int .i64 c, .int .i64 d, .int .i64 e, .int .i64 0]] W fun r w' => r = .returned (.string x) ∧ Below W.heap.size W w'))
    by_cases he : x = s
    · have hok : SitOf s a b c d e 0 true := .inl ⟨rfl, hq, hx.trans he⟩
      have HOK := Lib.hid hok
      have f1 := str_yes he
      clear hok hq HUN hx he hp e1 e2 e3 e4 e5 e6
      have a0 := kA.cell 0
      have a1 := kA.cell 1
      have a2 := kA.cell 2
      have a3 := kA.cell 3
      have a4 := kA.cell 4
      have a5 := kA.cell 5
      have fa0 := kA.frozen 0
      have fa1 := kA.frozen 1
      have fa2 := kA.frozen 2
      have fa3 := kA.frozen 3
      have fa4 := kA.frozen 4
      have fa5 := kA.frozen 5
      have la := kA.lt
      simp only [List.getElem?_cons_zero, List.getElem?_cons_succ] at a0 a1 a2 a3 a4 a5
      have b0 := kB.cell 0
      have b1 := kB.cell 1
      have b2 := kB.cell 2
      have b3 := kB.cell 3
      have b4 := kB.cell 4
      have b5 := kB.cell 5
      have fb0 := kB.frozen 0
      have fb1 := kB.frozen 1
      have fb2 := kB.frozen 2
      have fb3 := kB.frozen 3
      have fb4 := kB.frozen 4
      have fb5 := kB.frozen 5
      have lb := kB.lt
      simp only [List.getElem?_cons_zero, List.getElem?_cons_succ] at b0 b1 b2 b3 b4 b5
      have o0 := kO.cell 0
      have o1 := kO.cell 1
      have o2 := kO.cell 2
      have o3 := kO.cell 3
      have o4 := kO.cell 4
      have o5 := kO.cell 5
      have fo0 := kO.frozen 0
      have fo1 := kO.frozen 1
      have fo2 := kO.frozen 2
      have fo3 := kO.frozen 3
      have fo4 := kO.frozen 4
      have fo5 := kO.frozen 5
      have lo := kO.lt
      simp only [List.getElem?_cons_zero, List.getElem?_cons_succ] at o0 o1 o2 o3 o4 o5
      go_wp2_with (first | (go_at_call 19; refine (HQ.out _).mono ?_; rintro e w2 ⟨rfl, b2⟩; have kA := kA.below b2 kA.lt; have kB := kB.below b2 kB.lt; have kO := kO.below b2 kO.lt; have bW := bstep bW b2; have a0 := kA.cell 0; have a1 := kA.cell 1; have a2 := kA.cell 2; have a3 := kA.cell 3; have a4 := kA.cell 4; have a5 := kA.cell 5; have fa0 := kA.frozen 0; have fa1 := kA.frozen 1; have fa2 := kA.frozen 2; have fa3 := kA.frozen 3; have fa4 := kA.frozen 4; have fa5 := kA.frozen 5; have la := kA.lt; simp only [List.getElem?_cons_zero, List.getElem?_cons_succ] at a0 a1 a2 a3 a4 a5; have b0 := kB.cell 0; have b1 := kB.cell 1; have b2 := kB.cell 2; have b3 := kB.cell 3; have b4 := kB.cell 4; have b5 := kB.cell 5; have fb0 := kB.frozen 0; have fb1 := kB.frozen 1; have fb2 := kB.frozen 2; have fb3 := kB.frozen 3; have fb4 := kB.frozen 4; have fb5 := kB.frozen 5; have lb := kB.lt; simp only [List.getElem?_cons_zero, List.getElem?_cons_succ] at b0 b1 b2 b3 b4 b5; have o0 := kO.cell 0; have o1 := kO.cell 1; have o2 := kO.cell 2; have o3 := kO.cell 3; have o4 := kO.cell 4; have o5 := kO.cell 5; have fo0 := kO.frozen 0; have fo1 := kO.frozen 1; have fo2 := kO.frozen 2; have fo3 := kO.frozen 3; have fo4 := kO.frozen 4; have fo5 := kO.frozen 5; have lo := kO.lt; simp only [List.getElem?_cons_zero, List.getElem?_cons_succ] at o0 o1 o2 o3 o4 o5) | (go_at_call 20; refine (HX.out _).mono ?_; rintro e w3 ⟨rfl, b3⟩; have kA := kA.below b3 kA.lt; have kB := kB.below b3 kB.lt; have kO := kO.below b3 kO.lt; have bW := bstep bW b3; have a0 := kA.cell 0; have a1 := kA.cell 1; have a2 := kA.cell 2; have a3 := kA.cell 3; have a4 := kA.cell 4; have a5 := kA.cell 5; have fa0 := kA.frozen 0; have fa1 := kA.frozen 1; have fa2 := kA.frozen 2; have fa3 := kA.frozen 3; have fa4 := kA.frozen 4; have fa5 := kA.frozen 5; have la := kA.lt; simp only [List.getElem?_cons_zero, List.getElem?_cons_succ] at a0 a1 a2 a3 a4 a5; have b0 := kB.cell 0; have b1 := kB.cell 1; have b2 := kB.cell 2; have b3 := kB.cell 3; have b4 := kB.cell 4; have b5 := kB.cell 5; have fb0 := kB.frozen 0; have fb1 := kB.frozen 1; have fb2 := kB.frozen 2; have fb3 := kB.frozen 3; have fb4 := kB.frozen 4; have fb5 := kB.frozen 5; have lb := kB.lt; simp only [List.getElem?_cons_zero, List.getElem?_cons_succ] at b0 b1 b2 b3 b4 b5; have o0 := kO.cell 0; have o1 := kO.cell 1; have o2 := kO.cell 2; have o3 := kO.cell 3; have o4 := kO.cell 4; have o5 := kO.cell 5; have fo0 := kO.frozen 0; have fo1 := kO.frozen 1; have fo2 := kO.frozen 2; have fo3 := kO.frozen 3; have fo4 := kO.frozen 4; have fo5 := kO.frozen 5; have lo := kO.lt; simp only [List.getElem?_cons_zero, List.getElem?_cons_succ] at o0 o1 o2 o3 o4 o5))
      all_goals first
        | ((refine bodyPost_ret (by simp (maxDischargeDepth := 4) [results, Tryz.results5, go_sem, *]; try rfl) rfl ?_); exact PS.mk HOK.out (by (repeat' (first | (with_reducible exact Below.refl _ _) | (with_reducible assumption) | (with_reducible refine balloc ?_ _) | (with_reducible refine bdrew ?_) | (with_reducible refine bdrewN ?_ _) | (with_reducible refine bstep ?_ (by assumption)) | (with_reducible refine bset ?_ ?_ _) | (exact Below.size (by assumption)) | go_size))))
        | (exfalso; rename_i h9; rw [f1] at h9; simp at h9; done)
    · have hno := sitOf_no (s := s) (fun a' b' c' d' e' f' h1 h2 => by
        obtain ⟨rfl, rfl, rfl, rfl, rfl, rfl⟩ := HUN.out a' b' c' d' e' f' h1 h2
        exact he (hx.symm.trans h2))
      have HNO := Lib.hid hno
      have f1 := str_no he
      clear hno hq HUN hx he hp e1 e2 e3 e4 e5 e6
      have a0 := kA.cell 0
      have a1 := kA.cell 1
      have a2 := kA.cell 2
      have a3 := kA.cell 3
      have a4 := kA.cell 4
      have a5 := kA.cell 5
      have fa0 := kA.frozen 0
      have fa1 := kA.frozen 1
      have fa2 := kA.frozen 2
      have fa3 := kA.frozen 3
      have fa4 := kA.frozen 4
      have fa5 := kA.frozen 5
      have la := kA.lt
      simp only [List.getElem?_cons_zero, List.getElem?_cons_succ] at a0 a1 a2 a3 a4 a5
      have b0 := kB.cell 0
      have b1 := kB.cell 1
      have b2 := kB.cell 2
      have b3 := kB.cell 3
      have b4 := kB.cell 4
      have b5 := kB.cell 5
      have fb0 := kB.frozen 0
      have fb1 := kB.frozen 1
      have fb2 := kB.frozen 2
      have fb3 := kB.frozen 3
      have fb4 := kB.frozen 4
      have fb5 := kB.frozen 5
      have lb := kB.lt
      simp only [List.getElem?_cons_zero, List.getElem?_cons_succ] at b0 b1 b2 b3 b4 b5
      have o0 := kO.cell 0
      have o1 := kO.cell 1
      have o2 := kO.cell 2
      have o3 := kO.cell 3
      have o4 := kO.cell 4
      have o5 := kO.cell 5
      have fo0 := kO.frozen 0
      have fo1 := kO.frozen 1
      have fo2 := kO.frozen 2
      have fo3 := kO.frozen 3
      have fo4 := kO.frozen 4
      have fo5 := kO.frozen 5
      have lo := kO.lt
      simp only [List.getElem?_cons_zero, List.getElem?_cons_succ] at o0 o1 o2 o3 o4 o5
      go_wp2_with (first | (go_at_call 19; refine (HQ.out _).mono ?_; rintro e w2 ⟨rfl, b2⟩; have kA := kA.below b2 kA.lt; have kB := kB.below b2 kB.lt; have kO := kO.below b2 kO.lt; have bW := bstep bW b2; have a0 := kA.cell 0; have a1 := kA.cell 1; have a2 := kA.cell 2; have a3 := kA.cell 3; have a4 := kA.cell 4; have a5 := kA.cell 5; have fa0 := kA.frozen 0; have fa1 := kA.frozen 1; have fa2 := kA.frozen 2; have fa3 := kA.frozen 3; have fa4 := kA.frozen 4; have fa5 := kA.frozen 5; have la := kA.lt; simp only [List.getElem?_cons_zero, List.getElem?_cons_succ] at a0 a1 a2 a3 a4 a5; have b0 := kB.cell 0; have b1 := kB.cell 1; have b2 := kB.cell 2; have b3 := kB.cell 3; have b4 := kB.cell 4; have b5 := kB.cell 5; have fb0 := kB.frozen 0; have fb1 := kB.frozen 1; have fb2 := kB.frozen 2; have fb3 := kB.frozen 3; have fb4 := kB.frozen 4; have fb5 := kB.frozen 5; have lb := kB.lt; simp only [List.getElem?_cons_zero, List.getElem?_cons_succ] at b0 b1 b2 b3 b4 b5; have o0 := kO.cell 0; have o1 := kO.cell 1; have o2 := kO.cell 2; have o3 := kO.cell 3; have o4 := kO.cell 4; have o5 := kO.cell 5; have fo0 := kO.frozen 0; have fo1 := kO.frozen 1; have fo2 := kO.frozen 2; have fo3 := kO.frozen 3; have fo4 := kO.frozen 4; have fo5 := kO.frozen 5; have lo := kO.lt; simp only [List.getElem?_cons_zero, List.getElem?_cons_succ] at o0 o1 o2 o3 o4 o5) | (go_at_call 20; refine (HX.out _).mono ?_; rintro e w3 ⟨rfl, b3⟩; have kA := kA.below b3 kA.lt; have kB := kB.below b3 kB.lt; have kO := kO.below b3 kO.lt; have bW := bstep bW b3; have a0 := kA.cell 0; have a1 := kA.cell 1; have a2 := kA.cell 2; have a3 := kA.cell 3; have a4 := kA.cell 4; have a5 := kA.cell 5; have fa0 := kA.frozen 0; have fa1 := kA.frozen 1; have fa2 := kA.frozen 2; have fa3 := kA.frozen 3; have fa4 := kA.frozen 4; have fa5 := kA.frozen 5; have la := kA.lt; simp only [List.getElem?_cons_zero, List.getElem?_cons_succ] at a0 a1 a2 a3 a4 a5; have b0 := kB.cell 0; have b1 := kB.cell 1; have b2 := kB.cell 2; have b3 := kB.cell 3; have b4 := kB.cell 4; have b5 := kB.cell 5; have fb0 := kB.frozen 0; have fb1 := kB.frozen 1; have fb2 := kB.frozen 2; have fb3 := kB.frozen 3; have fb4 := kB.frozen 4; have fb5 := kB.frozen 5; have lb := kB.lt; simp only [List.getElem?_cons_zero, List.getElem?_cons_succ] at b0 b1 b2 b3 b4 b5; have o0 := kO.cell 0; have o1 := kO.cell 1; have o2 := kO.cell 2; have o3 := kO.cell 3; have o4 := kO.cell 4; have o5 := kO.cell 5; have fo0 := kO.frozen 0; have fo1 := kO.frozen 1; have fo2 := kO.frozen 2; have fo3 := kO.frozen 3; have fo4 := kO.frozen 4; have fo5 := kO.frozen 5; have lo := kO.lt; simp only [List.getElem?_cons_zero, List.getElem?_cons_succ] at o0 o1 o2 o3 o4 o5))
      all_goals first
        | ((refine bodyPost_ret (by simp (maxDischargeDepth := 4) [results, Tryz.results5, go_sem, *]; try rfl) rfl ?_); exact PS.mk HNO.out (by (repeat' (first | (with_reducible exact Below.refl _ _) | (with_reducible assumption) | (with_reducible refine balloc ?_ _) | (with_reducible refine bdrew ?_) | (with_reducible refine bdrewN ?_ _) | (with_reducible refine bstep ?_ (by assumption)) | (with_reducible refine bset ?_ ?_ _) | (exact Below.size (by assumption)) | go_size))))
        | (exfalso; rename_i h9; rw [f1] at h9; simp at h9; done)
end Go.Proofs.YtcebbmikgpipeaaGreatDoor
