/-
  The reference's order of a text. Conditions: the text's length.
-/
import Derived.Test.YthblodglmmaocaaDoorPO
import Derived.Test.YthblodglmmaocaaDoorQT
namespace Go.Proofs.YthblodglmmaocaaDoor
open Go Go.RowKit
set_option maxRecDepth 100000
set_option maxHeartbeats 8000000
/-- what ParseOrder hands back -/
def PO (s : ByteArray) (w : World) (e : Ending) (w' : World) : Prop := ∃ i k c u t q, OrdOf s i k c u t q ∧ e = .returned (.tuple #[.agg #[.int .i64 i, .string k, .int .i64 c, .int .i64 u, .int .i64 t], .bool q]) ∧ Below w.heap.size w w'
theorem PO.mk {s : ByteArray} {w w' : World} {i : Int} {k : ByteArray} {c u t : Int} {q : Bool} (h : OrdOf s i k c u t q) (hb : Below w.heap.size w w') : PO s w (.returned (.tuple #[.agg #[.int .i64 i, .string k, .int .i64 c, .int .i64 u, .int .i64 t], .bool q])) w' := ⟨i, k, c, u, t, q, h, rfl, hb⟩
theorem l15One_q {i : Int} {k : ByteArray} {c u t : Int} {q : Bool} (hq : ordB i k c u t = q) (hs : k.size ≤ maxLen) (w : World) : Calls Tryd.prog 9 #[.agg #[.int .i64 i, .string k, .int .i64 c, .int .i64 u, .int .i64 t]] w fun e w' => e = .returned (.bool q) ∧ Below w.heap.size w w' := by
  rw [← hq]; exact l15One_any i k c u t w hs
/-- a text that is no order's -/
theorem ordOf_no {s : ByteArray} (h : ∀ i k c u t, ordB i k c u t = true → ¬ ordText i.toNat k c.toNat u.toNat t.toNat = s) : OrdOf s 0 ⟨#[]⟩ 0 0 0 false := .inr ⟨rfl, rfl, rfl, rfl, rfl, rfl, h⟩
theorem sParseOrder_is {s : ByteArray} (hs : s.size ≤ 1048576) (w : World) : Calls Tryd.prog 4 #[.string s] w (PO s w) := by
  obtain ⟨L, hL⟩ : ∃ L, spB 32 s = L := ⟨_, rfl⟩
  have HS := Lib.hid (fun W => l1Split_is (c := 32) hL hs W)
  go_enter Tryd.func4, Tryd.ntmps4
  go_upto_region 1 with fail
  obtain ⟨g2, hg2⟩ : ∃ g, w.heap.size = g := ⟨_, rfl⟩
  refine wp_gen (fun W => Below w.heap.size w W ∧ Bk W g2 23 [.int .i64 0, .string ⟨#[]⟩, .int .i64 0, .int .i64 0, .int .i64 0]) ⟨by (repeat' (first | (with_reducible exact Below.refl _ _) | (with_reducible assumption) | (with_reducible refine balloc ?_ _) | (with_reducible refine bdrew ?_) | (with_reducible refine bdrewN ?_ _) | (with_reducible refine bstep ?_ (by assumption)) | (with_reducible refine bset ?_ ?_ _) | (exact Below.size (by assumption)) | go_size)), by rw [← hg2]; exact Bk.new _ _ _⟩ ?_
  intro W1 ⟨bW, kA⟩
  rw [hg2]
  have hA : w.heap.size ≤ g2 := by omega
  clear hg2
  go_upto_region 2 with fail
  obtain ⟨g4, hg4⟩ : ∃ g, W1.heap.size = g := ⟨_, rfl⟩
  refine wp_gen (fun W => Below w.heap.size w W ∧ Bk W g2 23 [.int .i64 0, .string ⟨#[]⟩, .int .i64 0, .int .i64 0, .int .i64 0] ∧ Bk W g4 23 [.int .i64 0, .string ⟨#[]⟩, .int .i64 0, .int .i64 0, .int .i64 0]) ⟨by (repeat' (first | (with_reducible exact Below.refl _ _) | (with_reducible assumption) | (with_reducible refine balloc ?_ _) | (with_reducible refine bdrew ?_) | (with_reducible refine bdrewN ?_ _) | (with_reducible refine bstep ?_ (by assumption)) | (with_reducible refine bset ?_ ?_ _) | (exact Below.size (by assumption)) | go_size)), kA.alloc _, by rw [← hg4]; exact Bk.new _ _ _⟩ ?_
  rw [hg4]
  have hAB : ¬ g2 = g4 := by have := kA.lt; omega
  clear hg4 bW kA
  intro W2 ⟨bW, kA, kB⟩
  go_upto_region 3 with (go_at_call 7; refine (HS.out _).mono ?_; rintro e w1 ⟨v, rfl, hO, b1⟩; obtain ⟨A, cp, rfl, hR, hm⟩ := own_rd hO)
  refine wp_gen (fun W => Below w.heap.size w W ∧ Bk W g2 23 [.int .i64 0, .string ⟨#[]⟩, .int .i64 0, .int .i64 0, .int .i64 0] ∧ Bk W g4 23 [.int .i64 0, .string ⟨#[]⟩, .int .i64 0, .int .i64 0, .int .i64 0] ∧ Rd W 1 A L.length (strs L)) ⟨bstep bW b1, kA.below b1 kA.lt, kB.below b1 kB.lt, hR⟩ ?_
  clear bW kA kB hO hR b1
  intro W3 ⟨bW, kA, kB, hR⟩
  by_cases h60 : 60 < s.size
  · have hno := ordOf_no (s := s) (fun i k c u t hq h => by have := (ord_wordsI hq h).1; omega)
    have i60 : (60 : Int) < (s.size : Int) := by omega
    have HNO := Lib.hid hno
    clear hno hL hR
    have a0 := kA.cell 0
    have a1 := kA.cell 1
    have a2 := kA.cell 2
    have a3 := kA.cell 3
    have a4 := kA.cell 4
    have fa0 := kA.frozen 0
    have fa1 := kA.frozen 1
    have fa2 := kA.frozen 2
    have fa3 := kA.frozen 3
    have fa4 := kA.frozen 4
    have la := kA.lt
    simp only [List.getElem?_cons_zero, List.getElem?_cons_succ] at a0 a1 a2 a3 a4
    have b0 := kB.cell 0
    have b1 := kB.cell 1
    have b2 := kB.cell 2
    have b3 := kB.cell 3
    have b4 := kB.cell 4
    have fb0 := kB.frozen 0
    have fb1 := kB.frozen 1
    have fb2 := kB.frozen 2
    have fb3 := kB.frozen 3
    have fb4 := kB.frozen 4
    have lb := kB.lt
    simp only [List.getElem?_cons_zero, List.getElem?_cons_succ] at b0 b1 b2 b3 b4
    clear kA kB
    go_wp2
    (refine bodyPost_ret (by simp (maxDischargeDepth := 4) [results, Tryd.results4, go_sem, *]; try rfl) rfl ?_)
    exact PO.mk HNO.out (by (repeat' (first | (with_reducible exact Below.refl _ _) | (with_reducible assumption) | (with_reducible refine balloc ?_ _) | (with_reducible refine bdrew ?_) | (with_reducible refine bdrewN ?_ _) | (with_reducible refine bstep ?_ (by assumption)) | (with_reducible refine bset ?_ ?_ _) | (exact Below.size (by assumption)) | go_size)))
  have i60 : ¬ (60 : Int) < (s.size : Int) := by omega
  by_cases h8 : L.length = 8
  case neg =>
    have hno := ordOf_no (s := s) (fun i k c u t hq h => h8 (by rw [← hL, (ord_wordsI hq h).2.1]; rfl))
    have HNO := Lib.hid hno
    have i8 : ((L.length : Int) == 8) = false := by simp only [beq_eq_false_iff_ne]; omega
    have i9 : ((L.length : Int) != 8) = true := by simp only [bne, i8]; rfl
    clear hno hL h8 hR
    have a0 := kA.cell 0
    have a1 := kA.cell 1
    have a2 := kA.cell 2
    have a3 := kA.cell 3
    have a4 := kA.cell 4
    have fa0 := kA.frozen 0
    have fa1 := kA.frozen 1
    have fa2 := kA.frozen 2
    have fa3 := kA.frozen 3
    have fa4 := kA.frozen 4
    have la := kA.lt
    simp only [List.getElem?_cons_zero, List.getElem?_cons_succ] at a0 a1 a2 a3 a4
    have b0 := kB.cell 0
    have b1 := kB.cell 1
    have b2 := kB.cell 2
    have b3 := kB.cell 3
    have b4 := kB.cell 4
    have fb0 := kB.frozen 0
    have fb1 := kB.frozen 1
    have fb2 := kB.frozen 2
    have fb3 := kB.frozen 3
    have fb4 := kB.frozen 4
    have lb := kB.lt
    simp only [List.getElem?_cons_zero, List.getElem?_cons_succ] at b0 b1 b2 b3 b4
    clear kA kB
    go_wp2
    (refine bodyPost_ret (by simp (maxDischargeDepth := 4) [results, Tryd.results4, go_sem, *]; try rfl) rfl ?_)
    exact PO.mk HNO.out (by (repeat' (first | (with_reducible exact Below.refl _ _) | (with_reducible assumption) | (with_reducible refine balloc ?_ _) | (with_reducible refine bdrew ?_) | (with_reducible refine bdrewN ?_ _) | (with_reducible refine bstep ?_ (by assumption)) | (with_reducible refine bset ?_ ?_ _) | (exact Below.size (by assumption)) | go_size)))
  obtain ⟨x0, x1, x2, x3, x4, x5, x6, x7, rfl⟩ := list8 h8
  have z : ∀ x ∈ [x0, x1, x2, x3, x4, x5, x6, x7], x.size ≤ s.size := fun x hx => spB_mem (by rw [hL]; exact hx)
  have z1 := z x1 (by simp)
  have z2 := z x2 (by simp)
  have z3 := z x3 (by simp)
  have z5 := z x5 (by simp)
  have z7 := z x7 (by simp)
  clear z h8
  have hR : Rd W3 1 A 8 (strs [x0, x1, x2, x3, x4, x5, x6, x7]) := hR
  obtain ⟨b, off, rfl, lb, _⟩ := hR.2 (by decide)
  by_cases h2 : x1.size < 2
  · have hno := ordOf_no (s := s) (fun i k c u t hq h => by have := (ord_read hL hq h).1; omega)
    have HNO := Lib.hid hno
    have i2 : (x1.size : Int) < 2 := by omega
    obtain ⟨_, c1, _⟩ := rd8 hR
    clear hno hL hR
    have a0 := kA.cell 0
    have a1 := kA.cell 1
    have a2 := kA.cell 2
    have a3 := kA.cell 3
    have a4 := kA.cell 4
    have fa0 := kA.frozen 0
    have fa1 := kA.frozen 1
    have fa2 := kA.frozen 2
    have fa3 := kA.frozen 3
    have fa4 := kA.frozen 4
    have la := kA.lt
    simp only [List.getElem?_cons_zero, List.getElem?_cons_succ] at a0 a1 a2 a3 a4
    have b0 := kB.cell 0
    have b1 := kB.cell 1
    have b2 := kB.cell 2
    have b3 := kB.cell 3
    have b4 := kB.cell 4
    have fb0 := kB.frozen 0
    have fb1 := kB.frozen 1
    have fb2 := kB.frozen 2
    have fb3 := kB.frozen 3
    have fb4 := kB.frozen 4
    have lb := kB.lt
    simp only [List.getElem?_cons_zero, List.getElem?_cons_succ] at b0 b1 b2 b3 b4
    clear kA kB
    go_wp2
    (refine bodyPost_ret (by simp (maxDischargeDepth := 4) [results, Tryd.results4, go_sem, *]; try rfl) rfl ?_)
    exact PO.mk HNO.out (by (repeat' (first | (with_reducible exact Below.refl _ _) | (with_reducible assumption) | (with_reducible refine balloc ?_ _) | (with_reducible refine bdrew ?_) | (with_reducible refine bdrewN ?_ _) | (with_reducible refine bstep ?_ (by assumption)) | (with_reducible refine bset ?_ ?_ _) | (exact Below.size (by assumption)) | go_size)))
  have i2 : ¬ (x1.size : Int) < 2 := by omega
  have zy : (x1.extract 0 (x1.size - 1)).size ≤ 1048576 := by simp [ByteArray.size_extract]; omega
  obtain ⟨i, hi⟩ : ∃ i, rdV (x1.extract 0 (x1.size - 1)) = i := ⟨_, rfl⟩
  obtain ⟨c, hc⟩ : ∃ i, rdV x2 = i := ⟨_, rfl⟩
  obtain ⟨u, hu⟩ : ∃ i, rdV x5 = i := ⟨_, rfl⟩
  obtain ⟨t, ht⟩ : ∃ i, rdV x7 = i := ⟨_, rfl⟩
  obtain ⟨q, hq⟩ : ∃ q, ordB i x3 c u t = q := ⟨_, rfl⟩
  have HI := Lib.hid (fun W => l1Read_is hi rfl zy W)
  have HC := Lib.hid (fun W => l1Read_is hc rfl (by omega) W)
  have HU := Lib.hid (fun W => l1Read_is hu rfl (by omega) W)
  have HT := Lib.hid (fun W => l1Read_is ht rfl (by omega) W)
  have HQ := Lib.hid (fun W => l15One_q hq (by unfold maxLen; omega) W)
  have huniq : ∀ i' k' c' u' t', ordB i' k' c' u' t' = true → ordText i'.toNat k' c'.toNat u'.toNat t'.toNat = s → i' = i ∧ k' = x3 ∧ c' = c ∧ u' = u ∧ t' = t := fun i' k' c' u' t' h1 h2 => by
    obtain ⟨_, a1, a2, a3, a4, a5⟩ := ord_read hL h1 h2
    rw [hi] at a1
    rw [hc] at a3
    rw [hu] at a4
    rw [ht] at a5
    exact ⟨a1.symm, a2.symm, a3.symm, a4.symm, a5.symm⟩
  have HUN := Lib.hid huniq
  clear huniq hi hc hu ht hL zy
  obtain ⟨g6, hg6⟩ : ∃ g, W3.heap.size = g := ⟨_, rfl⟩
  obtain ⟨_, c1, _, c3, _, _⟩ := rd8 hR
  go_upto_region 6 with fail
  refine wp_gen (fun W => Below W3.heap.size W3 W ∧ Bk W g6 23 [.int .i64 0, .string x3, .int .i64 0, .int .i64 0, .int .i64 0]) ⟨by (repeat' (first | (with_reducible exact Below.refl _ _) | (with_reducible assumption) | (with_reducible refine balloc ?_ _) | (with_reducible refine bdrew ?_) | (with_reducible refine bdrewN ?_ _) | (with_reducible refine bstep ?_ (by assumption)) | (with_reducible refine bset ?_ ?_ _) | (exact Below.size (by assumption)) | go_size)), by rw [← hg6]; exact Bk.new _ _ _⟩ ?_
  intro W4 ⟨bV, kO⟩
  have h36 : W3.heap.size ≤ g6 := by omega
  clear hg6 c1 c3
  obtain ⟨lb4, c1, _⟩ := rd8 (hR.below bV)
  have e1 : IntKind.i64.wrap ((x1.size : Int) - 1) = (x1.size : Int) - 1 := by rw [IntKind.wrap_i64]; omega
  have e2 : (0 : Int) ≤ (x1.size : Int) - 1 := by omega
  have e3 : ¬ (x1.size : Int) < (x1.size : Int) - 1 := by omega
  have e4 : ((x1.size : Int) - 1).toNat = x1.size - 1 := by omega
  have o0 := kO.cell 0
  have fo0 := kO.frozen 0
  simp only [List.getElem?_cons_zero] at o0
  have lo := kO.lt
  go_cut [30, 31, 32, 33, 34, 35, 36, 37, 38, 39, 40, 41, 42, 43] (fun s30 s31 s32 s33 s34 s35 s36 s37 s38 s39 s40 s41 s42 s43 wx => Below W3.heap.size W3 wx ∧ Bk wx g6 23 [.int .i64 i, .string x3, .int .i64 0, .int .i64 0, .int .i64 0])
  case first =>
    go_region_with (go_at_call 8; refine (HI.out _).mono ?_; rintro e w2 ⟨rfl, b2⟩; obtain ⟨cN, fN⟩ := bcell b2; have zN := bsize b2; have n0 := (cN g6 0 lo).trans o0; have nf0 := (fN g6 0 lo).trans fo0; have nc1 := (cN b (off + 1) lb4).trans c1; have kN := (kO.drew).below b2 lo; have bN := bstep (bdrew bV) b2)
    all_goals
      go_wp2_with fail
      go_meet
      exact ⟨bset bN h36 _, kN.set_ 0 _⟩
  case rest =>
  clear bV kO lb4 c1 o0 fo0 lo e1 e2 e3 e4 HI
  obtain ⟨bV, kO⟩ := hcut
  obtain ⟨lb7, _, c2, _, c5, c7⟩ := rd8 (hR.below bV)
  have lo := kO.lt
  go_upto_region 8 with (go_at_call 8; refine (HC.out _).mono ?_; rintro e w2 ⟨rfl, b2⟩; have kN := kO.below b2 lo; have o2 := kN.cell 2; have fo2 := kN.frozen 2; simp only [List.getElem?_cons_zero, List.getElem?_cons_succ] at o2)
  refine wp_gen (fun W => Below W3.heap.size W3 W ∧ Bk W g6 23 [.int .i64 i, .string x3, .int .i64 c, .int .i64 0, .int .i64 0]) ⟨bset (bstep bV b2) h36 _, kN.set_ 2 _⟩ ?_
  clear bV kO lb7 c2 c5 c7 lo kN b2 o2 fo2 HC
  intro W5 ⟨bV, kO⟩
  obtain ⟨lb8, _, c2, _, c5, c7⟩ := rd8 (hR.below bV)
  have lo := kO.lt
  go_upto_region 9 with (go_at_call 8; refine (HU.out _).mono ?_; rintro e w2 ⟨rfl, b2⟩; have kN := kO.below b2 lo; have o3 := kN.cell 3; have fo3 := kN.frozen 3; simp only [List.getElem?_cons_zero, List.getElem?_cons_succ] at o3)
  refine wp_gen (fun W => Below W3.heap.size W3 W ∧ Bk W g6 23 [.int .i64 i, .string x3, .int .i64 c, .int .i64 u, .int .i64 0]) ⟨bset (bstep bV b2) h36 _, kN.set_ 3 _⟩ ?_
  clear bV kO lb8 c2 c5 c7 lo kN b2 o3 fo3 HU
  intro W6 ⟨bV, kO⟩
  obtain ⟨lb9, _, c2, _, c5, c7⟩ := rd8 (hR.below bV)
  have lo := kO.lt
  go_upto_region 10 with (go_at_call 8; refine (HT.out _).mono ?_; rintro e w2 ⟨rfl, b2⟩; have kN := kO.below b2 lo; have o4 := kN.cell 4; have fo4 := kN.frozen 4; simp only [List.getElem?_cons_zero, List.getElem?_cons_succ] at o4)
  refine wp_gen (fun W => Below W3.heap.size W3 W ∧ Bk W g6 23 [.int .i64 i, .string x3, .int .i64 c, .int .i64 u, .int .i64 t]) ⟨bset (bstep bV b2) h36 _, kN.set_ 4 _⟩ ?_
  clear bV kO lb9 c2 c5 c7 lo kN b2 o4 fo4 HT
  intro W7 ⟨bV, kO⟩
  have kA := kA.below bV kA.lt
  have kB := kB.below bV kB.lt
  have h26 : w.heap.size ≤ g6 := Nat.le_trans bW.size h36
  have bW := bstep bW bV
  clear bV h36 hR lb
  rcases q with _ | _
  · have hno := ordOf_no (s := s) (fun i' k' c' u' t' h1 h2 => by
      obtain ⟨rfl, rfl, rfl, rfl, rfl⟩ := HUN.out i' k' c' u' t' h1 h2
      rw [hq] at h1; cases h1)
    have HNO := Lib.hid hno
    clear hno hq HUN
    have a0 := kA.cell 0
    have a1 := kA.cell 1
    have a2 := kA.cell 2
    have a3 := kA.cell 3
    have a4 := kA.cell 4
    have fa0 := kA.frozen 0
    have fa1 := kA.frozen 1
    have fa2 := kA.frozen 2
    have fa3 := kA.frozen 3
    have fa4 := kA.frozen 4
    have la := kA.lt
    simp only [List.getElem?_cons_zero, List.getElem?_cons_succ] at a0 a1 a2 a3 a4
    have b0 := kB.cell 0
    have b1 := kB.cell 1
    have b2 := kB.cell 2
    have b3 := kB.cell 3
    have b4 := kB.cell 4
    have fb0 := kB.frozen 0
    have fb1 := kB.frozen 1
    have fb2 := kB.frozen 2
    have fb3 := kB.frozen 3
    have fb4 := kB.frozen 4
    have lb := kB.lt
    simp only [List.getElem?_cons_zero, List.getElem?_cons_succ] at b0 b1 b2 b3 b4
    have o0 := kO.cell 0
    have o1 := kO.cell 1
    have o2 := kO.cell 2
    have o3 := kO.cell 3
    have o4 := kO.cell 4
    have fo0 := kO.frozen 0
    have fo1 := kO.frozen 1
    have fo2 := kO.frozen 2
    have fo3 := kO.frozen 3
    have fo4 := kO.frozen 4
    have lo := kO.lt
    simp only [List.getElem?_cons_zero, List.getElem?_cons_succ] at o0 o1 o2 o3 o4
    go_wp2_with (first | (go_at_call 9; refine (HQ.out _).mono ?_; rintro e w2 ⟨rfl, b2⟩; have kA := kA.below b2 kA.lt; have kB := kB.below b2 kB.lt; have kO := kO.below b2 kO.lt; have bW := bstep bW b2; have a0 := kA.cell 0; have a1 := kA.cell 1; have a2 := kA.cell 2; have a3 := kA.cell 3; have a4 := kA.cell 4; have fa0 := kA.frozen 0; have fa1 := kA.frozen 1; have fa2 := kA.frozen 2; have fa3 := kA.frozen 3; have fa4 := kA.frozen 4; have la := kA.lt; simp only [List.getElem?_cons_zero, List.getElem?_cons_succ] at a0 a1 a2 a3 a4; have b0 := kB.cell 0; have b1 := kB.cell 1; have b2 := kB.cell 2; have b3 := kB.cell 3; have b4 := kB.cell 4; have fb0 := kB.frozen 0; have fb1 := kB.frozen 1; have fb2 := kB.frozen 2; have fb3 := kB.frozen 3; have fb4 := kB.frozen 4; have lb := kB.lt; simp only [List.getElem?_cons_zero, List.getElem?_cons_succ] at b0 b1 b2 b3 b4; have o0 := kO.cell 0; have o1 := kO.cell 1; have o2 := kO.cell 2; have o3 := kO.cell 3; have o4 := kO.cell 4; have fo0 := kO.frozen 0; have fo1 := kO.frozen 1; have fo2 := kO.frozen 2; have fo3 := kO.frozen 3; have fo4 := kO.frozen 4; have lo := kO.lt; simp only [List.getElem?_cons_zero, List.getElem?_cons_succ] at o0 o1 o2 o3 o4))
    (refine bodyPost_ret (by simp (maxDischargeDepth := 4) [results, Tryd.results4, go_sem, *]; try rfl) rfl ?_)
    exact PO.mk HNO.out (by (repeat' (first | (with_reducible exact Below.refl _ _) | (with_reducible assumption) | (with_reducible refine balloc ?_ _) | (with_reducible refine bdrew ?_) | (with_reducible refine bdrewN ?_ _) | (with_reducible refine bstep ?_ (by assumption)) | (with_reducible refine bset ?_ ?_ _) | (exact Below.size (by assumption)) | go_size)))
  · obtain ⟨e1, e2, e3, e4⟩ := ord_nat hq
    have hp := ord_parts (i := i.toNat) (c := c.toNat) (u := u.toNat) (t := t.toNat) (by rw [e1, e2, e3, e4]; exact hq)
    obtain ⟨x, hx⟩ : ∃ x, ordText i.toNat x3 c.toNat u.toNat t.toNat = x := ⟨_, rfl⟩
    have HX := Lib.hid (fun W => (by
      have h := l15Text_is hx (by omega) (by omega) (by omega) (by omega) (by omega) W
      rw [e1, e2, e3, e4] at h
      exact h : Calls Tryd.prog 10 #[.agg #[.int .i64 i, .string x3, .int .i64 c, .int .i64 u, .int .i64 t]] W fun r w' => r = .returned (.string x) ∧ Below W.heap.size W w'))
    by_cases he : x = s
    · have hok : OrdOf s i x3 c u t true := .inl ⟨rfl, hq, hx.trans he⟩
      have HOK := Lib.hid hok
      have f1 := str_yes he
      clear hok hq HUN hx he hp e1 e2 e3 e4
      have a0 := kA.cell 0
      have a1 := kA.cell 1
      have a2 := kA.cell 2
      have a3 := kA.cell 3
      have a4 := kA.cell 4
      have fa0 := kA.frozen 0
      have fa1 := kA.frozen 1
      have fa2 := kA.frozen 2
      have fa3 := kA.frozen 3
      have fa4 := kA.frozen 4
      have la := kA.lt
      simp only [List.getElem?_cons_zero, List.getElem?_cons_succ] at a0 a1 a2 a3 a4
      have b0 := kB.cell 0
      have b1 := kB.cell 1
      have b2 := kB.cell 2
      have b3 := kB.cell 3
      have b4 := kB.cell 4
      have fb0 := kB.frozen 0
      have fb1 := kB.frozen 1
      have fb2 := kB.frozen 2
      have fb3 := kB.frozen 3
      have fb4 := kB.frozen 4
      have lb := kB.lt
      simp only [List.getElem?_cons_zero, List.getElem?_cons_succ] at b0 b1 b2 b3 b4
      have o0 := kO.cell 0
      have o1 := kO.cell 1
      have o2 := kO.cell 2
      have o3 := kO.cell 3
      have o4 := kO.cell 4
      have fo0 := kO.frozen 0
      have fo1 := kO.frozen 1
      have fo2 := kO.frozen 2
      have fo3 := kO.frozen 3
      have fo4 := kO.frozen 4
      have lo := kO.lt
      simp only [List.getElem?_cons_zero, List.getElem?_cons_succ] at o0 o1 o2 o3 o4
      go_wp2_with (first | (go_at_call 9; refine (HQ.out _).mono ?_; rintro e w2 ⟨rfl, b2⟩; have kA := kA.below b2 kA.lt; have kB := kB.below b2 kB.lt; have kO := kO.below b2 kO.lt; have bW := bstep bW b2; have a0 := kA.cell 0; have a1 := kA.cell 1; have a2 := kA.cell 2; have a3 := kA.cell 3; have a4 := kA.cell 4; have fa0 := kA.frozen 0; have fa1 := kA.frozen 1; have fa2 := kA.frozen 2; have fa3 := kA.frozen 3; have fa4 := kA.frozen 4; have la := kA.lt; simp only [List.getElem?_cons_zero, List.getElem?_cons_succ] at a0 a1 a2 a3 a4; have b0 := kB.cell 0; have b1 := kB.cell 1; have b2 := kB.cell 2; have b3 := kB.cell 3; have b4 := kB.cell 4; have fb0 := kB.frozen 0; have fb1 := kB.frozen 1; have fb2 := kB.frozen 2; have fb3 := kB.frozen 3; have fb4 := kB.frozen 4; have lb := kB.lt; simp only [List.getElem?_cons_zero, List.getElem?_cons_succ] at b0 b1 b2 b3 b4; have o0 := kO.cell 0; have o1 := kO.cell 1; have o2 := kO.cell 2; have o3 := kO.cell 3; have o4 := kO.cell 4; have fo0 := kO.frozen 0; have fo1 := kO.frozen 1; have fo2 := kO.frozen 2; have fo3 := kO.frozen 3; have fo4 := kO.frozen 4; have lo := kO.lt; simp only [List.getElem?_cons_zero, List.getElem?_cons_succ] at o0 o1 o2 o3 o4) | (go_at_call 10; refine (HX.out _).mono ?_; rintro e w3 ⟨rfl, b3⟩; have kA := kA.below b3 kA.lt; have kB := kB.below b3 kB.lt; have kO := kO.below b3 kO.lt; have bW := bstep bW b3; have a0 := kA.cell 0; have a1 := kA.cell 1; have a2 := kA.cell 2; have a3 := kA.cell 3; have a4 := kA.cell 4; have fa0 := kA.frozen 0; have fa1 := kA.frozen 1; have fa2 := kA.frozen 2; have fa3 := kA.frozen 3; have fa4 := kA.frozen 4; have la := kA.lt; simp only [List.getElem?_cons_zero, List.getElem?_cons_succ] at a0 a1 a2 a3 a4; have b0 := kB.cell 0; have b1 := kB.cell 1; have b2 := kB.cell 2; have b3 := kB.cell 3; have b4 := kB.cell 4; have fb0 := kB.frozen 0; have fb1 := kB.frozen 1; have fb2 := kB.frozen 2; have fb3 := kB.frozen 3; have fb4 := kB.frozen 4; have lb := kB.lt; simp only [List.getElem?_cons_zero, List.getElem?_cons_succ] at b0 b1 b2 b3 b4; have o0 := kO.cell 0; have o1 := kO.cell 1; have o2 := kO.cell 2; have o3 := kO.cell 3; have o4 := kO.cell 4; have fo0 := kO.frozen 0; have fo1 := kO.frozen 1; have fo2 := kO.frozen 2; have fo3 := kO.frozen 3; have fo4 := kO.frozen 4; have lo := kO.lt; simp only [List.getElem?_cons_zero, List.getElem?_cons_succ] at o0 o1 o2 o3 o4))
      all_goals first
        | ((refine bodyPost_ret (by simp (maxDischargeDepth := 4) [results, Tryd.results4, go_sem, *]; try rfl) rfl ?_); exact PO.mk HOK.out (by (repeat' (first | (with_reducible exact Below.refl _ _) | (with_reducible assumption) | (with_reducible refine balloc ?_ _) | (with_reducible refine bdrew ?_) | (with_reducible refine bdrewN ?_ _) | (with_reducible refine bstep ?_ (by assumption)) | (with_reducible refine bset ?_ ?_ _) | (exact Below.size (by assumption)) | go_size))))
        | (exfalso; rename_i h9; rw [f1] at h9; simp at h9; done)
    · have hno := ordOf_no (s := s) (fun i' k' c' u' t' h1 h2 => by
        obtain ⟨rfl, rfl, rfl, rfl, rfl⟩ := HUN.out i' k' c' u' t' h1 h2
        exact he (hx.symm.trans h2))
      have HNO := Lib.hid hno
      have f1 := str_no he
      clear hno hq HUN hx he hp e1 e2 e3 e4
      have a0 := kA.cell 0
      have a1 := kA.cell 1
      have a2 := kA.cell 2
      have a3 := kA.cell 3
      have a4 := kA.cell 4
      have fa0 := kA.frozen 0
      have fa1 := kA.frozen 1
      have fa2 := kA.frozen 2
      have fa3 := kA.frozen 3
      have fa4 := kA.frozen 4
      have la := kA.lt
      simp only [List.getElem?_cons_zero, List.getElem?_cons_succ] at a0 a1 a2 a3 a4
      have b0 := kB.cell 0
      have b1 := kB.cell 1
      have b2 := kB.cell 2
      have b3 := kB.cell 3
      have b4 := kB.cell 4
      have fb0 := kB.frozen 0
      have fb1 := kB.frozen 1
      have fb2 := kB.frozen 2
      have fb3 := kB.frozen 3
      have fb4 := kB.frozen 4
      have lb := kB.lt
      simp only [List.getElem?_cons_zero, List.getElem?_cons_succ] at b0 b1 b2 b3 b4
      have o0 := kO.cell 0
      have o1 := kO.cell 1
      have o2 := kO.cell 2
      have o3 := kO.cell 3
      have o4 := kO.cell 4
      have fo0 := kO.frozen 0
      have fo1 := kO.frozen 1
      have fo2 := kO.frozen 2
      have fo3 := kO.frozen 3
      have fo4 := kO.frozen 4
      have lo := kO.lt
      simp only [List.getElem?_cons_zero, List.getElem?_cons_succ] at o0 o1 o2 o3 o4
      go_wp2_with (first | (go_at_call 9; refine (HQ.out _).mono ?_; rintro e w2 ⟨rfl, b2⟩; have kA := kA.below b2 kA.lt; have kB := kB.below b2 kB.lt; have kO := kO.below b2 kO.lt; have bW := bstep bW b2; have a0 := kA.cell 0; have a1 := kA.cell 1; have a2 := kA.cell 2; have a3 := kA.cell 3; have a4 := kA.cell 4; have fa0 := kA.frozen 0; have fa1 := kA.frozen 1; have fa2 := kA.frozen 2; have fa3 := kA.frozen 3; have fa4 := kA.frozen 4; have la := kA.lt; simp only [List.getElem?_cons_zero, List.getElem?_cons_succ] at a0 a1 a2 a3 a4; have b0 := kB.cell 0; have b1 := kB.cell 1; have b2 := kB.cell 2; have b3 := kB.cell 3; have b4 := kB.cell 4; have fb0 := kB.frozen 0; have fb1 := kB.frozen 1; have fb2 := kB.frozen 2; have fb3 := kB.frozen 3; have fb4 := kB.frozen 4; have lb := kB.lt; simp only [List.getElem?_cons_zero, List.getElem?_cons_succ] at b0 b1 b2 b3 b4; have o0 := kO.cell 0; have o1 := kO.cell 1; have o2 := kO.cell 2; have o3 := kO.cell 3; have o4 := kO.cell 4; have fo0 := kO.frozen 0; have fo1 := kO.frozen 1; have fo2 := kO.frozen 2; have fo3 := kO.frozen 3; have fo4 := kO.frozen 4; have lo := kO.lt; simp only [List.getElem?_cons_zero, List.getElem?_cons_succ] at o0 o1 o2 o3 o4) | (go_at_call 10; refine (HX.out _).mono ?_; rintro e w3 ⟨rfl, b3⟩; have kA := kA.below b3 kA.lt; have kB := kB.below b3 kB.lt; have kO := kO.below b3 kO.lt; have bW := bstep bW b3; have a0 := kA.cell 0; have a1 := kA.cell 1; have a2 := kA.cell 2; have a3 := kA.cell 3; have a4 := kA.cell 4; have fa0 := kA.frozen 0; have fa1 := kA.frozen 1; have fa2 := kA.frozen 2; have fa3 := kA.frozen 3; have fa4 := kA.frozen 4; have la := kA.lt; simp only [List.getElem?_cons_zero, List.getElem?_cons_succ] at a0 a1 a2 a3 a4; have b0 := kB.cell 0; have b1 := kB.cell 1; have b2 := kB.cell 2; have b3 := kB.cell 3; have b4 := kB.cell 4; have fb0 := kB.frozen 0; have fb1 := kB.frozen 1; have fb2 := kB.frozen 2; have fb3 := kB.frozen 3; have fb4 := kB.frozen 4; have lb := kB.lt; simp only [List.getElem?_cons_zero, List.getElem?_cons_succ] at b0 b1 b2 b3 b4; have o0 := kO.cell 0; have o1 := kO.cell 1; have o2 := kO.cell 2; have o3 := kO.cell 3; have o4 := kO.cell 4; have fo0 := kO.frozen 0; have fo1 := kO.frozen 1; have fo2 := kO.frozen 2; have fo3 := kO.frozen 3; have fo4 := kO.frozen 4; have lo := kO.lt; simp only [List.getElem?_cons_zero, List.getElem?_cons_succ] at o0 o1 o2 o3 o4))
      all_goals first
        | ((refine bodyPost_ret (by simp (maxDischargeDepth := 4) [results, Tryd.results4, go_sem, *]; try rfl) rfl ?_); exact PO.mk HNO.out (by (repeat' (first | (with_reducible exact Below.refl _ _) | (with_reducible assumption) | (with_reducible refine balloc ?_ _) | (with_reducible refine bdrew ?_) | (with_reducible refine bdrewN ?_ _) | (with_reducible refine bstep ?_ (by assumption)) | (with_reducible refine bset ?_ ?_ _) | (exact Below.size (by assumption)) | go_size))))
        | (exfalso; rename_i h9; rw [f1] at h9; simp at h9; done)
end Go.Proofs.YthblodglmmaocaaDoor
