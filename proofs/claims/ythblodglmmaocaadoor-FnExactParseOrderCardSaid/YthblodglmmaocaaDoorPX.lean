/-
  The program's order of a text. Conditions: the text's length; what the library's variables hold.
-/
import Derived.Test.YthblodglmmaocaaDoorPB
import Derived.Test.YthblodglmmaocaaDoorPW
namespace Go.Proofs.YthblodglmmaocaaDoor
open Go Go.RowKit
set_option maxRecDepth 100000
set_option maxHeartbeats 8000000
theorem ParseOrder_is {s : ByteArray} (hs : s.size ≤ 1048576) (w : World) (hE : Ev w) : Calls Tryd.prog 5 #[.string s] w (PO s w) := by
  obtain ⟨r, hr⟩ : ∃ r, drB 58 s = r := ⟨_, rfl⟩
  have zr : r.size ≤ 1048576 := by have := drB_size 58 s; rw [hr] at this; omega
  obtain ⟨L, hL⟩ : ∃ L, spB 32 r = L := ⟨_, rfl⟩
  have HRp := Lib.hid (fun W (h : Ev W) => repl_is hr hs W h)
  have HSp := Lib.hid (fun W (h : Ev W) => split_is hL zr W h)
  have HE := Lib.hid hE
  clear hE
  go_enter Tryd.func5, Tryd.ntmps5
  go_upto_region 1 with fail
  obtain ⟨g2, hg2⟩ : ∃ g, w.heap.size = g := ⟨_, rfl⟩
  refine wp_gen (fun W => Below w.heap.size w W ∧ Bk W g2 23 [.int .i64 0, .string ⟨#[]⟩, .int .i64 0, .int .i64 0, .int .i64 0]) ⟨by (repeat' (first | (with_reducible exact Below.refl _ _) | (with_reducible assumption) | (with_reducible refine balloc ?_ _) | (with_reducible refine bdrew ?_) | (with_reducible refine bdrewN ?_ _) | (with_reducible refine bstep ?_ (by assumption)) | (with_reducible refine bset ?_ ?_ _) | (exact Below.size (by assumption)) | go_size)), by rw [← hg2]; exact Bk.new _ _ _⟩ ?_
  intro W1 ⟨bW, kA⟩
  (try rw [hg2])
  have hA : w.heap.size ≤ g2 := by omega
  clear hg2
  go_upto_region 2 with (first | (go_at_call 12; refine (HRp.out _ (HE.out.below bW)).mono ?_; rintro e w1 ⟨rfl, b1⟩; have bW1 := bstep bW b1) | (go_at_call 11; refine (HSp.out _ (HE.out.below bW1)).mono ?_; rintro e w2 ⟨A, cp, rfl, hR, b2⟩))
  refine wp_gen (fun W => Below w.heap.size w W ∧ Bk W g2 23 [.int .i64 0, .string ⟨#[]⟩, .int .i64 0, .int .i64 0, .int .i64 0] ∧ Rd W 1 A L.length (strs L)) ⟨bstep bW1 b2, (kA.below b1 kA.lt).below b2 (kA.below b1 kA.lt).lt, hR⟩ ?_
  clear bW bW1 kA hR b1 b2
  intro W3 ⟨bW, kA, hR⟩
  by_cases h8 : L.length = 8
  case neg =>
    have hno := ordOf_no (s := s) (fun i k c u t hq h => h8 (by rw [← hL, ← hr, (ord_wordsI hq h).2.2]; rfl))
    have HNO := Lib.hid hno
    have i8 : ((L.length : Int) == 8) = false := by simp only [beq_eq_false_iff_ne]; omega
    have i9 : ((L.length : Int) != 8) = true := by simp only [bne, i8]; rfl
    clear hno hL h8 hR
    have a0 := kA.cell 0
    have a1 := kA.cell 1
    have a2 := kA.cell 2
    have a3 := kA.cell 3
    have a4 := kA.cell 4
    have fa0 := kA.frozen 0
    have fa1 := kA.frozen 1
    have fa2 := kA.frozen 2
    have fa3 := kA.frozen 3
    have fa4 := kA.frozen 4
    have la := kA.lt
    simp only [List.getElem?_cons_zero, List.getElem?_cons_succ] at a0 a1 a2 a3 a4
    clear kA
    go_wp2
    (refine bodyPost_ret (by simp (maxDischargeDepth := 4) [results, Tryd.results5, go_sem, *]; try rfl) rfl ?_)
    exact PO.mk HNO.out (by (repeat' (first | (with_reducible exact Below.refl _ _) | (with_reducible assumption) | (with_reducible refine balloc ?_ _) | (with_reducible refine bdrew ?_) | (with_reducible refine bdrewN ?_ _) | (with_reducible refine bstep ?_ (by assumption)) | (with_reducible refine bset ?_ ?_ _) | (exact Below.size (by assumption)) | go_size)))
  obtain ⟨x0, x1, x2, x3, x4, x5, x6, x7, rfl⟩ := list8 h8
  have z : ∀ x ∈ [x0, x1, x2, x3, x4, x5, x6, x7], x.size ≤ 1048576 := fun x hx => by
    have := spB_mem (c := 32) (s := r) (by rw [hL]; exact hx)
    omega
  have z3 := z x3 (by simp)
  clear h8
  have hR : Rd W3 1 A 8 (strs [x0, x1, x2, x3, x4, x5, x6, x7]) := hR
  obtain ⟨i, hi⟩ : ∃ i, piV x1 = i := ⟨_, rfl⟩
  obtain ⟨c, hc⟩ : ∃ i, piV x2 = i := ⟨_, rfl⟩
  obtain ⟨u, hu⟩ : ∃ i, piV x5 = i := ⟨_, rfl⟩
  obtain ⟨t, ht⟩ : ∃ i, piV x7 = i := ⟨_, rfl⟩
  obtain ⟨q, hq⟩ : ∃ q, ordB i x3 c u t = q := ⟨_, rfl⟩
  have HN := Lib.hid (fun (W : World) (g : Nat) (hW : Ev W) (hr : Rd W 1 A 8 (strs [x0, x1, x2, x3, x4, x5, x6, x7])) (hp : Bk W g 3 [.int .i64 1, .int .i64 2, .int .i64 5, .int .i64 7]) => numbers4_is (c := cp) hi hc hu ht z W hW hr hp)
  have huniq : ∀ i' k' c' u' t', ordB i' k' c' u' t' = true → ordText i'.toNat k' c'.toNat u'.toNat t'.toNat = s → i' = i ∧ k' = x3 ∧ c' = c ∧ u' = u ∧ t' = t := fun i' k' c' u' t' h1 h2 => by
    obtain ⟨a1, a2, a3, a4, a5⟩ := ord_readP (by rw [hr]; exact hL) h1 h2
    rw [hi] at a1
    rw [hc] at a3
    rw [hu] at a4
    rw [ht] at a5
    exact ⟨a1.symm, a2.symm, a3.symm, a4.symm, a5.symm⟩
  have HUN := Lib.hid huniq
  have HEW := Lib.hid (HE.out.below bW)
  clear huniq hi hc hu ht hL hr zr z
  obtain ⟨g17, hg17⟩ : ∃ g, W3.heap.size = g := ⟨_, rfl⟩
  go_upto_region 5 with (go_at_call 13; have bx : Below W3.heap.size W3 (W3.alloc (.cells #[.int .i64 1, .int .i64 2, .int .i64 5, .int .i64 7] 3)) := balloc (Below.refl _ _) _; refine (HN.out _ g17 (HEW.out.below bx) (hR.below bx) (by rw [← hg17]; exact Bk.new _ _ _)).mono ?_; rintro e w1 ⟨bn, on, cn, rfl, hcn, hbn, b1⟩)
  refine wp_gen (fun W => Below W3.heap.size W3 W ∧ (W.cell? ⟨bn, on, none⟩ = some (.int .i64 i) ∧ W.cell? ⟨bn, on + 1, none⟩ = some (.int .i64 c) ∧ W.cell? ⟨bn, on + 2, none⟩ = some (.int .i64 u) ∧ W.cell? ⟨bn, on + 3, none⟩ = some (.int .i64 t)) ∧ bn < W.heap.size) ⟨bstep (balloc (Below.refl _ _) _) b1, hcn, hbn⟩ ?_
  clear hcn hbn b1 hg17
  intro W4 ⟨bV, hcn, hbn⟩
  obtain ⟨b, off, rfl, lb, _⟩ := hR.2 (by decide)
  obtain ⟨lb4, _, _, c3, _, _⟩ := rd8 (hR.below bV)
  obtain ⟨n0, n1, n2, n3⟩ := hcn
  go_cut [6, 19, 20, 21, 22, 23, 24, 25, 26, 27, 28, 29, 30, 31, 32, 33, 34] (fun s6 s19 s20 s21 s22 s23 s24 s25 s26 s27 s28 s29 s30 s31 s32 s33 s34 wx => ∃ g6, s6 = .pointer (some ⟨g6, 0, none⟩) ∧ W4.heap.size ≤ g6 ∧ Below W4.heap.size W4 wx ∧ Bk wx g6 23 [.int .i64 i, .string x3, .int .i64 c, .int .i64 u, .int .i64 t])
  case first =>
    go_region_held3 (fun W => W.cell? ⟨bn, on, none⟩ = some (.int .i64 i) ∧ W.cell? ⟨bn, on + 1, none⟩ = some (.int .i64 c) ∧ W.cell? ⟨bn, on + 2, none⟩ = some (.int .i64 u) ∧ W.cell? ⟨bn, on + 3, none⟩ = some (.int .i64 t) ∧ W.cell? ⟨b, off + 3, none⟩ = some (.string x3)) (first | ((try dsimp only); (repeat' apply And.intro); all_goals (first | assumption | (simp [go_sem, *]; done))) | go_keep) (fail)
    all_goals
      go_wp2_with fail
      go_meet
      exact ⟨_, rfl, Nat.le_refl _, by (repeat' (first | (with_reducible exact Below.refl _ _) | (with_reducible assumption) | (with_reducible refine balloc ?_ _) | (with_reducible refine bdrew ?_) | (with_reducible refine bdrewN ?_ _) | (with_reducible refine bstep ?_ (by assumption)) | (with_reducible refine bset ?_ ?_ _) | (exact Below.size (by assumption)) | go_size)), Bk.new' rfl⟩
  case rest =>
  obtain ⟨g6, rfl, h46, b4, kO⟩ := hcut
  have h26 : w.heap.size ≤ g6 := by have := bW.size; have := bV.size; omega
  have kA := (kA.below bV kA.lt).below b4 (kA.below bV kA.lt).lt
  have bW := bstep bW (bstep bV b4)
  have HEW := Lib.hid (HE.out.below bW)
  clear bV b4 n0 n1 n2 n3 c3 lb lb4 hbn h46 HN hR HE
  go_upto_region 6 with fail
  rcases q with _ | _
  · have hno := ordOf_no (s := s) (fun i' k' c' u' t' h1 h2 => by
      obtain ⟨rfl, rfl, rfl, rfl, rfl⟩ := HUN.out i' k' c' u' t' h1 h2
      rw [hq] at h1; cases h1)
    have HNO := Lib.hid hno
    have HQ := Lib.hid (fun (W : World) (_ : Ev W) => OrderText_no hq (by unfold maxLen; omega) W)
    clear hno hq HUN
    have a0 := kA.cell 0
    have a1 := kA.cell 1
    have a2 := kA.cell 2
    have a3 := kA.cell 3
    have a4 := kA.cell 4
    have fa0 := kA.frozen 0
    have fa1 := kA.frozen 1
    have fa2 := kA.frozen 2
    have fa3 := kA.frozen 3
    have fa4 := kA.frozen 4
    have la := kA.lt
    simp only [List.getElem?_cons_zero, List.getElem?_cons_succ] at a0 a1 a2 a3 a4
    have o0 := kO.cell 0
    have o1 := kO.cell 1
    have o2 := kO.cell 2
    have o3 := kO.cell 3
    have o4 := kO.cell 4
    have fo0 := kO.frozen 0
    have fo1 := kO.frozen 1
    have fo2 := kO.frozen 2
    have fo3 := kO.frozen 3
    have fo4 := kO.frozen 4
    have lo := kO.lt
    simp only [List.getElem?_cons_zero, List.getElem?_cons_succ] at o0 o1 o2 o3 o4
    go_wp2_with (first | (go_at_call 14; refine (HQ.out _ HEW.out).mono ?_; rintro e w2 ⟨rfl, b2⟩; have kA := kA.below b2 kA.lt; have kO := kO.below b2 kO.lt; have bW := bstep bW b2; have a0 := kA.cell 0; have a1 := kA.cell 1; have a2 := kA.cell 2; have a3 := kA.cell 3; have a4 := kA.cell 4; have fa0 := kA.frozen 0; have fa1 := kA.frozen 1; have fa2 := kA.frozen 2; have fa3 := kA.frozen 3; have fa4 := kA.frozen 4; have la := kA.lt; simp only [List.getElem?_cons_zero, List.getElem?_cons_succ] at a0 a1 a2 a3 a4; have o0 := kO.cell 0; have o1 := kO.cell 1; have o2 := kO.cell 2; have o3 := kO.cell 3; have o4 := kO.cell 4; have fo0 := kO.frozen 0; have fo1 := kO.frozen 1; have fo2 := kO.frozen 2; have fo3 := kO.frozen 3; have fo4 := kO.frozen 4; have lo := kO.lt; simp only [List.getElem?_cons_zero, List.getElem?_cons_succ] at o0 o1 o2 o3 o4))
    (refine bodyPost_ret (by simp (maxDischargeDepth := 4) [results, Tryd.results5, go_sem, *]; try rfl) rfl ?_)
    exact PO.mk HNO.out (by (repeat' (first | (with_reducible exact Below.refl _ _) | (with_reducible assumption) | (with_reducible refine balloc ?_ _) | (with_reducible refine bdrew ?_) | (with_reducible refine bdrewN ?_ _) | (with_reducible refine bstep ?_ (by assumption)) | (with_reducible refine bset ?_ ?_ _) | (exact Below.size (by assumption)) | go_size)))
  · obtain ⟨e1, e2, e3, e4⟩ := ord_nat hq
    have hq2 : ordB i.toNat x3 c.toNat u.toNat t.toNat = true := by rw [e1, e2, e3, e4]; exact hq
    have hp := ord_parts hq2
    obtain ⟨x, hx⟩ : ∃ x, ordText i.toNat x3 c.toNat u.toNat t.toNat = x := ⟨_, rfl⟩
    have HQ := Lib.hid (fun W (h : Ev W) => (by
      have h := OrderText_yes hq2 hx (by omega) (by omega) (by omega) (by omega) (by omega) W h.tb
      rw [e1, e2, e3, e4] at h
      exact h : Calls Tryd.prog 14 #[.agg #[.int .i64 i, .string x3, .int .i64 c, .int .i64 u, .int .i64 t]] W fun r w' => r = .returned (.tuple #[.string x, .bool true]) ∧ Below W.heap.size W w'))
    by_cases he : x = s
    · have hok : OrdOf s i x3 c u t true := .inl ⟨rfl, hq, hx.trans he⟩
      have HOK := Lib.hid hok
      have f1 := str_yes he
      clear hok hq hq2 HUN hx he hp e1 e2 e3 e4
      have a0 := kA.cell 0
      have a1 := kA.cell 1
      have a2 := kA.cell 2
      have a3 := kA.cell 3
      have a4 := kA.cell 4
      have fa0 := kA.frozen 0
      have fa1 := kA.frozen 1
      have fa2 := kA.frozen 2
      have fa3 := kA.frozen 3
      have fa4 := kA.frozen 4
      have la := kA.lt
      simp only [List.getElem?_cons_zero, List.getElem?_cons_succ] at a0 a1 a2 a3 a4
      have o0 := kO.cell 0
      have o1 := kO.cell 1
      have o2 := kO.cell 2
      have o3 := kO.cell 3
      have o4 := kO.cell 4
      have fo0 := kO.frozen 0
      have fo1 := kO.frozen 1
      have fo2 := kO.frozen 2
      have fo3 := kO.frozen 3
      have fo4 := kO.frozen 4
      have lo := kO.lt
      simp only [List.getElem?_cons_zero, List.getElem?_cons_succ] at o0 o1 o2 o3 o4
      go_wp2_with (first | (go_at_call 14; refine (HQ.out _ HEW.out).mono ?_; rintro e w2 ⟨rfl, b2⟩; have kA := kA.below b2 kA.lt; have kO := kO.below b2 kO.lt; have bW := bstep bW b2; have a0 := kA.cell 0; have a1 := kA.cell 1; have a2 := kA.cell 2; have a3 := kA.cell 3; have a4 := kA.cell 4; have fa0 := kA.frozen 0; have fa1 := kA.frozen 1; have fa2 := kA.frozen 2; have fa3 := kA.frozen 3; have fa4 := kA.frozen 4; have la := kA.lt; simp only [List.getElem?_cons_zero, List.getElem?_cons_succ] at a0 a1 a2 a3 a4; have o0 := kO.cell 0; have o1 := kO.cell 1; have o2 := kO.cell 2; have o3 := kO.cell 3; have o4 := kO.cell 4; have fo0 := kO.frozen 0; have fo1 := kO.frozen 1; have fo2 := kO.frozen 2; have fo3 := kO.frozen 3; have fo4 := kO.frozen 4; have lo := kO.lt; simp only [List.getElem?_cons_zero, List.getElem?_cons_succ] at o0 o1 o2 o3 o4))
      all_goals first
        | ((refine bodyPost_ret (by simp (maxDischargeDepth := 4) [results, Tryd.results5, go_sem, *]; try rfl) rfl ?_); exact PO.mk HOK.out (by (repeat' (first | (with_reducible exact Below.refl _ _) | (with_reducible assumption) | (with_reducible refine balloc ?_ _) | (with_reducible refine bdrew ?_) | (with_reducible refine bdrewN ?_ _) | (with_reducible refine bstep ?_ (by assumption)) | (with_reducible refine bset ?_ ?_ _) | (exact Below.size (by assumption)) | go_size))))
        | (exfalso; rename_i h9; rw [f1] at h9; simp at h9; done)
    · have hno := ordOf_no (s := s) (fun i' k' c' u' t' h1 h2 => by
        obtain ⟨rfl, rfl, rfl, rfl, rfl⟩ := HUN.out i' k' c' u' t' h1 h2
        exact he (hx.symm.trans h2))
      have HNO := Lib.hid hno
      have f1 := str_no he
      clear hno hq hq2 HUN hx he hp e1 e2 e3 e4
      have a0 := kA.cell 0
      have a1 := kA.cell 1
      have a2 := kA.cell 2
      have a3 := kA.cell 3
      have a4 := kA.cell 4
      have fa0 := kA.frozen 0
      have fa1 := kA.frozen 1
      have fa2 := kA.frozen 2
      have fa3 := kA.frozen 3
      have fa4 := kA.frozen 4
      have la := kA.lt
      simp only [List.getElem?_cons_zero, List.getElem?_cons_succ] at a0 a1 a2 a3 a4
      have o0 := kO.cell 0
      have o1 := kO.cell 1
      have o2 := kO.cell 2
      have o3 := kO.cell 3
      have o4 := kO.cell 4
      have fo0 := kO.frozen 0
      have fo1 := kO.frozen 1
      have fo2 := kO.frozen 2
      have fo3 := kO.frozen 3
      have fo4 := kO.frozen 4
      have lo := kO.lt
      simp only [List.getElem?_cons_zero, List.getElem?_cons_succ] at o0 o1 o2 o3 o4
      go_wp2_with (first | (go_at_call 14; refine (HQ.out _ HEW.out).mono ?_; rintro e w2 ⟨rfl, b2⟩; have kA := kA.below b2 kA.lt; have kO := kO.below b2 kO.lt; have bW := bstep bW b2; have a0 := kA.cell 0; have a1 := kA.cell 1; have a2 := kA.cell 2; have a3 := kA.cell 3; have a4 := kA.cell 4; have fa0 := kA.frozen 0; have fa1 := kA.frozen 1; have fa2 := kA.frozen 2; have fa3 := kA.frozen 3; have fa4 := kA.frozen 4; have la := kA.lt; simp only [List.getElem?_cons_zero, List.getElem?_cons_succ] at a0 a1 a2 a3 a4; have o0 := kO.cell 0; have o1 := kO.cell 1; have o2 := kO.cell 2; have o3 := kO.cell 3; have o4 := kO.cell 4; have fo0 := kO.frozen 0; have fo1 := kO.frozen 1; have fo2 := kO.frozen 2; have fo3 := kO.frozen 3; have fo4 := kO.frozen 4; have lo := kO.lt; simp only [List.getElem?_cons_zero, List.getElem?_cons_succ] at o0 o1 o2 o3 o4))
      all_goals first
        | ((refine bodyPost_ret (by simp (maxDischargeDepth := 4) [results, Tryd.results5, go_sem, *]; try rfl) rfl ?_); exact PO.mk HNO.out (by (repeat' (first | (with_reducible exact Below.refl _ _) | (with_reducible assumption) | (with_reducible refine balloc ?_ _) | (with_reducible refine bdrew ?_) | (with_reducible refine bdrewN ?_ _) | (with_reducible refine bstep ?_ (by assumption)) | (with_reducible refine bset ?_ ?_ _) | (exact Below.size (by assumption)) | go_size))))
        | (exfalso; rename_i h9; rw [f1] at h9; simp at h9; done)
end Go.Proofs.YthblodglmmaocaaDoor
