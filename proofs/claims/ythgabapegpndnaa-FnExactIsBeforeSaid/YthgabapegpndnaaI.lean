/-
  FnExactIsBefore, walked. Conditions: none beyond the layout of its arguments.
-/
import Derived.Test.YthgabapegpndnaaH
namespace Go.Proofs.Ythgabapegpndnaa
open Go.RowKit
set_option maxRecDepth 100000
set_option maxHeartbeats 2000000

theorem fnExactIsBefore_walk (units : Int) (u s : Int) (A : Option Addr) (n c : Nat) (xs : List Int) (wd : ByteArray) (u2 s2 : Int) (A2 : Option Addr) (n2 c2 : Nat) (ys : List Int) (wd2 : ByteArray) (w : World) (_hu : I64 units)
    (hx' : Rd w 1 A n (xs.flatMap (fun n => [Value.int .i64 n]))) (hlx : xs.length = n) (hn : n ≤ 9223372036854775807) (hs : wd.size ≤ maxLen) (hy' : Rd w 1 A2 n2 (ys.flatMap (fun n => [Value.int .i64 n]))) (hly : ys.length = n2) (hn2 : n2 ≤ 9223372036854775807) (hs2 : wd2.size ≤ maxLen) :
    Calls Try.prog 4 #[.int .i64 units, .agg #[.int .i64 u, .int .i64 s, .slice A n c, .string wd], .agg #[.int .i64 u2, .int .i64 s2, .slice A2 n2 c2, .string wd2]] w fun e w' => e = .returned (.bool true) ∧ Below w.heap.size w w' := by
  rw [ints_flat] at hx' hy'
  have hx := hx'
  have hy := hy'
  clear hx' hy'
  obtain ⟨q, hq⟩ : ∃ q, ibR units (u, s, xs, wd) (u2, s2, ys, wd2) = q := ⟨_, rfl⟩
  obtain ⟨fv, hf⟩ : ∃ fv, ibV units (u, s, xs, wd) (u2, s2, ys, wd2) = fv := ⟨_, rfl⟩
  have HQ := Lib.hid hq
  have HF := Lib.hid hf
  clear hq hf
  go_enter Try.func4, Try.ntmps4
  go_upto_region 1 with fail
  refine wp_gen (fun w0 => Bk w0 w.heap.size 31 [.int .i64 u, .int .i64 s, .slice A n c, .string wd] ∧ Bk w0 (w.heap.size + 1) 31 [.int .i64 u2, .int .i64 s2, .slice A2 n2 c2, .string wd2] ∧ Below w.heap.size w w0) ⟨Bk.alloc (Bk.new' rfl) _, Bk.new' (by simp), by (repeat' (first | (with_reducible exact Below.refl _ _) | (with_reducible assumption) | (with_reducible refine balloc ?_ _) | (with_reducible refine bdrew ?_) | (with_reducible refine bdrewN ?_ _) | (with_reducible refine bstep ?_ (by assumption)) | (with_reducible refine bset ?_ ?_ _) | (exact Below.size (by assumption)) | go_size))⟩ ?_
  intro w0 ⟨hX, hY, b0⟩
  obtain ⟨x0, x1, x2, x3, xl⟩ := four_cells hX
  obtain ⟨y0, y1, y2, y3, yl⟩ := four_cells hY
  go_wp2_with fail
  refine (szNote_any u s A n c wd 1048576 _ hn hs (by omega)).mono ?_
  rintro e w1 ⟨v1, rfl, k1, l1, hb1⟩
  have b1 := bstep b0 hb1
  by_cases hneg : v1 < 0
  · clear l1
    go_wp2
    go_returns
    exact ⟨rfl, b1⟩
  have hn9 := l1 (by omega)
  have hX := hX.below hb1 hX.lt
  have hY := hY.below hb1 hY.lt
  clear x0 x1 x2 x3 xl y0 y1 y2 y3 yl l1
  obtain ⟨y0, y1, y2, y3, yl⟩ := four_cells hY
  go_wp2_with fail
  refine (szNote_any u2 s2 A2 n2 c2 wd2 v1 _ hn2 hs2 (by omega)).mono ?_
  rintro e w2 ⟨v2, rfl, k2, l2, hb2⟩
  have b2 := bstep b1 hb2
  by_cases hneg2 : v2 < 0
  · clear l2
    go_wp2
    go_returns
    exact ⟨rfl, b2⟩
  have hm9 := l2 (by omega)
  have hX := hX.below hb2 hX.lt
  have hY := hY.below hb2 hY.lt
  clear y0 y1 y2 y3 yl l2 hn hn2
  have hx := hx.below b2
  have hy := hy.below b2
  obtain ⟨x0, x1, x2, x3, xl⟩ := four_cells hX
  obtain ⟨y0, y1, y2, y3, yl⟩ := four_cells hY
  go_upto_region 8 with fail
  (refine wp_region_mix [([0, 1, 3], some 2), ([], some 4), ([], some 5), ([6, 7, 8, 9, 10], none)] (by kernel_rfl) (by kernel_rfl) ?_; intro wm bM; (try clear cM fM zM); obtain ⟨cM, fM⟩ := bcell bM; have zM := bsize bM)
  (refine mixW_some ?_; (try simp only [List.map_cons]); (try simp only [List.map_nil]); (try simp only [List.getD_cons_succ]); (try simp only [List.getD_cons_zero]); (repeat (go_big_quiet_step (fail))); refine wpQuiet_nil ?_; go_wp2_with fail)
  refine (toNote_any u s A n c xs wd _ (hx.below bM) hn9).mono ?_
  rintro e w3 ⟨g3, rfl, hg3, hB3, hb3⟩
  have c3 : Below w2.heap.size w2 w3 := bstep bM hb3
  (go_wp2_with fail; refine ChainPost.mk hb3 ?_)
  (refine mixW_some ?_; (try simp only [List.map_cons]); (try simp only [List.map_nil]); (try simp only [List.getD_cons_succ]); (try simp only [List.getD_cons_zero]); (repeat (go_big_quiet_step (fail))); refine wpQuiet_nil ?_; go_wp2_with fail)
  refine (toNote_any u2 s2 A2 n2 c2 ys wd2 _ (hy.below c3) hm9).mono ?_
  rintro e w4 ⟨g4, rfl, hg4, hB4, hb4⟩
  have c4 := bstep c3 hb4
  (go_wp2_with fail; refine ChainPost.mk hb4 ?_)
  (refine mixW_some ?_; (try simp only [List.map_cons]); (try simp only [List.map_nil]); (try simp only [List.getD_cons_succ]); (try simp only [List.getD_cons_zero]); (repeat (go_big_quiet_step (fail))); refine wpQuiet_nil ?_; go_wp2_with fail)
  refine (sIsBefore_is HQ.out HF.out _ ((hB3.below hb4 hB3.lt).rd (by simp [ints, hlx])) hlx hn9 hs (hB4.rd (by simp [ints, hly])) hly hm9 hs2).mono ?_
  rintro e w5 ⟨rfl, hb5⟩
  have c5 := bstep c4 hb5
  (go_wp2_with fail; refine ChainPost.mk hb5 ?_)
  (refine mixW_none ?_; (try simp only [List.map_cons]); (try simp only [List.map_nil]); (try simp only [List.getD_cons_succ]); (try simp only [List.getD_cons_zero]); (repeat (go_big_quiet_step (fail))); refine wpQuiet_nil ?_; refine mixW_nil ?_)
  have b5 := bstep b2 c5
  have hX := hX.below c5 hX.lt
  have hY := hY.below c5 hY.lt
  have hx := hx.below c5
  have hy := hy.below c5
  clear x0 x1 x2 x3 xl y0 y1 y2 y3 yl
  obtain ⟨x0, x1, x2, x3, xl⟩ := four_cells hX
  go_wp2_with fail
  refine (toNote_any u s A n c xs wd _ hx hn9).mono ?_
  rintro e w6 ⟨g6, rfl, hg6, hB6, hb6⟩
  have b6 := bstep b5 hb6
  have hX := hX.below hb6 hX.lt
  have hY := hY.below hb6 hY.lt
  have hx := hx.below hb6
  have hy := hy.below hb6
  have xlt := hX.lt
  have glt := hB6.lt
  clear x0 x1 x2 x3 xl
  go_upto_region 10 with fail
  refine wp_gen (fun w7 => Bk w7 w6.heap.size 35 [.int .i64 u, .int .i64 s, .slice (some ⟨g6, 0, none⟩) n n, .string wd] ∧ Below w6.heap.size w6 w7) ⟨Bk.new' rfl, by (repeat' (first | (with_reducible exact Below.refl _ _) | (with_reducible assumption) | (with_reducible refine balloc ?_ _) | (with_reducible refine bdrew ?_) | (with_reducible refine bdrewN ?_ _) | (with_reducible refine bstep ?_ (by assumption)) | (with_reducible refine bset ?_ ?_ _) | (exact Below.size (by assumption)) | go_size))⟩ ?_
  intro w7 ⟨hP, c7⟩
  have b7 := bstep b6 c7
  have hX := hX.below c7 xlt
  have hY := hY.below c7 hY.lt
  have hx := hx.below c7
  have hy := hy.below c7
  have hB6 := hB6.below c7 glt
  obtain ⟨y0, y1, y2, y3, yl⟩ := four_cells hY
  go_wp2_with fail
  refine (toNote_any u2 s2 A2 n2 c2 ys wd2 _ hy hm9).mono ?_
  rintro e w8 ⟨g8, rfl, hg8, hB8, hb8⟩
  have b8 := bstep b7 hb8
  have hX := hX.below hb8 hX.lt
  have hY := hY.below hb8 hY.lt
  have hP := hP.below hb8 hP.lt
  have hx := hx.below hb8
  have hy := hy.below hb8
  have hB6 := hB6.below hb8 hB6.lt
  clear y0 y1 y2 y3 yl
  go_upto_region 11 with fail
  refine wp_gen (fun w9 => Bk w9 w8.heap.size 35 [.int .i64 u2, .int .i64 s2, .slice (some ⟨g8, 0, none⟩) n2 n2, .string wd2] ∧ Below w8.heap.size w8 w9) ⟨Bk.new' rfl, by (repeat' (first | (with_reducible exact Below.refl _ _) | (with_reducible assumption) | (with_reducible refine balloc ?_ _) | (with_reducible refine bdrew ?_) | (with_reducible refine bdrewN ?_ _) | (with_reducible refine bstep ?_ (by assumption)) | (with_reducible refine bset ?_ ?_ _) | (exact Below.size (by assumption)) | go_size))⟩ ?_
  intro w9 ⟨hR, c9⟩
  have b9 := bstep b8 c9
  have hX := hX.below c9 hX.lt
  have hY := hY.below c9 hY.lt
  have hP := hP.below c9 hP.lt
  have hx := hx.below c9
  have hy := hy.below c9
  have hB6 := hB6.below c9 hB6.lt
  have hB8 := hB8.below c9 hB8.lt
  obtain ⟨p0, p1, p2, p3, pl⟩ := four_cells hP
  obtain ⟨r0, r1, r2, r3, rl⟩ := four_cells hR
  go_wp2_with fail
  refine (IsBefore_is HQ.out HF.out _ (hB6.rd (by simp [ints, hlx])) hlx hn9 hs (hB8.rd (by simp [ints, hly])) hly hm9 hs2).mono ?_
  rintro e wA ⟨rfl, hbA⟩
  have bA := bstep b9 hbA
  have hX := hX.below hbA hX.lt
  have hY := hY.below hbA hY.lt
  have hP := hP.below hbA hP.lt
  have hR := hR.below hbA hR.lt
  have hx := hx.below hbA
  have hy := hy.below hbA
  have hB6 := hB6.below hbA hB6.lt
  have hB8 := hB8.below hbA hB8.lt
  clear p0 p1 p2 p3 pl r0 r1 r2 r3 rl
  obtain ⟨p0, p1, p2, p3, pl⟩ := four_cells hP
  obtain ⟨x0, x1, x2, x3, xl⟩ := four_cells hX
  have e1 : (fv != fv) = false := by simp
  have e2 : (q != q) = false := by simp
  go_upto_region 14 with fail
  (refine wp_region_mix [([0, 1], some 2), ([], some 3), ([4], none)] (by kernel_rfl) (by kernel_rfl) ?_; intro wm bM; (try clear cM fM zM); obtain ⟨cM, fM⟩ := bcell bM; have zM := bsize bM)
  (refine mixW_some ?_; (try simp only [List.map_cons]); (try simp only [List.map_nil]); (try simp only [List.getD_cons_succ]); (try simp only [List.getD_cons_zero]); (repeat (go_big_quiet_step (fail))); refine wpQuiet_nil ?_; go_wp2_with fail)
  refine (toNote_any u s A n c xs wd _ (hx.below bM) hn9).mono ?_
  rintro e wB ⟨gB, rfl, hgB, hBB, hbB⟩
  have cB : Below wA.heap.size wA wB := bstep bM hbB
  (go_wp2_with fail; refine ChainPost.mk hbB ?_)
  (refine mixW_some ?_; (try simp only [List.map_cons]); (try simp only [List.map_nil]); (try simp only [List.getD_cons_succ]); (try simp only [List.getD_cons_zero]); (repeat (go_big_quiet_step (fail))); refine wpQuiet_nil ?_; go_wp2_with fail)
  refine (eqNote_same u s _ _ n n n xs wd _ ((hB6.below cB hB6.lt).rd (by simp [ints, hlx])) (hBB.rd (by simp [ints, hlx])) hn9).mono ?_
  rintro e wC ⟨rfl, hbC⟩
  have cC := bstep cB hbC
  (go_wp2_with fail; refine ChainPost.mk hbC ?_)
  (refine mixW_none ?_; (try simp only [List.map_cons]); (try simp only [List.map_nil]); (try simp only [List.getD_cons_succ]); (try simp only [List.getD_cons_zero]); (repeat (go_big_quiet_step (fail))); refine wpQuiet_nil ?_; refine mixW_nil ?_)
  have bC := bstep bA cC
  have hY := hY.below cC hY.lt
  have hR := hR.below cC hR.lt
  have hy := hy.below cC
  have hB8 := hB8.below cC hB8.lt
  clear p0 p1 p2 p3 pl x0 x1 x2 x3 xl
  obtain ⟨r0, r1, r2, r3, rl⟩ := four_cells hR
  obtain ⟨y0, y1, y2, y3, yl⟩ := four_cells hY
  go_upto_region 16 with fail
  (refine wp_region_mix [([0, 1], some 2), ([], some 3), ([4], none)] (by kernel_rfl) (by kernel_rfl) ?_; intro wm bM; (try clear cM fM zM); obtain ⟨cM, fM⟩ := bcell bM; have zM := bsize bM)
  (refine mixW_some ?_; (try simp only [List.map_cons]); (try simp only [List.map_nil]); (try simp only [List.getD_cons_succ]); (try simp only [List.getD_cons_zero]); (repeat (go_big_quiet_step (fail))); refine wpQuiet_nil ?_; go_wp2_with fail)
  refine (toNote_any u2 s2 A2 n2 c2 ys wd2 _ (hy.below bM) hm9).mono ?_
  rintro e wD ⟨gD, rfl, hgD, hBD, hbD⟩
  have cD : Below wC.heap.size wC wD := bstep bM hbD
  (go_wp2_with fail; refine ChainPost.mk hbD ?_)
  (refine mixW_some ?_; (try simp only [List.map_cons]); (try simp only [List.map_nil]); (try simp only [List.getD_cons_succ]); (try simp only [List.getD_cons_zero]); (repeat (go_big_quiet_step (fail))); refine wpQuiet_nil ?_; go_wp2_with fail)
  refine (eqNote_same u2 s2 _ _ n2 n2 n2 ys wd2 _ ((hB8.below cD hB8.lt).rd (by simp [ints, hly])) (hBD.rd (by simp [ints, hly])) hm9).mono ?_
  rintro e wE ⟨rfl, hbE⟩
  have cE := bstep cD hbE
  (go_wp2_with fail; refine ChainPost.mk hbE ?_)
  (refine mixW_none ?_; (try simp only [List.map_cons]); (try simp only [List.map_nil]); (try simp only [List.getD_cons_succ]); (try simp only [List.getD_cons_zero]); (repeat (go_big_quiet_step (fail))); refine wpQuiet_nil ?_; refine mixW_nil ?_)
  go_wp2
  go_returns
  exact ⟨rfl, bstep bC cE⟩
end Go.Proofs.Ythgabapegpndnaa
