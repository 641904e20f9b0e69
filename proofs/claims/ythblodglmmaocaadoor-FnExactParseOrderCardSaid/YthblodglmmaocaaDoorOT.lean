/-
  OrderText of the program and of the reference, and the law over them. Conditions: the library's table reads as its program's text lays it.
-/
import Derived.Test.YthblodglmmaocaaDoorNU
import Derived.Test.YthblodglmmaocaaDoorA
import Derived.Test.YthblodglmmaocaaDoorS
namespace Go.Proofs.YthblodglmmaocaaDoor
open Go Go.RowKit
set_option maxRecDepth 100000
set_option maxHeartbeats 4000000

theorem wp_gen {P : Program} {c : Code} {Q : Exit → Act → World → Prop} {a : Act} {w : World} (R : World → Prop) (h1 : R w) (h2 : ∀ w0, R w0 → c.wp P Q a w0) : c.wp P Q a w := h2 w h1
def ordText (i : Nat) (k : ByteArray) (c u t : Nat) : ByteArray := ({ data := #[111, 114, 100, 101, 114, 32] } : ByteArray) ++ numS i ++ ({ data := #[58, 32] } : ByteArray) ++ numS c ++ ({ data := #[32] } : ByteArray) ++ k ++ ({ data := #[32, 117, 114, 103, 101, 110, 116, 32] } : ByteArray) ++ numS u ++ ({ data := #[32, 97, 116, 32] } : ByteArray) ++ numS t
theorem l15Text_is {i : Nat} {k : ByteArray} {c u t : Nat} {s : ByteArray} (hs : ordText i k c u t = s) (hi : i ≤ 1000000000) (hk : k.size ≤ 10) (hc : c ≤ 1000000000) (hu : u ≤ 1000000000) (ht : t ≤ 1000000000) (w : World) : Calls Tryd.prog 10 #[.agg #[.int .i64 (i : Int), .string k, .int .i64 (c : Int), .int .i64 (u : Int), .int .i64 (t : Int)]] w fun r w' => r = .returned (.string s) ∧ Below w.heap.size w w' := by
  obtain ⟨si, hsi⟩ : ∃ s, numS i = s := ⟨_, rfl⟩
  have qi := numS_size (n := i) (by omega)
  rw [hsi] at qi
  obtain ⟨sc, hsc⟩ : ∃ s, numS c = s := ⟨_, rfl⟩
  have qc := numS_size (n := c) (by omega)
  rw [hsc] at qc
  obtain ⟨su, hsu⟩ : ∃ s, numS u = s := ⟨_, rfl⟩
  have qu := numS_size (n := u) (by omega)
  rw [hsu] at qu
  obtain ⟨st, hst⟩ : ∃ s, numS t = s := ⟨_, rfl⟩
  have qt := numS_size (n := t) (by omega)
  rw [hst] at qt
  have ni := fun W : World => l1Num_is (i + 1) i (Nat.lt_succ_self _) hi si hsi W
  have nc := fun W : World => l1Num_is (c + 1) c (Nat.lt_succ_self _) hc sc hsc W
  have nu := fun W : World => l1Num_is (u + 1) u (Nat.lt_succ_self _) hu su hsu W
  have nt := fun W : World => l1Num_is (t + 1) t (Nat.lt_succ_self _) ht st hst W
  have zT1 : ¬ (9223372036854775807 < 6 + si.size) := by omega
  obtain ⟨T1, hT1⟩ : ∃ T, ({ data := #[111, 114, 100, 101, 114, 32] } : ByteArray) ++ si = T := ⟨_, rfl⟩
  have yT1 : T1.size ≤ 27 := by rw [← hT1, ByteArray.size_append]; simp only [ByteArray.size_mk'] ; simp; omega
  have HT1 := Go.Lib.hid hT1
  have zT2 : ¬ (9223372036854775807 < T1.size + 2) := by omega
  obtain ⟨T2, hT2⟩ : ∃ T, T1 ++ ({ data := #[58, 32] } : ByteArray) = T := ⟨_, rfl⟩
  have yT2 : T2.size ≤ 29 := by rw [← hT2, ByteArray.size_append]; simp only [ByteArray.size_mk'] ; simp; omega
  have HT2 := Go.Lib.hid hT2
  have zT3 : ¬ (9223372036854775807 < T2.size + sc.size) := by omega
  obtain ⟨T3, hT3⟩ : ∃ T, T2 ++ sc = T := ⟨_, rfl⟩
  have yT3 : T3.size ≤ 50 := by rw [← hT3, ByteArray.size_append]; omega
  have HT3 := Go.Lib.hid hT3
  have zT4 : ¬ (9223372036854775807 < T3.size + 1) := by omega
  obtain ⟨T4, hT4⟩ : ∃ T, T3 ++ ({ data := #[32] } : ByteArray) = T := ⟨_, rfl⟩
  have yT4 : T4.size ≤ 51 := by rw [← hT4, ByteArray.size_append]; simp only [ByteArray.size_mk'] ; simp; omega
  have HT4 := Go.Lib.hid hT4
  have zT5 : ¬ (9223372036854775807 < T4.size + k.size) := by omega
  obtain ⟨T5, hT5⟩ : ∃ T, T4 ++ k = T := ⟨_, rfl⟩
  have yT5 : T5.size ≤ 61 := by rw [← hT5, ByteArray.size_append]; omega
  have HT5 := Go.Lib.hid hT5
  have zT6 : ¬ (9223372036854775807 < T5.size + 8) := by omega
  obtain ⟨T6, hT6⟩ : ∃ T, T5 ++ ({ data := #[32, 117, 114, 103, 101, 110, 116, 32] } : ByteArray) = T := ⟨_, rfl⟩
  have yT6 : T6.size ≤ 69 := by rw [← hT6, ByteArray.size_append]; simp only [ByteArray.size_mk'] ; simp; omega
  have HT6 := Go.Lib.hid hT6
  have zT7 : ¬ (9223372036854775807 < T6.size + su.size) := by omega
  obtain ⟨T7, hT7⟩ : ∃ T, T6 ++ su = T := ⟨_, rfl⟩
  have yT7 : T7.size ≤ 90 := by rw [← hT7, ByteArray.size_append]; omega
  have HT7 := Go.Lib.hid hT7
  have zT8 : ¬ (9223372036854775807 < T7.size + 4) := by omega
  obtain ⟨T8, hT8⟩ : ∃ T, T7 ++ ({ data := #[32, 97, 116, 32] } : ByteArray) = T := ⟨_, rfl⟩
  have yT8 : T8.size ≤ 94 := by rw [← hT8, ByteArray.size_append]; simp only [ByteArray.size_mk'] ; simp; omega
  have HT8 := Go.Lib.hid hT8
  have zT9 : ¬ (9223372036854775807 < T8.size + st.size) := by omega
  obtain ⟨T9, hT9⟩ : ∃ T, T8 ++ st = T := ⟨_, rfl⟩
  have yT9 : T9.size ≤ 115 := by rw [← hT9, ByteArray.size_append]; omega
  have HT9 := Go.Lib.hid hT9
  have HH : Hid (s = T9) := Go.Lib.hid (by rw [← hs]; unfold ordText; rw [hsi, hsc, hsu, hst, HT1.out, HT2.out, HT3.out, HT4.out, HT5.out, HT6.out, HT7.out, HT8.out, HT9.out])
  clear hs hsi hsc hsu hst
  have bW : Below w.heap.size w w := Below.refl _ _
  go_enter Tryd.func10, Tryd.ntmps10
  go_upto_region 1 with fail
  obtain ⟨g, hg⟩ : ∃ g, w.heap.size = g := ⟨_, rfl⟩
  refine wp_gen (fun W => Below w.heap.size w W ∧ Bk W g 23 [.int .i64 (i : Int), .string k, .int .i64 (c : Int), .int .i64 (u : Int), .int .i64 (t : Int)]) ⟨by (repeat' (first | (with_reducible exact Below.refl _ _) | (with_reducible assumption) | (with_reducible refine balloc ?_ _) | (with_reducible refine bdrew ?_) | (with_reducible refine bdrewN ?_ _) | (with_reducible refine bstep ?_ (by assumption)) | (with_reducible refine bset ?_ ?_ _) | (exact Below.size (by assumption)) | go_size)), by rw [← hg]; exact Bk.new _ _ _⟩ ?_
  clear bW
  intro W ⟨bW, kx⟩
  rw [hg]
  clear hg
  have cx0 := kx.cell 0
  have cx1 := kx.cell 1
  have cx2 := kx.cell 2
  have cx3 := kx.cell 3
  have cx4 := kx.cell 4
  have lx := kx.lt
  simp only [List.getElem?_cons_zero, List.getElem?_cons_succ] at cx0 cx1 cx2 cx3 cx4
  (refine wp_region_bel (by kernel_rfl) (by kernel_rfl) ?_; (repeat (go_big_quiet_step ((first | (go_at_call_of 16 (#[.int .i64 (i : Int)] : Array Value); exact calls_bel (ni _)) | (go_at_call_of 16 (#[.int .i64 (c : Int)] : Array Value); exact calls_bel (nc _)) | (go_at_call_of 16 (#[.int .i64 (u : Int)] : Array Value); exact calls_bel (nu _)) | (go_at_call_of 16 (#[.int .i64 (t : Int)] : Array Value); exact calls_bel (nt _)))))); refine wpQuiet_nil ?_; intro w' hw'; have hb := below_of hw'; clear hw'; have bW := bstep bW hb)
  go_wp2
  go_returns
  exact ⟨by rw [HH.out]; rfl, bW⟩
theorem OrderText_no {i : Int} {k : ByteArray} {c u t : Int} (hq : ordB i k c u t = false) (hz : k.size ≤ maxLen) (w : World) : Calls Tryd.prog 14 #[.agg #[.int .i64 i, .string k, .int .i64 c, .int .i64 u, .int .i64 t]] w fun r w' => r = .returned (.tuple #[.string ⟨#[]⟩, .bool false]) ∧ Below w.heap.size w w' := by
  have hc := fun W : World => isOrder_any i k c u t W hz
  simp only [hq] at hc
  have bW : Below w.heap.size w w := Below.refl _ _
  clear hq
  go_enter Tryd.func14, Tryd.ntmps14
  go_upto_region 1 with fail
  obtain ⟨g, hg⟩ : ∃ g, w.heap.size = g := ⟨_, rfl⟩
  refine wp_gen (fun W => Below w.heap.size w W ∧ Bk W g 23 [.int .i64 i, .string k, .int .i64 c, .int .i64 u, .int .i64 t]) ⟨by (repeat' (first | (with_reducible exact Below.refl _ _) | (with_reducible assumption) | (with_reducible refine balloc ?_ _) | (with_reducible refine bdrew ?_) | (with_reducible refine bdrewN ?_ _) | (with_reducible refine bstep ?_ (by assumption)) | (with_reducible refine bset ?_ ?_ _) | (exact Below.size (by assumption)) | go_size)), by rw [← hg]; exact Bk.new _ _ _⟩ ?_
  clear bW
  intro W ⟨bW, kx⟩
  rw [hg]
  clear hg
  have cx0 := kx.cell 0
  have cx1 := kx.cell 1
  have cx2 := kx.cell 2
  have cx3 := kx.cell 3
  have cx4 := kx.cell 4
  have lx := kx.lt
  simp only [List.getElem?_cons_zero, List.getElem?_cons_succ] at cx0 cx1 cx2 cx3 cx4
  go_wp2_with (go_at_call 22; refine (hc _).mono ?_; rintro e w2 ⟨rfl, hb2⟩)
  go_returns
  exact ⟨rfl, bstep bW hb2⟩
theorem OrderText_yes {i : Nat} {k : ByteArray} {c u t : Nat} {s : ByteArray} (hq : ordB i k c u t = true) (hs : ordText i k c u t = s) (hi : i ≤ 1000000000) (hk : k.size ≤ 10) (hc : c ≤ 1000000000) (hu : u ≤ 1000000000) (ht : t ≤ 1000000000) (w : World) (hT : Tb w) : Calls Tryd.prog 14 #[.agg #[.int .i64 (i : Int), .string k, .int .i64 (c : Int), .int .i64 (u : Int), .int .i64 (t : Int)]] w fun r w' => r = .returned (.tuple #[.string s, .bool true]) ∧ Below w.heap.size w w' := by
  have h1 := fun W : World => isOrder_any i k c u t W (by unfold maxLen; omega)
  simp only [hq] at h1
  obtain ⟨si, hsi⟩ : ∃ s, numS i = s := ⟨_, rfl⟩
  have qi := numS_size (n := i) (by omega)
  rw [hsi] at qi
  obtain ⟨sc, hsc⟩ : ∃ s, numS c = s := ⟨_, rfl⟩
  have qc := numS_size (n := c) (by omega)
  rw [hsc] at qc
  obtain ⟨su, hsu⟩ : ∃ s, numS u = s := ⟨_, rfl⟩
  have qu := numS_size (n := u) (by omega)
  rw [hsu] at qu
  obtain ⟨st, hst⟩ : ∃ s, numS t = s := ⟨_, rfl⟩
  have qt := numS_size (n := t) (by omega)
  rw [hst] at qt
  have ni := fun (W : World) (h : Tb W) => itoa_is hsi hi W h
  have nc := fun (W : World) (h : Tb W) => itoa_is hsc hc W h
  have nu := fun (W : World) (h : Tb W) => itoa_is hsu hu W h
  have nt := fun (W : World) (h : Tb W) => itoa_is hst ht W h
  have zT1 : ¬ (9223372036854775807 < 6 + si.size) := by omega
  obtain ⟨T1, hT1⟩ : ∃ T, ({ data := #[111, 114, 100, 101, 114, 32] } : ByteArray) ++ si = T := ⟨_, rfl⟩
  have yT1 : T1.size ≤ 27 := by rw [← hT1, ByteArray.size_append]; simp only [ByteArray.size_mk'] ; simp; omega
  have HT1 := Go.Lib.hid hT1
  have zT2 : ¬ (9223372036854775807 < T1.size + 2) := by omega
  obtain ⟨T2, hT2⟩ : ∃ T, T1 ++ ({ data := #[58, 32] } : ByteArray) = T := ⟨_, rfl⟩
  have yT2 : T2.size ≤ 29 := by rw [← hT2, ByteArray.size_append]; simp only [ByteArray.size_mk'] ; simp; omega
  have HT2 := Go.Lib.hid hT2
  have zT3 : ¬ (9223372036854775807 < T2.size + sc.size) := by omega
  obtain ⟨T3, hT3⟩ : ∃ T, T2 ++ sc = T := ⟨_, rfl⟩
  have yT3 : T3.size ≤ 50 := by rw [← hT3, ByteArray.size_append]; omega
  have HT3 := Go.Lib.hid hT3
  have zT4 : ¬ (9223372036854775807 < T3.size + 1) := by omega
  obtain ⟨T4, hT4⟩ : ∃ T, T3 ++ ({ data := #[32] } : ByteArray) = T := ⟨_, rfl⟩
  have yT4 : T4.size ≤ 51 := by rw [← hT4, ByteArray.size_append]; simp only [ByteArray.size_mk'] ; simp; omega
  have HT4 := Go.Lib.hid hT4
  have zT5 : ¬ (9223372036854775807 < T4.size + k.size) := by omega
  obtain ⟨T5, hT5⟩ : ∃ T, T4 ++ k = T := ⟨_, rfl⟩
  have yT5 : T5.size ≤ 61 := by rw [← hT5, ByteArray.size_append]; omega
  have HT5 := Go.Lib.hid hT5
  have zT6 : ¬ (9223372036854775807 < T5.size + 8) := by omega
  obtain ⟨T6, hT6⟩ : ∃ T, T5 ++ ({ data := #[32, 117, 114, 103, 101, 110, 116, 32] } : ByteArray) = T := ⟨_, rfl⟩
  have yT6 : T6.size ≤ 69 := by rw [← hT6, ByteArray.size_append]; simp only [ByteArray.size_mk'] ; simp; omega
  have HT6 := Go.Lib.hid hT6
  have zT7 : ¬ (9223372036854775807 < T6.size + su.size) := by omega
  obtain ⟨T7, hT7⟩ : ∃ T, T6 ++ su = T := ⟨_, rfl⟩
  have yT7 : T7.size ≤ 90 := by rw [← hT7, ByteArray.size_append]; omega
  have HT7 := Go.Lib.hid hT7
  have zT8 : ¬ (9223372036854775807 < T7.size + 4) := by omega
  obtain ⟨T8, hT8⟩ : ∃ T, T7 ++ ({ data := #[32, 97, 116, 32] } : ByteArray) = T := ⟨_, rfl⟩
  have yT8 : T8.size ≤ 94 := by rw [← hT8, ByteArray.size_append]; simp only [ByteArray.size_mk'] ; simp; omega
  have HT8 := Go.Lib.hid hT8
  have zT9 : ¬ (9223372036854775807 < T8.size + st.size) := by omega
  obtain ⟨T9, hT9⟩ : ∃ T, T8 ++ st = T := ⟨_, rfl⟩
  have yT9 : T9.size ≤ 115 := by rw [← hT9, ByteArray.size_append]; omega
  have HT9 := Go.Lib.hid hT9
  have HH : Hid (s = T9) := Go.Lib.hid (by rw [← hs]; unfold ordText; rw [hsi, hsc, hsu, hst, HT1.out, HT2.out, HT3.out, HT4.out, HT5.out, HT6.out, HT7.out, HT8.out, HT9.out])
  clear hs hsi hsc hsu hst
  have bW : Below w.heap.size w w := Below.refl _ _
  clear hq
  go_enter Tryd.func14, Tryd.ntmps14
  go_upto_region 1 with fail
  obtain ⟨g, hg⟩ : ∃ g, w.heap.size = g := ⟨_, rfl⟩
  refine wp_gen (fun W => Below w.heap.size w W ∧ Bk W g 23 [.int .i64 (i : Int), .string k, .int .i64 (c : Int), .int .i64 (u : Int), .int .i64 (t : Int)]) ⟨by (repeat' (first | (with_reducible exact Below.refl _ _) | (with_reducible assumption) | (with_reducible refine balloc ?_ _) | (with_reducible refine bdrew ?_) | (with_reducible refine bdrewN ?_ _) | (with_reducible refine bstep ?_ (by assumption)) | (with_reducible refine bset ?_ ?_ _) | (exact Below.size (by assumption)) | go_size)), by rw [← hg]; exact Bk.new _ _ _⟩ ?_
  clear bW
  intro W ⟨bW, kx⟩
  rw [hg]
  clear hg
  have cx0 := kx.cell 0
  have cx1 := kx.cell 1
  have cx2 := kx.cell 2
  have cx3 := kx.cell 3
  have cx4 := kx.cell 4
  have lx := kx.lt
  simp only [List.getElem?_cons_zero, List.getElem?_cons_succ] at cx0 cx1 cx2 cx3 cx4
  go_upto_region 3 with (go_at_call 22; refine (h1 _).mono ?_; rintro e w2 ⟨rfl, hb2⟩; have kx := kx.below hb2 lx; have cx0 := kx.cell 0; have cx1 := kx.cell 1; have cx2 := kx.cell 2; have cx3 := kx.cell 3; have cx4 := kx.cell 4; simp only [List.getElem?_cons_zero, List.getElem?_cons_succ] at cx0 cx1 cx2 cx3 cx4; have bW := bstep bW hb2; have lx := bsize hb2 g lx)
  refine wp_gen (fun W => Below w.heap.size w W ∧ Bk W g 23 [.int .i64 (i : Int), .string k, .int .i64 (c : Int), .int .i64 (u : Int), .int .i64 (t : Int)]) ⟨bW, kx⟩ ?_
  clear bW kx cx0 cx1 cx2 cx3 cx4 lx
  intro W ⟨bW, kx⟩
  have cx0 := kx.cell 0
  have cx1 := kx.cell 1
  have cx2 := kx.cell 2
  have cx3 := kx.cell 3
  have cx4 := kx.cell 4
  have lx := kx.lt
  simp only [List.getElem?_cons_zero, List.getElem?_cons_succ] at cx0 cx1 cx2 cx3 cx4
  have hTW := hT.below bW
  (refine wp_region_bel (by kernel_rfl) (by kernel_rfl) ?_; (repeat (go_big_quiet_step ((first | (go_at_call_of 23 (#[.int .i64 (i : Int)] : Array Value); exact calls_bel (ni _ (hTW.below (below_bel _ _)))) | (go_at_call_of 23 (#[.int .i64 (c : Int)] : Array Value); exact calls_bel (nc _ (hTW.below (below_bel _ _)))) | (go_at_call_of 23 (#[.int .i64 (u : Int)] : Array Value); exact calls_bel (nu _ (hTW.below (below_bel _ _)))) | (go_at_call_of 23 (#[.int .i64 (t : Int)] : Array Value); exact calls_bel (nt _ (hTW.below (below_bel _ _)))))))); refine wpQuiet_nil ?_; intro w' hw'; have hb := below_of hw'; clear hw'; have bW := bstep bW hb)
  go_wp2
  go_returns
  exact ⟨by rw [HH.out]; rfl, bW⟩
end Go.Proofs.YthblodglmmaocaaDoor
