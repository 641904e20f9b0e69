/-
  Incidents: copied, compared, measured. Conditions: lengths within the bound of a slice.
-/
import Derived.Test.YtebfphpmdkagpaaX
namespace Go.Proofs.Ytebfphpmdkagpaa
open Go.RowKit
set_option maxRecDepth 100000
set_option maxHeartbeats 2000000

theorem toIncident_any (W H t : Int) (A A2 A3 : Option Addr) (n n2 n3 c c2 c3 : Nat) (bs fs vs : List Int) (w : World) (hr : Rd w 1 A n (ints bs)) (hr2 : Rd w 1 A2 n2 (ints fs)) (hr3 : Rd w 1 A3 n3 (ints vs)) (hn : n ≤ 1048576) (hn2 : n2 ≤ 1048576) (hn3 : n3 ≤ 1048576) :
    Calls Try.prog 29 #[.agg #[.int .i64 W, .int .i64 H, .slice A n c, .slice A2 n2 c2, .slice A3 n3 c3, .int .i64 t]] w fun e w' => ∃ g1 g2 g3, e = .returned (.agg #[.int .i64 W, .int .i64 H, .slice (some ⟨g1, 0, none⟩) n n, .slice (some ⟨g2, 0, none⟩) n2 n2, .slice (some ⟨g3, 0, none⟩) n3 n3, .int .i64 t]) ∧ Bk w' g1 3 (ints bs) ∧ Bk w' g2 3 (ints fs) ∧ Bk w' g3 3 (ints vs) ∧ Below w.heap.size w w' := by
  go_enter Try.func29, Try.ntmps29
  go_upto_region 2 with fail
  refine wp_gen (fun w0 => Bk w0 w.heap.size 50 [.int .i64 W, .int .i64 H, .slice A n c, .slice A2 n2 c2, .slice A3 n3 c3, .int .i64 t] ∧ Bk w0 (w.heap.size + 1) 55 [.int .i64 0, .int .i64 0, .slice none 0 0, .slice none 0 0, .slice none 0 0, .int .i64 0] ∧ Bk w0 (w.heap.size + 2) 55 [.int .i64 0, .int .i64 0, .slice none 0 0, .slice none 0 0, .slice none 0 0, .int .i64 0] ∧ Below w.heap.size w w0) ⟨Bk.alloc (Bk.alloc (Bk.new' rfl) _) _, Bk.alloc (Bk.new' (by simp)) _, Bk.new' (by simp), by (repeat' (first | (with_reducible exact Below.refl _ _) | (with_reducible assumption) | (with_reducible refine balloc ?_ _) | (with_reducible refine bdrew ?_) | (with_reducible refine bdrewN ?_ _) | (with_reducible refine bstep ?_ (by assumption)) | (with_reducible refine bset ?_ ?_ _) | (exact Below.size (by assumption)) | go_size))⟩ ?_
  intro w0 ⟨ha, hb, hc, hW⟩
  obtain ⟨x0, x1, x2, x3, x4, x5, xl⟩ := six_cells ha
  have zl := hc.lt
  have HA := Lib.hid ha
  have HB := Lib.hid hb
  have HC := Lib.hid hc
  clear ha hb hc
  go_wp2_with fail
  refine (toTerrain_any W H A n c bs _ (hr.below hW) hn).mono ?_
  rintro e v0 ⟨g1, rfl, hg0, hG, hbw⟩
  have hc1 := HC.out.below hbw zl
  have hsz := HC.out.lt
  have hg0 : w.heap.size + 3 ≤ g1 := by omega
  clear x0 x1 x2 x3 x4 x5 xl
  obtain ⟨z0, z1, z2, z3, z4, z5, zl⟩ := six_cells hc1
  have fz0 := hc1.frozen 0
  have fz1 := hc1.frozen 1
  have fz2 := hc1.frozen 2
  have HG := Lib.hid hG
  have HC1 := Lib.hid hc1
  clear hG hc1
  go_upto_region 3 with fail
  refine wp_gen (fun w0 => Bk w0 w.heap.size 50 [.int .i64 W, .int .i64 H, .slice A n c, .slice A2 n2 c2, .slice A3 n3 c3, .int .i64 t] ∧ Bk w0 (w.heap.size + 1) 55 [.int .i64 0, .int .i64 0, .slice none 0 0, .slice none 0 0, .slice none 0 0, .int .i64 0] ∧ Bk w0 (w.heap.size + 2) 55 [.int .i64 W, .int .i64 H, .slice (some ⟨g1, 0, none⟩) n n, .slice none 0 0, .slice none 0 0, .int .i64 0] ∧ Below w.heap.size w w0 ∧ Bk w0 g1 3 (ints bs) ∧ w.heap.size + 3 ≤ g1) ⟨(Bk.far (Bk.far (Bk.far (HA.out.below hbw HA.out.lt) (by simp <;> omega) _) (by simp <;> omega) _) (by simp <;> omega) _), (Bk.far (Bk.far (Bk.far (HB.out.below hbw HB.out.lt) (by simp <;> omega) _) (by simp <;> omega) _) (by simp <;> omega) _), (((HC1.out.set_ 0 (.int .i64 W)).set_ 1 (.int .i64 H)).set_ 2 (.slice (some ⟨g1, 0, none⟩) n n)), (bset (bset (bset (bstep hW hbw) (by simp <;> omega) _) (by simp <;> omega) _) (by simp <;> omega) _), (Bk.far (Bk.far (Bk.far HG.out (by show g1 ≠ w.heap.size + 2; omega) _) (by show g1 ≠ w.heap.size + 2; omega) _) (by show g1 ≠ w.heap.size + 2; omega) _), hg0⟩ ?_
  intro u0 ⟨ha, hb, hc, hW, hG0, hgg0⟩
  have HG0 := Lib.hid hG0
  clear z0 z1 z2 z3 z4 z5 zl fz0 fz1 fz2 HG HC1 HA HB HC hbw hsz hg0 hG0
  obtain ⟨x0, x1, x2, x3, x4, x5, xl⟩ := six_cells ha
  have zl := hc.lt
  have HA := Lib.hid ha
  have HB := Lib.hid hb
  have HC := Lib.hid hc
  clear ha hb hc
  go_wp2_with fail
  refine (toIntS_any A2 n2 c2 fs _ (hr2.below hW) (by omega)).mono ?_
  rintro e v1 ⟨g2, rfl, hg1, hG, hbw⟩
  have hc1 := HC.out.below hbw zl
  have hsz := HC.out.lt
  have hg1 : w.heap.size + 3 ≤ g2 := by omega
  clear x0 x1 x2 x3 x4 x5 xl
  obtain ⟨z0, z1, z2, z3, z4, z5, zl⟩ := six_cells hc1
  have fz3 := hc1.frozen 3
  have HG := Lib.hid hG
  have HC1 := Lib.hid hc1
  clear hG hc1
  go_upto_region 4 with fail
  refine wp_gen (fun w0 => Bk w0 w.heap.size 50 [.int .i64 W, .int .i64 H, .slice A n c, .slice A2 n2 c2, .slice A3 n3 c3, .int .i64 t] ∧ Bk w0 (w.heap.size + 1) 55 [.int .i64 0, .int .i64 0, .slice none 0 0, .slice none 0 0, .slice none 0 0, .int .i64 0] ∧ Bk w0 (w.heap.size + 2) 55 [.int .i64 W, .int .i64 H, .slice (some ⟨g1, 0, none⟩) n n, .slice (some ⟨g2, 0, none⟩) n2 n2, .slice none 0 0, .int .i64 0] ∧ Below w.heap.size w w0 ∧ Bk w0 g1 3 (ints bs) ∧ w.heap.size + 3 ≤ g1 ∧ Bk w0 g2 3 (ints fs) ∧ w.heap.size + 3 ≤ g2) ⟨(Bk.far (HA.out.below hbw HA.out.lt) (by simp <;> omega) _), (Bk.far (HB.out.below hbw HB.out.lt) (by simp <;> omega) _), (HC1.out.set_ 3 (.slice (some ⟨g2, 0, none⟩) n2 n2)), (bset (bstep hW hbw) (by simp <;> omega) _), (Bk.far (HG0.out.below hbw HG0.out.lt) (by show g1 ≠ w.heap.size + 2; omega) _), hgg0, (Bk.far HG.out (by show g2 ≠ w.heap.size + 2; omega) _), hg1⟩ ?_
  intro u1 ⟨ha, hb, hc, hW, hG0, hgg0, hG1, hgg1⟩
  have HG0 := Lib.hid hG0
  have HG1 := Lib.hid hG1
  clear z0 z1 z2 z3 z4 z5 zl fz3 HG HC1 HA HB HC hbw hsz hg1 hG0 hG1
  obtain ⟨x0, x1, x2, x3, x4, x5, xl⟩ := six_cells ha
  have zl := hc.lt
  have HA := Lib.hid ha
  have HB := Lib.hid hb
  have HC := Lib.hid hc
  clear ha hb hc
  go_wp2_with fail
  refine (toIntS_any A3 n3 c3 vs _ (hr3.below hW) (by omega)).mono ?_
  rintro e v2 ⟨g3, rfl, hg2, hG, hbw⟩
  have hc1 := HC.out.below hbw zl
  have hsz := HC.out.lt
  have hg2 : w.heap.size + 3 ≤ g3 := by omega
  clear x0 x1 x2 x3 x4 x5 xl
  obtain ⟨z0, z1, z2, z3, z4, z5, zl⟩ := six_cells hc1
  have fz4 := hc1.frozen 4
  have HG := Lib.hid hG
  have HC1 := Lib.hid hc1
  clear hG hc1
  go_upto_region 5 with fail
  refine wp_gen (fun w0 => Bk w0 w.heap.size 50 [.int .i64 W, .int .i64 H, .slice A n c, .slice A2 n2 c2, .slice A3 n3 c3, .int .i64 t] ∧ Bk w0 (w.heap.size + 1) 55 [.int .i64 0, .int .i64 0, .slice none 0 0, .slice none 0 0, .slice none 0 0, .int .i64 0] ∧ Bk w0 (w.heap.size + 2) 55 [.int .i64 W, .int .i64 H, .slice (some ⟨g1, 0, none⟩) n n, .slice (some ⟨g2, 0, none⟩) n2 n2, .slice (some ⟨g3, 0, none⟩) n3 n3, .int .i64 0] ∧ Below w.heap.size w w0 ∧ Bk w0 g1 3 (ints bs) ∧ w.heap.size + 3 ≤ g1 ∧ Bk w0 g2 3 (ints fs) ∧ w.heap.size + 3 ≤ g2 ∧ Bk w0 g3 3 (ints vs) ∧ w.heap.size + 3 ≤ g3) ⟨(Bk.far (HA.out.below hbw HA.out.lt) (by simp <;> omega) _), (Bk.far (HB.out.below hbw HB.out.lt) (by simp <;> omega) _), (HC1.out.set_ 4 (.slice (some ⟨g3, 0, none⟩) n3 n3)), (bset (bstep hW hbw) (by simp <;> omega) _), (Bk.far (HG0.out.below hbw HG0.out.lt) (by show g1 ≠ w.heap.size + 2; omega) _), hgg0, (Bk.far (HG1.out.below hbw HG1.out.lt) (by show g2 ≠ w.heap.size + 2; omega) _), hgg1, (Bk.far HG.out (by show g3 ≠ w.heap.size + 2; omega) _), hg2⟩ ?_
  intro u2 ⟨ha, hb, hc, hW, hG0, hgg0, hG1, hgg1, hG2, hgg2⟩
  have HG0 := Lib.hid hG0
  have HG1 := Lib.hid hG1
  have HG2 := Lib.hid hG2
  clear z0 z1 z2 z3 z4 z5 zl fz4 HG HC1 HA HB HC hbw hsz hg2 hG0 hG1 hG2
  obtain ⟨x0, x1, x2, x3, x4, x5, xl⟩ := six_cells ha
  obtain ⟨y0, y1, y2, y3, y4, y5, yl⟩ := six_cells hb
  obtain ⟨z0, z1, z2, z3, z4, z5, zl⟩ := six_cells hc
  have fy0 := hb.frozen 0
  have fy1 := hb.frozen 1
  have fy2 := hb.frozen 2
  have fy3 := hb.frozen 3
  have fy4 := hb.frozen 4
  have fy5 := hb.frozen 5
  have fz5 := hc.frozen 5
  have HB := Lib.hid hb
  have HC := Lib.hid hc
  clear ha hb hc
  go_wp2
  (refine bodyPost_ret (by simp (maxDischargeDepth := 4) [results, Try.results29, go_sem, *]; try rfl) rfl ?_)
  refine ⟨g1, g2, g3, rfl, (Bk.far (Bk.far (Bk.far (Bk.far (Bk.far (Bk.far (Bk.far HG0.out (by simp <;> omega) _) (by simp <;> omega) _) (by simp <;> omega) _) (by simp <;> omega) _) (by simp <;> omega) _) (by simp <;> omega) _) (by simp <;> omega) _), (Bk.far (Bk.far (Bk.far (Bk.far (Bk.far (Bk.far (Bk.far HG1.out (by simp <;> omega) _) (by simp <;> omega) _) (by simp <;> omega) _) (by simp <;> omega) _) (by simp <;> omega) _) (by simp <;> omega) _) (by simp <;> omega) _), (Bk.far (Bk.far (Bk.far (Bk.far (Bk.far (Bk.far (Bk.far HG2.out (by simp <;> omega) _) (by simp <;> omega) _) (by simp <;> omega) _) (by simp <;> omega) _) (by simp <;> omega) _) (by simp <;> omega) _) (by simp <;> omega) _), ?_⟩
  exact bset (bset (bset (bset (bset (bset (bset hW (by simp <;> omega) _) (by simp <;> omega) _) (by simp <;> omega) _) (by simp <;> omega) _) (by simp <;> omega) _) (by simp <;> omega) _) (by simp <;> omega) _
theorem eqIncident_same (W H t : Int) (A A2 A3 B B2 B3 : Option Addr) (n n2 n3 c c2 c3 d d2 d3 : Nat) (bs fs vs : List Int) (w : World) (hr : Rd w 1 A n (ints bs)) (hr2 : Rd w 1 A2 n2 (ints fs)) (hr3 : Rd w 1 A3 n3 (ints vs)) (hs : Rd w 1 B n (ints bs)) (hs2 : Rd w 1 B2 n2 (ints fs)) (hs3 : Rd w 1 B3 n3 (ints vs)) (hn : n ≤ 1048576) (hn2 : n2 ≤ 1048576) (hn3 : n3 ≤ 1048576) :
    Calls Try.prog 31 #[.agg #[.int .i64 W, .int .i64 H, .slice A n c, .slice A2 n2 c2, .slice A3 n3 c3, .int .i64 t], .agg #[.int .i64 W, .int .i64 H, .slice B n d, .slice B2 n2 d2, .slice B3 n3 d3, .int .i64 t]] w fun e w' => e = .returned (.bool true) ∧ Below w.heap.size w w' := by
  go_enter Try.func31, Try.ntmps31
  go_upto_region 1 with fail
  refine wp_gen (fun w0 => Bk w0 w.heap.size 55 [.int .i64 W, .int .i64 H, .slice A n c, .slice A2 n2 c2, .slice A3 n3 c3, .int .i64 t] ∧ Bk w0 (w.heap.size + 1) 55 [.int .i64 W, .int .i64 H, .slice B n d, .slice B2 n2 d2, .slice B3 n3 d3, .int .i64 t] ∧ Below w.heap.size w w0) ⟨Bk.alloc (Bk.new' rfl) _, Bk.new' (by simp), by (repeat' (first | (with_reducible exact Below.refl _ _) | (with_reducible assumption) | (with_reducible refine balloc ?_ _) | (with_reducible refine bdrew ?_) | (with_reducible refine bdrewN ?_ _) | (with_reducible refine bstep ?_ (by assumption)) | (with_reducible refine bset ?_ ?_ _) | (exact Below.size (by assumption)) | go_size))⟩ ?_
  intro w0 ⟨hx, hy, b0⟩
  have htt : (t != t) = false := by simp
  obtain ⟨x0, x1, x2, x3, x4, x5, xl⟩ := six_cells hx
  obtain ⟨y0, y1, y2, y3, y4, y5, yl⟩ := six_cells hy
  go_wp2_with fail
  refine (eqTerrain_same W H A B n c d bs _ (hr.below b0) (hs.below b0) hn).mono ?_
  rintro e w1 ⟨rfl, hb1⟩
  have b1 := bstep b0 hb1
  have hx := hx.below hb1 hx.lt
  have hy := hy.below hb1 hy.lt
  clear x0 x1 x2 x3 x4 x5 xl y0 y1 y2 y3 y4 y5 yl
  obtain ⟨x0, x1, x2, x3, x4, x5, xl⟩ := six_cells hx
  obtain ⟨y0, y1, y2, y3, y4, y5, yl⟩ := six_cells hy
  go_wp2_with fail
  refine (eqIntS_yes _ (hr2.below b1) (hs2.below b1) (by omega) rfl).mono ?_
  rintro e w2 ⟨rfl, hb2⟩
  have b2 := bstep b1 hb2
  have hx := hx.below hb2 hx.lt
  have hy := hy.below hb2 hy.lt
  clear x0 x1 x2 x3 x4 x5 xl y0 y1 y2 y3 y4 y5 yl
  obtain ⟨x0, x1, x2, x3, x4, x5, xl⟩ := six_cells hx
  obtain ⟨y0, y1, y2, y3, y4, y5, yl⟩ := six_cells hy
  go_wp2_with fail
  refine (eqIntS_yes _ (hr3.below b2) (hs3.below b2) (by omega) rfl).mono ?_
  rintro e w3 ⟨rfl, hb3⟩
  have b3 := bstep b2 hb3
  have hx := hx.below hb3 hx.lt
  have hy := hy.below hb3 hy.lt
  clear x0 x1 x2 x3 x4 x5 xl y0 y1 y2 y3 y4 y5 yl
  obtain ⟨x0, x1, x2, x3, x4, x5, xl⟩ := six_cells hx
  obtain ⟨y0, y1, y2, y3, y4, y5, yl⟩ := six_cells hy
  go_wp2
  go_returns
  exact ⟨rfl, b3⟩
theorem szIncident_any (W H t : Int) (A A2 A3 : Option Addr) (n n2 n3 c c2 c3 : Nat) (w : World) (hn : n ≤ 9223372036854775807) (hn2 : n2 ≤ 9223372036854775807) (hn3 : n3 ≤ 9223372036854775807) :
    Calls Try.prog 27 #[.agg #[.int .i64 W, .int .i64 H, .slice A n c, .slice A2 n2 c2, .slice A3 n3 c3, .int .i64 t], .int .i64 1048576] w fun e w' => ∃ v : Int, e = .returned (.int .i64 v) ∧ (0 ≤ v → n ≤ 1048576 ∧ n2 ≤ 1048576 ∧ n3 ≤ 1048576) ∧ Below w.heap.size w w' := by
  obtain ⟨v1, e1⟩ : ∃ v, szI n 1048576 = v := ⟨_, rfl⟩
  obtain ⟨v2, e2⟩ : ∃ v, szI n2 v1 = v := ⟨_, rfl⟩
  obtain ⟨v3, e3⟩ : ∃ v, szI n3 v2 = v := ⟨_, rfl⟩
  have E1 := Lib.hid e1
  have E2 := Lib.hid e2
  have E3 := Lib.hid e3
  have k1 : (0 ≤ v1 → n ≤ 1048576) ∧ v1 ≤ 1048576 := by unfold szI at e1; split at e1 <;> omega
  have k2 : 0 ≤ v1 → (0 ≤ v2 → n2 ≤ 1048576) ∧ v2 ≤ 1048576 := by unfold szI at e2; split at e2 <;> omega
  have k3 : 0 ≤ v1 → 0 ≤ v2 → (0 ≤ v3 → n3 ≤ 1048576) := by unfold szI at e3; split at e3 <;> omega
  have K1 := Lib.hid k1
  have K2 := Lib.hid k2
  have K3 := Lib.hid k3
  clear e1 e2 e3 k1 k2 k3
  go_enter Try.func27, Try.ntmps27
  go_upto_region 1 with fail
  refine wp_gen (fun w0 => Bk w0 w.heap.size 50 [.int .i64 W, .int .i64 H, .slice A n c, .slice A2 n2 c2, .slice A3 n3 c3, .int .i64 t] ∧ Below w.heap.size w w0) ⟨Bk.new' rfl, by (repeat' (first | (with_reducible exact Below.refl _ _) | (with_reducible assumption) | (with_reducible refine balloc ?_ _) | (with_reducible refine bdrew ?_) | (with_reducible refine bdrewN ?_ _) | (with_reducible refine bstep ?_ (by assumption)) | (with_reducible refine bset ?_ ?_ _) | (exact Below.size (by assumption)) | go_size))⟩ ?_
  intro w0 ⟨hx, b0⟩
  obtain ⟨x0, x1, x2, x3, x4, x5, xl⟩ := six_cells hx
  go_wp2_with fail
  refine (szTerrain_any W H A n c 1048576 _ hn (by omega)).mono ?_
  rintro e w1 ⟨rfl, hb1⟩
  have b1 := bstep b0 hb1
  have hx := hx.below hb1 hx.lt
  clear x0 x1 x2 x3 x4 x5 xl
  obtain ⟨x0, x1, x2, x3, x4, x5, xl⟩ := six_cells hx
  rw [E1.out]
  by_cases h1 : v1 < 0
  · go_wp2
    go_returns
    exact ⟨_, rfl, fun h => absurd h (by omega), b1⟩
  have hk2 := K2.out (by omega)
  have hk1 := K1.out.2
  go_wp2_with fail
  refine (szIntS_any A2 n2 c2 v1 _ hn2 (by omega)).mono ?_
  rintro e w2 ⟨rfl, rfl⟩
  rw [E2.out]
  by_cases h2 : v2 < 0
  · go_wp2
    go_returns
    exact ⟨_, rfl, fun h => absurd h (by omega), b1⟩
  go_wp2_with fail
  refine (szIntS_any A3 n3 c3 v2 _ hn3 (by omega)).mono ?_
  rintro e w3 ⟨rfl, rfl⟩
  rw [E3.out]
  by_cases h3 : v3 < 0
  · go_wp2
    go_returns
    exact ⟨_, rfl, fun h => absurd h (by omega), b1⟩
  go_wp2
  go_returns
  exact ⟨_, rfl, fun h => ⟨K1.out.1 (by omega), hk2.1 (by omega), K3.out (by omega) (by omega) (by omega)⟩, b1⟩
end Go.Proofs.Ytebfphpmdkagpaa
