/-
  Winds, and where they blow to. Conditions: the bounds that stand in each statement.
-/
import Derived.Test.YtebfphpmdkagpaaJ
namespace Go.Proofs.Ytebfphpmdkagpaa
open Go.RowKit
set_option maxRecDepth 100000
set_option maxHeartbeats 2000000

def wnB (e s h : Int) : Bool := (inB e (-1) 1 && inB s (-1) 1) && ((decide (e ≠ 0) || decide (s ≠ 0)) && inB h 1 10)
theorem wnB_bd {e s h : Int} (hb : wnB e s h = true) : (-1 ≤ e ∧ e ≤ 1) ∧ (-1 ≤ s ∧ s ≤ 1) ∧ (1 ≤ h ∧ h ≤ 10) := by
  simp only [wnB, Bool.and_eq_true] at hb
  exact ⟨inB_iff.1 hb.1.1, inB_iff.1 hb.1.2, inB_iff.1 hb.2.2⟩
theorem toWind_any (e s h : Int) (w : World) : Calls Try.prog 25 #[.agg #[.int .i64 e, .int .i64 s, .int .i64 h]] w fun r w' => r = .returned (.agg #[.int .i64 e, .int .i64 s, .int .i64 h]) ∧ Below w.heap.size w w' := by
  go_enter Try.func25, Try.ntmps25
  go_wp2
  (refine bodyPost_ret (by simp (maxDischargeDepth := 4) [results, Try.results25, go_sem, *]; try rfl) rfl ?_)
  exact ⟨rfl, by (repeat' (first | (with_reducible exact Below.refl _ _) | (with_reducible assumption) | (with_reducible refine balloc ?_ _) | (with_reducible refine bdrew ?_) | (with_reducible refine bdrewN ?_ _) | (with_reducible refine bstep ?_ (by assumption)) | (with_reducible refine bset ?_ ?_ _) | (exact Below.size (by assumption)) | go_size))⟩
theorem isWind_any (e s h : Int) (w : World) : Calls Try.prog 43 #[.agg #[.int .i64 e, .int .i64 s, .int .i64 h]] w fun r w' => r = .returned (.bool (wnB e s h)) ∧ Below w.heap.size w w' := by
  go_enter Try.func43, Try.ntmps43
  go_wp2_with (first | (go_at_call 35; refine (in_any _ _ _ _).mono ?_; rintro e w' ⟨rfl, rfl⟩))
  all_goals (go_returns; exact ⟨by first | (simp [wnB, *]; done) | (have hz : inB 0 (-1) 1 = true := rfl; simp_all [wnB]; done) | (congr 2; simp only [wnB]; simp_all [inB]; done), by (repeat' (first | (with_reducible exact Below.refl _ _) | (with_reducible assumption) | (with_reducible refine balloc ?_ _) | (with_reducible refine bdrew ?_) | (with_reducible refine bdrewN ?_ _) | (with_reducible refine bstep ?_ (by assumption)) | (with_reducible refine bset ?_ ?_ _) | (exact Below.size (by assumption)) | go_size))⟩)
theorem l19Wind_any (e s h : Int) (w : World) : Calls Try.prog 40 #[.agg #[.int .i64 e, .int .i64 s, .int .i64 h]] w fun r w' => r = .returned (.bool (wnB e s h)) ∧ Below w.heap.size w w' := by
  go_enter Try.func40, Try.ntmps40
  go_wp2_with (first | (go_at_call 41; refine (l1In_any _ _ _ _).mono ?_; rintro e w' ⟨rfl, rfl⟩))
  all_goals (go_returns; exact ⟨by first | (simp [wnB, *]; done) | (have hz : inB 0 (-1) 1 = true := rfl; simp_all [wnB]; done) | (congr 2; simp only [wnB]; simp_all [inB]; done), by (repeat' (first | (with_reducible exact Below.refl _ _) | (with_reducible assumption) | (with_reducible refine balloc ?_ _) | (with_reducible refine bdrew ?_) | (with_reducible refine bdrewN ?_ _) | (with_reducible refine bstep ?_ (by assumption)) | (with_reducible refine bset ?_ ?_ _) | (exact Below.size (by assumption)) | go_size))⟩)
theorem isWind_of {e s h : Int} (v : Bool) (hv : wnB e s h = v) (w : World) : Calls Try.prog 43 #[.agg #[.int .i64 e, .int .i64 s, .int .i64 h]] w fun r w' => r = .returned (.bool v) ∧ Below w.heap.size w w' := by rw [← hv]; exact isWind_any e s h w
theorem l19Wind_of {e s h : Int} (v : Bool) (hv : wnB e s h = v) (w : World) : Calls Try.prog 40 #[.agg #[.int .i64 e, .int .i64 s, .int .i64 h]] w fun r w' => r = .returned (.bool v) ∧ Below w.heap.size w w' := by rw [← hv]; exact l19Wind_any e s h w
/-- the cell that lies so from a cell, or -1 -/
def sto (W H e s i : Int) : Int := if (inB (i % W + e) 0 (W - 1) && inB (i / W + s) 0 (H - 1)) = true then (i / W + s) * W + (i % W + e) else -1
theorem side5 {W : Int} (h : 1 ≤ W ∧ W ≤ 5) : W = 1 ∨ W = 2 ∨ W = 3 ∨ W = 4 ∨ W = 5 := by omega
theorem sto_inv {W H e s k c : Int} (hW : 1 ≤ W ∧ W ≤ 5) (hk : 0 ≤ k ∧ k < W * H) (hc : 0 ≤ c ∧ c < W * H) : sto W H e s k = c ↔ sto W H (-e) (-s) c = k := by
  unfold sto inB
  simp only [Bool.and_eq_true, decide_eq_true_eq]
  rcases side5 hW with rfl | rfl | rfl | rfl | rfl <;> (constructor <;> (intro h0; split at h0 <;> split <;> omega))
theorem sto_bd {W H e s k : Int} (hW : 1 ≤ W ∧ W ≤ 5) (hH : 1 ≤ H ∧ H ≤ 5) : -1 ≤ sto W H e s k ∧ sto W H e s k < W * H := by
  unfold sto inB
  simp only [Bool.and_eq_true, decide_eq_true_eq]
  rcases side5 hW with rfl | rfl | rfl | rfl | rfl <;> (split <;> omega)
theorem l19To_is {H e s h y : Int} {U k n c : Nat} {A : Option Addr} (hW : 1 ≤ (U : Int) ∧ (U : Int) ≤ 5) (hH : 1 ≤ H ∧ H ≤ 5) (he : -1 ≤ e ∧ e ≤ 1) (hs : -1 ≤ s ∧ s ≤ 1) (hk : k ≤ 24) (hy : sto U H e s k = y) (w : World) :
    Calls Try.prog 42 #[.agg #[.int .i64 (U : Int), .int .i64 H, .slice A n c], .agg #[.int .i64 e, .int .i64 s, .int .i64 h], .int .i64 (k : Int)] w fun r w' => r = .returned (.int .i64 y) ∧ Below w.heap.size w w' := by
  have mb := mod_bd (k := k) hW
  have db := div_bd (k := k) hW (by omega)
  unfold sto at hy
  obtain ⟨r, hrr⟩ : ∃ r, (k : Int) % (U : Int) = r := ⟨_, rfl⟩
  obtain ⟨d, hdd⟩ : ∃ r, (k : Int) / (U : Int) = r := ⟨_, rfl⟩
  rw [hrr] at mb hy
  rw [hdd] at db hy
  have hU0 : ¬ (U : Int) = 0 := by omega
  have hwU : IntKind.i64.wrap ((U : Int) - 1) = (U : Int) - 1 := IntWalk.i64_in _ (by omega)
  have hwH : IntKind.i64.wrap (H - 1) = H - 1 := IntWalk.i64_in _ (by omega)
  go_enter Try.func42, Try.ntmps42
  go_upto_region 1 with fail
  refine wp_gen (fun w0 => (Bk w0 w.heap.size 27 [.int .i64 (U : Int), .int .i64 H, .slice A n c] ∧ Bk w0 (w.heap.size + 1) 44 [.int .i64 e, .int .i64 s, .int .i64 h]) ∧ Below w.heap.size w w0) ⟨⟨Bk.alloc (Bk.new' rfl) _, Bk.new' (by simp)⟩, by (repeat' (first | (with_reducible exact Below.refl _ _) | (with_reducible assumption) | (with_reducible refine balloc ?_ _) | (with_reducible refine bdrew ?_) | (with_reducible refine bdrewN ?_ _) | (with_reducible refine bstep ?_ (by assumption)) | (with_reducible refine bset ?_ ?_ _) | (exact Below.size (by assumption)) | go_size))⟩ ?_
  intro w0 ⟨⟨hX, hY⟩, hW0⟩
  obtain ⟨x0, x1, x2, xl⟩ := three_cells hX
  obtain ⟨y0, y1, y2, yl⟩ := three_cells hY
  (refine wp_region_bel (by kernel_rfl) (by kernel_rfl) ?_; (repeat (go_big_quiet_step ((first | fail)))); refine wpQuiet_nil ?_; intro w' hw'; have hb := below_of hw'; clear hw'; (try clear cW fW zW); (first | (have bW := bstep bW hb) | (have bW := bstep (bdrew bW) hb) | (have bW := bstep (balloc bW _) hb) | (have bW := bstep (bdrewN bW _) hb) | (have bW := hb)); clear hb; obtain ⟨cW, fW⟩ := bcell bW; have zW := bsize bW)
  have x0 := (cW _ 0 xl).trans x0
  have x1 := (cW _ 1 xl).trans x1
  have xl := zW _ xl
  have b1 := bstep hW0 bW
  clear x2 bW cW fW zW y0 y1 y2 yl hY
  clear hX
  rcases h1 : inB (r + e) 0 ((U : Int) - 1) with _ | _
  · obtain rfl : y = -1 := by rw [← hy]; simp [h1]
    clear hy
    go_wp2_with fail
    refine (l1In_of false h1 _).mono ?_
    rintro v u ⟨rfl, rfl⟩
    go_wp2
    go_returns
    exact ⟨rfl, b1⟩
  rcases h2 : inB (d + s) 0 (H - 1) with _ | _
  · obtain rfl : y = -1 := by rw [← hy]; simp [h2]
    clear hy
    go_wp2_with fail
    refine (l1In_of true h1 _).mono ?_
    rintro v u ⟨rfl, rfl⟩
    go_wp2_with fail
    refine (l1In_of false h2 _).mono ?_
    rintro v u ⟨rfl, rfl⟩
    go_wp2
    go_returns
    exact ⟨rfl, b1⟩
  have b3 := inB_iff.1 h1
  have b4 := inB_iff.1 h2
  have hy2 : (d + s) * (U : Int) + (r + e) = y := by rw [← hy]; simp [h1, h2]
  obtain ⟨p, hp⟩ : ∃ p, (d + s) * (U : Int) = p := ⟨_, rfl⟩
  have hpb : 0 ≤ p ∧ p ≤ 20 := by
    rw [← hp]
    refine ⟨Int.mul_nonneg (by omega) (by omega), ?_⟩
    have q1 : (d + s) * (U : Int) ≤ 4 * (U : Int) := Int.mul_le_mul_of_nonneg_right (by omega) (by omega)
    omega
  rw [hp] at hy2
  subst hy2
  clear hy
  go_wp2_with fail
  refine (l1In_of true h1 _).mono ?_
  rintro v u ⟨rfl, rfl⟩
  go_wp2_with fail
  refine (l1In_of true h2 _).mono ?_
  rintro v u ⟨rfl, rfl⟩
  go_wp2
  go_returns
  exact ⟨ret_int (by first | omega | (simp only [hp]; omega)), b1⟩
theorem from_is {H e s y : Int} {U k n c : Nat} {A : Option Addr} (hW : 1 ≤ (U : Int) ∧ (U : Int) ≤ 5) (hH : 1 ≤ H ∧ H ≤ 5) (he : -1 ≤ e ∧ e ≤ 1) (hs : -1 ≤ s ∧ s ≤ 1) (hk : k ≤ 24) (hy : sto U H e s k = y) (w : World) :
    Calls Try.prog 44 #[.agg #[.int .i64 (U : Int), .int .i64 H, .slice A n c], .int .i64 (k : Int), .int .i64 e, .int .i64 s] w fun r w' => r = .returned (.int .i64 y) ∧ Below w.heap.size w w' := by
  have mb := mod_bd (k := k) hW
  have db := div_bd (k := k) hW (by omega)
  unfold sto at hy
  obtain ⟨r, hrr⟩ : ∃ r, (k : Int) % (U : Int) = r := ⟨_, rfl⟩
  obtain ⟨d, hdd⟩ : ∃ r, (k : Int) / (U : Int) = r := ⟨_, rfl⟩
  rw [hrr] at mb hy
  rw [hdd] at db hy
  have hU0 : ¬ (U : Int) = 0 := by omega
  have hwU : IntKind.i64.wrap ((U : Int) - 1) = (U : Int) - 1 := IntWalk.i64_in _ (by omega)
  have hwH : IntKind.i64.wrap (H - 1) = H - 1 := IntWalk.i64_in _ (by omega)
  go_enter Try.func44, Try.ntmps44
  go_upto_region 1 with fail
  refine wp_gen (fun w0 => (Bk w0 w.heap.size 27 [.int .i64 (U : Int), .int .i64 H, .slice A n c]) ∧ Below w.heap.size w w0) ⟨Bk.new' rfl, by (repeat' (first | (with_reducible exact Below.refl _ _) | (with_reducible assumption) | (with_reducible refine balloc ?_ _) | (with_reducible refine bdrew ?_) | (with_reducible refine bdrewN ?_ _) | (with_reducible refine bstep ?_ (by assumption)) | (with_reducible refine bset ?_ ?_ _) | (exact Below.size (by assumption)) | go_size))⟩ ?_
  intro w0 ⟨hX, hW0⟩
  obtain ⟨x0, x1, x2, xl⟩ := three_cells hX
  (refine wp_region_bel (by kernel_rfl) (by kernel_rfl) ?_; (repeat (go_big_quiet_step ((first | fail)))); refine wpQuiet_nil ?_; intro w' hw'; have hb := below_of hw'; clear hw'; (try clear cW fW zW); (first | (have bW := bstep bW hb) | (have bW := bstep (bdrew bW) hb) | (have bW := bstep (balloc bW _) hb) | (have bW := bstep (bdrewN bW _) hb) | (have bW := hb)); clear hb; obtain ⟨cW, fW⟩ := bcell bW; have zW := bsize bW)
  have x0 := (cW _ 0 xl).trans x0
  have x1 := (cW _ 1 xl).trans x1
  have xl := zW _ xl
  have b1 := bstep hW0 bW
  clear x2 bW cW fW zW
  clear hX
  rcases h1 : inB (r + e) 0 ((U : Int) - 1) with _ | _
  · obtain rfl : y = -1 := by rw [← hy]; simp [h1]
    clear hy
    go_wp2_with fail
    refine (in_of false h1 _).mono ?_
    rintro v u ⟨rfl, rfl⟩
    go_wp2
    go_returns
    exact ⟨rfl, b1⟩
  rcases h2 : inB (d + s) 0 (H - 1) with _ | _
  · obtain rfl : y = -1 := by rw [← hy]; simp [h2]
    clear hy
    go_wp2_with fail
    refine (in_of true h1 _).mono ?_
    rintro v u ⟨rfl, rfl⟩
    go_wp2_with fail
    refine (in_of false h2 _).mono ?_
    rintro v u ⟨rfl, rfl⟩
    go_wp2
    go_returns
    exact ⟨rfl, b1⟩
  have b3 := inB_iff.1 h1
  have b4 := inB_iff.1 h2
  have hy2 : (d + s) * (U : Int) + (r + e) = y := by rw [← hy]; simp [h1, h2]
  obtain ⟨p, hp⟩ : ∃ p, (d + s) * (U : Int) = p := ⟨_, rfl⟩
  have hpb : 0 ≤ p ∧ p ≤ 20 := by
    rw [← hp]
    refine ⟨Int.mul_nonneg (by omega) (by omega), ?_⟩
    have q1 : (d + s) * (U : Int) ≤ 4 * (U : Int) := Int.mul_le_mul_of_nonneg_right (by omega) (by omega)
    omega
  rw [hp] at hy2
  subst hy2
  clear hy
  go_wp2_with fail
  refine (in_of true h1 _).mono ?_
  rintro v u ⟨rfl, rfl⟩
  go_wp2_with fail
  refine (in_of true h2 _).mono ?_
  rintro v u ⟨rfl, rfl⟩
  go_wp2
  go_returns
  exact ⟨ret_int (by first | omega | (simp only [hp]; omega)), b1⟩
end Go.Proofs.Ytebfphpmdkagpaa
