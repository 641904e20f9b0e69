/-
  An hour of moisture: the program's step and the reference's step are one plain function. Conditions: the bounds that stand in each statement.
-/
import Derived.Test.YtlnfccncbfpoiaaA
namespace Go.Proofs.Ytlnfccncbfpoiaa
open Go.RowKit
set_option maxHeartbeats 1000000

/-- the moisture after an hour whose balance is b -/
def hourI (lag m b : Int) : Int := if 0 < b - m then m + max 1 ((b - m) / lag) else if b - m < 0 then m - max 1 (-(b - m) / lag) else m
theorem hourI_up {lag m b : Int} (h : m < b) : m < hourI lag m b ∧ hourI lag m b ≤ b := by
  have h2 : 0 < b - m := by omega
  have h3 : (b - m) / lag ≤ b - m := Int.ediv_le_self _ (by omega)
  unfold hourI
  rw [if_pos h2]
  omega
theorem hourI_down {lag m b : Int} (h : b < m) : b ≤ hourI lag m b ∧ hourI lag m b < m := by
  have h3 : -(b - m) / lag ≤ -(b - m) := Int.ediv_le_self _ (by omega)
  unfold hourI
  rw [if_neg (by omega), if_pos (by omega)]
  omega
theorem hourI_same {lag m b : Int} (h : b = m) : hourI lag m b = m := by
  unfold hourI
  rw [if_neg (by omega), if_neg (by omega)]
theorem hourI_bd {lag m b : Int} (hm : 0 ≤ m ∧ m ≤ 400) (hb : 10 ≤ b ∧ b ≤ 400) : 0 ≤ hourI lag m b ∧ hourI lag m b ≤ 400 := by
  rcases Int.lt_trichotomy m b with h | h | h
  · have := hourI_up (lag := lag) h; omega
  · rw [hourI_same h.symm]; omega
  · have := hourI_down (lag := lag) h; omega

theorem hour_down_eq {m b lag : Int} (h : b - m < 0) : -(b - m).tdiv lag = -(b - m) / lag := by
  rw [← Int.neg_tdiv, Int.tdiv_eq_ediv_of_nonneg (by omega)]
theorem ret_int' {k : IntKind} {a b : Int} {w W : World} (h : a = b) (hb : Below w.heap.size w W) : Ending.returned (.int k a) = .returned (.int k b) ∧ Below w.heap.size w W := ⟨by rw [h], hb⟩
theorem l20Hour_any (lag m h t r : Int) (hl : 1 ≤ lag ∧ lag ≤ 100) (hm : 0 ≤ m ∧ m ≤ 400) (ha : airB h t r = true) (w : World) :
    Calls Try.prog 38 #[.int .i64 lag, .int .i64 m, .agg #[.int .i64 h, .int .i64 t, .int .i64 r]] w fun e w' => e = .returned (.int .i64 (hourI lag m (balI h t r))) ∧ Below w.heap.size w w' := by
  obtain ⟨l1, l2⟩ := hl
  obtain ⟨m1, m2⟩ := hm
  have hb := balI_bd h t r
  obtain ⟨b1, b2⟩ := hb
  go_enter Try.func38, Try.ntmps38
  go_wp2_with (first | (go_at_call 61; refine (l1Most_any _ _ _).mono ?_; rintro e w' ⟨rfl, rfl⟩) | (go_at_call 42; refine (l20Balance_any _ _ _ ha _).mono ?_; rintro e w' ⟨rfl, hb⟩; (try clear cW fW zW); (first | (have bW := bstep bW hb) | (have bW := bstep (bdrew bW) hb) | (have bW := bstep (balloc bW _) hb) | (have bW := bstep (bdrewN bW _) hb) | (have bW := hb)); clear hb; obtain ⟨cW, fW⟩ := bcell bW; have zW := bsize bW))
  · go_returns
    have h3 : (balI h t r - m) / lag ≤ balI h t r - m := Int.ediv_le_self _ (by omega)
    have h4 : 0 ≤ (balI h t r - m) / lag := Int.ediv_nonneg (by omega) (by omega)
    exact ⟨ret_int (by rw [IntWalk.wrap64_in _ (by omega)]; unfold hourI; rw [if_pos (by omega)]), by (repeat' (first | (with_reducible exact Below.refl _ _) | (with_reducible assumption) | (with_reducible refine balloc ?_ _) | (with_reducible refine bdrew ?_) | (with_reducible refine bdrewN ?_ _) | (with_reducible refine bstep ?_ (by assumption)) | (with_reducible refine bset ?_ ?_ _) | (exact Below.size (by assumption)) | go_size))⟩
  · go_returns
    have h5 : balI h t r - m < 0 := by assumption
    have h3 : -(balI h t r - m) / lag ≤ -(balI h t r - m) := Int.ediv_le_self _ (by omega)
    have h4 : 0 ≤ -(balI h t r - m) / lag := Int.ediv_nonneg (by omega) (by omega)
    exact ⟨ret_int (by rw [hour_down_eq h5, IntWalk.wrap64_in (-(balI h t r - m) / lag) (by omega), IntWalk.wrap64_in _ (by omega)]; unfold hourI; rw [if_neg (by omega), if_pos (by omega)]), by (repeat' (first | (with_reducible exact Below.refl _ _) | (with_reducible assumption) | (with_reducible refine balloc ?_ _) | (with_reducible refine bdrew ?_) | (with_reducible refine bdrewN ?_ _) | (with_reducible refine bstep ?_ (by assumption)) | (with_reducible refine bset ?_ ?_ _) | (exact Below.size (by assumption)) | go_size))⟩
  · go_returns
    exact ⟨ret_int (by unfold hourI; rw [if_neg (by omega), if_neg (by omega)]), by (repeat' (first | (with_reducible exact Below.refl _ _) | (with_reducible assumption) | (with_reducible refine balloc ?_ _) | (with_reducible refine bdrew ?_) | (with_reducible refine bdrewN ?_ _) | (with_reducible refine bstep ?_ (by assumption)) | (with_reducible refine bset ?_ ?_ _) | (exact Below.size (by assumption)) | go_size))⟩

theorem tdiv_bd {d lag : Int} (hl : 1 ≤ lag) (h1 : -400 ≤ d) (h2 : d ≤ 400) : -400 ≤ d.tdiv lag ∧ d.tdiv lag ≤ 400 := by
  rcases Int.lt_or_le d 0 with h | h
  · have e : d.tdiv lag = -((-d) / lag) := by rw [← Int.tdiv_eq_ediv_of_nonneg (by omega), Int.neg_tdiv, Int.neg_neg]
    have h3 : -d / lag ≤ -d := Int.ediv_le_self _ (by omega)
    have h4 : 0 ≤ -d / lag := Int.ediv_nonneg (by omega) (by omega)
    omega
  · rw [Int.tdiv_eq_ediv_of_nonneg h]
    have h3 : d / lag ≤ d := Int.ediv_le_self _ (by omega)
    have h4 : 0 ≤ d / lag := Int.ediv_nonneg (by omega) (by omega)
    omega
theorem hourI_eq (lag m b : Int) (hl : 1 ≤ lag) : hourI lag m b = m + (if (b - m).tdiv lag = 0 then (if 0 < b - m then 1 else if b - m < 0 then -1 else 0) else (b - m).tdiv lag) := by
  unfold hourI
  rcases Int.lt_trichotomy (b - m) 0 with h | h | h
  · have e : (b - m).tdiv lag = -(-(b - m) / lag) := by rw [← Int.tdiv_eq_ediv_of_nonneg (by omega), Int.neg_tdiv, Int.neg_neg]
    have h4 : 0 ≤ -(b - m) / lag := Int.ediv_nonneg (by omega) (by omega)
    rw [if_neg (by omega), if_pos h, e]
    split
    · omega
    · omega
  · rw [h]; simp
  · have h4 : 0 ≤ (b - m) / lag := Int.ediv_nonneg (by omega) (by omega)
    rw [if_pos h, Int.tdiv_eq_ediv_of_nonneg (by omega)]
    split
    · omega
    · omega
theorem ret_agg2 {k : IntKind} {a b : Int} {x : Value} (h : a = b) : Ending.returned (.agg #[x, .int k a]) = .returned (.agg #[x, .int k b]) := by rw [h]
theorem after_any (lag m h t r : Int) (hl : 1 ≤ lag ∧ lag ≤ 100) (hm : 0 ≤ m ∧ m ≤ 400) (ha : airB h t r = true) (w : World) :
    Calls Try.prog 35 #[.agg #[.int .i64 lag, .int .i64 m], .agg #[.int .i64 h, .int .i64 t, .int .i64 r]] w fun e w' => e = .returned (.agg #[.int .i64 lag, .int .i64 (hourI lag m (balI h t r))]) ∧ Below w.heap.size w w' := by
  obtain ⟨l1, l2⟩ := hl
  obtain ⟨m1, m2⟩ := hm
  have hb := balI_bd h t r
  obtain ⟨b1, b2⟩ := hb
  have hwr : IntKind.i64.wrap (balI h t r - m) = balI h t r - m := IntWalk.i64_in _ (by omega)
  go_enter Try.func35, Try.ntmps35
  go_wp2
  go_region_held3 (fun W => Below w.heap.size w W ∧ w.heap.size < W.heap.size ∧ w.heap.size + 1 < W.heap.size ∧ w.heap.size + 1 + 1 < W.heap.size ∧ W.cell? ⟨w.heap.size, 0, none⟩ = some (.int .i64 lag) ∧ W.cell? ⟨w.heap.size, 1, none⟩ = some (.int .i64 m) ∧ W.cell? ⟨w.heap.size + 1, 0, none⟩ = some (.int .i64 h) ∧ W.cell? ⟨w.heap.size + 1, 1, none⟩ = some (.int .i64 t) ∧ W.cell? ⟨w.heap.size + 1, 2, none⟩ = some (.int .i64 r) ∧ W.cell? ⟨w.heap.size + 1 + 1, 0, none⟩ = some (.int .i64 0) ∧ W.cell? ⟨w.heap.size + 1 + 1, 1, none⟩ = some (.int .i64 0)) (((try dsimp only); (try go_split_ands); (repeat' apply And.intro); all_goals (first | assumption | (exact zW _ (by assumption)) | (rw [cW _ _ (by assumption)]; assumption) | (rw [fW _ _ (by assumption)]; assumption) | (go_keep; done) | (simp [go_sem]; done) | (simp only [World.size_alloc] at *; omega) | (rw [World.cell?_alloc_lt _ _ _ (by simp only [World.size_alloc] at *; omega)]; first | assumption | (rw [cW _ _ (by assumption)]; assumption) | (rw [cW _ _ (by simp)]; simp [go_sem]; done)) | (simp [go_sem, *]; done) | ((repeat' (first | (with_reducible exact Below.refl _ _) | (with_reducible assumption) | (with_reducible refine balloc ?_ _) | (with_reducible refine bdrew ?_) | (with_reducible refine bdrewN ?_ _) | (with_reducible refine bstep ?_ (by assumption)) | (with_reducible refine bset ?_ ?_ _) | (exact Below.size (by assumption)) | go_size)); done)))) (first | (go_at_call 41; refine (balance_any _ _ _ ha _).mono ?_; rintro e w' ⟨rfl, hb⟩; (try clear cW fW zW); (first | (have bW := bstep bW hb) | (have bW := bstep (bdrew bW) hb) | (have bW := bstep (balloc bW _) hb) | (have bW := bstep (bdrewN bW _) hb) | (have bW := hb)); clear hb; obtain ⟨cW, fW⟩ := bcell bW; have zW := bsize bW))
  go_split_ands
  clear hwr
  go_wp2
  all_goals
    have t := tdiv_bd (lag := lag) l1 (show -400 ≤ balI h t r - m by omega) (by omega)
    obtain ⟨t1, t2⟩ := t
    (refine bodyPost_ret (by simp (maxDischargeDepth := 4) [results, Try.results35, go_sem, *]; try rfl) rfl ?_)
    refine ⟨ret_agg2 ?_, by (repeat' (first | (with_reducible exact Below.refl _ _) | (with_reducible assumption) | (with_reducible refine balloc ?_ _) | (with_reducible refine bdrew ?_) | (with_reducible refine bdrewN ?_ _) | (with_reducible refine bstep ?_ (by assumption)) | (with_reducible refine bset ?_ ?_ _) | (exact Below.size (by assumption)) | go_size))⟩
    rw [hourI_eq _ _ _ l1]
    by_cases c1 : (balI h t r - m).tdiv lag = 0
    · rw [if_pos c1]
      split <;> (try split) <;> omega
    · rw [if_neg c1]
      first | omega | (rw [IntWalk.wrap64_in _ (by omega)])
end Go.Proofs.Ytlnfccncbfpoiaa
