/-
  The reference's test of two orders. Conditions: none.
-/
import Derived.Test.YtaekngiejehooaaZF
namespace Go.Proofs.Ytaekngiejehooaa
open Go.RowKit
set_option maxRecDepth 100000
set_option maxHeartbeats 4000000

def befO (x y : OrderT) : Bool := decide (y.2.2.2.1 < x.2.2.2.1 ∨ (x.2.2.2.1 = y.2.2.2.1 ∧ (x.2.2.2.2 < y.2.2.2.2 ∨ (x.2.2.2.2 = y.2.2.2.2 ∧ x.1 < y.1))))
theorem ltO_bef {zs : List OrderT} {i j : Nat} {x y : OrderT} (hi : i < zs.length) (hj : j < zs.length) (hx : zs[i] = x) (hy : zs[j] = y) (h : y.1 < x.1) : ltO zs (i : Int) (j : Int) = befO x y := by
  unfold ltO cfO befO
  rw [oAt_nat hi hx, oAt_nat hj hy]
  obtain ⟨x0, x1, x2, x3, x4⟩ := x
  obtain ⟨y0, y1, y2, y3, y4⟩ := y
  simp only at h
  simp only
  rw [decide_eq_decide]
  unfold orv cmpv
  (repeat' split) <;> omega
theorem lst_lt {zs : List OrderT} {most : Int} (h : listedB zs most = true) {i : Nat} : ∀ d (hd : i + 1 + d < zs.length), (zs[i]'(by omega)).1 < zs[i + 1 + d].1
  | 0, hd => by
    have h1 := ((listedB_iff.1 h).1 (i + 1) (by omega) (by omega)).2 (by omega)
    simpa using h1
  | d + 1, hd => by
    have h1 := lst_lt h (i := i) d (by omega)
    have h2 := ((listedB_iff.1 h).1 (i + 1 + d + 1) (by omega) (by omega)).2 (by omega)
    have h3 : zs[i + 1 + d].1 < zs[i + 1 + d + 1].1 := by simpa using h2
    exact Int.lt_trans h1 h3
theorem lst_lt2 {zs : List OrderT} {most : Int} (h : listedB zs most = true) {i j : Nat} (hij : i < j) (hj : j < zs.length) : (zs[i]'(by omega)).1 < zs[j].1 := by
  obtain ⟨d, rfl⟩ : ∃ d, j = i + 1 + d := ⟨j - (i + 1), by omega⟩
  exact lst_lt h d hj
theorem l15Before_is {v : Bool} {x0 x2 x3 x4 y0 y2 y3 y4 : Int} {x1 y1 : ByteArray} (hv : befO (x0, x1, x2, x3, x4) (y0, y1, y2, y3, y4) = v) (w : World) :
    Calls Try.prog 67 #[.agg #[.int .i64 x0, .string x1, .int .i64 x2, .int .i64 x3, .int .i64 x4], .agg #[.int .i64 y0, .string y1, .int .i64 y2, .int .i64 y3, .int .i64 y4]] w fun e w' => e = .returned (.bool v) ∧ Below w.heap.size w w' := by
  unfold befO at hv
  simp only at hv
  go_enter Try.func67, Try.ntmps67
  go_upto_region 1 with fail
  refine wp_gen (fun w0 => Bk w0 w.heap.size 46 [.int .i64 x0, .string x1, .int .i64 x2, .int .i64 x3, .int .i64 x4] ∧ Bk w0 (w.heap.size + 1) 46 [.int .i64 y0, .string y1, .int .i64 y2, .int .i64 y3, .int .i64 y4] ∧ Below w.heap.size w w0) ⟨Bk.alloc (Bk.new' rfl) _, Bk.new' (by simp), by (repeat' (first | (with_reducible exact Below.refl _ _) | (with_reducible assumption) | (with_reducible refine balloc ?_ _) | (with_reducible refine bdrew ?_) | (with_reducible refine bdrewN ?_ _) | (with_reducible refine bstep ?_ (by assumption)) | (with_reducible refine bset ?_ ?_ _) | (exact Below.size (by assumption)) | go_size))⟩ ?_
  intro w0 ⟨hX, hY, b0⟩
  obtain ⟨t0, t1, t2, t3, t4, tl⟩ := five_cells hX
  obtain ⟨s0, s1, s2, s3, s4, sl⟩ := five_cells hY
  clear hX hY
  by_cases h3 : x3 = y3
  · subst h3
    have e1 : (x3 != x3) = false := by simp
    by_cases h4 : x4 < y4
    · obtain rfl : v = true := by rw [← hv]; simp; omega
      have e2 : decide (x4 < y4) = true := decide_eq_true h4
      clear hv h4
      go_wp2
      all_goals (go_returns; exact ⟨rfl, b0⟩)
    · have e2 : decide (x4 < y4) = false := decide_eq_false h4
      by_cases h5 : x4 = y4
      · subst h5
        have e3 : (x4 == x4) = true := by simp
        obtain rfl : v = decide (x0 < y0) := by rw [← hv, decide_eq_decide]; omega
        clear hv h4
        go_wp2
        all_goals (go_returns; exact ⟨rfl, b0⟩)
      · have e3 : (x4 == y4) = false := by simp [h5]
        obtain rfl : v = false := by rw [← hv]; simp; omega
        clear hv h4 h5
        go_wp2
        all_goals (go_returns; exact ⟨rfl, b0⟩)
  · have e1 : (x3 != y3) = true := by simp [h3]
    obtain rfl : v = decide (y3 < x3) := by rw [← hv, decide_eq_decide]; omega
    clear hv h3
    go_wp2
    all_goals (go_returns; exact ⟨rfl, b0⟩)
end Go.Proofs.Ytaekngiejehooaa
