/-
  IsSeries of the program and of the reference return one condition on the list. Conditions: lengths within the bound of a slice.
-/
import Derived.Test.YtjffhacoijmgiaaU
namespace Go.Proofs.Ytjffhacoijmgiaa
open Go.RowKit
set_option maxHeartbeats 4000000

noncomputable def seriesB (zs : List SituationT) : Bool := @decide ((∀ k, k < zs.length → okL zs k ∧ okM zs k) ∧ (zs.length : Int) ≤ 12) (Classical.propDecidable _)
theorem seriesB_iff {zs : List SituationT} : seriesB zs = true ↔ (∀ k, k < zs.length → okL zs k ∧ okM zs k) ∧ (zs.length : Int) ≤ 12 := by
  unfold seriesB; exact @decide_eq_true_iff _ (Classical.propDecidable _)
theorem seriesB_false {zs : List SituationT} {k : Nat} (hk : k < zs.length) (h : ¬ (okL zs k ∧ okM zs k)) : seriesB zs = false := by
  rw [Bool.eq_false_iff]
  exact fun x => h ((seriesB_iff.1 x).1 k hk)
theorem seriesB_listed {zs : List SituationT} (h : ∀ k, k < zs.length → okM zs k) : seriesB zs = listedB zs 12 := by
  rw [Bool.eq_iff_iff, seriesB_iff, listedB_iff]
  exact ⟨fun x => ⟨fun k hk => (x.1 k hk).1, x.2⟩, fun x => ⟨fun k hk => ⟨x.1 k hk, h k hk⟩, x.2⟩⟩
theorem seriesB_len {zs : List SituationT} (h : ∀ k, k < zs.length → okL zs k ∧ okM zs k) : seriesB zs = decide ((zs.length : Int) ≤ 12) := by
  rw [Bool.eq_iff_iff, seriesB_iff, decide_eq_true_iff]
  exact ⟨fun x => x.2, fun x => ⟨h, x⟩⟩

theorem l18One_is (v : Bool) {a b c d e f : Int} (h : sitB a b c d e f = v) (w : World) : Calls Try.prog 40 #[.agg #[.int .i64 a, .int .i64 b, .int .i64 c, .int .i64 d, .int .i64 e, .int .i64 f]] w fun r w' => r = .returned (.bool v) ∧ Below w.heap.size w w' := by
  rw [← h]; exact l18One_any a b c d e f w

theorem l18Good_any (A : Option Addr) (n c : Nat) (zs : List SituationT) (w : World) (hr : Rd w 6 A n (sitF zs)) (hl : zs.length = n) (hn : n ≤ 140737488355328) :
    Calls Try.prog 28 #[.slice A n c] w fun e w' => e = .returned (.bool (seriesB zs)) ∧ Below w.heap.size w w' := by
  go_enter Try.func28, Try.ntmps28
  go_wp2
  go_loopw [3] (fun i wr => ∃ k : Nat, k ≤ n ∧ i = .int .i64 k ∧ Hid (∀ j, j < k → okL zs j ∧ okM zs j) ∧ Below w.heap.size w wr) (fun i _ => n - (intOf i).toNat)
  case atStart => exact ⟨0, Nat.zero_le _, rfl, fun j hj => absurd hj (Nat.not_lt_zero _), Below.refl _ _⟩
  case round =>
    obtain ⟨k, hk, rfl, hO, hW⟩ := hrel
    by_cases hlt : k < n
    · have hsz := hW.size
      obtain ⟨b, off, rfl, hbl, x0, x1, x2, x3, x4, x5, hz, c0, c1, c2, c3, c4, c5⟩ := sit_at hr hW hl hlt
      have s1 : b < wr.heap.size := Nat.lt_of_lt_of_le hbl hW.size
      have HZ := Lib.hid hz
      clear hz
      rcases hv : sitB x0 x1 x2 x3 x4 x5 with _ | _
      · go_wp2_with (first | (go_at_call 40; refine (l18One_is false hv _).mono ?_; rintro e w' ⟨rfl, hb⟩; (try clear cW fW zW); (first | (have bW := bstep bW hb) | (have bW := bstep (bdrew bW) hb) | (have bW := bstep (balloc bW _) hb) | (have bW := bstep (bdrewN bW _) hb) | (have bW := hb)); clear hb; obtain ⟨cW, fW⟩ := bcell bW; have zW := bsize bW))
        go_ret
        have hd : seriesB zs = false := seriesB_false (k := k) (by omega) (fun h => by
          have h1 := (h.1 (by omega)).1
          rw [HZ.out] at h1
          simp only [sitP, hv] at h1
          cases h1)
        exact ⟨by rw [hd]; rfl, by (repeat' (first | (with_reducible exact Below.refl _ _) | (with_reducible assumption) | (with_reducible refine balloc ?_ _) | (with_reducible refine bdrew ?_) | (with_reducible refine bdrewN ?_ _) | (with_reducible refine bstep ?_ (by assumption)) | (with_reducible refine bset ?_ ?_ _) | (exact Below.size (by assumption)) | go_size))⟩
      · rcases Nat.eq_zero_or_pos k with h0 | h0
        · have g0 : decide (0 < k) = false := by simp; omega
          have H0 := Lib.hid h0
          clear h0
          go_wp2_with (first | (go_at_call 40; refine (l18One_is true hv _).mono ?_; rintro e w' ⟨rfl, hb⟩; (try clear cW fW zW); (first | (have bW := bstep bW hb) | (have bW := bstep (bdrew bW) hb) | (have bW := bstep (balloc bW _) hb) | (have bW := bstep (bdrewN bW _) hb) | (have bW := hb)); clear hb; obtain ⟨cW, fW⟩ := bcell bW; have zW := bsize bW; have s2 : b < w'.heap.size := zW _ (Nat.lt_of_lt_of_le s1 (by simp))))
          (refine wp_region_bel (by kernel_rfl) (by kernel_rfl) ?_; (repeat (go_big_quiet_step ((first | fail)))); refine wpQuiet_nil ?_; intro w' hw'; have hb := below_of hw'; clear hw'; (try clear cW fW zW); (first | (have bW := bstep bW hb) | (have bW := bstep (bdrew bW) hb) | (have bW := bstep (balloc bW _) hb) | (have bW := bstep (bdrewN bW _) hb) | (have bW := hb)); clear hb; obtain ⟨cW, fW⟩ := bcell bW; have zW := bsize bW)
          go_wp2
          go_roundw
          case rel =>
            refine ⟨k + 1, by omega, by go_num, (show Hid _ from fun j hj => ?_), by (repeat' (first | (with_reducible exact Below.refl _ _) | (with_reducible assumption) | (with_reducible refine balloc ?_ _) | (with_reducible refine bdrew ?_) | (with_reducible refine bdrewN ?_ _) | (with_reducible refine bstep ?_ (by assumption)) | (with_reducible refine bset ?_ ?_ _) | (exact Below.size (by assumption)) | go_size))⟩
            have h1 := H0.out
            have h2 : j = k := by omega
            subst h2
            exact ⟨fun _ => ⟨by rw [HZ.out]; exact hv, fun h => by omega⟩, fun _ h => by omega⟩
          case measure => simp [intOf]; omega
        · obtain ⟨q, rfl⟩ : ∃ q, k = q + 1 := ⟨k - 1, by omega⟩
          obtain ⟨b', off', hbe, hbl', y0, y1, y2, y3, y4, y5, hy, d0, d1, d2, d3, d4, d5⟩ := sit_at (k := q) hr hW hl (by omega)
          simp only [Option.some.injEq, Addr.mk.injEq, and_true] at hbe
          obtain ⟨rfl, rfl⟩ := hbe
          have HY := Lib.hid hy
          clear hy
          have i1 : (q : Int) < (n : Int) := by omega
          by_cases hgood : y0 < x0 ∧ y1 ≤ x1 ∧ y2 ≤ x2 ∧ y5 ≤ x5
          · obtain ⟨p0, p1, p2, p3⟩ := hgood
            have g1 : decide (x0 ≤ y0) = false := by simp; omega
            have g2 : decide (x1 < y1) = false := by simp; omega
            have g3 : decide (x2 < y2) = false := by simp; omega
            have g4 : decide (x5 < y5) = false := by simp; omega
            go_wp2_with (first | (go_at_call 40; refine (l18One_is true hv _).mono ?_; rintro e w' ⟨rfl, hb⟩; (try clear cW fW zW); (first | (have bW := bstep bW hb) | (have bW := bstep (bdrew bW) hb) | (have bW := bstep (balloc bW _) hb) | (have bW := bstep (bdrewN bW _) hb) | (have bW := hb)); clear hb; obtain ⟨cW, fW⟩ := bcell bW; have zW := bsize bW; have s2 : b < w'.heap.size := zW _ (Nat.lt_of_lt_of_le s1 (by simp))))
            (refine wp_region_bel (by kernel_rfl) (by kernel_rfl) ?_; (repeat (go_big_quiet_step ((first | fail)))); refine wpQuiet_nil ?_; intro w' hw'; have hb := below_of hw'; clear hw'; (try clear cW fW zW); (first | (have bW := bstep bW hb) | (have bW := bstep (bdrew bW) hb) | (have bW := bstep (balloc bW _) hb) | (have bW := bstep (bdrewN bW _) hb) | (have bW := hb)); clear hb; obtain ⟨cW, fW⟩ := bcell bW; have zW := bsize bW)
            go_wp2
            go_roundw
            case rel =>
              refine ⟨q + 1 + 1, by omega, by go_num, (show Hid _ from fun j hj => ?_), by (repeat' (first | (with_reducible exact Below.refl _ _) | (with_reducible assumption) | (with_reducible refine balloc ?_ _) | (with_reducible refine bdrew ?_) | (with_reducible refine bdrewN ?_ _) | (with_reducible refine bstep ?_ (by assumption)) | (with_reducible refine bset ?_ ?_ _) | (exact Below.size (by assumption)) | go_size))⟩
              by_cases h2 : j < q + 1
              · exact hO.out j h2
              · have h3 : j = q + 1 := by omega
                subst h3
                have h4 := HY.out
                refine ⟨fun hjl => ⟨by rw [HZ.out]; exact hv, fun _ => ?_⟩, fun hjl _ => ?_⟩
                · simp only [Nat.add_sub_cancel, h4]
                  rw [HZ.out]
                  exact p0
                · simp only [Nat.add_sub_cancel, h4]
                  rw [HZ.out]
                  exact ⟨p1, p2, p3⟩
            case measure => simp [intOf]; omega
          · have hd : seriesB zs = false := seriesB_false (k := q + 1) (by omega) (fun h => by
              have h1 := (h.1 (by omega)).2 (by omega)
              have h3 := h.2 (by omega) (by omega)
              rw [HZ.out] at h1 h3
              have h2 := HY.out
              simp only [Nat.add_sub_cancel, h2] at h1 h3
              exact hgood ⟨h1, h3⟩)
            have HD := Lib.hid hd
            clear hd
            by_cases p0 : x0 ≤ y0
            · have g1 : decide (x0 ≤ y0) = true := by simp [p0]
              clear hgood
              go_wp2_with (first | (go_at_call 40; refine (l18One_is true hv _).mono ?_; rintro e w' ⟨rfl, hb⟩; (try clear cW fW zW); (first | (have bW := bstep bW hb) | (have bW := bstep (bdrew bW) hb) | (have bW := bstep (balloc bW _) hb) | (have bW := bstep (bdrewN bW _) hb) | (have bW := hb)); clear hb; obtain ⟨cW, fW⟩ := bcell bW; have zW := bsize bW; have s2 : b < w'.heap.size := zW _ (Nat.lt_of_lt_of_le s1 (by simp))))
              (refine wp_region_bel (by kernel_rfl) (by kernel_rfl) ?_; (repeat (go_big_quiet_step ((first | fail)))); refine wpQuiet_nil ?_; intro w' hw'; have hb := below_of hw'; clear hw'; (try clear cW fW zW); (first | (have bW := bstep bW hb) | (have bW := bstep (bdrew bW) hb) | (have bW := bstep (balloc bW _) hb) | (have bW := bstep (bdrewN bW _) hb) | (have bW := hb)); clear hb; obtain ⟨cW, fW⟩ := bcell bW; have zW := bsize bW)
              go_wp2
              go_ret
              exact ⟨by rw [HD.out]; rfl, by (repeat' (first | (with_reducible exact Below.refl _ _) | (with_reducible assumption) | (with_reducible refine balloc ?_ _) | (with_reducible refine bdrew ?_) | (with_reducible refine bdrewN ?_ _) | (with_reducible refine bstep ?_ (by assumption)) | (with_reducible refine bset ?_ ?_ _) | (exact Below.size (by assumption)) | go_size))⟩
            · have g1 : decide (x0 ≤ y0) = false := by simp; omega
              by_cases p1 : x1 < y1
              · have g2 : decide (x1 < y1) = true := by simp [p1]
                clear hgood p0
                go_wp2_with (first | (go_at_call 40; refine (l18One_is true hv _).mono ?_; rintro e w' ⟨rfl, hb⟩; (try clear cW fW zW); (first | (have bW := bstep bW hb) | (have bW := bstep (bdrew bW) hb) | (have bW := bstep (balloc bW _) hb) | (have bW := bstep (bdrewN bW _) hb) | (have bW := hb)); clear hb; obtain ⟨cW, fW⟩ := bcell bW; have zW := bsize bW; have s2 : b < w'.heap.size := zW _ (Nat.lt_of_lt_of_le s1 (by simp))))
                (refine wp_region_bel (by kernel_rfl) (by kernel_rfl) ?_; (repeat (go_big_quiet_step ((first | fail)))); refine wpQuiet_nil ?_; intro w' hw'; have hb := below_of hw'; clear hw'; (try clear cW fW zW); (first | (have bW := bstep bW hb) | (have bW := bstep (bdrew bW) hb) | (have bW := bstep (balloc bW _) hb) | (have bW := bstep (bdrewN bW _) hb) | (have bW := hb)); clear hb; obtain ⟨cW, fW⟩ := bcell bW; have zW := bsize bW)
                go_wp2
                go_ret
                exact ⟨by rw [HD.out]; rfl, by (repeat' (first | (with_reducible exact Below.refl _ _) | (with_reducible assumption) | (with_reducible refine balloc ?_ _) | (with_reducible refine bdrew ?_) | (with_reducible refine bdrewN ?_ _) | (with_reducible refine bstep ?_ (by assumption)) | (with_reducible refine bset ?_ ?_ _) | (exact Below.size (by assumption)) | go_size))⟩
              · have g2 : decide (x1 < y1) = false := by simp; omega
                by_cases p2 : x2 < y2
                · have g3 : decide (x2 < y2) = true := by simp [p2]
                  clear hgood p0 p1
                  go_wp2_with (first | (go_at_call 40; refine (l18One_is true hv _).mono ?_; rintro e w' ⟨rfl, hb⟩; (try clear cW fW zW); (first | (have bW := bstep bW hb) | (have bW := bstep (bdrew bW) hb) | (have bW := bstep (balloc bW _) hb) | (have bW := bstep (bdrewN bW _) hb) | (have bW := hb)); clear hb; obtain ⟨cW, fW⟩ := bcell bW; have zW := bsize bW; have s2 : b < w'.heap.size := zW _ (Nat.lt_of_lt_of_le s1 (by simp))))
                  (refine wp_region_bel (by kernel_rfl) (by kernel_rfl) ?_; (repeat (go_big_quiet_step ((first | fail)))); refine wpQuiet_nil ?_; intro w' hw'; have hb := below_of hw'; clear hw'; (try clear cW fW zW); (first | (have bW := bstep bW hb) | (have bW := bstep (bdrew bW) hb) | (have bW := bstep (balloc bW _) hb) | (have bW := bstep (bdrewN bW _) hb) | (have bW := hb)); clear hb; obtain ⟨cW, fW⟩ := bcell bW; have zW := bsize bW)
                  go_wp2
                  go_ret
                  exact ⟨by rw [HD.out]; rfl, by (repeat' (first | (with_reducible exact Below.refl _ _) | (with_reducible assumption) | (with_reducible refine balloc ?_ _) | (with_reducible refine bdrew ?_) | (with_reducible refine bdrewN ?_ _) | (with_reducible refine bstep ?_ (by assumption)) | (with_reducible refine bset ?_ ?_ _) | (exact Below.size (by assumption)) | go_size))⟩
                · have g3 : decide (x2 < y2) = false := by simp; omega
                  have g4 : decide (x5 < y5) = true := by simp; omega
                  clear hgood p0 p1 p2
                  go_wp2_with (first | (go_at_call 40; refine (l18One_is true hv _).mono ?_; rintro e w' ⟨rfl, hb⟩; (try clear cW fW zW); (first | (have bW := bstep bW hb) | (have bW := bstep (bdrew bW) hb) | (have bW := bstep (balloc bW _) hb) | (have bW := bstep (bdrewN bW _) hb) | (have bW := hb)); clear hb; obtain ⟨cW, fW⟩ := bcell bW; have zW := bsize bW; have s2 : b < w'.heap.size := zW _ (Nat.lt_of_lt_of_le s1 (by simp))))
                  (refine wp_region_bel (by kernel_rfl) (by kernel_rfl) ?_; (repeat (go_big_quiet_step ((first | fail)))); refine wpQuiet_nil ?_; intro w' hw'; have hb := below_of hw'; clear hw'; (try clear cW fW zW); (first | (have bW := bstep bW hb) | (have bW := bstep (bdrew bW) hb) | (have bW := bstep (balloc bW _) hb) | (have bW := bstep (bdrewN bW _) hb) | (have bW := hb)); clear hb; obtain ⟨cW, fW⟩ := bcell bW; have zW := bsize bW)
                  go_wp2
                  go_ret
                  exact ⟨by rw [HD.out]; rfl, by (repeat' (first | (with_reducible exact Below.refl _ _) | (with_reducible assumption) | (with_reducible refine balloc ?_ _) | (with_reducible refine bdrew ?_) | (with_reducible refine bdrewN ?_ _) | (with_reducible refine bstep ?_ (by assumption)) | (with_reducible refine bset ?_ ?_ _) | (exact Below.size (by assumption)) | go_size))⟩
    · go_wp2
      go_ret
      have e : k = n := by omega
      subst e
      have hd : seriesB zs = decide ((k : Int) ≤ 12) := by rw [seriesB_len (by rw [hl]; exact hO.out), hl]
      exact ⟨by rw [hd]; rfl, hW⟩
end Go.Proofs.Ytjffhacoijmgiaa
