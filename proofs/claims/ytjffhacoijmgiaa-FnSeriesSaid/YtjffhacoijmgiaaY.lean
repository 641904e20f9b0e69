/-
  FastestGrowth and GrowthBetween of the program and of the reference return one plain function of the list. Conditions: lengths within the bound of a slice.
-/
import Derived.Test.YtjffhacoijmgiaaX
namespace Go.Proofs.Ytjffhacoijmgiaa
open Go.RowKit
set_option maxHeartbeats 4000000

def sit0 : SituationT := (0, 0, 0, 0, 0, 0)
def tickOf (zs : List SituationT) (k : Nat) : Int := (zs.getD k sit0).2.1
def hectOf (zs : List SituationT) (k : Nat) : Int := (zs.getD k sit0).2.2.1
def numOf (zs : List SituationT) (k : Nat) : Int := (zs.getD k sit0).1
theorem getD_of {zs : List SituationT} {k : Nat} {a : SituationT} (hk : k < zs.length) (h : zs[k] = a) : zs.getD k sit0 = a := by
  rw [List.getD_eq_getElem?_getD, List.getElem?_eq_getElem hk, h]; rfl
theorem hect_bd {zs : List SituationT} (h : seriesB zs = true) {k : Nat} (hk : k < zs.length) : 0 ≤ hectOf zs k ∧ hectOf zs k ≤ 999999 := by
  have h1 := ((seriesB_iff.1 h).1 k hk).1 hk
  have h2 := h1.1
  unfold hectOf
  rw [getD_of hk rfl]
  simp only [sitP, sitB, inB, Bool.and_eq_true, decide_eq_true_eq] at h2
  omega

/-- number and growth of the report with the greatest growth among the first k -/
def fast (zs : List SituationT) : Nat → Int × Int
  | 0 => (0, -1)
  | 1 => (0, -1)
  | k + 2 => if (fast zs (k + 1)).2 < hectOf zs (k + 1) - hectOf zs k then (numOf zs (k + 1), hectOf zs (k + 1) - hectOf zs k) else fast zs (k + 1)
theorem fast_step (zs : List SituationT) (q : Nat) : fast zs (q + 2) = if (fast zs (q + 1)).2 < hectOf zs (q + 1) - hectOf zs q then (numOf zs (q + 1), hectOf zs (q + 1) - hectOf zs q) else fast zs (q + 1) := rfl
theorem fast_bd {zs : List SituationT} (h : seriesB zs = true) : ∀ k, k ≤ zs.length → -1 ≤ (fast zs k).2 ∧ (fast zs k).2 ≤ 999999
  | 0, _ => by simp [fast]
  | 1, _ => by simp [fast]
  | k + 2, hk => by
    rw [fast_step]
    have h1 := hect_bd h (k := k + 1) (by omega)
    have h2 := hect_bd h (k := k) (by omega)
    have h3 := fast_bd h (k + 1) (by omega)
    split
    · simp only; omega
    · exact h3
noncomputable def fastN (zs : List SituationT) : Int := if seriesB zs = true ∧ 2 ≤ zs.length then (fast zs zs.length).1 else 0
noncomputable def fastB (zs : List SituationT) : Bool := seriesB zs && decide (2 ≤ zs.length)
theorem IsSeries_is (v : Bool) {A : Option Addr} {n c : Nat} {zs : List SituationT} (h : seriesB zs = v) (w : World) (hr : Rd w 6 A n (sitF zs)) (hl : zs.length = n) (hn : n ≤ 140737488355328) :
    Calls Try.prog 9 #[.slice A n c] w fun e w' => e = .returned (.bool v) ∧ Below w.heap.size w w' := by rw [← h]; exact IsSeries_any A n c zs w hr hl hn
theorem l18Good_is (v : Bool) {A : Option Addr} {n c : Nat} {zs : List SituationT} (h : seriesB zs = v) (w : World) (hr : Rd w 6 A n (sitF zs)) (hl : zs.length = n) (hn : n ≤ 140737488355328) :
    Calls Try.prog 28 #[.slice A n c] w fun e w' => e = .returned (.bool v) ∧ Below w.heap.size w w' := by rw [← h]; exact l18Good_any A n c zs w hr hl hn

theorem FastestGrowth_any (A : Option Addr) (n c : Nat) (zs : List SituationT) (w : World) (hr : Rd w 6 A n (sitF zs)) (hl : zs.length = n) (hn : n ≤ 140737488355328) :
    Calls Try.prog 21 #[.slice A n c] w fun e w' => e = .returned (.tuple #[.int .i64 (fastN zs), .bool (fastB zs)]) ∧ Below w.heap.size w w' := by
  rcases hv : seriesB zs with _ | _
  · have h1 : fastN zs = 0 := by simp [fastN, hv]
    have h2 : fastB zs = false := by simp [fastB, hv]
    rw [h1, h2]
    clear h1 h2
    go_enter Try.func21, Try.ntmps21
    go_wp2_with (first | (go_at_call 9; refine (IsSeries_is false hv _ hr hl hn).mono ?_; rintro e w' ⟨rfl, hb⟩; (try clear cW fW zW); (first | (have bW := bstep bW hb) | (have bW := bstep (bdrew bW) hb) | (have bW := bstep (balloc bW _) hb) | (have bW := bstep (bdrewN bW _) hb) | (have bW := hb)); clear hb; obtain ⟨cW, fW⟩ := bcell bW; have zW := bsize bW))
    go_returns
    exact ⟨rfl, by (repeat' (first | (with_reducible exact Below.refl _ _) | (with_reducible assumption) | (with_reducible refine balloc ?_ _) | (with_reducible refine bdrew ?_) | (with_reducible refine bdrewN ?_ _) | (with_reducible refine bstep ?_ (by assumption)) | (with_reducible refine bset ?_ ?_ _) | (exact Below.size (by assumption)) | go_size))⟩
  · by_cases h2 : 2 ≤ n
    · have h1 : fastN zs = (fast zs n).1 := by simp [fastN, hv, hl, h2]
      have h3 : fastB zs = true := by simp [fastB, hv, hl, h2]
      rw [h1, h3]
      clear h1 h3
      go_enter Try.func21, Try.ntmps21
      go_wp2_with (first | (go_at_call 9; refine (IsSeries_is true hv _ hr hl hn).mono ?_; rintro e w' ⟨rfl, hb⟩; (try clear cW fW zW); (first | (have bW := bstep bW hb) | (have bW := bstep (bdrew bW) hb) | (have bW := bstep (balloc bW _) hb) | (have bW := bstep (bdrewN bW _) hb) | (have bW := hb)); clear hb; obtain ⟨cW, fW⟩ := bcell bW; have zW := bsize bW))
      have hB := fast_bd hv
      have hH := fun k hk => hect_bd (k := k) hv hk
      clear hv
      go_loopw [4, 5, 6] (fun a m i wr => ∃ k : Nat, 1 ≤ k ∧ k ≤ n ∧ i = .int .i64 k ∧ a = .int .i64 (fast zs k).1 ∧ m = .int .i64 (fast zs k).2 ∧ Below w.heap.size w wr) (fun _ _ i _ => n - (intOf i).toNat)
      case atStart => exact ⟨1, Nat.le_refl _, by omega, rfl, rfl, rfl, by (repeat' (first | (with_reducible exact Below.refl _ _) | (with_reducible assumption) | (with_reducible refine balloc ?_ _) | (with_reducible refine bdrew ?_) | (with_reducible refine bdrewN ?_ _) | (with_reducible refine bstep ?_ (by assumption)) | (with_reducible refine bset ?_ ?_ _) | (exact Below.size (by assumption)) | go_size))⟩
      case round =>
        obtain ⟨k, hk1, hk, rfl, rfl, rfl, hW⟩ := hrel
        by_cases hlt : k < n
        · have hsz := hW.size
          obtain ⟨b, off, rfl, hbl, x0, x1, x2, x3, x4, x5, hz, c0, c1, c2, c3, c4, c5⟩ := sit_at hr hW hl hlt
          have s1 : b < wr.heap.size := Nat.lt_of_lt_of_le hbl hW.size
          obtain ⟨q, rfl⟩ : ∃ q, k = q + 1 := ⟨k - 1, by omega⟩
          obtain ⟨b', off', hbe, hbl', y0, y1, y2, y3, y4, y5, hy, d0, d1, d2, d3, d4, d5⟩ := sit_at (k := q) hr hW hl (by omega)
          simp only [Option.some.injEq, Addr.mk.injEq, and_true] at hbe
          obtain ⟨rfl, rfl⟩ := hbe
          have e1 : hectOf zs (q + 1) = x2 := by unfold hectOf; rw [getD_of (by omega) hz]
          have e2 : hectOf zs q = y2 := by unfold hectOf; rw [getD_of (by omega) hy]
          have e3 : numOf zs (q + 1) = x0 := by unfold numOf; rw [getD_of (by omega) hz]
          have hs := fast_step zs q
          rw [e1, e2, e3] at hs
          have v1 := hH (q + 1) (by omega)
          have v2 := hH q (by omega)
          rw [e1] at v1
          rw [e2] at v2
          have v3 := hB (q + 1) (by omega)
          clear hz hy e1 e2 e3 hB hH
          rcases hf : fast zs (q + 1) with ⟨f1, f2⟩
          rw [hf] at hs v3
          simp only at hs v3
          have HS := Lib.hid hs
          clear hs hf
          have i1 : (q : Int) < (n : Int) := by omega
          have i2 : IntKind.i64.wrap (x2 - y2) = x2 - y2 := IntWalk.i64_in _ (by omega)
          by_cases hgt : f2 < x2 - y2
          · go_wp2
            (refine wp_region_bel (by kernel_rfl) (by kernel_rfl) ?_; (repeat (go_big_quiet_step ((first | fail)))); refine wpQuiet_nil ?_; intro w' hw'; have hb := below_of hw'; clear hw'; (try clear cW fW zW); (first | (have bW := bstep bW hb) | (have bW := bstep (bdrew bW) hb) | (have bW := bstep (balloc bW _) hb) | (have bW := bstep (bdrewN bW _) hb) | (have bW := hb)); clear hb; obtain ⟨cW, fW⟩ := bcell bW; have zW := bsize bW)
            clear i2
            go_wp2
            go_roundw
            case rel =>
              have h := HS.out
              rw [if_pos hgt] at h
              exact ⟨q + 1 + 1, by omega, by omega, by go_num, by rw [h], by rw [h], by (repeat' (first | (with_reducible exact Below.refl _ _) | (with_reducible assumption) | (with_reducible refine balloc ?_ _) | (with_reducible refine bdrew ?_) | (with_reducible refine bdrewN ?_ _) | (with_reducible refine bstep ?_ (by assumption)) | (with_reducible refine bset ?_ ?_ _) | (exact Below.size (by assumption)) | go_size))⟩
            case measure => simp [intOf]; omega
          · go_wp2
            (refine wp_region_bel (by kernel_rfl) (by kernel_rfl) ?_; (repeat (go_big_quiet_step ((first | fail)))); refine wpQuiet_nil ?_; intro w' hw'; have hb := below_of hw'; clear hw'; (try clear cW fW zW); (first | (have bW := bstep bW hb) | (have bW := bstep (bdrew bW) hb) | (have bW := bstep (balloc bW _) hb) | (have bW := bstep (bdrewN bW _) hb) | (have bW := hb)); clear hb; obtain ⟨cW, fW⟩ := bcell bW; have zW := bsize bW)
            clear i2
            go_wp2
            go_roundw
            case rel =>
              have h := HS.out
              rw [if_neg (by omega)] at h
              exact ⟨q + 1 + 1, by omega, by omega, by go_num, by rw [h], by rw [h], by (repeat' (first | (with_reducible exact Below.refl _ _) | (with_reducible assumption) | (with_reducible refine balloc ?_ _) | (with_reducible refine bdrew ?_) | (with_reducible refine bdrewN ?_ _) | (with_reducible refine bstep ?_ (by assumption)) | (with_reducible refine bset ?_ ?_ _) | (exact Below.size (by assumption)) | go_size))⟩
            case measure => simp [intOf]; omega
        · have e : k = n := by omega
          subst e
          go_wp2
          go_returns
          exact ⟨rfl, by (repeat' (first | (with_reducible exact Below.refl _ _) | (with_reducible assumption) | (with_reducible refine balloc ?_ _) | (with_reducible refine bdrew ?_) | (with_reducible refine bdrewN ?_ _) | (with_reducible refine bstep ?_ (by assumption)) | (with_reducible refine bset ?_ ?_ _) | (exact Below.size (by assumption)) | go_size))⟩
    · have h1 : fastN zs = 0 := by simp [fastN, hv, hl]; omega
      have h3 : fastB zs = false := by simp [fastB, hl]; omega
      rw [h1, h3]
      clear h1 h3
      go_enter Try.func21, Try.ntmps21
      go_wp2_with (first | (go_at_call 9; refine (IsSeries_is true hv _ hr hl hn).mono ?_; rintro e w' ⟨rfl, hb⟩; (try clear cW fW zW); (first | (have bW := bstep bW hb) | (have bW := bstep (bdrew bW) hb) | (have bW := bstep (balloc bW _) hb) | (have bW := bstep (bdrewN bW _) hb) | (have bW := hb)); clear hb; obtain ⟨cW, fW⟩ := bcell bW; have zW := bsize bW))
      go_returns
      exact ⟨rfl, by (repeat' (first | (with_reducible exact Below.refl _ _) | (with_reducible assumption) | (with_reducible refine balloc ?_ _) | (with_reducible refine bdrew ?_) | (with_reducible refine bdrewN ?_ _) | (with_reducible refine bstep ?_ (by assumption)) | (with_reducible refine bset ?_ ?_ _) | (exact Below.size (by assumption)) | go_size))⟩
theorem sFastestGrowth_any (A : Option Addr) (n c : Nat) (zs : List SituationT) (w : World) (hr : Rd w 6 A n (sitF zs)) (hl : zs.length = n) (hn : n ≤ 140737488355328) :
    Calls Try.prog 22 #[.slice A n c] w fun e w' => e = .returned (.tuple #[.int .i64 (fastN zs), .bool (fastB zs)]) ∧ Below w.heap.size w w' := by
  rcases hv : seriesB zs with _ | _
  · have h1 : fastN zs = 0 := by simp [fastN, hv]
    have h2 : fastB zs = false := by simp [fastB, hv]
    rw [h1, h2]
    clear h1 h2
    go_enter Try.func22, Try.ntmps22
    go_wp2_with (first | (go_at_call 28; refine (l18Good_is false hv _ hr hl hn).mono ?_; rintro e w' ⟨rfl, hb⟩; (try clear cW fW zW); (first | (have bW := bstep bW hb) | (have bW := bstep (bdrew bW) hb) | (have bW := bstep (balloc bW _) hb) | (have bW := bstep (bdrewN bW _) hb) | (have bW := hb)); clear hb; obtain ⟨cW, fW⟩ := bcell bW; have zW := bsize bW))
    go_returns
    exact ⟨rfl, by (repeat' (first | (with_reducible exact Below.refl _ _) | (with_reducible assumption) | (with_reducible refine balloc ?_ _) | (with_reducible refine bdrew ?_) | (with_reducible refine bdrewN ?_ _) | (with_reducible refine bstep ?_ (by assumption)) | (with_reducible refine bset ?_ ?_ _) | (exact Below.size (by assumption)) | go_size))⟩
  · by_cases h2 : 2 ≤ n
    · have h1 : fastN zs = (fast zs n).1 := by simp [fastN, hv, hl, h2]
      have h3 : fastB zs = true := by simp [fastB, hv, hl, h2]
      rw [h1, h3]
      clear h1 h3
      go_enter Try.func22, Try.ntmps22
      go_wp2_with (first | (go_at_call 28; refine (l18Good_is true hv _ hr hl hn).mono ?_; rintro e w' ⟨rfl, hb⟩; (try clear cW fW zW); (first | (have bW := bstep bW hb) | (have bW := bstep (bdrew bW) hb) | (have bW := bstep (balloc bW _) hb) | (have bW := bstep (bdrewN bW _) hb) | (have bW := hb)); clear hb; obtain ⟨cW, fW⟩ := bcell bW; have zW := bsize bW))
      have hB := fast_bd hv
      have hH := fun k hk => hect_bd (k := k) hv hk
      clear hv
      go_loopw [4, 5, 6] (fun a m i wr => ∃ k : Nat, 1 ≤ k ∧ k ≤ n ∧ i = .int .i64 k ∧ a = .int .i64 (fast zs k).1 ∧ m = .int .i64 (fast zs k).2 ∧ Below w.heap.size w wr) (fun _ _ i _ => n - (intOf i).toNat)
      case atStart => exact ⟨1, Nat.le_refl _, by omega, rfl, rfl, rfl, by (repeat' (first | (with_reducible exact Below.refl _ _) | (with_reducible assumption) | (with_reducible refine balloc ?_ _) | (with_reducible refine bdrew ?_) | (with_reducible refine bdrewN ?_ _) | (with_reducible refine bstep ?_ (by assumption)) | (with_reducible refine bset ?_ ?_ _) | (exact Below.size (by assumption)) | go_size))⟩
      case round =>
        obtain ⟨k, hk1, hk, rfl, rfl, rfl, hW⟩ := hrel
        by_cases hlt : k < n
        · have hsz := hW.size
          obtain ⟨b, off, rfl, hbl, x0, x1, x2, x3, x4, x5, hz, c0, c1, c2, c3, c4, c5⟩ := sit_at hr hW hl hlt
          have s1 : b < wr.heap.size := Nat.lt_of_lt_of_le hbl hW.size
          obtain ⟨q, rfl⟩ : ∃ q, k = q + 1 := ⟨k - 1, by omega⟩
          obtain ⟨b', off', hbe, hbl', y0, y1, y2, y3, y4, y5, hy, d0, d1, d2, d3, d4, d5⟩ := sit_at (k := q) hr hW hl (by omega)
          simp only [Option.some.injEq, Addr.mk.injEq, and_true] at hbe
          obtain ⟨rfl, rfl⟩ := hbe
          have e1 : hectOf zs (q + 1) = x2 := by unfold hectOf; rw [getD_of (by omega) hz]
          have e2 : hectOf zs q = y2 := by unfold hectOf; rw [getD_of (by omega) hy]
          have e3 : numOf zs (q + 1) = x0 := by unfold numOf; rw [getD_of (by omega) hz]
          have hs := fast_step zs q
          rw [e1, e2, e3] at hs
          have v1 := hH (q + 1) (by omega)
          have v2 := hH q (by omega)
          rw [e1] at v1
          rw [e2] at v2
          have v3 := hB (q + 1) (by omega)
          clear hz hy e1 e2 e3 hB hH
          rcases hf : fast zs (q + 1) with ⟨f1, f2⟩
          rw [hf] at hs v3
          simp only at hs v3
          have HS := Lib.hid hs
          clear hs hf
          have i1 : (q : Int) < (n : Int) := by omega
          have i2 : IntKind.i64.wrap (x2 - y2) = x2 - y2 := IntWalk.i64_in _ (by omega)
          by_cases hgt : f2 < x2 - y2
          · go_wp2
            (refine wp_region_bel (by kernel_rfl) (by kernel_rfl) ?_; (repeat (go_big_quiet_step ((first | fail)))); refine wpQuiet_nil ?_; intro w' hw'; have hb := below_of hw'; clear hw'; (try clear cW fW zW); (first | (have bW := bstep bW hb) | (have bW := bstep (bdrew bW) hb) | (have bW := bstep (balloc bW _) hb) | (have bW := bstep (bdrewN bW _) hb) | (have bW := hb)); clear hb; obtain ⟨cW, fW⟩ := bcell bW; have zW := bsize bW)
            clear i2
            go_wp2
            go_roundw
            case rel =>
              have h := HS.out
              rw [if_pos hgt] at h
              exact ⟨q + 1 + 1, by omega, by omega, by go_num, by rw [h], by rw [h], by (repeat' (first | (with_reducible exact Below.refl _ _) | (with_reducible assumption) | (with_reducible refine balloc ?_ _) | (with_reducible refine bdrew ?_) | (with_reducible refine bdrewN ?_ _) | (with_reducible refine bstep ?_ (by assumption)) | (with_reducible refine bset ?_ ?_ _) | (exact Below.size (by assumption)) | go_size))⟩
            case measure => simp [intOf]; omega
          · go_wp2
            (refine wp_region_bel (by kernel_rfl) (by kernel_rfl) ?_; (repeat (go_big_quiet_step ((first | fail)))); refine wpQuiet_nil ?_; intro w' hw'; have hb := below_of hw'; clear hw'; (try clear cW fW zW); (first | (have bW := bstep bW hb) | (have bW := bstep (bdrew bW) hb) | (have bW := bstep (balloc bW _) hb) | (have bW := bstep (bdrewN bW _) hb) | (have bW := hb)); clear hb; obtain ⟨cW, fW⟩ := bcell bW; have zW := bsize bW)
            clear i2
            go_wp2
            go_roundw
            case rel =>
              have h := HS.out
              rw [if_neg (by omega)] at h
              exact ⟨q + 1 + 1, by omega, by omega, by go_num, by rw [h], by rw [h], by (repeat' (first | (with_reducible exact Below.refl _ _) | (with_reducible assumption) | (with_reducible refine balloc ?_ _) | (with_reducible refine bdrew ?_) | (with_reducible refine bdrewN ?_ _) | (with_reducible refine bstep ?_ (by assumption)) | (with_reducible refine bset ?_ ?_ _) | (exact Below.size (by assumption)) | go_size))⟩
            case measure => simp [intOf]; omega
        · have e : k = n := by omega
          subst e
          go_wp2
          go_returns
          exact ⟨rfl, by (repeat' (first | (with_reducible exact Below.refl _ _) | (with_reducible assumption) | (with_reducible refine balloc ?_ _) | (with_reducible refine bdrew ?_) | (with_reducible refine bdrewN ?_ _) | (with_reducible refine bstep ?_ (by assumption)) | (with_reducible refine bset ?_ ?_ _) | (exact Below.size (by assumption)) | go_size))⟩
    · have h1 : fastN zs = 0 := by simp [fastN, hv, hl]; omega
      have h3 : fastB zs = false := by simp [fastB, hl]; omega
      rw [h1, h3]
      clear h1 h3
      go_enter Try.func22, Try.ntmps22
      go_wp2_with (first | (go_at_call 28; refine (l18Good_is true hv _ hr hl hn).mono ?_; rintro e w' ⟨rfl, hb⟩; (try clear cW fW zW); (first | (have bW := bstep bW hb) | (have bW := bstep (bdrew bW) hb) | (have bW := bstep (balloc bW _) hb) | (have bW := bstep (bdrewN bW _) hb) | (have bW := hb)); clear hb; obtain ⟨cW, fW⟩ := bcell bW; have zW := bsize bW))
      go_returns
      exact ⟨rfl, by (repeat' (first | (with_reducible exact Below.refl _ _) | (with_reducible assumption) | (with_reducible refine balloc ?_ _) | (with_reducible refine bdrew ?_) | (with_reducible refine bdrewN ?_ _) | (with_reducible refine bstep ?_ (by assumption)) | (with_reducible refine bset ?_ ?_ _) | (exact Below.size (by assumption)) | go_size))⟩

/-- hectares of the last of the first k reports up to a tick -/
def lastH (zs : List SituationT) (t : Int) : Nat → Int
  | 0 => 0
  | k + 1 => if tickOf zs k ≤ t then hectOf zs k else lastH zs t k
/-- how many of the first k reports are up to a tick -/
def cntL (zs : List SituationT) (t : Int) : Nat → Int
  | 0 => 0
  | k + 1 => if tickOf zs k ≤ t then cntL zs t k + 1 else cntL zs t k
theorem lastH_step (zs : List SituationT) (t : Int) (k : Nat) : lastH zs t (k + 1) = if tickOf zs k ≤ t then hectOf zs k else lastH zs t k := rfl
theorem cntL_step (zs : List SituationT) (t : Int) (k : Nat) : cntL zs t (k + 1) = if tickOf zs k ≤ t then cntL zs t k + 1 else cntL zs t k := rfl
theorem lastH_bd {zs : List SituationT} (h : seriesB zs = true) (t : Int) : ∀ k, k ≤ zs.length → 0 ≤ lastH zs t k ∧ lastH zs t k ≤ 999999
  | 0, _ => by simp [lastH]
  | k + 1, hk => by
    have h1 := hect_bd h (k := k) (by omega)
    have h2 := lastH_bd h t k (by omega)
    rw [lastH_step]
    split <;> omega
theorem cntL_bd (zs : List SituationT) (t : Int) : ∀ k : Nat, 0 ≤ cntL zs t k ∧ cntL zs t k ≤ (k : Int)
  | 0 => by simp [cntL]
  | k + 1 => by
    have h2 := cntL_bd zs t k
    rw [cntL_step]
    split <;> omega
theorem cntL_le (zs : List SituationT) {f t : Int} (h : f ≤ t) : ∀ k : Nat, cntL zs f k ≤ cntL zs t k
  | 0 => by simp [cntL]
  | k + 1 => by
    have h2 := cntL_le zs h k
    rw [cntL_step, cntL_step]
    split <;> split <;> omega
theorem l18Last_any (A : Option Addr) (n c : Nat) (zs : List SituationT) (t : Int) (w : World) (hr : Rd w 6 A n (sitF zs)) (hl : zs.length = n) (hn : n ≤ 140737488355328) :
    Calls Try.prog 34 #[.slice A n c, .int .i64 t] w fun e w' => e = .returned (.tuple #[.int .i64 (lastH zs t n), .int .i64 (cntL zs t n)]) ∧ Below w.heap.size w w' := by
  go_enter Try.func34, Try.ntmps34
  go_wp2
  go_loopw [6, 7, 8] (fun a m i wr => ∃ k : Nat, k ≤ n ∧ i = .int .i64 k ∧ a = .int .i64 (lastH zs t k) ∧ m = .int .i64 (cntL zs t k) ∧ Below w.heap.size w wr) (fun _ _ i _ => n - (intOf i).toNat)
  case atStart => exact ⟨0, Nat.zero_le _, rfl, rfl, rfl, Below.refl _ _⟩
  case round =>
    obtain ⟨k, hk, rfl, rfl, rfl, hW⟩ := hrel
    by_cases hlt : k < n
    · have hsz := hW.size
      obtain ⟨b, off, rfl, hbl, x0, x1, x2, x3, x4, x5, hz, c0, c1, c2, c3, c4, c5⟩ := sit_at hr hW hl hlt
      have e1 : tickOf zs k = x1 := by unfold tickOf; rw [getD_of (by omega) hz]
      have e2 : hectOf zs k = x2 := by unfold hectOf; rw [getD_of (by omega) hz]
      have v1 := cntL_bd zs t k
      have hs1 := lastH_step zs t k
      have hs2 := cntL_step zs t k
      rw [e1, e2] at hs1
      rw [e1] at hs2
      have HS1 := Lib.hid hs1
      have HS2 := Lib.hid hs2
      clear hz e1 e2 hs1 hs2
      generalize lastH zs t k = f1 at *
      generalize cntL zs t k = f2 at *
      by_cases hle : x1 ≤ t
      · go_wp2
        go_roundw
        case rel => exact ⟨k + 1, by omega, by go_num, by rw [HS1.out, if_pos hle], by rw [HS2.out, if_pos hle], by (repeat' (first | (with_reducible exact Below.refl _ _) | (with_reducible assumption) | (with_reducible refine balloc ?_ _) | (with_reducible refine bdrew ?_) | (with_reducible refine bdrewN ?_ _) | (with_reducible refine bstep ?_ (by assumption)) | (with_reducible refine bset ?_ ?_ _) | (exact Below.size (by assumption)) | go_size))⟩
        case measure => simp [intOf]; omega
      · go_wp2
        go_roundw
        case rel => exact ⟨k + 1, by omega, by go_num, by rw [HS1.out, if_neg (by omega)], by rw [HS2.out, if_neg (by omega)], by (repeat' (first | (with_reducible exact Below.refl _ _) | (with_reducible assumption) | (with_reducible refine balloc ?_ _) | (with_reducible refine bdrew ?_) | (with_reducible refine bdrewN ?_ _) | (with_reducible refine bstep ?_ (by assumption)) | (with_reducible refine bset ?_ ?_ _) | (exact Below.size (by assumption)) | go_size))⟩
        case measure => simp [intOf]; omega
    · have e : k = n := by omega
      subst e
      go_wp2
      go_returns
      exact ⟨rfl, hW⟩
noncomputable def gbB (zs : List SituationT) (f t : Int) : Bool := seriesB zs && inB f 0 9999 && inB t 0 9999 && decide (f ≤ t)
noncomputable def gbH (zs : List SituationT) (f t : Int) : Int := if gbB zs f t = true then lastH zs t zs.length - lastH zs f zs.length else 0
noncomputable def gbC (zs : List SituationT) (f t : Int) : Int := if gbB zs f t = true then cntL zs t zs.length - cntL zs f zs.length else 0
theorem gb_no {zs : List SituationT} {f t : Int} (h : gbB zs f t = false) : gbH zs f t = 0 ∧ gbC zs f t = 0 := by simp [gbH, gbC, h]
theorem isTick_is (v : Bool) {n : Int} (h : inB n 0 9999 = v) (w : World) : Calls Try.prog 32 #[.int .i64 n] w fun e w' => e = .returned (.bool v) ∧ w = w' := by rw [← h]; exact isTick_any n w
theorem l4Tick_is (v : Bool) {n : Int} (h : inB n 0 9999 = v) (w : World) : Calls Try.prog 33 #[.int .i64 n] w fun e w' => e = .returned (.bool v) ∧ w = w' := by rw [← h]; exact l4Tick_any n w
theorem sGrowthBetween_any (A : Option Addr) (n c : Nat) (zs : List SituationT) (f t : Int) (w : World) (hr : Rd w 6 A n (sitF zs)) (hl : zs.length = n) (hn : n ≤ 140737488355328) :
    Calls Try.prog 12 #[.slice A n c, .int .i64 f, .int .i64 t] w fun e w' => e = .returned (.tuple #[.int .i64 (gbH zs f t), .int .i64 (gbC zs f t), .bool (gbB zs f t)]) ∧ Below w.heap.size w w' := by
  rcases hv : seriesB zs with _ | _
  · have hg : gbB zs f t = false := by simp [gbB, hv]
    obtain ⟨q1, q2⟩ := gb_no hg
    rw [q1, q2, hg]
    clear q1 q2 hg
    go_enter Try.func12, Try.ntmps12
    go_wp2_with (first | (go_at_call 28; refine (l18Good_is false hv _ hr hl hn).mono ?_; rintro e w' ⟨rfl, hb⟩; (try clear cW fW zW); (first | (have bW := bstep bW hb) | (have bW := bstep (bdrew bW) hb) | (have bW := bstep (balloc bW _) hb) | (have bW := bstep (bdrewN bW _) hb) | (have bW := hb)); clear hb; obtain ⟨cW, fW⟩ := bcell bW; have zW := bsize bW))
    go_returns
    exact ⟨rfl, by (repeat' (first | (with_reducible exact Below.refl _ _) | (with_reducible assumption) | (with_reducible refine balloc ?_ _) | (with_reducible refine bdrew ?_) | (with_reducible refine bdrewN ?_ _) | (with_reducible refine bstep ?_ (by assumption)) | (with_reducible refine bset ?_ ?_ _) | (exact Below.size (by assumption)) | go_size))⟩
  · rcases hf : inB f 0 9999 with _ | _
    · have hg : gbB zs f t = false := by simp [gbB, hf]
      obtain ⟨q1, q2⟩ := gb_no hg
      rw [q1, q2, hg]
      clear q1 q2 hg
      go_enter Try.func12, Try.ntmps12
      go_wp2_with (first | (go_at_call 28; refine (l18Good_is true hv _ hr hl hn).mono ?_; rintro e w' ⟨rfl, hb⟩; (try clear cW fW zW); (first | (have bW := bstep bW hb) | (have bW := bstep (bdrew bW) hb) | (have bW := bstep (balloc bW _) hb) | (have bW := bstep (bdrewN bW _) hb) | (have bW := hb)); clear hb; obtain ⟨cW, fW⟩ := bcell bW; have zW := bsize bW) | (go_at_call 33; refine (l4Tick_is false hf _).mono ?_; rintro e w' ⟨rfl, rfl⟩))
      go_returns
      exact ⟨rfl, by (repeat' (first | (with_reducible exact Below.refl _ _) | (with_reducible assumption) | (with_reducible refine balloc ?_ _) | (with_reducible refine bdrew ?_) | (with_reducible refine bdrewN ?_ _) | (with_reducible refine bstep ?_ (by assumption)) | (with_reducible refine bset ?_ ?_ _) | (exact Below.size (by assumption)) | go_size))⟩
    · rcases ht : inB t 0 9999 with _ | _
      · have hg : gbB zs f t = false := by simp [gbB, ht]
        obtain ⟨q1, q2⟩ := gb_no hg
        rw [q1, q2, hg]
        clear q1 q2 hg
        go_enter Try.func12, Try.ntmps12
        go_wp2_with (first | (go_at_call 28; refine (l18Good_is true hv _ hr hl hn).mono ?_; rintro e w' ⟨rfl, hb⟩; (try clear cW fW zW); (first | (have bW := bstep bW hb) | (have bW := bstep (bdrew bW) hb) | (have bW := bstep (balloc bW _) hb) | (have bW := bstep (bdrewN bW _) hb) | (have bW := hb)); clear hb; obtain ⟨cW, fW⟩ := bcell bW; have zW := bsize bW) | (go_at_call 33; first | (refine (l4Tick_is true hf _).mono ?_; rintro e w' ⟨rfl, rfl⟩) | (refine (l4Tick_is false ht _).mono ?_; rintro e w' ⟨rfl, rfl⟩)))
        go_returns
        exact ⟨rfl, by (repeat' (first | (with_reducible exact Below.refl _ _) | (with_reducible assumption) | (with_reducible refine balloc ?_ _) | (with_reducible refine bdrew ?_) | (with_reducible refine bdrewN ?_ _) | (with_reducible refine bstep ?_ (by assumption)) | (with_reducible refine bset ?_ ?_ _) | (exact Below.size (by assumption)) | go_size))⟩
      · by_cases hle : f ≤ t
        · have hg : gbB zs f t = true := by simp [gbB, hv, hf, ht, hle]
          have q1 : gbH zs f t = lastH zs t n - lastH zs f n := by simp [gbH, hg, hl]
          have q2 : gbC zs f t = cntL zs t n - cntL zs f n := by simp [gbC, hg, hl]
          rw [q1, q2, hg]
          clear q1 q2 hg
          have r1 := lastH_bd hv t n (by omega)
          have r2 := lastH_bd hv f n (by omega)
          have r3 := cntL_bd zs t n
          have r4 := cntL_bd zs f n
          have r5 := cntL_le zs hle n
          go_enter Try.func12, Try.ntmps12
          go_wp2_with (first | (go_at_call 28; refine (l18Good_is true hv _ hr hl hn).mono ?_; rintro e w' ⟨rfl, hb⟩; (try clear cW fW zW); (first | (have bW := bstep bW hb) | (have bW := bstep (bdrew bW) hb) | (have bW := bstep (balloc bW _) hb) | (have bW := bstep (bdrewN bW _) hb) | (have bW := hb)); clear hb; obtain ⟨cW, fW⟩ := bcell bW; have zW := bsize bW) | (go_at_call 33; first | (refine (l4Tick_is true hf _).mono ?_; rintro e w' ⟨rfl, rfl⟩) | (refine (l4Tick_is true ht _).mono ?_; rintro e w' ⟨rfl, rfl⟩)) | (go_at_call 34; refine (l18Last_any _ _ _ zs _ _ (by exact hr.below bW) hl hn).mono ?_; rintro e w' ⟨rfl, hb⟩; (try clear cW fW zW); (first | (have bW := bstep bW hb) | (have bW := bstep (bdrew bW) hb) | (have bW := bstep (balloc bW _) hb) | (have bW := bstep (bdrewN bW _) hb) | (have bW := hb)); clear hb; obtain ⟨cW, fW⟩ := bcell bW; have zW := bsize bW))
          go_returns
          exact ⟨rfl, by (repeat' (first | (with_reducible exact Below.refl _ _) | (with_reducible assumption) | (with_reducible refine balloc ?_ _) | (with_reducible refine bdrew ?_) | (with_reducible refine bdrewN ?_ _) | (with_reducible refine bstep ?_ (by assumption)) | (with_reducible refine bset ?_ ?_ _) | (exact Below.size (by assumption)) | go_size))⟩
        · have hg : gbB zs f t = false := by simp [gbB, hle]
          obtain ⟨q1, q2⟩ := gb_no hg
          rw [q1, q2, hg]
          clear q1 q2 hg
          go_enter Try.func12, Try.ntmps12
          go_wp2_with (first | (go_at_call 28; refine (l18Good_is true hv _ hr hl hn).mono ?_; rintro e w' ⟨rfl, hb⟩; (try clear cW fW zW); (first | (have bW := bstep bW hb) | (have bW := bstep (bdrew bW) hb) | (have bW := bstep (balloc bW _) hb) | (have bW := bstep (bdrewN bW _) hb) | (have bW := hb)); clear hb; obtain ⟨cW, fW⟩ := bcell bW; have zW := bsize bW) | (go_at_call 33; first | (refine (l4Tick_is true hf _).mono ?_; rintro e w' ⟨rfl, rfl⟩) | (refine (l4Tick_is true ht _).mono ?_; rintro e w' ⟨rfl, rfl⟩)))
          go_returns
          exact ⟨rfl, by (repeat' (first | (with_reducible exact Below.refl _ _) | (with_reducible assumption) | (with_reducible refine balloc ?_ _) | (with_reducible refine bdrew ?_) | (with_reducible refine bdrewN ?_ _) | (with_reducible refine bstep ?_ (by assumption)) | (with_reducible refine bset ?_ ?_ _) | (exact Below.size (by assumption)) | go_size))⟩
theorem GrowthBetween_any (A : Option Addr) (n c : Nat) (zs : List SituationT) (f t : Int) (w : World) (hr : Rd w 6 A n (sitF zs)) (hl : zs.length = n) (hn : n ≤ 140737488355328) :
    Calls Try.prog 11 #[.slice A n c, .int .i64 f, .int .i64 t] w fun e w' => e = .returned (.tuple #[.int .i64 (gbH zs f t), .int .i64 (gbC zs f t), .bool (gbB zs f t)]) ∧ Below w.heap.size w w' := by
  rcases hv : seriesB zs with _ | _
  · have hg : gbB zs f t = false := by simp [gbB, hv]
    obtain ⟨q1, q2⟩ := gb_no hg
    rw [q1, q2, hg]
    clear q1 q2 hg
    go_enter Try.func11, Try.ntmps11
    go_wp2_with (first | (go_at_call 9; refine (IsSeries_is false hv _ hr hl hn).mono ?_; rintro e w' ⟨rfl, hb⟩; (try clear cW fW zW); (first | (have bW := bstep bW hb) | (have bW := bstep (bdrew bW) hb) | (have bW := bstep (balloc bW _) hb) | (have bW := bstep (bdrewN bW _) hb) | (have bW := hb)); clear hb; obtain ⟨cW, fW⟩ := bcell bW; have zW := bsize bW))
    go_returns
    exact ⟨rfl, by (repeat' (first | (with_reducible exact Below.refl _ _) | (with_reducible assumption) | (with_reducible refine balloc ?_ _) | (with_reducible refine bdrew ?_) | (with_reducible refine bdrewN ?_ _) | (with_reducible refine bstep ?_ (by assumption)) | (with_reducible refine bset ?_ ?_ _) | (exact Below.size (by assumption)) | go_size))⟩
  · rcases hf : inB f 0 9999 with _ | _
    · have hg : gbB zs f t = false := by simp [gbB, hf]
      obtain ⟨q1, q2⟩ := gb_no hg
      rw [q1, q2, hg]
      clear q1 q2 hg
      go_enter Try.func11, Try.ntmps11
      go_wp2_with (first | (go_at_call 9; refine (IsSeries_is true hv _ hr hl hn).mono ?_; rintro e w' ⟨rfl, hb⟩; (try clear cW fW zW); (first | (have bW := bstep bW hb) | (have bW := bstep (bdrew bW) hb) | (have bW := bstep (balloc bW _) hb) | (have bW := bstep (bdrewN bW _) hb) | (have bW := hb)); clear hb; obtain ⟨cW, fW⟩ := bcell bW; have zW := bsize bW) | (go_at_call 32; refine (isTick_is false hf _).mono ?_; rintro e w' ⟨rfl, rfl⟩))
      go_returns
      exact ⟨rfl, by (repeat' (first | (with_reducible exact Below.refl _ _) | (with_reducible assumption) | (with_reducible refine balloc ?_ _) | (with_reducible refine bdrew ?_) | (with_reducible refine bdrewN ?_ _) | (with_reducible refine bstep ?_ (by assumption)) | (with_reducible refine bset ?_ ?_ _) | (exact Below.size (by assumption)) | go_size))⟩
    · rcases ht : inB t 0 9999 with _ | _
      · have hg : gbB zs f t = false := by simp [gbB, ht]
        obtain ⟨q1, q2⟩ := gb_no hg
        rw [q1, q2, hg]
        clear q1 q2 hg
        go_enter Try.func11, Try.ntmps11
        go_wp2_with (first | (go_at_call 9; refine (IsSeries_is true hv _ hr hl hn).mono ?_; rintro e w' ⟨rfl, hb⟩; (try clear cW fW zW); (first | (have bW := bstep bW hb) | (have bW := bstep (bdrew bW) hb) | (have bW := bstep (balloc bW _) hb) | (have bW := bstep (bdrewN bW _) hb) | (have bW := hb)); clear hb; obtain ⟨cW, fW⟩ := bcell bW; have zW := bsize bW) | (go_at_call 32; first | (refine (isTick_is true hf _).mono ?_; rintro e w' ⟨rfl, rfl⟩) | (refine (isTick_is false ht _).mono ?_; rintro e w' ⟨rfl, rfl⟩)))
        go_returns
        exact ⟨rfl, by (repeat' (first | (with_reducible exact Below.refl _ _) | (with_reducible assumption) | (with_reducible refine balloc ?_ _) | (with_reducible refine bdrew ?_) | (with_reducible refine bdrewN ?_ _) | (with_reducible refine bstep ?_ (by assumption)) | (with_reducible refine bset ?_ ?_ _) | (exact Below.size (by assumption)) | go_size))⟩
      · by_cases hle : f ≤ t
        · have hg : gbB zs f t = true := by simp [gbB, hv, hf, ht, hle]
          have q1 : gbH zs f t = lastH zs t n - lastH zs f n := by simp [gbH, hg, hl]
          have q2 : gbC zs f t = cntL zs t n - cntL zs f n := by simp [gbC, hg, hl]
          rw [q1, q2, hg]
          clear q1 q2 hg
          have r1 := lastH_bd hv t n (by omega)
          have r2 := lastH_bd hv f n (by omega)
          have r3 := cntL_bd zs t n
          have r4 := cntL_bd zs f n
          have r5 := cntL_le zs hle n
          have hLb := fun (t : Int) (k : Nat) hk => lastH_bd hv t k hk
          go_enter Try.func11, Try.ntmps11
          go_wp2_with (first | (go_at_call 9; refine (IsSeries_is true hv _ hr hl hn).mono ?_; rintro e w' ⟨rfl, hb⟩; (try clear cW fW zW); (first | (have bW := bstep bW hb) | (have bW := bstep (bdrew bW) hb) | (have bW := bstep (balloc bW _) hb) | (have bW := bstep (bdrewN bW _) hb) | (have bW := hb)); clear hb; obtain ⟨cW, fW⟩ := bcell bW; have zW := bsize bW) | (go_at_call 32; first | (refine (isTick_is true hf _).mono ?_; rintro e w' ⟨rfl, rfl⟩) | (refine (isTick_is true ht _).mono ?_; rintro e w' ⟨rfl, rfl⟩)))
          clear hv hf ht r1 r2 r3 r4 r5
          go_loopw [9, 10, 11, 34] (fun a m r i wr => ∃ k : Nat, k ≤ n ∧ i = .int .i64 k ∧ a = .int .i64 (lastH zs f k) ∧ m = .int .i64 (lastH zs t k) ∧ r = .int .i64 (cntL zs t k - cntL zs f k) ∧ Below w.heap.size w wr) (fun _ _ _ i _ => n - (intOf i).toNat)
          case atStart => exact ⟨0, Nat.zero_le _, rfl, rfl, rfl, rfl, by (repeat' (first | (with_reducible exact Below.refl _ _) | (with_reducible assumption) | (with_reducible refine balloc ?_ _) | (with_reducible refine bdrew ?_) | (with_reducible refine bdrewN ?_ _) | (with_reducible refine bstep ?_ (by assumption)) | (with_reducible refine bset ?_ ?_ _) | (exact Below.size (by assumption)) | go_size))⟩
          case round =>
            obtain ⟨k, hk, rfl, rfl, rfl, rfl, hW⟩ := hrel
            by_cases hlt : k < n
            · have hsz := hW.size
              obtain ⟨b, off, rfl, hbl, x0, x1, x2, x3, x4, x5, hz, c0, c1, c2, c3, c4, c5⟩ := sit_at hr hW hl hlt
              have e1 : tickOf zs k = x1 := by unfold tickOf; rw [getD_of (by omega) hz]
              have e2 : hectOf zs k = x2 := by unfold hectOf; rw [getD_of (by omega) hz]
              have v1 := cntL_bd zs t k
              have v2 := cntL_bd zs f k
              have v3 := cntL_le zs hle k
              have hs1 := lastH_step zs t k
              have hs2 := cntL_step zs t k
              have hs3 := lastH_step zs f k
              have hs4 := cntL_step zs f k
              rw [e1, e2] at hs1 hs3
              rw [e1] at hs2 hs4
              have HS1 := Lib.hid hs1
              have HS2 := Lib.hid hs2
              have HS3 := Lib.hid hs3
              have HS4 := Lib.hid hs4
              clear hz e1 e2 hs1 hs2 hs3 hs4 hLb
              generalize lastH zs t k = f1 at *
              generalize cntL zs t k = f2 at *
              generalize lastH zs f k = f3 at *
              generalize cntL zs f k = f4 at *
              by_cases h1 : x1 ≤ f
              · have h2 : x1 ≤ t := by omega
                go_wp2
                go_roundw
                case rel => exact ⟨k + 1, by omega, by go_num, by rw [HS3.out, if_pos h1], by rw [HS1.out, if_pos h2], by rw [HS2.out, if_pos h2, HS4.out, if_pos h1]; go_num, by (repeat' (first | (with_reducible exact Below.refl _ _) | (with_reducible assumption) | (with_reducible refine balloc ?_ _) | (with_reducible refine bdrew ?_) | (with_reducible refine bdrewN ?_ _) | (with_reducible refine bstep ?_ (by assumption)) | (with_reducible refine bset ?_ ?_ _) | (exact Below.size (by assumption)) | go_size))⟩
                case measure => simp [intOf]; omega
              · by_cases h2 : x1 ≤ t
                · go_wp2
                  go_roundw
                  case rel => exact ⟨k + 1, by omega, by go_num, by rw [HS3.out, if_neg (by omega)], by rw [HS1.out, if_pos h2], by rw [HS2.out, if_pos h2, HS4.out, if_neg (by omega)]; go_num, by (repeat' (first | (with_reducible exact Below.refl _ _) | (with_reducible assumption) | (with_reducible refine balloc ?_ _) | (with_reducible refine bdrew ?_) | (with_reducible refine bdrewN ?_ _) | (with_reducible refine bstep ?_ (by assumption)) | (with_reducible refine bset ?_ ?_ _) | (exact Below.size (by assumption)) | go_size))⟩
                  case measure => simp [intOf]; omega
                · go_wp2
                  go_roundw
                  case rel => exact ⟨k + 1, by omega, by go_num, by rw [HS3.out, if_neg (by omega)], by rw [HS1.out, if_neg (by omega)], by rw [HS2.out, if_neg (by omega), HS4.out, if_neg (by omega)], by (repeat' (first | (with_reducible exact Below.refl _ _) | (with_reducible assumption) | (with_reducible refine balloc ?_ _) | (with_reducible refine bdrew ?_) | (with_reducible refine bdrewN ?_ _) | (with_reducible refine bstep ?_ (by assumption)) | (with_reducible refine bset ?_ ?_ _) | (exact Below.size (by assumption)) | go_size))⟩
                  case measure => simp [intOf]; omega
            · have e : k = n := by omega
              subst e
              have u1 := hLb t k (by omega)
              have u2 := hLb f k (by omega)
              go_wp2
              go_returns
              exact ⟨rfl, by (repeat' (first | (with_reducible exact Below.refl _ _) | (with_reducible assumption) | (with_reducible refine balloc ?_ _) | (with_reducible refine bdrew ?_) | (with_reducible refine bdrewN ?_ _) | (with_reducible refine bstep ?_ (by assumption)) | (with_reducible refine bset ?_ ?_ _) | (exact Below.size (by assumption)) | go_size))⟩
        · have hg : gbB zs f t = false := by simp [gbB, hle]
          obtain ⟨q1, q2⟩ := gb_no hg
          rw [q1, q2, hg]
          clear q1 q2 hg
          go_enter Try.func11, Try.ntmps11
          go_wp2_with (first | (go_at_call 9; refine (IsSeries_is true hv _ hr hl hn).mono ?_; rintro e w' ⟨rfl, hb⟩; (try clear cW fW zW); (first | (have bW := bstep bW hb) | (have bW := bstep (bdrew bW) hb) | (have bW := bstep (balloc bW _) hb) | (have bW := bstep (bdrewN bW _) hb) | (have bW := hb)); clear hb; obtain ⟨cW, fW⟩ := bcell bW; have zW := bsize bW) | (go_at_call 32; first | (refine (isTick_is true hf _).mono ?_; rintro e w' ⟨rfl, rfl⟩) | (refine (isTick_is true ht _).mono ?_; rintro e w' ⟨rfl, rfl⟩)))
          go_returns
          exact ⟨rfl, by (repeat' (first | (with_reducible exact Below.refl _ _) | (with_reducible assumption) | (with_reducible refine balloc ?_ _) | (with_reducible refine bdrew ?_) | (with_reducible refine bdrewN ?_ _) | (with_reducible refine bstep ?_ (by assumption)) | (with_reducible refine bset ?_ ?_ _) | (exact Below.size (by assumption)) | go_size))⟩

end Go.Proofs.Ytjffhacoijmgiaa
