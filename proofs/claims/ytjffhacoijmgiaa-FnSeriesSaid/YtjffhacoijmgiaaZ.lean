/-
  StateChanges of the program and of the reference collect one list. Conditions: lengths within the bound of a slice.
-/
import Derived.Test.YtjffhacoijmgiaaY
import Derived.Test.YtjffhacoijmgiaaT
import Derived.Lib.Strings
namespace Go.Proofs.Ytjffhacoijmgiaa
open Go.RowKit
set_option maxHeartbeats 4000000

def contOf (zs : List SituationT) (k : Nat) : Int := (zs.getD k sit0).2.2.2.1
/-- the numbers of the reports among the first k whose state differs from that of the one before -/
def chg (zs : List SituationT) : Nat → List Int
  | 0 => []
  | 1 => []
  | k + 2 => if stateS (contOf zs (k + 1)) = stateS (contOf zs k) then chg zs (k + 1) else chg zs (k + 1) ++ [numOf zs (k + 1)]
theorem chg_step (zs : List SituationT) (q : Nat) : chg zs (q + 2) = if stateS (contOf zs (q + 1)) = stateS (contOf zs q) then chg zs (q + 1) else chg zs (q + 1) ++ [numOf zs (q + 1)] := rfl
theorem chg_len (zs : List SituationT) : ∀ k, (chg zs k).length ≤ k
  | 0 => Nat.le_refl _
  | 1 => Nat.zero_le _
  | k + 2 => by
    have h := chg_len zs (k + 1)
    rw [chg_step]
    split
    · omega
    · simp; omega
noncomputable def chgL (zs : List SituationT) : List Int := if seriesB zs = true then chg zs zs.length else []

theorem str_ext {a b : ByteArray} (h : a.toList = b.toList) : a = b := by
  rw [Lib.toList_data, Lib.toList_data] at h
  exact ByteArray.ext (Array.ext' h)
theorem state_at (a b c d e f : Int) {s : ByteArray} (h : stateS d = s) (w : World) : Calls Try.prog 38 #[.agg #[.int .i64 a, .int .i64 b, .int .i64 c, .int .i64 d, .int .i64 e, .int .i64 f]] w fun r w' => r = .returned (.string s) ∧ Below w.heap.size w w' := by rw [← h]; exact state_any a b c d e f w
theorem StateChanges_any (A : Option Addr) (n c : Nat) (zs : List SituationT) (w : World) (hr : Rd w 6 A n (sitF zs)) (hl : zs.length = n) (hn : n ≤ 140737488355) :
    Calls Try.prog 17 #[.slice A n c] w fun e w' => ∃ v, e = .returned (.tuple #[v, .bool (seriesB zs)]) ∧ w'.ownsRow w.heap.size 3 1 v (chgL zs).length (ints (chgL zs)) ∧ Below w.heap.size w w' := by
  obtain ⟨i0, hi0, hz0, hz1, hz2⟩ := info_parts (show (Try.prog.info? 3).map (fun i => (i.zero, i.size, i.bytes)) = some (some (.int .i64 0), 1, 8) from by kernel_rfl)
  rcases hv : seriesB zs with _ | _
  · have h1 : chgL zs = [] := by simp [chgL, hv]
    rw [h1]
    clear hi0 hz0 hz1 hz2
    go_enter Try.func17, Try.ntmps17
    go_wp2_with (first | (go_at_call 9; refine (IsSeries_is false hv _ hr hl (by omega)).mono ?_; rintro e w' ⟨rfl, hb⟩; (try clear cW fW zW); (first | (have bW := bstep bW hb) | (have bW := bstep (bdrew bW) hb) | (have bW := bstep (balloc bW _) hb) | (have bW := bstep (bdrewN bW _) hb) | (have bW := hb)); clear hb; obtain ⟨cW, fW⟩ := bcell bW; have zW := bsize bW))
    go_returns
    exact ⟨_, rfl, World.ownsRow_nil _ _ _ _, by (repeat' (first | (with_reducible exact Below.refl _ _) | (with_reducible assumption) | (with_reducible refine balloc ?_ _) | (with_reducible refine bdrew ?_) | (with_reducible refine bdrewN ?_ _) | (with_reducible refine bstep ?_ (by assumption)) | (with_reducible refine bset ?_ ?_ _) | (exact Below.size (by assumption)) | go_size))⟩
  · have h1 : chgL zs = chg zs n := by simp [chgL, hv, hl]
    rw [h1]
    clear h1
    go_enter Try.func17, Try.ntmps17
    go_wp2_with (first | (go_at_call 9; refine (IsSeries_is true hv _ hr hl (by omega)).mono ?_; rintro e w' ⟨rfl, hb⟩; (try clear cW fW zW); (first | (have bW := bstep bW hb) | (have bW := bstep (bdrew bW) hb) | (have bW := bstep (balloc bW _) hb) | (have bW := bstep (bdrewN bW _) hb) | (have bW := hb)); clear hb; obtain ⟨cW, fW⟩ := bcell bW; have zW := bsize bW))
    clear hv
    go_loopw [4, 5] (fun v i wr => ∃ k : Nat, 1 ≤ k ∧ (k ≤ n ∨ k = 1) ∧ i = .int .i64 k ∧ wr.ownsRow w.heap.size 3 1 v (chg zs k).length (ints (chg zs k)) ∧ Below w.heap.size w wr) (fun _ i _ => n - (intOf i).toNat)
    case atStart => exact ⟨1, Nat.le_refl _, .inr rfl, rfl, by simpa [chg, ints] using World.ownsRow_lit (e := 3) (size := 1) (base := w.heap.size) _ #[] 0 (by have := bW.size; omega) (by decide) rfl, by (repeat' (first | (with_reducible exact Below.refl _ _) | (with_reducible assumption) | (with_reducible refine balloc ?_ _) | (with_reducible refine bdrew ?_) | (with_reducible refine bdrewN ?_ _) | (with_reducible refine bstep ?_ (by assumption)) | (with_reducible refine bset ?_ ?_ _) | (exact Below.size (by assumption)) | go_size))⟩
    case round =>
      obtain ⟨k, hk1, hk, rfl, hown, hW⟩ := hrel
      by_cases hlt : k < n
      · have hsz := hW.size
        clear hk
        obtain ⟨b, off, rfl, hbl, x0, x1, x2, x3, x4, x5, hz, c0, c1, c2, c3, c4, c5⟩ := sit_at hr hW hl hlt
        have s1 : b < wr.heap.size := Nat.lt_of_lt_of_le hbl hW.size
        obtain ⟨q, rfl⟩ : ∃ q, k = q + 1 := ⟨k - 1, by omega⟩
        obtain ⟨b', off', hbe, hbl', y0, y1, y2, y3, y4, y5, hy, d0, d1, d2, d3, d4, d5⟩ := sit_at (k := q) hr hW hl (by omega)
        simp only [Option.some.injEq, Addr.mk.injEq, and_true] at hbe
        obtain ⟨rfl, rfl⟩ := hbe
        have e1 : contOf zs (q + 1) = x3 := by unfold contOf; rw [getD_of (by omega) hz]
        have e2 : contOf zs q = y3 := by unfold contOf; rw [getD_of (by omega) hy]
        have e3 : numOf zs (q + 1) = x0 := by unfold numOf; rw [getD_of (by omega) hz]
        have hs := chg_step zs q
        rw [e1, e2, e3] at hs
        have hlen := chg_len zs (q + 1)
        have HS := Lib.hid hs
        clear hz hy e1 e2 e3 hs
        obtain ⟨cl, hcl⟩ : ∃ cl, cl = chg zs (q + 1) := ⟨_, rfl⟩
        rw [← hcl] at hown hlen
        have HC := Lib.hid hcl
        clear hcl
        have i1 : (q : Int) < (n : Int) := by omega
        by_cases hst : stateS x3 = stateS y3
        · have hq : ((stateS x3).toList == (stateS y3).toList) = true := by rw [hst]; simp
          have HT := Lib.hid hst
          clear hst
          go_wp2
          (refine wp_region_bel (by kernel_rfl) (by kernel_rfl) ?_; (repeat (go_big_quiet_step ((first | (go_at_call 38; exact calls_bel (state_any _ _ _ _ _ _ _)))))); refine wpQuiet_nil ?_; intro w' hw'; have hb := below_of hw'; clear hw'; (try clear cW fW zW); (first | (have bW := bstep bW hb) | (have bW := bstep (bdrew bW) hb) | (have bW := bstep (balloc bW _) hb) | (have bW := bstep (bdrewN bW _) hb) | (have bW := hb)); clear hb; obtain ⟨cW, fW⟩ := bcell bW; have zW := bsize bW)
          go_wp2
          go_roundw
          case rel =>
            have h := HS.out
            rw [if_pos HT.out, ← HC.out] at h
            exact ⟨q + 1 + 1, by omega, .inl (by omega), by go_num, by rw [h]; exact own_below hown bW, by (repeat' (first | (with_reducible exact Below.refl _ _) | (with_reducible assumption) | (with_reducible refine balloc ?_ _) | (with_reducible refine bdrew ?_) | (with_reducible refine bdrewN ?_ _) | (with_reducible refine bstep ?_ (by assumption)) | (with_reducible refine bset ?_ ?_ _) | (exact Below.size (by assumption)) | go_size))⟩
          case measure => simp [intOf]; omega
        · have hq : ((stateS x3).toList == (stateS y3).toList) = false := by rw [beq_eq_false_iff_ne]; exact fun h => hst (str_ext h)
          have HT := Lib.hid hst
          clear hst
          go_wp2
          (refine wp_region_bel (by kernel_rfl) (by kernel_rfl) ?_; (repeat (go_big_quiet_step ((first | (go_at_call 38; exact calls_bel (state_any _ _ _ _ _ _ _)))))); refine wpQuiet_nil ?_; intro w' hw'; have hb := below_of hw'; clear hw'; (try clear cW fW zW); (first | (have bW := bstep bW hb) | (have bW := bstep (bdrew bW) hb) | (have bW := bstep (balloc bW _) hb) | (have bW := bstep (bdrewN bW _) hb) | (have bW := hb)); clear hb; obtain ⟨cW, fW⟩ := bcell bW; have zW := bsize bW)
          have s2 : b < w'.heap.size := zW _ s1
          have hz2w := bW.size
          go_wp2_with (first | (at_builtin; refine wpList_append_own _ rfl (.tmp 28) (.tmp 34) 38 rfl w.heap.size 3 i0 (.int .i64 0) 1 8 Try.underlying38 hi0 hz0 hz1 hz2 rfl (by decide) _ _ _ rfl ((own_below hown bW).alloc _) ⟨_, 0, none⟩ 1 1 [.int .i64 x0] rfl rfl ?c1 ?c2 ?c3 ?c4 ?c5 ?_))
          case c1 => exact cell_one_new _ _ _
          case c2 => (first | rfl | (intro u hu; simp at hu; subst hu; rfl))
          case c3 => (unfold maxLen; omega)
          case c4 => omega
          case c5 => (simp; omega)
          intro v' w1 hown' hgrow _
          go_wp2
          go_roundw
          case rel =>
            have h := HS.out
            rw [if_neg HT.out, ← HC.out] at h
            have b1 : Below w.heap.size w w1 := by
              have b0 := balloc (bstep hW bW) (.cells #[.int .i64 x0] 3)
              exact b0.grown hgrow (by simp; omega) (fun g hg => ((own_below hown bW).lt g hg).1)
            exact ⟨q + 1 + 1, by omega, .inl (by omega), by go_num, by rw [h]; simpa [ints] using hown', b1⟩
          case measure => simp [intOf]; omega
      · have hcl : chg zs k = chg zs n := by
          have h3 : k = n ∨ (k = 1 ∧ n = 0) := by omega
          rcases h3 with h3 | ⟨h3, h4⟩
          · rw [h3]
          · rw [h3, h4]; rfl
        rw [hcl] at hown
        clear hcl
        go_wp2
        go_returns
        exact ⟨_, rfl, hown, hW⟩
theorem sStateChanges_any (A : Option Addr) (n c : Nat) (zs : List SituationT) (w : World) (hr : Rd w 6 A n (sitF zs)) (hl : zs.length = n) (hn : n ≤ 140737488355) :
    Calls Try.prog 18 #[.slice A n c] w fun e w' => ∃ v, e = .returned (.tuple #[v, .bool (seriesB zs)]) ∧ w'.ownsRow w.heap.size 3 1 v (chgL zs).length (ints (chgL zs)) ∧ Below w.heap.size w w' := by
  obtain ⟨i0, hi0, hz0, hz1, hz2⟩ := info_parts (show (Try.prog.info? 3).map (fun i => (i.zero, i.size, i.bytes)) = some (some (.int .i64 0), 1, 8) from by kernel_rfl)
  rcases hv : seriesB zs with _ | _
  · have h1 : chgL zs = [] := by simp [chgL, hv]
    rw [h1]
    clear hi0 hz0 hz1 hz2
    go_enter Try.func18, Try.ntmps18
    go_wp2_with (first | (go_at_call 28; refine (l18Good_is false hv _ (hr.below (balloc (Below.refl _ _) _)) hl (by omega)).mono ?_; rintro e w' ⟨rfl, hb⟩; (try clear cW fW zW); (first | (have bW := bstep bW hb) | (have bW := bstep (bdrew bW) hb) | (have bW := bstep (balloc bW _) hb) | (have bW := bstep (bdrewN bW _) hb) | (have bW := hb)); clear hb; obtain ⟨cW, fW⟩ := bcell bW; have zW := bsize bW))
    go_returns
    exact ⟨_, rfl, by simpa [ints] using own_below (World.ownsRow_lit (e := 3) (size := 1) (base := w.heap.size) w #[] 0 (Nat.le_refl _) (by decide) rfl) bW, by (repeat' (first | (with_reducible exact Below.refl _ _) | (with_reducible assumption) | (with_reducible refine balloc ?_ _) | (with_reducible refine bdrew ?_) | (with_reducible refine bdrewN ?_ _) | (with_reducible refine bstep ?_ (by assumption)) | (with_reducible refine bset ?_ ?_ _) | (exact Below.size (by assumption)) | go_size))⟩
  · have h1 : chgL zs = chg zs n := by simp [chgL, hv, hl]
    rw [h1]
    clear h1
    go_enter Try.func18, Try.ntmps18
    go_wp2_with (first | (go_at_call 28; refine (l18Good_is true hv _ (hr.below (balloc (Below.refl _ _) _)) hl (by omega)).mono ?_; rintro e w' ⟨rfl, hb⟩; (try clear cW fW zW); (first | (have bW := bstep bW hb) | (have bW := bstep (bdrew bW) hb) | (have bW := bstep (balloc bW _) hb) | (have bW := bstep (bdrewN bW _) hb) | (have bW := hb)); clear hb; obtain ⟨cW, fW⟩ := bcell bW; have zW := bsize bW))
    clear hv
    go_loopw [4, 5] (fun v i wr => ∃ k : Nat, 1 ≤ k ∧ (k ≤ n ∨ k = 1) ∧ i = .int .i64 k ∧ wr.ownsRow w.heap.size 3 1 v (chg zs k).length (ints (chg zs k)) ∧ Below w.heap.size w wr) (fun _ i _ => n - (intOf i).toNat)
    case atStart => exact ⟨1, Nat.le_refl _, .inr rfl, rfl, by simpa [chg, ints] using own_below (World.ownsRow_lit (e := 3) (size := 1) (base := w.heap.size) w #[] 0 (Nat.le_refl _) (by decide) rfl) bW, by (repeat' (first | (with_reducible exact Below.refl _ _) | (with_reducible assumption) | (with_reducible refine balloc ?_ _) | (with_reducible refine bdrew ?_) | (with_reducible refine bdrewN ?_ _) | (with_reducible refine bstep ?_ (by assumption)) | (with_reducible refine bset ?_ ?_ _) | (exact Below.size (by assumption)) | go_size))⟩
    case round =>
      obtain ⟨k, hk1, hk, rfl, hown, hW⟩ := hrel
      by_cases hlt : k < n
      · have hsz := hW.size
        clear hk
        obtain ⟨b, off, rfl, hbl, x0, x1, x2, x3, x4, x5, hz, c0, c1, c2, c3, c4, c5⟩ := sit_at hr hW hl hlt
        have s1 : b < wr.heap.size := Nat.lt_of_lt_of_le hbl hW.size
        obtain ⟨q, rfl⟩ : ∃ q, k = q + 1 := ⟨k - 1, by omega⟩
        obtain ⟨b', off', hbe, hbl', y0, y1, y2, y3, y4, y5, hy, d0, d1, d2, d3, d4, d5⟩ := sit_at (k := q) hr hW hl (by omega)
        simp only [Option.some.injEq, Addr.mk.injEq, and_true] at hbe
        obtain ⟨rfl, rfl⟩ := hbe
        have e1 : contOf zs (q + 1) = x3 := by unfold contOf; rw [getD_of (by omega) hz]
        have e2 : contOf zs q = y3 := by unfold contOf; rw [getD_of (by omega) hy]
        have e3 : numOf zs (q + 1) = x0 := by unfold numOf; rw [getD_of (by omega) hz]
        have hs := chg_step zs q
        rw [e1, e2, e3] at hs
        have hlen := chg_len zs (q + 1)
        have HS := Lib.hid hs
        clear hz hy e1 e2 e3 hs
        obtain ⟨cl, hcl⟩ : ∃ cl, cl = chg zs (q + 1) := ⟨_, rfl⟩
        rw [← hcl] at hown hlen
        have HC := Lib.hid hcl
        clear hcl
        have i1 : (q : Int) < (n : Int) := by omega
        by_cases hst : stateS x3 = stateS y3
        · have hq : ((stateS y3).toList == (stateS x3).toList) = true := by rw [hst]; simp
          have HT := Lib.hid hst
          clear hst
          go_wp2
          (refine wp_region_bel (by kernel_rfl) (by kernel_rfl) ?_; (repeat (go_big_quiet_step ((first | (go_at_call 39; exact calls_bel (l18State_any _ _ _ _ _ _ _)))))); refine wpQuiet_nil ?_; intro w' hw'; have hb := below_of hw'; clear hw'; (try clear cW fW zW); (first | (have bW := bstep bW hb) | (have bW := bstep (bdrew bW) hb) | (have bW := bstep (balloc bW _) hb) | (have bW := bstep (bdrewN bW _) hb) | (have bW := hb)); clear hb; obtain ⟨cW, fW⟩ := bcell bW; have zW := bsize bW)
          go_wp2
          go_roundw
          case rel =>
            have h := HS.out
            rw [if_pos HT.out, ← HC.out] at h
            exact ⟨q + 1 + 1, by omega, .inl (by omega), by go_num, by rw [h]; exact own_below hown bW, by (repeat' (first | (with_reducible exact Below.refl _ _) | (with_reducible assumption) | (with_reducible refine balloc ?_ _) | (with_reducible refine bdrew ?_) | (with_reducible refine bdrewN ?_ _) | (with_reducible refine bstep ?_ (by assumption)) | (with_reducible refine bset ?_ ?_ _) | (exact Below.size (by assumption)) | go_size))⟩
          case measure => simp [intOf]; omega
        · have hq : ((stateS y3).toList == (stateS x3).toList) = false := by rw [beq_eq_false_iff_ne]; exact fun h => hst (str_ext h.symm)
          have HT := Lib.hid hst
          clear hst
          go_wp2
          (refine wp_region_bel (by kernel_rfl) (by kernel_rfl) ?_; (repeat (go_big_quiet_step ((first | (go_at_call 39; exact calls_bel (l18State_any _ _ _ _ _ _ _)))))); refine wpQuiet_nil ?_; intro w' hw'; have hb := below_of hw'; clear hw'; (try clear cW fW zW); (first | (have bW := bstep bW hb) | (have bW := bstep (bdrew bW) hb) | (have bW := bstep (balloc bW _) hb) | (have bW := bstep (bdrewN bW _) hb) | (have bW := hb)); clear hb; obtain ⟨cW, fW⟩ := bcell bW; have zW := bsize bW)
          have s2 : b < w'.heap.size := zW _ s1
          have hz2w := bW.size
          go_wp2_with (first | (at_builtin; refine wpList_append_own _ rfl (.tmp 29) (.tmp 35) 38 rfl w.heap.size 3 i0 (.int .i64 0) 1 8 Try.underlying38 hi0 hz0 hz1 hz2 rfl (by decide) _ _ _ rfl ((own_below hown bW).alloc _) ⟨_, 0, none⟩ 1 1 [.int .i64 x0] rfl rfl ?c1 ?c2 ?c3 ?c4 ?c5 ?_))
          case c1 => exact cell_one_new _ _ _
          case c2 => (first | rfl | (intro u hu; simp at hu; subst hu; rfl))
          case c3 => (unfold maxLen; omega)
          case c4 => omega
          case c5 => (simp; omega)
          intro v' w1 hown' hgrow _
          go_wp2
          go_roundw
          case rel =>
            have h := HS.out
            rw [if_neg HT.out, ← HC.out] at h
            have b1 : Below w.heap.size w w1 := by
              have b0 := balloc (bstep hW bW) (.cells #[.int .i64 x0] 3)
              exact b0.grown hgrow (by simp; omega) (fun g hg => ((own_below hown bW).lt g hg).1)
            exact ⟨q + 1 + 1, by omega, .inl (by omega), by go_num, by rw [h]; simpa [ints] using hown', b1⟩
          case measure => simp [intOf]; omega
      · have hcl : chg zs k = chg zs n := by
          have h3 : k = n ∨ (k = 1 ∧ n = 0) := by omega
          rcases h3 with h3 | ⟨h3, h4⟩
          · rw [h3]
          · rw [h3, h4]; rfl
        rw [hcl] at hown
        clear hcl
        go_wp2
        go_returns
        exact ⟨_, rfl, hown, hW⟩
end Go.Proofs.Ytjffhacoijmgiaa
