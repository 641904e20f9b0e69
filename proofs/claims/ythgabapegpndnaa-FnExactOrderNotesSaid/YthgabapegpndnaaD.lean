/-
  Notebooks: the program's and the reference's test. Conditions: lengths within the bound of a slice.
-/
import Derived.Test.YthgabapegpndnaaC
namespace Go.Proofs.Ythgabapegpndnaa
open Go.RowKit
set_option maxRecDepth 100000
set_option maxHeartbeats 4000000

def nP (units : Int) (z : NoteV) : Bool := notB units z.1 z.2.1 z.2.2.1 z.2.2.2
def nLt (a b : NoteV) : Prop := a.1 < b.1 ∨ (a.1 = b.1 ∧ a.2.1 < b.2.1)
/-- place k of the list is valid, and behind that before it -/
def okN (units : Int) (Z : List NoteV) (k : Nat) : Prop := k < Z.length → nP units (nAt Z k) = true ∧ (0 < k → nLt (nAt Z (k - 1)) (nAt Z k))
noncomputable def bookB (units : Int) (Z : List NoteV) : Bool := inB units 2 4 && @decide ((∀ k, k < Z.length → okN units Z k) ∧ (Z.length : Int) ≤ 12) (Classical.propDecidable _)
theorem bookB_iff {units : Int} {Z : List NoteV} : bookB units Z = true ↔ inB units 2 4 = true ∧ (∀ k, k < Z.length → okN units Z k) ∧ (Z.length : Int) ≤ 12 := by
  unfold bookB; rw [Bool.and_eq_true, @decide_eq_true_iff _ (Classical.propDecidable _)]
theorem bookB_true {units : Int} {Z : List NoteV} (h : ∀ k, k < Z.length → okN units Z k) : bookB units Z = (inB units 2 4 && decide ((Z.length : Int) ≤ 12)) := by
  rw [Bool.eq_iff_iff, bookB_iff, Bool.and_eq_true, decide_eq_true_iff]
  exact ⟨fun x => ⟨x.1, x.2.2⟩, fun x => ⟨x.1, h, x.2⟩⟩
theorem bookB_units {units : Int} {Z : List NoteV} (h : inB units 2 4 = false) : bookB units Z = false := by unfold bookB; rw [h]; rfl
theorem bookB_long {units : Int} {Z : List NoteV} (h : ¬ (Z.length : Int) ≤ 12) : bookB units Z = false := by
  rw [Bool.eq_false_iff]
  exact fun x => h (bookB_iff.1 x).2.2
theorem bookB_false {units : Int} {Z : List NoteV} {k : Nat} (hk : k < Z.length) (h : ¬ okN units Z k) : bookB units Z = false := by
  rw [Bool.eq_false_iff]
  exact fun x => h ((bookB_iff.1 x).2.1 k hk)
theorem cmpn_lt {u u2 s s2 : Int} : orv (cmpv u u2) (cmpv s s2) < 0 ↔ (u < u2 ∨ (u = u2 ∧ s < s2)) := by
  unfold orv cmpv
  (repeat' split) <;> omega
theorem nP_bd {units : Int} {u s : Int} {xs : List Int} {wd : ByteArray} (h : nP units (u, s, xs, wd) = true) : (xs.length : Int) = units ∧ (∀ x ∈ xs, 0 ≤ x ∧ x ≤ 12) ∧ (0 ≤ u ∧ u ≤ units - 1) ∧ (1 ≤ s ∧ s ≤ 12) ∧ xs.getD u.toNat 0 = s ∧ wordB wd = true := by
  simp only [nP, notB, Bool.and_eq_true, decide_eq_true_eq] at h
  obtain ⟨⟨h1, h2⟩, h3, h4, h5, h6⟩ := h
  have h3 := inB_iff.1 h3
  have h7 : ∀ x ∈ xs, 0 ≤ x ∧ x ≤ 12 := fun x hx => inB_iff.1 (List.all_eq_true.1 h2 x hx)
  have h8 : u.toNat < xs.length := by omega
  have h9 : xs.getD u.toNat 0 = xs[u.toNat] := by rw [List.getD_eq_getElem?_getD, List.getElem?_eq_getElem h8]; rfl
  have h10 := h7 _ (List.getElem_mem h8)
  rw [← h9, h5] at h10
  exact ⟨h1, h7, h3, ⟨h4, h10.2⟩, h5, h6⟩
theorem compareNotes_of {v : Int} {u s u2 s2 : Int} {A A2 : Option Addr} {n c n2 c2 : Nat} {wd wd2 : ByteArray} (h : orv (cmpv u u2) (cmpv s s2) = v) (w : World) :
    Calls Try.prog 39 #[.agg #[.int .i64 u, .int .i64 s, .slice A n c, .string wd], .agg #[.int .i64 u2, .int .i64 s2, .slice A2 n2 c2, .string wd2]] w fun e w' => e = .returned (.int .i64 v) ∧ Below w.heap.size w w' := by
  rw [← h]; exact compareNotes_any u s u2 s2 A A2 n c n2 c2 wd wd2 w
theorem l17Order_of {v : Int} {u s u2 s2 : Int} {A A2 : Option Addr} {n c n2 c2 : Nat} {wd wd2 : ByteArray} (h : (u - u2) * 100 + s - s2 = v) (w : World) (h1 : 0 ≤ u ∧ u ≤ 1000) (h2 : 0 ≤ u2 ∧ u2 ≤ 1000) (h3 : 0 ≤ s ∧ s ≤ 1000) (h4 : 0 ≤ s2 ∧ s2 ≤ 1000) :
    Calls Try.prog 43 #[.agg #[.int .i64 u, .int .i64 s, .slice A n c, .string wd], .agg #[.int .i64 u2, .int .i64 s2, .slice A2 n2 c2, .string wd2]] w fun e w' => e = .returned (.int .i64 v) ∧ Below w.heap.size w w' := by
  rw [← h]; exact l17Order_any u s u2 s2 A A2 n c n2 c2 wd wd2 w h1 h2 h3 h4
theorem l1In_iw {n lo hi : Int} (v : Bool) (h : inB n lo hi = v) (w : World) : Calls Try.prog 59 #[.int .i64 n, .int .i64 lo, .int .i64 hi] w fun e w' => e = .returned (.bool v) ∧ Below w.heap.size w w' := by rw [← h]; exact (l1In_any n lo hi w).mono fun _ _ h => ⟨h.1, h.2 ▸ Below.refl _ _⟩
theorem IsNotebook_is {q : Bool} {units : Int} {A : Option Addr} {n c : Nat} {Z : List NoteV} (hq : bookB units Z = q) (w : World) (hr : RdN w A n Z) (hn : n ≤ 1048576) (hm : ∀ i, i < n → (nAt Z i).2.2.1.length ≤ 1048576 ∧ (nAt Z i).2.2.2.size ≤ maxLen) :
    Calls Try.prog 13 #[.int .i64 units, .slice A n c] w fun e w' => e = .returned (.bool q) ∧ Below w.heap.size w w' := by
  have HQ := Lib.hid hq
  have hl := hr.1
  clear hq
  go_enter Try.func13, Try.ntmps13
  go_wp2
  go_loopw [9] (fun i wr => ∃ k : Nat, k ≤ n ∧ i = .int .i64 k ∧ Hid (∀ j, j < k → okN units Z j) ∧ Below w.heap.size w wr) (fun i _ => n - (intOf i).toNat)
  case atStart => exact ⟨0, Nat.zero_le _, rfl, fun j hj => absurd hj (Nat.not_lt_zero _), Below.refl _ _⟩
  case round =>
    obtain ⟨k, hk, rfl, hO, hW⟩ := hrel
    by_cases hlt : k < n
    · have hsz := hW.size
      obtain ⟨b, off, u, s, Ar, m, cr, xs, wd, rfl, hbl, hx, hxm, hrow, c0, c1, c2, c3⟩ := hr.at_ hW hlt
      obtain ⟨hmm, hws⟩ := hm k hlt
      rw [hx] at hmm hws
      simp only [hxm] at hmm hws
      have s1 : b < wr.heap.size := Nat.lt_of_lt_of_le hbl hW.size
      have HZ := Lib.hid hx
      have hX := Lib.hid hxm
      have HR := Lib.hid hrow
      clear hx hxm hrow
      rcases hw : notB units u s xs wd with _ | _
      · obtain rfl : q = false := by
          rw [← HQ.out]
          refine bookB_false (k := k) (by omega) (fun h => ?_)
          have h1 := (h (by omega)).1
          rw [HZ.out] at h1
          simp [nP, hw] at h1
        go_wp2
        (refine wp_region_bel (by kernel_rfl) (by kernel_rfl) ?_; (repeat (go_big_quiet_step ((first | (go_at_call 38; exact calls_bel (isNote_is hw _ (HR.out.below (bstep (balloc (Below.refl _ _) _) (below_bel _ _))) hX.out hmm hws)))))); refine wpQuiet_nil ?_; intro w' hw'; have hb := below_of hw'; clear hw'; (try clear cW fW zW); (first | (have bW := bstep bW hb) | (have bW := bstep (bdrew bW) hb) | (have bW := bstep (balloc bW _) hb) | (have bW := bstep (bdrewN bW _) hb) | (have bW := hb)); clear hb; obtain ⟨cW, fW⟩ := bcell bW; have zW := bsize bW)
        go_wp2
        go_ret
        exact ⟨rfl, by (repeat' (first | (with_reducible exact Below.refl _ _) | (with_reducible assumption) | (with_reducible refine balloc ?_ _) | (with_reducible refine bdrew ?_) | (with_reducible refine bdrewN ?_ _) | (with_reducible refine bstep ?_ (by assumption)) | (with_reducible refine bset ?_ ?_ _) | (exact Below.size (by assumption)) | go_size))⟩
      rcases Nat.eq_zero_or_pos k with h0 | h0
      · have g0 : decide (0 < k) = false := by simp; omega
        have H0 := Lib.hid h0
        have HV := Lib.hid hw
        clear h0
        go_wp2
        (refine wp_region_bel (by kernel_rfl) (by kernel_rfl) ?_; (repeat (go_big_quiet_step ((first | (go_at_call 38; exact calls_bel (isNote_is hw _ (HR.out.below (bstep (balloc (Below.refl _ _) _) (below_bel _ _))) hX.out hmm hws)))))); refine wpQuiet_nil ?_; intro w' hw'; have hb := below_of hw'; clear hw'; (try clear cW fW zW); (first | (have bW := bstep bW hb) | (have bW := bstep (bdrew bW) hb) | (have bW := bstep (balloc bW _) hb) | (have bW := bstep (bdrewN bW _) hb) | (have bW := hb)); clear hb; obtain ⟨cW, fW⟩ := bcell bW; have zW := bsize bW)
        go_wp2
        go_roundw
        case rel =>
          refine ⟨k + 1, by omega, by go_num, (show Hid _ from fun j hj hjl => ?_), by (repeat' (first | (with_reducible exact Below.refl _ _) | (with_reducible assumption) | (with_reducible refine balloc ?_ _) | (with_reducible refine bdrew ?_) | (with_reducible refine bdrewN ?_ _) | (with_reducible refine bstep ?_ (by assumption)) | (with_reducible refine bset ?_ ?_ _) | (exact Below.size (by assumption)) | go_size))⟩
          have h1 := H0.out
          have h2 : j = k := by omega
          subst h2
          refine ⟨?_, fun h => by omega⟩
          rw [HZ.out]; exact HV.out
        case measure => simp [intOf]; omega
      · obtain ⟨p, rfl⟩ : ∃ p, k = p + 1 := ⟨k - 1, by omega⟩
        obtain ⟨b', off', u', s', Ar', m', cr', xs', wd', hbe, hbl', hy, _, _, d0, d1, d2, d3⟩ := hr.at_ (k := p) hW (by omega)
        simp only [Option.some.injEq, Addr.mk.injEq, and_true] at hbe
        obtain ⟨rfl, rfl⟩ := hbe
        have HY := Lib.hid hy
        have HV := Lib.hid hw
        clear hy
        have i1 : (p : Int) < (n : Int) := by omega
        obtain ⟨cv, hcv⟩ : ∃ cv, orv (cmpv u' u) (cmpv s' s) = cv := ⟨_, rfl⟩
        have hlt2 := cmpn_lt (u := u') (u2 := u) (s := s') (s2 := s)
        rw [hcv] at hlt2
        have HL := Lib.hid hlt2
        clear hlt2
        by_cases hc : cv < 0
        · have g1 : decide (0 ≤ cv) = false := by simp; omega
          go_wp2
          (refine wp_region_bel (by kernel_rfl) (by kernel_rfl) ?_; (repeat (go_big_quiet_step ((first | (go_at_call 38; exact calls_bel (isNote_is hw _ (HR.out.below (bstep (balloc (Below.refl _ _) _) (below_bel _ _))) hX.out hmm hws)) | (go_at_call 39; exact calls_bel (compareNotes_of hcv _)))))); refine wpQuiet_nil ?_; intro w' hw'; have hb := below_of hw'; clear hw'; (try clear cW fW zW); (first | (have bW := bstep bW hb) | (have bW := bstep (bdrew bW) hb) | (have bW := bstep (balloc bW _) hb) | (have bW := bstep (bdrewN bW _) hb) | (have bW := hb)); clear hb; obtain ⟨cW, fW⟩ := bcell bW; have zW := bsize bW)
          go_wp2
          go_roundw
          case rel =>
            refine ⟨p + 1 + 1, by omega, by go_num, (show Hid _ from fun j hj => ?_), by (repeat' (first | (with_reducible exact Below.refl _ _) | (with_reducible assumption) | (with_reducible refine balloc ?_ _) | (with_reducible refine bdrew ?_) | (with_reducible refine bdrewN ?_ _) | (with_reducible refine bstep ?_ (by assumption)) | (with_reducible refine bset ?_ ?_ _) | (exact Below.size (by assumption)) | go_size))⟩
            by_cases h2 : j < p + 1
            · exact hO.out j h2
            · have h3 : j = p + 1 := by omega
              subst h3
              intro hjl
              refine ⟨by rw [HZ.out]; exact HV.out, fun _ => ?_⟩
              have h4 := HY.out
              simp only [Nat.add_sub_cancel, h4]
              rw [HZ.out]
              exact HL.out.1 hc
          case measure => simp [intOf]; omega
        · have g1 : decide (0 ≤ cv) = true := by simp; omega
          obtain rfl : q = false := by
            rw [← HQ.out]
            refine bookB_false (k := p + 1) (by omega) (fun h => ?_)
            have h1 := (h (by omega)).2 (by omega)
            rw [HZ.out] at h1
            have h2 := HY.out
            simp only [Nat.add_sub_cancel, h2] at h1
            exact hc (HL.out.2 h1)
          go_wp2
          (refine wp_region_bel (by kernel_rfl) (by kernel_rfl) ?_; (repeat (go_big_quiet_step ((first | (go_at_call 38; exact calls_bel (isNote_is hw _ (HR.out.below (bstep (balloc (Below.refl _ _) _) (below_bel _ _))) hX.out hmm hws)) | (go_at_call 39; exact calls_bel (compareNotes_of hcv _)))))); refine wpQuiet_nil ?_; intro w' hw'; have hb := below_of hw'; clear hw'; (try clear cW fW zW); (first | (have bW := bstep bW hb) | (have bW := bstep (bdrew bW) hb) | (have bW := bstep (balloc bW _) hb) | (have bW := bstep (bdrewN bW _) hb) | (have bW := hb)); clear hb; obtain ⟨cW, fW⟩ := bcell bW; have zW := bsize bW)
          go_wp2
          go_ret
          exact ⟨rfl, by (repeat' (first | (with_reducible exact Below.refl _ _) | (with_reducible assumption) | (with_reducible refine balloc ?_ _) | (with_reducible refine bdrew ?_) | (with_reducible refine bdrewN ?_ _) | (with_reducible refine bstep ?_ (by assumption)) | (with_reducible refine bset ?_ ?_ _) | (exact Below.size (by assumption)) | go_size))⟩
    · have e : k = n := by omega
      have hq2 : q = (inB units 2 4 && decide ((k : Int) ≤ 12)) := by rw [← HQ.out, bookB_true (by rw [hl, ← e]; exact hO.out), hl, e]
      rcases hu : inB units 2 4 with _ | _
      · obtain rfl : q = false := by rw [hq2, hu]; rfl
        clear hq2
        go_wp2_with (first | (go_at_call 40; refine (in_of false hu _).mono ?_; rintro e w' ⟨rfl, rfl⟩))
        go_ret
        exact ⟨rfl, hW⟩
      · obtain rfl : q = decide ((k : Int) ≤ 12) := by rw [hq2, hu]; rfl
        clear hq2
        subst e
        go_wp2_with (first | (go_at_call 40; refine (in_of true hu _).mono ?_; rintro e w' ⟨rfl, rfl⟩))
        go_ret
        exact ⟨rfl, hW⟩
theorem l17Good_is {q : Bool} {units : Int} {A : Option Addr} {n c : Nat} {Z : List NoteV} (hq : bookB units Z = q) (w : World) (hr : RdN w A n Z) (hn : n ≤ 1048576) (hm : ∀ i, i < n → (nAt Z i).2.2.1.length ≤ 1048576 ∧ (nAt Z i).2.2.2.size ≤ maxLen) :
    Calls Try.prog 37 #[.int .i64 units, .slice A n c] w fun e w' => e = .returned (.bool q) ∧ Below w.heap.size w w' := by
  have HQ := Lib.hid hq
  have hl := hr.1
  clear hq
  go_enter Try.func37, Try.ntmps37
  go_wp2
  go_loopw [5] (fun i wr => ∃ k : Nat, k ≤ n ∧ i = .int .i64 k ∧ Hid (∀ j, j < k → inB units 2 4 = true ∧ okN units Z j) ∧ Below w.heap.size w wr) (fun i _ => n - (intOf i).toNat)
  case atStart => exact ⟨0, Nat.zero_le _, rfl, fun j hj => absurd hj (Nat.not_lt_zero _), Below.refl _ _⟩
  case round =>
    obtain ⟨k, hk, rfl, hO, hW⟩ := hrel
    by_cases hlt : k < n
    · by_cases h12 : k ≤ 12
      case neg =>
        have hb : ¬ (Z.length : Int) ≤ 12 := by omega
        obtain rfl : q = false := by rw [← HQ.out]; exact bookB_long hb
        have g9 : decide ((n : Int) ≤ 12) = false := by simp; omega
        rcases hu : inB units 2 4 with _ | _
        · go_wp2_with (first | (go_at_call 59; refine (l1In_of false hu _).mono ?_; rintro e w' ⟨rfl, rfl⟩))
          go_ret
          exact ⟨rfl, hW⟩
        · go_wp2_with (first | (go_at_call 59; refine (l1In_of true hu _).mono ?_; rintro e w' ⟨rfl, rfl⟩))
          go_ret
          exact ⟨rfl, hW⟩
      have hsz := hW.size
      obtain ⟨b, off, u, s, Ar, m, cr, xs, wd, rfl, hbl, hx, hxm, hrow, c0, c1, c2, c3⟩ := hr.at_ hW hlt
      obtain ⟨hmm, hws⟩ := hm k hlt
      rw [hx] at hmm hws
      simp only [hxm] at hmm hws
      have s1 : b < wr.heap.size := Nat.lt_of_lt_of_le hbl hW.size
      have HZ := Lib.hid hx
      have hX := Lib.hid hxm
      have HR := Lib.hid hrow
      clear hx hxm hrow
      rcases hw : (inB units 2 4 && notB units u s xs wd) with _ | _
      · obtain rfl : q = false := by
          rw [← HQ.out]
          rcases hu : inB units 2 4 with _ | _
          · exact bookB_units hu
          · refine bookB_false (k := k) (by omega) (fun h => ?_)
            have h1 := (h (by omega)).1
            rw [HZ.out] at h1
            rw [hu] at hw
            simp only [nP] at h1
            rw [h1] at hw
            cases hw
        go_wp2
        (refine wp_region_bel (by kernel_rfl) (by kernel_rfl) ?_; (repeat (go_big_quiet_step ((first | (go_at_call 42; exact calls_bel (l17Single_is hw _ (HR.out.below (below_bel _ _)) hX.out hmm hws)))))); refine wpQuiet_nil ?_; intro w' hw'; have hb := below_of hw'; clear hw'; (try clear cW fW zW); (first | (have bW := bstep bW hb) | (have bW := bstep (bdrew bW) hb) | (have bW := bstep (balloc bW _) hb) | (have bW := bstep (bdrewN bW _) hb) | (have bW := hb)); clear hb; obtain ⟨cW, fW⟩ := bcell bW; have zW := bsize bW)
        go_wp2
        go_ret
        exact ⟨rfl, by (repeat' (first | (with_reducible exact Below.refl _ _) | (with_reducible assumption) | (with_reducible refine balloc ?_ _) | (with_reducible refine bdrew ?_) | (with_reducible refine bdrewN ?_ _) | (with_reducible refine bstep ?_ (by assumption)) | (with_reducible refine bset ?_ ?_ _) | (exact Below.size (by assumption)) | go_size))⟩
      have hwv : inB units 2 4 = true ∧ nP units (u, s, xs, wd) = true := by simpa [nP] using hw
      obtain ⟨hwu, hwn⟩ := hwv
      obtain ⟨n2, n4⟩ := inB_iff.1 hwu
      obtain ⟨_, _, ⟨u0, u1⟩, ⟨v0, v1⟩, _, _⟩ := nP_bd hwn
      have HU := Lib.hid hwu
      have HV := Lib.hid hwn
      clear hwu hwn
      rcases Nat.eq_zero_or_pos k with h0 | h0
      · have g0 : decide (0 < k) = false := by simp; omega
        have H0 := Lib.hid h0
        clear h0
        go_wp2
        (refine wp_region_bel (by kernel_rfl) (by kernel_rfl) ?_; (repeat (go_big_quiet_step ((first | (go_at_call 42; exact calls_bel (l17Single_is hw _ (HR.out.below (below_bel _ _)) hX.out hmm hws)))))); refine wpQuiet_nil ?_; intro w' hw'; have hb := below_of hw'; clear hw'; (try clear cW fW zW); (first | (have bW := bstep bW hb) | (have bW := bstep (bdrew bW) hb) | (have bW := bstep (balloc bW _) hb) | (have bW := bstep (bdrewN bW _) hb) | (have bW := hb)); clear hb; obtain ⟨cW, fW⟩ := bcell bW; have zW := bsize bW)
        go_wp2
        go_roundw
        case rel =>
          refine ⟨k + 1, by omega, by go_num, (show Hid _ from fun j hj => ⟨HU.out, fun hjl => ?_⟩), by (repeat' (first | (with_reducible exact Below.refl _ _) | (with_reducible assumption) | (with_reducible refine balloc ?_ _) | (with_reducible refine bdrew ?_) | (with_reducible refine bdrewN ?_ _) | (with_reducible refine bstep ?_ (by assumption)) | (with_reducible refine bset ?_ ?_ _) | (exact Below.size (by assumption)) | go_size))⟩
          have h1 := H0.out
          have h2 : j = k := by omega
          subst h2
          refine ⟨?_, fun h => by omega⟩
          rw [HZ.out]; exact HV.out
        case measure => simp [intOf]; omega
      · obtain ⟨p, rfl⟩ : ∃ p, k = p + 1 := ⟨k - 1, by omega⟩
        obtain ⟨b', off', u', s', Ar', m', cr', xs', wd', hbe, hbl', hy, _, _, d0, d1, d2, d3⟩ := hr.at_ (k := p) hW (by omega)
        simp only [Option.some.injEq, Addr.mk.injEq, and_true] at hbe
        obtain ⟨rfl, rfl⟩ := hbe
        have hpn : nP units (u', s', xs', wd') = true := by have := ((hO.out p (by omega)).2 (by omega)).1; rw [hy] at this; exact this
        obtain ⟨_, _, ⟨u0', u1'⟩, ⟨v0', v1'⟩, _, _⟩ := nP_bd hpn
        have HY := Lib.hid hy
        clear hy hpn
        have i1 : (p : Int) < (n : Int) := by omega
        obtain ⟨cv, hcv⟩ : ∃ cv, (u' - u) * 100 + s' - s = cv := ⟨_, rfl⟩
        have hlt2 : cv < 0 ↔ (u' < u ∨ (u' = u ∧ s' < s)) := by omega
        have HL := Lib.hid hlt2
        have hcv2 := Lib.hid hcv
        have o1 : 0 ≤ u' ∧ u' ≤ 1000 := by omega
        have o2 : 0 ≤ u ∧ u ≤ 1000 := by omega
        have o3 : 0 ≤ s' ∧ s' ≤ 1000 := by omega
        have o4 : 0 ≤ s ∧ s ≤ 1000 := by omega
        have HC := fun W => l17Order_of (A := Ar') (n := m') (c := cr') (wd := wd') (A2 := Ar) (n2 := m) (c2 := cr) (wd2 := wd) hcv W o1 o2 o3 o4
        by_cases hc : cv < 0
        · have g1 : decide (0 ≤ cv) = false := by simp; omega
          clear hlt2 hcv o1 o2 o3 o4
          go_wp2
          (refine wp_region_bel (by kernel_rfl) (by kernel_rfl) ?_; (repeat (go_big_quiet_step ((first | (go_at_call 42; exact calls_bel (l17Single_is hw _ (HR.out.below (below_bel _ _)) hX.out hmm hws)) | (go_at_call 43; exact calls_bel (HC _)))))); refine wpQuiet_nil ?_; intro w' hw'; have hb := below_of hw'; clear hw'; (try clear cW fW zW); (first | (have bW := bstep bW hb) | (have bW := bstep (bdrew bW) hb) | (have bW := bstep (balloc bW _) hb) | (have bW := bstep (bdrewN bW _) hb) | (have bW := hb)); clear hb; obtain ⟨cW, fW⟩ := bcell bW; have zW := bsize bW)
          go_wp2
          go_roundw
          case rel =>
            refine ⟨p + 1 + 1, by omega, by go_num, (show Hid _ from fun j hj => ?_), by (repeat' (first | (with_reducible exact Below.refl _ _) | (with_reducible assumption) | (with_reducible refine balloc ?_ _) | (with_reducible refine bdrew ?_) | (with_reducible refine bdrewN ?_ _) | (with_reducible refine bstep ?_ (by assumption)) | (with_reducible refine bset ?_ ?_ _) | (exact Below.size (by assumption)) | go_size))⟩
            by_cases h2 : j < p + 1
            · exact hO.out j h2
            · have h3 : j = p + 1 := by omega
              subst h3
              refine ⟨HU.out, fun hjl => ⟨by rw [HZ.out]; exact HV.out, fun _ => ?_⟩⟩
              have h4 := HY.out
              simp only [Nat.add_sub_cancel, h4]
              rw [HZ.out]
              exact HL.out.1 hc
          case measure => simp [intOf]; omega
        · have g1 : decide (0 ≤ cv) = true := by simp; omega
          obtain rfl : q = false := by
            rw [← HQ.out]
            refine bookB_false (k := p + 1) (by omega) (fun h => ?_)
            have h1 := (h (by omega)).2 (by omega)
            rw [HZ.out] at h1
            have h2 := HY.out
            simp only [Nat.add_sub_cancel, h2] at h1
            exact hc (HL.out.2 h1)
          clear hlt2 hcv o1 o2 o3 o4
          go_wp2
          (refine wp_region_bel (by kernel_rfl) (by kernel_rfl) ?_; (repeat (go_big_quiet_step ((first | (go_at_call 42; exact calls_bel (l17Single_is hw _ (HR.out.below (below_bel _ _)) hX.out hmm hws)) | (go_at_call 43; exact calls_bel (HC _)))))); refine wpQuiet_nil ?_; intro w' hw'; have hb := below_of hw'; clear hw'; (try clear cW fW zW); (first | (have bW := bstep bW hb) | (have bW := bstep (bdrew bW) hb) | (have bW := bstep (balloc bW _) hb) | (have bW := bstep (bdrewN bW _) hb) | (have bW := hb)); clear hb; obtain ⟨cW, fW⟩ := bcell bW; have zW := bsize bW)
          go_wp2
          go_ret
          exact ⟨rfl, by (repeat' (first | (with_reducible exact Below.refl _ _) | (with_reducible assumption) | (with_reducible refine balloc ?_ _) | (with_reducible refine bdrew ?_) | (with_reducible refine bdrewN ?_ _) | (with_reducible refine bstep ?_ (by assumption)) | (with_reducible refine bset ?_ ?_ _) | (exact Below.size (by assumption)) | go_size))⟩
    · have e : k = n := by omega
      have hq2 : q = (inB units 2 4 && decide ((k : Int) ≤ 12)) := by rw [← HQ.out, bookB_true (by rw [hl, ← e]; exact fun j hj => (hO.out j hj).2), hl, e]
      rcases hu : inB units 2 4 with _ | _
      · obtain rfl : q = false := by rw [hq2, hu]; rfl
        clear hq2
        go_wp2_with (first | (go_at_call 59; refine (l1In_of false hu _).mono ?_; rintro e w' ⟨rfl, rfl⟩))
        go_ret
        exact ⟨rfl, hW⟩
      · obtain rfl : q = decide ((k : Int) ≤ 12) := by rw [hq2, hu]; rfl
        clear hq2
        subst e
        go_wp2_with (first | (go_at_call 59; refine (l1In_of true hu _).mono ?_; rintro e w' ⟨rfl, rfl⟩))
        go_ret
        exact ⟨rfl, hW⟩
theorem sIsNotebook_is {q : Bool} {units : Int} {A : Option Addr} {n c : Nat} {Z : List NoteV} (hq : bookB units Z = q) (w : World) (hr : RdN w A n Z) (hn : n ≤ 1048576) (hm : ∀ i, i < n → (nAt Z i).2.2.1.length ≤ 1048576 ∧ (nAt Z i).2.2.2.size ≤ maxLen) :
    Calls Try.prog 11 #[.int .i64 units, .slice A n c] w fun e w' => e = .returned (.bool q) ∧ Below w.heap.size w w' := by
  have h := l17Good_is (c := c) hq w hr hn hm
  go_enter Try.func11, Try.ntmps11
  go_wp2_with fail
  refine h.mono ?_
  rintro e w1 ⟨rfl, b1⟩
  go_wp2
  go_returns
  exact ⟨rfl, b1⟩
end Go.Proofs.Ythgabapegpndnaa
