/-
  Stores: the program's and the reference's test. Conditions: lengths within the bound of a slice.
-/
import Derived.Test.YtaekngiejehooaaR
namespace Go.Proofs.Ytaekngiejehooaa
open Go.RowKit
set_option maxRecDepth 100000
set_option maxHeartbeats 4000000

theorem bytes_flip : ∀ x y : List UInt8, (Op.bytesLess x y || x == y) = !(Op.bytesLess y x)
  | [], [] => rfl
  | [], _ :: _ => rfl
  | _ :: _, [] => rfl
  | a :: x, b :: y => by
    have ih := bytes_flip x y
    simp only [Op.bytesLess]
    rcases Nat.lt_trichotomy a.toNat b.toNat with h | h | h
    · have h1 : a < b := UInt8.lt_iff_toNat_lt.2 h
      have h2 : ¬ b < a := fun h' => by have := UInt8.lt_iff_toNat_lt.1 h'; omega
      have h3 : (b == a) = false := by
        rw [Bool.eq_false_iff]; intro h'
        have : b = a := by simpa using h'
        subst this; omega
      simp [h1, h2, h3]
    · have h1 : a = b := UInt8.toNat_inj.1 h
      subst h1
      have h2 : ¬ a < a := fun h' => by have := UInt8.lt_iff_toNat_lt.1 h'; omega
      simp only [h2, decide_false, Bool.false_or, BEq.rfl, Bool.true_and]
      rw [← ih]
      congr 1
      rw [Bool.eq_iff_iff]
      simp
    · have h1 : b < a := UInt8.lt_iff_toNat_lt.2 h
      have h2 : ¬ a < b := fun h' => by have := UInt8.lt_iff_toNat_lt.1 h'; omega
      have h3 : a ≠ b := fun h' => by subst h'; omega
      simp [h1, h2, h3]
theorem less_or {x y : ByteArray} (h : Op.bytesLess y.toList x.toList = false) : (Op.bytesLess x.toList y.toList || x.toList == y.toList) = true := by rw [bytes_flip, h]; rfl
theorem less_nor {x y : ByteArray} (h : Op.bytesLess y.toList x.toList = true) : (Op.bytesLess x.toList y.toList || x.toList == y.toList) = false := by rw [bytes_flip, h]; rfl
/-- place k of the store is valid, and its kind is greater than that before -/
def okS (zs : List StockT) (k : Nat) : Prop := ∀ h : k < zs.length, stkB zs[k].1 zs[k].2 = true ∧ (0 < k → Op.bytesLess (zs[k - 1]'(by omega)).1.toList zs[k].1.toList = true)
noncomputable def storeB (zs : List StockT) : Bool := @decide ((∀ k, k < zs.length → okS zs k) ∧ (zs.length : Int) ≤ 10) (Classical.propDecidable _)
theorem storeB_iff {zs : List StockT} : storeB zs = true ↔ (∀ k, k < zs.length → okS zs k) ∧ (zs.length : Int) ≤ 10 := by
  unfold storeB; exact @decide_eq_true_iff _ (Classical.propDecidable _)
theorem storeB_true {zs : List StockT} (h : ∀ k, k < zs.length → okS zs k) : storeB zs = decide ((zs.length : Int) ≤ 10) := by
  rw [Bool.eq_iff_iff, storeB_iff, decide_eq_true_iff]
  exact ⟨fun x => x.2, fun x => ⟨h, x⟩⟩
theorem storeB_false {zs : List StockT} {k : Nat} (hk : k < zs.length) (h : ¬ okS zs k) : storeB zs = false := by
  rw [Bool.eq_false_iff]
  exact fun x => h ((storeB_iff.1 x).1 k hk)
theorem isWord_iw {s : ByteArray} (q : Bool) (hq : wordB s = q) (w : World) (hs : s.size ≤ maxLen) : Calls Try.prog 42 #[.string s] w fun e w' => e = .returned (.bool q) ∧ Below w.heap.size w w' := (isWord_is q hq w hs).mono fun _ _ h => ⟨h.1, h.2 ▸ Below.refl _ _⟩
theorem l2Word_iw {s : ByteArray} (q : Bool) (hq : wordB s = q) (w : World) (hs : s.size ≤ maxLen) : Calls Try.prog 62 #[.string s] w fun e w' => e = .returned (.bool q) ∧ Below w.heap.size w w' := (l2Word_is q hq w hs).mono fun _ _ h => ⟨h.1, h.2 ▸ Below.refl _ _⟩
theorem in_iw {n lo hi : Int} (v : Bool) (h : inB n lo hi = v) (w : World) : Calls Try.prog 43 #[.int .i64 n, .int .i64 lo, .int .i64 hi] w fun e w' => e = .returned (.bool v) ∧ Below w.heap.size w w' := by rw [← h]; exact (in_any n lo hi w).mono fun _ _ h => ⟨h.1, h.2 ▸ Below.refl _ _⟩
theorem l1In_iw {n lo hi : Int} (v : Bool) (h : inB n lo hi = v) (w : World) : Calls Try.prog 54 #[.int .i64 n, .int .i64 lo, .int .i64 hi] w fun e w' => e = .returned (.bool v) ∧ Below w.heap.size w w' := by rw [← h]; exact (l1In_any n lo hi w).mono fun _ _ h => ⟨h.1, h.2 ▸ Below.refl _ _⟩
theorem IsStore_is {q : Bool} {A : Option Addr} {n c : Nat} {zs : List StockT} (hq : storeB zs = q) (w : World) (hr : Rd w 2 A n (stkF zs)) (hl : zs.length = n) (hn : n ≤ 140737488355328) (hz9 : ∀ z ∈ zs, z.1.size ≤ maxLen) :
    Calls Try.prog 13 #[.slice A n c] w fun e w' => e = .returned (.bool q) ∧ Below w.heap.size w w' := by
  have HQ := Lib.hid hq
  clear hq
  go_enter Try.func13, Try.ntmps13
  go_wp2
  go_loopw [7] (fun i wr => ∃ k : Nat, k ≤ n ∧ i = .int .i64 k ∧ Hid (∀ j, j < k → okS zs j) ∧ Below w.heap.size w wr) (fun i _ => n - (intOf i).toNat)
  case atStart => exact ⟨0, Nat.zero_le _, rfl, fun j hj => absurd hj (Nat.not_lt_zero _), Below.refl _ _⟩
  case round =>
    obtain ⟨k, hk, rfl, hO, hW⟩ := hrel
    by_cases hlt : k < n
    · have hsz := hW.size
      obtain ⟨b, off, rfl, hbl, x0, x1, hz, c0, c1⟩ := stk_at hr hW hl hlt
      have s1 : b < wr.heap.size := Nat.lt_of_lt_of_le hbl hW.size
      have hx9 : x0.size ≤ maxLen := by
        have h := hz9 _ (List.getElem_mem (l := zs) (n := k) (by omega))
        rw [hz] at h; exact h
      have HZ := Lib.hid hz
      clear hz
      rcases hw : wordB x0 with _ | _
      · obtain rfl : q = false := by
          rw [← HQ.out]
          refine storeB_false (k := k) (by omega) (fun h => ?_)
          have h1 := (h (by omega)).1
          rw [HZ.out] at h1
          simp [stkB, hw] at h1
        go_wp2
        (refine wp_region_bel (by kernel_rfl) (by kernel_rfl) ?_; (repeat (go_big_quiet_step ((first | (go_at_call 42; exact calls_bel (isWord_iw false hw _ hx9)))))); refine wpQuiet_nil ?_; intro w' hw'; have hb := below_of hw'; clear hw'; (try clear cW fW zW); (first | (have bW := bstep bW hb) | (have bW := bstep (bdrew bW) hb) | (have bW := bstep (balloc bW _) hb) | (have bW := bstep (bdrewN bW _) hb) | (have bW := hb)); clear hb; obtain ⟨cW, fW⟩ := bcell bW; have zW := bsize bW)
        go_wp2
        go_ret
        exact ⟨rfl, by (repeat' (first | (with_reducible exact Below.refl _ _) | (with_reducible assumption) | (with_reducible refine balloc ?_ _) | (with_reducible refine bdrew ?_) | (with_reducible refine bdrewN ?_ _) | (with_reducible refine bstep ?_ (by assumption)) | (with_reducible refine bset ?_ ?_ _) | (exact Below.size (by assumption)) | go_size))⟩
      rcases hv : inB x1 0 99 with _ | _
      · obtain rfl : q = false := by
          rw [← HQ.out]
          refine storeB_false (k := k) (by omega) (fun h => ?_)
          have h1 := (h (by omega)).1
          rw [HZ.out] at h1
          simp [stkB, hv] at h1
        go_wp2
        (refine wp_region_bel (by kernel_rfl) (by kernel_rfl) ?_; (repeat (go_big_quiet_step ((first | (go_at_call 42; exact calls_bel (isWord_iw true hw _ hx9)) | (go_at_call 43; exact calls_bel (in_iw false hv _)))))); refine wpQuiet_nil ?_; intro w' hw'; have hb := below_of hw'; clear hw'; (try clear cW fW zW); (first | (have bW := bstep bW hb) | (have bW := bstep (bdrew bW) hb) | (have bW := bstep (balloc bW _) hb) | (have bW := bstep (bdrewN bW _) hb) | (have bW := hb)); clear hb; obtain ⟨cW, fW⟩ := bcell bW; have zW := bsize bW)
        go_wp2
        go_ret
        exact ⟨rfl, by (repeat' (first | (with_reducible exact Below.refl _ _) | (with_reducible assumption) | (with_reducible refine balloc ?_ _) | (with_reducible refine bdrew ?_) | (with_reducible refine bdrewN ?_ _) | (with_reducible refine bstep ?_ (by assumption)) | (with_reducible refine bset ?_ ?_ _) | (exact Below.size (by assumption)) | go_size))⟩
      have hok : stkB x0 x1 = true := by simp [stkB, hw, hv]
      have HK := Lib.hid hok
      clear hok
      rcases Nat.eq_zero_or_pos k with h0 | h0
      · have g0 : decide (0 < k) = false := by simp; omega
        have H0 := Lib.hid h0
        clear h0
        go_wp2
        (refine wp_region_bel (by kernel_rfl) (by kernel_rfl) ?_; (repeat (go_big_quiet_step ((first | (go_at_call 42; exact calls_bel (isWord_iw true hw _ hx9)) | (go_at_call 43; exact calls_bel (in_iw true hv _)))))); refine wpQuiet_nil ?_; intro w' hw'; have hb := below_of hw'; clear hw'; (try clear cW fW zW); (first | (have bW := bstep bW hb) | (have bW := bstep (bdrew bW) hb) | (have bW := bstep (balloc bW _) hb) | (have bW := bstep (bdrewN bW _) hb) | (have bW := hb)); clear hb; obtain ⟨cW, fW⟩ := bcell bW; have zW := bsize bW)
        go_wp2
        go_roundw
        case rel =>
          refine ⟨k + 1, by omega, by go_num, (show Hid _ from fun j hj hjl => ?_), by (repeat' (first | (with_reducible exact Below.refl _ _) | (with_reducible assumption) | (with_reducible refine balloc ?_ _) | (with_reducible refine bdrew ?_) | (with_reducible refine bdrewN ?_ _) | (with_reducible refine bstep ?_ (by assumption)) | (with_reducible refine bset ?_ ?_ _) | (exact Below.size (by assumption)) | go_size))⟩
          have h1 := H0.out
          have h2 : j = k := by omega
          subst h2
          refine ⟨?_, fun h => by omega⟩
          rw [HZ.out]; exact HK.out
        case measure => simp [intOf]; omega
      · obtain ⟨p, rfl⟩ : ∃ p, k = p + 1 := ⟨k - 1, by omega⟩
        obtain ⟨b', off', hbe, hbl', y0, y1, hy, d0, d1⟩ := stk_at (k := p) hr hW hl (by omega)
        simp only [Option.some.injEq, Addr.mk.injEq, and_true] at hbe
        obtain ⟨rfl, rfl⟩ := hbe
        have HY := Lib.hid hy
        clear hy
        have i1 : (p : Int) < (n : Int) := by omega
        rcases hlt2 : Op.bytesLess y0.toList x0.toList with _ | _
        · have g1 := less_or hlt2
          obtain rfl : q = false := by
            rw [← HQ.out]
            refine storeB_false (k := p + 1) (by omega) (fun h => ?_)
            have h1 := (h (by omega)).2 (by omega)
            rw [HZ.out] at h1
            have h2 := HY.out
            simp only [Nat.add_sub_cancel, h2, hlt2] at h1
            cases h1
          go_wp2
          (refine wp_region_bel (by kernel_rfl) (by kernel_rfl) ?_; (repeat (go_big_quiet_step ((first | (go_at_call 42; exact calls_bel (isWord_iw true hw _ hx9)) | (go_at_call 43; exact calls_bel (in_iw true hv _)))))); refine wpQuiet_nil ?_; intro w' hw'; have hb := below_of hw'; clear hw'; (try clear cW fW zW); (first | (have bW := bstep bW hb) | (have bW := bstep (bdrew bW) hb) | (have bW := bstep (balloc bW _) hb) | (have bW := bstep (bdrewN bW _) hb) | (have bW := hb)); clear hb; obtain ⟨cW, fW⟩ := bcell bW; have zW := bsize bW)
          go_wp2
          go_ret
          exact ⟨rfl, by (repeat' (first | (with_reducible exact Below.refl _ _) | (with_reducible assumption) | (with_reducible refine balloc ?_ _) | (with_reducible refine bdrew ?_) | (with_reducible refine bdrewN ?_ _) | (with_reducible refine bstep ?_ (by assumption)) | (with_reducible refine bset ?_ ?_ _) | (exact Below.size (by assumption)) | go_size))⟩
        · have g1 := less_nor hlt2
          have HL := Lib.hid hlt2
          clear hlt2
          go_wp2
          (refine wp_region_bel (by kernel_rfl) (by kernel_rfl) ?_; (repeat (go_big_quiet_step ((first | (go_at_call 42; exact calls_bel (isWord_iw true hw _ hx9)) | (go_at_call 43; exact calls_bel (in_iw true hv _)))))); refine wpQuiet_nil ?_; intro w' hw'; have hb := below_of hw'; clear hw'; (try clear cW fW zW); (first | (have bW := bstep bW hb) | (have bW := bstep (bdrew bW) hb) | (have bW := bstep (balloc bW _) hb) | (have bW := bstep (bdrewN bW _) hb) | (have bW := hb)); clear hb; obtain ⟨cW, fW⟩ := bcell bW; have zW := bsize bW)
          go_wp2
          go_roundw
          case rel =>
            refine ⟨p + 1 + 1, by omega, by go_num, (show Hid _ from fun j hj => ?_), by (repeat' (first | (with_reducible exact Below.refl _ _) | (with_reducible assumption) | (with_reducible refine balloc ?_ _) | (with_reducible refine bdrew ?_) | (with_reducible refine bdrewN ?_ _) | (with_reducible refine bstep ?_ (by assumption)) | (with_reducible refine bset ?_ ?_ _) | (exact Below.size (by assumption)) | go_size))⟩
            by_cases h2 : j < p + 1
            · exact hO.out j h2
            · have h3 : j = p + 1 := by omega
              subst h3
              intro hjl
              refine ⟨by rw [HZ.out]; exact HK.out, fun _ => ?_⟩
              have h4 := HY.out
              simp only [Nat.add_sub_cancel, h4]
              rw [HZ.out]
              exact HL.out
          case measure => simp [intOf]; omega
    · have e : k = n := by omega
      obtain rfl : q = decide ((k : Int) ≤ 10) := by rw [← HQ.out, storeB_true (by rw [hl, ← e]; exact hO.out), hl, e]
      go_wp2
      go_ret
      subst e
      exact ⟨rfl, hW⟩
theorem l15Store_is {q : Bool} {A : Option Addr} {n c : Nat} {zs : List StockT} (hq : storeB zs = q) (w : World) (hr : Rd w 2 A n (stkF zs)) (hl : zs.length = n) (hn : n ≤ 140737488355328) (hz9 : ∀ z ∈ zs, z.1.size ≤ maxLen) :
    Calls Try.prog 40 #[.slice A n c] w fun e w' => e = .returned (.bool q) ∧ Below w.heap.size w w' := by
  have HQ := Lib.hid hq
  clear hq
  go_enter Try.func40, Try.ntmps40
  go_wp2
  go_loopw [3] (fun i wr => ∃ k : Nat, k ≤ n ∧ i = .int .i64 k ∧ Hid (∀ j, j < k → okS zs j) ∧ Below w.heap.size w wr) (fun i _ => n - (intOf i).toNat)
  case atStart => exact ⟨0, Nat.zero_le _, rfl, fun j hj => absurd hj (Nat.not_lt_zero _), Below.refl _ _⟩
  case round =>
    obtain ⟨k, hk, rfl, hO, hW⟩ := hrel
    by_cases hlt : k < n
    · have hsz := hW.size
      obtain ⟨b, off, rfl, hbl, x0, x1, hz, c0, c1⟩ := stk_at hr hW hl hlt
      have s1 : b < wr.heap.size := Nat.lt_of_lt_of_le hbl hW.size
      have hx9 : x0.size ≤ maxLen := by
        have h := hz9 _ (List.getElem_mem (l := zs) (n := k) (by omega))
        rw [hz] at h; exact h
      have HZ := Lib.hid hz
      clear hz
      rcases hw : wordB x0 with _ | _
      · obtain rfl : q = false := by
          rw [← HQ.out]
          refine storeB_false (k := k) (by omega) (fun h => ?_)
          have h1 := (h (by omega)).1
          rw [HZ.out] at h1
          simp [stkB, hw] at h1
        go_wp2
        (refine wp_region_bel (by kernel_rfl) (by kernel_rfl) ?_; (repeat (go_big_quiet_step ((first | (go_at_call 62; exact calls_bel (l2Word_iw false hw _ hx9)))))); refine wpQuiet_nil ?_; intro w' hw'; have hb := below_of hw'; clear hw'; (try clear cW fW zW); (first | (have bW := bstep bW hb) | (have bW := bstep (bdrew bW) hb) | (have bW := bstep (balloc bW _) hb) | (have bW := bstep (bdrewN bW _) hb) | (have bW := hb)); clear hb; obtain ⟨cW, fW⟩ := bcell bW; have zW := bsize bW)
        go_wp2
        go_ret
        exact ⟨rfl, by (repeat' (first | (with_reducible exact Below.refl _ _) | (with_reducible assumption) | (with_reducible refine balloc ?_ _) | (with_reducible refine bdrew ?_) | (with_reducible refine bdrewN ?_ _) | (with_reducible refine bstep ?_ (by assumption)) | (with_reducible refine bset ?_ ?_ _) | (exact Below.size (by assumption)) | go_size))⟩
      rcases hv : inB x1 0 99 with _ | _
      · obtain rfl : q = false := by
          rw [← HQ.out]
          refine storeB_false (k := k) (by omega) (fun h => ?_)
          have h1 := (h (by omega)).1
          rw [HZ.out] at h1
          simp [stkB, hv] at h1
        go_wp2
        (refine wp_region_bel (by kernel_rfl) (by kernel_rfl) ?_; (repeat (go_big_quiet_step ((first | (go_at_call 62; exact calls_bel (l2Word_iw true hw _ hx9)) | (go_at_call 54; exact calls_bel (l1In_iw false hv _)))))); refine wpQuiet_nil ?_; intro w' hw'; have hb := below_of hw'; clear hw'; (try clear cW fW zW); (first | (have bW := bstep bW hb) | (have bW := bstep (bdrew bW) hb) | (have bW := bstep (balloc bW _) hb) | (have bW := bstep (bdrewN bW _) hb) | (have bW := hb)); clear hb; obtain ⟨cW, fW⟩ := bcell bW; have zW := bsize bW)
        go_wp2
        go_ret
        exact ⟨rfl, by (repeat' (first | (with_reducible exact Below.refl _ _) | (with_reducible assumption) | (with_reducible refine balloc ?_ _) | (with_reducible refine bdrew ?_) | (with_reducible refine bdrewN ?_ _) | (with_reducible refine bstep ?_ (by assumption)) | (with_reducible refine bset ?_ ?_ _) | (exact Below.size (by assumption)) | go_size))⟩
      have hok : stkB x0 x1 = true := by simp [stkB, hw, hv]
      have HK := Lib.hid hok
      clear hok
      rcases Nat.eq_zero_or_pos k with h0 | h0
      · have g0 : decide (0 < k) = false := by simp; omega
        have H0 := Lib.hid h0
        clear h0
        go_wp2
        (refine wp_region_bel (by kernel_rfl) (by kernel_rfl) ?_; (repeat (go_big_quiet_step ((first | (go_at_call 62; exact calls_bel (l2Word_iw true hw _ hx9)) | (go_at_call 54; exact calls_bel (l1In_iw true hv _)))))); refine wpQuiet_nil ?_; intro w' hw'; have hb := below_of hw'; clear hw'; (try clear cW fW zW); (first | (have bW := bstep bW hb) | (have bW := bstep (bdrew bW) hb) | (have bW := bstep (balloc bW _) hb) | (have bW := bstep (bdrewN bW _) hb) | (have bW := hb)); clear hb; obtain ⟨cW, fW⟩ := bcell bW; have zW := bsize bW)
        go_wp2
        go_roundw
        case rel =>
          refine ⟨k + 1, by omega, by go_num, (show Hid _ from fun j hj hjl => ?_), by (repeat' (first | (with_reducible exact Below.refl _ _) | (with_reducible assumption) | (with_reducible refine balloc ?_ _) | (with_reducible refine bdrew ?_) | (with_reducible refine bdrewN ?_ _) | (with_reducible refine bstep ?_ (by assumption)) | (with_reducible refine bset ?_ ?_ _) | (exact Below.size (by assumption)) | go_size))⟩
          have h1 := H0.out
          have h2 : j = k := by omega
          subst h2
          refine ⟨?_, fun h => by omega⟩
          rw [HZ.out]; exact HK.out
        case measure => simp [intOf]; omega
      · obtain ⟨p, rfl⟩ : ∃ p, k = p + 1 := ⟨k - 1, by omega⟩
        obtain ⟨b', off', hbe, hbl', y0, y1, hy, d0, d1⟩ := stk_at (k := p) hr hW hl (by omega)
        simp only [Option.some.injEq, Addr.mk.injEq, and_true] at hbe
        obtain ⟨rfl, rfl⟩ := hbe
        have HY := Lib.hid hy
        clear hy
        have i1 : (p : Int) < (n : Int) := by omega
        rcases hlt2 : Op.bytesLess y0.toList x0.toList with _ | _
        · skip
          obtain rfl : q = false := by
            rw [← HQ.out]
            refine storeB_false (k := p + 1) (by omega) (fun h => ?_)
            have h1 := (h (by omega)).2 (by omega)
            rw [HZ.out] at h1
            have h2 := HY.out
            simp only [Nat.add_sub_cancel, h2, hlt2] at h1
            cases h1
          go_wp2
          (refine wp_region_bel (by kernel_rfl) (by kernel_rfl) ?_; (repeat (go_big_quiet_step ((first | (go_at_call 62; exact calls_bel (l2Word_iw true hw _ hx9)) | (go_at_call 54; exact calls_bel (l1In_iw true hv _)))))); refine wpQuiet_nil ?_; intro w' hw'; have hb := below_of hw'; clear hw'; (try clear cW fW zW); (first | (have bW := bstep bW hb) | (have bW := bstep (bdrew bW) hb) | (have bW := bstep (balloc bW _) hb) | (have bW := bstep (bdrewN bW _) hb) | (have bW := hb)); clear hb; obtain ⟨cW, fW⟩ := bcell bW; have zW := bsize bW)
          go_wp2
          go_ret
          exact ⟨rfl, by (repeat' (first | (with_reducible exact Below.refl _ _) | (with_reducible assumption) | (with_reducible refine balloc ?_ _) | (with_reducible refine bdrew ?_) | (with_reducible refine bdrewN ?_ _) | (with_reducible refine bstep ?_ (by assumption)) | (with_reducible refine bset ?_ ?_ _) | (exact Below.size (by assumption)) | go_size))⟩
        · skip
          have HL := Lib.hid hlt2
          go_wp2
          (refine wp_region_bel (by kernel_rfl) (by kernel_rfl) ?_; (repeat (go_big_quiet_step ((first | (go_at_call 62; exact calls_bel (l2Word_iw true hw _ hx9)) | (go_at_call 54; exact calls_bel (l1In_iw true hv _)))))); refine wpQuiet_nil ?_; intro w' hw'; have hb := below_of hw'; clear hw'; (try clear cW fW zW); (first | (have bW := bstep bW hb) | (have bW := bstep (bdrew bW) hb) | (have bW := bstep (balloc bW _) hb) | (have bW := bstep (bdrewN bW _) hb) | (have bW := hb)); clear hb; obtain ⟨cW, fW⟩ := bcell bW; have zW := bsize bW)
          go_wp2
          go_roundw
          case rel =>
            refine ⟨p + 1 + 1, by omega, by go_num, (show Hid _ from fun j hj => ?_), by (repeat' (first | (with_reducible exact Below.refl _ _) | (with_reducible assumption) | (with_reducible refine balloc ?_ _) | (with_reducible refine bdrew ?_) | (with_reducible refine bdrewN ?_ _) | (with_reducible refine bstep ?_ (by assumption)) | (with_reducible refine bset ?_ ?_ _) | (exact Below.size (by assumption)) | go_size))⟩
            by_cases h2 : j < p + 1
            · exact hO.out j h2
            · have h3 : j = p + 1 := by omega
              subst h3
              intro hjl
              refine ⟨by rw [HZ.out]; exact HK.out, fun _ => ?_⟩
              have h4 := HY.out
              simp only [Nat.add_sub_cancel, h4]
              rw [HZ.out]
              exact HL.out
          case measure => simp [intOf]; omega
    · have e : k = n := by omega
      obtain rfl : q = decide ((k : Int) ≤ 10) := by rw [← HQ.out, storeB_true (by rw [hl, ← e]; exact hO.out), hl, e]
      go_wp2
      go_ret
      subst e
      exact ⟨rfl, hW⟩
theorem sIsStore_is {q : Bool} {A : Option Addr} {n c : Nat} {zs : List StockT} (hq : storeB zs = q) (w : World) (hr : Rd w 2 A n (stkF zs)) (hl : zs.length = n) (hn : n ≤ 140737488355328) (hz9 : ∀ z ∈ zs, z.1.size ≤ maxLen) :
    Calls Try.prog 11 #[.slice A n c] w fun e w' => e = .returned (.bool q) ∧ Below w.heap.size w w' := by
  have hA := l15Store_is (c := c) hq w hr hl hn hz9
  go_enter Try.func11, Try.ntmps11
  go_wp2_with fail
  refine hA.mono ?_
  rintro e w1 ⟨rfl, b1⟩
  go_wp2
  go_returns
  exact ⟨rfl, b1⟩
end Go.Proofs.Ytaekngiejehooaa
