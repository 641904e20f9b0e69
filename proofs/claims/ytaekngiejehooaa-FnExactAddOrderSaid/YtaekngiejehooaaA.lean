/-
  Words, orders and stock: the tests of one. Conditions: the length of a string.
-/
import Derived.Test.YtaekngiejehooaaN
import Derived.Test.YtaekngiejehooaaP
import Derived.WalkLawsBesides
namespace Go.Proofs.Ytaekngiejehooaa
open Go.RowKit
set_option maxRecDepth 100000
set_option maxHeartbeats 1000000

def lowC (c : UInt8) : Bool := decide (97 ≤ (c.toNat : Int)) && decide ((c.toNat : Int) ≤ 122)
def wordB (s : ByteArray) : Bool := s.data.toList.all lowC && inB (s.size : Int) 1 10
theorem low_no {s : ByteArray} {k : Nat} (h : k < s.size) (hc : lowC s[k] = false) : wordB s = false := by
  unfold wordB
  have e : s.data.toList.all lowC = false := by
    rw [List.all_eq_false]
    refine ⟨s.data.toList[k]'(by simpa using h), List.getElem_mem _, ?_⟩
    show ¬ lowC s[k] = true
    rw [hc]; simp
  rw [e]; rfl
theorem low_step {s : ByteArray} {k : Nat} (h : k < s.size) (ha : (s.data.toList.take k).all lowC = true) (hc : lowC s[k] = true) : (s.data.toList.take (k + 1)).all lowC = true := by
  rw [List.take_succ_eq_append_getElem (by simpa using h), List.all_append, ha]
  show (true && (lowC s[k] && true)) = true
  rw [hc]; rfl
theorem isWord_is {s : ByteArray} (q : Bool) (hq : wordB s = q) (w : World) (hs : s.size ≤ maxLen) : Calls Try.prog 42 #[.string s] w fun e w' => e = .returned (.bool q) ∧ w = w' := by
  have HQ := Lib.hid hq
  clear hq
  unfold maxLen at hs
  go_enter Try.func42, Try.ntmps42
  go_wp2
  go_loop [6] (fun i => ∃ k : Nat, k ≤ s.size ∧ i = .int .i64 k ∧ (s.data.toList.take k).all lowC = true) (fun i => s.size - (intOf i).toNat)
  case atStart => exact ⟨0, Nat.zero_le _, rfl, by simp⟩
  case round =>
    obtain ⟨k, hk, rfl, ha⟩ := hrel
    by_cases hlt : k < s.size
    · rcases hc : lowC s[k] with _ | _
      · obtain rfl : q = false := by rw [← HQ.out]; exact low_no hlt hc
        by_cases h1 : (s[k].toNat : Int) < 97
        · go_wp2
          go_returns
          exact ⟨rfl, rfl⟩
        · have h2 : (122 : Int) < s[k].toNat := by
            simp only [lowC, Bool.and_eq_false_iff, decide_eq_false_iff_not] at hc
            omega
          go_wp2
          go_returns
          exact ⟨rfl, rfl⟩
      · have hn := low_step hlt ha hc
        have h1 : ¬ (s[k].toNat : Int) < 97 ∧ ¬ (122 : Int) < s[k].toNat := by
          simp only [lowC, Bool.and_eq_true, decide_eq_true_eq] at hc
          omega
        obtain ⟨h1, h2⟩ := h1
        have HN := Lib.hid hn
        clear hn ha
        go_wp2
        go_round
        case rel => exact ⟨k + 1, by omega, by go_num, HN.out⟩
        case measure => simp [intOf]; omega
    · have e : wordB s = inB (s.size : Int) 1 10 := by
        unfold wordB
        rw [List.take_of_length_le (by simp; omega)] at ha
        rw [ha]; rfl
      obtain rfl : q = inB (s.size : Int) 1 10 := by rw [← HQ.out, e]
      clear e ha
      go_wp2_with (first | (go_at_call 43; refine (in_any _ _ _ _).mono ?_; rintro e w' ⟨rfl, rfl⟩))
      go_returns
      exact ⟨rfl, rfl⟩
theorem l2Word_is {s : ByteArray} (q : Bool) (hq : wordB s = q) (w : World) (hs : s.size ≤ maxLen) : Calls Try.prog 62 #[.string s] w fun e w' => e = .returned (.bool q) ∧ w = w' := by
  have HQ := Lib.hid hq
  clear hq
  unfold maxLen at hs
  go_enter Try.func62, Try.ntmps62
  go_wp2
  go_loop [3] (fun i => ∃ k : Nat, k ≤ s.size ∧ i = .int .i64 k ∧ (s.data.toList.take k).all lowC = true) (fun i => s.size - (intOf i).toNat)
  case atStart => exact ⟨0, Nat.zero_le _, rfl, by simp⟩
  case round =>
    obtain ⟨k, hk, rfl, ha⟩ := hrel
    by_cases hlt : k < s.size
    · rcases hc : lowC s[k] with _ | _
      · obtain rfl : q = false := by rw [← HQ.out]; exact low_no hlt hc
        by_cases h1 : (s[k].toNat : Int) < 97
        · go_wp2
          go_returns
          exact ⟨rfl, rfl⟩
        · have h2 : (122 : Int) < s[k].toNat := by
            simp only [lowC, Bool.and_eq_false_iff, decide_eq_false_iff_not] at hc
            omega
          go_wp2
          go_returns
          exact ⟨rfl, rfl⟩
      · have hn := low_step hlt ha hc
        have h1 : ¬ (s[k].toNat : Int) < 97 ∧ ¬ (122 : Int) < s[k].toNat := by
          simp only [lowC, Bool.and_eq_true, decide_eq_true_eq] at hc
          omega
        obtain ⟨h1, h2⟩ := h1
        have HN := Lib.hid hn
        clear hn ha
        go_wp2
        go_round
        case rel => exact ⟨k + 1, by omega, by go_num, HN.out⟩
        case measure => simp [intOf]; omega
    · have e : wordB s = inB (s.size : Int) 1 10 := by
        unfold wordB
        rw [List.take_of_length_le (by simp; omega)] at ha
        rw [ha]; rfl
      obtain rfl : q = inB (s.size : Int) 1 10 := by rw [← HQ.out, e]
      clear e ha
      go_wp2_with (first | (go_at_call 54; refine (l1In_any _ _ _ _).mono ?_; rintro e w' ⟨rfl, rfl⟩))
      go_returns
      exact ⟨rfl, rfl⟩
def ordB (i : Int) (k : ByteArray) (c u t : Int) : Bool := inB i 1 999 && (wordB k && (inB c 1 99 && (inB u 1 5 && inB t 0 9999)))
def stkB (k : ByteArray) (c : Int) : Bool := wordB k && inB c 0 99
theorem isOrder_any (i : Int) (k : ByteArray) (c u t : Int) (w : World) (hs : k.size ≤ maxLen) : Calls Try.prog 47 #[.agg #[.int .i64 i, .string k, .int .i64 c, .int .i64 u, .int .i64 t]] w fun e w' => e = .returned (.bool (ordB i k c u t)) ∧ Below w.heap.size w w' := by
  go_enter Try.func47, Try.ntmps47
  go_wp2_with (first | (go_at_call 43; refine (in_any _ _ _ _).mono ?_; rintro e w' ⟨rfl, rfl⟩) | (go_at_call 42; refine (isWord_is _ rfl _ hs).mono ?_; rintro e w' ⟨rfl, rfl⟩) | (go_at_call 55; refine (isTick_any _ _).mono ?_; rintro e w' ⟨rfl, rfl⟩))
  all_goals (go_returns; exact ⟨by simp [ordB, *], by (repeat' (first | (with_reducible exact Below.refl _ _) | (with_reducible assumption) | (with_reducible refine balloc ?_ _) | (with_reducible refine bdrew ?_) | (with_reducible refine bdrewN ?_ _) | (with_reducible refine bstep ?_ (by assumption)) | (with_reducible refine bset ?_ ?_ _) | (exact Below.size (by assumption)) | go_size))⟩)
theorem l15One_any (i : Int) (k : ByteArray) (c u t : Int) (w : World) (hs : k.size ≤ maxLen) : Calls Try.prog 63 #[.agg #[.int .i64 i, .string k, .int .i64 c, .int .i64 u, .int .i64 t]] w fun e w' => e = .returned (.bool (ordB i k c u t)) ∧ Below w.heap.size w w' := by
  go_enter Try.func63, Try.ntmps63
  go_wp2_with (first | (go_at_call 54; refine (l1In_any _ _ _ _).mono ?_; rintro e w' ⟨rfl, rfl⟩) | (go_at_call 62; refine (l2Word_is _ rfl _ hs).mono ?_; rintro e w' ⟨rfl, rfl⟩) | (go_at_call 53; refine (l4Tick_any _ _).mono ?_; rintro e w' ⟨rfl, rfl⟩))
  all_goals (go_returns; exact ⟨by simp [ordB, *], by (repeat' (first | (with_reducible exact Below.refl _ _) | (with_reducible assumption) | (with_reducible refine balloc ?_ _) | (with_reducible refine bdrew ?_) | (with_reducible refine bdrewN ?_ _) | (with_reducible refine bstep ?_ (by assumption)) | (with_reducible refine bset ?_ ?_ _) | (exact Below.size (by assumption)) | go_size))⟩)
theorem toOrder_any (i : Int) (k : ByteArray) (c u t : Int) (w : World) : Calls Try.prog 28 #[.agg #[.int .i64 i, .string k, .int .i64 c, .int .i64 u, .int .i64 t]] w fun e w' => e = .returned (.agg #[.int .i64 i, .string k, .int .i64 c, .int .i64 u, .int .i64 t]) ∧ Below w.heap.size w w' := by
  go_enter Try.func28, Try.ntmps28
  go_wp2
  (refine bodyPost_ret (by simp (maxDischargeDepth := 4) [results, Try.results28, go_sem, *]; try rfl) rfl ?_)
  exact ⟨rfl, by (repeat' (first | (with_reducible exact Below.refl _ _) | (with_reducible assumption) | (with_reducible refine balloc ?_ _) | (with_reducible refine bdrew ?_) | (with_reducible refine bdrewN ?_ _) | (with_reducible refine bstep ?_ (by assumption)) | (with_reducible refine bset ?_ ?_ _) | (exact Below.size (by assumption)) | go_size))⟩
theorem toStock_any (k : ByteArray) (c : Int) (w : World) : Calls Try.prog 41 #[.agg #[.string k, .int .i64 c]] w fun e w' => e = .returned (.agg #[.string k, .int .i64 c]) ∧ Below w.heap.size w w' := by
  go_enter Try.func41, Try.ntmps41
  go_wp2
  (refine bodyPost_ret (by simp (maxDischargeDepth := 4) [results, Try.results41, go_sem, *]; try rfl) rfl ?_)
  exact ⟨rfl, by (repeat' (first | (with_reducible exact Below.refl _ _) | (with_reducible assumption) | (with_reducible refine balloc ?_ _) | (with_reducible refine bdrew ?_) | (with_reducible refine bdrewN ?_ _) | (with_reducible refine bstep ?_ (by assumption)) | (with_reducible refine bset ?_ ?_ _) | (exact Below.size (by assumption)) | go_size))⟩
end Go.Proofs.Ytaekngiejehooaa
