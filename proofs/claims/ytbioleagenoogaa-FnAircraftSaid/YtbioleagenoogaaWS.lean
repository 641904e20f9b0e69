/-
  FewestFor of the reference. Conditions: lengths within the bound of a slice.
-/
import Derived.Test.YtbioleagenoogaaWP
import Derived.Maps.AppendAt
import Derived.Test.YtbioleagenoogaaQT
import Derived.Test.YtbioleagenoogaaP
namespace Go.Proofs.Ytbioleagenoogaa
open Go Go.RowKit
set_option maxRecDepth 100000
set_option maxHeartbeats 4000000

theorem lexI_drop {xs ys : List Int} {k : Nat} (h1 : k < xs.length) (h2 : k < ys.length) : lexI (xs.drop k) (ys.drop k) = if xs[k] = ys[k] then lexI (xs.drop (k + 1)) (ys.drop (k + 1)) else decide (xs[k] < ys[k]) := by
  rw [List.drop_eq_getElem_cons h1, List.drop_eq_getElem_cons h2]
  rfl
theorem l14Less_is {v : Bool} {A B : Option Addr} {n m c d : Nat} {xs ys : List Int} (hv : lesI xs ys = v) (w : World) (hx : Rd w 1 A n (ints xs)) (hy : Rd w 1 B m (ints ys)) (hl : xs.length = n) (hl2 : ys.length = m) (hn : n ≤ 1048576) (hm : m ≤ 1048576) :
    Calls Try.prog 42 #[.slice A n c, .slice B m d] w fun e w' => e = .returned (.bool v) ∧ Below w.heap.size w w' := by
  by_cases hnm : n = m
  · subst hnm
    have hv2 : lexI xs ys = v := by rw [← hv]; unfold lesI; rw [if_pos (by omega)]
    have HV := Lib.hid hv2
    clear hv hv2
    go_enter Try.func42, Try.ntmps42
    go_wp2
    go_loopw [5] (fun i wr => ∃ k : Nat, k ≤ n ∧ i = .int .i64 k ∧ Hid (lexI (xs.drop k) (ys.drop k) = v) ∧ Below w.heap.size w wr) (fun i _ => n - (intOf i).toNat)
    case atStart => exact ⟨0, Nat.zero_le _, rfl, Lib.hid (by simpa using HV.out), Below.refl _ _⟩
    case round =>
      obtain ⟨k, hk, rfl, hE, hW⟩ := hrel
      by_cases hlt : k < n
      · obtain ⟨b1, o1, x, rfl, hb1, hxk, g1⟩ := ints_at hx hW hl hlt
        obtain ⟨b2, o2, y, rfl, hb2, hyk, g2⟩ := ints_at hy hW hl2 hlt
        have i1 : (0 : Int) ≤ (k : Int) := by omega
        have i2 : (k : Int) < (n : Int) := by omega
        have hst := hE.out
        rw [lexI_drop (by omega) (by omega), hxk, hyk] at hst
        by_cases hq : x = y
        · rw [if_pos hq] at hst
          have HS := Lib.hid hst
          have hq1 : (x != y) = false := by simp [hq]
          clear hq hst hxk hyk
          go_wp2
          go_quiet (fail)
          go_wp2
          go_roundw
          case rel => exact ⟨k + 1, by omega, by go_num, HS, by (repeat' (first | (with_reducible exact Below.refl _ _) | (with_reducible assumption) | (with_reducible refine balloc ?_ _) | (with_reducible refine bdrew ?_) | (with_reducible refine bdrewN ?_ _) | (with_reducible refine bstep ?_ (by assumption)) | (with_reducible refine bset ?_ ?_ _) | (exact Below.size (by assumption)) | go_size))⟩
          case measure => simp [intOf]; omega
        · rw [if_neg hq] at hst
          have HS := Lib.hid hst
          have hq1 : (x != y) = true := by simp [hq]
          clear hq hst hxk hyk
          go_wp2
          go_quiet (fail)
          go_wp2
          go_quiet (fail)
          go_wp2
          go_ret
          exact ⟨by simp [HS.out], by (repeat' (first | (with_reducible exact Below.refl _ _) | (with_reducible assumption) | (with_reducible refine balloc ?_ _) | (with_reducible refine bdrew ?_) | (with_reducible refine bdrewN ?_ _) | (with_reducible refine bstep ?_ (by assumption)) | (with_reducible refine bset ?_ ?_ _) | (exact Below.size (by assumption)) | go_size))⟩
      · have e : k = n := by omega
        subst e
        have h : false = v := by
          have h := hE.out
          rw [List.drop_of_length_le (by omega), List.drop_of_length_le (by omega)] at h
          exact h
        subst h
        go_wp2
        go_ret
        exact ⟨rfl, hW⟩
  · have hv2 : decide (n < m) = v := by rw [← hv]; unfold lesI; rw [if_neg (by omega), hl, hl2]
    have i1 : ((n : Int) == (m : Int)) = false := by simp; omega
    have HV := Lib.hid hv2
    clear hv hv2
    go_enter Try.func42, Try.ntmps42
    go_wp2
    go_ret
    exact ⟨by simp [HV.out], by (repeat' (first | (with_reducible exact Below.refl _ _) | (with_reducible assumption) | (with_reducible refine balloc ?_ _) | (with_reducible refine bdrew ?_) | (with_reducible refine bdrewN ?_ _) | (with_reducible refine bstep ?_ (by assumption)) | (with_reducible refine bset ?_ ?_ _) | (exact Below.size (by assumption)) | go_size))⟩
end Go.Proofs.Ytbioleagenoogaa
