/-
  The walks of the moisture chapter's functions without loops: each returns what the plain Lean function beside it computes. Conditions: none, or the bounds that stand in the statement.
-/
import Derived.Test.YtlnfccncbfpoiaaChecked
import Derived.Test.YtlnfccncbfpoiaaOpen
import Derived.Test.YtlnfccncbfpoiaaK
import Derived.WalkKit
import Derived.WalkSpells
import Derived.WalkLawsBesides
import Derived.Handy
namespace Go.Proofs.Ytlnfccncbfpoiaa
open Go.RowKit
set_option maxHeartbeats 1000000

def bedB (l m : Int) : Bool := inB l 1 100 && inB m 0 400
theorem isMoisture_any (m : Int) (w : World) : Calls Try.prog 40 #[.int .i64 m] w fun e w' => e = .returned (.bool (inB m 0 400)) ∧ w = w' := by
  go_enter Try.func40, Try.ntmps40
  go_wp2_with (first | (go_at_call 39; refine (in_any _ _ _ _).mono ?_; rintro e w' ⟨rfl, rfl⟩))
  all_goals (go_returns; exact ⟨by simp [*], rfl⟩)
theorem l20Moist_any (m : Int) (w : World) : Calls Try.prog 50 #[.int .i64 m] w fun e w' => e = .returned (.bool (inB m 0 400)) ∧ w = w' := by
  go_enter Try.func50, Try.ntmps50
  go_wp2_with (first | (go_at_call 58; refine (l1In_any _ _ _ _).mono ?_; rintro e w' ⟨rfl, rfl⟩))
  all_goals (go_returns; exact ⟨by simp [*], rfl⟩)
theorem IsFuelbed_any (l m : Int) (w : World) : Calls Try.prog 9 #[.agg #[.int .i64 l, .int .i64 m]] w fun e w' => e = .returned (.bool (bedB l m)) ∧ Below w.heap.size w w' := by
  go_enter Try.func9, Try.ntmps9
  go_wp2_with (first | (go_at_call 39; refine (in_any _ _ _ _).mono ?_; rintro e w' ⟨rfl, rfl⟩) | (go_at_call 40; refine (isMoisture_any _ _).mono ?_; rintro e w' ⟨rfl, rfl⟩))
  all_goals (go_returns; exact ⟨by simp [bedB, *], by (repeat' (first | (with_reducible exact Below.refl _ _) | (with_reducible assumption) | (with_reducible refine balloc ?_ _) | (with_reducible refine bdrew ?_) | (with_reducible refine bdrewN ?_ _) | (with_reducible refine bstep ?_ (by assumption)) | (with_reducible refine bset ?_ ?_ _) | (exact Below.size (by assumption)) | go_size))⟩)
theorem l20Bed_any (l m : Int) (w : World) : Calls Try.prog 36 #[.agg #[.int .i64 l, .int .i64 m]] w fun e w' => e = .returned (.bool (bedB l m)) ∧ Below w.heap.size w w' := by
  go_enter Try.func36, Try.ntmps36
  go_wp2_with (first | (go_at_call 58; refine (l1In_any _ _ _ _).mono ?_; rintro e w' ⟨rfl, rfl⟩) | (go_at_call 50; refine (l20Moist_any _ _).mono ?_; rintro e w' ⟨rfl, rfl⟩))
  all_goals (go_returns; exact ⟨by simp [bedB, *], by (repeat' (first | (with_reducible exact Below.refl _ _) | (with_reducible assumption) | (with_reducible refine balloc ?_ _) | (with_reducible refine bdrew ?_) | (with_reducible refine bdrewN ?_ _) | (with_reducible refine bstep ?_ (by assumption)) | (with_reducible refine bset ?_ ?_ _) | (exact Below.size (by assumption)) | go_size))⟩)
theorem sIsFuelbed_any (l m : Int) (w : World) : Calls Try.prog 10 #[.agg #[.int .i64 l, .int .i64 m]] w fun e w' => e = .returned (.bool (bedB l m)) ∧ Below w.heap.size w w' := by
  go_enter Try.func10, Try.ntmps10
  go_wp2_with (first | (go_at_call 36; refine (l20Bed_any _ _ _).mono ?_; rintro e w' ⟨rfl, hb⟩))
  all_goals (go_returns; exact ⟨by simp [*], by (repeat' (first | (with_reducible exact Below.refl _ _) | (with_reducible assumption) | (with_reducible refine balloc ?_ _) | (with_reducible refine bdrew ?_) | (with_reducible refine bdrewN ?_ _) | (with_reducible refine bstep ?_ (by assumption)) | (with_reducible refine bset ?_ ?_ _) | (exact Below.size (by assumption)) | go_size))⟩)
theorem ret_ib {k : IntKind} {a b : Int} {x y : Bool} (h : a = b) (h' : x = y) : Ending.returned (.tuple #[.int k a, .bool x]) = .returned (.tuple #[.int k b, .bool y]) := by rw [h, h']

def classI (m : Int) : Int := if m < 60 then 0 else if m < 120 then 1 else if m < 250 then 2 else 3
theorem classI_bd (m : Int) : 0 ≤ classI m ∧ classI m ≤ 3 := by unfold classI; repeat' split <;> omega
theorem classOf_any (m : Int) (w : World) : Calls Try.prog 51 #[.int .i64 m] w fun e w' => e = .returned (.int .i64 (classI m)) ∧ w = w' := by
  go_enter Try.func51, Try.ntmps51
  go_wp2
  all_goals (go_returns; exact ⟨ret_int (by unfold classI; repeat' split <;> omega), rfl⟩)
theorem l20Class_any (m : Int) (w : World) : Calls Try.prog 52 #[.int .i64 m] w fun e w' => e = .returned (.int .i64 (classI m)) ∧ w = w' := by
  go_enter Try.func52, Try.ntmps52
  go_wp2
  all_goals (go_returns; exact ⟨ret_int (by unfold classI; repeat' split <;> omega), rfl⟩)
def classOfI (m : Int) : Int := if inB m 0 400 then classI m else 0
theorem ClassOf_any (m : Int) (w : World) : Calls Try.prog 26 #[.int .i64 m] w fun e w' => e = .returned (.tuple #[.int .i64 (classOfI m), .bool (inB m 0 400)]) ∧ w = w' := by
  go_enter Try.func26, Try.ntmps26
  go_wp2_with (first | (go_at_call 40; refine (isMoisture_any _ _).mono ?_; rintro e w' ⟨rfl, rfl⟩) | (go_at_call 51; refine (classOf_any _ _).mono ?_; rintro e w' ⟨rfl, rfl⟩))
  all_goals (go_returns; exact ⟨by simp_all [classOfI], rfl⟩)
theorem sClassOf_any (m : Int) (w : World) : Calls Try.prog 28 #[.int .i64 m] w fun e w' => e = .returned (.tuple #[.int .i64 (classOfI m), .bool (inB m 0 400)]) ∧ w = w' := by
  go_enter Try.func28, Try.ntmps28
  go_wp2_with (first | (go_at_call 50; refine (l20Moist_any _ _).mono ?_; rintro e w' ⟨rfl, rfl⟩) | (go_at_call 52; refine (l20Class_any _ _).mono ?_; rintro e w' ⟨rfl, rfl⟩))
  all_goals (go_returns; exact ⟨by simp_all [classOfI], rfl⟩)

def airB (h t r : Int) : Bool := inB h 0 100 && inB t (-20) 50 && inB r 0 50
theorem airB_bd {h t r : Int} (hb : airB h t r = true) : 0 ≤ h ∧ h ≤ 100 ∧ -20 ≤ t ∧ t ≤ 50 ∧ 0 ≤ r ∧ r ≤ 50 := by
  simp [airB, inB] at hb; omega
theorem isAir_any (h t r : Int) (w : World) : Calls Try.prog 34 #[.agg #[.int .i64 h, .int .i64 t, .int .i64 r]] w fun e w' => e = .returned (.bool (airB h t r)) ∧ Below w.heap.size w w' := by
  go_enter Try.func34, Try.ntmps34
  go_wp2_with (first | (go_at_call 39; refine (in_any _ _ _ _).mono ?_; rintro e w' ⟨rfl, rfl⟩))
  all_goals (go_returns; exact ⟨by simp [airB, *], by (repeat' (first | (with_reducible exact Below.refl _ _) | (with_reducible assumption) | (with_reducible refine balloc ?_ _) | (with_reducible refine bdrew ?_) | (with_reducible refine bdrewN ?_ _) | (with_reducible refine bstep ?_ (by assumption)) | (with_reducible refine bset ?_ ?_ _) | (exact Below.size (by assumption)) | go_size))⟩)
theorem l20Air_any (h t r : Int) (w : World) : Calls Try.prog 37 #[.agg #[.int .i64 h, .int .i64 t, .int .i64 r]] w fun e w' => e = .returned (.bool (airB h t r)) ∧ Below w.heap.size w w' := by
  go_enter Try.func37, Try.ntmps37
  go_wp2_with (first | (go_at_call 58; refine (l1In_any _ _ _ _).mono ?_; rintro e w' ⟨rfl, rfl⟩))
  all_goals (go_returns; exact ⟨by simp [airB, *], by (repeat' (first | (with_reducible exact Below.refl _ _) | (with_reducible assumption) | (with_reducible refine balloc ?_ _) | (with_reducible refine bdrew ?_) | (with_reducible refine bdrewN ?_ _) | (with_reducible refine bstep ?_ (by assumption)) | (with_reducible refine bset ?_ ?_ _) | (exact Below.size (by assumption)) | go_size))⟩)
def balI (h t r : Int) : Int := if 0 < r then 400 else min 400 (max 10 (30 + 3 * h - t))
theorem balI_bd (h t r : Int) : 10 ≤ balI h t r ∧ balI h t r ≤ 400 := by unfold balI; split <;> omega
theorem l20Balance_any (h t r : Int) (hb : airB h t r = true) (w : World) : Calls Try.prog 42 #[.agg #[.int .i64 h, .int .i64 t, .int .i64 r]] w fun e w' => e = .returned (.int .i64 (balI h t r)) ∧ Below w.heap.size w w' := by
  obtain ⟨b1, b2, b3, b4, b5, b6⟩ := airB_bd hb
  clear hb
  go_enter Try.func42, Try.ntmps42
  go_wp2_with (first | (go_at_call 62; refine (l1Least_any _ _ _).mono ?_; rintro e w' ⟨rfl, rfl⟩) | (go_at_call 61; refine (l1Most_any _ _ _).mono ?_; rintro e w' ⟨rfl, rfl⟩))
  all_goals (go_returns; exact ⟨ret_int (by unfold balI; split <;> omega), by (repeat' (first | (with_reducible exact Below.refl _ _) | (with_reducible assumption) | (with_reducible refine balloc ?_ _) | (with_reducible refine bdrew ?_) | (with_reducible refine bdrewN ?_ _) | (with_reducible refine bstep ?_ (by assumption)) | (with_reducible refine bset ?_ ?_ _) | (exact Below.size (by assumption)) | go_size))⟩)
theorem balance_any (h t r : Int) (hb : airB h t r = true) (w : World) : Calls Try.prog 41 #[.agg #[.int .i64 h, .int .i64 t, .int .i64 r]] w fun e w' => e = .returned (.int .i64 (balI h t r)) ∧ Below w.heap.size w w' := by
  obtain ⟨b1, b2, b3, b4, b5, b6⟩ := airB_bd hb
  clear hb
  go_enter Try.func41, Try.ntmps41
  go_wp2
  all_goals (go_returns; exact ⟨ret_int (by unfold balI; split <;> omega), by (repeat' (first | (with_reducible exact Below.refl _ _) | (with_reducible assumption) | (with_reducible refine balloc ?_ _) | (with_reducible refine bdrew ?_) | (with_reducible refine bdrewN ?_ _) | (with_reducible refine bstep ?_ (by assumption)) | (with_reducible refine bset ?_ ?_ _) | (exact Below.size (by assumption)) | go_size))⟩)
def balOfI (h t r : Int) : Int := if airB h t r then balI h t r else 0
theorem BalanceOf_any (h t r : Int) (w : World) : Calls Try.prog 11 #[.agg #[.int .i64 h, .int .i64 t, .int .i64 r]] w fun e w' => e = .returned (.tuple #[.int .i64 (balOfI h t r), .bool (airB h t r)]) ∧ Below w.heap.size w w' := by
  rcases hB : airB h t r with _ | _
  all_goals
    go_enter Try.func11, Try.ntmps11
    go_wp2_with (first | (go_at_call 34; refine (isAir_any _ _ _ _).mono ?_; rintro e w' ⟨rfl, hb⟩; (try clear cW fW zW); (first | (have bW := bstep bW hb) | (have bW := bstep (bdrew bW) hb) | (have bW := bstep (balloc bW _) hb) | (have bW := bstep (bdrewN bW _) hb) | (have bW := hb)); clear hb; obtain ⟨cW, fW⟩ := bcell bW; have zW := bsize bW) | (go_at_call 41; refine (balance_any _ _ _ (by assumption) _).mono ?_; rintro e w' ⟨rfl, hb⟩; (try clear cW fW zW); (first | (have bW := bstep bW hb) | (have bW := bstep (bdrew bW) hb) | (have bW := bstep (balloc bW _) hb) | (have bW := bstep (bdrewN bW _) hb) | (have bW := hb)); clear hb; obtain ⟨cW, fW⟩ := bcell bW; have zW := bsize bW))
    go_returns; exact ⟨by simp [balOfI, hB], by (repeat' (first | (with_reducible exact Below.refl _ _) | (with_reducible assumption) | (with_reducible refine balloc ?_ _) | (with_reducible refine bdrew ?_) | (with_reducible refine bdrewN ?_ _) | (with_reducible refine bstep ?_ (by assumption)) | (with_reducible refine bset ?_ ?_ _) | (exact Below.size (by assumption)) | go_size))⟩
theorem sBalanceOf_any (h t r : Int) (w : World) : Calls Try.prog 12 #[.agg #[.int .i64 h, .int .i64 t, .int .i64 r]] w fun e w' => e = .returned (.tuple #[.int .i64 (balOfI h t r), .bool (airB h t r)]) ∧ Below w.heap.size w w' := by
  rcases hB : airB h t r with _ | _
  all_goals
    go_enter Try.func12, Try.ntmps12
    go_wp2_with (first | (go_at_call 37; refine (l20Air_any _ _ _ _).mono ?_; rintro e w' ⟨rfl, hb⟩; (try clear cW fW zW); (first | (have bW := bstep bW hb) | (have bW := bstep (bdrew bW) hb) | (have bW := bstep (balloc bW _) hb) | (have bW := bstep (bdrewN bW _) hb) | (have bW := hb)); clear hb; obtain ⟨cW, fW⟩ := bcell bW; have zW := bsize bW) | (go_at_call 42; refine (l20Balance_any _ _ _ (by assumption) _).mono ?_; rintro e w' ⟨rfl, hb⟩; (try clear cW fW zW); (first | (have bW := bstep bW hb) | (have bW := bstep (bdrew bW) hb) | (have bW := bstep (balloc bW _) hb) | (have bW := bstep (bdrewN bW _) hb) | (have bW := hb)); clear hb; obtain ⟨cW, fW⟩ := bcell bW; have zW := bsize bW))
    go_returns; exact ⟨by simp [balOfI, hB], by (repeat' (first | (with_reducible exact Below.refl _ _) | (with_reducible assumption) | (with_reducible refine balloc ?_ _) | (with_reducible refine bdrew ?_) | (with_reducible refine bdrewN ?_ _) | (with_reducible refine bstep ?_ (by assumption)) | (with_reducible refine bset ?_ ?_ _) | (exact Below.size (by assumption)) | go_size))⟩
end Go.Proofs.Ytlnfccncbfpoiaa
