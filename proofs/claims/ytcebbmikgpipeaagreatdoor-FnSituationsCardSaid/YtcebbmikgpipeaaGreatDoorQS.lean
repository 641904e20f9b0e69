/-
  The states of situations; SituationText in one piece. Conditions: the library's table reads as its program's text lays it.
-/
import Derived.Test.YtcebbmikgpipeaaGreatDoorQE
import Derived.Test.YtcebbmikgpipeaaGreatDoorCG
import Derived.Test.YtcebbmikgpipeaaGreatDoorRB
import Derived.Laws.StructEq
namespace Go.Proofs.YtcebbmikgpipeaaGreatDoor
open Go Go.RowKit
set_option maxRecDepth 100000
set_option maxHeartbeats 8000000

/-- the bytes of a state's name -/
def stateS (d : Int) : ByteArray := if (d == 100) = true then ⟨#[111, 117, 116]⟩ else if 60 ≤ d then ⟨#[104, 101, 108, 100]⟩ else ⟨#[102, 114, 101, 101]⟩
theorem ret_str {a b : ByteArray} (h : a = b) : Ending.returned (.string a) = .returned (.string b) := by rw [h]
theorem state_any (a b c d e f : Int) (w : World) : Calls Tryz.prog 34 #[.agg #[.int .i64 a, .int .i64 b, .int .i64 c, .int .i64 d, .int .i64 e, .int .i64 f]] w fun r w' => r = .returned (.string (stateS d)) ∧ Below w.heap.size w w' := by
  go_enter Tryz.func34, Tryz.ntmps34
  go_wp2
  · go_returns
    exact ⟨ret_str (by unfold stateS; rw [if_pos (by assumption)]), by (repeat' (first | (with_reducible exact Below.refl _ _) | (with_reducible assumption) | (with_reducible refine balloc ?_ _) | (with_reducible refine bdrew ?_) | (with_reducible refine bdrewN ?_ _) | (with_reducible refine bstep ?_ (by assumption)) | (with_reducible refine bset ?_ ?_ _) | (exact Below.size (by assumption)) | go_size))⟩
  · go_returns
    exact ⟨ret_str (by unfold stateS; rw [if_neg (by simp_all), if_pos (by assumption)]), by (repeat' (first | (with_reducible exact Below.refl _ _) | (with_reducible assumption) | (with_reducible refine balloc ?_ _) | (with_reducible refine bdrew ?_) | (with_reducible refine bdrewN ?_ _) | (with_reducible refine bstep ?_ (by assumption)) | (with_reducible refine bset ?_ ?_ _) | (exact Below.size (by assumption)) | go_size))⟩
  · go_returns
    exact ⟨ret_str (by unfold stateS; rw [if_neg (by simp_all), if_neg (by omega)]), by (repeat' (first | (with_reducible exact Below.refl _ _) | (with_reducible assumption) | (with_reducible refine balloc ?_ _) | (with_reducible refine bdrew ?_) | (with_reducible refine bdrewN ?_ _) | (with_reducible refine bstep ?_ (by assumption)) | (with_reducible refine bset ?_ ?_ _) | (exact Below.size (by assumption)) | go_size))⟩
theorem l18State_any (a b c d e f : Int) (w : World) : Calls Tryz.prog 35 #[.agg #[.int .i64 a, .int .i64 b, .int .i64 c, .int .i64 d, .int .i64 e, .int .i64 f]] w fun r w' => r = .returned (.string (stateS d)) ∧ Below w.heap.size w w' := by
  go_enter Tryz.func35, Tryz.ntmps35
  go_wp2
  · go_returns
    exact ⟨ret_str (by unfold stateS; rw [if_pos (by assumption)]), by (repeat' (first | (with_reducible exact Below.refl _ _) | (with_reducible assumption) | (with_reducible refine balloc ?_ _) | (with_reducible refine bdrew ?_) | (with_reducible refine bdrewN ?_ _) | (with_reducible refine bstep ?_ (by assumption)) | (with_reducible refine bset ?_ ?_ _) | (exact Below.size (by assumption)) | go_size))⟩
  · go_returns
    exact ⟨ret_str (by unfold stateS; rw [if_neg (by simp_all), if_pos (by assumption)]), by (repeat' (first | (with_reducible exact Below.refl _ _) | (with_reducible assumption) | (with_reducible refine balloc ?_ _) | (with_reducible refine bdrew ?_) | (with_reducible refine bdrewN ?_ _) | (with_reducible refine bstep ?_ (by assumption)) | (with_reducible refine bset ?_ ?_ _) | (exact Below.size (by assumption)) | go_size))⟩
  · go_returns
    exact ⟨ret_str (by unfold stateS; rw [if_neg (by simp_all), if_neg (by omega)]), by (repeat' (first | (with_reducible exact Below.refl _ _) | (with_reducible assumption) | (with_reducible refine balloc ?_ _) | (with_reducible refine bdrew ?_) | (with_reducible refine bdrewN ?_ _) | (with_reducible refine bstep ?_ (by assumption)) | (with_reducible refine bset ?_ ?_ _) | (exact Below.size (by assumption)) | go_size))⟩
def stateOfS (a b c d e f : Int) : ByteArray := if sitB a b c d e f = true then stateS d else ⟨#[]⟩
theorem SituationState_any (a b c d e f : Int) (w : World) : Calls Tryz.prog 15 #[.agg #[.int .i64 a, .int .i64 b, .int .i64 c, .int .i64 d, .int .i64 e, .int .i64 f]] w fun r w' => r = .returned (.tuple #[.string (stateOfS a b c d e f), .bool (sitB a b c d e f)]) ∧ Below w.heap.size w w' := by
  rcases hA : sitB a b c d e f with _ | _
  all_goals
    go_enter Tryz.func15, Tryz.ntmps15
    go_wp2_with (first | (go_at_call 12; refine (IsSituation_any _ _ _ _ _ _ _).mono ?_; rintro e w' ⟨rfl, hb⟩; (try clear cW fW zW); (first | (have bW := bstep bW hb) | (have bW := bstep (bdrew bW) hb) | (have bW := bstep (balloc bW _) hb) | (have bW := bstep (bdrewN bW _) hb) | (have bW := hb)); clear hb; obtain ⟨cW, fW⟩ := bcell bW; have zW := bsize bW) | (go_at_call 34; refine (state_any _ _ _ _ _ _ _).mono ?_; rintro e w' ⟨rfl, hb⟩; (try clear cW fW zW); (first | (have bW := bstep bW hb) | (have bW := bstep (bdrew bW) hb) | (have bW := bstep (balloc bW _) hb) | (have bW := bstep (bdrewN bW _) hb) | (have bW := hb)); clear hb; obtain ⟨cW, fW⟩ := bcell bW; have zW := bsize bW))
    go_returns
    exact ⟨by simp [stateOfS, hA], by (repeat' (first | (with_reducible exact Below.refl _ _) | (with_reducible assumption) | (with_reducible refine balloc ?_ _) | (with_reducible refine bdrew ?_) | (with_reducible refine bdrewN ?_ _) | (with_reducible refine bstep ?_ (by assumption)) | (with_reducible refine bset ?_ ?_ _) | (exact Below.size (by assumption)) | go_size))⟩
theorem sSituationState_any (a b c d e f : Int) (w : World) : Calls Tryz.prog 16 #[.agg #[.int .i64 a, .int .i64 b, .int .i64 c, .int .i64 d, .int .i64 e, .int .i64 f]] w fun r w' => r = .returned (.tuple #[.string (stateOfS a b c d e f), .bool (sitB a b c d e f)]) ∧ Below w.heap.size w w' := by
  rcases hA : sitB a b c d e f with _ | _
  all_goals
    go_enter Tryz.func16, Tryz.ntmps16
    go_wp2_with (first | (go_at_call 19; refine (l18One_any _ _ _ _ _ _ _).mono ?_; rintro e w' ⟨rfl, hb⟩; (try clear cW fW zW); (first | (have bW := bstep bW hb) | (have bW := bstep (bdrew bW) hb) | (have bW := bstep (balloc bW _) hb) | (have bW := bstep (bdrewN bW _) hb) | (have bW := hb)); clear hb; obtain ⟨cW, fW⟩ := bcell bW; have zW := bsize bW) | (go_at_call 35; refine (l18State_any _ _ _ _ _ _ _).mono ?_; rintro e w' ⟨rfl, hb⟩; (try clear cW fW zW); (first | (have bW := bstep bW hb) | (have bW := bstep (bdrew bW) hb) | (have bW := bstep (balloc bW _) hb) | (have bW := bstep (bdrewN bW _) hb) | (have bW := hb)); clear hb; obtain ⟨cW, fW⟩ := bcell bW; have zW := bsize bW))
    go_returns
    exact ⟨by simp [stateOfS, hA], by (repeat' (first | (with_reducible exact Below.refl _ _) | (with_reducible assumption) | (with_reducible refine balloc ?_ _) | (with_reducible refine bdrew ?_) | (with_reducible refine bdrewN ?_ _) | (with_reducible refine bstep ?_ (by assumption)) | (with_reducible refine bset ?_ ?_ _) | (exact Below.size (by assumption)) | go_size))⟩
/-- a situation's text, or none -/
def stS (a b c d e f : Int) : ByteArray := if sitB a b c d e f = true then sitTextI a b c d e f else ⟨#[]⟩
theorem SituationText_st {a b c d e f : Int} {q : Bool} {s : ByteArray} (hq : sitB a b c d e f = q) (hs : stS a b c d e f = s) (w : World) (hT : Tb w) : Calls Tryz.prog 10 #[.agg #[.int .i64 a, .int .i64 b, .int .i64 c, .int .i64 d, .int .i64 e, .int .i64 f]] w fun r w' => r = .returned (.tuple #[.string s, .bool q]) ∧ Below w.heap.size w w' := by
  rcases q with _ | _
  · obtain rfl : s = ⟨#[]⟩ := by rw [← hs, stS, hq]; rfl
    exact SituationText_no hq w
  · obtain ⟨e1, e2, e3, e4, e5, e6⟩ := sit_nat hq
    have hq2 : sitB a.toNat b.toNat c.toNat d.toNat e.toNat f.toNat = true := by rw [e1, e2, e3, e4, e5, e6]; exact hq
    have hp := sit_parts hq2
    have hs2 : sitText a.toNat b.toNat c.toNat d.toNat e.toNat f.toNat = s := by rw [← hs, stS, if_pos hq]; rfl
    have h := SituationText_yes hq2 hs2 (by omega) (by omega) (by omega) (by omega) (by omega) (by omega) w hT
    rw [e1, e2, e3, e4, e5, e6] at h
    exact h
theorem sSituationText_st {a b c d e f : Int} {q : Bool} {s : ByteArray} (hq : sitB a b c d e f = q) (hs : stS a b c d e f = s) (w : World) : Calls Tryz.prog 11 #[.agg #[.int .i64 a, .int .i64 b, .int .i64 c, .int .i64 d, .int .i64 e, .int .i64 f]] w fun r w' => r = .returned (.tuple #[.string s, .bool q]) ∧ Below w.heap.size w w' := by
  rcases q with _ | _
  · obtain rfl : s = ⟨#[]⟩ := by rw [← hs, stS, hq]; rfl
    exact sSituationText_no hq w
  · obtain ⟨e1, e2, e3, e4, e5, e6⟩ := sit_nat hq
    have hq2 : sitB a.toNat b.toNat c.toNat d.toNat e.toNat f.toNat = true := by rw [e1, e2, e3, e4, e5, e6]; exact hq
    have hp := sit_parts hq2
    have hs2 : sitText a.toNat b.toNat c.toNat d.toNat e.toNat f.toNat = s := by rw [← hs, stS, if_pos hq]; rfl
    have h := sSituationText_yes hq2 hs2 (by omega) (by omega) (by omega) (by omega) (by omega) (by omega) w
    rw [e1, e2, e3, e4, e5, e6] at h
    exact h
theorem st_size {a b c d e f : Int} {s : ByteArray} (hs : stS a b c d e f = s) : s.size ≤ 120 := by
  subst hs
  unfold stS
  split
  · rename_i hq
    obtain ⟨e1, e2, e3, e4, e5, e6⟩ := sit_nat hq
    exact sit_size (by rw [e1, e2, e3, e4, e5, e6]; exact hq)
  · decide
theorem IsSituation_q {a b c d e f : Int} {q : Bool} (hq : sitB a b c d e f = q) (w : World) : Calls Tryz.prog 12 #[.agg #[.int .i64 a, .int .i64 b, .int .i64 c, .int .i64 d, .int .i64 e, .int .i64 f]] w fun r w' => r = .returned (.bool q) ∧ Below w.heap.size w w' := by
  rw [← hq]; exact IsSituation_any a b c d e f w
theorem SituationState_q {a b c d e f : Int} {q : Bool} {s : ByteArray} (hq : sitB a b c d e f = q) (hs : stateOfS a b c d e f = s) (w : World) : Calls Tryz.prog 15 #[.agg #[.int .i64 a, .int .i64 b, .int .i64 c, .int .i64 d, .int .i64 e, .int .i64 f]] w fun r w' => r = .returned (.tuple #[.string s, .bool q]) ∧ Below w.heap.size w w' := by
  rw [← hq, ← hs]; exact SituationState_any a b c d e f w
theorem sSituationState_q {a b c d e f : Int} {q : Bool} {s : ByteArray} (hq : sitB a b c d e f = q) (hs : stateOfS a b c d e f = s) (w : World) : Calls Tryz.prog 16 #[.agg #[.int .i64 a, .int .i64 b, .int .i64 c, .int .i64 d, .int .i64 e, .int .i64 f]] w fun r w' => r = .returned (.tuple #[.string s, .bool q]) ∧ Below w.heap.size w w' := by
  rw [← hq, ← hs]; exact sSituationState_any a b c d e f w
theorem neqSit (a b c d e f : Int) (w : World) : (binOp .neq 23 (.agg #[.int .i64 a, .int .i64 b, .int .i64 c, .int .i64 d, .int .i64 e, .int .i64 f]) (.agg #[.int .i64 a, .int .i64 b, .int .i64 c, .int .i64 d, .int .i64 e, .int .i64 f])).run Tryz.prog w = .ok (.bool false) w := by
  simp [go_sem]
theorem guardSit (x y : Operand) (xs ys : Array Value) (w : World) : (eqGuard .neq 23 x y (.agg xs) (.agg ys)).run Tryz.prog w = .ok () w := run_eqGuard_agg w .neq 23 x y xs ys (by kernel_rfl)
theorem rBig_is {A : Option Addr} {n c : Nat} (v : Bool) (h : decide ((65536 : Int) < (n : Int)) = v) (w : World) : Calls Tryz.prog 8 #[.slice A n c] w fun e w' => e = .returned (.bool v) ∧ w = w' := by
  go_enter Tryz.func8, Tryz.ntmps8
  go_wp2
  go_returns
  exact ⟨by simp, rfl⟩
end Go.Proofs.YtcebbmikgpipeaaGreatDoor
