/-
  The draws of a situation and of a situation's text. Conditions: the text is no longer than 2^16.
-/
import Derived.Test.YtcebbmikgpipeaaGreatDoorCF
import Derived.Test.YtcebbmikgpipeaaGreatDoorCX
import Derived.Test.YtcebbmikgpipeaaGreatDoorCZ
import Derived.Test.YtcebbmikgpipeaaGreatDoorQO
namespace Go.Proofs.YtcebbmikgpipeaaGreatDoor
open Go Go.RowKit
set_option maxRecDepth 100000
set_option maxHeartbeats 8000000

theorem situation_ats (X : DX) (B id : Int) (w : World) (hX : X.base ≤ w.heap.size) (hC : Cur w X B) (hB : B ≤ 562949953421312) (hid : -9223372036854775808 ≤ id ∧ id ≤ 9223372036854775807) :
    Calls Tryz.prog 30 #[.pointer (some ⟨X.g, 0, none⟩), .int .i64 id] w fun r w' => ∃ a b c d e f, r = .returned (.agg #[.int .i64 a, .int .i64 b, .int .i64 c, .int .i64 d, .int .i64 e, .int .i64 f]) ∧ w.grownBy w' (some X.g) ∧ Cur w' X (B + 64) := by
  refine (situation_ty { X with base := w.heap.size } B id w rfl (hC.rebase hX) hB hid).mono ?_
  rintro e w' ⟨v, rfl, hg, hC', zs, rfl, hl, hz⟩
  match zs, hl with
  | [a, b, c, d, f, h], _ => exact ⟨a, b, c, d, f, h, rfl, hg, hC'.unbase hC.ne⟩
theorem sSituationText_sz {a b c d e f : Int} (w : World) : Calls Tryz.prog 11 #[.agg #[.int .i64 a, .int .i64 b, .int .i64 c, .int .i64 d, .int .i64 e, .int .i64 f]] w fun r w' => ∃ s q, r = .returned (.tuple #[.string s, .bool q]) ∧ s.size ≤ 120 ∧ Below w.heap.size w w' := by
  rcases hq : sitB a b c d e f with _ | _
  · refine (sSituationText_no hq w).mono ?_
    rintro r w' ⟨rfl, hb⟩
    exact ⟨_, _, rfl, by decide, hb⟩
  · obtain ⟨e1, e2, e3, e4, e5, e6⟩ := sit_nat hq
    have hq2 : sitB a.toNat b.toNat c.toNat d.toNat e.toNat f.toNat = true := by rw [e1, e2, e3, e4, e5, e6]; exact hq
    have hp := sit_parts hq2
    have h := sSituationText_yes hq2 rfl (by omega) (by omega) (by omega) (by omega) (by omega) (by omega) w
    rw [e1, e2, e3, e4, e5, e6] at h
    refine h.mono ?_
    rintro r w' ⟨rfl, hb⟩
    exact ⟨_, _, rfl, sit_size hq2, hb⟩
theorem DrawIsSituation_any (A : Option Addr) (n c : Nat) (cs : List Value) (w : World) (hc : Code w A n cs) :
    Calls Tryz.prog 25 #[.slice A n c] w fun r w' => ∃ a b c d e f, r = .returned (.agg #[.int .i64 a, .int .i64 b, .int .i64 c, .int .i64 d, .int .i64 e, .int .i64 f]) ∧ Below w.heap.size w w' := by
  go_enter Tryz.func25, Tryz.ntmps25
  go_upto_region 2 with fail
  refine wp_genC (fun W => Below w.heap.size w W ∧ Cur W ⟨w.heap.size + 1, A, n, c, cs, w.heap.size + 1 + 1⟩ 0 ∧ Bk W w.heap.size 23 [.int .i64 0, .int .i64 0, .int .i64 0, .int .i64 0, .int .i64 0, .int .i64 0]) ⟨by (repeat' (first | (with_reducible exact Below.refl _ _) | (with_reducible assumption) | (with_reducible refine balloc ?_ _) | (with_reducible refine bdrew ?_) | (with_reducible refine bdrewN ?_ _) | (with_reducible refine bstep ?_ (by assumption)) | (with_reducible refine bset ?_ ?_ _) | (exact Below.size (by assumption)) | go_size)), Cur.made hc (by (repeat' (first | (with_reducible exact Below.refl _ _) | (with_reducible assumption) | (with_reducible refine balloc ?_ _) | (with_reducible refine bdrew ?_) | (with_reducible refine bdrewN ?_ _) | (with_reducible refine bstep ?_ (by assumption)) | (with_reducible refine bset ?_ ?_ _) | (exact Below.size (by assumption)) | go_size))) (by simp), (Bk.new _ _ _).alloc _⟩ ?_
  intro W ⟨bW, hC, k2⟩
  obtain ⟨g, hg⟩ : ∃ g, w.heap.size + 1 = g := ⟨_, rfl⟩
  rw [hg] at hC ⊢
  have hlt := hC.lt
  simp only at hlt
  go_upto_region 3 with (first
    | (go_at_call 31; refine (among_ty ⟨g, A, n, c, cs, g + 1⟩ _ _ (hC.alloc _) (by omega) (Good.lit' rfl (by simp) (by simp [sm_int])) (by simp only; omega) (by omega) (by omega) (by omega)).mono ?_; rintro e w' ⟨v, rfl, hg1, hC, x, rfl, x0, x1⟩; dsimp only at hg1; have bW := below_gr (balloc bW _) hg1 (by omega); have k2 := (k2.alloc _).grown hg1 (by simp; omega); have hlt := hC.lt; simp only at hlt)
    | (go_at_call 30; refine (situation_ats ⟨g, A, n, c, cs, g + 1⟩ _ _ _ (by simp only; omega) hC (by omega) ⟨x0, x1⟩).mono ?_; rintro r w' ⟨a, b, c', d, e, f, rfl, hg2, hC⟩; dsimp only at hg2; have bW := below_gr bW hg2 (by omega); have k2 := k2.grown hg2 (by simp; omega); have a0 := k2.cell 0; have a1 := k2.cell 1; have a2 := k2.cell 2; have a3 := k2.cell 3; have a4 := k2.cell 4; have a5 := k2.cell 5; have fa0 := k2.frozen 0; have fa1 := k2.frozen 1; have fa2 := k2.frozen 2; have fa3 := k2.frozen 3; have fa4 := k2.frozen 4; have fa5 := k2.frozen 5; have la := k2.lt; simp only [List.getElem?_cons_zero, List.getElem?_cons_succ] at a0 a1 a2 a3 a4 a5))
  (refine bodyPost_ret (by simp (maxDischargeDepth := 4) [results, Tryz.results25, go_sem, *]; try rfl) rfl ?_)
  exact ⟨a, b, c', d, e, f, rfl, by (repeat' (first | (with_reducible exact Below.refl _ _) | (with_reducible assumption) | (with_reducible refine balloc ?_ _) | (with_reducible refine bdrew ?_) | (with_reducible refine bdrewN ?_ _) | (with_reducible refine bstep ?_ (by assumption)) | (with_reducible refine bset ?_ ?_ _) | (exact Below.size (by assumption)) | go_size))⟩
theorem DrawSituationText_any (A : Option Addr) (n c : Nat) (cs : List Value) (w : World) (hc : Code w A n cs) :
    Calls Tryz.prog 9 #[.slice A n c] w fun r w' => ∃ a b c d e f, r = .returned (.agg #[.int .i64 a, .int .i64 b, .int .i64 c, .int .i64 d, .int .i64 e, .int .i64 f]) ∧ Below w.heap.size w w' := by
  go_enter Tryz.func9, Tryz.ntmps9
  go_upto_region 1 with fail
  refine wp_genC (fun W => Below w.heap.size w W ∧ Bk W w.heap.size 23 [.int .i64 0, .int .i64 0, .int .i64 0, .int .i64 0, .int .i64 0, .int .i64 0]) ⟨by (repeat' (first | (with_reducible exact Below.refl _ _) | (with_reducible assumption) | (with_reducible refine balloc ?_ _) | (with_reducible refine bdrew ?_) | (with_reducible refine bdrewN ?_ _) | (with_reducible refine bstep ?_ (by assumption)) | (with_reducible refine bset ?_ ?_ _) | (exact Below.size (by assumption)) | go_size)), Bk.new _ _ _⟩ ?_
  intro W ⟨bW, k2⟩
  go_wp2_with (go_at_call 25; refine (DrawIsSituation_any A n c cs _ (hc.below bW)).mono ?_; rintro r w' ⟨a, b, c', d, e, f, rfl, hb⟩; have bW := bstep bW hb; have k2 := k2.below hb k2.lt; have a0 := k2.cell 0; have a1 := k2.cell 1; have a2 := k2.cell 2; have a3 := k2.cell 3; have a4 := k2.cell 4; have a5 := k2.cell 5; have fa0 := k2.frozen 0; have fa1 := k2.frozen 1; have fa2 := k2.frozen 2; have fa3 := k2.frozen 3; have fa4 := k2.frozen 4; have fa5 := k2.frozen 5; have la := k2.lt; simp only [List.getElem?_cons_zero, List.getElem?_cons_succ] at a0 a1 a2 a3 a4 a5)
  (refine bodyPost_ret (by simp (maxDischargeDepth := 4) [results, Tryz.results9, go_sem, *]; try rfl) rfl ?_)
  exact ⟨a, b, c', d, e, f, rfl, by (repeat' (first | (with_reducible exact Below.refl _ _) | (with_reducible assumption) | (with_reducible refine balloc ?_ _) | (with_reducible refine bdrew ?_) | (with_reducible refine bdrewN ?_ _) | (with_reducible refine bstep ?_ (by assumption)) | (with_reducible refine bset ?_ ?_ _) | (exact Below.size (by assumption)) | go_size))⟩
theorem DrawSituationState_any (A : Option Addr) (n c : Nat) (cs : List Value) (w : World) (hc : Code w A n cs) :
    Calls Tryz.prog 14 #[.slice A n c] w fun r w' => ∃ a b c d e f, r = .returned (.agg #[.int .i64 a, .int .i64 b, .int .i64 c, .int .i64 d, .int .i64 e, .int .i64 f]) ∧ Below w.heap.size w w' := by
  go_enter Tryz.func14, Tryz.ntmps14
  go_upto_region 1 with fail
  refine wp_genC (fun W => Below w.heap.size w W ∧ Bk W w.heap.size 23 [.int .i64 0, .int .i64 0, .int .i64 0, .int .i64 0, .int .i64 0, .int .i64 0]) ⟨by (repeat' (first | (with_reducible exact Below.refl _ _) | (with_reducible assumption) | (with_reducible refine balloc ?_ _) | (with_reducible refine bdrew ?_) | (with_reducible refine bdrewN ?_ _) | (with_reducible refine bstep ?_ (by assumption)) | (with_reducible refine bset ?_ ?_ _) | (exact Below.size (by assumption)) | go_size)), Bk.new _ _ _⟩ ?_
  intro W ⟨bW, k2⟩
  go_wp2_with (go_at_call 25; refine (DrawIsSituation_any A n c cs _ (hc.below bW)).mono ?_; rintro r w' ⟨a, b, c', d, e, f, rfl, hb⟩; have bW := bstep bW hb; have k2 := k2.below hb k2.lt; have a0 := k2.cell 0; have a1 := k2.cell 1; have a2 := k2.cell 2; have a3 := k2.cell 3; have a4 := k2.cell 4; have a5 := k2.cell 5; have fa0 := k2.frozen 0; have fa1 := k2.frozen 1; have fa2 := k2.frozen 2; have fa3 := k2.frozen 3; have fa4 := k2.frozen 4; have fa5 := k2.frozen 5; have la := k2.lt; simp only [List.getElem?_cons_zero, List.getElem?_cons_succ] at a0 a1 a2 a3 a4 a5)
  (refine bodyPost_ret (by simp (maxDischargeDepth := 4) [results, Tryz.results14, go_sem, *]; try rfl) rfl ?_)
  exact ⟨a, b, c', d, e, f, rfl, by (repeat' (first | (with_reducible exact Below.refl _ _) | (with_reducible assumption) | (with_reducible refine balloc ?_ _) | (with_reducible refine bdrew ?_) | (with_reducible refine bdrewN ?_ _) | (with_reducible refine bstep ?_ (by assumption)) | (with_reducible refine bset ?_ ?_ _) | (exact Below.size (by assumption)) | go_size))⟩
theorem DrawParseSituation_any (A : Option Addr) (n c : Nat) (cs : List Value) (w : World) (hc : Code w A n cs) :
    Calls Tryz.prog 13 #[.slice A n c] w fun r w' => ∃ s, r = .returned (.string s) ∧ s.size ≤ 200 ∧ Below w.heap.size w w' := by
  go_enter Tryz.func13, Tryz.ntmps13
  go_upto_region 2 with fail
  refine wp_genC (fun W => Below w.heap.size w W ∧ Cur W ⟨w.heap.size, A, n, c, cs, w.heap.size + 1⟩ 0) ⟨by (repeat' (first | (with_reducible exact Below.refl _ _) | (with_reducible assumption) | (with_reducible refine balloc ?_ _) | (with_reducible refine bdrew ?_) | (with_reducible refine bdrewN ?_ _) | (with_reducible refine bstep ?_ (by assumption)) | (with_reducible refine bset ?_ ?_ _) | (exact Below.size (by assumption)) | go_size)), Cur.made hc (Below.refl _ _) rfl⟩ ?_
  intro W ⟨bW, hC⟩
  obtain ⟨g, hg⟩ : ∃ g, w.heap.size = g := ⟨_, rfl⟩
  rw [hg] at hC ⊢
  have hlt := hC.lt
  simp only at hlt
  go_upto_region 3 with (first
    | (go_at_call 31; refine (among_ty ⟨g, A, n, c, cs, g + 1⟩ _ _ (hC.alloc _) (by omega) (Good.lit' rfl (by simp) (by simp [sm_int])) (by simp only; omega) (by omega) (by omega) (by omega)).mono ?_; rintro e w' ⟨v, rfl, hg1, hC, x, rfl, x0, x1⟩; dsimp only at hg1; have bW := below_gr (balloc bW _) hg1 (by omega); have hlt := hC.lt; simp only at hlt)
    | (go_at_call 30; refine (situation_ats ⟨g, A, n, c, cs, g + 1⟩ _ _ _ (by simp only; omega) hC (by omega) ⟨x0, x1⟩).mono ?_; rintro r w' ⟨a, b, c', d, e, f, rfl, hg2, hC⟩; dsimp only at hg2; have bW := below_gr bW hg2 (by omega))
    | (go_at_call 11; refine (sSituationText_sz _).mono ?_; rintro r w' ⟨s, q, rfl, hz, hb⟩; have bW := bstep bW hb; have hC := hC.below hb))
  go_upto_if 19 with (go_at_call 32; refine (one_ty ⟨g, A, n, c, cs, g + 1⟩ _ 4 _ hC (by omega) (by omega)).mono ?_; rintro r w' ⟨v, rfl, hg3, hC, y, rfl⟩; dsimp only at hg3; have bW := below_gr bW hg3 (by omega))
  rcases y with _ | _
  · go_wp2
    go_returns
    exact ⟨s, rfl, by omega, bW⟩
  · go_wp2_with (go_at_call 33; refine (spoilt_ty ⟨g, A, n, c, cs, g + 1⟩ _ _ hC (by omega) (by omega) (by decide) (by decide)).mono ?_; rintro r w' ⟨s', rfl, hz', hg4, hC⟩; dsimp only at hg4; have bW := below_gr bW hg4 (by omega))
    go_returns
    exact ⟨s', rfl, by omega, bW⟩
end Go.Proofs.YtcebbmikgpipeaaGreatDoor
