/-
  The aircraft chapter's draw of one target. Conditions: a cursor that has drawn less than 2^49 times.
-/
import Derived.Test.YtbioleagenoogaaCV
namespace Go.Proofs.Ytbioleagenoogaa
open Go.RowKit
set_option maxRecDepth 100000
set_option maxHeartbeats 4000000

theorem target_ty (X : DX) (B : Int) (w : World) (hX : X.base = w.heap.size) (hC : Cur w X B) (hB : B ≤ 562949953421312) :
    Calls Try.prog 51 #[.pointer (some ⟨X.g, 0, none⟩)] w (Drawn X (B + 64) w (.agg 3)) := by
  have hlt := hC.lt
  have hL := Le.refl X w
  have nR : w.heap.size ≠ X.g := by omega
  go_enter Try.func51, Try.ntmps51
  go_upto_region 2 with (first | (go_at_call 60; (first | refine (among_ty X _ _ (hC.alloc _) (by omega) (Good.lit' (by simp) (by simp) (by simp [sm_int])) (by omega) (by omega) (by omega) (by omega)).mono ?_ | refine (among_ty X _ _ ((hC.alloc _).alloc _) (by omega) (Good.lit' (by simp) (by simp) (by simp [sm_int])) (by omega) (by omega) (by omega) (by omega)).mono ?_); rintro e w' ⟨v, rfl, hg, hC, x, rfl, x0, x1⟩; have hlt := hC.lt; (first | have hL := legr (leal hL _) hg | have hL := legr (leal (leal hL _) _) hg); (first | have hR := good_gr (hR.alloc _) nR hg | have hR : Good w' w.heap.size 31 3 := good_gr ((Good.lit' rfl (by simp) (by simp [sm_int])).alloc _) nR hg)))
  obtain ⟨d, hd⟩ : ∃ d, d = w'.heap.size := ⟨_, rfl⟩
  rw [← hd]
  have nD : d ≠ X.g := by omega
  have hbd : X.base ≤ d := by have := hL.size; omega
  have hbw : X.base ≤ w.heap.size := by omega
  refine wp_genC (fun W => Le X w W ∧ Cur W X (B + 6) ∧ Good W w.heap.size 31 3 ∧ Good W d 31 3) ⟨leal hL _, (hC.alloc _).le (by omega), hR.alloc _, Good.lit' hd.symm (by simp) (by simp [sm_int]; omega)⟩ ?_
  clear hL hC hlt hd hR hg
  intro W ⟨hL, hC, hR, hD⟩
  have hlt := hC.lt
  obtain ⟨yD0, cD0, lD0, hD0⟩ := hD.cell (j := 0) (by omega); have fD0 := hD.frozen 0; obtain ⟨yD1, cD1, lD1, hD1⟩ := hD.cell (j := 1) (by omega); have fD1 := hD.frozen 1; obtain ⟨yD2, cD2, lD2, hD2⟩ := hD.cell (j := 2) (by omega); have fD2 := hD.frozen 2; have bD := hD.lt
  go_upto_region 3 with (first | (go_at_call 61; refine (pick_ty X _ _ 59 _ hC (by omega) (by omega) (by omega) (by omega)).mono ?_; rintro e w' ⟨v, rfl, hg, hC, x, rfl, x0, x1⟩; have hlt := hC.lt; have hL := legr hL hg; have hR := good_gr hR nR hg; have hD := good_gr hD nD hg; obtain ⟨yD0, cD0, lD0, hD0⟩ := hD.cell (j := 0) (by omega); have fD0 := hD.frozen 0; obtain ⟨yD1, cD1, lD1, hD1⟩ := hD.cell (j := 1) (by omega); have fD1 := hD.frozen 1; obtain ⟨yD2, cD2, lD2, hD2⟩ := hD.cell (j := 2) (by omega); have fD2 := hD.frozen 2; have bD := hD.lt))
  by_cases e0 : x = 0
  · subst e0
    go_upto_region 9 with (first | (go_at_call 60; (first | refine (among_ty X _ _ (hC.alloc _) (by omega) (Good.lit' (by simp) (by simp) (by simp [sm_int])) (by omega) (by omega) (by omega) (by omega)).mono ?_ | refine (among_ty X _ _ ((hC.alloc _).alloc _) (by omega) (Good.lit' (by simp) (by simp) (by simp [sm_int])) (by omega) (by omega) (by omega) (by omega)).mono ?_); rintro e w' ⟨v, rfl, hg, hC, x, rfl, x0, x1⟩; have hlt := hC.lt; (first | have hL := legr (leal hL _) hg | have hL := legr (leal (leal hL _) _) hg); (first | have hR := good_gr (hR.alloc _) nR hg | have hR : Good w' w.heap.size 31 3 := good_gr ((Good.lit' rfl (by simp) (by simp [sm_int])).alloc _) nR hg); have hD := good_gr (hD.alloc _) nD hg; obtain ⟨yD0, cD0, lD0, hD0⟩ := hD.cell (j := 0) (by omega); have fD0 := hD.frozen 0; obtain ⟨yD1, cD1, lD1, hD1⟩ := hD.cell (j := 1) (by omega); have fD1 := hD.frozen 1; obtain ⟨yD2, cD2, lD2, hD2⟩ := hD.cell (j := 2) (by omega); have fD2 := hD.frozen 2; have bD := hD.lt))
    refine wp_genC (fun W => Le X w W ∧ Cur W X (B + 10) ∧ Good W w.heap.size 31 3 ∧ Good W d 31 3) ⟨lese hL hbd ⟨x, rfl, x0, x1⟩, (hC.set hbd nD ⟨x, rfl, x0, x1⟩).le (by omega), hR.set ⟨x, rfl, x0, x1⟩, hD.set ⟨x, rfl, x0, x1⟩⟩ ?_
    clear hL hC hlt hD hR hg bD cD0 fD0 cD1 fD1 cD2 fD2
    intro W ⟨hL, hC, hR, hD⟩
    have hlt := hC.lt
    obtain ⟨yD0, cD0, lD0, hD0⟩ := hD.cell (j := 0) (by omega); have fD0 := hD.frozen 0; obtain ⟨yD1, cD1, lD1, hD1⟩ := hD.cell (j := 1) (by omega); have fD1 := hD.frozen 1; obtain ⟨yD2, cD2, lD2, hD2⟩ := hD.cell (j := 2) (by omega); have fD2 := hD.frozen 2; have bD := hD.lt
    obtain ⟨yR0, cR0, lR0, hR0⟩ := hR.cell (j := 0) (by omega); have fR0 := hR.frozen 0; obtain ⟨yR1, cR1, lR1, hR1⟩ := hR.cell (j := 1) (by omega); have fR1 := hR.frozen 1; obtain ⟨yR2, cR2, lR2, hR2⟩ := hR.cell (j := 2) (by omega); have fR2 := hR.frozen 2; have bR := hR.lt
    go_wp2
    refine bp_gen (fun W => Le X w W ∧ Cur W X (B + 64) ∧ Good W w.heap.size 31 3) ⟨lese (lese (lese (hL) hbw ⟨yD0, rfl, lD0, hD0⟩) hbw ⟨yD1, rfl, lD1, hD1⟩) hbw ⟨yD2, rfl, lD2, hD2⟩, (Cur.set (Cur.set (Cur.set (hC) hbw nR ⟨yD0, rfl, lD0, hD0⟩) hbw nR ⟨yD1, rfl, lD1, hD1⟩) hbw nR ⟨yD2, rfl, lD2, hD2⟩).le (by omega), Good.set (Good.set (Good.set (hR) ⟨yD0, rfl, lD0, hD0⟩) ⟨yD1, rfl, lD1, hD1⟩) ⟨yD2, rfl, lD2, hD2⟩⟩ ?_
    clear hL hC hlt hD hR bR bD cD0 fD0 cR0 fR0 cD1 fD1 cR1 fR1 cD2 fD2 cR2 fR2
    intro W ⟨hL, hC, hR⟩
    obtain ⟨yR0, cR0, lR0, hR0⟩ := hR.cell (j := 0) (by omega); have fR0 := hR.frozen 0; obtain ⟨yR1, cR1, lR1, hR1⟩ := hR.cell (j := 1) (by omega); have fR1 := hR.frozen 1; obtain ⟨yR2, cR2, lR2, hR2⟩ := hR.cell (j := 2) (by omega); have fR2 := hR.frozen 2; have bR := hR.lt
    (refine bodyPost_ret (by simp (maxDischargeDepth := 4) [results, Try.results51, go_sem, *]; try rfl) rfl ?_)
    exact ⟨_, rfl, hL.toGrown (by omega), hC, [yR0, yR1, yR2], rfl, rfl, by simp; omega⟩
  · have q0 : (x == (0 : Int)) = false := by simp; omega
    by_cases e1 : x = 1
    · subst e1
      go_upto_region 9 with (first | (go_at_call 60; (first | refine (among_ty X _ _ (hC.alloc _) (by omega) (Good.lit' (by simp) (by simp) (by simp [sm_int])) (by omega) (by omega) (by omega) (by omega)).mono ?_ | refine (among_ty X _ _ ((hC.alloc _).alloc _) (by omega) (Good.lit' (by simp) (by simp) (by simp [sm_int])) (by omega) (by omega) (by omega) (by omega)).mono ?_); rintro e w' ⟨v, rfl, hg, hC, x, rfl, x0, x1⟩; have hlt := hC.lt; (first | have hL := legr (leal hL _) hg | have hL := legr (leal (leal hL _) _) hg); (first | have hR := good_gr (hR.alloc _) nR hg | have hR : Good w' w.heap.size 31 3 := good_gr ((Good.lit' rfl (by simp) (by simp [sm_int])).alloc _) nR hg); have hD := good_gr (hD.alloc _) nD hg; obtain ⟨yD0, cD0, lD0, hD0⟩ := hD.cell (j := 0) (by omega); have fD0 := hD.frozen 0; obtain ⟨yD1, cD1, lD1, hD1⟩ := hD.cell (j := 1) (by omega); have fD1 := hD.frozen 1; obtain ⟨yD2, cD2, lD2, hD2⟩ := hD.cell (j := 2) (by omega); have fD2 := hD.frozen 2; have bD := hD.lt))
      refine wp_genC (fun W => Le X w W ∧ Cur W X (B + 10) ∧ Good W w.heap.size 31 3 ∧ Good W d 31 3) ⟨lese hL hbd ⟨x, rfl, x0, x1⟩, (hC.set hbd nD ⟨x, rfl, x0, x1⟩).le (by omega), hR.set ⟨x, rfl, x0, x1⟩, hD.set ⟨x, rfl, x0, x1⟩⟩ ?_
      clear hL hC hlt hD hR hg bD cD0 fD0 cD1 fD1 cD2 fD2
      intro W ⟨hL, hC, hR, hD⟩
      have hlt := hC.lt
      obtain ⟨yD0, cD0, lD0, hD0⟩ := hD.cell (j := 0) (by omega); have fD0 := hD.frozen 0; obtain ⟨yD1, cD1, lD1, hD1⟩ := hD.cell (j := 1) (by omega); have fD1 := hD.frozen 1; obtain ⟨yD2, cD2, lD2, hD2⟩ := hD.cell (j := 2) (by omega); have fD2 := hD.frozen 2; have bD := hD.lt
      obtain ⟨yR0, cR0, lR0, hR0⟩ := hR.cell (j := 0) (by omega); have fR0 := hR.frozen 0; obtain ⟨yR1, cR1, lR1, hR1⟩ := hR.cell (j := 1) (by omega); have fR1 := hR.frozen 1; obtain ⟨yR2, cR2, lR2, hR2⟩ := hR.cell (j := 2) (by omega); have fR2 := hR.frozen 2; have bR := hR.lt
      go_wp2
      refine bp_gen (fun W => Le X w W ∧ Cur W X (B + 64) ∧ Good W w.heap.size 31 3) ⟨lese (lese (lese (hL) hbw ⟨yD0, rfl, lD0, hD0⟩) hbw ⟨yD1, rfl, lD1, hD1⟩) hbw ⟨yD2, rfl, lD2, hD2⟩, (Cur.set (Cur.set (Cur.set (hC) hbw nR ⟨yD0, rfl, lD0, hD0⟩) hbw nR ⟨yD1, rfl, lD1, hD1⟩) hbw nR ⟨yD2, rfl, lD2, hD2⟩).le (by omega), Good.set (Good.set (Good.set (hR) ⟨yD0, rfl, lD0, hD0⟩) ⟨yD1, rfl, lD1, hD1⟩) ⟨yD2, rfl, lD2, hD2⟩⟩ ?_
      clear hL hC hlt hD hR bR bD cD0 fD0 cR0 fR0 cD1 fD1 cR1 fR1 cD2 fD2 cR2 fR2
      intro W ⟨hL, hC, hR⟩
      obtain ⟨yR0, cR0, lR0, hR0⟩ := hR.cell (j := 0) (by omega); have fR0 := hR.frozen 0; obtain ⟨yR1, cR1, lR1, hR1⟩ := hR.cell (j := 1) (by omega); have fR1 := hR.frozen 1; obtain ⟨yR2, cR2, lR2, hR2⟩ := hR.cell (j := 2) (by omega); have fR2 := hR.frozen 2; have bR := hR.lt
      (refine bodyPost_ret (by simp (maxDischargeDepth := 4) [results, Try.results51, go_sem, *]; try rfl) rfl ?_)
      exact ⟨_, rfl, hL.toGrown (by omega), hC, [yR0, yR1, yR2], rfl, rfl, by simp; omega⟩
    · have q1 : (x == (1 : Int)) = false := by simp; omega
      by_cases e2 : x = 2
      · subst e2
        go_upto_region 9 with (first | (go_at_call 60; (first | refine (among_ty X _ _ (hC.alloc _) (by omega) (Good.lit' (by simp) (by simp) (by simp [sm_int])) (by omega) (by omega) (by omega) (by omega)).mono ?_ | refine (among_ty X _ _ ((hC.alloc _).alloc _) (by omega) (Good.lit' (by simp) (by simp) (by simp [sm_int])) (by omega) (by omega) (by omega) (by omega)).mono ?_); rintro e w' ⟨v, rfl, hg, hC, x, rfl, x0, x1⟩; have hlt := hC.lt; (first | have hL := legr (leal hL _) hg | have hL := legr (leal (leal hL _) _) hg); (first | have hR := good_gr (hR.alloc _) nR hg | have hR : Good w' w.heap.size 31 3 := good_gr ((Good.lit' rfl (by simp) (by simp [sm_int])).alloc _) nR hg); have hD := good_gr (hD.alloc _) nD hg; obtain ⟨yD0, cD0, lD0, hD0⟩ := hD.cell (j := 0) (by omega); have fD0 := hD.frozen 0; obtain ⟨yD1, cD1, lD1, hD1⟩ := hD.cell (j := 1) (by omega); have fD1 := hD.frozen 1; obtain ⟨yD2, cD2, lD2, hD2⟩ := hD.cell (j := 2) (by omega); have fD2 := hD.frozen 2; have bD := hD.lt))
        refine wp_genC (fun W => Le X w W ∧ Cur W X (B + 10) ∧ Good W w.heap.size 31 3 ∧ Good W d 31 3) ⟨lese hL hbd ⟨x, rfl, x0, x1⟩, (hC.set hbd nD ⟨x, rfl, x0, x1⟩).le (by omega), hR.set ⟨x, rfl, x0, x1⟩, hD.set ⟨x, rfl, x0, x1⟩⟩ ?_
        clear hL hC hlt hD hR hg bD cD0 fD0 cD1 fD1 cD2 fD2
        intro W ⟨hL, hC, hR, hD⟩
        have hlt := hC.lt
        obtain ⟨yD0, cD0, lD0, hD0⟩ := hD.cell (j := 0) (by omega); have fD0 := hD.frozen 0; obtain ⟨yD1, cD1, lD1, hD1⟩ := hD.cell (j := 1) (by omega); have fD1 := hD.frozen 1; obtain ⟨yD2, cD2, lD2, hD2⟩ := hD.cell (j := 2) (by omega); have fD2 := hD.frozen 2; have bD := hD.lt
        obtain ⟨yR0, cR0, lR0, hR0⟩ := hR.cell (j := 0) (by omega); have fR0 := hR.frozen 0; obtain ⟨yR1, cR1, lR1, hR1⟩ := hR.cell (j := 1) (by omega); have fR1 := hR.frozen 1; obtain ⟨yR2, cR2, lR2, hR2⟩ := hR.cell (j := 2) (by omega); have fR2 := hR.frozen 2; have bR := hR.lt
        go_wp2
        refine bp_gen (fun W => Le X w W ∧ Cur W X (B + 64) ∧ Good W w.heap.size 31 3) ⟨lese (lese (lese (hL) hbw ⟨yD0, rfl, lD0, hD0⟩) hbw ⟨yD1, rfl, lD1, hD1⟩) hbw ⟨yD2, rfl, lD2, hD2⟩, (Cur.set (Cur.set (Cur.set (hC) hbw nR ⟨yD0, rfl, lD0, hD0⟩) hbw nR ⟨yD1, rfl, lD1, hD1⟩) hbw nR ⟨yD2, rfl, lD2, hD2⟩).le (by omega), Good.set (Good.set (Good.set (hR) ⟨yD0, rfl, lD0, hD0⟩) ⟨yD1, rfl, lD1, hD1⟩) ⟨yD2, rfl, lD2, hD2⟩⟩ ?_
        clear hL hC hlt hD hR bR bD cD0 fD0 cR0 fR0 cD1 fD1 cR1 fR1 cD2 fD2 cR2 fR2
        intro W ⟨hL, hC, hR⟩
        obtain ⟨yR0, cR0, lR0, hR0⟩ := hR.cell (j := 0) (by omega); have fR0 := hR.frozen 0; obtain ⟨yR1, cR1, lR1, hR1⟩ := hR.cell (j := 1) (by omega); have fR1 := hR.frozen 1; obtain ⟨yR2, cR2, lR2, hR2⟩ := hR.cell (j := 2) (by omega); have fR2 := hR.frozen 2; have bR := hR.lt
        (refine bodyPost_ret (by simp (maxDischargeDepth := 4) [results, Try.results51, go_sem, *]; try rfl) rfl ?_)
        exact ⟨_, rfl, hL.toGrown (by omega), hC, [yR0, yR1, yR2], rfl, rfl, by simp; omega⟩
      · have q2 : (x == (2 : Int)) = false := by simp; omega
        obtain ⟨yR0, cR0, lR0, hR0⟩ := hR.cell (j := 0) (by omega); have fR0 := hR.frozen 0; obtain ⟨yR1, cR1, lR1, hR1⟩ := hR.cell (j := 1) (by omega); have fR1 := hR.frozen 1; obtain ⟨yR2, cR2, lR2, hR2⟩ := hR.cell (j := 2) (by omega); have fR2 := hR.frozen 2; have bR := hR.lt
        go_wp2
        refine bp_gen (fun W => Le X w W ∧ Cur W X (B + 64) ∧ Good W w.heap.size 31 3) ⟨lese (lese (lese (hL) hbw ⟨yD0, rfl, lD0, hD0⟩) hbw ⟨yD1, rfl, lD1, hD1⟩) hbw ⟨yD2, rfl, lD2, hD2⟩, (Cur.set (Cur.set (Cur.set (hC) hbw nR ⟨yD0, rfl, lD0, hD0⟩) hbw nR ⟨yD1, rfl, lD1, hD1⟩) hbw nR ⟨yD2, rfl, lD2, hD2⟩).le (by omega), Good.set (Good.set (Good.set (hR) ⟨yD0, rfl, lD0, hD0⟩) ⟨yD1, rfl, lD1, hD1⟩) ⟨yD2, rfl, lD2, hD2⟩⟩ ?_
        clear hL hC hlt hD hR bR bD cD0 fD0 cR0 fR0 cD1 fD1 cR1 fR1 cD2 fD2 cR2 fR2
        intro W ⟨hL, hC, hR⟩
        obtain ⟨yR0, cR0, lR0, hR0⟩ := hR.cell (j := 0) (by omega); have fR0 := hR.frozen 0; obtain ⟨yR1, cR1, lR1, hR1⟩ := hR.cell (j := 1) (by omega); have fR1 := hR.frozen 1; obtain ⟨yR2, cR2, lR2, hR2⟩ := hR.cell (j := 2) (by omega); have fR2 := hR.frozen 2; have bR := hR.lt
        (refine bodyPost_ret (by simp (maxDischargeDepth := 4) [results, Try.results51, go_sem, *]; try rfl) rfl ?_)
        exact ⟨_, rfl, hL.toGrown (by omega), hC, [yR0, yR1, yR2], rfl, rfl, by simp; omega⟩
end Go.Proofs.Ytbioleagenoogaa
