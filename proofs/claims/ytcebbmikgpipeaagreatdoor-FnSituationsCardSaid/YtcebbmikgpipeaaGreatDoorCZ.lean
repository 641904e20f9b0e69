/-
  A text with a byte more, less or another one, drawn. Conditions: a cursor that has drawn less than 2^49 times; short texts.
-/
import Derived.Test.YtcebbmikgpipeaaGreatDoorCV
import Derived.Test.YtcebbmikgpipeaaGreatDoorPU
namespace Go.Proofs.YtcebbmikgpipeaaGreatDoor
open Go Go.RowKit
set_option maxRecDepth 100000
set_option maxHeartbeats 8000000

theorem ext_size (s : ByteArray) (a b : Nat) : (s.extract a b).size = min b s.size - a := ByteArray.size_extract
theorem Cur.below {w w' : World} {X : DX} {B : Int} (h : Cur w X B) (hb : Below w.heap.size w w') : Cur w' X B := by
  obtain ⟨⟨a, s, k, h0, h1⟩, h2, h3, h4, h5⟩ := h
  exact ⟨⟨a, s, k.below hb k.lt, h0, h1⟩, h2.below hb, h3, h4, h5⟩
theorem spoilt_ty (X : DX) (B : Int) {t wd : ByteArray} (w : World) (hC : Cur w X B) (hB : B ≤ 562949953421312) (ht : t.size ≤ 1000) (hw1 : 1 ≤ wd.size) (hw2 : wd.size ≤ 100) :
    Calls Tryz.prog 33 #[.pointer (some ⟨X.g, 0, none⟩), .string t, .string wd] w fun e w' => ∃ r, e = .returned (.string r) ∧ r.size ≤ t.size + 1 ∧ w.grownBy w' (some X.g) ∧ Cur w' X (B + 6) := by
  by_cases h0 : t = ⟨#[]⟩
  · have f1 : t.toList.isEmpty = true := by rw [h0, ByteArray.toList_eq]; rfl
    have j1 : ¬ (wd.size : Int) < 1 := by omega
    have z1 := ext_size wd 0 1
    have hC6 := hC.le (show B ≤ B + 6 by omega)
    go_enter Tryz.func33, Tryz.ntmps33
    go_wp2
    go_returns
    exact ⟨_, rfl, by omega, World.grownBy.refl w _, hC6⟩
  · have hs : 1 ≤ t.size := by
      by_cases h : 1 ≤ t.size
      · exact h
      · exfalso
        refine h0 (ByteArray.ext (Array.toList_inj.1 (List.eq_nil_of_length_eq_zero ?_)))
        rw [Array.length_toList]
        show t.size = 0
        omega
    have f1 : t.toList.isEmpty = false := by
      rw [ByteArray.toList_eq, List.isEmpty_eq_false_iff]
      intro e
      have h : t.data.toList.length = 0 := by rw [e]; rfl
      rw [Array.length_toList] at h
      have h2 : t.size = 0 := h
      omega
    clear h0
    have P1 := Lib.hid (fun W (h : Cur W X B) => pick_ty X B (t.size : Int) ((t.size : Int) - 1) W h (by omega) (by omega) (by omega) (by omega))
    have P2 := Lib.hid (fun W (h : Cur W X (B + 2)) => pick_ty X (B + 2) (wd.size : Int) ((wd.size : Int) - 1) W h (by omega) (by omega) (by omega) (by omega))
    have P3 := Lib.hid (fun W (h : Cur W X (B + 2 + 2)) => pick_ty X (B + 2 + 2) 3 2 W h (by omega) (by omega) (by omega) (by omega))
    go_enter Tryz.func33, Tryz.ntmps33
    go_upto_region 4 with (go_at_call 45; refine (P1.out _ hC).mono ?_; rintro e w1 ⟨v, rfl, g1, hC1, x, rfl, hx0, hx1⟩)
    obtain ⟨i, rfl⟩ : ∃ i : Nat, x = i := ⟨x.toNat, by omega⟩
    go_upto_region 5 with (go_at_call 45; go_loud (refine (P2.out _ hC1).mono ?_); go_loud (rintro e w2 ⟨v2, rfl, g2, hC2, y, rfl, hy0, hy1⟩); go_loud (obtain ⟨j, rfl⟩ : ∃ j : Nat, y = j := ⟨y.toNat, by omega⟩); go_loud (have jz : ¬ (wd.size : Int) < (j : Int) := by omega); go_loud (have z1 := ext_size wd j wd.size; have j1 : ¬ ((wd.extract j wd.size).size : Int) < 1 := by omega))
    obtain ⟨u, hu⟩ : ∃ u, (wd.extract j wd.size).extract 0 1 = u := ⟨_, rfl⟩
    have zu : u.size ≤ 1 := by rw [← hu, ext_size]; omega
    have zi := ext_size t 0 i
    have zk := ext_size t i t.size
    have zl := ext_size t (i + 1) t.size
    have q1 : (0 : Int) ≤ (i : Int) := by omega
    have q2 : ¬ (t.size : Int) < (i : Int) := by omega
    have q3 : ¬ (t.size : Int) < (i : Int) + 1 := by omega
    have q4 : ¬ (t.size : Int) < ((i + 1 : Nat) : Int) := by omega
    have r1 : ¬ (9223372036854775807 < (t.extract 0 i).size + u.size) := by omega
    have r2 : ¬ (9223372036854775807 < (t.extract 0 i).size + u.size + (t.extract i t.size).size) := by omega
    have r3 : ¬ (9223372036854775807 < (t.extract 0 i).size + u.size + (t.extract (i + 1) t.size).size) := by omega
    have r4 : ¬ (9223372036854775807 < (t.extract 0 i).size + (t.extract (i + 1) t.size).size) := by omega
    have g2 := g1.trans g2
    clear g1 hC hC1 z1 jz j1 hx0 hx1 hy0 hy1
    go_upto_region 6 with (go_at_call 45; refine (P3.out _ hC2).mono ?_; rintro e w3 ⟨v3, rfl, g3, hC3, y, rfl, hy0, hy1⟩)
    have g3 := g2.trans g3
    have hC6 : Cur w3 X (B + 6) := hC3.le (by omega)
    try rw [hu]
    clear P1 P2 P3 g2 hC2 hC3
    rcases (by omega : y = 0 ∨ y = 1 ∨ y = 2) with rfl | rfl | rfl
    · go_upto_region 7 with fail
      (refine wp_region_bel (by kernel_rfl) (by kernel_rfl) ?_; (repeat (go_big_quiet_step ((first | fail)))); refine wpQuiet_nil ?_; intro w' hw'; have hb := below_of hw'; clear hw'; (try clear cW fW zW); (first | (have bW := bstep bW hb) | (have bW := bstep (bdrew bW) hb) | (have bW := bstep (balloc bW _) hb) | (have bW := bstep (bdrewN bW _) hb) | (have bW := hb)); clear hb; obtain ⟨cW, fW⟩ := bcell bW; have zW := bsize bW)
      go_wp2
      go_returns
      exact ⟨_, rfl, by simp only [ByteArray.size_append]; omega, g3.trans (below_grown bW _), hC6.below bW⟩
    · go_upto_region 9 with fail
      (refine wp_region_bel (by kernel_rfl) (by kernel_rfl) ?_; (repeat (go_big_quiet_step ((first | fail)))); refine wpQuiet_nil ?_; intro w' hw'; have hb := below_of hw'; clear hw'; (try clear cW fW zW); (first | (have bW := bstep bW hb) | (have bW := bstep (bdrew bW) hb) | (have bW := bstep (balloc bW _) hb) | (have bW := bstep (bdrewN bW _) hb) | (have bW := hb)); clear hb; obtain ⟨cW, fW⟩ := bcell bW; have zW := bsize bW)
      go_wp2
      go_returns
      exact ⟨_, rfl, by simp only [ByteArray.size_append]; omega, g3.trans (below_grown bW _), hC6.below bW⟩
    · go_upto_region 10 with fail
      (refine wp_region_bel (by kernel_rfl) (by kernel_rfl) ?_; (repeat (go_big_quiet_step ((first | fail)))); refine wpQuiet_nil ?_; intro w' hw'; have hb := below_of hw'; clear hw'; (try clear cW fW zW); (first | (have bW := bstep bW hb) | (have bW := bstep (bdrew bW) hb) | (have bW := bstep (balloc bW _) hb) | (have bW := bstep (bdrewN bW _) hb) | (have bW := hb)); clear hb; obtain ⟨cW, fW⟩ := bcell bW; have zW := bsize bW)
      go_wp2
      go_returns
      exact ⟨_, rfl, by simp only [ByteArray.size_append]; omega, g3.trans (below_grown bW _), hC6.below bW⟩
end Go.Proofs.YtcebbmikgpipeaaGreatDoor
