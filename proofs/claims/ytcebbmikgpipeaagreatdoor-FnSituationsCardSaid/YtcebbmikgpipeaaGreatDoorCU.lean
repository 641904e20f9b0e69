/-
  The draws' cursor: next, pick, one, among. Conditions: a cursor that has drawn less than 2^50 times.
-/
import Derived.Test.YtcebbmikgpipeaaGreatDoorTY
import Derived.Test.YtcebbmikgpipeaaGreatDoorQT
import Derived.Conc.WgArith
namespace Go.Proofs.YtcebbmikgpipeaaGreatDoor
open Go.RowKit
set_option maxRecDepth 100000
set_option maxHeartbeats 4000000

theorem below_grown {w w' : World} (h : Below w.heap.size w w') (row : Option Nat) : w.grownBy w' row := ⟨h.os, h.tape, h.output, h.size, fun i hi _ => h.block i hi⟩
theorem wp_genC {P : Program} {c : Code} {Q : Exit → Act → World → Prop} {a : Act} {w : World} (R : World → Prop) (h1 : R w) (h2 : ∀ w0, R w0 → c.wp P Q a w0) : c.wp P Q a w := h2 w h1
theorem rd_grown {w w' : World} {k n g : Nat} {A : Option Addr} {xs : List Value} (h : Rd w k A n xs) (hg : w.grownBy w' (some g)) (hne : 0 < n → ∀ a, A = some a → a.block ≠ g) : Rd w' k A n xs :=
  h.of_blocks hg.size (fun h0 a ha hlt => hg.block _ hlt (fun e => hne h0 a ha (by cases e; rfl)))
theorem wrapU_bd (n : Int) : 0 ≤ IntKind.u64.wrap n ∧ IntKind.u64.wrap n < 18446744073709551616 := by rw [IntKind.wrap_u64]; omega
theorem mod_bd (x : Int) : 0 ≤ x % 256 ∧ x % 256 ≤ 255 := by omega
theorem byte_of (s : Int) (h0 : 0 ≤ s) (h1 : s < 18446744073709551616) : wrap64 (bits .and .u64 (s / 1099511627776) 255) = s / 1099511627776 % 256 := by
  have hb := bits_mask .u64 63 (by decide) Go.ConcN.wraps_u64_63 8 (by decide) (s / 1099511627776) (by omega) (by omega)
  have e : ((2 : Int) ^ 8 - 1) = 255 := by decide
  have e2 : ((2 : Int) ^ 8) = 256 := by decide
  rw [e, e2] at hb
  rw [hb]
  simp only [wrap64]; omega
theorem u8_conv {y : Int} (h0 : 0 ≤ y) (h1 : y ≤ 255) : wrap64 y = y := by simp [wrap64]; omega
theorem next_ty (X : DX) (B : Int) (w : World) (hC : Cur w X B) (hB : B ≤ 1152921504606846976) :
    Calls Tryz.prog 55 #[.pointer (some ⟨X.g, 0, none⟩)] w (Drawn X (B + 1) w (.int 0 255)) := by
  obtain ⟨⟨at_, seed, hK, ⟨a0, s0, s1⟩, a1⟩, hr, hne, hbyte, hn⟩ := id hC
  obtain ⟨g, A, n, c, cs, base⟩ := X
  simp only at hK hr hne hbyte hn
  have x0 := hK.cell 0
  have x1 := hK.cell 1
  have x2 := hK.cell 2
  simp only [List.getElem?_cons_zero, List.getElem?_cons_succ] at x0 x1 x2
  have xl := hK.lt
  have f1 := hK.frozen 1
  have f2 := hK.frozen 2
  go_enter Tryz.func55, Tryz.ntmps55
  by_cases hlt : at_ < (n : Int)
  · have hd : decide (at_ < (n : Int)) = true := decide_eq_true hlt
    go_wp2
    (refine wp_region_bel (by kernel_rfl) (by kernel_rfl) ?_; (repeat (go_big_quiet_step ((first | fail)))); refine wpQuiet_nil ?_; intro w' hw'; have hb := below_of hw'; clear hw'; (try clear cW fW zW); (first | (have bW := bstep bW hb) | (have bW := bstep (bdrew bW) hb) | (have bW := bstep (balloc bW _) hb) | (have bW := bstep (bdrewN bW _) hb) | (have bW := hb)); clear hb; obtain ⟨cW, fW⟩ := bcell bW; have zW := bsize bW)
    go_wp2
    obtain ⟨k, hk⟩ : ∃ k : Nat, at_ = (k : Int) := ⟨at_.toNat, by omega⟩
    subst hk
    have hkn : k < n := by omega
    obtain ⟨b, off, rfl, hbl, hcc⟩ := hr.2 (by omega)
    obtain ⟨y, hy, y0, y1⟩ := hbyte k hkn
    have hcell := (bW.cell (p := ⟨b, off + k, none⟩) hbl).trans (hcc k _ hy)
    have s1 : b < w'.heap.size := Nat.lt_of_lt_of_le hbl bW.size
    have hd2 : decide ((k : Int) + 1 ≤ (n : Int)) = true := decide_eq_true (by omega)
    go_wp2
    (refine wp_region_bel (by kernel_rfl) (by kernel_rfl) ?_; (repeat (go_big_quiet_step ((first | fail)))); refine wpQuiet_nil ?_; intro w' hw'; have hb := below_of hw'; clear hw'; (try clear cW fW zW); (first | (have bW := bstep bW hb) | (have bW := bstep (bdrew bW) hb) | (have bW := bstep (balloc bW _) hb) | (have bW := bstep (bdrewN bW _) hb) | (have bW := hb)); clear hb; obtain ⟨cW, fW⟩ := bcell bW; have zW := bsize bW)
    go_upto_region 6 with fail
    refine wp_genC (fun w4 => ∃ s : Int, (0 ≤ s ∧ s < 18446744073709551616) ∧ Bk w4 g 53 [.slice (some ⟨b, off, none⟩) n c, .int .i64 ((k : Int) + 1), .int .u64 s] ∧ w.grownBy w4 (some g)) ⟨_, by first | exact wrapU_bd _ | (constructor <;> omega), Bk.set_ (Bk.set_ (hK.below bW hK.lt) 1 _) 2 _, ((below_grown bW (some g)).trans (onlySet _ ⟨g, 1, none⟩ _)).trans (onlySet _ ⟨g, 2, none⟩ _)⟩ ?_
    intro w4 ⟨s, ⟨s40, s41⟩, hK4, hG4⟩
    have x0 := hK4.cell 0
    have x1 := hK4.cell 1
    simp only [List.getElem?_cons_zero, List.getElem?_cons_succ] at x0 x1
    have xl := hK4.lt
    clear cW fW zW
    go_wp2
    (refine wp_region_bel (by kernel_rfl) (by kernel_rfl) ?_; (repeat (go_big_quiet_step ((first | fail)))); refine wpQuiet_nil ?_; intro w' hw'; have hb := below_of hw'; clear hw'; (try clear cW fW zW); (first | (have bW := bstep bW hb) | (have bW := bstep (bdrew bW) hb) | (have bW := bstep (balloc bW _) hb) | (have bW := bstep (bdrewN bW _) hb) | (have bW := hb)); clear hb; obtain ⟨cW, fW⟩ := bcell bW; have zW := bsize bW)
    have hG5 := hG4.trans (below_grown bW (some g))
    have hK5 := hK4.below bW hK4.lt
    go_wp2
    go_returns
    exact ⟨_, rfl, hG5, ⟨⟨_, _, hK5, ⟨by omega, s40, s41⟩, by omega⟩, rd_grown hr hG5 (fun h0 a ha => (hne h0 a ha).2), hne, hbyte, hn⟩, y, rfl, y0, y1⟩
  · have hd : decide (at_ < (n : Int)) = false := decide_eq_false hlt
    go_wp2
    (refine wp_region_bel (by kernel_rfl) (by kernel_rfl) ?_; (repeat (go_big_quiet_step ((first | fail)))); refine wpQuiet_nil ?_; intro w' hw'; have hb := below_of hw'; clear hw'; (try clear cW fW zW); (first | (have bW := bstep bW hb) | (have bW := bstep (bdrew bW) hb) | (have bW := bstep (balloc bW _) hb) | (have bW := bstep (bdrewN bW _) hb) | (have bW := hb)); clear hb; obtain ⟨cW, fW⟩ := bcell bW; have zW := bsize bW)
    have hw1 : wrap64 (at_ + 1) = at_ + 1 := by simp only [wrap64]; omega
    have hd2 : decide (at_ + 1 ≤ (n : Int)) = false := decide_eq_false (by omega)
    go_upto_region 6 with fail
    refine wp_genC (fun w4 => ∃ s : Int, (0 ≤ s ∧ s < 18446744073709551616) ∧ Bk w4 g 53 [.slice A n c, .int .i64 (at_ + 1), .int .u64 s] ∧ w.grownBy w4 (some g)) ⟨_, by first | exact wrapU_bd _ | (constructor <;> omega), Bk.set_ (Bk.set_ (hK.below bW hK.lt) 1 _) 2 _, ((below_grown bW (some g)).trans (onlySet _ ⟨g, 1, none⟩ _)).trans (onlySet _ ⟨g, 2, none⟩ _)⟩ ?_
    intro w4 ⟨s, ⟨s40, s41⟩, hK4, hG4⟩
    have x0 := hK4.cell 0
    have x1 := hK4.cell 1
    have x2 := hK4.cell 2
    simp only [List.getElem?_cons_zero, List.getElem?_cons_succ] at x0 x1 x2
    have xl := hK4.lt
    clear cW fW zW
    go_wp2
    (refine wp_region_bel (by kernel_rfl) (by kernel_rfl) ?_; (repeat (go_big_quiet_step ((first | fail)))); refine wpQuiet_nil ?_; intro w' hw'; have hb := below_of hw'; clear hw'; (try clear cW fW zW); (first | (have bW := bstep bW hb) | (have bW := bstep (bdrew bW) hb) | (have bW := bstep (balloc bW _) hb) | (have bW := bstep (bdrewN bW _) hb) | (have bW := hb)); clear hb; obtain ⟨cW, fW⟩ := bcell bW; have zW := bsize bW)
    have hG5 := hG4.trans (below_grown bW (some g))
    have hK5 := hK4.below bW hK4.lt
    go_wp2
    go_returns
    rw [byte_of s s40 s41]
    exact ⟨_, rfl, hG5, ⟨⟨_, _, hK5, ⟨by omega, s40, s41⟩, by omega⟩, rd_grown hr hG5 (fun h0 a ha => (hne h0 a ha).2), hne, hbyte, hn⟩, _, rfl, mod_bd _⟩
end Go.Proofs.YtcebbmikgpipeaaGreatDoor
