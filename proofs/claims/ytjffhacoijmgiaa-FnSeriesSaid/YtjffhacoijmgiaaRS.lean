/-
  The series law's comparison of two lists that are alike. Conditions: lengths within the bound of a slice.
-/
import Derived.Test.YtjffhacoijmgiaaRB
import Derived.Test.YtjffhacoijmgiaaR
namespace Go.Proofs.Ytjffhacoijmgiaa
open Go.RowKit
set_option maxRecDepth 100000
set_option maxHeartbeats 4000000

theorem rSituations_same {A B : Option Addr} {n c d : Nat} {zs : List SituationT} (w : World) (hx : Rd w 6 A n (sitF zs)) (hy : Rd w 6 B n (sitF zs)) (hl : zs.length = n) (hn : n ≤ 1048576) :
    Calls Try.prog 8 #[.slice A n c, .slice B n d] w fun e w' => e = .returned (.bool true) ∧ Below w.heap.size w w' := by
  have HL := Lib.hid hl
  clear hl
  go_enter Try.func8, Try.ntmps8
  go_wp2
  go_loopw [5] (fun i wr => ∃ k : Nat, k ≤ n ∧ i = .int .i64 k ∧ Below w.heap.size w wr) (fun i _ => n - (intOf i).toNat)
  case atStart => exact ⟨0, Nat.zero_le _, rfl, Below.refl _ _⟩
  case round =>
    obtain ⟨k, hk, rfl, hW⟩ := hrel
    by_cases hlt : k < n
    · have hl := HL.out
      obtain ⟨b1, o1, rfl, hb1, x0, x1, x2, x3, x4, x5, hv, k0, k1, k2, k3, k4, k5⟩ := sit_at hx hW hl hlt
      obtain ⟨b2, o2, rfl, hb2, y0, y1, y2, y3, y4, y5, hu, m0, m1, m2, m3, m4, m5⟩ := sit_at hy hW hl hlt
      have huv := hv.symm.trans hu
      cases huv
      clear hv hu hl
      have i1 : (0 : Int) ≤ (k : Int) := by omega
      have i2 : (k : Int) < (n : Int) := by omega
      have s1 : b1 < wr.heap.size := Nat.lt_of_lt_of_le hb1 hW.size
      have s2 : b2 < wr.heap.size := Nat.lt_of_lt_of_le hb2 hW.size
      have bW := hW
      go_wp2
      (refine wp_region_bel (by kernel_rfl) (by kernel_rfl) ?_; (repeat (go_big_quiet_step ((first | fail)))); refine wpQuiet_nil ?_; intro w' hw'; have hb := below_of hw'; clear hw'; (try clear cW fW zW); (first | (have bW := bstep bW hb) | (have bW := bstep (bdrew bW) hb) | (have bW := bstep (balloc bW _) hb) | (have bW := bstep (bdrewN bW _) hb) | (have bW := hb)); clear hb; obtain ⟨cW, fW⟩ := bcell bW; have zW := bsize bW)
      go_wp2
      go_roundw
      case rel => exact ⟨k + 1, by omega, by go_num, bW⟩
      case measure => simp [intOf]; omega
    · go_wp2
      go_returns
      exact ⟨rfl, hW⟩
end Go.Proofs.Ytjffhacoijmgiaa
