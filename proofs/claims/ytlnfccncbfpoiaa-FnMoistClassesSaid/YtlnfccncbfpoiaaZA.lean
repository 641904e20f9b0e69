/-
  MixMoisture of the program and of the reference: greatest common divisors, sums, tests. Conditions: the bounds that stand in each statement.
-/
import Derived.Test.YtlnfccncbfpoiaaX
import Derived.Test.YtlnfccncbfpoiaaN
namespace Go.Proofs.Ytlnfccncbfpoiaa
open Go.RowKit
set_option maxRecDepth 100000
set_option maxHeartbeats 1000000

theorem gcd_next {a b : Nat} : Nat.gcd b (a % b) = Nat.gcd a b := by rw [Nat.gcd_comm b, ← Nat.gcd_rec, Nat.gcd_comm]
theorem l20Common_any (a b : Nat) (ha : a ≤ 1000000000) (hb : b ≤ 1000000000) (w : World) : Calls Try.prog 59 #[.int .i64 (a : Int), .int .i64 (b : Int)] w fun e w' => e = .returned (.int .i64 (Nat.gcd a b : Nat)) ∧ Below w.heap.size w w' := by
  go_enter Try.func59, Try.ntmps59
  go_wp2
  go_loopw [0, 1] (fun x y wr => ∃ p r : Nat, p ≤ 1000000000 ∧ r ≤ 1000000000 ∧ x = .int .i64 (p : Int) ∧ y = .int .i64 (r : Int) ∧ Nat.gcd p r = Nat.gcd a b ∧ Below w.heap.size w wr) (fun _ y _ => (intOf y).toNat)
  case atStart => exact ⟨a, b, ha, hb, rfl, rfl, rfl, Below.refl _ _⟩
  case round =>
    obtain ⟨p, r, hp, hr, rfl, rfl, hg, hW⟩ := hrel
    have HG := Lib.hid hg
    clear hg
    by_cases hr0 : 0 < (r : Int)
    · have hm : p % r < r := Nat.mod_lt _ (by omega)
      go_wp2
      go_roundw
      case rel => exact ⟨r, p % r, hr, by omega, rfl, by simp, by rw [gcd_next]; exact HG.out, by (repeat' (first | (with_reducible exact Below.refl _ _) | (with_reducible assumption) | (with_reducible refine balloc ?_ _) | (with_reducible refine bdrew ?_) | (with_reducible refine bdrewN ?_ _) | (with_reducible refine bstep ?_ (by assumption)) | (with_reducible refine bset ?_ ?_ _) | (exact Below.size (by assumption)) | go_size))⟩
      case measure => simp [intOf]; omega
    · have e0 : r = 0 := by omega
      have e1 : p = Nat.gcd a b := by rw [← HG.out, e0, Nat.gcd_zero_right]
      subst e0
      clear e1
      go_wp2
      go_returns
      exact ⟨ret_int (by rw [← HG.out, Nat.gcd_zero_right]), by (repeat' (first | (with_reducible exact Below.refl _ _) | (with_reducible assumption) | (with_reducible refine balloc ?_ _) | (with_reducible refine bdrew ?_) | (with_reducible refine bdrewN ?_ _) | (with_reducible refine bstep ?_ (by assumption)) | (with_reducible refine bset ?_ ?_ _) | (exact Below.size (by assumption)) | go_size))⟩
theorem gcd_any (a b : Nat) (ha : a ≤ 1000000000) (hb : b ≤ 1000000000) (hb0 : 0 < b) (w : World) : Calls Try.prog 69 #[.int .i64 (a : Int), .int .i64 (b : Int)] w fun e w' => e = .returned (.int .i64 (Nat.gcd a b : Nat)) ∧ Below w.heap.size w w' := by
  go_enter Try.func69, Try.ntmps69
  go_wp2
  go_loopw [0, 1] (fun x y wr => ∃ p r : Nat, p ≤ 1000000000 ∧ r ≤ 1000000000 ∧ x = .int .i64 (p : Int) ∧ y = .int .i64 (r : Int) ∧ Nat.gcd p r = Nat.gcd a b ∧ Below w.heap.size w wr) (fun _ y _ => (intOf y).toNat)
  case atStart => exact ⟨a, b, ha, hb, rfl, rfl, rfl, Below.refl _ _⟩
  case round =>
    obtain ⟨p, r, hp, hr, rfl, rfl, hg, hW⟩ := hrel
    have HG := Lib.hid hg
    clear hg
    by_cases hr0 : (r : Int) = 0
    · have e0 : r = 0 := by omega
      have e1 : p = Nat.gcd a b := by rw [← HG.out, e0, Nat.gcd_zero_right]
      have p0 : 0 < p := by rw [e1]; exact Nat.gcd_pos_of_pos_right _ hb0
      subst e0
      clear e1
      have hng : IntKind.i64.wrap (-(p : Int)) = -(p : Int) := IntWalk.i64_in _ (by omega)
      have hlt : -(p : Int) < (p : Int) := by omega
      go_wp2
      go_returns
      exact ⟨ret_int (by rw [← HG.out, Nat.gcd_zero_right]), by (repeat' (first | (with_reducible exact Below.refl _ _) | (with_reducible assumption) | (with_reducible refine balloc ?_ _) | (with_reducible refine bdrew ?_) | (with_reducible refine bdrewN ?_ _) | (with_reducible refine bstep ?_ (by assumption)) | (with_reducible refine bset ?_ ?_ _) | (exact Below.size (by assumption)) | go_size))⟩
    · have hm : p % r < r := Nat.mod_lt _ (by omega)
      go_wp2
      (refine wp_region_bel (by kernel_rfl) (by kernel_rfl) ?_; (repeat (go_big_quiet_step ((first | fail)))); refine wpQuiet_nil ?_; intro w' hw'; have hb := below_of hw'; clear hw'; (try clear cW fW zW); (first | (have bW := bstep bW hb) | (have bW := bstep (bdrew bW) hb) | (have bW := bstep (balloc bW _) hb) | (have bW := bstep (bdrewN bW _) hb) | (have bW := hb)); clear hb; obtain ⟨cW, fW⟩ := bcell bW; have zW := bsize bW)
      go_wp2
      go_roundw
      case rel => exact ⟨r, p % r, hr, by omega, rfl, by simp, by rw [gcd_next]; exact HG.out, by (repeat' (first | (with_reducible exact Below.refl _ _) | (with_reducible assumption) | (with_reducible refine balloc ?_ _) | (with_reducible refine bdrew ?_) | (with_reducible refine bdrewN ?_ _) | (with_reducible refine bstep ?_ (by assumption)) | (with_reducible refine bset ?_ ?_ _) | (exact Below.size (by assumption)) | go_size))⟩
      case measure => simp [intOf]; omega
theorem wdiv {a : Nat} (g : Nat) (ha : a ≤ 1000000000) : wrap64 ((a : Int) / (g : Int)) = (a : Int) / (g : Int) := by
  have h1 : (a : Int) / (g : Int) ≤ a := Int.ediv_le_self _ (by omega)
  have h2 : 0 ≤ (a : Int) / (g : Int) := Int.ediv_nonneg (by omega) (by omega)
  exact IntWalk.wrap64_in _ (by omega)
theorem fraction_any (a b : Nat) (ha : a ≤ 1000000000) (hb : b ≤ 1000000000) (hb0 : 0 < b) (w : World) : Calls Try.prog 57 #[.int .i64 (a : Int), .int .i64 (b : Int)] w fun e w' => e = .returned (.tuple #[.int .i64 ((a / Nat.gcd a b : Nat) : Int), .int .i64 ((b / Nat.gcd a b : Nat) : Int)]) ∧ Below w.heap.size w w' := by
  have hg : 0 < Nat.gcd a b := Nat.gcd_pos_of_pos_right _ hb0
  have hG := gcd_any a b ha hb hb0
  obtain ⟨g, hgg⟩ : ∃ g, Nat.gcd a b = g := ⟨_, rfl⟩
  rw [hgg] at hg hG ⊢
  have HG := Lib.hid hG
  clear hgg hG
  have g0 : ¬ (g : Int) = 0 := by omega
  go_enter Try.func57, Try.ntmps57
  go_wp2_with fail
  refine (HG.out _).mono ?_
  rintro e w1 ⟨rfl, b1⟩
  go_wp2
  (refine wp_region_bel (by kernel_rfl) (by kernel_rfl) ?_; (repeat (go_big_quiet_step ((first | fail)))); refine wpQuiet_nil ?_; intro w' hw'; have hb := below_of hw'; clear hw'; (try clear cW fW zW); (first | (have bW := bstep bW hb) | (have bW := bstep (bdrew bW) hb) | (have bW := bstep (balloc bW _) hb) | (have bW := bstep (bdrewN bW _) hb) | (have bW := hb)); clear hb; obtain ⟨cW, fW⟩ := bcell bW; have zW := bsize bW)
  go_wp2
  go_returns
  exact ⟨by simp [wdiv g ha, wdiv g hb], bstep b1 bW⟩
end Go.Proofs.Ytlnfccncbfpoiaa
