/-
  Numbers as text: the library's Itoa, the reference's own. Conditions: the library's table reads as its program's text lays it; numbers below 2^30.
-/
import Derived.Test.YtcebbmikgpipeaaGreatDoorSH
import Derived.Test.YtcebbmikgpipeaaGreatDoorK
import Derived.Lib.ItoaLen
import Derived.Lib.ItoaMem
import Derived.Lib.AppendIntMem
namespace Go.Proofs.YtcebbmikgpipeaaGreatDoor
open Go Go.RowKit
set_option maxRecDepth 100000
set_option maxHeartbeats 4000000

def numS (n : Nat) : ByteArray := ⟨(Lib.decDigits n).toArray⟩
theorem numS_size {n : Nat} (h : n ≤ 9223372036854775807) : (numS n).size ≤ 21 := by
  have h1 := Lib.itoa_length_le (n : Int) (by omega) (by omega)
  rw [Lib.itoa_nonneg] at h1
  simpa [numS, ByteArray.size] using h1
/-- the library's table of powers is there, whatever is done behind this world -/
def Tb (w : World) : Prop := ∀ w', Below w.heap.size w w' → Lib.TabIs Tryz.prog w' "internal/strconv.uint64pow10" .u64 Lib.pow10Tab
theorem Tb.below {w w' : World} (h : Tb w) (hb : Below w.heap.size w w') : Tb w' := fun _ h2 => h _ (bstep hb h2)
theorem Tb.here {w : World} (h : Tb w) : Lib.TabIs Tryz.prog w "internal/strconv.uint64pow10" .u64 Lib.pow10Tab := h _ (Below.refl _ _)
theorem Tb.of {w : World} (h : Lib.TabIs Tryz.prog w "internal/strconv.uint64pow10" .u64 Lib.pow10Tab) : Tb w := Lib.tabBelow_of_tabIs h
theorem itoa_is {n : Nat} {s : ByteArray} (hs : numS n = s) (hn : n ≤ 1000000000) (w : World) (hT : Tb w) : Calls Tryz.prog 27 #[.int .i64 (n : Int)] w fun e w' => e = .returned (.string s) ∧ Below w.heap.size w w' := by
  go_enter Tryz.func27, Tryz.ntmps27
  go_wp2_with (go_at_call 44; refine (Any.strconv_Itoa numLays (n : Int) (by omega) (by omega) _ hT.here).mono ?_; rintro e w' ⟨rfl, k, os, rfl⟩)
  go_returns
  refine ⟨?_, Lib.below_grow _ _ (Nat.le_refl _) _ _⟩
  rw [← hs, Lib.itoa_nonneg]
  rfl
def digS : ByteArray := ⟨#[48, 49, 50, 51, 52, 53, 54, 55, 56, 57]⟩
theorem dig_one : ∀ n, n < 10 → digS.extract n (n + 1) = numS n := by
  intro n hn
  have h : ∀ n : Fin 10, (digS.extract n.val (n.val + 1)).data.toList = [UInt8.ofNat (48 + n.val)] := by decide
  have h2 := h ⟨n, hn⟩
  apply ByteArray.ext
  rw [← Array.toList_inj, h2]
  simp [numS, Lib.decDigits_one hn]
theorem numS_step {n : Nat} (h : ¬ n < 10) : numS n = numS (n / 10) ++ numS (n % 10) := by
  apply ByteArray.ext
  rw [← Array.toList_inj]
  simp only [numS, ByteArray.data_append, Array.toList_append]
  rw [Lib.decDigits_one (Nat.mod_lt _ (by omega))]
  conv => lhs; rw [Lib.decDigits, dif_neg h]
theorem l1Num_is : ∀ (k n : Nat), n < k → n ≤ 1000000000 → ∀ (s : ByteArray), numS n = s → ∀ w, Calls Tryz.prog 37 #[.int .i64 (n : Int)] w fun e w' => e = .returned (.string s) ∧ Below w.heap.size w w'
  | 0, _, h, _, _, _, _ => absurd h (Nat.not_lt_zero _)
  | k + 1, n, hk, hn, s, hs, w => by
    have i1 : decide ((n : Int) < 0) = false := decide_eq_false (by omega)
    by_cases h10 : n < 10
    · have i2 : decide ((n : Int) < 10) = true := decide_eq_true (by omega)
      have i3 : decide (n < 10) = true := decide_eq_true h10
      have hd := dig_one n h10
      rw [hs] at hd
      unfold digS at hd
      have HS := Go.Lib.hid hs
      clear hs
      go_enter Tryz.func37, Tryz.ntmps37
      go_wp2
      go_returns
      exact ⟨rfl, Below.refl _ _⟩
    · have i2 : decide ((n : Int) < 10) = false := decide_eq_false (by omega)
      have i3 : decide (n < 10) = false := decide_eq_false h10
      have hst := numS_step h10
      obtain ⟨q, hq⟩ : ∃ q, n / 10 = q := ⟨_, rfl⟩
      obtain ⟨r, hr⟩ : ∃ r, n % 10 = r := ⟨_, rfl⟩
      have e1 : (n : Int).tdiv 10 = (q : Int) := by rw [Int.tdiv_eq_ediv_of_nonneg (by omega)]; omega
      have e2 : (n : Int).tmod 10 = (r : Int) := by rw [Int.tmod_eq_emod_of_nonneg (by omega)]; omega
      have hr10 : r < 10 := by omega
      have hqk : q < k := by omega
      have hqn : q ≤ 1000000000 := by omega
      rw [hq, hr, hs] at hst
      obtain ⟨sr, hsr⟩ : ∃ s, numS r = s := ⟨_, rfl⟩
      obtain ⟨sq, hsq⟩ : ∃ s, numS q = s := ⟨_, rfl⟩
      have hd := dig_one r hr10
      have z1 := numS_size (n := r) (by omega)
      have z2 := numS_size (n := q) (by omega)
      rw [hsr] at hst hd z1
      rw [hsq] at hst z2
      unfold digS at hd
      have hz : ¬ (9223372036854775807 < sq.size + sr.size) := by omega
      have ih := fun W : World => l1Num_is k q hqk hqn sq hsq W
      have HS := Go.Lib.hid hst
      have bW := Below.refl w.heap.size w
      clear hst hs hsr hsq hq hr
      go_enter Tryz.func37, Tryz.ntmps37
      go_upto_region 5 with fail
      (refine wp_region_bel (by kernel_rfl) (by kernel_rfl) ?_; (repeat (go_big_quiet_step ((first | (go_at_call 37; exact calls_bel (ih _)))))); refine wpQuiet_nil ?_; intro w' hw'; have hb := below_of hw'; clear hw'; (try clear cW fW zW); (first | (have bW := bstep bW hb) | (have bW := bstep (bdrew bW) hb) | (have bW := bstep (balloc bW _) hb) | (have bW := bstep (bdrewN bW _) hb) | (have bW := hb)); clear hb; obtain ⟨cW, fW⟩ := bcell bW; have zW := bsize bW)
      go_wp2
      go_returns
      exact ⟨by rw [HS.out]; rfl, bW⟩
end Go.Proofs.YtcebbmikgpipeaaGreatDoor
