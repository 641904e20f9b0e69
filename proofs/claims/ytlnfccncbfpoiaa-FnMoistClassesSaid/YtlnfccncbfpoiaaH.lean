/-
  Lists of air: valid or not. Conditions: lengths within the bound of a slice.
-/
import Derived.Test.YtlnfccncbfpoiaaR
import Derived.Lib.Hide
namespace Go.Proofs.Ytlnfccncbfpoiaa
open Go.RowKit
set_option maxRecDepth 100000
set_option maxHeartbeats 1000000

def airP (a : Int × Int × Int) : Bool := airB a.1 a.2.1 a.2.2
theorem isAir_of {h t r : Int} (v : Bool) (e : airB h t r = v) (w : World) : Calls Try.prog 34 #[.agg #[.int .i64 h, .int .i64 t, .int .i64 r]] w fun e w' => e = .returned (.bool v) ∧ Below w.heap.size w w' := by rw [← e]; exact isAir_any h t r w
theorem notAir_of {h t r : Int} {bx : Nat} (v : Bool) (e : airB h t r = v) (w : World) (hc : w.cell? ⟨bx, 0, none⟩ = some (.func (.func 34) #[] #[])) (hb : bx < w.heap.size) :
    Calls Try.prog 71 #[.agg #[.int .i64 h, .int .i64 t, .int .i64 r], .pointer (some ⟨bx, 0, none⟩)] w fun e w' => e = .returned (.bool (!v)) ∧ Below w.heap.size w w' := by
  have hne : ¬ bx = w.heap.size := by omega
  go_enter Try.func71, Try.ntmps71
  go_wp2_with (first | (go_at_call 34; refine (isAir_of v e _).mono ?_; rintro e w' ⟨rfl, hb⟩; (try clear cW fW zW); (first | (have bW := bstep bW hb) | (have bW := bstep (bdrew bW) hb) | (have bW := bstep (balloc bW _) hb) | (have bW := bstep (bdrewN bW _) hb) | (have bW := hb)); clear hb; obtain ⟨cW, fW⟩ := bcell bW; have zW := bsize bW))
  go_returns
  exact ⟨rfl, by (repeat' (first | (with_reducible exact Below.refl _ _) | (with_reducible assumption) | (with_reducible refine balloc ?_ _) | (with_reducible refine bdrew ?_) | (with_reducible refine bdrewN ?_ _) | (with_reducible refine bstep ?_ (by assumption)) | (with_reducible refine bset ?_ ?_ _) | (exact Below.size (by assumption)) | go_size))⟩
theorem idxAir_any (A : Option Addr) (n c : Nat) (zs : List (Int × Int × Int)) (bx : Nat) (w : World) (hr : Rd w 3 A n (airF zs)) (hl : zs.length = n) (hn : n ≤ 140737488355328) (hc : w.cell? ⟨bx, 0, none⟩ = some (.func (.func 34) #[] #[])) (hb : bx < w.heap.size) :
    Calls Try.prog 74 #[.slice A n c, .func (.func 71) #[] #[.pointer (some ⟨bx, 0, none⟩)]] w fun e w' => ∃ v : Int, e = .returned (.int .i64 v) ∧ decide (0 ≤ v) = !(zs.all airP) ∧ Below w.heap.size w w' := by
  go_enter Try.func74, Try.ntmps74
  go_wp2
  go_loopw [8] (fun i wr => ∃ k : Nat, k ≤ n ∧ i = .int .i64 k ∧ (zs.take k).all airP = true ∧ Below w.heap.size w wr) (fun i _ => n - (intOf i).toNat)
  case atStart => exact ⟨0, Nat.zero_le _, rfl, by simp, by (repeat' (first | (with_reducible exact Below.refl _ _) | (with_reducible assumption) | (with_reducible refine balloc ?_ _) | (with_reducible refine bdrew ?_) | (with_reducible refine bdrewN ?_ _) | (with_reducible refine bstep ?_ (by assumption)) | (with_reducible refine bset ?_ ?_ _) | (exact Below.size (by assumption)) | go_size))⟩
  case round =>
    obtain ⟨k, hk, rfl, ho, hW⟩ := hrel
    have hc' := (hW.cell (p := ⟨bx, 0, none⟩) hb).trans hc
    have hb' : bx < wr.heap.size := Nat.lt_of_lt_of_le hb hW.size
    by_cases hlt : k < n
    · obtain ⟨b, off, rfl, hbl, x0, x1, x2, hz, c0, c1, c2⟩ := air_at hr hW hl hlt
      have hk2 : k < zs.length := by omega
      have HZ := Lib.hid hz
      have HO := Lib.hid ho
      clear hz ho
      rcases hv : airB x0 x1 x2 with _ | _
      · go_wp2_with (first | (go_at_call 71; refine (notAir_of false hv _ hc' hb').mono ?_; rintro e w' ⟨rfl, hb⟩; (try clear cW fW zW); (first | (have bW := bstep bW hb) | (have bW := bstep (bdrew bW) hb) | (have bW := bstep (balloc bW _) hb) | (have bW := bstep (bdrewN bW _) hb) | (have bW := hb)); clear hb; obtain ⟨cW, fW⟩ := bcell bW; have zW := bsize bW))
        go_returns
        refine ⟨_, rfl, ?_, bstep hW bW⟩
        have hf : zs.all airP = false := by
          rw [List.all_eq_false]
          exact ⟨zs[k], List.getElem_mem _, by rw [HZ.out]; simp [airP, hv]⟩
        rw [hf]
        simp
      · go_wp2_with (first | (go_at_call 71; refine (notAir_of true hv _ hc' hb').mono ?_; rintro e w' ⟨rfl, hb⟩; (try clear cW fW zW); (first | (have bW := bstep bW hb) | (have bW := bstep (bdrew bW) hb) | (have bW := bstep (balloc bW _) hb) | (have bW := bstep (bdrewN bW _) hb) | (have bW := hb)); clear hb; obtain ⟨cW, fW⟩ := bcell bW; have zW := bsize bW))
        go_roundw
        case rel =>
          refine ⟨k + 1, by omega, by go_num, ?_, bstep hW bW⟩
          rw [List.take_succ_eq_append_getElem hk2, List.all_append, HO.out, HZ.out]
          simp [airP, hv]
        case measure => simp [intOf]; omega
    · have hkn : k = n := by omega
      have h1 : zs.all airP = true := by rw [List.take_of_length_le (by omega)] at ho; exact ho
      clear ho
      have H1 := Lib.hid h1
      clear h1
      go_wp2
      go_returns
      exact ⟨_, rfl, by rw [H1.out]; simp, hW⟩
end Go.Proofs.Ytlnfccncbfpoiaa
