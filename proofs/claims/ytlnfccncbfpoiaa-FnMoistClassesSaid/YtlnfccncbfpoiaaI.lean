/-
  Lists of air: the program's and the reference's test. Conditions: lengths within the bound of a slice.
-/
import Derived.Test.YtlnfccncbfpoiaaH
namespace Go.Proofs.Ytlnfccncbfpoiaa
open Go.RowKit
set_option maxRecDepth 100000
set_option maxHeartbeats 1000000

theorem hasAir_any (A : Option Addr) (n c : Nat) (zs : List (Int × Int × Int)) (bx : Nat) (w : World) (hr : Rd w 3 A n (airF zs)) (hl : zs.length = n) (hn : n ≤ 140737488355328) (hc : w.cell? ⟨bx, 0, none⟩ = some (.func (.func 34) #[] #[])) (hb : bx < w.heap.size) :
    Calls Try.prog 70 #[.slice A n c, .func (.func 71) #[] #[.pointer (some ⟨bx, 0, none⟩)]] w fun e w' => e = .returned (.bool (!(zs.all airP))) ∧ Below w.heap.size w w' := by
  go_enter Try.func70, Try.ntmps70
  go_wp2_with fail
  refine (idxAir_any A n c zs bx w hr hl hn hc hb).mono ?_
  rintro e w1 ⟨v, rfl, hv, b1⟩
  go_wp2
  go_returns
  exact ⟨by rw [← hv]; first | rfl | (simp; done) | (congr 2; simp [ge_iff_le]), b1⟩
theorem allAir_any (A : Option Addr) (n c : Nat) (zs : List (Int × Int × Int)) (w : World) (hr : Rd w 3 A n (airF zs)) (hl : zs.length = n) (hn : n ≤ 140737488355328) :
    Calls Try.prog 63 #[.slice A n c, .func (.func 34) #[] #[]] w fun e w' => e = .returned (.bool (zs.all airP)) ∧ Below w.heap.size w w' := by
  go_enter Try.func63, Try.ntmps63
  go_wp2_with fail
  refine (hasAir_any A n c zs w.heap.size _ (hr.below (balloc (Below.refl _ _) _)) hl hn (by simp [go_sem]) (by simp)).mono ?_
  rintro e w1 ⟨rfl, b1⟩
  go_wp2
  go_returns
  exact ⟨by simp, by (repeat' (first | (with_reducible exact Below.refl _ _) | (with_reducible assumption) | (with_reducible refine balloc ?_ _) | (with_reducible refine bdrew ?_) | (with_reducible refine bdrewN ?_ _) | (with_reducible refine bstep ?_ (by assumption)) | (with_reducible refine bset ?_ ?_ _) | (exact Below.size (by assumption)) | go_size))⟩
def airsB (zs : List (Int × Int × Int)) : Bool := decide ((zs.length : Int) ≤ 48) && zs.all airP
theorem areAir_any (A : Option Addr) (n c : Nat) (zs : List (Int × Int × Int)) (w : World) (hr : Rd w 3 A n (airF zs)) (hl : zs.length = n) (hn : n ≤ 140737488355328) :
    Calls Try.prog 44 #[.slice A n c] w fun e w' => e = .returned (.bool (airsB zs)) ∧ Below w.heap.size w w' := by
  go_enter Try.func44, Try.ntmps44
  by_cases h48 : (n : Int) ≤ 48
  · go_wp2_with fail
    refine (allAir_any A n c zs w hr hl hn).mono ?_
    rintro e w1 ⟨rfl, b1⟩
    go_wp2
    go_returns
    exact ⟨by simp [airsB, hl]; omega, b1⟩
  · go_wp2_with fail
    go_returns
    exact ⟨by simp [airsB, hl]; omega, Below.refl _ _⟩
theorem l20Air_of {h t r : Int} (v : Bool) (e : airB h t r = v) (w : World) : Calls Try.prog 37 #[.agg #[.int .i64 h, .int .i64 t, .int .i64 r]] w fun e w' => e = .returned (.bool v) ∧ Below w.heap.size w w' := by rw [← e]; exact l20Air_any h t r w
theorem l20List_any (A : Option Addr) (n c : Nat) (zs : List (Int × Int × Int)) (w : World) (hr : Rd w 3 A n (airF zs)) (hl : zs.length = n) (hn : n ≤ 140737488355328) :
    Calls Try.prog 46 #[.slice A n c] w fun e w' => e = .returned (.bool (airsB zs)) ∧ Below w.heap.size w w' := by
  go_enter Try.func46, Try.ntmps46
  go_wp2
  go_loopw [3] (fun i wr => ∃ k : Nat, k ≤ n ∧ i = .int .i64 k ∧ (zs.take k).all airP = true ∧ Below w.heap.size w wr) (fun i _ => n - (intOf i).toNat)
  case atStart => exact ⟨0, Nat.zero_le _, rfl, by simp, by (repeat' (first | (with_reducible exact Below.refl _ _) | (with_reducible assumption) | (with_reducible refine balloc ?_ _) | (with_reducible refine bdrew ?_) | (with_reducible refine bdrewN ?_ _) | (with_reducible refine bstep ?_ (by assumption)) | (with_reducible refine bset ?_ ?_ _) | (exact Below.size (by assumption)) | go_size))⟩
  case round =>
    obtain ⟨k, hk, rfl, ho, hW⟩ := hrel
    by_cases hlt : k < n
    · obtain ⟨b, off, rfl, hbl, x0, x1, x2, hz, c0, c1, c2⟩ := air_at hr hW hl hlt
      have hk2 : k < zs.length := by omega
      have HZ := Lib.hid hz
      have HO := Lib.hid ho
      clear hz ho
      rcases hv : airB x0 x1 x2 with _ | _
      · go_wp2_with (first | (go_at_call 37; refine (l20Air_of false hv _).mono ?_; rintro e w' ⟨rfl, hb⟩; (try clear cW fW zW); (first | (have bW := bstep bW hb) | (have bW := bstep (bdrew bW) hb) | (have bW := bstep (balloc bW _) hb) | (have bW := bstep (bdrewN bW _) hb) | (have bW := hb)); clear hb; obtain ⟨cW, fW⟩ := bcell bW; have zW := bsize bW))
        go_returns
        have hf : zs.all airP = false := by
          rw [List.all_eq_false]
          exact ⟨zs[k], List.getElem_mem _, by rw [HZ.out]; simp [airP, hv]⟩
        exact ⟨by simp [airsB, hf], bstep hW bW⟩
      · go_wp2_with (first | (go_at_call 37; refine (l20Air_of true hv _).mono ?_; rintro e w' ⟨rfl, hb⟩; (try clear cW fW zW); (first | (have bW := bstep bW hb) | (have bW := bstep (bdrew bW) hb) | (have bW := bstep (balloc bW _) hb) | (have bW := bstep (bdrewN bW _) hb) | (have bW := hb)); clear hb; obtain ⟨cW, fW⟩ := bcell bW; have zW := bsize bW))
        go_roundw
        case rel =>
          refine ⟨k + 1, by omega, by go_num, ?_, bstep hW bW⟩
          rw [List.take_succ_eq_append_getElem hk2, List.all_append, HO.out, HZ.out]
          simp [airP, hv]
        case measure => simp [intOf]; omega
    · have h1 : zs.all airP = true := by rw [List.take_of_length_le (by omega)] at ho; exact ho
      clear ho
      have H1 := Lib.hid h1
      clear h1
      go_wp2
      go_returns
      exact ⟨by simp [airsB, H1.out, hl], hW⟩
end Go.Proofs.Ytlnfccncbfpoiaa
