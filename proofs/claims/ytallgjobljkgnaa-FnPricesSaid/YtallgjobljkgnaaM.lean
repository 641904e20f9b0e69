/-
  All rows of a table. Conditions: lengths within the bound of a slice.
-/
import Derived.Test.YtallgjobljkgnaaG
namespace Go.Proofs.Ytallgjobljkgnaa
open Go.RowKit
set_option maxRecDepth 100000
set_option maxHeartbeats 1000000

theorem idx_rows (A : Option Addr) (n c : Nat) (T : List (List Int)) (p : List Int → Bool) (bx : Nat) (w : World) (hr : RdT w A n T) (hn : n ≤ 140737488355328)
    (hF : ∀ (Ar : Option Addr) (m cr : Nat) (xs : List Int) (v : Bool) (W : World), xs ∈ T → xs.length = m → p xs = v → Below w.heap.size w W → Rd W 1 Ar m (ints xs) → Calls Try.prog 84 #[.slice Ar m cr, .pointer (some ⟨bx, 0, none⟩)] W fun e w' => e = .returned (.bool (!v)) ∧ Below W.heap.size W w') :
    Calls Try.prog 87 #[.slice A n c, .func (.func 84) #[] #[.pointer (some ⟨bx, 0, none⟩)]] w fun e w' => ∃ v : Int, e = .returned (.int .i64 v) ∧ decide (0 ≤ v) = !(T.all p) ∧ Below w.heap.size w w' := by
  have hl := hr.1
  go_enter Try.func87, Try.ntmps87
  go_wp2
  go_loopw [8] (fun i wr => ∃ k : Nat, k ≤ n ∧ i = .int .i64 k ∧ (T.take k).all p = true ∧ Below w.heap.size w wr) (fun i _ => n - (intOf i).toNat)
  case atStart => exact ⟨0, Nat.zero_le _, rfl, by simp, by (repeat' (first | (with_reducible exact Below.refl _ _) | (with_reducible assumption) | (with_reducible refine balloc ?_ _) | (with_reducible refine bdrew ?_) | (with_reducible refine bdrewN ?_ _) | (with_reducible refine bstep ?_ (by assumption)) | (with_reducible refine bset ?_ ?_ _) | (exact Below.size (by assumption)) | go_size))⟩
  case round =>
    obtain ⟨k, hk, rfl, ho, hW⟩ := hrel
    by_cases hlt : k < n
    · obtain ⟨b, off, Ar, m, cr, xs, rfl, hbl, hx, hxm, c0, hrow⟩ := hr.at_ hW hlt
      have hk2 : k < T.length := by omega
      have hmem : xs ∈ T := by rw [← hx]; exact row_mem hk2
      have hz : T[k] = xs := by rw [row_get hk2, hx]
      have HZ := Lib.hid hz
      have HO := Lib.hid ho
      have HR := Lib.hid hrow
      clear hz ho hx hrow
      rcases hv : p xs with _ | _
      · go_wp2_with (first | (go_at_call 84; refine (hF _ _ _ xs false _ hmem hxm hv hW HR.out).mono ?_; rintro e w' ⟨rfl, hb⟩; (try clear cW fW zW); (first | (have bW := bstep bW hb) | (have bW := bstep (bdrew bW) hb) | (have bW := bstep (balloc bW _) hb) | (have bW := bstep (bdrewN bW _) hb) | (have bW := hb)); clear hb; obtain ⟨cW, fW⟩ := bcell bW; have zW := bsize bW))
        go_returns
        refine ⟨_, rfl, ?_, bstep hW bW⟩
        have hf : T.all p = false := by
          rw [List.all_eq_false]
          exact ⟨xs, hmem, by simp [hv]⟩
        rw [hf]
        simp
      · go_wp2_with (first | (go_at_call 84; refine (hF _ _ _ xs true _ hmem hxm hv hW HR.out).mono ?_; rintro e w' ⟨rfl, hb⟩; (try clear cW fW zW); (first | (have bW := bstep bW hb) | (have bW := bstep (bdrew bW) hb) | (have bW := bstep (balloc bW _) hb) | (have bW := bstep (bdrewN bW _) hb) | (have bW := hb)); clear hb; obtain ⟨cW, fW⟩ := bcell bW; have zW := bsize bW))
        go_roundw
        case rel =>
          refine ⟨k + 1, by omega, by go_num, ?_, bstep hW bW⟩
          rw [List.take_succ_eq_append_getElem hk2, List.all_append, HO.out, HZ.out]
          simp [hv]
        case measure => simp [intOf]; omega
    · have hkn : k = n := by omega
      have h1 : T.all p = true := by rw [List.take_of_length_le (by omega)] at ho; exact ho
      clear ho
      have H1 := Lib.hid h1
      clear h1
      go_wp2
      go_returns
      exact ⟨_, rfl, by rw [H1.out]; simp, hW⟩
theorem con_rows (A : Option Addr) (n c : Nat) (T : List (List Int)) (p : List Int → Bool) (bx : Nat) (w : World) (hr : RdT w A n T) (hn : n ≤ 140737488355328)
    (hF : ∀ (Ar : Option Addr) (m cr : Nat) (xs : List Int) (v : Bool) (W : World), xs ∈ T → xs.length = m → p xs = v → Below w.heap.size w W → Rd W 1 Ar m (ints xs) → Calls Try.prog 84 #[.slice Ar m cr, .pointer (some ⟨bx, 0, none⟩)] W fun e w' => e = .returned (.bool (!v)) ∧ Below W.heap.size W w') :
    Calls Try.prog 83 #[.slice A n c, .func (.func 84) #[] #[.pointer (some ⟨bx, 0, none⟩)]] w fun e w' => e = .returned (.bool (!(T.all p))) ∧ Below w.heap.size w w' := by
  go_enter Try.func83, Try.ntmps83
  go_wp2_with fail
  refine (idx_rows A n c T p bx w hr hn hF).mono ?_
  rintro e w1 ⟨v, rfl, hv, b1⟩
  go_wp2
  go_returns
  exact ⟨by rw [← hv]; first | rfl | (simp; done) | (congr 2; simp [ge_iff_le]), b1⟩
theorem all_rows (A : Option Addr) (n c : Nat) (T : List (List Int)) (p : List Int → Bool) (fn : Fn) (fc : Array Value) (fe : Array Value) (w : World) (hr : RdT w A n T) (hn : n ≤ 140737488355328)
    (hF : ∀ (Ar : Option Addr) (m cr : Nat) (xs : List Int) (v : Bool) (bx : Nat) (W : World), xs ∈ T → xs.length = m → p xs = v → W.cell? ⟨bx, 0, none⟩ = some (.func fn fc fe) → bx < W.heap.size → Below w.heap.size w W → Rd W 1 Ar m (ints xs) → Calls Try.prog 84 #[.slice Ar m cr, .pointer (some ⟨bx, 0, none⟩)] W fun e w' => e = .returned (.bool (!v)) ∧ Below W.heap.size W w') :
    Calls Try.prog 66 #[.slice A n c, .func fn fc fe] w fun e w' => e = .returned (.bool (T.all p)) ∧ Below w.heap.size w w' := by
  go_enter Try.func66, Try.ntmps66
  go_wp2_with fail
  refine (con_rows A n c T p w.heap.size _ (hr.below (balloc (Below.refl _ _) _)) hn (fun Ar m cr xs v W hm hml hv hW hR => hF Ar m cr xs v w.heap.size W hm hml hv ?_ ?_ ?_ hR)).mono ?_
  · exact (hW.cell (p := ⟨w.heap.size, 0, none⟩) (by simp)).trans (by simp [go_sem])
  · exact Nat.lt_of_lt_of_le (by simp) hW.size
  · exact (balloc (Below.refl _ _) _).trans (hW.mono (by simp))
  rintro e w1 ⟨rfl, b1⟩
  go_wp2
  go_returns
  exact ⟨by simp, by (repeat' (first | (with_reducible exact Below.refl _ _) | (with_reducible assumption) | (with_reducible refine balloc ?_ _) | (with_reducible refine bdrew ?_) | (with_reducible refine bdrewN ?_ _) | (with_reducible refine bstep ?_ (by assumption)) | (with_reducible refine bset ?_ ?_ _) | (exact Below.size (by assumption)) | go_size))⟩
end Go.Proofs.Ytallgjobljkgnaa
