/-
  Lists of ints: their cells, all of them. Conditions: lengths within the bound of a slice.
-/
import Derived.Test.YtallgjobljkgnaaS
import Derived.Lib.Hide
namespace Go.Proofs.Ytallgjobljkgnaa
open Go.RowKit
set_option maxRecDepth 100000
set_option maxHeartbeats 1000000

theorem ints_at {w wr : World} {A : Option Addr} {n k : Nat} {zs : List Int} (hr : Rd w 1 A n (ints zs)) (hW : Below w.heap.size w wr) (hl : zs.length = n) (hk : k < n) :
    ∃ b off x, A = some ⟨b, off, none⟩ ∧ b < w.heap.size ∧ zs[k]'(by omega) = x ∧ wr.cell? ⟨b, off + k, none⟩ = some (.int .i64 x) := by
  obtain ⟨b, off, e, hb, hc⟩ := hr.2 (by omega)
  exact ⟨b, off, _, e, hb, rfl, (hW.cell (p := ⟨b, off + k, none⟩) hb).trans (hc _ _ (ints_get zs k (by omega)))⟩
theorem idx_int (A : Option Addr) (n c : Nat) (zs : List Int) (p : Int → Bool) (bx : Nat) (w : World) (hr : Rd w 1 A n (ints zs)) (hl : zs.length = n) (hn : n ≤ 140737488355328)
    (hF : ∀ (x : Int) (v : Bool) (W : World), x ∈ zs → p x = v → Below w.heap.size w W → Calls Try.prog 82 #[.int .i64 x, .pointer (some ⟨bx, 0, none⟩)] W fun e w' => e = .returned (.bool (!v)) ∧ Below W.heap.size W w') :
    Calls Try.prog 86 #[.slice A n c, .func (.func 82) #[] #[.pointer (some ⟨bx, 0, none⟩)]] w fun e w' => ∃ v : Int, e = .returned (.int .i64 v) ∧ decide (0 ≤ v) = !(zs.all p) ∧ Below w.heap.size w w' := by
  go_enter Try.func86, Try.ntmps86
  go_wp2
  go_loopw [8] (fun i wr => ∃ k : Nat, k ≤ n ∧ i = .int .i64 k ∧ (zs.take k).all p = true ∧ Below w.heap.size w wr) (fun i _ => n - (intOf i).toNat)
  case atStart => exact ⟨0, Nat.zero_le _, rfl, by simp, by (repeat' (first | (with_reducible exact Below.refl _ _) | (with_reducible assumption) | (with_reducible refine balloc ?_ _) | (with_reducible refine bdrew ?_) | (with_reducible refine bdrewN ?_ _) | (with_reducible refine bstep ?_ (by assumption)) | (with_reducible refine bset ?_ ?_ _) | (exact Below.size (by assumption)) | go_size))⟩
  case round =>
    obtain ⟨k, hk, rfl, ho, hW⟩ := hrel
    by_cases hlt : k < n
    · obtain ⟨b, off, x, rfl, hbl, hz, c0⟩ := ints_at hr hW hl hlt
      have hk2 : k < zs.length := by omega
      have hmem : x ∈ zs := hz ▸ List.getElem_mem hk2
      have HZ := Lib.hid hz
      have HO := Lib.hid ho
      clear hz ho
      rcases hv : p x with _ | _
      · go_wp2_with (first | (go_at_call 82; refine (hF x false _ hmem hv hW).mono ?_; rintro e w' ⟨rfl, hb⟩; (try clear cW fW zW); (first | (have bW := bstep bW hb) | (have bW := bstep (bdrew bW) hb) | (have bW := bstep (balloc bW _) hb) | (have bW := bstep (bdrewN bW _) hb) | (have bW := hb)); clear hb; obtain ⟨cW, fW⟩ := bcell bW; have zW := bsize bW))
        go_returns
        refine ⟨_, rfl, ?_, bstep hW bW⟩
        have hf : zs.all p = false := by
          rw [List.all_eq_false]
          exact ⟨zs[k], List.getElem_mem _, by rw [HZ.out]; simp [hv]⟩
        rw [hf]
        simp
      · go_wp2_with (first | (go_at_call 82; refine (hF x true _ hmem hv hW).mono ?_; rintro e w' ⟨rfl, hb⟩; (try clear cW fW zW); (first | (have bW := bstep bW hb) | (have bW := bstep (bdrew bW) hb) | (have bW := bstep (balloc bW _) hb) | (have bW := bstep (bdrewN bW _) hb) | (have bW := hb)); clear hb; obtain ⟨cW, fW⟩ := bcell bW; have zW := bsize bW))
        go_roundw
        case rel =>
          refine ⟨k + 1, by omega, by go_num, ?_, bstep hW bW⟩
          rw [List.take_succ_eq_append_getElem hk2, List.all_append, HO.out, HZ.out]
          simp [hv]
        case measure => simp [intOf]; omega
    · have hkn : k = n := by omega
      have h1 : zs.all p = true := by rw [List.take_of_length_le (by omega)] at ho; exact ho
      clear ho
      have H1 := Lib.hid h1
      clear h1
      go_wp2
      go_returns
      exact ⟨_, rfl, by rw [H1.out]; simp, hW⟩
theorem con_int (A : Option Addr) (n c : Nat) (zs : List Int) (p : Int → Bool) (bx : Nat) (w : World) (hr : Rd w 1 A n (ints zs)) (hl : zs.length = n) (hn : n ≤ 140737488355328)
    (hF : ∀ (x : Int) (v : Bool) (W : World), x ∈ zs → p x = v → Below w.heap.size w W → Calls Try.prog 82 #[.int .i64 x, .pointer (some ⟨bx, 0, none⟩)] W fun e w' => e = .returned (.bool (!v)) ∧ Below W.heap.size W w') :
    Calls Try.prog 81 #[.slice A n c, .func (.func 82) #[] #[.pointer (some ⟨bx, 0, none⟩)]] w fun e w' => e = .returned (.bool (!(zs.all p))) ∧ Below w.heap.size w w' := by
  go_enter Try.func81, Try.ntmps81
  go_wp2_with fail
  refine (idx_int A n c zs p bx w hr hl hn hF).mono ?_
  rintro e w1 ⟨v, rfl, hv, b1⟩
  go_wp2
  go_returns
  exact ⟨by rw [← hv]; first | rfl | (simp; done) | (congr 2; simp [ge_iff_le]), b1⟩
theorem all_int (A : Option Addr) (n c : Nat) (zs : List Int) (p : Int → Bool) (fn : Fn) (fc : Array Value) (fe : Array Value) (w : World) (hr : Rd w 1 A n (ints zs)) (hl : zs.length = n) (hn : n ≤ 140737488355328)
    (hF : ∀ (x : Int) (v : Bool) (bx : Nat) (W : World), x ∈ zs → p x = v → W.cell? ⟨bx, 0, none⟩ = some (.func fn fc fe) → bx < W.heap.size → Below w.heap.size w W → Calls Try.prog 82 #[.int .i64 x, .pointer (some ⟨bx, 0, none⟩)] W fun e w' => e = .returned (.bool (!v)) ∧ Below W.heap.size W w') :
    Calls Try.prog 64 #[.slice A n c, .func fn fc fe] w fun e w' => e = .returned (.bool (zs.all p)) ∧ Below w.heap.size w w' := by
  go_enter Try.func64, Try.ntmps64
  go_wp2_with fail
  refine (con_int A n c zs p w.heap.size _ (hr.below (balloc (Below.refl _ _) _)) hl hn (fun x v W hm hv hW => hF x v w.heap.size W hm hv ?_ ?_ ?_)).mono ?_
  · exact (hW.cell (p := ⟨w.heap.size, 0, none⟩) (by simp)).trans (by simp [go_sem])
  · exact Nat.lt_of_lt_of_le (by simp) hW.size
  · exact (balloc (Below.refl _ _) _).trans (hW.mono (by simp))
  rintro e w1 ⟨rfl, b1⟩
  go_wp2
  go_returns
  exact ⟨by simp, by (repeat' (first | (with_reducible exact Below.refl _ _) | (with_reducible assumption) | (with_reducible refine balloc ?_ _) | (with_reducible refine bdrew ?_) | (with_reducible refine bdrewN ?_ _) | (with_reducible refine bstep ?_ (by assumption)) | (with_reducible refine bset ?_ ?_ _) | (exact Below.size (by assumption)) | go_size))⟩
def sumL : List Int → Int
  | [] => 0
  | x :: xs => x + sumL xs
theorem sumL_append (xs ys : List Int) : sumL (xs ++ ys) = sumL xs + sumL ys := by
  induction xs with
  | nil => simp [sumL]
  | cons x xs ih => simp only [List.cons_append, sumL, ih]; omega
theorem sumL_bd {xs : List Int} {B : Int} (_hB : 0 ≤ B) (h : ∀ x ∈ xs, 0 ≤ x ∧ x ≤ B) : 0 ≤ sumL xs ∧ sumL xs ≤ B * (xs.length : Int) := by
  induction xs with
  | nil => simp [sumL]
  | cons x xs ih =>
    have h1 := ih (fun y hy => h y (List.mem_cons_of_mem _ hy))
    have h2 := h x (List.mem_cons_self ..)
    simp only [sumL, List.length_cons]
    rw [show ((xs.length + 1 : Nat) : Int) = (xs.length : Int) + 1 from by omega, Int.mul_add]
    omega
theorem sumL_take {xs : List Int} {k : Nat} {x : Int} (hk : k < xs.length) (hx : xs[k] = x) : sumL (xs.take (k + 1)) = sumL (xs.take k) + x := by
  rw [List.take_succ_eq_append_getElem hk, sumL_append, hx]; simp [sumL]
theorem sumL_take_bd {xs : List Int} {B : Int} (hB : 0 ≤ B) (h : ∀ x ∈ xs, 0 ≤ x ∧ x ≤ B) (k : Nat) : 0 ≤ sumL (xs.take k) ∧ sumL (xs.take k) ≤ B * (xs.length : Int) := by
  have h1 := sumL_bd hB (xs := xs.take k) (fun x hx => h x (List.mem_of_mem_take hx))
  have h2 : B * ((xs.take k).length : Int) ≤ B * (xs.length : Int) := Int.mul_le_mul_of_nonneg_left (by rw [List.length_take]; omega) hB
  omega
theorem szIntS_any (A : Option Addr) (n c : Nat) (l : Int) (w : World) (hn : n ≤ 9223372036854775807) (hl : 0 ≤ l ∧ l ≤ 1048576) : Calls Try.prog 39 #[.slice A n c, .int .i64 l] w fun e w' => e = .returned (.int .i64 (szI n l)) ∧ w = w' := by
  obtain ⟨l0, l1⟩ := hl
  go_enter Try.func39, Try.ntmps39
  go_wp2
  all_goals (go_returns; exact ⟨ret_int (by unfold szI; split <;> omega), rfl⟩)
end Go.Proofs.Ytallgjobljkgnaa
