/-
  Assignments: the program's and the reference's test, and their costs. Conditions: lengths within the bound of a slice; the table square of at most five.
-/
import Derived.Test.YtallgjobljkgnaaJ
namespace Go.Proofs.Ytallgjobljkgnaa
open Go.RowKit
set_option maxRecDepth 100000
set_option maxHeartbeats 1000000

def tskP (n : Nat) (x : Int) : Bool := inB x 0 ((n : Int) - 1)
def asB (n : Nat) (zs : List Int) : Bool := decide (zs.length = n) && (zs.all (tskP n) && difB zs n)
theorem tskClo_of {x : Int} {n tb : Nat} (v : Bool) (h : tskP n x = v) (w : World) (hn : n ≤ 1048576) (hc : w.cell? ⟨tb, 0, none⟩ = some (.int .i64 (n : Int))) (_hb : tb < w.heap.size) : Calls Try.prog 78 #[.int .i64 x, .pointer (some ⟨tb, 0, none⟩)] w fun e w' => e = .returned (.bool v) ∧ Below w.heap.size w w' := by
  go_enter Try.func78, Try.ntmps78
  go_wp2_with (first | (go_at_call 56; refine (in_of v h _).mono ?_; rintro e w' ⟨rfl, rfl⟩))
  go_returns
  exact ⟨rfl, Below.refl _ _⟩
theorem notTsk_of {x : Int} {n tb bx : Nat} (v : Bool) (h : tskP n x = v) (w : World) (hn : n ≤ 1048576) (hc : w.cell? ⟨tb, 0, none⟩ = some (.int .i64 (n : Int))) (hb : tb < w.heap.size) (hc2 : w.cell? ⟨bx, 0, none⟩ = some (.func (.func 78) #[] #[.pointer (some ⟨tb, 0, none⟩)])) (hb2 : bx < w.heap.size) :
    Calls Try.prog 82 #[.int .i64 x, .pointer (some ⟨bx, 0, none⟩)] w fun e w' => e = .returned (.bool (!v)) ∧ Below w.heap.size w w' := by
  have hne : ¬ bx = w.heap.size := by omega
  have hC := fun W (hW : Below w.heap.size w W) => tskClo_of v h W hn ((hW.cell (p := ⟨tb, 0, none⟩) hb).trans hc) (Nat.lt_of_lt_of_le hb hW.size)
  have HC := Lib.hid hC
  clear hC h hc
  go_enter Try.func82, Try.ntmps82
  go_wp2_with fail
  refine (HC.out _ (by (repeat' (first | (with_reducible exact Below.refl _ _) | (with_reducible assumption) | (with_reducible refine balloc ?_ _) | (with_reducible refine bdrew ?_) | (with_reducible refine bdrewN ?_ _) | (with_reducible refine bstep ?_ (by assumption)) | (with_reducible refine bset ?_ ?_ _) | (exact Below.size (by assumption)) | go_size)))).mono ?_
  rintro e w1 ⟨rfl, b1⟩
  go_wp2
  go_returns
  exact ⟨rfl, by (repeat' (first | (with_reducible exact Below.refl _ _) | (with_reducible assumption) | (with_reducible refine balloc ?_ _) | (with_reducible refine bdrew ?_) | (with_reducible refine bdrewN ?_ _) | (with_reducible refine bstep ?_ (by assumption)) | (with_reducible refine bset ?_ ?_ _) | (exact Below.size (by assumption)) | go_size))⟩
theorem tsks_of {A : Option Addr} {n m c tb : Nat} {zs : List Int} (v : Bool) (h : zs.all (tskP n) = v) (w : World) (hr : Rd w 1 A m (ints zs)) (hl : zs.length = m) (hm : m ≤ 140737488355328) (hn : n ≤ 1048576) (hc : w.cell? ⟨tb, 0, none⟩ = some (.int .i64 (n : Int))) (hb : tb < w.heap.size) :
    Calls Try.prog 64 #[.slice A m c, .func (.func 78) #[] #[.pointer (some ⟨tb, 0, none⟩)]] w fun e w' => e = .returned (.bool v) ∧ Below w.heap.size w w' := by
  rw [← h]
  exact all_int A m c zs (tskP n) _ _ _ w hr hl hm fun _ v _ W _ hv hc2 hb2 hW => notTsk_of v hv W hn ((hW.cell (p := ⟨tb, 0, none⟩) hb).trans hc) (Nat.lt_of_lt_of_le hb hW.size) hc2 hb2
theorem tsk_bd {n : Nat} {x : Int} (h : tskP n x = true) : 0 ≤ x ∧ x ≤ (n : Int) - 1 := inB_iff.1 h
theorem isAssignment_is {q : Bool} {A : Option Addr} {n m c : Nat} {zs : List Int} (hq : asB n zs = q) (w : World) (hr : Rd w 1 A m (ints zs)) (hl : zs.length = m) (hm : m ≤ 1048576) (hn : n ≤ 1048576) :
    Calls Try.prog 55 #[.int .i64 n, .slice A m c] w fun e w' => e = .returned (.bool q) ∧ Below w.heap.size w w' := by
  have b0 := balloc (Below.refl w.heap.size w) (.cells #[.int .i64 (n : Int)] 3)
  go_enter Try.func55, Try.ntmps55
  by_cases hmn : m = n
  · subst hmn
    have heq : ((m : Int) == (m : Int)) = true := by simp
    rcases h1 : zs.all (tskP m) with _ | _
    · obtain rfl : q = false := by rw [← hq]; simp [asB, h1]
      clear hq
      go_wp2_with fail
      refine (tsks_of false h1 _ (hr.below b0) hl (by omega) hm (by simp [go_sem]) (by simp)).mono ?_
      rintro e w1 ⟨rfl, b1⟩
      go_wp2
      go_returns
      exact ⟨rfl, bstep b0 b1⟩
    · obtain hq2 : difB zs m = q := by rw [← hq]; simp [asB, h1, hl]
      have hbd : ∀ x ∈ zs, 0 ≤ x ∧ x ≤ 1048576 := fun x hx => by
        have := tsk_bd (List.all_eq_true.1 h1 x hx)
        omega
      have HQ := Lib.hid hq2
      have HBD := Lib.hid hbd
      clear hq hq2 hbd
      go_wp2_with fail
      refine (tsks_of true h1 _ (hr.below b0) hl (by omega) hm (by simp [go_sem]) (by simp)).mono ?_
      rintro e w1 ⟨rfl, hb1⟩
      have b1 := bstep b0 hb1
      go_wp2_with fail
      refine (differ_is HQ.out _ (hr.below b1) hl hm HBD.out).mono ?_
      rintro e w2 ⟨rfl, hb2⟩
      go_wp2
      go_returns
      exact ⟨rfl, bstep b1 hb2⟩
  · obtain rfl : q = false := by rw [← hq]; simp [asB, hl, hmn]
    have hne : ((m : Int) == (n : Int)) = false := by simp; omega
    clear hq
    go_wp2
    go_returns
    exact ⟨rfl, b0⟩
theorem l1Has_is {q : Bool} {A : Option Addr} {m c : Nat} {x : Int} {zs : List Int} (hq : zs.contains x = q) (w : World) (hr : Rd w 1 A m (ints zs)) (hl : zs.length = m) (hm : m ≤ 1048576) :
    Calls Try.prog 72 #[.slice A m c, .int .i64 x] w fun e w' => e = .returned (.bool q) ∧ Below w.heap.size w w' := by
  go_enter Try.func72, Try.ntmps72
  go_wp2_with fail
  go_loopw [5] (fun i wr => ∃ k : Nat, k ≤ m ∧ i = .int .i64 k ∧ (zs.take k).contains x = false ∧ Below w.heap.size w wr) (fun i _ => m - (intOf i).toNat)
  case atStart => exact ⟨0, Nat.zero_le _, rfl, by simp, Below.refl _ _⟩
  case round =>
    obtain ⟨k, hk, rfl, ho, hW⟩ := hrel
    have HO := Lib.hid ho
    clear ho
    by_cases hlt : k < m
    · obtain ⟨b, off, y, rfl, hbl, hz, c0⟩ := ints_at hr hW hl hlt
      have hk2 : k < zs.length := by omega
      have hcs := contains_step hk2 hz x
      by_cases hxy : y = x
      · subst hxy
        have hc : zs.contains y = true := by
          rw [List.contains_iff_mem]
          exact hz ▸ List.getElem_mem hk2
        obtain rfl : q = true := hq.symm.trans hc
        have heq : (y == y) = true := by simp
        clear hq hz hcs hc
        go_wp2
        go_returns
        exact ⟨rfl, hW⟩
      · have heq : (y == x) = false := by simpa using hxy
        have hst : (zs.take (k + 1)).contains x = false := by
          rw [hcs, HO.out]
          simp; omega
        have HS := Lib.hid hst
        clear hz hcs hst
        go_wp2
        go_roundw
        case rel => exact ⟨k + 1, by omega, by go_num, HS.out, hW⟩
        case measure => simp [intOf]; omega
    · have e : zs.take k = zs := List.take_of_length_le (by omega)
      obtain rfl : q = false := by rw [← hq, ← HO.out, e]
      clear hq
      go_wp2
      go_returns
      exact ⟨rfl, hW⟩
end Go.Proofs.Ytallgjobljkgnaa
