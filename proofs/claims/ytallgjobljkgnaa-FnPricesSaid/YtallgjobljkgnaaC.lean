/-
  Prices: the program's and the reference's test. Conditions: lengths within the bound of a slice.
-/
import Derived.Test.YtallgjobljkgnaaB
namespace Go.Proofs.Ytallgjobljkgnaa
open Go.RowKit
set_option maxRecDepth 100000
set_option maxHeartbeats 1000000

def prcP (x : Int) : Bool := inB x (-100) 100
def prcRow (n : Nat) (xs : List Int) : Bool := decide (xs.length = n) && xs.all prcP
theorem prcClo_of {x : Int} (v : Bool) (h : prcP x = v) (w : World) : Calls Try.prog 75 #[.int .i64 x] w fun e w' => e = .returned (.bool v) ∧ Below w.heap.size w w' := by
  go_enter Try.func75, Try.ntmps75
  go_wp2_with (first | (go_at_call 56; refine (in_any _ _ _ _).mono ?_; rintro e w' ⟨rfl, rfl⟩))
  go_returns
  exact ⟨by rw [← h]; rfl, by (repeat' (first | (with_reducible exact Below.refl _ _) | (with_reducible assumption) | (with_reducible refine balloc ?_ _) | (with_reducible refine bdrew ?_) | (with_reducible refine bdrewN ?_ _) | (with_reducible refine bstep ?_ (by assumption)) | (with_reducible refine bset ?_ ?_ _) | (exact Below.size (by assumption)) | go_size))⟩
theorem notPrc_of {x : Int} {bx : Nat} (v : Bool) (h : prcP x = v) (w : World) (hc : w.cell? ⟨bx, 0, none⟩ = some (.func (.func 75) #[] #[])) (hb : bx < w.heap.size) :
    Calls Try.prog 82 #[.int .i64 x, .pointer (some ⟨bx, 0, none⟩)] w fun e w' => e = .returned (.bool (!v)) ∧ Below w.heap.size w w' := by
  have hne : ¬ bx = w.heap.size := by omega
  go_enter Try.func82, Try.ntmps82
  go_wp2_with (first | (go_at_call 75; refine (prcClo_of v h _).mono ?_; rintro e w' ⟨rfl, hb⟩; (try clear cW fW zW); (first | (have bW := bstep bW hb) | (have bW := bstep (bdrew bW) hb) | (have bW := bstep (balloc bW _) hb) | (have bW := bstep (bdrewN bW _) hb) | (have bW := hb)); clear hb; obtain ⟨cW, fW⟩ := bcell bW; have zW := bsize bW))
  go_returns
  exact ⟨rfl, by (repeat' (first | (with_reducible exact Below.refl _ _) | (with_reducible assumption) | (with_reducible refine balloc ?_ _) | (with_reducible refine bdrew ?_) | (with_reducible refine bdrewN ?_ _) | (with_reducible refine bstep ?_ (by assumption)) | (with_reducible refine bset ?_ ?_ _) | (exact Below.size (by assumption)) | go_size))⟩
theorem prcs_all (A : Option Addr) (n c : Nat) (zs : List Int) (w : World) (hr : Rd w 1 A n (ints zs)) (hl : zs.length = n) (hn : n ≤ 140737488355328) :
    Calls Try.prog 64 #[.slice A n c, .func (.func 75) #[] #[]] w fun e w' => e = .returned (.bool (zs.all prcP)) ∧ Below w.heap.size w w' :=
  all_int A n c zs prcP _ _ _ w hr hl hn fun _ v _ W _ hv hc hb _ => notPrc_of v hv W hc hb
theorem prcRow_of {A Ar : Option Addr} {n c m cr tb : Nat} {xs : List Int} (v : Bool) (h : prcRow n xs = v) (w : World) (hr : Rd w 1 Ar m (ints xs)) (hl : xs.length = m) (hm : m ≤ 140737488355328) (hn : n ≤ 140737488355328) (hc : w.cell? ⟨tb, 0, none⟩ = some (.slice A n c)) (_hb : tb < w.heap.size) :
    Calls Try.prog 74 #[.slice Ar m cr, .pointer (some ⟨tb, 0, none⟩)] w fun e w' => e = .returned (.bool v) ∧ Below w.heap.size w w' := by
  go_enter Try.func74, Try.ntmps74
  by_cases hmn : m = n
  · have h2 : xs.all prcP = v := by rw [← h]; simp [prcRow, hl, hmn]
    have hA := fun W hW => prcs_all Ar m cr xs W (hr.below hW) hl hm
    rw [h2] at hA
    have HA := Lib.hid hA
    clear hA h h2
    subst hmn
    go_wp2_with fail
    refine (HA.out _ (by (repeat' (first | (with_reducible exact Below.refl _ _) | (with_reducible assumption) | (with_reducible refine balloc ?_ _) | (with_reducible refine bdrew ?_) | (with_reducible refine bdrewN ?_ _) | (with_reducible refine bstep ?_ (by assumption)) | (with_reducible refine bset ?_ ?_ _) | (exact Below.size (by assumption)) | go_size)))).mono ?_
    rintro e w1 ⟨rfl, b1⟩
    go_wp2
    go_returns
    exact ⟨rfl, by (repeat' (first | (with_reducible exact Below.refl _ _) | (with_reducible assumption) | (with_reducible refine balloc ?_ _) | (with_reducible refine bdrew ?_) | (with_reducible refine bdrewN ?_ _) | (with_reducible refine bstep ?_ (by assumption)) | (with_reducible refine bset ?_ ?_ _) | (exact Below.size (by assumption)) | go_size))⟩
  · have hne : ¬ (m : Int) = (n : Int) := by omega
    have h2 : v = false := by rw [← h]; simp [prcRow, hl, hmn]
    subst h2
    clear h
    go_wp2
    go_returns
    exact ⟨rfl, by (repeat' (first | (with_reducible exact Below.refl _ _) | (with_reducible assumption) | (with_reducible refine balloc ?_ _) | (with_reducible refine bdrew ?_) | (with_reducible refine bdrewN ?_ _) | (with_reducible refine bstep ?_ (by assumption)) | (with_reducible refine bset ?_ ?_ _) | (exact Below.size (by assumption)) | go_size))⟩
theorem notPrcRow_of {A Ar : Option Addr} {n c m cr tb bx : Nat} {xs : List Int} (v : Bool) (h : prcRow n xs = v) (w : World) (hr : Rd w 1 Ar m (ints xs)) (hl : xs.length = m) (hm : m ≤ 140737488355328) (hn : n ≤ 140737488355328) (hc : w.cell? ⟨tb, 0, none⟩ = some (.slice A n c)) (hb : tb < w.heap.size)
    (hc2 : w.cell? ⟨bx, 0, none⟩ = some (.func (.func 74) #[] #[.pointer (some ⟨tb, 0, none⟩)])) (hb2 : bx < w.heap.size) :
    Calls Try.prog 84 #[.slice Ar m cr, .pointer (some ⟨bx, 0, none⟩)] w fun e w' => e = .returned (.bool (!v)) ∧ Below w.heap.size w w' := by
  have hne : ¬ bx = w.heap.size := by omega
  have hC := fun W (hW : Below w.heap.size w W) => prcRow_of (Ar := Ar) (cr := cr) v h W (hr.below hW) hl hm hn ((hW.cell (p := ⟨tb, 0, none⟩) hb).trans hc) (Nat.lt_of_lt_of_le hb hW.size)
  have HC := Lib.hid hC
  clear hC h hc hr
  go_enter Try.func84, Try.ntmps84
  go_wp2_with fail
  refine (HC.out _ (by (repeat' (first | (with_reducible exact Below.refl _ _) | (with_reducible assumption) | (with_reducible refine balloc ?_ _) | (with_reducible refine bdrew ?_) | (with_reducible refine bdrewN ?_ _) | (with_reducible refine bstep ?_ (by assumption)) | (with_reducible refine bset ?_ ?_ _) | (exact Below.size (by assumption)) | go_size)))).mono ?_
  rintro e w1 ⟨rfl, b1⟩
  go_wp2
  go_returns
  exact ⟨rfl, by (repeat' (first | (with_reducible exact Below.refl _ _) | (with_reducible assumption) | (with_reducible refine balloc ?_ _) | (with_reducible refine bdrew ?_) | (with_reducible refine bdrewN ?_ _) | (with_reducible refine bstep ?_ (by assumption)) | (with_reducible refine bset ?_ ?_ _) | (exact Below.size (by assumption)) | go_size))⟩
theorem arePrices_of {q : Bool} {A B : Option Addr} {n c m d : Nat} {P : List (List Int)} (hq : P.all (prcRow n) = q) (w : World) (hr : RdT w B m P) (hn : n ≤ 1048576) (hm : m ≤ 1048576) (hP : ∀ i, i < m → (row P i).length ≤ 1048576) :
    Calls Try.prog 48 #[.slice A n c, .slice B m d] w fun e w' => e = .returned (.bool q) ∧ Below w.heap.size w w' := by
  have hl := hr.1
  have hA := fun (W : World) (tb : Nat) (hW : Below w.heap.size w W) (hc : W.cell? ⟨tb, 0, none⟩ = some (.slice A n c)) (hb : tb < W.heap.size) =>
    all_rows B m d P (prcRow n) (.func 74) #[] #[.pointer (some ⟨tb, 0, none⟩)] W (hr.below hW) (by omega) (fun Ar m' cr xs v bx W2 hmem hxm hv hc2 hb2 hW2 hR =>
      notPrcRow_of v hv W2 hR hxm (by
        obtain ⟨i, hi, hx⟩ := List.getElem_of_mem hmem
        have := hP i (by omega)
        rw [← row_get hi, hx] at this
        omega) (by omega) ((hW2.cell (p := ⟨tb, 0, none⟩) hb).trans hc) (Nat.lt_of_lt_of_le hb hW2.size) hc2 hb2)
  rw [hq] at hA
  have HA := Lib.hid hA
  clear hA
  go_enter Try.func48, Try.ntmps48
  go_wp2_with fail
  refine (HA.out _ w.heap.size (by (repeat' (first | (with_reducible exact Below.refl _ _) | (with_reducible assumption) | (with_reducible refine balloc ?_ _) | (with_reducible refine bdrew ?_) | (with_reducible refine bdrewN ?_ _) | (with_reducible refine bstep ?_ (by assumption)) | (with_reducible refine bset ?_ ?_ _) | (exact Below.size (by assumption)) | go_size))) (by simp [go_sem]) (by simp)).mono ?_
  rintro e w1 ⟨rfl, b1⟩
  go_wp2
  go_returns
  exact ⟨rfl, by (repeat' (first | (with_reducible exact Below.refl _ _) | (with_reducible assumption) | (with_reducible refine balloc ?_ _) | (with_reducible refine bdrew ?_) | (with_reducible refine bdrewN ?_ _) | (with_reducible refine bstep ?_ (by assumption)) | (with_reducible refine bset ?_ ?_ _) | (exact Below.size (by assumption)) | go_size))⟩
theorem l16Prices_is {q : Bool} {A : Option Addr} {m c : Nat} {n : Nat} {zs : List Int} (hq : prcRow n zs = q) (w : World) (hr : Rd w 1 A m (ints zs)) (hl : zs.length = m) (hm : m ≤ 1048576) (hn : n ≤ 1048576) :
    Calls Try.prog 49 #[.int .i64 n, .slice A m c] w fun e w' => e = .returned (.bool q) ∧ Below w.heap.size w w' := by
  go_enter Try.func49, Try.ntmps49
  go_wp2_with fail
  go_loopw [5] (fun i wr => ∃ k : Nat, k ≤ m ∧ i = .int .i64 k ∧ (zs.take k).all prcP = true ∧ Below w.heap.size w wr) (fun i _ => m - (intOf i).toNat)
  case atStart => exact ⟨0, Nat.zero_le _, rfl, by simp, Below.refl _ _⟩
  case round =>
    obtain ⟨k, hk, rfl, ho, hW⟩ := hrel
    have HO := Lib.hid ho
    clear ho
    by_cases hlt : k < m
    · obtain ⟨b, off, x, rfl, hbl, hz, c0⟩ := ints_at hr hW hl hlt
      have hk2 : k < zs.length := by omega
      have HZ := Lib.hid hz
      clear hz
      rcases hv : prcP x with _ | _
      · obtain rfl : q = false := by rw [← hq]; simp [prcRow, all_not hk2 HZ.out hv]
        clear hq
        go_wp2_with (first | (go_at_call 59; refine (l1In_of false hv _).mono ?_; rintro e w' ⟨rfl, rfl⟩))
        go_returns
        exact ⟨rfl, hW⟩
      · go_wp2_with (first | (go_at_call 59; refine (l1In_of true hv _).mono ?_; rintro e w' ⟨rfl, rfl⟩))
        go_roundw
        case rel => exact ⟨k + 1, by omega, by go_num, all_step hk2 HZ.out HO.out hv, hW⟩
        case measure => simp [intOf]; omega
    · have a1 := all_whole (show zs.length ≤ k by omega) HO.out
      by_cases hmn : m = n
      · subst hmn
        obtain rfl : q = true := by rw [← hq]; simp [prcRow, hl, a1]
        clear hq
        have heq : ((m : Int) == (m : Int)) = true := by simp
        go_wp2
        go_returns
        exact ⟨rfl, hW⟩
      · obtain rfl : q = false := by rw [← hq]; simp [prcRow, hl, hmn]
        clear hq
        have hne : ((m : Int) == (n : Int)) = false := by simp; omega
        go_wp2
        go_returns
        exact ⟨by first | rfl | (simp; omega), hW⟩
end Go.Proofs.Ytallgjobljkgnaa
