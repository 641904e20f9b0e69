/-
  Cost tables: the program's and the reference's test. Conditions: lengths within the bound of a slice.
-/
import Derived.Test.YtallgjobljkgnaaM
namespace Go.Proofs.Ytallgjobljkgnaa
open Go.RowKit
set_option maxRecDepth 100000
set_option maxHeartbeats 1000000

def cellP (x : Int) : Bool := inB x 0 100
def rowP (n : Nat) (xs : List Int) : Bool := decide (xs.length = n) && xs.all cellP
def ctB (T : List (List Int)) : Bool := inB (T.length : Int) 1 5 && T.all (rowP T.length)
theorem cellClo_of {x : Int} (v : Bool) (h : cellP x = v) (w : World) : Calls Try.prog 65 #[.int .i64 x] w fun e w' => e = .returned (.bool v) ∧ Below w.heap.size w w' := by
  go_enter Try.func65, Try.ntmps65
  go_wp2_with (first | (go_at_call 56; refine (in_any _ _ _ _).mono ?_; rintro e w' ⟨rfl, rfl⟩))
  go_returns
  exact ⟨by rw [← h]; rfl, by (repeat' (first | (with_reducible exact Below.refl _ _) | (with_reducible assumption) | (with_reducible refine balloc ?_ _) | (with_reducible refine bdrew ?_) | (with_reducible refine bdrewN ?_ _) | (with_reducible refine bstep ?_ (by assumption)) | (with_reducible refine bset ?_ ?_ _) | (exact Below.size (by assumption)) | go_size))⟩
theorem notCell_of {x : Int} {bx : Nat} (v : Bool) (h : cellP x = v) (w : World) (hc : w.cell? ⟨bx, 0, none⟩ = some (.func (.func 65) #[] #[])) (hb : bx < w.heap.size) :
    Calls Try.prog 82 #[.int .i64 x, .pointer (some ⟨bx, 0, none⟩)] w fun e w' => e = .returned (.bool (!v)) ∧ Below w.heap.size w w' := by
  have hne : ¬ bx = w.heap.size := by omega
  go_enter Try.func82, Try.ntmps82
  go_wp2_with (first | (go_at_call 65; refine (cellClo_of v h _).mono ?_; rintro e w' ⟨rfl, hb⟩; (try clear cW fW zW); (first | (have bW := bstep bW hb) | (have bW := bstep (bdrew bW) hb) | (have bW := bstep (balloc bW _) hb) | (have bW := bstep (bdrewN bW _) hb) | (have bW := hb)); clear hb; obtain ⟨cW, fW⟩ := bcell bW; have zW := bsize bW))
  go_returns
  exact ⟨rfl, by (repeat' (first | (with_reducible exact Below.refl _ _) | (with_reducible assumption) | (with_reducible refine balloc ?_ _) | (with_reducible refine bdrew ?_) | (with_reducible refine bdrewN ?_ _) | (with_reducible refine bstep ?_ (by assumption)) | (with_reducible refine bset ?_ ?_ _) | (exact Below.size (by assumption)) | go_size))⟩
theorem cells_all (A : Option Addr) (n c : Nat) (zs : List Int) (w : World) (hr : Rd w 1 A n (ints zs)) (hl : zs.length = n) (hn : n ≤ 140737488355328) :
    Calls Try.prog 64 #[.slice A n c, .func (.func 65) #[] #[]] w fun e w' => e = .returned (.bool (zs.all cellP)) ∧ Below w.heap.size w w' :=
  all_int A n c zs cellP _ _ _ w hr hl hn fun _ v _ W _ hv hc hb _ => notCell_of v hv W hc hb
theorem costRow_of {A Ar : Option Addr} {n c m cr tb : Nat} {xs : List Int} (v : Bool) (h : rowP n xs = v) (w : World) (hr : Rd w 1 Ar m (ints xs)) (hl : xs.length = m) (hm : m ≤ 140737488355328) (hn : n ≤ 140737488355328) (hc : w.cell? ⟨tb, 0, none⟩ = some (.slice A n c)) (_hb : tb < w.heap.size) :
    Calls Try.prog 63 #[.slice Ar m cr, .pointer (some ⟨tb, 0, none⟩)] w fun e w' => e = .returned (.bool v) ∧ Below w.heap.size w w' := by
  go_enter Try.func63, Try.ntmps63
  by_cases hmn : m = n
  · have h2 : xs.all cellP = v := by rw [← h]; simp [rowP, hl, hmn]
    have hA := fun W hW => cells_all Ar m cr xs W (hr.below hW) hl hm
    rw [h2] at hA
    have HA := Lib.hid hA
    clear hA h h2
    subst hmn
    go_wp2_with fail
    refine (HA.out _ (by (repeat' (first | (with_reducible exact Below.refl _ _) | (with_reducible assumption) | (with_reducible refine balloc ?_ _) | (with_reducible refine bdrew ?_) | (with_reducible refine bdrewN ?_ _) | (with_reducible refine bstep ?_ (by assumption)) | (with_reducible refine bset ?_ ?_ _) | (exact Below.size (by assumption)) | go_size)))).mono ?_
    rintro e w1 ⟨rfl, b1⟩
    go_wp2
    go_returns
    exact ⟨rfl, by (repeat' (first | (with_reducible exact Below.refl _ _) | (with_reducible assumption) | (with_reducible refine balloc ?_ _) | (with_reducible refine bdrew ?_) | (with_reducible refine bdrewN ?_ _) | (with_reducible refine bstep ?_ (by assumption)) | (with_reducible refine bset ?_ ?_ _) | (exact Below.size (by assumption)) | go_size))⟩
  · have hne : ¬ (m : Int) = (n : Int) := by omega
    have h2 : v = false := by rw [← h]; simp [rowP, hl, hmn]
    subst h2
    clear h
    go_wp2
    go_returns
    exact ⟨rfl, by (repeat' (first | (with_reducible exact Below.refl _ _) | (with_reducible assumption) | (with_reducible refine balloc ?_ _) | (with_reducible refine bdrew ?_) | (with_reducible refine bdrewN ?_ _) | (with_reducible refine bstep ?_ (by assumption)) | (with_reducible refine bset ?_ ?_ _) | (exact Below.size (by assumption)) | go_size))⟩
theorem notRow_of {A Ar : Option Addr} {n c m cr tb bx : Nat} {xs : List Int} (v : Bool) (h : rowP n xs = v) (w : World) (hr : Rd w 1 Ar m (ints xs)) (hl : xs.length = m) (hm : m ≤ 140737488355328) (hn : n ≤ 140737488355328) (hc : w.cell? ⟨tb, 0, none⟩ = some (.slice A n c)) (hb : tb < w.heap.size)
    (hc2 : w.cell? ⟨bx, 0, none⟩ = some (.func (.func 63) #[] #[.pointer (some ⟨tb, 0, none⟩)])) (hb2 : bx < w.heap.size) :
    Calls Try.prog 84 #[.slice Ar m cr, .pointer (some ⟨bx, 0, none⟩)] w fun e w' => e = .returned (.bool (!v)) ∧ Below w.heap.size w w' := by
  have hne : ¬ bx = w.heap.size := by omega
  have hC := fun W (hW : Below w.heap.size w W) => costRow_of (Ar := Ar) (cr := cr) v h W (hr.below hW) hl hm hn ((hW.cell (p := ⟨tb, 0, none⟩) hb).trans hc) (Nat.lt_of_lt_of_le hb hW.size)
  have HC := Lib.hid hC
  clear hC h hc hr
  go_enter Try.func84, Try.ntmps84
  go_wp2_with fail
  refine (HC.out _ (by (repeat' (first | (with_reducible exact Below.refl _ _) | (with_reducible assumption) | (with_reducible refine balloc ?_ _) | (with_reducible refine bdrew ?_) | (with_reducible refine bdrewN ?_ _) | (with_reducible refine bstep ?_ (by assumption)) | (with_reducible refine bset ?_ ?_ _) | (exact Below.size (by assumption)) | go_size)))).mono ?_
  rintro e w1 ⟨rfl, b1⟩
  go_wp2
  go_returns
  exact ⟨rfl, by (repeat' (first | (with_reducible exact Below.refl _ _) | (with_reducible assumption) | (with_reducible refine balloc ?_ _) | (with_reducible refine bdrew ?_) | (with_reducible refine bdrewN ?_ _) | (with_reducible refine bstep ?_ (by assumption)) | (with_reducible refine bset ?_ ?_ _) | (exact Below.size (by assumption)) | go_size))⟩
theorem IsCostTable_any (A : Option Addr) (n c : Nat) (T : List (List Int)) (w : World) (hr : RdT w A n T) (hn : n ≤ 1048576) (hm : ∀ i, i < n → (row T i).length ≤ 1048576) :
    Calls Try.prog 30 #[.slice A n c] w fun e w' => e = .returned (.bool (ctB T)) ∧ Below w.heap.size w w' := by
  have hl := hr.1
  have hA := fun (W : World) (tb : Nat) (hW : Below w.heap.size w W) (hc : W.cell? ⟨tb, 0, none⟩ = some (.slice A n c)) (hb : tb < W.heap.size) =>
    all_rows A n c T (rowP n) (.func 63) #[] #[.pointer (some ⟨tb, 0, none⟩)] W (hr.below hW) (by omega) (fun Ar m cr xs v bx W2 hmem hxm hv hc2 hb2 hW2 hR =>
      notRow_of v hv W2 hR hxm (by
        obtain ⟨i, hi, hx⟩ := List.getElem_of_mem hmem
        have := hm i (by omega)
        rw [← row_get hi, hx] at this
        omega) (by omega) ((hW2.cell (p := ⟨tb, 0, none⟩) hb).trans hc) (Nat.lt_of_lt_of_le hb hW2.size) hc2 hb2)
  obtain ⟨q, hq⟩ : ∃ q, T.all (rowP n) = q := ⟨_, rfl⟩
  rw [hq] at hA
  have HA := Lib.hid hA
  clear hA
  go_enter Try.func30, Try.ntmps30
  rcases hI : inB (n : Int) 1 5 with _ | _
  · have e1 : ctB T = false := by simp [ctB, hl, hI]
    rw [e1]
    have hin := in_any (n : Int) 1 5
    rw [hI] at hin
    go_wp2_with (first | (go_at_call 56; refine (hin _).mono ?_; rintro e w' ⟨rfl, rfl⟩))
    go_returns
    exact ⟨rfl, by (repeat' (first | (with_reducible exact Below.refl _ _) | (with_reducible assumption) | (with_reducible refine balloc ?_ _) | (with_reducible refine bdrew ?_) | (with_reducible refine bdrewN ?_ _) | (with_reducible refine bstep ?_ (by assumption)) | (with_reducible refine bset ?_ ?_ _) | (exact Below.size (by assumption)) | go_size))⟩
  · have e1 : ctB T = q := by simp [ctB, hl, hI, hq]
    rw [e1]
    have hin := in_any (n : Int) 1 5
    rw [hI] at hin
    have E1 := Lib.hid e1
    have HQ := Lib.hid hq
    clear e1 hq
    go_wp2_with fail
    refine (hin _).mono ?_
    rintro e w1 ⟨rfl, rfl⟩
    go_wp2_with fail
    refine (HA.out _ w.heap.size (by (repeat' (first | (with_reducible exact Below.refl _ _) | (with_reducible assumption) | (with_reducible refine balloc ?_ _) | (with_reducible refine bdrew ?_) | (with_reducible refine bdrewN ?_ _) | (with_reducible refine bstep ?_ (by assumption)) | (with_reducible refine bset ?_ ?_ _) | (exact Below.size (by assumption)) | go_size))) (by simp [go_sem]) (by simp)).mono ?_
    rintro e w1 ⟨rfl, b1⟩
    go_wp2
    go_returns
    exact ⟨rfl, by (repeat' (first | (with_reducible exact Below.refl _ _) | (with_reducible assumption) | (with_reducible refine balloc ?_ _) | (with_reducible refine bdrew ?_) | (with_reducible refine bdrewN ?_ _) | (with_reducible refine bstep ?_ (by assumption)) | (with_reducible refine bset ?_ ?_ _) | (exact Below.size (by assumption)) | go_size))⟩
theorem IsCostTable_is {q : Bool} {A : Option Addr} {n c : Nat} {T : List (List Int)} (hq : ctB T = q) (w : World) (hr : RdT w A n T) (hn : n ≤ 1048576) (hm : ∀ i, i < n → (row T i).length ≤ 1048576) :
    Calls Try.prog 30 #[.slice A n c] w fun e w' => e = .returned (.bool q) ∧ Below w.heap.size w w' := by
  rw [← hq]; exact IsCostTable_any A n c T w hr hn hm
theorem l1In_of {n lo hi : Int} (v : Bool) (h : inB n lo hi = v) (w : World) : Calls Try.prog 59 #[.int .i64 n, .int .i64 lo, .int .i64 hi] w fun e w' => e = .returned (.bool v) ∧ w = w' := by rw [← h]; exact l1In_any n lo hi w
theorem in_of {n lo hi : Int} (v : Bool) (h : inB n lo hi = v) (w : World) : Calls Try.prog 56 #[.int .i64 n, .int .i64 lo, .int .i64 hi] w fun e w' => e = .returned (.bool v) ∧ w = w' := by rw [← h]; exact in_any n lo hi w
theorem all_step {α : Type} {p : α → Bool} {xs : List α} {k : Nat} {x : α} (hk : k < xs.length) (hx : xs[k] = x) (h : (xs.take k).all p = true) (hp : p x = true) : (xs.take (k + 1)).all p = true := by
  rw [List.take_succ_eq_append_getElem hk, List.all_append, h, hx]; simp [hp]
theorem all_not {α : Type} {p : α → Bool} {xs : List α} {k : Nat} {x : α} (hk : k < xs.length) (hx : xs[k] = x) (hp : p x = false) : xs.all p = false := by
  rw [List.all_eq_false]
  exact ⟨xs[k], List.getElem_mem _, by rw [hx]; simp [hp]⟩
theorem all_whole {α : Type} {p : α → Bool} {xs : List α} {k : Nat} (hk : xs.length ≤ k) (h : (xs.take k).all p = true) : xs.all p = true := by
  rw [List.take_of_length_le hk] at h; exact h
theorem ct_not {T : List (List Int)} {n k : Nat} {xs : List Int} (hl : T.length = n) (hk : k < n) (hx : row T k = xs) (h : rowP n xs = false) : ctB T = false := by
  have h2 := all_not (p := rowP n) (show k < T.length by omega) (by rw [row_get, hx]) h
  simp [ctB, hl, h2]
theorem l16Table_is {q : Bool} {A : Option Addr} {n c : Nat} {T : List (List Int)} (hq : ctB T = q) (w : World) (hr : RdT w A n T) (hn : n ≤ 1048576) :
    Calls Try.prog 40 #[.slice A n c] w fun e w' => e = .returned (.bool q) ∧ Below w.heap.size w w' := by
  have hl := hr.1
  go_enter Try.func40, Try.ntmps40
  go_wp2_with fail
  go_loopw [4] (fun i wr => ∃ k : Nat, k ≤ n ∧ i = .int .i64 k ∧ (T.take k).all (rowP n) = true ∧ Below w.heap.size w wr) (fun i _ => n - (intOf i).toNat)
  case atStart => exact ⟨0, Nat.zero_le _, rfl, by simp, Below.refl _ _⟩
  case round =>
    obtain ⟨k, hk, rfl, ho, hW⟩ := hrel
    have HO := Lib.hid ho
    clear ho
    by_cases hlt : k < n
    · obtain ⟨b, off, Ar, m, cr, xs, rfl, hbl, hx, hxm, c0, hrow⟩ := hr.at_ hW hlt
      have HX := Lib.hid hx
      have HR := Lib.hid hrow
      have s1 : b < wr.heap.size := Nat.lt_of_lt_of_le hbl hW.size
      clear hx hrow
      by_cases hmn : m = n
      · subst hmn
        have hne : ((m : Int) != (m : Int)) = false := by simp
        go_wp2_with fail
        obtain ⟨wo, rfl⟩ : ∃ wo, wo = wr := ⟨_, rfl⟩
        go_loopw [5] (fun i wr => ∃ j : Nat, j ≤ m ∧ i = .int .i64 j ∧ (xs.take j).all cellP = true ∧ Below wo.heap.size wo wr) (fun i _ => m - (intOf i).toNat)
        case atStart => exact ⟨0, Nat.zero_le _, rfl, by simp, Below.refl _ _⟩
        case round =>
          obtain ⟨j, hj, rfl, hp, hV⟩ := hrel
          have HP := Lib.hid hp
          clear hp
          have d0 := (hV.cell (p := ⟨b, off + k, none⟩) s1).trans c0
          have s2 : b < wr.heap.size := Nat.lt_of_lt_of_le s1 hV.size
          by_cases hjt : j < m
          · obtain ⟨b', off', x, rfl, hbl', hz, e0⟩ := ints_at HR.out hV hxm hjt
            have hk2 : j < xs.length := by omega
            have s3 : b' < wr.heap.size := Nat.lt_of_lt_of_le hbl' hV.size
            have HZ := Lib.hid hz
            clear hz
            have i1 : (k : Int) < (m : Int) := by omega
            rcases hv : cellP x with _ | _
            · have e1 : rowP m xs = false := by simp [rowP, hxm, all_not hk2 HZ.out hv]
              have e2 := ct_not hl hlt HX.out e1
              obtain rfl := e2.symm.trans hq
              clear e1 e2 hq
              go_wp2_with (first | (go_at_call 59; refine (l1In_of false hv _).mono ?_; rintro e w' ⟨rfl, rfl⟩))
              go_returns
              exact ⟨rfl, bstep hW hV⟩
            · go_wp2_with (first | (go_at_call 59; refine (l1In_of true hv _).mono ?_; rintro e w' ⟨rfl, rfl⟩))
              go_roundw
              case rel => exact ⟨j + 1, by omega, by go_num, all_step hk2 HZ.out HP.out hv, hV⟩
              case measure => simp [intOf]; omega
          · have e1 : rowP m xs = true := by simp [rowP, hxm, all_whole (show xs.length ≤ j by omega) HP.out]
            have E1 := Lib.hid e1
            clear e1
            go_wp2
            go_roundw
            case rel => exact ⟨k + 1, by omega, by go_num, all_step (show k < T.length by omega) (by rw [row_get, HX.out]) HO.out E1.out, bstep hW hV⟩
            case measure => simp [intOf]; omega
      · have e1 : rowP n xs = false := by simp [rowP, hxm, hmn]
        have e2 := ct_not hl hlt HX.out e1
        obtain rfl := e2.symm.trans hq
        have hne : ¬ (m : Int) = (n : Int) := by omega
        clear e1 e2 hq
        go_wp2
        go_returns
        exact ⟨rfl, hW⟩
    · have a1 := all_whole (by omega) HO.out
      have e1 : inB (n : Int) 1 5 = q := by rw [← hq]; simp [ctB, hl, a1]
      go_wp2_with (first | (go_at_call 59; refine (l1In_of q e1 _).mono ?_; rintro e w' ⟨rfl, rfl⟩))
      go_returns
      exact ⟨rfl, hW⟩
theorem sIsCostTable_is {q : Bool} {A : Option Addr} {n c : Nat} {T : List (List Int)} (hq : ctB T = q) (w : World) (hr : RdT w A n T) (hn : n ≤ 1048576) :
    Calls Try.prog 31 #[.slice A n c] w fun e w' => e = .returned (.bool q) ∧ Below w.heap.size w w' := by
  go_enter Try.func31, Try.ntmps31
  go_wp2_with (first | (go_at_call 40; refine (l16Table_is hq _ hr hn).mono ?_; rintro e w' ⟨rfl, hb⟩; (try clear cW fW zW); (first | (have bW := bstep bW hb) | (have bW := bstep (bdrew bW) hb) | (have bW := bstep (balloc bW _) hb) | (have bW := bstep (bdrewN bW _) hb) | (have bW := hb)); clear hb; obtain ⟨cW, fW⟩ := bcell bW; have zW := bsize bW))
  go_returns
  exact ⟨rfl, bW⟩
end Go.Proofs.Ytallgjobljkgnaa
