/-
  Smokes: the program's and the reference's test, copies, sums. Conditions: lengths within the bound of a slice.
-/
import Derived.Test.YtebfphpmdkagpaaN
import Derived.Test.YtebfphpmdkagpaaP
namespace Go.Proofs.Ytebfphpmdkagpaa
open Go.RowKit
set_option maxRecDepth 100000
set_option maxHeartbeats 1000000

def grmP (x : Int) : Bool := inB x 0 10000
def smB (W H : Int) (zs : List Int) : Bool := (inB W 1 5 && inB H 1 5) && (decide ((zs.length : Int) = W * H) && zs.all grmP)
theorem grm_bd {x : Int} (h : grmP x = true) : 0 ≤ x ∧ x ≤ 10000 := inB_iff.1 h
theorem all_step {α : Type} {p : α → Bool} {xs : List α} {k : Nat} {x : α} (hk : k < xs.length) (hx : xs[k] = x) (h : (xs.take k).all p = true) (hp : p x = true) : (xs.take (k + 1)).all p = true := by
  rw [List.take_succ_eq_append_getElem hk, List.all_append, h, hx]; simp [hp]
theorem all_not {α : Type} {p : α → Bool} {xs : List α} {k : Nat} {x : α} (hk : k < xs.length) (hx : xs[k] = x) (hp : p x = false) : xs.all p = false := by
  rw [List.all_eq_false]
  exact ⟨xs[k], List.getElem_mem _, by rw [hx]; simp [hp]⟩
theorem all_whole {α : Type} {p : α → Bool} {xs : List α} {k : Nat} (hk : xs.length ≤ k) (h : (xs.take k).all p = true) : xs.all p = true := by
  rw [List.take_of_length_le hk] at h; exact h
theorem l1In_of {n lo hi : Int} (v : Bool) (h : inB n lo hi = v) (w : World) : Calls Try.prog 41 #[.int .i64 n, .int .i64 lo, .int .i64 hi] w fun e w' => e = .returned (.bool v) ∧ w = w' := by rw [← h]; exact l1In_any n lo hi w
theorem in_of {n lo hi : Int} (v : Bool) (h : inB n lo hi = v) (w : World) : Calls Try.prog 35 #[.int .i64 n, .int .i64 lo, .int .i64 hi] w fun e w' => e = .returned (.bool v) ∧ w = w' := by rw [← h]; exact in_any n lo hi w
theorem isGrams_of {x : Int} (v : Bool) (h : grmP x = v) (w : World) : Calls Try.prog 37 #[.int .i64 x] w fun e w' => e = .returned (.bool v) ∧ Below w.heap.size w w' := by
  go_enter Try.func37, Try.ntmps37
  go_wp2_with (first | (go_at_call 35; refine (in_of v h _).mono ?_; rintro e w' ⟨rfl, rfl⟩))
  go_returns
  exact ⟨rfl, Below.refl _ _⟩
theorem notGrm_of {x : Int} {bx : Nat} (v : Bool) (h : grmP x = v) (w : World) (hc : w.cell? ⟨bx, 0, none⟩ = some (.func (.func 37) #[] #[])) (hb : bx < w.heap.size) :
    Calls Try.prog 52 #[.int .i64 x, .pointer (some ⟨bx, 0, none⟩)] w fun e w' => e = .returned (.bool (!v)) ∧ Below w.heap.size w w' := by
  have hne : ¬ bx = w.heap.size := by omega
  go_enter Try.func52, Try.ntmps52
  go_wp2_with (first | (go_at_call 37; refine (isGrams_of v h _).mono ?_; rintro e w' ⟨rfl, hb⟩; (try clear cW fW zW); (first | (have bW := bstep bW hb) | (have bW := bstep (bdrew bW) hb) | (have bW := bstep (balloc bW _) hb) | (have bW := bstep (bdrewN bW _) hb) | (have bW := hb)); clear hb; obtain ⟨cW, fW⟩ := bcell bW; have zW := bsize bW))
  go_returns
  exact ⟨rfl, by (repeat' (first | (with_reducible exact Below.refl _ _) | (with_reducible assumption) | (with_reducible refine balloc ?_ _) | (with_reducible refine bdrew ?_) | (with_reducible refine bdrewN ?_ _) | (with_reducible refine bstep ?_ (by assumption)) | (with_reducible refine bset ?_ ?_ _) | (exact Below.size (by assumption)) | go_size))⟩
theorem grms_of {A : Option Addr} {n c : Nat} {zs : List Int} (v : Bool) (h : zs.all grmP = v) (w : World) (hr : Rd w 1 A n (ints zs)) (hl : zs.length = n) (hn : n ≤ 140737488355328) :
    Calls Try.prog 36 #[.slice A n c, .func (.func 37) #[] #[]] w fun e w' => e = .returned (.bool v) ∧ Below w.heap.size w w' := by
  rw [← h]
  exact all_int A n c zs grmP _ _ _ w hr hl hn fun _ v _ W _ hv hc hb _ => notGrm_of v hv W hc hb
theorem side_bd {W H : Int} (h1 : inB W 1 5 = true) (h2 : inB H 1 5 = true) : (1 ≤ W ∧ W ≤ 5) ∧ (1 ≤ H ∧ H ≤ 5) ∧ (1 ≤ W * H ∧ W * H ≤ 25) := by
  have a := inB_iff.1 h1
  have b := inB_iff.1 h2
  have c1 : W * H ≤ 5 * H := Int.mul_le_mul_of_nonneg_right a.2 (by omega)
  have c2 : 1 * H ≤ W * H := Int.mul_le_mul_of_nonneg_right a.1 (by omega)
  exact ⟨a, b, by omega, by omega⟩
theorem IsSmoke_is {q : Bool} {W H : Int} {A : Option Addr} {n c : Nat} {zs : List Int} (hq : smB W H zs = q) (w : World) (hr : Rd w 1 A n (ints zs)) (hl : zs.length = n) (hn : n ≤ 140737488355328) :
    Calls Try.prog 12 #[.agg #[.int .i64 W, .int .i64 H, .slice A n c]] w fun e w' => e = .returned (.bool q) ∧ Below w.heap.size w w' := by
  go_enter Try.func12, Try.ntmps12
  rcases h1 : inB W 1 5 with _ | _
  · obtain rfl : q = false := by rw [← hq]; simp [smB, h1]
    clear hq
    go_wp2_with (first | (go_at_call 35; refine (in_of false h1 _).mono ?_; rintro e w' ⟨rfl, rfl⟩))
    go_returns
    exact ⟨rfl, by (repeat' (first | (with_reducible exact Below.refl _ _) | (with_reducible assumption) | (with_reducible refine balloc ?_ _) | (with_reducible refine bdrew ?_) | (with_reducible refine bdrewN ?_ _) | (with_reducible refine bstep ?_ (by assumption)) | (with_reducible refine bset ?_ ?_ _) | (exact Below.size (by assumption)) | go_size))⟩
  · rcases h2 : inB H 1 5 with _ | _
    · obtain rfl : q = false := by rw [← hq]; simp [smB, h2]
      clear hq
      go_wp2_with fail
      refine (in_of true h1 _).mono ?_
      rintro e w1 ⟨rfl, rfl⟩
      go_wp2_with fail
      refine (in_of false h2 _).mono ?_
      rintro e w1 ⟨rfl, rfl⟩
      go_wp2
      go_returns
      exact ⟨rfl, by (repeat' (first | (with_reducible exact Below.refl _ _) | (with_reducible assumption) | (with_reducible refine balloc ?_ _) | (with_reducible refine bdrew ?_) | (with_reducible refine bdrewN ?_ _) | (with_reducible refine bstep ?_ (by assumption)) | (with_reducible refine bset ?_ ?_ _) | (exact Below.size (by assumption)) | go_size))⟩
    · obtain ⟨b1, b2, b3⟩ := side_bd h1 h2
      have hwr : IntKind.i64.wrap (W * H) = W * H := IntWalk.i64_in _ (by omega)
      by_cases h3 : (n : Int) = W * H
      · obtain rfl : zs.all grmP = q := by rw [← hq]; simp [smB, h1, h2, hl, h3]
        clear hq
        obtain ⟨q, hq⟩ : ∃ q, zs.all grmP = q := ⟨_, rfl⟩
        rw [hq]
        have HQ := Lib.hid hq
        clear hq
        go_wp2_with fail
        refine (in_of true h1 _).mono ?_
        rintro e w1 ⟨rfl, rfl⟩
        go_wp2_with fail
        refine (in_of true h2 _).mono ?_
        rintro e w1 ⟨rfl, rfl⟩
        go_wp2_with fail
        refine (grms_of q HQ.out _ (hr.below (balloc (Below.refl _ _) _)) hl hn).mono ?_
        rintro e w1 ⟨rfl, hb⟩
        go_wp2
        go_returns
        exact ⟨rfl, by (repeat' (first | (with_reducible exact Below.refl _ _) | (with_reducible assumption) | (with_reducible refine balloc ?_ _) | (with_reducible refine bdrew ?_) | (with_reducible refine bdrewN ?_ _) | (with_reducible refine bstep ?_ (by assumption)) | (with_reducible refine bset ?_ ?_ _) | (exact Below.size (by assumption)) | go_size))⟩
      · obtain rfl : q = false := by rw [← hq]; simp [smB, hl, h3]
        clear hq
        go_wp2_with fail
        refine (in_of true h1 _).mono ?_
        rintro e w1 ⟨rfl, rfl⟩
        go_wp2_with fail
        refine (in_of true h2 _).mono ?_
        rintro e w1 ⟨rfl, rfl⟩
        go_wp2
        go_returns
        exact ⟨rfl, by (repeat' (first | (with_reducible exact Below.refl _ _) | (with_reducible assumption) | (with_reducible refine balloc ?_ _) | (with_reducible refine bdrew ?_) | (with_reducible refine bdrewN ?_ _) | (with_reducible refine bstep ?_ (by assumption)) | (with_reducible refine bset ?_ ?_ _) | (exact Below.size (by assumption)) | go_size))⟩
theorem l19Good_is {q : Bool} {W H : Int} {A : Option Addr} {n c : Nat} {zs : List Int} (hq : smB W H zs = q) (w : World) (hr : Rd w 1 A n (ints zs)) (hl : zs.length = n) (_hn : n ≤ 140737488355328) :
    Calls Try.prog 33 #[.agg #[.int .i64 W, .int .i64 H, .slice A n c]] w fun e w' => e = .returned (.bool q) ∧ Below w.heap.size w w' := by
  go_enter Try.func33, Try.ntmps33
  rcases h1 : inB W 1 5 with _ | _
  · obtain rfl : q = false := by rw [← hq]; simp [smB, h1]
    clear hq
    go_wp2_with (first | (go_at_call 41; refine (l1In_of false h1 _).mono ?_; rintro e w' ⟨rfl, rfl⟩))
    go_returns
    exact ⟨rfl, by (repeat' (first | (with_reducible exact Below.refl _ _) | (with_reducible assumption) | (with_reducible refine balloc ?_ _) | (with_reducible refine bdrew ?_) | (with_reducible refine bdrewN ?_ _) | (with_reducible refine bstep ?_ (by assumption)) | (with_reducible refine bset ?_ ?_ _) | (exact Below.size (by assumption)) | go_size))⟩
  · rcases h2 : inB H 1 5 with _ | _
    · obtain rfl : q = false := by rw [← hq]; simp [smB, h2]
      clear hq
      go_wp2_with fail
      refine (l1In_of true h1 _).mono ?_
      rintro e w1 ⟨rfl, rfl⟩
      go_wp2_with fail
      refine (l1In_of false h2 _).mono ?_
      rintro e w1 ⟨rfl, rfl⟩
      go_wp2
      go_returns
      exact ⟨rfl, by (repeat' (first | (with_reducible exact Below.refl _ _) | (with_reducible assumption) | (with_reducible refine balloc ?_ _) | (with_reducible refine bdrew ?_) | (with_reducible refine bdrewN ?_ _) | (with_reducible refine bstep ?_ (by assumption)) | (with_reducible refine bset ?_ ?_ _) | (exact Below.size (by assumption)) | go_size))⟩
    · obtain ⟨b1, b2, b3⟩ := side_bd h1 h2
      have hwr : IntKind.i64.wrap (W * H) = W * H := IntWalk.i64_in _ (by omega)
      by_cases h3 : (n : Int) = W * H
      · have hqz : zs.all grmP = q := by rw [← hq]; simp [smB, h1, h2, hl, h3]
        have HQ := Lib.hid hqz
        clear hqz hq
        have hbox := Bk.new w 27 [.int .i64 W, .int .i64 H, .slice A n c]
        go_wp2_with fail
        refine (l1In_of true h1 _).mono ?_
        rintro e w1 ⟨rfl, rfl⟩
        go_wp2_with fail
        refine (l1In_of true h2 _).mono ?_
        rintro e w1 ⟨rfl, rfl⟩
        go_wp2_with fail
        clear hwr
        go_loopw [3] (fun i wr => ∃ k : Nat, k ≤ n ∧ i = .int .i64 k ∧ (zs.take k).all grmP = true ∧ Bk wr w.heap.size 27 [.int .i64 W, .int .i64 H, .slice A n c] ∧ Below w.heap.size w wr) (fun i _ => n - (intOf i).toNat)
        case atStart => exact ⟨0, Nat.zero_le _, rfl, by simp, hbox, by (repeat' (first | (with_reducible exact Below.refl _ _) | (with_reducible assumption) | (with_reducible refine balloc ?_ _) | (with_reducible refine bdrew ?_) | (with_reducible refine bdrewN ?_ _) | (with_reducible refine bstep ?_ (by assumption)) | (with_reducible refine bset ?_ ?_ _) | (exact Below.size (by assumption)) | go_size))⟩
        case round =>
          obtain ⟨k, hk, rfl, ho, hB, hW⟩ := hrel
          have hc2 := hB.cell 2
          simp only [List.getElem?_cons_zero, List.getElem?_cons_succ] at hc2
          have HO := Lib.hid ho
          have HB := Lib.hid hB
          clear ho hB
          by_cases hlt : k < n
          · obtain ⟨b, off, x, rfl, hbl, hz, c0⟩ := ints_at hr hW hl hlt
            have hk2 : k < zs.length := by omega
            have HZ := Lib.hid hz
            clear hz
            rcases hv : grmP x with _ | _
            · obtain rfl : q = false := by rw [← HQ.out, all_not hk2 HZ.out hv]
              go_wp2_with (first | (go_at_call 41; refine (l1In_of false hv _).mono ?_; rintro e w' ⟨rfl, rfl⟩))
              go_returns
              exact ⟨rfl, hW⟩
            · go_wp2_with (first | (go_at_call 41; refine (l1In_of true hv _).mono ?_; rintro e w' ⟨rfl, rfl⟩))
              go_roundw
              case rel => exact ⟨k + 1, by omega, by go_num, all_step hk2 HZ.out HO.out hv, HB.out, hW⟩
              case measure => simp [intOf]; omega
          · obtain rfl : q = true := by rw [← HQ.out, all_whole (by omega) HO.out]
            go_wp2
            go_returns
            exact ⟨rfl, hW⟩
      · obtain rfl : q = false := by rw [← hq]; simp [smB, hl, h3]
        clear hq
        go_wp2_with fail
        refine (l1In_of true h1 _).mono ?_
        rintro e w1 ⟨rfl, rfl⟩
        go_wp2_with fail
        refine (l1In_of true h2 _).mono ?_
        rintro e w1 ⟨rfl, rfl⟩
        go_wp2
        go_returns
        exact ⟨rfl, by (repeat' (first | (with_reducible exact Below.refl _ _) | (with_reducible assumption) | (with_reducible refine balloc ?_ _) | (with_reducible refine bdrew ?_) | (with_reducible refine bdrewN ?_ _) | (with_reducible refine bstep ?_ (by assumption)) | (with_reducible refine bset ?_ ?_ _) | (exact Below.size (by assumption)) | go_size))⟩
theorem sIsSmoke_is {q : Bool} {W H : Int} {A : Option Addr} {n c : Nat} {zs : List Int} (hq : smB W H zs = q) (w : World) (hr : Rd w 1 A n (ints zs)) (hl : zs.length = n) (hn : n ≤ 140737488355328) :
    Calls Try.prog 10 #[.agg #[.int .i64 W, .int .i64 H, .slice A n c]] w fun e w' => e = .returned (.bool q) ∧ Below w.heap.size w w' := by
  have HQ := Lib.hid hq
  clear hq
  go_enter Try.func10, Try.ntmps10
  go_wp2_with (first | (go_at_call 33; refine (l19Good_is HQ.out _ (hr.below (balloc (Below.refl _ _) _)) hl hn).mono ?_; rintro e w' ⟨rfl, hb⟩; (try clear cW fW zW); (first | (have bW := bstep bW hb) | (have bW := bstep (bdrew bW) hb) | (have bW := bstep (balloc bW _) hb) | (have bW := bstep (bdrewN bW _) hb) | (have bW := hb)); clear hb; obtain ⟨cW, fW⟩ := bcell bW; have zW := bsize bW))
  go_returns
  exact ⟨rfl, by (repeat' (first | (with_reducible exact Below.refl _ _) | (with_reducible assumption) | (with_reducible refine balloc ?_ _) | (with_reducible refine bdrew ?_) | (with_reducible refine bdrewN ?_ _) | (with_reducible refine bstep ?_ (by assumption)) | (with_reducible refine bset ?_ ?_ _) | (exact Below.size (by assumption)) | go_size))⟩
theorem wp_gen {P : Program} {c : Code} {Q : Exit → Act → World → Prop} {a : Act} {w : World} (R : World → Prop) (h1 : R w) (h2 : ∀ w0, R w0 → c.wp P Q a w0) : c.wp P Q a w := h2 w h1
theorem toSmoke_any (W H : Int) (A : Option Addr) (n c : Nat) (zs : List Int) (w : World) (hr : Rd w 1 A n (ints zs)) (hn : n ≤ 1048576) :
    Calls Try.prog 11 #[.agg #[.int .i64 W, .int .i64 H, .slice A n c]] w fun e w' => ∃ g, e = .returned (.agg #[.int .i64 W, .int .i64 H, .slice (some ⟨g, 0, none⟩) n n]) ∧ w.heap.size ≤ g ∧ Bk w' g 3 (ints zs) ∧ Below w.heap.size w w' := by
  go_enter Try.func11, Try.ntmps11
  go_upto_region 4 with fail
  refine wp_gen (fun w0 => Bk w0 w.heap.size 24 [.int .i64 W, .int .i64 H, .slice A n c] ∧ Bk w0 (w.heap.size + 1) 27 [.int .i64 0, .int .i64 0, .slice none 0 0] ∧ Bk w0 (w.heap.size + 2) 27 [.int .i64 W, .int .i64 H, .slice none 0 0] ∧ Below w.heap.size w w0) ?_ ?_
  · refine ⟨Bk.alloc (Bk.alloc (Bk.new' rfl) _) _, Bk.alloc (Bk.new' (by simp)) _, Bk.new' (by simp), by (repeat' (first | (with_reducible exact Below.refl _ _) | (with_reducible assumption) | (with_reducible refine balloc ?_ _) | (with_reducible refine bdrew ?_) | (with_reducible refine bdrewN ?_ _) | (with_reducible refine bstep ?_ (by assumption)) | (with_reducible refine bset ?_ ?_ _) | (exact Below.size (by assumption)) | go_size))⟩
  intro w0 ⟨ha, hb2, hc, hW⟩
  have l2 := hb2.lt
  have l3 := hc.lt
  have x2 := ha.cell 2
  simp only [List.getElem?_cons_zero, List.getElem?_cons_succ] at x2
  go_wp2_with fail
  refine (toIntS_any A n c zs _ (hr.below hW) (by omega)).mono ?_
  rintro e w1 ⟨g, rfl, hg, hB, hb⟩
  have bW : Below w.heap.size w w1 := bstep hW hb
  have hb2 := hb2.below hb hb2.lt
  have hc := hc.below hb hc.lt
  clear x2
  have y0 := hc.cell 0
  have y1 := hc.cell 1
  have y2 := hc.cell 2
  have f2 := hc.frozen 2
  have z0 := hb2.cell 0
  have z1 := hb2.cell 1
  have z2 := hb2.cell 2
  have f0 := hb2.frozen 0
  have f1 := hb2.frozen 1
  have f3 := hb2.frozen 2
  simp only [List.getElem?_cons_zero, List.getElem?_cons_succ] at y0 y1 y2 z0 z1 z2
  have m2 := hb2.lt
  have m3 := hc.lt
  go_wp2
  (refine bodyPost_ret (by simp (maxDischargeDepth := 4) [results, Try.results11, go_sem, *]; try rfl) rfl ?_)
  refine ⟨g, rfl, by have := hW.size; omega, ?_, ?_⟩
  · exact (((hB.far (by simp; omega) _).far (by simp; omega) _).far (by simp; omega) _).far (by simp; omega) _
  · exact bset (bset (bset (bset bW (by simp; omega) _) (by simp) _) (by simp) _) (by simp) _
theorem szSmoke_any (W H : Int) (A : Option Addr) (n c : Nat) (l : Int) (w : World) (hn : n ≤ 9223372036854775807) (hl : 0 ≤ l ∧ l ≤ 1048576) :
    Calls Try.prog 9 #[.agg #[.int .i64 W, .int .i64 H, .slice A n c], .int .i64 l] w fun e w' => e = .returned (.int .i64 (szI n l)) ∧ Below w.heap.size w w' := by
  by_cases h : l < (n : Int)
  · have hz := fun W => szIntS_any A n c l W hn hl
    have e : szI n l = -1 := by unfold szI; rw [if_pos h]
    rw [e] at hz ⊢
    go_enter Try.func9, Try.ntmps9
    go_wp2_with (first | (go_at_call 32; refine (hz _).mono ?_; rintro e w' ⟨rfl, rfl⟩))
    go_returns
    exact ⟨rfl, by (repeat' (first | (with_reducible exact Below.refl _ _) | (with_reducible assumption) | (with_reducible refine balloc ?_ _) | (with_reducible refine bdrew ?_) | (with_reducible refine bdrewN ?_ _) | (with_reducible refine bstep ?_ (by assumption)) | (with_reducible refine bset ?_ ?_ _) | (exact Below.size (by assumption)) | go_size))⟩
  · have hz := fun W => szIntS_any A n c l W hn hl
    have e : szI n l = l - n := by unfold szI; rw [if_neg h]
    rw [e] at hz ⊢
    go_enter Try.func9, Try.ntmps9
    go_wp2_with (first | (go_at_call 32; refine (hz _).mono ?_; rintro e w' ⟨rfl, rfl⟩))
    go_returns
    exact ⟨rfl, by (repeat' (first | (with_reducible exact Below.refl _ _) | (with_reducible assumption) | (with_reducible refine balloc ?_ _) | (with_reducible refine bdrew ?_) | (with_reducible refine bdrewN ?_ _) | (with_reducible refine bstep ?_ (by assumption)) | (with_reducible refine bset ?_ ?_ _) | (exact Below.size (by assumption)) | go_size))⟩
theorem eqSmoke_same (W H : Int) (A B : Option Addr) (n c d : Nat) (zs : List Int) (w : World) (hx : Rd w 1 A n (ints zs)) (hy : Rd w 1 B n (ints zs)) (hn : n ≤ 1048576) :
    Calls Try.prog 13 #[.agg #[.int .i64 W, .int .i64 H, .slice A n c], .agg #[.int .i64 W, .int .i64 H, .slice B n d]] w fun e w' => e = .returned (.bool true) ∧ Below w.heap.size w w' := by
  go_enter Try.func13, Try.ntmps13
  go_wp2_with (first | (go_at_call 20; refine (eqIntS_yes _ (hx.below (balloc (balloc (Below.refl _ _) _) _)) (hy.below (balloc (balloc (Below.refl _ _) _) _)) (by omega) rfl).mono ?_; rintro e w' ⟨rfl, hb⟩; (try clear cW fW zW); (first | (have bW := bstep bW hb) | (have bW := bstep (bdrew bW) hb) | (have bW := bstep (balloc bW _) hb) | (have bW := bstep (bdrewN bW _) hb) | (have bW := hb)); clear hb; obtain ⟨cW, fW⟩ := bcell bW; have zW := bsize bW))
  go_returns
  exact ⟨rfl, by (repeat' (first | (with_reducible exact Below.refl _ _) | (with_reducible assumption) | (with_reducible refine balloc ?_ _) | (with_reducible refine bdrew ?_) | (with_reducible refine bdrewN ?_ _) | (with_reducible refine bstep ?_ (by assumption)) | (with_reducible refine bset ?_ ?_ _) | (exact Below.size (by assumption)) | go_size))⟩
end Go.Proofs.Ytebfphpmdkagpaa
