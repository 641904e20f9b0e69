/-
  OrderNotes of the program and of the reference. Conditions: lengths within the bound of a slice.
-/
import Derived.Test.YthgabapegpndnaaKS
import Derived.Test.YthgabapegpndnaaSO
import Derived.Test.YthgabapegpndnaaAP
namespace Go.Proofs.Ythgabapegpndnaa
open Go.RowKit
set_option maxRecDepth 100000
set_option maxHeartbeats 4000000

def sN (Z : List NoteV) (x : Int) : Int := sumL (nAt Z x.toNat).2.2.1
def ltN (Z : List NoteV) (x y : Int) : Bool := decide (cmpv (sN Z x) (sN Z y) < 0)
theorem ltN_eq (Z : List NoteV) (x y : Int) : ltN Z x y = decide (sN Z x < sN Z y) := by
  unfold ltN cmpv
  (repeat' split) <;> simp <;> omega
def idx (n : Nat) : List Int := (List.range n).map fun i : Nat => (i : Int)
theorem idx_succ (n : Nat) : idx (n + 1) = idx n ++ [(n : Int)] := by unfold idx; rw [List.range_succ, List.map_append]; rfl
theorem idx_len (n : Nat) : (idx n).length = n := by simp [idx]
theorem idx_mem {n : Nat} {x : Int} (h : x ∈ idx n) : ∃ i : Nat, i < n ∧ x = (i : Int) := by
  obtain ⟨i, hi, rfl⟩ := List.mem_map.1 h
  exact ⟨i, List.mem_range.1 hi, rfl⟩
noncomputable def onQ (units : Int) (Z : List NoteV) : Bool := if bookB units Z = true then comB Z else false
noncomputable def onL (units : Int) (Z : List NoteV) : List Int := if onQ units Z = true then srt (ltN Z) (idx Z.length) Z.length else []
theorem onL_len (units : Int) (Z : List NoteV) : (onL units Z).length ≤ Z.length := by
  unfold onL
  split
  · rw [srt_len (by rw [idx_len]; exact Nat.le_refl _)]; exact Nat.le_refl _
  · exact Nat.zero_le _
theorem sumN_bd {xs : List Int} (h : ∀ x ∈ xs, 0 ≤ x ∧ x ≤ 12) : 0 ≤ sumL xs ∧ sumL xs ≤ xs.length * 12 := by
  induction xs with
  | nil => simp [sumL]
  | cons x xs ih =>
    have h1 := h x (List.mem_cons_self ..)
    have h2 := ih fun y hy => h y (List.mem_cons_of_mem _ hy)
    simp only [sumL, List.length_cons]
    omega
theorem sumN_take {xs : List Int} {k : Nat} {x : Int} {h : k < xs.length} (hx : xs[k] = x) : sumL (xs.take (k + 1)) = sumL (xs.take k) + x := by
  rw [List.take_succ_eq_append_getElem h, sumL_append, hx]; simp [sumL]
theorem ord_clo {units : Int} {Z : List NoteV} (hb : bookB units Z = true) (A : Option Addr) (n c i k bx : Nat) (w W : World) (hr : RdN w A n Z) (hW : Below w.heap.size w W) (hi : i < n) (hk : k < n) (hbx : Bk W bx 25 [.slice A n c]) :
    Calls Try.prog 56 #[.int .i64 i, .int .i64 k, .pointer (some ⟨bx, 0, none⟩)] W fun e w' => e = .returned (.int .i64 (cmpv (sN Z i) (sN Z k))) ∧ Below W.heap.size W w' := by
  have hl := hr.1
  obtain ⟨b, off, u, s, Ar, m, cr, xs, wd, rfl, hbl, hx, hxm, hrow, c0, c1, c2, c3⟩ := hr.at_ hW hi
  obtain ⟨b', off', u', s', Ar', m', cr', ys, wd', hbe, hbl', hy, hym, hrow', d0, d1, d2, d3⟩ := hr.at_ hW hk
  simp only [Option.some.injEq, Addr.mk.injEq, and_true] at hbe
  obtain ⟨rfl, rfl⟩ := hbe
  have p1 := book_val hb (k := i) (by omega)
  have p2 := book_val hb (k := k) (by omega)
  rw [hx] at p1
  rw [hy] at p2
  obtain ⟨f1, f2, _⟩ := nP_bd p1
  obtain ⟨g1, g2, _⟩ := nP_bd p2
  have hu24 := inB_iff.1 (bookB_iff.1 hb).1
  have hv : cmpv (sN Z i) (sN Z k) = cmpv (sumL xs) (sumL ys) := by
    unfold sN
    rw [Int.toNat_natCast, Int.toNat_natCast, hx, hy]
  rw [hv]
  have H1 := fun V (hV : Below W.heap.size W V) => sum_any Ar m cr xs V (hrow.below hV) hxm (by omega) (fun x hx => by have := f2 x hx; omega)
  have H2 := fun V (hV : Below W.heap.size W V) => sum_any Ar' m' cr' ys V (hrow'.below hV) hym (by omega) (fun x hx => by have := g2 x hx; omega)
  have s1 : b < W.heap.size := Nat.lt_of_lt_of_le hbl hW.size
  have b0 := hbx.cell 0
  simp only [List.getElem?_cons_zero] at b0
  have s2 := hbx.lt
  have i0 : (0 : Int) ≤ (i : Int) := by omega
  have i1 : (i : Int) < (n : Int) := by omega
  have i2 : (0 : Int) ≤ (k : Int) := by omega
  have i3 : (k : Int) < (n : Int) := by omega
  clear hx hy p1 p2 f1 f2 g1 g2 hu24 hv hr hbx c0 c1 c3 d0 d1 d3 hrow hrow' hxm hym hb
  go_enter Try.func56, Try.ntmps56
  go_wp2_with fail
  (refine wp_region_bel (by kernel_rfl) (by kernel_rfl) ?_; (repeat (go_big_quiet_step ((first | (go_at_call_of 58 (#[Value.slice Ar m cr] : Array Value); exact calls_bel (H1 _ (below_bel _ _))) | (go_at_call_of 58 (#[Value.slice Ar' m' cr'] : Array Value); exact calls_bel (H2 _ (below_bel _ _))) | (go_at_call 57; exact calls_bel_same (Compare_any _ _ _)))))); refine wpQuiet_nil ?_; intro w' hw'; have hb := below_of hw'; clear hw'; (try clear cW fW zW); (first | (have bW := bstep bW hb) | (have bW := bstep (bdrew bW) hb) | (have bW := bstep (balloc bW _) hb) | (have bW := bstep (bdrewN bW _) hb) | (have bW := hb)); clear hb; obtain ⟨cW, fW⟩ := bcell bW; have zW := bsize bW)
  go_wp2
  go_returns
  exact ⟨rfl, by (repeat' (first | (with_reducible exact Below.refl _ _) | (with_reducible assumption) | (with_reducible refine balloc ?_ _) | (with_reducible refine bdrew ?_) | (with_reducible refine bdrewN ?_ _) | (with_reducible refine bstep ?_ (by assumption)) | (with_reducible refine bset ?_ ?_ _) | (exact Below.size (by assumption)) | go_size))⟩
theorem l17Sum_is {v : Int} {u s : Int} {A : Option Addr} {n c : Nat} {xs : List Int} {wd : ByteArray} (hv : sumL xs = v) (w : World) (hr : Rd w 1 A n (ints xs)) (hl : xs.length = n) (hn : n ≤ 100) (hb : ∀ x ∈ xs, 0 ≤ x ∧ x ≤ 12) :
    Calls Try.prog 54 #[.agg #[.int .i64 u, .int .i64 s, .slice A n c, .string wd]] w fun e w' => e = .returned (.int .i64 v) ∧ Below w.heap.size w w' := by
  have HV := Lib.hid hv
  clear hv
  go_enter Try.func54, Try.ntmps54
  go_upto_region 1 with fail
  refine wp_gen (fun w0 => Bk w0 w.heap.size 35 [.int .i64 u, .int .i64 s, .slice A n c, .string wd] ∧ Below w.heap.size w w0) ⟨Bk.new' rfl, by (repeat' (first | (with_reducible exact Below.refl _ _) | (with_reducible assumption) | (with_reducible refine balloc ?_ _) | (with_reducible refine bdrew ?_) | (with_reducible refine bdrewN ?_ _) | (with_reducible refine bstep ?_ (by assumption)) | (with_reducible refine bset ?_ ?_ _) | (exact Below.size (by assumption)) | go_size))⟩ ?_
  intro w0 ⟨hX, b0⟩
  obtain ⟨x0, x1, x2, x3, xl⟩ := four_cells hX
  go_wp2
  go_loopw [3, 4] (fun sv i wr => ∃ k : Nat, k ≤ n ∧ i = .int .i64 k ∧ sv = .int .i64 (sumL (xs.take k)) ∧ Below w0.heap.size w0 wr) (fun _ i _ => n - (intOf i).toNat)
  case atStart => exact ⟨0, Nat.zero_le _, rfl, rfl, Below.refl _ _⟩
  case round =>
    obtain ⟨k, hk, rfl, rfl, hW0⟩ := hrel
    have b1 := bstep b0 hW0
    have X1 := hX.below hW0 hX.lt
    clear x0 x1 x2 x3 xl
    obtain ⟨x0, x1, x2, x3, xl⟩ := four_cells X1
    have hsb := sumN_bd (xs := xs.take k) (fun x hx => hb x (List.mem_of_mem_take hx))
    rw [List.length_take] at hsb
    by_cases hlt : k < n
    · obtain ⟨b, off, x, rfl, hbl, hx, c0⟩ := ints_at hr b1 hl (k := k) (by omega)
      have s1 : b < wr.heap.size := Nat.lt_of_lt_of_le hbl b1.size
      have hxb := hb x (hx ▸ List.getElem_mem _)
      have hst := sumN_take hx
      obtain ⟨sv, hsv⟩ : ∃ sv, sumL (xs.take k) = sv := ⟨_, rfl⟩
      rw [hsv] at hsb hst
      have hbd : 0 ≤ sv ∧ sv ≤ 1200 := by omega
      have HST := Lib.hid hst
      have HSV := Lib.hid hsv
      have i1 : (0 : Int) ≤ (k : Int) := by omega
      have i2 : (k : Int) < (n : Int) := by omega
      rw [HSV.out]
      clear hx hst hsv hsb
      obtain ⟨q1, q2⟩ := hbd
      obtain ⟨q3, q4⟩ := hxb
      go_wp2
      go_roundw
      case rel => exact ⟨k + 1, by omega, by go_num, by rw [HST.out], hW0⟩
      case measure => simp [intOf]; omega
    · obtain rfl : k = n := by omega
      rw [List.take_of_length_le (by omega), HV.out]
      clear hsb
      go_wp2
      go_returns
      exact ⟨rfl, b1⟩
end Go.Proofs.Ythgabapegpndnaa
