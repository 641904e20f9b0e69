/-
  Before: one note before another, of the program and of the reference; IsBefore. Conditions: lengths within the bound of a slice.
-/
import Derived.Test.YthgabapegpndnaaE
import Derived.Test.YthgabapegpndnaaMX
namespace Go.Proofs.Ythgabapegpndnaa
open Go.RowKit
set_option maxRecDepth 100000
set_option maxHeartbeats 2000000

def befB (a b : NoteV) : Bool := decide (a.2.1 ≤ b.2.2.1.getD a.1.toNat 0)
theorem before_is {v : Bool} {u s u2 s2 : Int} {A A2 : Option Addr} {n c n2 c2 : Nat} {ys : List Int} {wd wd2 : ByteArray} (hv : decide (s ≤ ys.getD u.toNat 0) = v) (w : World) (hr : Rd w 1 A2 n2 (ints ys)) (hl : ys.length = n2) (hu : 0 ≤ u ∧ u < (n2 : Int)) :
    Calls Try.prog 46 #[.agg #[.int .i64 u, .int .i64 s, .slice A n c, .string wd], .agg #[.int .i64 u2, .int .i64 s2, .slice A2 n2 c2, .string wd2]] w fun e w' => e = .returned (.bool v) ∧ Below w.heap.size w w' := by
  obtain ⟨u0, u1⟩ := hu
  obtain ⟨m, rfl⟩ : ∃ m : Nat, u = (m : Int) := ⟨u.toNat, by omega⟩
  have hgd : ∀ (h : m < ys.length), ys.getD (m : Int).toNat 0 = ys[m] := fun h => by
    rw [Int.toNat_natCast, List.getD_eq_getElem?_getD, List.getElem?_eq_getElem h]; rfl
  have hm : m < ys.length := by omega
  rw [hgd hm] at hv
  go_enter Try.func46, Try.ntmps46
  go_upto_region 1 with fail
  refine wp_gen (fun w0 => Bk w0 w.heap.size 35 [.int .i64 (m : Int), .int .i64 s, .slice A n c, .string wd] ∧ Bk w0 (w.heap.size + 1) 35 [.int .i64 u2, .int .i64 s2, .slice A2 n2 c2, .string wd2] ∧ Below w.heap.size w w0) ⟨Bk.alloc (Bk.new' rfl) _, Bk.new' (by simp), by (repeat' (first | (with_reducible exact Below.refl _ _) | (with_reducible assumption) | (with_reducible refine balloc ?_ _) | (with_reducible refine bdrew ?_) | (with_reducible refine bdrewN ?_ _) | (with_reducible refine bstep ?_ (by assumption)) | (with_reducible refine bset ?_ ?_ _) | (exact Below.size (by assumption)) | go_size))⟩ ?_
  intro w0 ⟨hX, hY, b0⟩
  obtain ⟨x0, x1, x2, x3, xl⟩ := four_cells hX
  obtain ⟨y0, y1, y2, y3, yl⟩ := four_cells hY
  obtain ⟨b, off, x, rfl, hbl, hx, c0⟩ := ints_at hr b0 hl (k := m) (by omega)
  have i1 : (m : Int) < (n2 : Int) := by omega
  have s1 : b < w0.heap.size := Nat.lt_of_lt_of_le hbl b0.size
  rw [hx] at hv
  clear hx hX hY hgd hm
  rcases v with _ | _
  · go_wp2
    (refine wp_region_bel (by kernel_rfl) (by kernel_rfl) ?_; (repeat (go_big_quiet_step ((first | fail)))); refine wpQuiet_nil ?_; intro w' hw'; have hb := below_of hw'; clear hw'; (try clear cW fW zW); (first | (have bW := bstep bW hb) | (have bW := bstep (bdrew bW) hb) | (have bW := bstep (balloc bW _) hb) | (have bW := bstep (bdrewN bW _) hb) | (have bW := hb)); clear hb; obtain ⟨cW, fW⟩ := bcell bW; have zW := bsize bW)
    go_wp2
    go_returns
    exact ⟨rfl, by (repeat' (first | (with_reducible exact Below.refl _ _) | (with_reducible assumption) | (with_reducible refine balloc ?_ _) | (with_reducible refine bdrew ?_) | (with_reducible refine bdrewN ?_ _) | (with_reducible refine bstep ?_ (by assumption)) | (with_reducible refine bset ?_ ?_ _) | (exact Below.size (by assumption)) | go_size))⟩
  · go_wp2
    (refine wp_region_bel (by kernel_rfl) (by kernel_rfl) ?_; (repeat (go_big_quiet_step ((first | fail)))); refine wpQuiet_nil ?_; intro w' hw'; have hb := below_of hw'; clear hw'; (try clear cW fW zW); (first | (have bW := bstep bW hb) | (have bW := bstep (bdrew bW) hb) | (have bW := bstep (balloc bW _) hb) | (have bW := bstep (bdrewN bW _) hb) | (have bW := hb)); clear hb; obtain ⟨cW, fW⟩ := bcell bW; have zW := bsize bW)
    go_wp2
    go_returns
    exact ⟨rfl, by (repeat' (first | (with_reducible exact Below.refl _ _) | (with_reducible assumption) | (with_reducible refine balloc ?_ _) | (with_reducible refine bdrew ?_) | (with_reducible refine bdrewN ?_ _) | (with_reducible refine bstep ?_ (by assumption)) | (with_reducible refine bset ?_ ?_ _) | (exact Below.size (by assumption)) | go_size))⟩
theorem l17Before_is {v q : Bool} {u s u2 s2 : Int} {A A2 : Option Addr} {n c n2 c2 : Nat} {ys : List Int} {wd wd2 : ByteArray} (hv : decide (s ≤ ys.getD u.toNat 0) = v) (hq : decide ((u - u2) * 100 + s - s2 = 0) = q) (w : World) (hr : Rd w 1 A2 n2 (ints ys)) (hl : ys.length = n2) (hu : 0 ≤ u ∧ u < (n2 : Int))
    (h1 : 0 ≤ u ∧ u ≤ 1000) (h2 : 0 ≤ u2 ∧ u2 ≤ 1000) (h3 : 0 ≤ s ∧ s ≤ 1000) (h4 : 0 ≤ s2 ∧ s2 ≤ 1000) :
    Calls Try.prog 44 #[.agg #[.int .i64 u, .int .i64 s, .slice A n c, .string wd], .agg #[.int .i64 u2, .int .i64 s2, .slice A2 n2 c2, .string wd2]] w fun e w' => e = .returned (.bool (v && !q)) ∧ Below w.heap.size w w' := by
  obtain ⟨u0, u1⟩ := hu
  obtain ⟨m, rfl⟩ : ∃ m : Nat, u = (m : Int) := ⟨u.toNat, by omega⟩
  have hgd : ∀ (h : m < ys.length), ys.getD (m : Int).toNat 0 = ys[m] := fun h => by
    rw [Int.toNat_natCast, List.getD_eq_getElem?_getD, List.getElem?_eq_getElem h]; rfl
  have hm : m < ys.length := by omega
  rw [hgd hm] at hv
  obtain ⟨cv, hcv⟩ : ∃ cv, ((m : Int) - u2) * 100 + s - s2 = cv := ⟨_, rfl⟩
  rw [hcv] at hq
  have HC := fun W => l17Order_of (A := A) (n := n) (c := c) (wd := wd) (A2 := A2) (n2 := n2) (c2 := c2) (wd2 := wd2) hcv W h1 h2 h3 h4
  have HV := Lib.hid hcv
  clear hcv h1 h2 h3 h4
  go_enter Try.func44, Try.ntmps44
  go_upto_region 1 with fail
  refine wp_gen (fun w0 => Bk w0 w.heap.size 35 [.int .i64 (m : Int), .int .i64 s, .slice A n c, .string wd] ∧ Bk w0 (w.heap.size + 1) 35 [.int .i64 u2, .int .i64 s2, .slice A2 n2 c2, .string wd2] ∧ Below w.heap.size w w0) ⟨Bk.alloc (Bk.new' rfl) _, Bk.new' (by simp), by (repeat' (first | (with_reducible exact Below.refl _ _) | (with_reducible assumption) | (with_reducible refine balloc ?_ _) | (with_reducible refine bdrew ?_) | (with_reducible refine bdrewN ?_ _) | (with_reducible refine bstep ?_ (by assumption)) | (with_reducible refine bset ?_ ?_ _) | (exact Below.size (by assumption)) | go_size))⟩ ?_
  intro w0 ⟨hX, hY, b0⟩
  obtain ⟨x0, x1, x2, x3, xl⟩ := four_cells hX
  obtain ⟨y0, y1, y2, y3, yl⟩ := four_cells hY
  obtain ⟨b, off, x, rfl, hbl, hx, c0⟩ := ints_at hr b0 hl (k := m) (by omega)
  have i1 : (m : Int) < (n2 : Int) := by omega
  have s1 : b < w0.heap.size := Nat.lt_of_lt_of_le hbl b0.size
  rw [hx] at hv
  clear hx hX hY hgd hm
  rcases v with _ | _
  · go_wp2
    (refine wp_region_bel (by kernel_rfl) (by kernel_rfl) ?_; (repeat (go_big_quiet_step ((first | fail)))); refine wpQuiet_nil ?_; intro w' hw'; have hb := below_of hw'; clear hw'; (try clear cW fW zW); (first | (have bW := bstep bW hb) | (have bW := bstep (bdrew bW) hb) | (have bW := bstep (balloc bW _) hb) | (have bW := bstep (bdrewN bW _) hb) | (have bW := hb)); clear hb; obtain ⟨cW, fW⟩ := bcell bW; have zW := bsize bW)
    go_wp2
    go_returns
    exact ⟨rfl, by (repeat' (first | (with_reducible exact Below.refl _ _) | (with_reducible assumption) | (with_reducible refine balloc ?_ _) | (with_reducible refine bdrew ?_) | (with_reducible refine bdrewN ?_ _) | (with_reducible refine bstep ?_ (by assumption)) | (with_reducible refine bset ?_ ?_ _) | (exact Below.size (by assumption)) | go_size))⟩
  · rcases q with _ | _
    · have hd : (cv != 0) = true := by simpa using hq
      go_wp2
      (refine wp_region_bel (by kernel_rfl) (by kernel_rfl) ?_; (repeat (go_big_quiet_step ((first | (go_at_call 43; exact calls_bel (HC _)))))); refine wpQuiet_nil ?_; intro w' hw'; have hb := below_of hw'; clear hw'; (try clear cW fW zW); (first | (have bW := bstep bW hb) | (have bW := bstep (bdrew bW) hb) | (have bW := bstep (balloc bW _) hb) | (have bW := bstep (bdrewN bW _) hb) | (have bW := hb)); clear hb; obtain ⟨cW, fW⟩ := bcell bW; have zW := bsize bW)
      go_wp2
      go_returns
      exact ⟨rfl, by (repeat' (first | (with_reducible exact Below.refl _ _) | (with_reducible assumption) | (with_reducible refine balloc ?_ _) | (with_reducible refine bdrew ?_) | (with_reducible refine bdrewN ?_ _) | (with_reducible refine bstep ?_ (by assumption)) | (with_reducible refine bset ?_ ?_ _) | (exact Below.size (by assumption)) | go_size))⟩
    · have hd : (cv != 0) = false := by simpa using hq
      go_wp2
      (refine wp_region_bel (by kernel_rfl) (by kernel_rfl) ?_; (repeat (go_big_quiet_step ((first | (go_at_call 43; exact calls_bel (HC _)))))); refine wpQuiet_nil ?_; intro w' hw'; have hb := below_of hw'; clear hw'; (try clear cW fW zW); (first | (have bW := bstep bW hb) | (have bW := bstep (bdrew bW) hb) | (have bW := bstep (balloc bW _) hb) | (have bW := bstep (bdrewN bW _) hb) | (have bW := hb)); clear hb; obtain ⟨cW, fW⟩ := bcell bW; have zW := bsize bW)
      go_wp2
      go_returns
      exact ⟨rfl, by (repeat' (first | (with_reducible exact Below.refl _ _) | (with_reducible assumption) | (with_reducible refine balloc ?_ _) | (with_reducible refine bdrew ?_) | (with_reducible refine bdrewN ?_ _) | (with_reducible refine bstep ?_ (by assumption)) | (with_reducible refine bset ?_ ?_ _) | (exact Below.size (by assumption)) | go_size))⟩
end Go.Proofs.Ythgabapegpndnaa
