/-
  The program's search for the stock of an order's kind. Conditions: lengths within the bound of a slice.
-/
import Derived.Test.YtaekngiejehooaaZK
namespace Go.Proofs.Ytaekngiejehooaa
open Go.RowKit
set_option maxRecDepth 100000
set_option maxHeartbeats 4000000

theorem two_cells' {w : World} {g : Nat} {t : TypeId} {a b : Value} (h : Bk w g t [a, b]) : w.cell? ⟨g, 0, none⟩ = some a ∧ w.cell? ⟨g, 1, none⟩ = some b ∧ g < w.heap.size := ⟨h.cell 0, h.cell 1, h.lt⟩
theorem list_inj {x y : ByteArray} (h : x.toList = y.toList) : x = y := by
  rw [ByteArray.toList_eq, ByteArray.toList_eq] at h
  cases x; cases y
  simp only [ByteArray.mk.injEq]
  exact Array.toList_inj.1 h
theorem str_yes {x y : ByteArray} (h : x = y) : (x.toList == y.toList) = true := by subst h; simp
theorem str_no {x y : ByteArray} (h : x ≠ y) : (x.toList == y.toList) = false := by
  rw [Bool.eq_false_iff]; exact fun e => h (list_inj (by simpa using e))
theorem serve1_is {v : Bool} {k x1 : ByteArray} {c : Int} {b off n c0 b1 b2 i : Nat} (hv : (k.toList == x1.toList) = v) (w : World) (h1 : w.cell? ⟨b1, 0, none⟩ = some (.slice (some ⟨b, off, none⟩) n c0)) (h2 : w.cell? ⟨b2, 0, none⟩ = some (.int .i64 i)) (hk : w.cell? ⟨b, off + i * 5 + 1, none⟩ = some (.string x1))
    (l0 : b < w.heap.size) (l1 : b1 < w.heap.size) (l2 : b2 < w.heap.size) (hi : i < n) :
    Calls Try.prog 74 #[.agg #[.string k, .int .i64 c], .pointer (some ⟨b1, 0, none⟩), .pointer (some ⟨b2, 0, none⟩)] w fun e w' => e = .returned (.bool v) ∧ Below w.heap.size w w' := by
  have i1 : (0 : Int) ≤ (i : Int) := by omega
  have i2 : (i : Int) < (n : Int) := by omega
  go_enter Try.func74, Try.ntmps74
  go_upto_region 1 with fail
  refine wp_gen (fun w0 => Bk w0 w.heap.size 61 [.string k, .int .i64 c] ∧ Below w.heap.size w w0) ⟨Bk.new' rfl, by (repeat' (first | (with_reducible exact Below.refl _ _) | (with_reducible assumption) | (with_reducible refine balloc ?_ _) | (with_reducible refine bdrew ?_) | (with_reducible refine bdrewN ?_ _) | (with_reducible refine bstep ?_ (by assumption)) | (with_reducible refine bset ?_ ?_ _) | (exact Below.size (by assumption)) | go_size))⟩ ?_
  intro w0 ⟨hX, b0⟩
  obtain ⟨x0, x2, xl⟩ := two_cells' hX
  have g1 := (b0.cell (p := ⟨b1, 0, none⟩) l1).trans h1
  have g2 := (b0.cell (p := ⟨b2, 0, none⟩) l2).trans h2
  have g3 := (b0.cell (p := ⟨b, off + i * 5 + 1, none⟩) l0).trans hk
  have m0 := Nat.lt_of_lt_of_le l0 b0.size
  have m1 := Nat.lt_of_lt_of_le l1 b0.size
  have m2 := Nat.lt_of_lt_of_le l2 b0.size
  clear hX h1 h2 hk l0 l1 l2
  rcases v with _ | _
  · go_wp2
    (refine wp_region_bel (by kernel_rfl) (by kernel_rfl) ?_; (repeat (go_big_quiet_step ((first | fail)))); refine wpQuiet_nil ?_; intro w' hw'; have hb := below_of hw'; clear hw'; (try clear cW fW zW); (first | (have bW := bstep bW hb) | (have bW := bstep (bdrew bW) hb) | (have bW := bstep (balloc bW _) hb) | (have bW := bstep (bdrewN bW _) hb) | (have bW := hb)); clear hb; obtain ⟨cW, fW⟩ := bcell bW; have zW := bsize bW)
    go_wp2
    go_returns
    exact ⟨by first | rfl | (show Ending.returned (.bool (k.toList == x1.toList)) = _; rw [hv]), by (repeat' (first | (with_reducible exact Below.refl _ _) | (with_reducible assumption) | (with_reducible refine balloc ?_ _) | (with_reducible refine bdrew ?_) | (with_reducible refine bdrewN ?_ _) | (with_reducible refine bstep ?_ (by assumption)) | (with_reducible refine bset ?_ ?_ _) | (exact Below.size (by assumption)) | go_size))⟩
  · go_wp2
    (refine wp_region_bel (by kernel_rfl) (by kernel_rfl) ?_; (repeat (go_big_quiet_step ((first | fail)))); refine wpQuiet_nil ?_; intro w' hw'; have hb := below_of hw'; clear hw'; (try clear cW fW zW); (first | (have bW := bstep bW hb) | (have bW := bstep (bdrew bW) hb) | (have bW := bstep (balloc bW _) hb) | (have bW := bstep (bdrewN bW _) hb) | (have bW := hb)); clear hb; obtain ⟨cW, fW⟩ := bcell bW; have zW := bsize bW)
    go_wp2
    go_returns
    exact ⟨by first | rfl | (show Ending.returned (.bool (k.toList == x1.toList)) = _; rw [hv]), by (repeat' (first | (with_reducible exact Below.refl _ _) | (with_reducible assumption) | (with_reducible refine balloc ?_ _) | (with_reducible refine bdrew ?_) | (with_reducible refine bdrewN ?_ _) | (with_reducible refine bstep ?_ (by assumption)) | (with_reducible refine bset ?_ ?_ _) | (exact Below.size (by assumption)) | go_size))⟩
/-- the first place of that kind, or -1 -/
def isFst (S : List StockT) (x : ByteArray) (v : Int) : Prop := (v = -1 ∧ ∀ j (h : j < S.length), S[j].1 ≠ x) ∨ ∃ f : Nat, ∃ hf : f < S.length, v = (f : Int) ∧ S[f].1 = x ∧ ∀ j (hj : j < f), (S[j]'(by omega)).1 ≠ x
theorem index_is {b off n c0 b1 b2 i : Nat} {x1 : ByteArray} {A : Option Addr} {m c : Nat} {S : List StockT} (w : World) (hr : Rd w 2 A m (stkF S)) (hl : S.length = m) (hm : m ≤ 1048576)
    (h1 : w.cell? ⟨b1, 0, none⟩ = some (.slice (some ⟨b, off, none⟩) n c0)) (h2 : w.cell? ⟨b2, 0, none⟩ = some (.int .i64 i)) (hk : w.cell? ⟨b, off + i * 5 + 1, none⟩ = some (.string x1))
    (l0 : b < w.heap.size) (l1 : b1 < w.heap.size) (l2 : b2 < w.heap.size) (hi : i < n) :
    Calls Try.prog 73 #[.slice A m c, .func (.func 74) #[] #[.pointer (some ⟨b1, 0, none⟩), .pointer (some ⟨b2, 0, none⟩)]] w fun e w' => (∃ v, e = .returned (.int .i64 v) ∧ isFst S x1 v) ∧ Below w.heap.size w w' := by
  go_enter Try.func73, Try.ntmps73
  go_wp2
  go_loopw [8] (fun i wr => ∃ k : Nat, k ≤ m ∧ i = .int .i64 k ∧ Hid (∀ j, j < k → ∀ h : j < S.length, S[j].1 ≠ x1) ∧ Below w.heap.size w wr) (fun i _ => m - (intOf i).toNat)
  case atStart => exact ⟨0, Nat.zero_le _, rfl, Lib.hid (fun j hj => absurd hj (Nat.not_lt_zero _)), Below.refl _ _⟩
  case round =>
    obtain ⟨k, hkm, rfl, HN, hW⟩ := hrel
    by_cases hlt : k < m
    · obtain ⟨b3, off3, rfl, hbl, y0, y1, hy, c2, c3⟩ := stk_at hr hW hl hlt
      have g1 := (hW.cell (p := ⟨b1, 0, none⟩) l1).trans h1
      have g2 := (hW.cell (p := ⟨b2, 0, none⟩) l2).trans h2
      have g3 := (hW.cell (p := ⟨b, off + i * 5 + 1, none⟩) l0).trans hk
      have m0 := Nat.lt_of_lt_of_le l0 hW.size
      have m1 := Nat.lt_of_lt_of_le l1 hW.size
      have m2 := Nat.lt_of_lt_of_le l2 hW.size
      have s1 : b3 < wr.heap.size := Nat.lt_of_lt_of_le hbl hW.size
      have HY := Lib.hid hy
      have i1 : (0 : Int) ≤ (k : Int) := by omega
      have i2 : (k : Int) < (m : Int) := by omega
      clear hy
      by_cases he : y0 = x1
      · have hf := serve1_is (c := y1) (str_yes he) wr g1 g2 g3 m0 m1 m2 hi
        have hres : isFst S x1 (k : Int) := .inr ⟨k, by omega, rfl, by rw [HY.out]; exact he, fun j hj => HN.out j hj (by omega)⟩
        have HRS := Lib.hid hres
        clear he hres g1 g2 g3
        go_wp2_with fail
        refine hf.mono ?_
        rintro e w4 ⟨rfl, hb4⟩
        clear hf
        go_wp2
        go_returns
        exact ⟨⟨_, rfl, HRS.out⟩, bstep hW hb4⟩
      · have hf := serve1_is (c := y1) (str_no he) wr g1 g2 g3 m0 m1 m2 hi
        have HE := Lib.hid he
        clear he g1 g2 g3
        go_wp2_with fail
        refine hf.mono ?_
        rintro e w4 ⟨rfl, hb4⟩
        clear hf
        go_wp2
        go_roundw
        case rel =>
          refine ⟨k + 1, by omega, by go_num, Lib.hid (fun j hj h9 => ?_), bstep hW hb4⟩
          by_cases h8 : j < k
          · exact HN.out j h8 h9
          · have : j = k := by omega
            subst this; rw [HY.out]; exact HE.out
        case measure => simp [intOf]; omega
    · have e : k = m := by omega
      have hres : isFst S x1 (-1) := .inl ⟨rfl, fun j hj => HN.out j (by omega) hj⟩
      have HRS := Lib.hid hres
      clear hres
      go_wp2
      go_returns
      exact ⟨⟨_, rfl, HRS.out⟩, hW⟩
end Go.Proofs.Ytaekngiejehooaa
