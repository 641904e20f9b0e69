/-
  SmokeCenter of the reference and of the program. Conditions: lengths within the bound of a slice.
-/
import Derived.Test.YtebfphpmdkagpaaC
namespace Go.Proofs.Ytebfphpmdkagpaa
open Go.RowKit
set_option maxRecDepth 100000
set_option maxHeartbeats 1000000

def cenX (W : Int) (zs : List Int) : Nat → Int
  | 0 => 0
  | k + 1 => cenX W zs k + zs.getD k 0 * ((k : Int) % W)
def cenY (W : Int) (zs : List Int) : Nat → Int
  | 0 => 0
  | k + 1 => cenY W zs k + zs.getD k 0 * ((k : Int) / W)
theorem getD_of {α : Type} {xs : List α} {k : Nat} {d x : α} (hk : k < xs.length) (h : xs[k] = x) : xs.getD k d = x := by
  rw [List.getD_eq_getElem?_getD, List.getElem?_eq_getElem hk, h]; rfl
theorem prod_bd {p m : Int} (hp : 0 ≤ p ∧ p ≤ 10000) (hm : 0 ≤ m ∧ m ≤ 25) : 0 ≤ p * m ∧ p * m ≤ 250000 :=
  ⟨Int.mul_nonneg hp.1 hm.1, by
    have h1 : p * m ≤ 10000 * m := Int.mul_le_mul_of_nonneg_right hp.2 hm.1
    omega⟩
theorem mod_bd {W : Int} {k : Nat} (hW : 1 ≤ W ∧ W ≤ 5) : 0 ≤ (k : Int) % W ∧ (k : Int) % W ≤ 25 := by
  have h1 := Int.emod_nonneg (k : Int) (show W ≠ 0 by omega)
  have h2 := Int.emod_lt_of_pos (k : Int) (show 0 < W by omega)
  omega
theorem div_bd {W : Int} {k : Nat} (hW : 1 ≤ W ∧ W ≤ 5) (hk : k ≤ 25) : 0 ≤ (k : Int) / W ∧ (k : Int) / W ≤ 25 := by
  have h1 : 0 ≤ (k : Int) / W := Int.ediv_nonneg (by omega) (by omega)
  have h2 : (k : Int) / W ≤ k := Int.ediv_le_self _ (by omega)
  omega
theorem cen_bd {W : Int} {zs : List Int} (hW : 1 ≤ W ∧ W ≤ 5) (hz : ∀ x ∈ zs, 0 ≤ x ∧ x ≤ 10000) (hn : zs.length ≤ 25) : ∀ k, k ≤ zs.length → (0 ≤ cenX W zs k ∧ cenX W zs k ≤ 250000 * (k : Int)) ∧ (0 ≤ cenY W zs k ∧ cenY W zs k ≤ 250000 * (k : Int))
  | 0, _ => by simp [cenX, cenY]
  | k + 1, h => by
    have ih := cen_bd hW hz hn k (by omega)
    have hx := hz zs[k] (List.getElem_mem _)
    have p1 := prod_bd hx (mod_bd (k := k) hW)
    have p2 := prod_bd hx (div_bd (k := k) hW (by omega))
    have e := getD_of (d := 0) (show k < zs.length by omega) (rfl : zs[k] = zs[k])
    have e1 : cenX W zs (k + 1) = cenX W zs k + zs[k] * ((k : Int) % W) := by show _ + zs.getD k 0 * _ = _; rw [e]
    have e2 : cenY W zs (k + 1) = cenY W zs k + zs[k] * ((k : Int) / W) := by show _ + zs.getD k 0 * _ = _; rw [e]
    rw [e1, e2]
    omega
theorem cen_step {W : Int} {zs : List Int} {k : Nat} {x : Int} (hk : k < zs.length) (hx : zs[k] = x) : cenX W zs (k + 1) = cenX W zs k + x * ((k : Int) % W) ∧ cenY W zs (k + 1) = cenY W zs k + x * ((k : Int) / W) := by
  have e := getD_of (d := 0) hk hx
  exact ⟨by show _ + zs.getD k 0 * _ = _; rw [e], by show _ + zs.getD k 0 * _ = _; rw [e]⟩
def cenB (W H : Int) (zs : List Int) : Bool := smB W H zs && !decide (sumL zs = 0)
def cenXI (W H : Int) (zs : List Int) : Int := if cenB W H zs = true then cenX W zs zs.length else 0
def cenYI (W H : Int) (zs : List Int) : Int := if cenB W H zs = true then cenY W zs zs.length else 0
def cenSI (W H : Int) (zs : List Int) : Int := if cenB W H zs = true then sumL zs else 0
theorem cen_no {W H : Int} {zs : List Int} (h : cenB W H zs = false) : cenXI W H zs = 0 ∧ cenYI W H zs = 0 ∧ cenSI W H zs = 0 := by simp [cenXI, cenYI, cenSI, h]
theorem smB_bd {W H : Int} {zs : List Int} (h : smB W H zs = true) : (1 ≤ W ∧ W ≤ 5) ∧ zs.length ≤ 25 := by
  simp only [smB, Bool.and_eq_true, decide_eq_true_eq] at h
  have := side_bd h.1.1 h.1.2
  omega
theorem sCenter_is {q : Bool} {X Y V W H : Int} {A : Option Addr} {n c : Nat} {zs : List Int} (hq : cenB W H zs = q) (hX : cenXI W H zs = X) (hY : cenYI W H zs = Y) (hV : cenSI W H zs = V) (w : World) (hr : Rd w 1 A n (ints zs)) (hl : zs.length = n) (hn : n ≤ 1048576) :
    Calls Try.prog 16 #[.agg #[.int .i64 W, .int .i64 H, .slice A n c]] w fun e w' => e = .returned (.tuple #[.int .i64 X, .int .i64 Y, .int .i64 V, .bool q]) ∧ Below w.heap.size w w' := by
  rcases hs : smB W H zs with _ | _
  · have e1 : cenB W H zs = false := by simp [cenB, hs]
    obtain ⟨e2, e3, e4⟩ := cen_no e1
    obtain rfl := e1.symm.trans hq
    obtain rfl := e2.symm.trans hX
    obtain rfl := e3.symm.trans hY
    obtain rfl := e4.symm.trans hV
    clear e1 e2 e3 e4 hq hX hY hV
    have hG := fun W0 (hW : Below w.heap.size w W0) => l19Good_is (A := A) (c := c) hs W0 (hr.below hW) hl (by omega)
    go_enter Try.func16, Try.ntmps16
    go_wp2_with (first | (go_at_call 33; refine (hG _ (balloc (Below.refl _ _) _)).mono ?_; rintro e w' ⟨rfl, hb⟩; (try clear cW fW zW); (first | (have bW := bstep bW hb) | (have bW := bstep (bdrew bW) hb) | (have bW := bstep (balloc bW _) hb) | (have bW := bstep (bdrewN bW _) hb) | (have bW := hb)); clear hb; obtain ⟨cW, fW⟩ := bcell bW; have zW := bsize bW))
    go_returns
    exact ⟨rfl, by (repeat' (first | (with_reducible exact Below.refl _ _) | (with_reducible assumption) | (with_reducible refine balloc ?_ _) | (with_reducible refine bdrew ?_) | (with_reducible refine bdrewN ?_ _) | (with_reducible refine bstep ?_ (by assumption)) | (with_reducible refine bset ?_ ?_ _) | (exact Below.size (by assumption)) | go_size))⟩
  · have hz := grms_bd (smB_all hs)
    obtain ⟨hW5, hn25⟩ := smB_bd hs
    have hG := fun W0 (hW : Below w.heap.size w W0) => l19Good_is (A := A) (c := c) hs W0 (hr.below hW) hl (by omega)
    have hT := fun W0 (hW : Below w.heap.size w W0) => l19Total_any W H A n c zs W0 (hr.below hW) hl (by omega) hz
    have hb := sumL_bd (B := 10000) (by omega) hz
    rw [hl] at hb hn25
    have HG := Lib.hid hG
    have hXB := Bk.new w 27 [.int .i64 W, .int .i64 H, .slice A n c]
    by_cases h0 : sumL zs = 0
    · have e1 : cenB W H zs = false := by simp [cenB, h0]
      obtain ⟨e2, e3, e4⟩ := cen_no e1
      obtain rfl := e1.symm.trans hq
      obtain rfl := e2.symm.trans hX
      obtain rfl := e3.symm.trans hY
      obtain rfl := e4.symm.trans hV
      rw [h0] at hT
      have HT := Lib.hid hT
      clear e1 e2 e3 e4 hq hX hY hV hG hT hz hs h0 hb
      go_enter Try.func16, Try.ntmps16
      go_wp2_with fail
      refine (HG.out _ (balloc (Below.refl _ _) _)).mono ?_
      rintro e w1 ⟨rfl, hb1⟩
      have b1 := bstep (balloc (Below.refl _ _) _) hb1
      obtain ⟨x0, x1, x2, xl⟩ := three_cells (hXB.below hb1 hXB.lt)
      go_wp2_with fail
      refine (HT.out _ b1).mono ?_
      rintro e w2 ⟨rfl, hb2⟩
      go_wp2
      go_returns
      exact ⟨rfl, bstep b1 hb2⟩
    · have e1 : cenB W H zs = true := by simp [cenB, hs, h0]
      have e2 : cenXI W H zs = cenX W zs n := by simp only [cenXI, e1, if_true, hl]
      have e3 : cenYI W H zs = cenY W zs n := by simp only [cenYI, e1, if_true, hl]
      have e4 : cenSI W H zs = sumL zs := by simp only [cenSI, e1, if_true]
      obtain rfl := e1.symm.trans hq
      have EX := Lib.hid (e2.symm.trans hX)
      have EY := Lib.hid (e3.symm.trans hY)
      have e4 := e4.symm.trans hV
      rw [e4] at hT h0
      have HT := Lib.hid hT
      have hcb := cen_bd hW5 hz (by omega)
      have HC := Lib.hid hcb
      have HZ := Lib.hid hz
      clear e1 e2 e3 e4 hq hX hY hV hG hT hs hb hz hcb
      obtain ⟨U, rfl⟩ : ∃ U : Nat, W = (U : Int) := ⟨W.toNat, by omega⟩
      have hU0 : ¬ (U : Int) = 0 := by omega
      go_enter Try.func16, Try.ntmps16
      go_wp2_with fail
      refine (HG.out _ (balloc (Below.refl _ _) _)).mono ?_
      rintro e w1 ⟨rfl, hb1⟩
      have b1 := bstep (balloc (Below.refl _ _) _) hb1
      have hX1 := hXB.below hb1 hXB.lt
      obtain ⟨x0, x1, x2, xl⟩ := three_cells hX1
      go_wp2_with fail
      refine (HT.out _ b1).mono ?_
      rintro e w2 ⟨rfl, hb2⟩
      have b2 := bstep b1 hb2
      have hX2 := hX1.below hb2 hX1.lt
      clear x0 x1 x2 xl
      go_wp2_with fail
      go_loopw [6, 7, 8] (fun s t i wr => ∃ k : Nat, k ≤ n ∧ i = .int .i64 k ∧ s = .int .i64 (cenX U zs k) ∧ t = .int .i64 (cenY U zs k) ∧ Bk wr w.heap.size 27 [.int .i64 U, .int .i64 H, .slice A n c] ∧ Below w.heap.size w wr) (fun _ _ i _ => n - (intOf i).toNat)
      case atStart => exact ⟨0, Nat.zero_le _, rfl, rfl, rfl, hX2, b2⟩
      case round =>
        obtain ⟨k, hk, rfl, rfl, rfl, hXk, hW⟩ := hrel
        obtain ⟨x0, x1, x2, xl⟩ := three_cells hXk
        have HX := Lib.hid hXk
        clear hXk
        by_cases hlt : k < n
        · obtain ⟨b, off, x, rfl, hbl, hzk, c0⟩ := ints_at hr hW hl hlt
          have hk2 : k < zs.length := by omega
          have hx := HZ.out x (hzk ▸ List.getElem_mem hk2)
          obtain ⟨st1, st2⟩ := cen_step (W := U) hk2 hzk
          obtain ⟨bd1, bd2⟩ := HC.out k (by omega)
          obtain ⟨u, hu⟩ : ∃ u, cenX U zs k = u := ⟨_, rfl⟩
          obtain ⟨v, hv⟩ : ∃ u, cenY U zs k = u := ⟨_, rfl⟩
          rw [hu] at st1 bd1 ⊢
          rw [hv] at st2 bd2 ⊢
          have mb := mod_bd (k := k) hW5
          have db := div_bd (k := k) hW5 (by omega)
          obtain ⟨r, hrr⟩ : ∃ r, (k : Int) % (U : Int) = r := ⟨_, rfl⟩
          obtain ⟨d, hdd⟩ : ∃ r, (k : Int) / (U : Int) = r := ⟨_, rfl⟩
          rw [hrr] at st1 mb
          rw [hdd] at st2 db
          have pb1 := prod_bd hx mb
          have pb2 := prod_bd hx db
          obtain ⟨pr, hpr⟩ : ∃ y, x * r = y := ⟨_, rfl⟩
          obtain ⟨pd, hpd⟩ : ∃ y, x * d = y := ⟨_, rfl⟩
          rw [hpr] at st1 pb1
          rw [hpd] at st2 pb2
          have S1 := Lib.hid st1
          have S2 := Lib.hid st2
          have i1 : (0 : Int) ≤ (k : Int) := by omega
          have i2 : (k : Int) < (n : Int) := by omega
          have s1 : b < wr.heap.size := Nat.lt_of_lt_of_le hbl hW.size
          clear st1 st2 hu hv hzk hx
          go_wp2
          (refine wp_region_bel (by kernel_rfl) (by kernel_rfl) ?_; (repeat (go_big_quiet_step ((first | fail)))); refine wpQuiet_nil ?_; intro w' hw'; have hb := below_of hw'; clear hw'; (try clear cW fW zW); (first | (have bW := bstep bW hb) | (have bW := bstep (bdrew bW) hb) | (have bW := bstep (balloc bW _) hb) | (have bW := bstep (bdrewN bW _) hb) | (have bW := hb)); clear hb; obtain ⟨cW, fW⟩ := bcell bW; have zW := bsize bW)
          have b3 := bW
          have hX3 := HX.out.below bW xl
          have c1 := (cW b (off + k) s1).trans c0
          have s2 := zW b s1
          clear x0 x1 x2 xl c0 bW cW fW zW
          obtain ⟨x0, x1, x2, xl⟩ := three_cells hX3
          have HX3 := Lib.hid hX3
          clear hX3
          go_wp2
          (refine wp_region_bel (by kernel_rfl) (by kernel_rfl) ?_; (repeat (go_big_quiet_step ((first | fail)))); refine wpQuiet_nil ?_; intro w' hw'; have hb := below_of hw'; clear hw'; (try clear cW fW zW); (first | (have bW := bstep bW hb) | (have bW := bstep (bdrew bW) hb) | (have bW := bstep (balloc bW _) hb) | (have bW := bstep (bdrewN bW _) hb) | (have bW := hb)); clear hb; obtain ⟨cW, fW⟩ := bcell bW; have zW := bsize bW)
          go_wp2
          go_roundw
          case rel => exact ⟨k + 1, by omega, by go_num, by rw [S1.out], by rw [S2.out], HX3.out.below bW xl, bstep hW (bstep b3 bW)⟩
          case measure => simp [intOf]; omega
        · have hkn : k = n := by omega
          subst hkn
          rw [EX.out, EY.out]
          have i2 : ¬ (k : Int) < (k : Int) := by omega
          go_wp2_with fail
          refine (HT.out _ hW).mono ?_
          rintro e w3 ⟨rfl, hb3⟩
          go_wp2
          go_returns
          exact ⟨rfl, bstep hW hb3⟩
theorem Center_is {q : Bool} {X Y V W H : Int} {A : Option Addr} {n c : Nat} {zs : List Int} (hq : cenB W H zs = q) (hX : cenXI W H zs = X) (hY : cenYI W H zs = Y) (hV : cenSI W H zs = V) (w : World) (hr : Rd w 1 A n (ints zs)) (hl : zs.length = n) (hn : n ≤ 1048576) :
    Calls Try.prog 17 #[.agg #[.int .i64 W, .int .i64 H, .slice A n c]] w fun e w' => e = .returned (.tuple #[.int .i64 X, .int .i64 Y, .int .i64 V, .bool q]) ∧ Below w.heap.size w w' := by
  rcases hs : smB W H zs with _ | _
  · have e1 : cenB W H zs = false := by simp [cenB, hs]
    obtain ⟨e2, e3, e4⟩ := cen_no e1
    obtain rfl := e1.symm.trans hq
    obtain rfl := e2.symm.trans hX
    obtain rfl := e3.symm.trans hY
    obtain rfl := e4.symm.trans hV
    clear e1 e2 e3 e4 hq hX hY hV
    have hG := fun W0 (hW : Below w.heap.size w W0) => IsSmoke_is (A := A) (c := c) hs W0 (hr.below hW) hl (by omega)
    go_enter Try.func17, Try.ntmps17
    go_wp2_with (first | (go_at_call 12; refine (hG _ (balloc (Below.refl _ _) _)).mono ?_; rintro e w' ⟨rfl, hb⟩; (try clear cW fW zW); (first | (have bW := bstep bW hb) | (have bW := bstep (bdrew bW) hb) | (have bW := bstep (balloc bW _) hb) | (have bW := bstep (bdrewN bW _) hb) | (have bW := hb)); clear hb; obtain ⟨cW, fW⟩ := bcell bW; have zW := bsize bW))
    go_returns
    exact ⟨rfl, by (repeat' (first | (with_reducible exact Below.refl _ _) | (with_reducible assumption) | (with_reducible refine balloc ?_ _) | (with_reducible refine bdrew ?_) | (with_reducible refine bdrewN ?_ _) | (with_reducible refine bstep ?_ (by assumption)) | (with_reducible refine bset ?_ ?_ _) | (exact Below.size (by assumption)) | go_size))⟩
  · have hz := grms_bd (smB_all hs)
    obtain ⟨hW5, hn25⟩ := smB_bd hs
    have hG := fun W0 (hW : Below w.heap.size w W0) => IsSmoke_is (A := A) (c := c) hs W0 (hr.below hW) hl (by omega)
    have hT := fun W0 (hW : Below w.heap.size w W0) => sum_any A n c zs W0 (hr.below hW) hl (by omega) hz
    have hb := sumL_bd (B := 10000) (by omega) hz
    rw [hl] at hb hn25
    have HG := Lib.hid hG
    have hXB := Bk.new w 27 [.int .i64 W, .int .i64 H, .slice A n c]
    by_cases h0 : sumL zs = 0
    · have e1 : cenB W H zs = false := by simp [cenB, h0]
      obtain ⟨e2, e3, e4⟩ := cen_no e1
      obtain rfl := e1.symm.trans hq
      obtain rfl := e2.symm.trans hX
      obtain rfl := e3.symm.trans hY
      obtain rfl := e4.symm.trans hV
      rw [h0] at hT
      have HT := Lib.hid hT
      clear e1 e2 e3 e4 hq hX hY hV hG hT hz hs h0 hb
      go_enter Try.func17, Try.ntmps17
      go_wp2_with fail
      refine (HG.out _ (balloc (Below.refl _ _) _)).mono ?_
      rintro e w1 ⟨rfl, hb1⟩
      have b1 := bstep (balloc (Below.refl _ _) _) hb1
      obtain ⟨x0, x1, x2, xl⟩ := three_cells (hXB.below hb1 hXB.lt)
      go_wp2_with fail
      refine (HT.out _ b1).mono ?_
      rintro e w2 ⟨rfl, hb2⟩
      go_wp2
      go_returns
      exact ⟨rfl, bstep b1 hb2⟩
    · have e1 : cenB W H zs = true := by simp [cenB, hs, h0]
      have e2 : cenXI W H zs = cenX W zs n := by simp only [cenXI, e1, if_true, hl]
      have e3 : cenYI W H zs = cenY W zs n := by simp only [cenYI, e1, if_true, hl]
      have e4 : cenSI W H zs = sumL zs := by simp only [cenSI, e1, if_true]
      obtain rfl := e1.symm.trans hq
      have EX := Lib.hid (e2.symm.trans hX)
      have EY := Lib.hid (e3.symm.trans hY)
      have e4 := e4.symm.trans hV
      rw [e4] at hT h0
      have HT := Lib.hid hT
      have hcb := cen_bd hW5 hz (by omega)
      have HC := Lib.hid hcb
      have HZ := Lib.hid hz
      clear e1 e2 e3 e4 hq hX hY hV hG hT hs hb hz hcb
      obtain ⟨U, rfl⟩ : ∃ U : Nat, W = (U : Int) := ⟨W.toNat, by omega⟩
      have hU0 : ¬ (U : Int) = 0 := by omega
      go_enter Try.func17, Try.ntmps17
      go_wp2_with fail
      refine (HG.out _ (balloc (Below.refl _ _) _)).mono ?_
      rintro e w1 ⟨rfl, hb1⟩
      have b1 := bstep (balloc (Below.refl _ _) _) hb1
      have hX1 := hXB.below hb1 hXB.lt
      obtain ⟨x0, x1, x2, xl⟩ := three_cells hX1
      go_wp2_with fail
      refine (HT.out _ b1).mono ?_
      rintro e w2 ⟨rfl, hb2⟩
      have b2 := bstep b1 hb2
      have hX2 := hX1.below hb2 hX1.lt
      clear x0 x1 x2 xl
      obtain ⟨x0, x1, x2, xl⟩ := three_cells hX2
      go_wp2_with fail
      clear x0 x1 x2 xl
      go_loopw [6, 7, 22] (fun s t i wr => ∃ k : Nat, k ≤ n ∧ i = .int .i64 k ∧ s = .int .i64 (cenX U zs k) ∧ t = .int .i64 (cenY U zs k) ∧ Bk wr w.heap.size 27 [.int .i64 U, .int .i64 H, .slice A n c] ∧ Below w.heap.size w wr) (fun _ _ i _ => n - (intOf i).toNat)
      case atStart => exact ⟨0, Nat.zero_le _, rfl, rfl, rfl, hX2, b2⟩
      case round =>
        obtain ⟨k, hk, rfl, rfl, rfl, hXk, hW⟩ := hrel
        obtain ⟨x0, x1, x2, xl⟩ := three_cells hXk
        have HX := Lib.hid hXk
        clear hXk
        by_cases hlt : k < n
        · obtain ⟨b, off, x, rfl, hbl, hzk, c0⟩ := ints_at hr hW hl hlt
          have hk2 : k < zs.length := by omega
          have hx := HZ.out x (hzk ▸ List.getElem_mem hk2)
          obtain ⟨st1, st2⟩ := cen_step (W := U) hk2 hzk
          obtain ⟨bd1, bd2⟩ := HC.out k (by omega)
          obtain ⟨u, hu⟩ : ∃ u, cenX U zs k = u := ⟨_, rfl⟩
          obtain ⟨v, hv⟩ : ∃ u, cenY U zs k = u := ⟨_, rfl⟩
          rw [hu] at st1 bd1 ⊢
          rw [hv] at st2 bd2 ⊢
          have mb := mod_bd (k := k) hW5
          have db := div_bd (k := k) hW5 (by omega)
          obtain ⟨r, hrr⟩ : ∃ r, (k : Int) % (U : Int) = r := ⟨_, rfl⟩
          obtain ⟨d, hdd⟩ : ∃ r, (k : Int) / (U : Int) = r := ⟨_, rfl⟩
          rw [hrr] at st1 mb
          rw [hdd] at st2 db
          have pb1 := prod_bd hx mb
          have pb2 := prod_bd hx db
          obtain ⟨pr, hpr⟩ : ∃ y, x * r = y := ⟨_, rfl⟩
          obtain ⟨pd, hpd⟩ : ∃ y, x * d = y := ⟨_, rfl⟩
          rw [hpr] at st1 pb1
          rw [hpd] at st2 pb2
          have S1 := Lib.hid st1
          have S2 := Lib.hid st2
          have i1 : (0 : Int) ≤ (k : Int) := by omega
          have i2 : (k : Int) < (n : Int) := by omega
          have s1 : b < wr.heap.size := Nat.lt_of_lt_of_le hbl hW.size
          clear st1 st2 hu hv hzk hx
          go_wp2
          (refine wp_region_bel (by kernel_rfl) (by kernel_rfl) ?_; (repeat (go_big_quiet_step ((first | fail)))); refine wpQuiet_nil ?_; intro w' hw'; have hb := below_of hw'; clear hw'; (try clear cW fW zW); (first | (have bW := bstep bW hb) | (have bW := bstep (bdrew bW) hb) | (have bW := bstep (balloc bW _) hb) | (have bW := bstep (bdrewN bW _) hb) | (have bW := hb)); clear hb; obtain ⟨cW, fW⟩ := bcell bW; have zW := bsize bW)
          go_wp2
          go_roundw
          case rel => exact ⟨k + 1, by omega, by go_num, by rw [S1.out], by rw [S2.out], HX.out.below bW xl, bstep hW bW⟩
          case measure => simp [intOf]; omega
        · have hkn : k = n := by omega
          subst hkn
          rw [EX.out, EY.out]
          have i2 : ¬ (k : Int) < (k : Int) := by omega
          go_wp2_with fail
          refine (HT.out _ hW).mono ?_
          rintro e w3 ⟨rfl, hb3⟩
          go_wp2
          go_returns
          exact ⟨rfl, bstep hW hb3⟩
end Go.Proofs.Ytebfphpmdkagpaa
