/-
  slices.SortStableFunc over few ints; the program's serving order. Conditions: at most 19 orders.
-/
import Derived.Test.YtaekngiejehooaaZC
import Derived.Test.YtaekngiejehooaaZ
import Derived.Test.YtaekngiejehooaaQT
namespace Go.Proofs.Ytaekngiejehooaa
open Go.RowKit
set_option maxRecDepth 100000
set_option maxHeartbeats 2000000

theorem stable_int (g n cap : Nat) (t : TypeId) (ds : List Int) (sp : List Value) (cf : Int → Int → Int) (bx : Nat) (w : World) (hB : Bk w g t (ints ds ++ sp)) (hl : ds.length = n) (hn : n ≤ 19)
    (hF : ∀ (x y : Int) (W : World), x ∈ ds → y ∈ ds → w.grownBy W (some g) → Calls Try.prog 69 #[.int .i64 x, .int .i64 y, .pointer (some ⟨bx, 0, none⟩)] W fun e w' => e = .returned (.int .i64 (cf x y)) ∧ Below W.heap.size W w') :
    Calls Try.prog 77 #[.slice (some ⟨g, 0, none⟩) n cap, .int .i64 n, .func (.func 69) #[] #[.pointer (some ⟨bx, 0, none⟩)]] w fun e w' => e = .returned (.tuple #[]) ∧ Bk w' g t (ints (srt (fun x y => decide (cf x y < 0)) ds n) ++ sp) ∧ w.grownBy w' (some g) := by
  have h := insort_int g n cap t ds sp cf bx w hB hl (by omega) hF
  go_enter Try.func77, Try.ntmps77
  go_wp2_with fail
  refine wp_loop_rounds 1 ?_
  rw [rounds_succ]
  go_wp2_with fail
  refine h.mono ?_
  rintro e w1 ⟨rfl, h1, h2⟩
  go_wp2_with fail
  refine wp_loop_rounds 1 ?_
  rw [rounds_succ]
  go_wp2
  go_returns
  exact ⟨rfl, h1, h2⟩
theorem sortStable_int (g n cap : Nat) (t : TypeId) (ds : List Int) (sp : List Value) (cf : Int → Int → Int) (bx : Nat) (w : World) (hB : Bk w g t (ints ds ++ sp)) (hl : ds.length = n) (hn : n ≤ 19)
    (hF : ∀ (x y : Int) (W : World), x ∈ ds → y ∈ ds → w.grownBy W (some g) → Calls Try.prog 69 #[.int .i64 x, .int .i64 y, .pointer (some ⟨bx, 0, none⟩)] W fun e w' => e = .returned (.int .i64 (cf x y)) ∧ Below W.heap.size W w') :
    Calls Try.prog 68 #[.slice (some ⟨g, 0, none⟩) n cap, .func (.func 69) #[] #[.pointer (some ⟨bx, 0, none⟩)]] w fun e w' => e = .returned (.tuple #[]) ∧ Bk w' g t (ints (srt (fun x y => decide (cf x y < 0)) ds n) ++ sp) ∧ w.grownBy w' (some g) := by
  have h := stable_int g n cap t ds sp cf bx w hB hl hn hF
  go_enter Try.func68, Try.ntmps68
  go_wp2_with fail
  refine h.mono ?_
  rintro e w1 ⟨rfl, h1, h2⟩
  go_wp2
  go_returns
  exact ⟨rfl, h1, h2⟩
def orv (a b : Int) : Int := if a = 0 then b else a
theorem Or2_any (a b : Int) (g : Nat) (w : World) (h0 : w.cell? ⟨g, 0, none⟩ = some (.int .i64 a)) (h1 : w.cell? ⟨g, 1, none⟩ = some (.int .i64 b)) :
    Calls Try.prog 70 #[.slice (some ⟨g, 0, none⟩) 2 2] w fun e w' => e = .returned (.int .i64 (orv a b)) ∧ w = w' := by
  by_cases ha : a = 0
  · have hd : (a != 0) = false := by simp [ha]
    by_cases hb : b = 0
    · have hd2 : (b != 0) = false := by simp [hb]
      go_enter Try.func70, Try.ntmps70
      go_wp2_with fail
      refine wp_loop_rounds 3 ?_
      rw [rounds_succ]
      go_wp2_with fail
      rw [rounds_succ]
      go_wp2_with fail
      rw [rounds_succ]
      go_wp2
      go_returns
      exact ⟨ret_int (by simp [orv, ha, hb]), rfl⟩
    · have hd2 : (b != 0) = true := by simp [hb]
      go_enter Try.func70, Try.ntmps70
      go_wp2_with fail
      refine wp_loop_rounds 3 ?_
      rw [rounds_succ]
      go_wp2_with fail
      rw [rounds_succ]
      go_wp2
      go_returns
      exact ⟨ret_int (by simp [orv, ha]), rfl⟩
  · have hd : (a != 0) = true := by simp [ha]
    go_enter Try.func70, Try.ntmps70
    go_wp2_with fail
    refine wp_loop_rounds 3 ?_
    rw [rounds_succ]
    go_wp2
    go_returns
    exact ⟨ret_int (by simp [orv, ha]), rfl⟩
def oAt (zs : List OrderT) (x : Int) : OrderT := zs.getD x.toNat (0, ⟨#[]⟩, 0, 0, 0)
theorem oAt_nat {zs : List OrderT} {i : Nat} {x : OrderT} (h : i < zs.length) (hx : zs[i] = x) : oAt zs (i : Int) = x := by
  unfold oAt
  rw [Int.toNat_natCast, List.getD_eq_getElem?_getD, List.getElem?_eq_getElem h, hx]; rfl
def cfO (zs : List OrderT) (x y : Int) : Int := orv (cmpv (oAt zs y).2.2.2.1 (oAt zs x).2.2.2.1) (cmpv (oAt zs x).2.2.2.2 (oAt zs y).2.2.2.2)
theorem serv_clo (zs : List OrderT) (A : Option Addr) (n c i k bx : Nat) (w W : World) (hr : Rd w 5 A n (ordF zs)) (hl : zs.length = n) (hW : Below w.heap.size w W) (hi : i < n) (hk : k < n) (hbx : Bk W bx 32 [.slice A n c]) :
    Calls Try.prog 69 #[.int .i64 i, .int .i64 k, .pointer (some ⟨bx, 0, none⟩)] W fun e w' => e = .returned (.int .i64 (cfO zs i k)) ∧ Below W.heap.size W w' := by
  obtain ⟨b, off, rfl, hbl, x0, x1, x2, x3, x4, hz, c0, c1, c2, c3, c4⟩ := ord_at hr hW hl hi
  obtain ⟨b', off', hbe, hbl', y0, y1, y2, y3, y4, hy, d0, d1, d2, d3, d4⟩ := ord_at hr hW hl hk
  simp only [Option.some.injEq, Addr.mk.injEq, and_true] at hbe
  obtain ⟨rfl, rfl⟩ := hbe
  have e1 := oAt_nat (by omega) hz
  have e2 := oAt_nat (by omega) hy
  have hv : cfO zs i k = orv (cmpv y3 x3) (cmpv x4 y4) := by unfold cfO; rw [e1, e2]
  rw [hv]
  have s1 : b < W.heap.size := Nat.lt_of_lt_of_le hbl hW.size
  have b0 := hbx.cell 0
  simp only [List.getElem?_cons_zero] at b0
  have s2 := hbx.lt
  have i0 : (0 : Int) ≤ (i : Int) := by omega
  have i1 : (i : Int) < (n : Int) := by omega
  have i2 : (0 : Int) ≤ (k : Int) := by omega
  have i3 : (k : Int) < (n : Int) := by omega
  clear hz hy e1 e2 hv hr hbx c0 c1 c2 d0 d1 d2
  go_enter Try.func69, Try.ntmps69
  go_wp2_with fail
  (refine wp_region_bel_tail 22 (by kernel_rfl) (by kernel_rfl) ?_; (simp only [List.take_succ_cons, List.take_zero, List.drop_succ_cons, List.drop_zero]); (repeat (go_big_quiet_step ((first | (go_at_call 66; exact calls_bel_same (Compare_any _ _ _)))))); refine wpQuiet_nil ?_; intro w' hw'; have hb := below_of hw'; clear hw'; (try clear cW fW zW); (first | (have bW := bstep bW hb) | (have bW := bstep (bdrew bW) hb) | (have bW := bstep (balloc bW _) hb) | (have bW := bstep (bdrewN bW _) hb) | (have bW := hb)); clear hb; obtain ⟨cW, fW⟩ := bcell bW; have zW := bsize bW)
  go_wp2_with fail
  refine (Or2_any (cmpv y3 x3) (cmpv x4 y4) w'.heap.size _ (by simp [go_sem]) (by simp [go_sem])).mono ?_
  rintro e u ⟨rfl, rfl⟩
  go_wp2
  go_returns
  exact ⟨rfl, by (repeat' (first | (with_reducible exact Below.refl _ _) | (with_reducible assumption) | (with_reducible refine balloc ?_ _) | (with_reducible refine bdrew ?_) | (with_reducible refine bdrewN ?_ _) | (with_reducible refine bstep ?_ (by assumption)) | (with_reducible refine bset ?_ ?_ _) | (exact Below.size (by assumption)) | go_size))⟩
end Go.Proofs.Ytaekngiejehooaa
