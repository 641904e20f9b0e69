/-
  Marks laid into slices of orders and of stock, and read again. Conditions: marks are positive and small.
-/
import Derived.Test.YtaekngiejehooaaR
import Derived.Test.YtaekngiejehooaaMT
namespace Go.Proofs.Ytaekngiejehooaa
open Go.RowKit
set_option maxRecDepth 100000
set_option maxHeartbeats 1000000
def ordM (k : Int) (n : Nat) : List OrderT := (List.range n).map fun i : Nat => (k + (i : Int) * 5, mtx (k + (i : Int) * 5 + 1), k + (i : Int) * 5 + 2, k + (i : Int) * 5 + 3, k + (i : Int) * 5 + 4)
theorem ordM_len (k : Int) (n : Nat) : (ordM k n).length = n := by simp [ordM]
theorem ordM_get (k : Int) (n i : Nat) (h : i < (ordM k n).length) : (ordM k n)[i] = (k + (i : Int) * 5, mtx (k + (i : Int) * 5 + 1), k + (i : Int) * 5 + 2, k + (i : Int) * 5 + 3, k + (i : Int) * 5 + 4) := by simp [ordM]
theorem ordM_step {k : Int} {j n : Nat} {cs : List Value} (hl : n * 5 ≤ cs.length) (hj : j < n) {y0 : Int} {y1 : ByteArray} {y2 : Int} {y3 : Int} {y4 : Int} (e0 : y0 = k + (j : Int) * 5) (e1 : y1 = mtx (k + (j : Int) * 5 + 1)) (e2 : y2 = k + (j : Int) * 5 + 2) (e3 : y3 = k + (j : Int) * 5 + 3) (e4 : y4 = k + (j : Int) * 5 + 4) :
    sets (ordF (ordM k j) ++ cs.drop (j * 5)) (j * 5) [.int .i64 y0, .string y1, .int .i64 y2, .int .i64 y3, .int .i64 y4] = ordF (ordM k (j + 1)) ++ cs.drop ((j + 1) * 5) := by
  have hL : (ordF (ordM k j)).length = j * 5 := by rw [ordF_len, ordM_len]
  have e9 : cs.drop (j * 5) = (cs.drop (j * 5)).take 5 ++ cs.drop ((j + 1) * 5) := by
    rw [show (j + 1) * 5 = j * 5 + 5 from by omega, ← List.drop_drop, List.take_append_drop]
  rw [e9, sets_mid hL (by simp only [List.length_take, List.length_drop, List.length_cons, List.length_nil]; omega)]
  unfold ordM ordF
  rw [List.range_succ, List.map_append, List.flatMap_append, List.append_assoc, e0, e1, e2, e3, e4]
  rfl
theorem markOrderS_any (g n c : Nat) (t : TypeId) (cs : List Value) (k : Int) (w : World) (hB : Bk w g t cs) (hl : n * 5 ≤ cs.length) (hk : 0 < k ∧ k + (n : Int) * 5 ≤ 8000000) :
    Calls Try.prog 22 #[.slice (some ⟨g, 0, none⟩) n c, .int .i64 k] w fun e w' => e = .returned (.int .i64 (k + (n : Int) * 5)) ∧ Bk w' g t (ordF (ordM k n) ++ cs.drop (n * 5)) ∧ w.grownBy w' (some g) := by
  obtain ⟨k0, k1⟩ := hk
  go_enter Try.func22, Try.ntmps22
  go_wp2
  go_loopw [1, 5] (fun kk i wr => ∃ j : Nat, j ≤ n ∧ i = .int .i64 j ∧ kk = .int .i64 (k + (j : Int) * 5) ∧ Bk wr g t (ordF (ordM k j) ++ cs.drop (j * 5)) ∧ w.grownBy wr (some g)) (fun _ i _ => n - (intOf i).toNat)
  case atStart => exact ⟨0, Nat.zero_le _, rfl, by simp, by simpa [ordF, ordM] using hB, World.grownBy.refl w _⟩
  case round =>
    obtain ⟨j, hj, rfl, rfl, hR, hG⟩ := hrel
    by_cases hlt : j < n
    · have hL : (ordF (ordM k j) ++ cs.drop (j * 5)).length = cs.length := by rw [List.length_append, ordF_len, ordM_len, List.length_drop]; omega
      obtain ⟨u0, t0⟩ : ∃ u, wr.cell? ⟨g, j * 5, none⟩ = some u := Bk.at_ hR (by omega)
      have f0 : wr.frozen? ⟨g, j * 5, none⟩ = false := Bk.frozen hR _
      obtain ⟨u1, t1⟩ : ∃ u, wr.cell? ⟨g, j * 5 + 1, none⟩ = some u := Bk.at_ hR (by omega)
      have f1 : wr.frozen? ⟨g, j * 5 + 1, none⟩ = false := Bk.frozen hR _
      have hR' := Lib.hid hR
      have hG' := Lib.hid hG
      clear hR hG
      go_wp2_with fail
      refine (markText_any _ _ ⟨by omega, by omega⟩).mono ?_
      rintro e v0 ⟨rfl, hb0⟩
      have hR0 := Lib.hid (Bk.below (Bk.set_ hR'.out (j * 5) _) hb0 (by have := Bk.lt hR'.out; first | exact this | simpa using this | (have := Bk.lt hR'.out; first | exact this | simpa using this)))
      have hG0 := Lib.hid ((hG'.out.trans (onlySet _ ⟨g, j * 5, none⟩ _)).trans (grown_of_below hb0 (some g)))
      clear hb0 t0 f0 u0 t1 f1 u1
      obtain ⟨u1, t1⟩ : ∃ u, v0.cell? ⟨g, j * 5 + 1, none⟩ = some u := Bk.at_ hR0.out (by simp only [List.length_set, hL]; omega)
      have f1 : v0.frozen? ⟨g, j * 5 + 1, none⟩ = false := Bk.frozen hR0.out _
      obtain ⟨u2, t2⟩ : ∃ u, v0.cell? ⟨g, j * 5 + 2, none⟩ = some u := Bk.at_ hR0.out (by simp only [List.length_set, hL]; omega)
      have f2 : v0.frozen? ⟨g, j * 5 + 2, none⟩ = false := Bk.frozen hR0.out _
      obtain ⟨u3, t3⟩ : ∃ u, v0.cell? ⟨g, j * 5 + 3, none⟩ = some u := Bk.at_ hR0.out (by simp only [List.length_set, hL]; omega)
      have f3 : v0.frozen? ⟨g, j * 5 + 3, none⟩ = false := Bk.frozen hR0.out _
      obtain ⟨u4, t4⟩ : ∃ u, v0.cell? ⟨g, j * 5 + 4, none⟩ = some u := Bk.at_ hR0.out (by simp only [List.length_set, hL]; omega)
      have f4 : v0.frozen? ⟨g, j * 5 + 4, none⟩ = false := Bk.frozen hR0.out _
      go_wp2
      go_roundw
      case rel =>
        refine ⟨j + 1, by omega, by go_num, by go_num, Bk.cast (Bk.set_ (Bk.set_ (Bk.set_ (Bk.set_ hR0.out (j * 5 + 1) _) (j * 5 + 2) _) (j * 5 + 3) _) (j * 5 + 4) _) (ordM_step hl hlt ?_ ?_ ?_ ?_ ?_), ((((hG0.out.trans (onlySet _ ⟨g, j * 5 + 1, none⟩ _)).trans (onlySet _ ⟨g, j * 5 + 2, none⟩ _)).trans (onlySet _ ⟨g, j * 5 + 3, none⟩ _)).trans (onlySet _ ⟨g, j * 5 + 4, none⟩ _))⟩
        all_goals first | rfl | omega | (congr 1; omega)
      case measure => simp [intOf]; omega
    · go_wp2
      go_ret
      have e : j = n := by omega
      subst e
      exact ⟨rfl, hR, hG⟩
theorem heldOrderS_any (A : Option Addr) (n c : Nat) (k : Int) (w : World) (hr : Rd w 5 A n (ordF (ordM k n))) (hk : 0 < k ∧ k + (n : Int) * 5 ≤ 8000000) :
    Calls Try.prog 23 #[.slice A n c, .int .i64 k] w fun e w' => e = .returned (.int .i64 (k + (n : Int) * 5)) ∧ Below w.heap.size w w' := by
  obtain ⟨k0, k1⟩ := hk
  go_enter Try.func23, Try.ntmps23
  go_wp2
  go_loopw [1, 5] (fun kk i wr => ∃ j : Nat, j ≤ n ∧ i = .int .i64 j ∧ kk = .int .i64 (k + (j : Int) * 5) ∧ Below w.heap.size w wr) (fun _ i _ => n - (intOf i).toNat)
  case atStart => exact ⟨0, Nat.zero_le _, rfl, by simp, Below.refl _ _⟩
  case round =>
    obtain ⟨j, hj, rfl, rfl, hW⟩ := hrel
    by_cases hlt : j < n
    · obtain ⟨b, off, rfl, hbl, x0, x1, x2, x3, x4, hz, c0, c1, c2, c3, c4⟩ := ord_at hr hW (ordM_len k n) hlt
      rw [ordM_get] at hz
      simp only [Prod.mk.injEq] at hz
      obtain ⟨rfl, rfl, rfl, rfl, rfl⟩ := hz
      have s1 : b < wr.heap.size := Nat.lt_of_lt_of_le hbl hW.size
      have hW' := Lib.hid hW
      go_wp2
      (refine wp_region_bel (by kernel_rfl) (by kernel_rfl) ?_; (repeat (go_big_quiet_step ((first | (go_at_call 52; exact calls_bel (markText_any _ _ ⟨by omega, by omega⟩)))))); refine wpQuiet_nil ?_; intro w' hw'; have hb := below_of hw'; clear hw'; (try clear cW fW zW); (first | (have bW := bstep bW hb) | (have bW := bstep (bdrew bW) hb) | (have bW := bstep (balloc bW _) hb) | (have bW := bstep (bdrewN bW _) hb) | (have bW := hb)); clear hb; obtain ⟨cW, fW⟩ := bcell bW; have zW := bsize bW)
      go_wp2
      go_roundw
      case rel => exact ⟨j + 1, by omega, by go_num, by go_num, by (repeat' (first | (with_reducible exact Below.refl _ _) | (with_reducible assumption) | (with_reducible refine balloc ?_ _) | (with_reducible refine bdrew ?_) | (with_reducible refine bdrewN ?_ _) | (with_reducible refine bstep ?_ (by assumption)) | (with_reducible refine bset ?_ ?_ _) | (exact Below.size (by assumption)) | go_size))⟩
      case measure => simp [intOf]; omega
    · go_wp2
      go_ret
      have e : j = n := by omega
      subst e
      exact ⟨rfl, hW⟩
def stkM (k : Int) (n : Nat) : List StockT := (List.range n).map fun i : Nat => (mtx (k + (i : Int) * 2), k + (i : Int) * 2 + 1)
theorem stkM_len (k : Int) (n : Nat) : (stkM k n).length = n := by simp [stkM]
theorem stkM_get (k : Int) (n i : Nat) (h : i < (stkM k n).length) : (stkM k n)[i] = (mtx (k + (i : Int) * 2), k + (i : Int) * 2 + 1) := by simp [stkM]
theorem stkM_step {k : Int} {j n : Nat} {cs : List Value} (hl : n * 2 ≤ cs.length) (hj : j < n) {y0 : ByteArray} {y1 : Int} (e0 : y0 = mtx (k + (j : Int) * 2)) (e1 : y1 = k + (j : Int) * 2 + 1) :
    sets (stkF (stkM k j) ++ cs.drop (j * 2)) (j * 2) [.string y0, .int .i64 y1] = stkF (stkM k (j + 1)) ++ cs.drop ((j + 1) * 2) := by
  have hL : (stkF (stkM k j)).length = j * 2 := by rw [stkF_len, stkM_len]
  have e9 : cs.drop (j * 2) = (cs.drop (j * 2)).take 2 ++ cs.drop ((j + 1) * 2) := by
    rw [show (j + 1) * 2 = j * 2 + 2 from by omega, ← List.drop_drop, List.take_append_drop]
  rw [e9, sets_mid hL (by simp only [List.length_take, List.length_drop, List.length_cons, List.length_nil]; omega)]
  unfold stkM stkF
  rw [List.range_succ, List.map_append, List.flatMap_append, List.append_assoc, e0, e1]
  rfl
theorem markStockS_any (g n c : Nat) (t : TypeId) (cs : List Value) (k : Int) (w : World) (hB : Bk w g t cs) (hl : n * 2 ≤ cs.length) (hk : 0 < k ∧ k + (n : Int) * 2 ≤ 8000000) :
    Calls Try.prog 37 #[.slice (some ⟨g, 0, none⟩) n c, .int .i64 k] w fun e w' => e = .returned (.int .i64 (k + (n : Int) * 2)) ∧ Bk w' g t (stkF (stkM k n) ++ cs.drop (n * 2)) ∧ w.grownBy w' (some g) := by
  obtain ⟨k0, k1⟩ := hk
  go_enter Try.func37, Try.ntmps37
  go_wp2
  go_loopw [1, 5] (fun kk i wr => ∃ j : Nat, j ≤ n ∧ i = .int .i64 j ∧ kk = .int .i64 (k + (j : Int) * 2) ∧ Bk wr g t (stkF (stkM k j) ++ cs.drop (j * 2)) ∧ w.grownBy wr (some g)) (fun _ i _ => n - (intOf i).toNat)
  case atStart => exact ⟨0, Nat.zero_le _, rfl, by simp, by simpa [stkF, stkM] using hB, World.grownBy.refl w _⟩
  case round =>
    obtain ⟨j, hj, rfl, rfl, hR, hG⟩ := hrel
    by_cases hlt : j < n
    · have hL : (stkF (stkM k j) ++ cs.drop (j * 2)).length = cs.length := by rw [List.length_append, stkF_len, stkM_len, List.length_drop]; omega
      obtain ⟨u0, t0⟩ : ∃ u, wr.cell? ⟨g, j * 2, none⟩ = some u := Bk.at_ hR (by omega)
      have f0 : wr.frozen? ⟨g, j * 2, none⟩ = false := Bk.frozen hR _
      have hR' := Lib.hid hR
      have hG' := Lib.hid hG
      clear hR hG
      go_wp2_with fail
      refine (markText_any _ _ ⟨by omega, by omega⟩).mono ?_
      rintro e v0 ⟨rfl, hb0⟩
      have hR0 := Lib.hid (Bk.below hR'.out hb0 (by have := Bk.lt hR'.out; first | exact this | simpa using this | (have := Bk.lt hR'.out; first | exact this | simpa using this)))
      have hG0 := Lib.hid (hG'.out.trans (grown_of_below hb0 (some g)))
      clear hb0 t0 f0 u0
      obtain ⟨u0, t0⟩ : ∃ u, v0.cell? ⟨g, j * 2, none⟩ = some u := Bk.at_ hR0.out (by simp only [hL]; omega)
      have f0 : v0.frozen? ⟨g, j * 2, none⟩ = false := Bk.frozen hR0.out _
      obtain ⟨u1, t1⟩ : ∃ u, v0.cell? ⟨g, j * 2 + 1, none⟩ = some u := Bk.at_ hR0.out (by simp only [hL]; omega)
      have f1 : v0.frozen? ⟨g, j * 2 + 1, none⟩ = false := Bk.frozen hR0.out _
      go_wp2
      go_roundw
      case rel =>
        refine ⟨j + 1, by omega, by go_num, by go_num, Bk.cast (Bk.set_ (Bk.set_ hR0.out (j * 2) _) (j * 2 + 1) _) (stkM_step hl hlt ?_ ?_), ((hG0.out.trans (onlySet _ ⟨g, j * 2, none⟩ _)).trans (onlySet _ ⟨g, j * 2 + 1, none⟩ _))⟩
        all_goals first | rfl | omega | (congr 1; omega)
      case measure => simp [intOf]; omega
    · go_wp2
      go_ret
      have e : j = n := by omega
      subst e
      exact ⟨rfl, hR, hG⟩
theorem heldStockS_any (A : Option Addr) (n c : Nat) (k : Int) (w : World) (hr : Rd w 2 A n (stkF (stkM k n))) (hk : 0 < k ∧ k + (n : Int) * 2 ≤ 8000000) :
    Calls Try.prog 38 #[.slice A n c, .int .i64 k] w fun e w' => e = .returned (.int .i64 (k + (n : Int) * 2)) ∧ Below w.heap.size w w' := by
  obtain ⟨k0, k1⟩ := hk
  go_enter Try.func38, Try.ntmps38
  go_wp2
  go_loopw [1, 5] (fun kk i wr => ∃ j : Nat, j ≤ n ∧ i = .int .i64 j ∧ kk = .int .i64 (k + (j : Int) * 2) ∧ Below w.heap.size w wr) (fun _ i _ => n - (intOf i).toNat)
  case atStart => exact ⟨0, Nat.zero_le _, rfl, by simp, Below.refl _ _⟩
  case round =>
    obtain ⟨j, hj, rfl, rfl, hW⟩ := hrel
    by_cases hlt : j < n
    · obtain ⟨b, off, rfl, hbl, x0, x1, hz, c0, c1⟩ := stk_at hr hW (stkM_len k n) hlt
      rw [stkM_get] at hz
      simp only [Prod.mk.injEq] at hz
      obtain ⟨rfl, rfl⟩ := hz
      have s1 : b < wr.heap.size := Nat.lt_of_lt_of_le hbl hW.size
      have hW' := Lib.hid hW
      go_wp2
      (refine wp_region_bel (by kernel_rfl) (by kernel_rfl) ?_; (repeat (go_big_quiet_step ((first | (go_at_call 52; exact calls_bel (markText_any _ _ ⟨by omega, by omega⟩)))))); refine wpQuiet_nil ?_; intro w' hw'; have hb := below_of hw'; clear hw'; (try clear cW fW zW); (first | (have bW := bstep bW hb) | (have bW := bstep (bdrew bW) hb) | (have bW := bstep (balloc bW _) hb) | (have bW := bstep (bdrewN bW _) hb) | (have bW := hb)); clear hb; obtain ⟨cW, fW⟩ := bcell bW; have zW := bsize bW)
      go_wp2
      go_roundw
      case rel => exact ⟨j + 1, by omega, by go_num, by go_num, by (repeat' (first | (with_reducible exact Below.refl _ _) | (with_reducible assumption) | (with_reducible refine balloc ?_ _) | (with_reducible refine bdrew ?_) | (with_reducible refine bdrewN ?_ _) | (with_reducible refine bstep ?_ (by assumption)) | (with_reducible refine bset ?_ ?_ _) | (exact Below.size (by assumption)) | go_size))⟩
      case measure => simp [intOf]; omega
    · go_wp2
      go_ret
      have e : j = n := by omega
      subst e
      exact ⟨rfl, hW⟩
end Go.Proofs.Ytaekngiejehooaa
