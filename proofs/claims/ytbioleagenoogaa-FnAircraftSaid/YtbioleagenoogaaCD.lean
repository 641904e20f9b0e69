/-
  The aircraft chapter's draws MostDrops and SortieMinutes. Conditions: the text is no longer than 2^16.
-/
import Derived.Test.YtbioleagenoogaaDG
import Derived.Test.YtbioleagenoogaaCF
import Derived.Test.YtbioleagenoogaaCA
namespace Go.Proofs.Ytbioleagenoogaa
open Go.RowKit
set_option maxRecDepth 100000
set_option maxHeartbeats 4000000

theorem list3 {zs : List Int} (h : zs.length = 3) : ∃ a b c, zs = [a, b, c] := by match zs, h with | [a, b, c], _ => exact ⟨a, b, c, rfl⟩
theorem list5 {zs : List Int} (h : zs.length = 5) : ∃ a b c d e, zs = [a, b, c, d, e] := by match zs, h with | [a, b, c, d, e], _ => exact ⟨a, b, c, d, e, rfl⟩
theorem aircraft_ats (X : DX) (B id : Int) (w : World) (hX : X.base ≤ w.heap.size) (hC : Cur w X B) (hB : B ≤ 562949953421312) (hid : -9223372036854775808 ≤ id ∧ id ≤ 9223372036854775807) :
    Calls Try.prog 50 #[.pointer (some ⟨X.g, 0, none⟩), .int .i64 id] w fun e w' => ∃ i l s f fi, e = .returned (.agg #[.int .i64 i, .int .i64 l, .int .i64 s, .int .i64 f, .int .i64 fi]) ∧ w.grownBy w' (some X.g) ∧ Cur w' X (B + 64) ∧ I64 i ∧ I64 l ∧ I64 s ∧ I64 f ∧ I64 fi := by
  refine (aircraft_ty { X with base := w.heap.size } B id w rfl (hC.rebase hX) hB hid).mono ?_
  rintro e w' ⟨v, rfl, hg, hC', zs, rfl, hl, hz⟩
  obtain ⟨i, l, s, f, fi, rfl⟩ := list5 hl
  exact ⟨i, l, s, f, fi, rfl, hg, hC'.unbase hC.ne, hz i (by simp), hz l (by simp), hz s (by simp), hz f (by simp), hz fi (by simp)⟩
theorem target_fa (X : DX) (B : Int) (w : World) (hX : X.base ≤ w.heap.size) (hC : Cur w X B) (hB : B ≤ 562949953421312) :
    Calls Try.prog 51 #[.pointer (some ⟨X.g, 0, none⟩)] w fun e w' => ∃ v, e = .returned v ∧ w.grownBy w' (some X.g) ∧ Cur w' X (B + 64) ∧ isA 3 v w' := by
  refine (target_ty { X with base := w.heap.size } B w rfl (hC.rebase hX) hB).mono ?_
  rintro e w' ⟨v, rfl, hg, hC', hd⟩
  exact ⟨v, rfl, hg, hC'.unbase hC.ne, hd⟩
theorem target_ats (X : DX) (B : Int) (w : World) (hX : X.base ≤ w.heap.size) (hC : Cur w X B) (hB : B ≤ 562949953421312) :
    Calls Try.prog 51 #[.pointer (some ⟨X.g, 0, none⟩)] w fun e w' => ∃ wa le ba, e = .returned (.agg #[.int .i64 wa, .int .i64 le, .int .i64 ba]) ∧ w.grownBy w' (some X.g) ∧ Cur w' X (B + 64) ∧ I64 wa ∧ I64 le ∧ I64 ba := by
  refine (target_fa X B w hX hC hB).mono ?_
  rintro e w' ⟨v, rfl, hg, hC', zs, rfl, hl, hz⟩
  obtain ⟨a, b, c, rfl⟩ := list3 hl
  exact ⟨a, b, c, rfl, hg, hC', hz a (by simp), hz b (by simp), hz c (by simp)⟩
theorem DrawMostDrops_any (A : Option Addr) (n c : Nat) (cs : List Value) (w : World) (hc : Code w A n cs) :
    Calls Try.prog 17 #[.slice A n c] w fun e w' => ∃ i l s f fi wa le ba, e = .returned (.tuple #[.agg #[.int .i64 i, .int .i64 l, .int .i64 s, .int .i64 f, .int .i64 fi], .agg #[.int .i64 wa, .int .i64 le, .int .i64 ba]]) ∧ (I64 i ∧ I64 l ∧ I64 s ∧ I64 f ∧ I64 fi ∧ I64 wa ∧ I64 le ∧ I64 ba) ∧ Below w.heap.size w w' := by
  go_enter Try.func17, Try.ntmps17
  go_upto_region 2 with fail
  refine wp_genC (fun W => Below w.heap.size w W ∧ Cur W ⟨w.heap.size + 2, A, n, c, cs, w.heap.size + 2 + 1⟩ 0 ∧ Bk W w.heap.size 41 [.int .i64 0, .int .i64 0, .int .i64 0, .int .i64 0, .int .i64 0] ∧ Bk W (w.heap.size + 1) 31 [.int .i64 0, .int .i64 0, .int .i64 0]) ⟨by (repeat' (first | (with_reducible exact Below.refl _ _) | (with_reducible assumption) | (with_reducible refine balloc ?_ _) | (with_reducible refine bdrew ?_) | (with_reducible refine bdrewN ?_ _) | (with_reducible refine bstep ?_ (by assumption)) | (with_reducible refine bset ?_ ?_ _) | (exact Below.size (by assumption)) | go_size)), Cur.made hc (by (repeat' (first | (with_reducible exact Below.refl _ _) | (with_reducible assumption) | (with_reducible refine balloc ?_ _) | (with_reducible refine bdrew ?_) | (with_reducible refine bdrewN ?_ _) | (with_reducible refine bstep ?_ (by assumption)) | (with_reducible refine bset ?_ ?_ _) | (exact Below.size (by assumption)) | go_size))) (by simp), ((Bk.new _ _ _).alloc _).alloc _, (Bk.new' (by simp)).alloc _⟩ ?_
  intro W ⟨bW, hC, k2, k3⟩
  obtain ⟨g, hg⟩ : ∃ g, w.heap.size + 2 = g := ⟨_, rfl⟩
  obtain ⟨d3, hd⟩ : ∃ d, w.heap.size + 1 = d := ⟨_, rfl⟩
  rw [show w.heap.size + 1 + 1 = g from hg]
  rw [hg] at hC
  rw [hd] at k3 ⊢
  go_upto_region 3 with (go_at_call 50; refine (aircraft_ats ⟨g, A, n, c, cs, g + 1⟩ _ _ _ hC.lt hC (by omega) (by omega)).mono ?_; rintro e w' ⟨i, l, s, f, fi, rfl, hg1, hC, hi, hl, hs, hf, hfi⟩; dsimp only at hg1; have bW := below_gr bW hg1 (by omega); have k2 := k2.grown hg1 (by simp; omega); have k3 := k3.grown hg1 (by simp; omega))
  obtain ⟨d6, hd6⟩ : ∃ d, w'.heap.size = d := ⟨_, rfl⟩
  rw [hd6]
  obtain ⟨i0, i1⟩ := hi
  obtain ⟨l0, l1⟩ := hl
  obtain ⟨s0, s1⟩ := hs
  obtain ⟨f0, f1⟩ := hf
  obtain ⟨fi0, fi1⟩ := hfi
  refine wp_genC (fun W => Below w.heap.size w W ∧ Cur W ⟨g, A, n, c, cs, g + 1⟩ (0 + 64) ∧ Bk W w.heap.size 41 [.int .i64 0, .int .i64 0, .int .i64 0, .int .i64 0, .int .i64 0] ∧ Bk W d3 31 [.int .i64 0, .int .i64 0, .int .i64 0] ∧ Bk W d6 41 [.int .i64 i, .int .i64 l, .int .i64 s, .int .i64 f, .int .i64 fi] ∧ g < d6) ⟨by (repeat' (first | (with_reducible exact Below.refl _ _) | (with_reducible assumption) | (with_reducible refine balloc ?_ _) | (with_reducible refine bdrew ?_) | (with_reducible refine bdrewN ?_ _) | (with_reducible refine bstep ?_ (by assumption)) | (with_reducible refine bset ?_ ?_ _) | (exact Below.size (by assumption)) | go_size)), hC.alloc _, k2.alloc _, k3.alloc _, Bk.new' hd6, by have := hC.lt; simp only at this; omega⟩ ?_
  clear hd6
  intro w0 ⟨bW, hC, hd2, hd3, hd6, g6⟩
  have hA : 0 < n → ∀ a, A = some a → a.block < w.heap.size := hc.lt
  obtain ⟨B, hB⟩ : ∃ B : Int, (0 : Int) + 64 = B := ⟨_, rfl⟩
  obtain ⟨bs, hbs⟩ : ∃ b, g + 1 = b := ⟨_, rfl⟩
  have hbs0 : bs ≤ w0.heap.size := by have := hC.lt; simp only at this; omega
  rw [hB, hbs] at hC
  obtain ⟨d2, hd2'⟩ : ∃ d, w.heap.size = d := ⟨_, rfl⟩
  rw [hd2'] at hd2 hA ⊢
  have nd2 : d2 ≠ g := by omega
  have nd3 : d3 ≠ g := by omega
  have gd2 : Good w0 d2 41 5 := Good.of_bk (zs := [0, 0, 0, 0, 0]) hd2 (by simp)
  have gd3 : Good w0 d3 31 3 := Good.of_bk (zs := [0, 0, 0]) hd3 (by simp)
  have bud : ∀ k : Nat, k < 5 → B + 64 * (k : Int) ≤ 562949953421312 := fun k hk => by omega
  refine wp_region_inv (Le := Lx g [d2, d3] w0.heap.size) (G := GG ⟨g, A, n, c, cs, bs⟩ [d2, d3] w0 (B) (64)) 14 [([], [true, true, true, true, true, true, true, true, true, true, true, true, false, false]), ([], [true, true, true, true, true, true, true, true, true, true, true, false, true, false]), ([1], [true, true, true, true, true, true, true, true, true, true, true, false, false, true]), ([0], [true, true, true, true, true, true, true, true, true, true, true, false, false, false]), ([2], [true, true, true, true, true, true, true, true, true, true, true, false, false, false])] [true, true, true, true, true, true, true, true, true, true, true, false, false, false] (by kernel_rfl) (by rfl) (by kernel_rfl) ⟨⟨rfl, rfl, rfl, Nat.le_refl _, fun _ _ _ _ _ => rfl, fun _ _ _ _ _ h => h⟩, hC.drew.le (by omega)⟩ ?_
  refine wpK_cons (isV (.agg #[.int .i64 i, .int .i64 l, .int .i64 s, .int .i64 f, .int .i64 fi])) (fun V w k hk hG hD => ?_) (st_V _) ?_
  · obtain ⟨-⟩ := hD
    simp only [actT, maskT, Nat.reduceAdd, if_true, if_false, Bool.false_eq_true]
    have kk := keep_bk hd6 hG (by simp; omega) (by simp only; omega)
    have u0 := kk.cell 0
    have u1 := kk.cell 1
    have u2 := kk.cell 2
    have u3 := kk.cell 3
    have u4 := kk.cell 4
    have ul := kk.lt
    simp only [List.getElem?_cons_zero, List.getElem?_cons_succ] at u0 u1 u2 u3 u4
    go_wp2_with fail
    exact DP_mk (rv_same (by omega) hG rfl)
  refine wpK_cons (isV ((Value.pointer (some ⟨g, 0, none⟩)))) (fun V w k hk hG hD => ?_) (st_V _) ?_
  · obtain ⟨-⟩ := hD
    simp only [actT, maskT, Nat.reduceAdd, if_true, if_false, Bool.false_eq_true]
    go_wp2_with fail
    exact DP_mk (rv_same (by omega) hG rfl)
  refine wpK_cons (isA 3) (fun V w k hk hG hD => ?_) (st_A _) ?_
  · obtain ⟨f12, -⟩ := hD
    simp only [actT, maskT, Nat.reduceAdd, if_true, if_false, Bool.false_eq_true]
    rw [show V 12 = (Value.pointer (some ⟨g, 0, none⟩)) from f12]
    go_wp2_with (go_at_call 51; refine (target_fa _ _ _ (Nat.le_trans hbs0 hG.le.size) hG.cur (by have := bud k hk; omega)).mono ?_; rintro e w' ⟨v, rfl, hg, hC, hd⟩)
    exact DP_mk (rv_call (by omega) hG hg hC hd)
  refine wpK_cons (isT) (fun V w k hk hG hD => ?_) (st_T) ?_
  · obtain ⟨f11, -⟩ := hD
    simp only [actT, maskT, Nat.reduceAdd, if_true, if_false, Bool.false_eq_true]
    rw [show V 11 = .agg #[.int .i64 i, .int .i64 l, .int .i64 s, .int .i64 f, .int .i64 fi] from f11]
    have gR := hG.le.good d2 _ _ (.inr (by simp)) nd2 gd2
    obtain ⟨y0, c0, -, -⟩ := gR.cell (j := 0) (by omega)
    obtain ⟨y1, c1, -, -⟩ := gR.cell (j := 1) (by omega)
    obtain ⟨y2, c2, -, -⟩ := gR.cell (j := 2) (by omega)
    obtain ⟨y3, c3, -, -⟩ := gR.cell (j := 3) (by omega)
    obtain ⟨y4, c4, -, -⟩ := gR.cell (j := 4) (by omega)
    have fz0 := gR.frozen 0
    have fz1 := gR.frozen 1
    have fz2 := gR.frozen 2
    have fz3 := gR.frozen 3
    have fz4 := gR.frozen 4
    have gl := gR.lt
    go_wp2_with fail
    exact DP_mk (v := undef) (rv_then (((((Lx.refl _ _ _ _).trans (Lx.set _ (by simp) (sm_int.2 ⟨by first | omega | (have := hz11; simp at this; omega), by first | omega | (have := hz11; simp at this; omega)⟩))).trans (Lx.set _ (by simp) (sm_int.2 ⟨by first | omega | (have := hz11; simp at this; omega), by first | omega | (have := hz11; simp at this; omega)⟩))).trans (Lx.set _ (by simp) (sm_int.2 ⟨by first | omega | (have := hz11; simp at this; omega), by first | omega | (have := hz11; simp at this; omega)⟩))).trans (Lx.set _ (by simp) (sm_int.2 ⟨by first | omega | (have := hz11; simp at this; omega), by first | omega | (have := hz11; simp at this; omega)⟩))) (rv_set (by omega) (gg_set (gg_set (gg_set (gg_set hG (by simp) nd2 (fun h0 a ha => by have := hA h0 a ha; omega) (sm_int.2 ⟨by first | omega | (have := hz11; simp at this; omega), by first | omega | (have := hz11; simp at this; omega)⟩)) (by simp) nd2 (fun h0 a ha => by have := hA h0 a ha; omega) (sm_int.2 ⟨by first | omega | (have := hz11; simp at this; omega), by first | omega | (have := hz11; simp at this; omega)⟩)) (by simp) nd2 (fun h0 a ha => by have := hA h0 a ha; omega) (sm_int.2 ⟨by first | omega | (have := hz11; simp at this; omega), by first | omega | (have := hz11; simp at this; omega)⟩)) (by simp) nd2 (fun h0 a ha => by have := hA h0 a ha; omega) (sm_int.2 ⟨by first | omega | (have := hz11; simp at this; omega), by first | omega | (have := hz11; simp at this; omega)⟩)) (by simp) nd2 (fun h0 a ha => by have := hA h0 a ha; omega) (sm_int.2 ⟨by first | omega | (have := hz11; simp at this; omega), by first | omega | (have := hz11; simp at this; omega)⟩) trivial))
  refine wpK_cons (isT) (fun V w k hk hG hD => ?_) (st_T) ?_
  · obtain ⟨f13, -⟩ := hD
    simp only [actT, maskT, Nat.reduceAdd, if_true, if_false, Bool.false_eq_true]
    obtain ⟨zs13, ez13, lz13, hz13⟩ := f13
    obtain ⟨z13_0, z13_1, z13_2, ew13⟩ := list3 lz13
    rw [ew13] at ez13 hz13
    simp only [ints, List.map_cons, List.map_nil] at ez13
    rw [ez13]
    have gR := hG.le.good d3 _ _ (.inr (by simp)) nd3 gd3
    obtain ⟨y0, c0, -, -⟩ := gR.cell (j := 0) (by omega)
    obtain ⟨y1, c1, -, -⟩ := gR.cell (j := 1) (by omega)
    obtain ⟨y2, c2, -, -⟩ := gR.cell (j := 2) (by omega)
    have fz0 := gR.frozen 0
    have fz1 := gR.frozen 1
    have fz2 := gR.frozen 2
    have gl := gR.lt
    go_wp2_with fail
    exact DP_mk (v := undef) (rv_then (((Lx.refl _ _ _ _).trans (Lx.set _ (by simp) (sm_int.2 ⟨by first | omega | (have := hz13; simp at this; omega), by first | omega | (have := hz13; simp at this; omega)⟩))).trans (Lx.set _ (by simp) (sm_int.2 ⟨by first | omega | (have := hz13; simp at this; omega), by first | omega | (have := hz13; simp at this; omega)⟩))) (rv_set (by omega) (gg_set (gg_set hG (by simp) nd3 (fun h0 a ha => by have := hA h0 a ha; omega) (sm_int.2 ⟨by first | omega | (have := hz13; simp at this; omega), by first | omega | (have := hz13; simp at this; omega)⟩)) (by simp) nd3 (fun h0 a ha => by have := hA h0 a ha; omega) (sm_int.2 ⟨by first | omega | (have := hz13; simp at this; omega), by first | omega | (have := hz13; simp at this; omega)⟩)) (by simp) nd3 (fun h0 a ha => by have := hA h0 a ha; omega) (sm_int.2 ⟨by first | omega | (have := hz13; simp at this; omega), by first | omega | (have := hz13; simp at this; omega)⟩) trivial))
  refine wpK_nil (fun V W hG hD => ?_)
  obtain ⟨f11, f12, f13, f_3, f_4, -⟩ := hD
  simp only [actT, maskT, Nat.reduceAdd, if_true, if_false, Bool.false_eq_true]
  have g2 := hG.le.good d2 _ _ (.inr (by simp)) nd2 gd2
  have g3 := hG.le.good d3 _ _ (.inr (by simp)) nd3 gd3
  obtain ⟨y0, c0, p0, q0⟩ := g2.cell (j := 0) (by omega)
  obtain ⟨y1, c1, p1, q1⟩ := g2.cell (j := 1) (by omega)
  obtain ⟨y2, c2, p2, q2⟩ := g2.cell (j := 2) (by omega)
  obtain ⟨y3, c3, p3, q3⟩ := g2.cell (j := 3) (by omega)
  obtain ⟨y4, c4, p4, q4⟩ := g2.cell (j := 4) (by omega)
  obtain ⟨z0, e0, r0, s0⟩ := g3.cell (j := 0) (by omega)
  obtain ⟨z1, e1, r1, s1⟩ := g3.cell (j := 1) (by omega)
  obtain ⟨z2, e2, r2, s2⟩ := g3.cell (j := 2) (by omega)
  clear f11 f12 f13 f_3 f_4
  go_wp2
  (refine bodyPost_ret (by simp (maxDischargeDepth := 4) [results, Try.results17, go_sem, *]; try rfl) rfl ?_)
  refine ⟨y0, y1, y2, y3, y4, z0, z1, z2, rfl, ⟨⟨p0, q0⟩, ⟨p1, q1⟩, ⟨p2, q2⟩, ⟨p3, q3⟩, ⟨p4, q4⟩, ⟨r0, s0⟩, ⟨r1, s1⟩, ⟨r2, s2⟩⟩, ?_⟩
  refine ⟨hG.le.os.trans bW.os, hG.le.tape.trans bW.tape, hG.le.output.trans bW.output, Nat.le_trans bW.size hG.le.size, fun k hk => (hG.le.keep k (Nat.lt_of_lt_of_le hk bW.size) (Nat.lt_of_lt_of_le hk bW.size) (by simp; omega) (by simp only; omega)).trans (bW.block k hk)⟩
theorem DrawSortieMinutes_any (A : Option Addr) (n c : Nat) (cs : List Value) (w : World) (hc : Code w A n cs) :
    Calls Try.prog 28 #[.slice A n c] w fun e w' => ∃ i l s f fi wa le ba x, e = .returned (.tuple #[.agg #[.int .i64 i, .int .i64 l, .int .i64 s, .int .i64 f, .int .i64 fi], .agg #[.int .i64 wa, .int .i64 le, .int .i64 ba], .int .i64 x]) ∧ (I64 i ∧ I64 l ∧ I64 s ∧ I64 f ∧ I64 fi ∧ I64 wa ∧ I64 le ∧ I64 ba ∧ I64 x) ∧ Below w.heap.size w w' := by
  go_enter Try.func28, Try.ntmps28
  go_upto_region 2 with fail
  refine wp_genC (fun W => Below w.heap.size w W ∧ Cur W ⟨w.heap.size + 2, A, n, c, cs, w.heap.size + 2 + 1⟩ 0 ∧ Bk W w.heap.size 41 [.int .i64 0, .int .i64 0, .int .i64 0, .int .i64 0, .int .i64 0] ∧ Bk W (w.heap.size + 1) 31 [.int .i64 0, .int .i64 0, .int .i64 0]) ⟨by (repeat' (first | (with_reducible exact Below.refl _ _) | (with_reducible assumption) | (with_reducible refine balloc ?_ _) | (with_reducible refine bdrew ?_) | (with_reducible refine bdrewN ?_ _) | (with_reducible refine bstep ?_ (by assumption)) | (with_reducible refine bset ?_ ?_ _) | (exact Below.size (by assumption)) | go_size)), Cur.made hc (by (repeat' (first | (with_reducible exact Below.refl _ _) | (with_reducible assumption) | (with_reducible refine balloc ?_ _) | (with_reducible refine bdrew ?_) | (with_reducible refine bdrewN ?_ _) | (with_reducible refine bstep ?_ (by assumption)) | (with_reducible refine bset ?_ ?_ _) | (exact Below.size (by assumption)) | go_size))) (by simp), ((Bk.new _ _ _).alloc _).alloc _, (Bk.new' (by simp)).alloc _⟩ ?_
  intro W ⟨bW, hC, k2, k3⟩
  obtain ⟨g, hg⟩ : ∃ g, w.heap.size + 2 = g := ⟨_, rfl⟩
  obtain ⟨d3, hd⟩ : ∃ d, w.heap.size + 1 = d := ⟨_, rfl⟩
  rw [show w.heap.size + 1 + 1 = g from hg]
  rw [hg] at hC
  rw [hd] at k3 ⊢
  go_upto_region 3 with (go_at_call 50; refine (aircraft_ats ⟨g, A, n, c, cs, g + 1⟩ _ _ _ hC.lt hC (by omega) (by omega)).mono ?_; rintro e w' ⟨i, l, s, f, fi, rfl, hg1, hC, hi, hl, hs, hf, hfi⟩; dsimp only at hg1; have bW := below_gr bW hg1 (by omega); have k2 := k2.grown hg1 (by simp; omega); have k3 := k3.grown hg1 (by simp; omega))
  obtain ⟨d6, hd6⟩ : ∃ d, w'.heap.size = d := ⟨_, rfl⟩
  rw [hd6]
  obtain ⟨i0, i1⟩ := hi
  obtain ⟨l0, l1⟩ := hl
  obtain ⟨s0, s1⟩ := hs
  obtain ⟨f0, f1⟩ := hf
  obtain ⟨fi0, fi1⟩ := hfi
  refine wp_genC (fun W => Below w.heap.size w W ∧ Cur W ⟨g, A, n, c, cs, g + 1⟩ (0 + 64) ∧ Bk W w.heap.size 41 [.int .i64 0, .int .i64 0, .int .i64 0, .int .i64 0, .int .i64 0] ∧ Bk W d3 31 [.int .i64 0, .int .i64 0, .int .i64 0] ∧ Bk W d6 41 [.int .i64 i, .int .i64 l, .int .i64 s, .int .i64 f, .int .i64 fi] ∧ g < d6) ⟨by (repeat' (first | (with_reducible exact Below.refl _ _) | (with_reducible assumption) | (with_reducible refine balloc ?_ _) | (with_reducible refine bdrew ?_) | (with_reducible refine bdrewN ?_ _) | (with_reducible refine bstep ?_ (by assumption)) | (with_reducible refine bset ?_ ?_ _) | (exact Below.size (by assumption)) | go_size)), hC.alloc _, k2.alloc _, k3.alloc _, Bk.new' hd6, by have := hC.lt; simp only at this; omega⟩ ?_
  clear hd6
  intro W ⟨bW, hC, k2, k3, k6, g6⟩
  go_upto_region 4 with (go_at_call 51; refine (target_ats ⟨g, A, n, c, cs, g + 1⟩ _ _ hC.lt hC (by omega)).mono ?_; rintro e w' ⟨wa, le, ba, rfl, hg2, hC, hwa, hle, hba⟩; dsimp only at hg2; have bW := below_gr bW hg2 (by omega); have k2 := k2.grown hg2 (by simp; omega); have k3 := k3.grown hg2 (by simp; omega); have k6 := k6.grown hg2 (by simp; omega))
  obtain ⟨d7, hd7⟩ : ∃ d, w'.heap.size = d := ⟨_, rfl⟩
  rw [hd7]
  obtain ⟨wa0, wa1⟩ := hwa
  obtain ⟨le0, le1⟩ := hle
  obtain ⟨ba0, ba1⟩ := hba
  refine wp_genC (fun W => Below w.heap.size w W ∧ Cur W ⟨g, A, n, c, cs, g + 1⟩ (0 + 64 + 64) ∧ Bk W w.heap.size 41 [.int .i64 0, .int .i64 0, .int .i64 0, .int .i64 0, .int .i64 0] ∧ Bk W d3 31 [.int .i64 0, .int .i64 0, .int .i64 0] ∧ Bk W d6 41 [.int .i64 i, .int .i64 l, .int .i64 s, .int .i64 f, .int .i64 fi] ∧ Bk W d7 31 [.int .i64 wa, .int .i64 le, .int .i64 ba] ∧ d6 < d7) ⟨by (repeat' (first | (with_reducible exact Below.refl _ _) | (with_reducible assumption) | (with_reducible refine balloc ?_ _) | (with_reducible refine bdrew ?_) | (with_reducible refine bdrewN ?_ _) | (with_reducible refine bstep ?_ (by assumption)) | (with_reducible refine bset ?_ ?_ _) | (exact Below.size (by assumption)) | go_size)), hC.alloc _, k2.alloc _, k3.alloc _, k6.alloc _, Bk.new' hd7, by have := k6.lt; omega⟩ ?_
  clear hd7
  intro w0 ⟨bW, hC, hd2, hd3, hd6, hd7, g7⟩
  have hA : 0 < n → ∀ a, A = some a → a.block < w.heap.size := hc.lt
  obtain ⟨B, hB⟩ : ∃ B : Int, (0 : Int) + 64 + 64 = B := ⟨_, rfl⟩
  obtain ⟨bs, hbs⟩ : ∃ b, g + 1 = b := ⟨_, rfl⟩
  have hbs0 : bs ≤ w0.heap.size := by have := hC.lt; simp only at this; omega
  rw [hB, hbs] at hC
  obtain ⟨d2, hd2'⟩ : ∃ d, w.heap.size = d := ⟨_, rfl⟩
  rw [hd2'] at hd2 hA ⊢
  have nd2 : d2 ≠ g := by omega
  have nd3 : d3 ≠ g := by omega
  have gd2 : Good w0 d2 41 5 := Good.of_bk (zs := [0, 0, 0, 0, 0]) hd2 (by simp)
  have gd3 : Good w0 d3 31 3 := Good.of_bk (zs := [0, 0, 0]) hd3 (by simp)
  have bud : ∀ k : Nat, k < 13 → B + 2 * (k : Int) ≤ 562949953421312 := fun k hk => by omega
  refine wp_region_inv (Le := Lx g [d2, d3] w0.heap.size) (G := GG ⟨g, A, n, c, cs, bs⟩ [d2, d3] w0 (B) (2)) 25 [([], [true, true, true, true, false, true, true, true, true, true, true, true, true, true, true, true, false, false, false, false, false, false, false, false, false]), ([], [true, true, true, true, false, true, true, true, true, true, true, true, true, true, true, false, true, false, false, false, false, false, false, false, false]), ([], [true, true, true, true, false, true, true, true, true, true, true, true, true, true, true, false, false, true, false, false, false, false, false, false, false]), ([], [true, true, true, true, false, true, true, true, true, true, true, true, true, true, true, false, false, false, true, false, false, false, false, false, false]), ([], [true, true, true, true, false, true, true, true, true, true, true, true, true, true, true, false, false, false, false, true, false, false, false, false, false]), ([4], [true, true, true, true, false, true, true, true, true, true, true, true, true, true, true, false, false, false, false, false, true, false, false, false, false]), ([5], [true, true, true, true, false, true, true, true, true, true, true, true, true, true, true, false, false, false, false, false, false, true, false, false, false]), ([6], [true, true, true, true, false, true, true, true, true, true, true, true, true, true, true, false, false, false, false, false, false, false, true, false, false]), ([3, 7], [true, true, true, true, false, true, true, true, true, true, true, true, true, true, true, false, false, false, false, false, false, false, false, true, false]), ([2, 8], [true, true, true, true, false, true, true, true, true, true, true, true, true, true, true, false, false, false, false, false, false, false, false, false, true]), ([0], [true, true, true, true, false, true, true, true, true, true, true, true, true, true, true, false, false, false, false, false, false, false, false, false, false]), ([1], [true, true, true, true, false, true, true, true, true, true, true, true, true, true, true, false, false, false, false, false, false, false, false, false, false]), ([9], [true, true, true, true, true, true, true, true, true, true, true, true, true, true, true, false, false, false, false, false, false, false, false, false, false])] [true, true, true, true, false, true, true, true, true, true, true, true, true, true, true, false, false, false, false, false, false, false, false, false, false] (by kernel_rfl) (by rfl) (by kernel_rfl) ⟨⟨rfl, rfl, rfl, Nat.le_refl _, fun _ _ _ _ _ => rfl, fun _ _ _ _ _ h => h⟩, hC.drew.le (by omega)⟩ ?_
  refine wpK_cons (isV (.agg #[.int .i64 i, .int .i64 l, .int .i64 s, .int .i64 f, .int .i64 fi])) (fun V w k hk hG hD => ?_) (st_V _) ?_
  · obtain ⟨-⟩ := hD
    simp only [actT, maskT, Nat.reduceAdd, if_true, if_false, Bool.false_eq_true]
    have kk := keep_bk hd6 hG (by simp; omega) (by simp only; omega)
    have u0 := kk.cell 0
    have u1 := kk.cell 1
    have u2 := kk.cell 2
    have u3 := kk.cell 3
    have u4 := kk.cell 4
    have ul := kk.lt
    simp only [List.getElem?_cons_zero, List.getElem?_cons_succ] at u0 u1 u2 u3 u4
    go_wp2_with fail
    exact DP_mk (rv_same (by omega) hG rfl)
  refine wpK_cons (isV (.agg #[.int .i64 wa, .int .i64 le, .int .i64 ba])) (fun V w k hk hG hD => ?_) (st_V _) ?_
  · obtain ⟨-⟩ := hD
    simp only [actT, maskT, Nat.reduceAdd, if_true, if_false, Bool.false_eq_true]
    have kk := keep_bk hd7 hG (by simp; omega) (by simp only; omega)
    have u0 := kk.cell 0
    have u1 := kk.cell 1
    have u2 := kk.cell 2
    have ul := kk.lt
    simp only [List.getElem?_cons_zero, List.getElem?_cons_succ] at u0 u1 u2
    go_wp2_with fail
    exact DP_mk (rv_same (by omega) hG rfl)
  refine wpK_cons (isV ((Value.pointer (some ⟨g, 0, none⟩)))) (fun V w k hk hG hD => ?_) (st_V _) ?_
  · obtain ⟨-⟩ := hD
    simp only [actT, maskT, Nat.reduceAdd, if_true, if_false, Bool.false_eq_true]
    go_wp2_with fail
    exact DP_mk (rv_same (by omega) hG rfl)
  refine wpK_cons (isS g w0.heap.size 6 6) (fun V w k hk hG hD => ?_) (st_S _ _) ?_
  · obtain ⟨-⟩ := hD
    simp only [actT, maskT, Nat.reduceAdd, if_true, if_false, Bool.false_eq_true]
    go_wp2_with fail
    exact DP_mk (rv_alloc (by omega) hG ⟨_, _, rfl, by omega, by omega, hG.le.size, by have := hG.cur.lt; simp only at this; omega, Good.lit' rfl (by simp) (by simp [sm_int])⟩)
  refine wpK_cons (isV ((Value.pointer (some ⟨g, 0, none⟩)))) (fun V w k hk hG hD => ?_) (st_V _) ?_
  · obtain ⟨-⟩ := hD
    simp only [actT, maskT, Nat.reduceAdd, if_true, if_false, Bool.false_eq_true]
    go_wp2_with fail
    exact DP_mk (rv_same (by omega) hG rfl)
  refine wpK_cons (isI 0 23) (fun V w k hk hG hD => ?_) (st_I _ _) ?_
  · obtain ⟨f19, -⟩ := hD
    simp only [actT, maskT, Nat.reduceAdd, if_true, if_false, Bool.false_eq_true]
    rw [show V 19 = (Value.pointer (some ⟨g, 0, none⟩)) from f19]
    go_wp2_with (go_at_call 61; refine (pick_ty _ _ _ 23 _ hG.cur (by have := bud k hk; omega) (by omega) (by omega) (by omega)).mono ?_; rintro e w' ⟨v, rfl, hg, hC, hd⟩)
    exact DP_mk (rv_call (by omega) hG hg hC hd)
  refine wpK_cons (isI 0 2) (fun V w k hk hG hD => ?_) (st_I _ _) ?_
  · obtain ⟨f20, -⟩ := hD
    simp only [actT, maskT, Nat.reduceAdd, if_true, if_false, Bool.false_eq_true]
    obtain ⟨x20, e20, p20, q20⟩ := f20
    rw [e20]
    go_wp2_with fail
    exact DP_mk (rv_same (by omega) hG ⟨_, rfl, by omega, by omega⟩)
  refine wpK_cons (isI 4 6) (fun V w k hk hG hD => ?_) (st_I _ _) ?_
  · obtain ⟨f21, -⟩ := hD
    simp only [actT, maskT, Nat.reduceAdd, if_true, if_false, Bool.false_eq_true]
    obtain ⟨x21, e21, p21, q21⟩ := f21
    rw [e21]
    go_wp2_with fail
    exact DP_mk (rv_same (by omega) hG ⟨_, rfl, by omega, by omega⟩)
  refine wpK_cons (isS g w0.heap.size 4 6) (fun V w k hk hG hD => ?_) (st_S _ _) ?_
  · obtain ⟨f18, f22, -⟩ := hD
    simp only [actT, maskT, Nat.reduceAdd, if_true, if_false, Bool.false_eq_true]
    obtain ⟨b18, n18, e18, p18, q18, r18, s18, hS18⟩ := f18
    rw [e18]
    obtain ⟨x22, e22, p22, q22⟩ := f22
    rw [e22]
    obtain ⟨m22, em22⟩ : ∃ m : Nat, x22 = (m : Int) := ⟨x22.toNat, by omega⟩
    subst em22
    go_wp2_with fail
    exact DP_mk (rv_same (by omega) hG ⟨_, _, rfl, by omega, by omega, r18, s18, hS18⟩)
  refine wpK_cons (isI (-9223372036854775808) 9223372036854775807) (fun V w k hk hG hD => ?_) (st_I _ _) ?_
  · obtain ⟨f17, f23, -⟩ := hD
    simp only [actT, maskT, Nat.reduceAdd, if_true, if_false, Bool.false_eq_true]
    rw [show V 17 = (Value.pointer (some ⟨g, 0, none⟩)) from f17]
    obtain ⟨b23, n23, e23, p23, q23, r23, s23, hS23⟩ := f23
    rw [e23]
    go_wp2_with (go_at_call 60; refine (among_ty _ _ _ hG.cur (by have := bud k hk; omega) hS23 (by omega) (by omega) (by omega) (by omega)).mono ?_; rintro e w' ⟨v, rfl, hg, hC, hd⟩)
    exact DP_mk (rv_call (by omega) hG hg hC hd)
  refine wpK_cons (isT) (fun V w k hk hG hD => ?_) (st_T) ?_
  · obtain ⟨f15, -⟩ := hD
    simp only [actT, maskT, Nat.reduceAdd, if_true, if_false, Bool.false_eq_true]
    rw [show V 15 = .agg #[.int .i64 i, .int .i64 l, .int .i64 s, .int .i64 f, .int .i64 fi] from f15]
    have gR := hG.le.good d2 _ _ (.inr (by simp)) nd2 gd2
    obtain ⟨y0, c0, -, -⟩ := gR.cell (j := 0) (by omega)
    obtain ⟨y1, c1, -, -⟩ := gR.cell (j := 1) (by omega)
    obtain ⟨y2, c2, -, -⟩ := gR.cell (j := 2) (by omega)
    obtain ⟨y3, c3, -, -⟩ := gR.cell (j := 3) (by omega)
    obtain ⟨y4, c4, -, -⟩ := gR.cell (j := 4) (by omega)
    have fz0 := gR.frozen 0
    have fz1 := gR.frozen 1
    have fz2 := gR.frozen 2
    have fz3 := gR.frozen 3
    have fz4 := gR.frozen 4
    have gl := gR.lt
    go_wp2_with fail
    exact DP_mk (v := undef) (rv_then (((((Lx.refl _ _ _ _).trans (Lx.set _ (by simp) (sm_int.2 ⟨by first | omega | (have := hz15; simp at this; omega), by first | omega | (have := hz15; simp at this; omega)⟩))).trans (Lx.set _ (by simp) (sm_int.2 ⟨by first | omega | (have := hz15; simp at this; omega), by first | omega | (have := hz15; simp at this; omega)⟩))).trans (Lx.set _ (by simp) (sm_int.2 ⟨by first | omega | (have := hz15; simp at this; omega), by first | omega | (have := hz15; simp at this; omega)⟩))).trans (Lx.set _ (by simp) (sm_int.2 ⟨by first | omega | (have := hz15; simp at this; omega), by first | omega | (have := hz15; simp at this; omega)⟩))) (rv_set (by omega) (gg_set (gg_set (gg_set (gg_set hG (by simp) nd2 (fun h0 a ha => by have := hA h0 a ha; omega) (sm_int.2 ⟨by first | omega | (have := hz15; simp at this; omega), by first | omega | (have := hz15; simp at this; omega)⟩)) (by simp) nd2 (fun h0 a ha => by have := hA h0 a ha; omega) (sm_int.2 ⟨by first | omega | (have := hz15; simp at this; omega), by first | omega | (have := hz15; simp at this; omega)⟩)) (by simp) nd2 (fun h0 a ha => by have := hA h0 a ha; omega) (sm_int.2 ⟨by first | omega | (have := hz15; simp at this; omega), by first | omega | (have := hz15; simp at this; omega)⟩)) (by simp) nd2 (fun h0 a ha => by have := hA h0 a ha; omega) (sm_int.2 ⟨by first | omega | (have := hz15; simp at this; omega), by first | omega | (have := hz15; simp at this; omega)⟩)) (by simp) nd2 (fun h0 a ha => by have := hA h0 a ha; omega) (sm_int.2 ⟨by first | omega | (have := hz15; simp at this; omega), by first | omega | (have := hz15; simp at this; omega)⟩) trivial))
  refine wpK_cons (isT) (fun V w k hk hG hD => ?_) (st_T) ?_
  · obtain ⟨f16, -⟩ := hD
    simp only [actT, maskT, Nat.reduceAdd, if_true, if_false, Bool.false_eq_true]
    rw [show V 16 = .agg #[.int .i64 wa, .int .i64 le, .int .i64 ba] from f16]
    have gR := hG.le.good d3 _ _ (.inr (by simp)) nd3 gd3
    obtain ⟨y0, c0, -, -⟩ := gR.cell (j := 0) (by omega)
    obtain ⟨y1, c1, -, -⟩ := gR.cell (j := 1) (by omega)
    obtain ⟨y2, c2, -, -⟩ := gR.cell (j := 2) (by omega)
    have fz0 := gR.frozen 0
    have fz1 := gR.frozen 1
    have fz2 := gR.frozen 2
    have gl := gR.lt
    go_wp2_with fail
    exact DP_mk (v := undef) (rv_then (((Lx.refl _ _ _ _).trans (Lx.set _ (by simp) (sm_int.2 ⟨by first | omega | (have := hz16; simp at this; omega), by first | omega | (have := hz16; simp at this; omega)⟩))).trans (Lx.set _ (by simp) (sm_int.2 ⟨by first | omega | (have := hz16; simp at this; omega), by first | omega | (have := hz16; simp at this; omega)⟩))) (rv_set (by omega) (gg_set (gg_set hG (by simp) nd3 (fun h0 a ha => by have := hA h0 a ha; omega) (sm_int.2 ⟨by first | omega | (have := hz16; simp at this; omega), by first | omega | (have := hz16; simp at this; omega)⟩)) (by simp) nd3 (fun h0 a ha => by have := hA h0 a ha; omega) (sm_int.2 ⟨by first | omega | (have := hz16; simp at this; omega), by first | omega | (have := hz16; simp at this; omega)⟩)) (by simp) nd3 (fun h0 a ha => by have := hA h0 a ha; omega) (sm_int.2 ⟨by first | omega | (have := hz16; simp at this; omega), by first | omega | (have := hz16; simp at this; omega)⟩) trivial))
  refine wpK_cons (isI (-9223372036854775808) 9223372036854775807) (fun V w k hk hG hD => ?_) (st_I _ _) ?_
  · obtain ⟨f24, -⟩ := hD
    simp only [actT, maskT, Nat.reduceAdd, if_true, if_false, Bool.false_eq_true]
    go_wp2_with fail
    exact DP_mk (rv_same (by omega) hG f24)
  refine wpK_nil (fun V W hG hD => ?_)
  obtain ⟨f15, f16, f17, f18, f19, f20, f21, f22, f23, f24, f_10, f_11, f4, -⟩ := hD
  simp only [actT, maskT, Nat.reduceAdd, if_true, if_false, Bool.false_eq_true]
  obtain ⟨zx, ex, x0, x1⟩ := f4
  rw [ex]
  have g2 := hG.le.good d2 _ _ (.inr (by simp)) nd2 gd2
  have g3 := hG.le.good d3 _ _ (.inr (by simp)) nd3 gd3
  obtain ⟨y0, c0, p0, q0⟩ := g2.cell (j := 0) (by omega)
  obtain ⟨y1, c1, p1, q1⟩ := g2.cell (j := 1) (by omega)
  obtain ⟨y2, c2, p2, q2⟩ := g2.cell (j := 2) (by omega)
  obtain ⟨y3, c3, p3, q3⟩ := g2.cell (j := 3) (by omega)
  obtain ⟨y4, c4, p4, q4⟩ := g2.cell (j := 4) (by omega)
  obtain ⟨z0, e0, r0, s0⟩ := g3.cell (j := 0) (by omega)
  obtain ⟨z1, e1, r1, s1⟩ := g3.cell (j := 1) (by omega)
  obtain ⟨z2, e2, r2, s2⟩ := g3.cell (j := 2) (by omega)
  clear f15 f16 f17 f18 f19 f20 f21 f22 f23 f24 f_10 f_11 ex
  go_wp2
  (refine bodyPost_ret (by simp (maxDischargeDepth := 4) [results, Try.results28, go_sem, *]; try rfl) rfl ?_)
  refine ⟨y0, y1, y2, y3, y4, z0, z1, z2, zx, rfl, ⟨⟨p0, q0⟩, ⟨p1, q1⟩, ⟨p2, q2⟩, ⟨p3, q3⟩, ⟨p4, q4⟩, ⟨r0, s0⟩, ⟨r1, s1⟩, ⟨r2, s2⟩, ⟨x0, x1⟩⟩, ?_⟩
  refine ⟨hG.le.os.trans bW.os, hG.le.tape.trans bW.tape, hG.le.output.trans bW.output, Nat.le_trans bW.size hG.le.size, fun k hk => (hG.le.keep k (Nat.lt_of_lt_of_le hk bW.size) (Nat.lt_of_lt_of_le hk bW.size) (by simp; omega) (by simp only; omega)).trans (bW.block k hk)⟩
end Go.Proofs.Ytbioleagenoogaa
