/-
  The moisture chapter's draw for HoursUntil. Conditions: the text is no longer than 2^16.
-/
import Derived.Test.YtlnfccncbfpoiaaDG
import Derived.Test.YtlnfccncbfpoiaaCD
namespace Go.Proofs.Ytlnfccncbfpoiaa
open Go.RowKit
set_option maxRecDepth 100000
set_option maxHeartbeats 4000000

theorem DrawHoursUntil_any (A : Option Addr) (n c : Nat) (cs : List Value) (w : World) (hc : Code w A n cs) :
    Calls Try.prog 17 #[.slice A n c] w fun e w' => ∃ l m h t r x, e = .returned (.tuple #[.agg #[.int .i64 l, .int .i64 m], .agg #[.int .i64 h, .int .i64 t, .int .i64 r], .int .i64 x]) ∧ (I64 l ∧ I64 m ∧ airI (h, t, r) ∧ I64 x) ∧ Below w.heap.size w w' := by
  go_enter Try.func17, Try.ntmps17
  go_upto_region 2 with fail
  refine wp_genC (fun W => Below w.heap.size w W ∧ Cur W ⟨w.heap.size + 2, A, n, c, cs, w.heap.size + 2 + 1⟩ 0 ∧ Bk W w.heap.size 25 [.int .i64 0, .int .i64 0] ∧ Bk W (w.heap.size + 1) 27 [.int .i64 0, .int .i64 0, .int .i64 0]) ⟨by (repeat' (first | (with_reducible exact Below.refl _ _) | (with_reducible assumption) | (with_reducible refine balloc ?_ _) | (with_reducible refine bdrew ?_) | (with_reducible refine bdrewN ?_ _) | (with_reducible refine bstep ?_ (by assumption)) | (with_reducible refine bset ?_ ?_ _) | (exact Below.size (by assumption)) | go_size)), Cur.made hc (by (repeat' (first | (with_reducible exact Below.refl _ _) | (with_reducible assumption) | (with_reducible refine balloc ?_ _) | (with_reducible refine bdrew ?_) | (with_reducible refine bdrewN ?_ _) | (with_reducible refine bstep ?_ (by assumption)) | (with_reducible refine bset ?_ ?_ _) | (exact Below.size (by assumption)) | go_size))) (by simp), ((Bk.new _ _ _).alloc _).alloc _, (Bk.new' (by simp)).alloc _⟩ ?_
  intro W ⟨bW, hC, k2, k3⟩
  obtain ⟨g, hg⟩ : ∃ g, w.heap.size + 2 = g := ⟨_, rfl⟩
  obtain ⟨d3, hd⟩ : ∃ d, w.heap.size + 1 = d := ⟨_, rfl⟩
  rw [show w.heap.size + 1 + 1 = g from hg]
  rw [hg] at hC
  rw [hd] at k3 ⊢
  go_upto_region 3 with (go_at_call 32; refine (fuelbed_ats ⟨g, A, n, c, cs, g + 1⟩ _ _ hC.lt hC (by omega)).mono ?_; rintro e w' ⟨l, m, rfl, hg1, hC, hl, hm⟩; dsimp only at hg1; have bW := below_gr bW hg1 (by omega); have k2 := k2.grown hg1 (by simp; omega); have k3 := k3.grown hg1 (by simp; omega))
  obtain ⟨d6, hd6⟩ : ∃ d, w'.heap.size = d := ⟨_, rfl⟩
  rw [hd6]
  refine wp_genC (fun W => Below w.heap.size w W ∧ Cur W ⟨g, A, n, c, cs, g + 1⟩ (0 + 64) ∧ Bk W w.heap.size 25 [.int .i64 0, .int .i64 0] ∧ Bk W d3 27 [.int .i64 0, .int .i64 0, .int .i64 0] ∧ Bk W d6 25 [.int .i64 l, .int .i64 m] ∧ g < d6) ⟨by (repeat' (first | (with_reducible exact Below.refl _ _) | (with_reducible assumption) | (with_reducible refine balloc ?_ _) | (with_reducible refine bdrew ?_) | (with_reducible refine bdrewN ?_ _) | (with_reducible refine bstep ?_ (by assumption)) | (with_reducible refine bset ?_ ?_ _) | (exact Below.size (by assumption)) | go_size)), hC.alloc _, k2.alloc _, k3.alloc _, Bk.new' hd6, by have := hC.lt; simp only at this; omega⟩ ?_
  clear hd6
  intro W ⟨bW, hC, k2, k3, k6, g6⟩
  go_upto_region 4 with (go_at_call 33; refine (air_ats ⟨g, A, n, c, cs, g + 1⟩ _ _ hC.lt hC (by omega)).mono ?_; rintro e w' ⟨h, t, r, rfl, hg2, hC, ha⟩; dsimp only at hg2; have bW := below_gr bW hg2 (by omega); have k2 := k2.grown hg2 (by simp; omega); have k3 := k3.grown hg2 (by simp; omega); have k6 := k6.grown hg2 (by simp; omega))
  obtain ⟨d7, hd7⟩ : ∃ d, w'.heap.size = d := ⟨_, rfl⟩
  rw [hd7]
  obtain ⟨l0, l1⟩ := hl
  obtain ⟨m0, m1⟩ := hm
  obtain ⟨⟨h0, h1⟩, ⟨t0, t1⟩, ⟨r0, r1⟩⟩ := id ha
  simp only at h0 h1 t0 t1 r0 r1
  refine wp_genC (fun W => Below w.heap.size w W ∧ Cur W ⟨g, A, n, c, cs, g + 1⟩ (0 + 64 + 64) ∧ Bk W w.heap.size 25 [.int .i64 0, .int .i64 0] ∧ Bk W d3 27 [.int .i64 0, .int .i64 0, .int .i64 0] ∧ Bk W d6 25 [.int .i64 l, .int .i64 m] ∧ Bk W d7 27 [.int .i64 h, .int .i64 t, .int .i64 r] ∧ d6 < d7) ⟨by (repeat' (first | (with_reducible exact Below.refl _ _) | (with_reducible assumption) | (with_reducible refine balloc ?_ _) | (with_reducible refine bdrew ?_) | (with_reducible refine bdrewN ?_ _) | (with_reducible refine bstep ?_ (by assumption)) | (with_reducible refine bset ?_ ?_ _) | (exact Below.size (by assumption)) | go_size)), hC.alloc _, k2.alloc _, k3.alloc _, k6.alloc _, Bk.new' hd7, by have := k6.lt; omega⟩ ?_
  clear hd7
  intro w0 ⟨bW, hC, hd2, hd3, hd6, hd7, g7⟩
  have hA : 0 < n → ∀ a, A = some a → a.block < w.heap.size := hc.lt
  obtain ⟨B, hB⟩ : ∃ B : Int, (0 : Int) + 64 + 64 = B := ⟨_, rfl⟩
  obtain ⟨bs, hbs⟩ : ∃ b, g + 1 = b := ⟨_, rfl⟩
  rw [hB, hbs] at hC
  obtain ⟨d2, hd2'⟩ : ∃ d, w.heap.size = d := ⟨_, rfl⟩
  rw [hd2'] at hd2 hA ⊢
  have nd2 : d2 ≠ g := by omega
  have nd3 : d3 ≠ g := by omega
  have gd2 : Good w0 d2 25 2 := Good.of_bk (zs := [0, 0]) hd2 (by simp)
  have gd3 : Good w0 d3 27 3 := Good.of_bk (zs := [0, 0, 0]) hd3 (by simp)
  have bud : ∀ k : Nat, k < 15 → B + 2 * (k : Int) ≤ 1125899906842624 := fun k hk => by omega
  refine wp_region_inv (Le := Lx g [d2, d3] w0.heap.size) (G := GG ⟨g, A, n, c, cs, bs⟩ [d2, d3] w0 (B) (2)) 27 [([], [true, true, true, true, false, true, true, true, true, true, true, true, true, true, true, true, false, false, false, false, false, false, false, false, false, false, false]), ([], [true, true, true, true, false, true, true, true, true, true, true, true, true, true, true, false, true, false, false, false, false, false, false, false, false, false, false]), ([], [true, true, true, true, false, true, true, true, true, true, true, true, true, true, true, false, false, true, false, false, false, false, false, false, false, false, false]), ([], [true, true, true, true, false, true, true, true, true, true, true, true, true, true, true, false, false, false, true, false, false, false, false, false, false, false, false]), ([3], [true, true, true, true, false, true, true, true, true, true, true, true, true, true, true, false, false, false, false, true, false, false, false, false, false, false, false]), ([4], [true, true, true, true, false, true, true, true, true, true, true, true, true, true, true, false, false, false, false, false, true, false, false, false, false, false, false]), ([], [true, true, true, true, false, true, true, true, true, true, true, true, true, true, true, false, false, false, false, false, false, true, false, false, false, false, false]), ([6], [true, true, true, true, false, true, true, true, true, true, true, true, true, true, true, false, false, false, false, false, false, false, true, false, false, false, false]), ([7], [true, true, true, true, false, true, true, true, true, true, true, true, true, true, true, false, false, false, false, false, false, false, false, true, false, false, false]), ([8], [true, true, true, true, false, true, true, true, true, true, true, true, true, true, true, false, false, false, false, false, false, false, false, false, true, false, false]), ([5, 9], [true, true, true, true, false, true, true, true, true, true, true, true, true, true, true, false, false, false, false, false, false, false, false, false, false, true, false]), ([2, 10], [true, true, true, true, false, true, true, true, true, true, true, true, true, true, true, false, false, false, false, false, false, false, false, false, false, false, true]), ([0], [true, true, true, true, false, true, true, true, true, true, true, true, true, true, true, false, false, false, false, false, false, false, false, false, false, false, false]), ([1], [true, true, true, true, false, true, true, true, true, true, true, true, true, true, true, false, false, false, false, false, false, false, false, false, false, false, false]), ([11], [true, true, true, true, true, true, true, true, true, true, true, true, true, true, true, false, false, false, false, false, false, false, false, false, false, false, false])] [true, true, true, true, false, true, true, true, true, true, true, true, true, true, true, false, false, false, false, false, false, false, false, false, false, false, false] (by kernel_rfl) (by rfl) (by kernel_rfl) ⟨⟨rfl, rfl, rfl, Nat.le_refl _, fun _ _ _ _ _ => rfl, fun _ _ _ _ _ h => h⟩, hC.drew.le (by omega)⟩ ?_
  refine wpK_cons (isV (.agg #[.int .i64 l, .int .i64 m])) (fun V w k hk hG hD => ?_) (st_V _) ?_
  · obtain ⟨-⟩ := hD
    simp only [actT, maskT, Nat.reduceAdd, if_true, if_false, Bool.false_eq_true]
    have kk := keep_bk hd6 hG (by simp; omega) (by simp only; omega)
    have u0 := kk.cell 0
    have u1 := kk.cell 1
    have ul := kk.lt
    simp only [List.getElem?_cons_zero, List.getElem?_cons_succ] at u0 u1
    go_wp2_with fail
    exact DP_mk (rv_same (by omega) hG rfl)
  refine wpK_cons (isV (.agg #[.int .i64 h, .int .i64 t, .int .i64 r])) (fun V w k hk hG hD => ?_) (st_V _) ?_
  · obtain ⟨-⟩ := hD
    simp only [actT, maskT, Nat.reduceAdd, if_true, if_false, Bool.false_eq_true]
    have kk := keep_bk hd7 hG (by simp; omega) (by simp only; omega)
    have u0 := kk.cell 0
    have u1 := kk.cell 1
    have u2 := kk.cell 2
    have ul := kk.lt
    simp only [List.getElem?_cons_zero, List.getElem?_cons_succ] at u0 u1 u2
    go_wp2_with fail
    exact DP_mk (rv_same (by omega) hG rfl)
  refine wpK_cons (isV ((Value.pointer (some ⟨g, 0, none⟩)))) (fun V w k hk hG hD => ?_) (st_V _) ?_
  · obtain ⟨-⟩ := hD
    simp only [actT, maskT, Nat.reduceAdd, if_true, if_false, Bool.false_eq_true]
    go_wp2_with fail
    exact DP_mk (rv_same (by omega) hG rfl)
  refine wpK_cons (isV (Value.pointer (some ⟨d6, 1, none⟩))) (fun V w k hk hG hD => ?_) (st_V _) ?_
  · obtain ⟨-⟩ := hD
    simp only [actT, maskT, Nat.reduceAdd, if_true, if_false, Bool.false_eq_true]
    go_wp2_with fail
    exact DP_mk (rv_same (by omega) hG rfl)
  refine wpK_cons (isV (.int .i64 m)) (fun V w k hk hG hD => ?_) (st_V _) ?_
  · obtain ⟨f18, -⟩ := hD
    simp only [actT, maskT, Nat.reduceAdd, if_true, if_false, Bool.false_eq_true]
    rw [show V 18 = Value.pointer (some ⟨d6, 1, none⟩) from f18]
    have kk := keep_bk hd6 hG (by simp; omega) (by simp only; omega)
    have u0 := kk.cell 0
    have u1 := kk.cell 1
    have ul := kk.lt
    simp only [List.getElem?_cons_zero, List.getElem?_cons_succ] at u0 u1
    go_wp2_with fail
    exact DP_mk (rv_same (by omega) hG rfl)
  refine wpK_cons (isS g w0.heap.size 9 9) (fun V w k hk hG hD => ?_) (st_S _ _) ?_
  · obtain ⟨f19, -⟩ := hD
    simp only [actT, maskT, Nat.reduceAdd, if_true, if_false, Bool.false_eq_true]
    rw [show V 19 = .int .i64 m from f19]
    go_wp2_with fail
    exact DP_mk (rv_alloc (by omega) hG ⟨_, _, rfl, by omega, by omega, hG.le.size, by have := hG.cur.lt; simp only at this; omega, Good.lit' rfl (by simp) (by simp [sm_int, *])⟩)
  refine wpK_cons (isV ((Value.pointer (some ⟨g, 0, none⟩)))) (fun V w k hk hG hD => ?_) (st_V _) ?_
  · obtain ⟨-⟩ := hD
    simp only [actT, maskT, Nat.reduceAdd, if_true, if_false, Bool.false_eq_true]
    go_wp2_with fail
    exact DP_mk (rv_same (by omega) hG rfl)
  refine wpK_cons (isI 0 23) (fun V w k hk hG hD => ?_) (st_I _ _) ?_
  · obtain ⟨f21, -⟩ := hD
    simp only [actT, maskT, Nat.reduceAdd, if_true, if_false, Bool.false_eq_true]
    rw [show V 21 = (Value.pointer (some ⟨g, 0, none⟩)) from f21]
    go_wp2_with (go_at_call 49; refine (pick_ty _ _ _ 23 _ hG.cur (by have := bud k hk; omega) (by omega) (by omega) (by omega)).mono ?_; rintro e w' ⟨v, rfl, hg, hC, hd⟩)
    exact DP_mk (rv_call (by omega) hG hg hC hd)
  refine wpK_cons (isI 0 2) (fun V w k hk hG hD => ?_) (st_I _ _) ?_
  · obtain ⟨f22, -⟩ := hD
    simp only [actT, maskT, Nat.reduceAdd, if_true, if_false, Bool.false_eq_true]
    obtain ⟨x22, e22, p22, q22⟩ := f22
    rw [e22]
    go_wp2_with fail
    exact DP_mk (rv_same (by omega) hG ⟨_, rfl, by omega, by omega⟩)
  refine wpK_cons (isI 7 9) (fun V w k hk hG hD => ?_) (st_I _ _) ?_
  · obtain ⟨f23, -⟩ := hD
    simp only [actT, maskT, Nat.reduceAdd, if_true, if_false, Bool.false_eq_true]
    obtain ⟨x23, e23, p23, q23⟩ := f23
    rw [e23]
    go_wp2_with fail
    exact DP_mk (rv_same (by omega) hG ⟨_, rfl, by omega, by omega⟩)
  refine wpK_cons (isS g w0.heap.size 7 9) (fun V w k hk hG hD => ?_) (st_S _ _) ?_
  · obtain ⟨f20, f24, -⟩ := hD
    simp only [actT, maskT, Nat.reduceAdd, if_true, if_false, Bool.false_eq_true]
    obtain ⟨b20, n20, e20, p20, q20, r20, s20, hS20⟩ := f20
    rw [e20]
    obtain ⟨x24, e24, p24, q24⟩ := f24
    rw [e24]
    obtain ⟨m24, em24⟩ : ∃ m : Nat, x24 = (m : Int) := ⟨x24.toNat, by omega⟩
    subst em24
    go_wp2_with fail
    exact DP_mk (rv_same (by omega) hG ⟨_, _, rfl, by omega, by omega, r20, s20, hS20⟩)
  refine wpK_cons (isI (-9223372036854775808) 9223372036854775807) (fun V w k hk hG hD => ?_) (st_I _ _) ?_
  · obtain ⟨f17, f25, -⟩ := hD
    simp only [actT, maskT, Nat.reduceAdd, if_true, if_false, Bool.false_eq_true]
    rw [show V 17 = (Value.pointer (some ⟨g, 0, none⟩)) from f17]
    obtain ⟨b25, n25, e25, p25, q25, r25, s25, hS25⟩ := f25
    rw [e25]
    go_wp2_with (go_at_call 48; refine (among_ty _ _ _ hG.cur (by have := bud k hk; omega) hS25 (by omega) (by omega) (by omega) (by omega)).mono ?_; rintro e w' ⟨v, rfl, hg, hC, hd⟩)
    exact DP_mk (rv_call (by omega) hG hg hC hd)
  refine wpK_cons (isT) (fun V w k hk hG hD => ?_) (st_T) ?_
  · obtain ⟨f15, -⟩ := hD
    simp only [actT, maskT, Nat.reduceAdd, if_true, if_false, Bool.false_eq_true]
    rw [show V 15 = .agg #[.int .i64 l, .int .i64 m] from f15]
    have gR := hG.le.good d2 _ _ (.inr (by simp)) nd2 gd2
    obtain ⟨y0, c0, -, -⟩ := gR.cell (j := 0) (by omega)
    obtain ⟨y1, c1, -, -⟩ := gR.cell (j := 1) (by omega)
    have fz0 := gR.frozen 0
    have fz1 := gR.frozen 1
    have gl := gR.lt
    go_wp2_with fail
    exact DP_mk (v := undef) (rv_then ((Lx.refl _ _ _ _).trans (Lx.set _ (by simp) (sm_int.2 ⟨by first | omega | (have := hz15; simp at this; omega), by first | omega | (have := hz15; simp at this; omega)⟩))) (rv_set (by omega) (gg_set hG (by simp) nd2 (fun h0 a ha => by have := hA h0 a ha; omega) (sm_int.2 ⟨by first | omega | (have := hz15; simp at this; omega), by first | omega | (have := hz15; simp at this; omega)⟩)) (by simp) nd2 (fun h0 a ha => by have := hA h0 a ha; omega) (sm_int.2 ⟨by first | omega | (have := hz15; simp at this; omega), by first | omega | (have := hz15; simp at this; omega)⟩) trivial))
  refine wpK_cons (isT) (fun V w k hk hG hD => ?_) (st_T) ?_
  · obtain ⟨f16, -⟩ := hD
    simp only [actT, maskT, Nat.reduceAdd, if_true, if_false, Bool.false_eq_true]
    rw [show V 16 = .agg #[.int .i64 h, .int .i64 t, .int .i64 r] from f16]
    have gR := hG.le.good d3 _ _ (.inr (by simp)) nd3 gd3
    obtain ⟨y0, c0, -, -⟩ := gR.cell (j := 0) (by omega)
    obtain ⟨y1, c1, -, -⟩ := gR.cell (j := 1) (by omega)
    obtain ⟨y2, c2, -, -⟩ := gR.cell (j := 2) (by omega)
    have fz0 := gR.frozen 0
    have fz1 := gR.frozen 1
    have fz2 := gR.frozen 2
    have gl := gR.lt
    go_wp2_with fail
    exact DP_mk (v := undef) (rv_then (((Lx.refl _ _ _ _).trans (Lx.set _ (by simp) (sm_int.2 ⟨by first | omega | (have := hz16; simp at this; omega), by first | omega | (have := hz16; simp at this; omega)⟩))).trans (Lx.set _ (by simp) (sm_int.2 ⟨by first | omega | (have := hz16; simp at this; omega), by first | omega | (have := hz16; simp at this; omega)⟩))) (rv_set (by omega) (gg_set (gg_set hG (by simp) nd3 (fun h0 a ha => by have := hA h0 a ha; omega) (sm_int.2 ⟨by first | omega | (have := hz16; simp at this; omega), by first | omega | (have := hz16; simp at this; omega)⟩)) (by simp) nd3 (fun h0 a ha => by have := hA h0 a ha; omega) (sm_int.2 ⟨by first | omega | (have := hz16; simp at this; omega), by first | omega | (have := hz16; simp at this; omega)⟩)) (by simp) nd3 (fun h0 a ha => by have := hA h0 a ha; omega) (sm_int.2 ⟨by first | omega | (have := hz16; simp at this; omega), by first | omega | (have := hz16; simp at this; omega)⟩) trivial))
  refine wpK_cons (isI (-9223372036854775808) 9223372036854775807) (fun V w k hk hG hD => ?_) (st_I _ _) ?_
  · obtain ⟨f26, -⟩ := hD
    simp only [actT, maskT, Nat.reduceAdd, if_true, if_false, Bool.false_eq_true]
    go_wp2_with fail
    exact DP_mk (rv_same (by omega) hG f26)
  refine wpK_nil (fun V W hG hD => ?_)
  obtain ⟨f15, f16, f17, f18, f19, f20, f21, f22, f23, f24, f25, f26, f_12, f_13, f4, -⟩ := hD
  simp only [actT, maskT, Nat.reduceAdd, if_true, if_false, Bool.false_eq_true]
  obtain ⟨zx, ex, x0, x1⟩ := f4
  rw [ex]
  have g2 := hG.le.good d2 _ _ (.inr (by simp)) nd2 gd2
  have g3 := hG.le.good d3 _ _ (.inr (by simp)) nd3 gd3
  obtain ⟨y0, c0, p0, q0⟩ := g2.cell (j := 0) (by omega)
  obtain ⟨y1, c1, p1, q1⟩ := g2.cell (j := 1) (by omega)
  obtain ⟨y2, c2, p2, q2⟩ := g3.cell (j := 0) (by omega)
  obtain ⟨y3, c3, p3, q3⟩ := g3.cell (j := 1) (by omega)
  obtain ⟨y4, c4, p4, q4⟩ := g3.cell (j := 2) (by omega)
  clear f15 f16 f17 f18 f19 f20 f21 f22 f23 f24 f25 f26 f_12 f_13 ex
  go_wp2
  (refine bodyPost_ret (by simp (maxDischargeDepth := 4) [results, Try.results17, go_sem, *]; try rfl) rfl ?_)
  refine ⟨y0, y1, y2, y3, y4, zx, rfl, ⟨⟨p0, q0⟩, ⟨p1, q1⟩, ⟨⟨p2, q2⟩, ⟨p3, q3⟩, ⟨p4, q4⟩⟩, ⟨x0, x1⟩⟩, ?_⟩
  refine ⟨hG.le.os.trans bW.os, hG.le.tape.trans bW.tape, hG.le.output.trans bW.output, Nat.le_trans bW.size hG.le.size, fun k hk => (hG.le.keep k (Nat.lt_of_lt_of_le hk bW.size) (Nat.lt_of_lt_of_le hk bW.size) (by simp; omega) (by simp only; omega)).trans (bW.block k hk)⟩
end Go.Proofs.Ytlnfccncbfpoiaa
