/-
  The situation chapter's draws: series, GrowthBetween, AddReport, CorrectReport. Conditions: the text is no longer than 2^16.
-/
import Derived.Test.YtjffhacoijmgiaaCX
import Derived.Test.YtjffhacoijmgiaaCS
namespace Go.Proofs.Ytjffhacoijmgiaa
open Go Go.RowKit
set_option maxRecDepth 100000
set_option maxHeartbeats 8000000

theorem series18_ats (X : DX) (B : Int) (w : World) (hX : X.base ≤ w.heap.size) (hC : Cur w X B) (hB : B ≤ 281474976710656) :
    Calls Try.prog 23 #[.pointer (some ⟨X.g, 0, none⟩)] w fun e w' => ∃ b n c zs, e = .returned (.slice (some ⟨b, 0, none⟩) n c) ∧ w.grownBy w' (some X.g) ∧ Cur w' X (B + 4096) ∧ w'.ownsRow w.heap.size 26 6 (.slice (some ⟨b, 0, none⟩) n c) n (sitF zs) ∧ zs.length = n ∧ n ≤ 64 ∧ ∀ z ∈ zs, sitI z := by
  refine (series18_ty { X with base := w.heap.size } B w rfl (hC.rebase hX) hB).mono ?_
  rintro e w' ⟨v, n, zs, rfl, hg, hC', hO, ⟨b, c, rfl⟩, r⟩
  exact ⟨b, n, c, zs, rfl, hg, hC'.unbase hC.ne, hO, r⟩
/-- what the draws of a list say of it -/
abbrev SerD (w w' : World) (b m : Nat) (zs : List SituationT) : Prop := Rd w' 6 (some ⟨b, 0, none⟩) m (sitF zs) ∧ zs.length = m ∧ m ≤ 64 ∧ (∀ z ∈ zs, sitI z) ∧ w.heap.size ≤ b ∧ b < w'.heap.size
theorem serD_of {w w1 w' : World} {base b m c : Nat} {zs : List SituationT} (hO : w'.ownsRow base 26 6 (.slice (some ⟨b, 0, none⟩) m c) m (sitF zs)) (hb : w.heap.size ≤ base) (_h : w1 = w1) (hl : zs.length = m) (hm : m ≤ 64) (hz : ∀ z ∈ zs, sitI z) : SerD w w' b m zs :=
  ⟨own_r hO, hl, hm, hz, by have := (own_blk hO).2; omega, (hO.lt b rfl).2⟩
theorem DrawIsSeries_any (A : Option Addr) (n c : Nat) (cs : List Value) (w : World) (hc : Code w A n cs) :
    Calls Try.prog 37 #[.slice A n c] w fun e w' => ∃ b m c' zs, e = .returned (.slice (some ⟨b, 0, none⟩) m c') ∧ SerD w w' b m zs ∧ Below w.heap.size w w' := by
  go_enter Try.func37, Try.ntmps37
  go_upto_region 2 with fail
  refine wp_genC (fun W => Below w.heap.size w W ∧ Cur W ⟨w.heap.size, A, n, c, cs, w.heap.size + 1⟩ 0) ⟨by (repeat' (first | (with_reducible exact Below.refl _ _) | (with_reducible assumption) | (with_reducible refine balloc ?_ _) | (with_reducible refine bdrew ?_) | (with_reducible refine bdrewN ?_ _) | (with_reducible refine bstep ?_ (by assumption)) | (with_reducible refine bset ?_ ?_ _) | (exact Below.size (by assumption)) | go_size)), Cur.made hc (Below.refl _ _) rfl⟩ ?_
  intro W ⟨bW, hC⟩
  have hs := bW.size
  have hlt := hC.lt
  go_wp2_with (go_at_call 23; refine (series18_ats ⟨w.heap.size, A, n, c, cs, w.heap.size + 1⟩ _ _ (by simp only at hlt ⊢; omega) hC (by omega)).mono ?_; rintro e w' ⟨b, m, c', zs, rfl, hg, hC, hO, hl, hm, hz⟩)
  go_returns
  exact ⟨b, m, c', zs, rfl, serD_of (w1 := W) hO hs rfl hl hm hz, below_gr bW hg (Nat.le_refl _)⟩
theorem DrawStateChanges_any (A : Option Addr) (n c : Nat) (cs : List Value) (w : World) (hc : Code w A n cs) :
    Calls Try.prog 16 #[.slice A n c] w fun e w' => ∃ b m c' zs, e = .returned (.slice (some ⟨b, 0, none⟩) m c') ∧ SerD w w' b m zs ∧ Below w.heap.size w w' := by
  go_enter Try.func16, Try.ntmps16
  go_wp2_with (go_at_call 37; refine (DrawIsSeries_any A n c cs _ hc).mono ?_; rintro e w' ⟨b, m, c', zs, rfl, hS, hb⟩)
  go_returns
  exact ⟨b, m, c', zs, rfl, hS, hb⟩
theorem DrawFastestGrowth_any (A : Option Addr) (n c : Nat) (cs : List Value) (w : World) (hc : Code w A n cs) :
    Calls Try.prog 20 #[.slice A n c] w fun e w' => ∃ b m c' zs, e = .returned (.slice (some ⟨b, 0, none⟩) m c') ∧ SerD w w' b m zs ∧ Below w.heap.size w w' := by
  go_enter Try.func20, Try.ntmps20
  go_wp2_with (go_at_call 37; refine (DrawIsSeries_any A n c cs _ hc).mono ?_; rintro e w' ⟨b, m, c', zs, rfl, hS, hb⟩)
  go_returns
  exact ⟨b, m, c', zs, rfl, hS, hb⟩
theorem DrawGrowthBetween_any (A : Option Addr) (n c : Nat) (cs : List Value) (w : World) (hc : Code w A n cs) :
    Calls Try.prog 10 #[.slice A n c] w fun e w' => ∃ b m c' zs x y, e = .returned (.tuple #[.slice (some ⟨b, 0, none⟩) m c', .int .i64 x, .int .i64 y]) ∧ (SerD w w' b m zs ∧ I64 x ∧ I64 y) ∧ Below w.heap.size w w' := by
  go_enter Try.func10, Try.ntmps10
  go_upto_region 2 with fail
  refine wp_genC (fun W => Below w.heap.size w W ∧ Cur W ⟨w.heap.size, A, n, c, cs, w.heap.size + 1⟩ 0) ⟨by (repeat' (first | (with_reducible exact Below.refl _ _) | (with_reducible assumption) | (with_reducible refine balloc ?_ _) | (with_reducible refine bdrew ?_) | (with_reducible refine bdrewN ?_ _) | (with_reducible refine bstep ?_ (by assumption)) | (with_reducible refine bset ?_ ?_ _) | (exact Below.size (by assumption)) | go_size)), Cur.made hc (Below.refl _ _) rfl⟩ ?_
  intro W ⟨bW, hC⟩
  have hs := bW.size
  have hlt := hC.lt
  go_upto_region 3 with (go_at_call 23; refine (series18_ats ⟨w.heap.size, A, n, c, cs, w.heap.size + 1⟩ _ _ (by simp only at hlt ⊢; omega) hC (by omega)).mono ?_; rintro e w' ⟨b, m, c', zs, rfl, hg, hC, hO, hl, hm, hz⟩; have bW := below_gr bW hg (Nat.le_refl _))
  have hlt := hC.lt
  go_upto_region 4 with (go_at_call 25; refine (among_ty ⟨w.heap.size, A, n, c, cs, w.heap.size + 1⟩ _ _ (hC.alloc _) (by omega) (Good.lit' rfl (by simp) (by simp [sm_int])) (by simp only at hlt ⊢; omega) (by omega) (by omega) (by omega)).mono ?_; rintro e w' ⟨v, rfl, hg, hC, x, rfl, x0, x1⟩; dsimp only at hg; have hO := own_grown (own_alloc hO _) hg (by omega); have bW := below_gr (balloc bW _) hg (Nat.le_refl _))
  have hlt := hC.lt
  go_wp2_with (go_at_call 25; refine (among_ty ⟨w.heap.size, A, n, c, cs, w.heap.size + 1⟩ _ _ (hC.alloc _) (by omega) (Good.lit' rfl (by simp) (by simp [sm_int])) (by simp only at hlt ⊢; omega) (by omega) (by omega) (by omega)).mono ?_; rintro e w' ⟨v, rfl, hg, hC, y, rfl, y0, y1⟩; dsimp only at hg; have hO := own_grown (own_alloc hO _) hg (by omega); have bW := below_gr (balloc bW _) hg (Nat.le_refl _))
  go_returns
  exact ⟨b, m, c', zs, _, _, rfl, ⟨serD_of (w1 := W) hO hs rfl hl hm hz, ⟨x0, x1⟩, by first | exact wrap64_bd _ | (constructor <;> omega)⟩, bW⟩
theorem DrawAddReport_any (A : Option Addr) (n c : Nat) (cs : List Value) (w : World) (hc : Code w A n cs) :
    Calls Try.prog 5 #[.slice A n c] w fun e w' => ∃ b m c' zs a0 a1 a2 a3 a4 a5, e = .returned (.tuple #[.slice (some ⟨b, 0, none⟩) m c', .agg #[.int .i64 a0, .int .i64 a1, .int .i64 a2, .int .i64 a3, .int .i64 a4, .int .i64 a5]]) ∧ (SerD w w' b m zs ∧ sitI (a0, a1, a2, a3, a4, a5)) ∧ Below w.heap.size w w' := by
  go_enter Try.func5, Try.ntmps5
  go_upto_region 2 with fail
  obtain ⟨X, hX⟩ : ∃ X : DX, X = ⟨w.heap.size + 1, A, n, c, cs, w.heap.size + 1 + 1⟩ := ⟨_, rfl⟩
  obtain ⟨d3, hd3⟩ : ∃ d, d = w.heap.size := ⟨_, rfl⟩
  refine wp_genC (fun W => Below w.heap.size w W ∧ Cur W X 0 ∧ Good W d3 26 6) ⟨by (repeat' (first | (with_reducible exact Below.refl _ _) | (with_reducible assumption) | (with_reducible refine balloc ?_ _) | (with_reducible refine bdrew ?_) | (with_reducible refine bdrewN ?_ _) | (with_reducible refine bstep ?_ (by assumption)) | (with_reducible refine bset ?_ ?_ _) | (exact Below.size (by assumption)) | go_size)), by rw [hX]; exact Cur.made hc (by (repeat' (first | (with_reducible exact Below.refl _ _) | (with_reducible assumption) | (with_reducible refine balloc ?_ _) | (with_reducible refine bdrew ?_) | (with_reducible refine bdrewN ?_ _) | (with_reducible refine bstep ?_ (by assumption)) | (with_reducible refine bset ?_ ?_ _) | (exact Below.size (by assumption)) | go_size))) (by simp), (Good.lit' hd3.symm (by simp) (by simp [sm_int])).alloc _⟩ ?_
  have eg : X.g = w.heap.size + 1 := by rw [hX]
  have hA3 : 0 < X.n → ∀ a, X.A = some a → a.block < w.heap.size := by rw [hX]; exact hc.lt
  have xg : w.heap.size + 1 ≤ X.g := by omega
  have xb : X.base ≤ X.g + 1 := by rw [hX]; exact Nat.le_refl _
  have xb2 : X.g < X.base := by rw [hX]; exact Nat.lt_succ_self _
  have nd3 : d3 ≠ X.g := by omega
  have hw3 : w.heap.size ≤ d3 := by omega
  have ad3 : 0 < X.n → ∀ a, X.A = some a → a.block ≠ d3 := fun h0 a ha => by have := hA3 h0 a ha; omega
  have d3g : d3 < X.g := by omega
  have hwg : w.heap.size ≤ X.g := by omega
  intro W ⟨bW, hC, gd3⟩
  rw [show w.heap.size + 1 = X.g from eg.symm, show w.heap.size = d3 from hd3.symm]
  clear hd3 eg hX
  have hlt := hC.lt
  obtain ⟨bo, hbo', hbo, hgo⟩ : ∃ bo, bo ≤ W.heap.size ∧ w.heap.size ≤ bo ∧ X.g < bo := ⟨W.heap.size, Nat.le_refl _, by omega, by omega⟩
  go_upto_region 3 with (go_at_call 23; refine (series18_ats X _ _ (by omega) hC (by omega)).mono ?_; rintro e w' ⟨b, m, c', zs, rfl, hg, hC, hO, hl, hm, hz⟩; have hO := own_weaken (base' := bo) hO hbo'; have bW := below_gr bW hg hwg; have gd3 := good_gr gd3 nd3 hg; have hlt := hC.lt)
  clear hbo'
  have hr3 : ∀ b', (Value.slice (some ⟨b, 0, none⟩) m c').ownBlock = some b' → b' ≠ d3 := fun b' e => by have := (own_blk hO).2; cases e; simp only; omega
  have HL := Lib.hid hl
  clear hl
  by_cases hm0 : 0 < m
  · have i1 : decide (0 < m) = true := decide_eq_true hm0
    have i2 : decide ((0 : Int) < (m : Int)) = true := decide_eq_true (by omega)
    go_upto_if 20 with (first | (go_at_call 24; refine (one_ty X _ _ _ hC (by omega) (by omega)).mono ?_; rintro e w' ⟨v, rfl, hg, hC, yes, rfl⟩; have hlt := hC.lt; have hO := own_grown hO hg hgo; have gd3 := good_gr gd3 nd3 hg; have bW := below_gr bW hg hwg))
    rcases yes with _ | _
    · have hl := HL.out
      go_wp2_with (first | (go_at_call 25; refine (among_ty X _ _ (hC.alloc _) (by omega) (Good.lit' rfl (by simp) (by simp [sm_int])) (by omega) (by omega) (by omega) (by omega)).mono ?_; rintro e w' ⟨v, rfl, hg, hC, x, rfl, x0, x1⟩;  have hlt := hC.lt; have hO := own_grown (own_alloc hO _) hg hgo; have gd3 := good_gr (gd3.alloc _) nd3 hg; have bW := below_gr (balloc bW _) hg hwg) | (go_at_call 26; refine (situation_ats X _ _ _ (by omega) hC (by omega) ⟨x0, x1⟩).mono ?_; rintro e w' ⟨q0, q1, q2, q3, q4, q5, rfl, hg, hC, hx⟩; have hlt := hC.lt; have hO := own_grown hO hg hgo; have gd3 := good_gr gd3 nd3 hg; have bW := below_gr bW hg hwg; obtain ⟨yR0, cR0, lR0, hR0⟩ := gd3.cell (j := 0) (by omega); obtain ⟨yR1, cR1, lR1, hR1⟩ := gd3.cell (j := 1) (by omega); obtain ⟨yR2, cR2, lR2, hR2⟩ := gd3.cell (j := 2) (by omega); obtain ⟨yR3, cR3, lR3, hR3⟩ := gd3.cell (j := 3) (by omega); obtain ⟨yR4, cR4, lR4, hR4⟩ := gd3.cell (j := 4) (by omega); obtain ⟨yR5, cR5, lR5, hR5⟩ := gd3.cell (j := 5) (by omega); have fR0 := gd3.frozen 0; have fR1 := gd3.frozen 1; have fR2 := gd3.frozen 2; have fR3 := gd3.frozen 3; have fR4 := gd3.frozen 4; have fR5 := gd3.frozen 5; have bR := gd3.lt))
      obtain ⟨hx0, hx1, hx2, hx3, hx4, hx5⟩ := id hx
      dsimp only at hx0 hx1 hx2 hx3 hx4 hx5
      refine bp_gen (fun W => Below w.heap.size w W ∧ Good W d3 26 6 ∧ W.ownsRow bo 26 6 (.slice (some ⟨b, 0, none⟩) m c') m (sitF zs)) ⟨(bset (bset (bset (bset (bset (bset bW (p := ⟨d3, 0, none⟩) (by simp only; omega) _) (p := ⟨d3, 1, none⟩) (by simp only; omega) _) (p := ⟨d3, 2, none⟩) (by simp only; omega) _) (p := ⟨d3, 3, none⟩) (by simp only; omega) _) (p := ⟨d3, 4, none⟩) (by simp only; omega) _) (p := ⟨d3, 5, none⟩) (by simp only; omega) _), (Good.set (Good.set (Good.set (Good.set (Good.set (Good.set gd3 ⟨q0, rfl, hx0.1, hx0.2⟩) ⟨q1, rfl, hx1.1, hx1.2⟩) ⟨q2, rfl, hx2.1, hx2.2⟩) ⟨q3, rfl, hx3.1, hx3.2⟩) ⟨q4, rfl, hx4.1, hx4.2⟩) ⟨q5, rfl, hx5.1, hx5.2⟩), (own_far (own_far (own_far (own_far (own_far (own_far hO hr3) hr3) hr3) hr3) hr3) hr3)⟩ ?_
      clear gd3 hO bW hC hg cR0 fR0 cR1 fR1 cR2 fR2 cR3 fR3 cR4 fR4 cR5 fR5 bR
      intro W ⟨bW, gd3, hO⟩
      obtain ⟨yR0, cR0, lR0, hR0⟩ := gd3.cell (j := 0) (by omega)
      obtain ⟨yR1, cR1, lR1, hR1⟩ := gd3.cell (j := 1) (by omega)
      obtain ⟨yR2, cR2, lR2, hR2⟩ := gd3.cell (j := 2) (by omega)
      obtain ⟨yR3, cR3, lR3, hR3⟩ := gd3.cell (j := 3) (by omega)
      obtain ⟨yR4, cR4, lR4, hR4⟩ := gd3.cell (j := 4) (by omega)
      obtain ⟨yR5, cR5, lR5, hR5⟩ := gd3.cell (j := 5) (by omega)
      have fR0 := gd3.frozen 0
      have fR1 := gd3.frozen 1
      have fR2 := gd3.frozen 2
      have fR3 := gd3.frozen 3
      have fR4 := gd3.frozen 4
      have fR5 := gd3.frozen 5
      have bR := gd3.lt
      (refine bodyPost_ret (by simp (maxDischargeDepth := 4) [results, Try.results5, go_sem, *]; try rfl) rfl ?_)
      exact ⟨b, m, c', zs, yR0, yR1, yR2, yR3, yR4, yR5, rfl, ⟨serD_of (w1 := W) hO hbo rfl hl hm hz, ⟨⟨lR0, hR0⟩, ⟨lR1, hR1⟩, ⟨lR2, hR2⟩, ⟨lR3, hR3⟩, ⟨lR4, hR4⟩, ⟨lR5, hR5⟩⟩⟩, bW⟩
    · obtain ⟨N, hN⟩ : ∃ N, m = N + 1 := ⟨m - 1, by omega⟩
      have hNm : N < m := by omega
      have hl := HL.out
      obtain ⟨⟨p0, p1, p2, p3, p4, p5⟩, hp⟩ : ∃ z, zs[N]'(by omega) = z := ⟨_, rfl⟩
      have hx : sitI (p0, p1, p2, p3, p4, p5) := hz _ (by rw [← hp]; exact List.getElem_mem _)
      obtain ⟨hx0, hx1, hx2, hx3, hx4, hx5⟩ := id hx
      dsimp only at hx0 hx1 hx2 hx3 hx4 hx5
      unfold I64 at hx0 hx1 hx2 hx3 hx4 hx5
      obtain ⟨b', off', eb, hbl, v0, v1, v2, v3, v4, v5, hv, k0, k1, k2, k3, k4, k5⟩ := sit_at (own_r hO) (Below.refl _ _) hl (show N < m by omega)
      cases eb
      rw [hp] at hv
      cases hv
      clear hp hl
      simp only [Nat.zero_add] at k0 k1 k2 k3 k4 k5
      have i4 : IntKind.i64.wrap ((m : Int) - 1) = (N : Int) := by rw [IntKind.wrap_i64]; omega
      have i5 : wrap64 ((m : Int) - 1) = (N : Int) := by simp only [wrap64]; omega
      have i7 : (N : Int) < (m : Int) := by omega
      clear hN
      go_upto_region 6 with fail
      obtain ⟨d7, ed7⟩ : ∃ d, w'.heap.size = d := ⟨_, rfl⟩
      rw [ed7]
      have sd7 : X.g < d7 := by have := hC.lt; omega
      have sd72 : bo ≤ d7 := by have := (hO.lt b rfl); have := (own_blk hO).2; omega
      have nd7 : d7 ≠ X.g := by omega
      have ad7 : 0 < X.n → ∀ a, X.A = some a → a.block ≠ d7 := fun h0 a ha => by have := hA3 h0 a ha; omega
      have hr7 : ∀ b', (Value.slice (some ⟨b, 0, none⟩) m c').ownBlock = some b' → b' ≠ d7 := fun b' e => by have := (hO.lt b' e).2; omega
      refine wp_genC (fun W => Below w.heap.size w W ∧ Cur W X _ ∧ Good W d3 26 6 ∧ Good W d7 26 6 ∧ W.ownsRow bo 26 6 (.slice (some ⟨b, 0, none⟩) m c') m (sitF zs)) ⟨balloc bW _, hC.alloc _, gd3.alloc _, Good.lit' ed7 (by simp) (by simp [sm_int]; omega), own_alloc hO _⟩ ?_
      clear bW hC gd3 hO hg ed7 k0 k1 k2 k3 k4 k5
      intro W ⟨bW, hC, gd3, gd7, hO⟩
      have hlt := hC.lt
      have bud : ∀ k : Nat, k < 8 → (0 + 4096 + 2) + 2 * (k : Int) ≤ 562949953421312 := fun k hk => by omega
      refine wp_region_inv (Le := Lx X.g [d7] W.heap.size) (G := GG X [d7] W ((0 + 4096 + 2)) (2)) 48 [([], [true, true, true, true, true, true, true, true, true, true, true, true, true, true, true, true, true, true, true, true, true, true, true, true, true, true, true, false, false, false, false, false, false, true, true, true, true, true, true, true, true, true, true, true, true, true, true, true]), ([0], [true, true, true, true, true, true, true, true, true, true, true, true, true, true, true, true, true, true, true, true, true, true, true, true, true, true, false, true, false, false, false, false, false, true, true, true, true, true, true, true, true, true, true, true, true, true, true, true]), ([], [true, true, true, true, true, true, true, true, true, true, true, true, true, true, true, true, true, true, true, true, true, true, true, true, true, true, false, false, true, false, false, false, false, true, true, true, true, true, true, true, true, true, true, true, true, true, true, true]), ([], [true, true, true, true, true, true, true, true, true, true, true, true, true, true, true, true, true, true, true, true, true, true, true, true, true, true, false, false, false, true, false, false, false, true, true, true, true, true, true, true, true, true, true, true, true, true, true, true]), ([2, 3], [true, true, true, true, true, true, true, true, true, true, true, true, true, true, true, true, true, true, true, true, true, true, true, true, true, true, false, false, false, false, true, false, false, true, true, true, true, true, true, true, true, true, true, true, true, true, true, true]), ([1, 4], [true, true, true, true, true, true, true, true, true, true, true, true, true, true, true, true, true, true, true, true, true, true, true, true, true, true, false, false, false, false, false, true, false, true, true, true, true, true, true, true, true, true, true, true, true, true, true, true]), ([], [true, true, true, true, true, true, true, true, true, true, true, true, true, true, true, true, true, true, true, true, true, true, true, true, true, true, false, false, false, false, false, false, true, true, true, true, true, true, true, true, true, true, true, true, true, true, true, true]), ([6, 5], [true, true, true, true, true, true, true, true, true, true, true, true, true, true, true, true, true, true, true, true, true, true, true, true, true, true, false, false, false, false, false, false, false, true, true, true, true, true, true, true, true, true, true, true, true, true, true, true])] [true, true, true, true, true, true, true, true, true, true, true, true, true, true, true, true, true, true, true, true, true, true, true, true, true, true, false, false, false, false, false, false, false, true, true, true, true, true, true, true, true, true, true, true, true, true, true, true] (by kernel_rfl) (by rfl) (by kernel_rfl) ⟨⟨rfl, rfl, rfl, Nat.le_refl _, fun _ _ _ _ _ => rfl, fun _ _ _ _ _ h => h⟩, hC.drew.le (by omega)⟩ ?_
      refine wpK_cons (isV (Value.pointer (some ⟨d7, 0, none⟩))) (fun V w k hk hG hD => ?_) (st_V _) ?_
      · obtain ⟨-⟩ := hD
        simp only [actT, maskT, Nat.reduceAdd, if_true, if_false, Bool.false_eq_true]
        go_wp2_with fail
        exact DP_mk (rv_same (by omega) hG rfl)
      refine wpK_cons (isI (-9223372036854775808) 9223372036854775807) (fun V w k hk hG hD => ?_) (st_I _ _) ?_
      · obtain ⟨f26, -⟩ := hD
        simp only [actT, maskT, Nat.reduceAdd, if_true, if_false, Bool.false_eq_true]
        rw [show V 26 = Value.pointer (some ⟨d7, 0, none⟩) from f26]
        have gk := hG.le.good d7 _ _ (.inr (by simp)) nd7 gd7
        obtain ⟨y0, cy0, l0, h0⟩ := gk.cell (j := 0) (by omega)
        have gl := gk.lt
        go_wp2_with fail
        exact DP_mk (rv_same (by omega) hG ⟨_, rfl, l0, h0⟩)
      refine wpK_cons (isV ((Value.pointer (some ⟨X.g, 0, none⟩)))) (fun V w k hk hG hD => ?_) (st_V _) ?_
      · obtain ⟨-⟩ := hD
        simp only [actT, maskT, Nat.reduceAdd, if_true, if_false, Bool.false_eq_true]
        go_wp2_with fail
        exact DP_mk (rv_same (by omega) hG rfl)
      refine wpK_cons (isS X.g W.heap.size 4 4) (fun V w k hk hG hD => ?_) (st_S _ _) ?_
      · obtain ⟨-⟩ := hD
        simp only [actT, maskT, Nat.reduceAdd, if_true, if_false, Bool.false_eq_true]
        go_wp2_with fail
        exact DP_mk (rv_alloc (by omega) hG ⟨_, _, rfl, by omega, by omega, hG.le.size, by have := hG.cur.lt; omega, Good.lit' rfl (by simp) (by simp [sm_int])⟩)
      refine wpK_cons (isI (-9223372036854775808) 9223372036854775807) (fun V w k hk hG hD => ?_) (st_I _ _) ?_
      · obtain ⟨f28, f29, -⟩ := hD
        simp only [actT, maskT, Nat.reduceAdd, if_true, if_false, Bool.false_eq_true]
        rw [show V 28 = (Value.pointer (some ⟨X.g, 0, none⟩)) from f28]
        obtain ⟨b29, n29, e29, p29, q29, r29, s29, hS29⟩ := f29
        rw [e29]
        go_wp2_with (go_at_call 25; refine (among_ty _ _ _ hG.cur (by have := bud k hk; omega) hS29 (by omega) (by omega) (by omega) (by omega)).mono ?_; rintro e w' ⟨v, rfl, hg, hC, hd⟩)
        exact DP_mk (rv_call (by omega) hG hg hC hd)
      refine wpK_cons (isI (-9223372036854775808) 9223372036854775807) (fun V w k hk hG hD => ?_) (st_I _ _) ?_
      · obtain ⟨f27, f30, -⟩ := hD
        simp only [actT, maskT, Nat.reduceAdd, if_true, if_false, Bool.false_eq_true]
        obtain ⟨x27, e27, p27, q27⟩ := f27
        rw [e27]
        obtain ⟨x30, e30, p30, q30⟩ := f30
        rw [e30]
        go_wp2_with fail
        exact DP_mk (rv_same (by omega) hG ⟨_, rfl, by first | exact (wrap64_bd _).1 | omega, by first | exact (wrap64_bd _).2 | omega⟩)
      refine wpK_cons (isV (Value.pointer (some ⟨d7, 0, none⟩))) (fun V w k hk hG hD => ?_) (st_V _) ?_
      · obtain ⟨-⟩ := hD
        simp only [actT, maskT, Nat.reduceAdd, if_true, if_false, Bool.false_eq_true]
        go_wp2_with fail
        exact DP_mk (rv_same (by omega) hG rfl)
      refine wpK_cons (isT) (fun V w k hk hG hD => ?_) (st_T) ?_
      · obtain ⟨f32, f31, -⟩ := hD
        simp only [actT, maskT, Nat.reduceAdd, if_true, if_false, Bool.false_eq_true]
        rw [show V 32 = Value.pointer (some ⟨d7, 0, none⟩) from f32]
        obtain ⟨x31, e31, p31, q31⟩ := f31
        rw [e31]
        have gk := hG.le.good d7 _ _ (.inr (by simp)) nd7 gd7
        obtain ⟨y0, cy0, -, -⟩ := gk.cell (j := 0) (by omega)
        have fy0 := gk.frozen 0
        have gl := gk.lt
        go_wp2_with fail
        exact DP_mk (v := undef) (rv_set (R := isT) (by omega) hG (by simp) nd7 ad7 (sm_int.2 ⟨by omega, by omega⟩) trivial)
      refine wpK_nil (fun V W hG hD => ?_)
      obtain ⟨f26, f27, f28, f29, f30, f31, f32, f_7, -⟩ := hD
      simp only [actT, maskT, Nat.reduceAdd, if_true, if_false, Bool.false_eq_true]
      clear bud
      have bW := below_lx bW hG.le (fun b hb => by simp at hb; omega) hwg (by have := bW.size; omega)
      have hC : Cur W X ((0 + 4096 + 2) + 16) := hG.cur.le (show (0 + 4096 + 2) + 2 * ((8 : Nat) : Int) ≤ (0 + 4096 + 2) + 16 by omega)
      have hO := own_lx hO hG.le (fun b' e => ⟨by simp; first | exact ⟨hr7 b' e, hr3 b' e⟩ | exact ⟨hr3 b' e, hr7 b' e⟩ | exact hr7 b' e, own_ne hO hgo b' e⟩)
      have gd7 := hG.le.good d7 _ _ (.inr (by simp)) nd7 gd7
      have gd3 := gd3.of_eq (hG.le.keep d3 gd3.lt gd3.lt (by simp; omega) nd3)
      have hlt := hC.lt
      clear hG f26 f27 f28 f29 f30 f31 f32 f_7
      go_upto_region 7 with fail
      have bud : ∀ k : Nat, k < 8 → (0 + 4096 + 2) + 16 + 2 * (k : Int) ≤ 562949953421312 := fun k hk => by omega
      refine wp_region_inv (Le := Lx X.g [d7] W.heap.size) (G := GG X [d7] W ((0 + 4096 + 2) + 16) (2)) 48 [([], [true, true, true, true, true, true, true, true, true, true, true, true, true, true, true, true, true, true, true, true, true, true, true, true, true, true, true, true, true, true, true, true, true, true, false, false, false, false, false, false, true, true, true, true, true, true, true, true]), ([0], [true, true, true, true, true, true, true, true, true, true, true, true, true, true, true, true, true, true, true, true, true, true, true, true, true, true, true, true, true, true, true, true, true, false, true, false, false, false, false, false, true, true, true, true, true, true, true, true]), ([], [true, true, true, true, true, true, true, true, true, true, true, true, true, true, true, true, true, true, true, true, true, true, true, true, true, true, true, true, true, true, true, true, true, false, false, true, false, false, false, false, true, true, true, true, true, true, true, true]), ([], [true, true, true, true, true, true, true, true, true, true, true, true, true, true, true, true, true, true, true, true, true, true, true, true, true, true, true, true, true, true, true, true, true, false, false, false, true, false, false, false, true, true, true, true, true, true, true, true]), ([2, 3], [true, true, true, true, true, true, true, true, true, true, true, true, true, true, true, true, true, true, true, true, true, true, true, true, true, true, true, true, true, true, true, true, true, false, false, false, false, true, false, false, true, true, true, true, true, true, true, true]), ([1, 4], [true, true, true, true, true, true, true, true, true, true, true, true, true, true, true, true, true, true, true, true, true, true, true, true, true, true, true, true, true, true, true, true, true, false, false, false, false, false, true, false, true, true, true, true, true, true, true, true]), ([], [true, true, true, true, true, true, true, true, true, true, true, true, true, true, true, true, true, true, true, true, true, true, true, true, true, true, true, true, true, true, true, true, true, false, false, false, false, false, false, true, true, true, true, true, true, true, true, true]), ([6, 5], [true, true, true, true, true, true, true, true, true, true, true, true, true, true, true, true, true, true, true, true, true, true, true, true, true, true, true, true, true, true, true, true, true, false, false, false, false, false, false, false, true, true, true, true, true, true, true, true])] [true, true, true, true, true, true, true, true, true, true, true, true, true, true, true, true, true, true, true, true, true, true, true, true, true, true, true, true, true, true, true, true, true, false, false, false, false, false, false, false, true, true, true, true, true, true, true, true] (by kernel_rfl) (by rfl) (by kernel_rfl) ⟨⟨rfl, rfl, rfl, Nat.le_refl _, fun _ _ _ _ _ => rfl, fun _ _ _ _ _ h => h⟩, hC.drew.le (by omega)⟩ ?_
      refine wpK_cons (isV (Value.pointer (some ⟨d7, 2, none⟩))) (fun V w k hk hG hD => ?_) (st_V _) ?_
      · obtain ⟨-⟩ := hD
        simp only [actT, maskT, Nat.reduceAdd, if_true, if_false, Bool.false_eq_true]
        go_wp2_with fail
        exact DP_mk (rv_same (by omega) hG rfl)
      refine wpK_cons (isI (-9223372036854775808) 9223372036854775807) (fun V w k hk hG hD => ?_) (st_I _ _) ?_
      · obtain ⟨f33, -⟩ := hD
        simp only [actT, maskT, Nat.reduceAdd, if_true, if_false, Bool.false_eq_true]
        rw [show V 33 = Value.pointer (some ⟨d7, 2, none⟩) from f33]
        have gk := hG.le.good d7 _ _ (.inr (by simp)) nd7 gd7
        obtain ⟨y0, cy0, l0, h0⟩ := gk.cell (j := 2) (by omega)
        have gl := gk.lt
        go_wp2_with fail
        exact DP_mk (rv_same (by omega) hG ⟨_, rfl, l0, h0⟩)
      refine wpK_cons (isV ((Value.pointer (some ⟨X.g, 0, none⟩)))) (fun V w k hk hG hD => ?_) (st_V _) ?_
      · obtain ⟨-⟩ := hD
        simp only [actT, maskT, Nat.reduceAdd, if_true, if_false, Bool.false_eq_true]
        go_wp2_with fail
        exact DP_mk (rv_same (by omega) hG rfl)
      refine wpK_cons (isS X.g W.heap.size 4 4) (fun V w k hk hG hD => ?_) (st_S _ _) ?_
      · obtain ⟨-⟩ := hD
        simp only [actT, maskT, Nat.reduceAdd, if_true, if_false, Bool.false_eq_true]
        go_wp2_with fail
        exact DP_mk (rv_alloc (by omega) hG ⟨_, _, rfl, by omega, by omega, hG.le.size, by have := hG.cur.lt; omega, Good.lit' rfl (by simp) (by simp [sm_int])⟩)
      refine wpK_cons (isI (-9223372036854775808) 9223372036854775807) (fun V w k hk hG hD => ?_) (st_I _ _) ?_
      · obtain ⟨f35, f36, -⟩ := hD
        simp only [actT, maskT, Nat.reduceAdd, if_true, if_false, Bool.false_eq_true]
        rw [show V 35 = (Value.pointer (some ⟨X.g, 0, none⟩)) from f35]
        obtain ⟨b36, n36, e36, p36, q36, r36, s36, hS36⟩ := f36
        rw [e36]
        go_wp2_with (go_at_call 25; refine (among_ty _ _ _ hG.cur (by have := bud k hk; omega) hS36 (by omega) (by omega) (by omega) (by omega)).mono ?_; rintro e w' ⟨v, rfl, hg, hC, hd⟩)
        exact DP_mk (rv_call (by omega) hG hg hC hd)
      refine wpK_cons (isI (-9223372036854775808) 9223372036854775807) (fun V w k hk hG hD => ?_) (st_I _ _) ?_
      · obtain ⟨f34, f37, -⟩ := hD
        simp only [actT, maskT, Nat.reduceAdd, if_true, if_false, Bool.false_eq_true]
        obtain ⟨x34, e34, p34, q34⟩ := f34
        rw [e34]
        obtain ⟨x37, e37, p37, q37⟩ := f37
        rw [e37]
        go_wp2_with fail
        exact DP_mk (rv_same (by omega) hG ⟨_, rfl, by first | exact (wrap64_bd _).1 | omega, by first | exact (wrap64_bd _).2 | omega⟩)
      refine wpK_cons (isV (Value.pointer (some ⟨d7, 2, none⟩))) (fun V w k hk hG hD => ?_) (st_V _) ?_
      · obtain ⟨-⟩ := hD
        simp only [actT, maskT, Nat.reduceAdd, if_true, if_false, Bool.false_eq_true]
        go_wp2_with fail
        exact DP_mk (rv_same (by omega) hG rfl)
      refine wpK_cons (isT) (fun V w k hk hG hD => ?_) (st_T) ?_
      · obtain ⟨f39, f38, -⟩ := hD
        simp only [actT, maskT, Nat.reduceAdd, if_true, if_false, Bool.false_eq_true]
        rw [show V 39 = Value.pointer (some ⟨d7, 2, none⟩) from f39]
        obtain ⟨x38, e38, p38, q38⟩ := f38
        rw [e38]
        have gk := hG.le.good d7 _ _ (.inr (by simp)) nd7 gd7
        obtain ⟨y0, cy0, -, -⟩ := gk.cell (j := 2) (by omega)
        have fy0 := gk.frozen 2
        have gl := gk.lt
        go_wp2_with fail
        exact DP_mk (v := undef) (rv_set (R := isT) (by omega) hG (by simp) nd7 ad7 (sm_int.2 ⟨by omega, by omega⟩) trivial)
      refine wpK_nil (fun V W hG hD => ?_)
      obtain ⟨f33, f34, f35, f36, f37, f38, f39, f_7, -⟩ := hD
      simp only [actT, maskT, Nat.reduceAdd, if_true, if_false, Bool.false_eq_true]
      clear bud
      have bW := below_lx bW hG.le (fun b hb => by simp at hb; omega) hwg (by have := bW.size; omega)
      have hC : Cur W X ((0 + 4096 + 2) + 16 + 16) := hG.cur.le (show (0 + 4096 + 2) + 16 + 2 * ((8 : Nat) : Int) ≤ (0 + 4096 + 2) + 16 + 16 by omega)
      have hO := own_lx hO hG.le (fun b' e => ⟨by simp; first | exact ⟨hr7 b' e, hr3 b' e⟩ | exact ⟨hr3 b' e, hr7 b' e⟩ | exact hr7 b' e, own_ne hO hgo b' e⟩)
      have gd7 := hG.le.good d7 _ _ (.inr (by simp)) nd7 gd7
      have gd3 := gd3.of_eq (hG.le.keep d3 gd3.lt gd3.lt (by simp; omega) nd3)
      have hlt := hC.lt
      clear hG f33 f34 f35 f36 f37 f38 f39 f_7
      go_upto_region 8 with fail
      have bud : ∀ k : Nat, k < 4 → (0 + 4096 + 2) + 16 + 16 + 2 * (k : Int) ≤ 562949953421312 := fun k hk => by omega
      refine wp_region_inv (Le := Lx X.g [d7, d3] W.heap.size) (G := GG X [d7, d3] W ((0 + 4096 + 2) + 16 + 16) (2)) 48 [([], [true, true, false, true, true, true, true, true, true, true, true, true, true, true, true, true, true, true, true, true, true, true, true, true, true, true, true, true, true, true, true, true, true, true, true, true, true, true, true, true, true, false, true, true, true, true, true, true]), ([], [true, true, false, true, true, true, true, true, true, true, true, true, true, true, true, true, true, true, true, true, true, true, true, true, true, true, true, true, true, true, true, true, true, true, true, true, true, true, true, true, false, true, true, true, true, true, true, true]), ([0], [true, true, true, true, true, true, true, true, true, true, true, true, true, true, true, true, true, true, true, true, true, true, true, true, true, true, true, true, true, true, true, true, true, true, true, true, true, true, true, true, false, false, true, true, true, true, true, true]), ([1], [true, true, false, true, true, true, true, true, true, true, true, true, true, true, true, true, true, true, true, true, true, true, true, true, true, true, true, true, true, true, true, true, true, true, true, true, true, true, true, true, false, false, true, true, true, true, true, true])] [true, true, false, true, true, true, true, true, true, true, true, true, true, true, true, true, true, true, true, true, true, true, true, true, true, true, true, true, true, true, true, true, true, true, true, true, true, true, true, true, false, false, true, true, true, true, true, true] (by kernel_rfl) (by rfl) (by kernel_rfl) ⟨⟨rfl, rfl, rfl, Nat.le_refl _, fun _ _ _ _ _ => rfl, fun _ _ _ _ _ h => h⟩, hC.drew.le (by omega)⟩ ?_
      refine wpK_cons (isV ((Value.slice (some ⟨b, 0, none⟩) m c'))) (fun V w k hk hG hD => ?_) (st_V _) ?_
      · obtain ⟨-⟩ := hD
        simp only [actT, maskT, Nat.reduceAdd, if_true, if_false, Bool.false_eq_true]
        go_wp2_with fail
        exact DP_mk (rv_same (by omega) hG rfl)
      refine wpK_cons (isA 6) (fun V w k hk hG hD => ?_) (st_A _) ?_
      · obtain ⟨-⟩ := hD
        simp only [actT, maskT, Nat.reduceAdd, if_true, if_false, Bool.false_eq_true]
        have gk := hG.le.good d7 _ _ (.inr (by simp)) nd7 gd7
        obtain ⟨y0, cy0, l0, h0⟩ := gk.cell (j := 0) (by omega)
        obtain ⟨y1, cy1, l1, h1⟩ := gk.cell (j := 1) (by omega)
        obtain ⟨y2, cy2, l2, h2⟩ := gk.cell (j := 2) (by omega)
        obtain ⟨y3, cy3, l3, h3⟩ := gk.cell (j := 3) (by omega)
        obtain ⟨y4, cy4, l4, h4⟩ := gk.cell (j := 4) (by omega)
        obtain ⟨y5, cy5, l5, h5⟩ := gk.cell (j := 5) (by omega)
        have gl := gk.lt
        go_wp2_with fail
        exact DP_mk (rv_same (by omega) hG ⟨[y0, y1, y2, y3, y4, y5], rfl, rfl, by simp; omega⟩)
      refine wpK_cons (isV ((Value.slice (some ⟨b, 0, none⟩) m c'))) (fun V w k hk hG hD => ?_) (st_V _) ?_
      · obtain ⟨f40, -⟩ := hD
        simp only [actT, maskT, Nat.reduceAdd, if_true, if_false, Bool.false_eq_true]
        go_wp2_with fail
        exact DP_mk (rv_same (by omega) hG f40)
      refine wpK_cons (isT) (fun V w k hk hG hD => ?_) (st_T) ?_
      · obtain ⟨f41, -⟩ := hD
        simp only [actT, maskT, Nat.reduceAdd, if_true, if_false, Bool.false_eq_true]
        obtain ⟨zs41, ez41, lz41, hz41⟩ := f41
        obtain ⟨z41_0, z41_1, z41_2, z41_3, z41_4, z41_5, ew41⟩ := list6 lz41
        rw [ew41] at ez41 hz41
        simp only [ints, List.map_cons, List.map_nil] at ez41
        rw [ez41]
        have gR := hG.le.good d3 _ _ (.inr (by simp)) nd3 gd3
        obtain ⟨y0, c0, -, -⟩ := gR.cell (j := 0) (by omega)
        obtain ⟨y1, c1, -, -⟩ := gR.cell (j := 1) (by omega)
        obtain ⟨y2, c2, -, -⟩ := gR.cell (j := 2) (by omega)
        obtain ⟨y3, c3, -, -⟩ := gR.cell (j := 3) (by omega)
        obtain ⟨y4, c4, -, -⟩ := gR.cell (j := 4) (by omega)
        obtain ⟨y5, c5, -, -⟩ := gR.cell (j := 5) (by omega)
        have fz0 := gR.frozen 0
        have fz1 := gR.frozen 1
        have fz2 := gR.frozen 2
        have fz3 := gR.frozen 3
        have fz4 := gR.frozen 4
        have fz5 := gR.frozen 5
        have gl := gR.lt
        simp only [List.mem_cons, List.not_mem_nil, or_false, forall_eq_or_imp, forall_eq] at hz41
        obtain ⟨⟨v0, w0⟩, ⟨v1, w1⟩, ⟨v2, w2⟩, ⟨v3, w3⟩, ⟨v4, w4⟩, ⟨v5, w5⟩⟩ := hz41
        go_wp2_with fail
        exact DP_mk (v := undef) (rv_then ((((((Lx.refl _ _ _ _).trans (Lx.set _ (by simp) (sm_int.2 ⟨v0, w0⟩))).trans (Lx.set _ (by simp) (sm_int.2 ⟨v1, w1⟩))).trans (Lx.set _ (by simp) (sm_int.2 ⟨v2, w2⟩))).trans (Lx.set _ (by simp) (sm_int.2 ⟨v3, w3⟩))).trans (Lx.set _ (by simp) (sm_int.2 ⟨v4, w4⟩))) (rv_set (R := isT) (by omega) (gg_set (gg_set (gg_set (gg_set (gg_set hG (by simp) nd3 ad3 (sm_int.2 ⟨v0, w0⟩)) (by simp) nd3 ad3 (sm_int.2 ⟨v1, w1⟩)) (by simp) nd3 ad3 (sm_int.2 ⟨v2, w2⟩)) (by simp) nd3 ad3 (sm_int.2 ⟨v3, w3⟩)) (by simp) nd3 ad3 (sm_int.2 ⟨v4, w4⟩)) (by simp) nd3 ad3 (sm_int.2 ⟨v5, w5⟩) trivial))
      refine wpK_nil (fun V W hG hD => ?_)
      obtain ⟨f40, f41, f2, f_3, -⟩ := hD
      simp only [actT, maskT, Nat.reduceAdd, if_true, if_false, Bool.false_eq_true]
      clear bud
      have bW := below_lx bW hG.le (fun b hb => by simp at hb; omega) hwg (by have := bW.size; omega)
      have hC : Cur W X ((0 + 4096 + 2) + 16 + 16 + 8) := hG.cur.le (show (0 + 4096 + 2) + 16 + 16 + 2 * ((4 : Nat) : Int) ≤ (0 + 4096 + 2) + 16 + 16 + 8 by omega)
      have hO := own_lx hO hG.le (fun b' e => ⟨by simp; first | exact ⟨hr7 b' e, hr3 b' e⟩ | exact ⟨hr3 b' e, hr7 b' e⟩ | exact hr7 b' e, own_ne hO hgo b' e⟩)
      have gd7 := hG.le.good d7 _ _ (.inr (by simp)) nd7 gd7
      have gd3 := hG.le.good d3 _ _ (.inr (by simp)) nd3 gd3
      have hlt := hC.lt
      obtain ⟨yR0, cR0, lR0, hR0⟩ := gd3.cell (j := 0) (by omega)
      obtain ⟨yR1, cR1, lR1, hR1⟩ := gd3.cell (j := 1) (by omega)
      obtain ⟨yR2, cR2, lR2, hR2⟩ := gd3.cell (j := 2) (by omega)
      obtain ⟨yR3, cR3, lR3, hR3⟩ := gd3.cell (j := 3) (by omega)
      obtain ⟨yR4, cR4, lR4, hR4⟩ := gd3.cell (j := 4) (by omega)
      obtain ⟨yR5, cR5, lR5, hR5⟩ := gd3.cell (j := 5) (by omega)
      have fR0 := gd3.frozen 0
      have fR1 := gd3.frozen 1
      have fR2 := gd3.frozen 2
      have fR3 := gd3.frozen 3
      have fR4 := gd3.frozen 4
      have fR5 := gd3.frozen 5
      have bR := gd3.lt
      rw [show V 2 = (.slice (some ⟨b, 0, none⟩) m c') from f2]
      clear hG f2 f40 f41 f_3
      go_wp2
      (refine bodyPost_ret (by simp (maxDischargeDepth := 4) [results, Try.results5, go_sem, *]; try rfl) rfl ?_)
      exact ⟨b, m, c', zs, yR0, yR1, yR2, yR3, yR4, yR5, rfl, ⟨serD_of (w1 := W) hO hbo rfl HL.out hm hz, ⟨⟨lR0, hR0⟩, ⟨lR1, hR1⟩, ⟨lR2, hR2⟩, ⟨lR3, hR3⟩, ⟨lR4, hR4⟩, ⟨lR5, hR5⟩⟩⟩, bW⟩
  · have i1 : decide (0 < m) = false := decide_eq_false hm0
    have i2 : decide ((0 : Int) < (m : Int)) = false := decide_eq_false (by omega)
    have hl := HL.out
    go_wp2_with (first | (go_at_call 25; refine (among_ty X _ _ (hC.alloc _) (by omega) (Good.lit' rfl (by simp) (by simp [sm_int])) (by omega) (by omega) (by omega) (by omega)).mono ?_; rintro e w' ⟨v, rfl, hg, hC, x, rfl, x0, x1⟩;  have hlt := hC.lt; have hO := own_grown (own_alloc hO _) hg hgo; have gd3 := good_gr (gd3.alloc _) nd3 hg; have bW := below_gr (balloc bW _) hg hwg) | (go_at_call 26; refine (situation_ats X _ _ _ (by omega) hC (by omega) ⟨x0, x1⟩).mono ?_; rintro e w' ⟨q0, q1, q2, q3, q4, q5, rfl, hg, hC, hx⟩; have hlt := hC.lt; have hO := own_grown hO hg hgo; have gd3 := good_gr gd3 nd3 hg; have bW := below_gr bW hg hwg; obtain ⟨yR0, cR0, lR0, hR0⟩ := gd3.cell (j := 0) (by omega); obtain ⟨yR1, cR1, lR1, hR1⟩ := gd3.cell (j := 1) (by omega); obtain ⟨yR2, cR2, lR2, hR2⟩ := gd3.cell (j := 2) (by omega); obtain ⟨yR3, cR3, lR3, hR3⟩ := gd3.cell (j := 3) (by omega); obtain ⟨yR4, cR4, lR4, hR4⟩ := gd3.cell (j := 4) (by omega); obtain ⟨yR5, cR5, lR5, hR5⟩ := gd3.cell (j := 5) (by omega); have fR0 := gd3.frozen 0; have fR1 := gd3.frozen 1; have fR2 := gd3.frozen 2; have fR3 := gd3.frozen 3; have fR4 := gd3.frozen 4; have fR5 := gd3.frozen 5; have bR := gd3.lt))
    obtain ⟨hx0, hx1, hx2, hx3, hx4, hx5⟩ := id hx
    dsimp only at hx0 hx1 hx2 hx3 hx4 hx5
    refine bp_gen (fun W => Below w.heap.size w W ∧ Good W d3 26 6 ∧ W.ownsRow bo 26 6 (.slice (some ⟨b, 0, none⟩) m c') m (sitF zs)) ⟨(bset (bset (bset (bset (bset (bset bW (p := ⟨d3, 0, none⟩) (by simp only; omega) _) (p := ⟨d3, 1, none⟩) (by simp only; omega) _) (p := ⟨d3, 2, none⟩) (by simp only; omega) _) (p := ⟨d3, 3, none⟩) (by simp only; omega) _) (p := ⟨d3, 4, none⟩) (by simp only; omega) _) (p := ⟨d3, 5, none⟩) (by simp only; omega) _), (Good.set (Good.set (Good.set (Good.set (Good.set (Good.set gd3 ⟨q0, rfl, hx0.1, hx0.2⟩) ⟨q1, rfl, hx1.1, hx1.2⟩) ⟨q2, rfl, hx2.1, hx2.2⟩) ⟨q3, rfl, hx3.1, hx3.2⟩) ⟨q4, rfl, hx4.1, hx4.2⟩) ⟨q5, rfl, hx5.1, hx5.2⟩), (own_far (own_far (own_far (own_far (own_far (own_far hO hr3) hr3) hr3) hr3) hr3) hr3)⟩ ?_
    clear gd3 hO bW hC hg cR0 fR0 cR1 fR1 cR2 fR2 cR3 fR3 cR4 fR4 cR5 fR5 bR
    intro W ⟨bW, gd3, hO⟩
    obtain ⟨yR0, cR0, lR0, hR0⟩ := gd3.cell (j := 0) (by omega)
    obtain ⟨yR1, cR1, lR1, hR1⟩ := gd3.cell (j := 1) (by omega)
    obtain ⟨yR2, cR2, lR2, hR2⟩ := gd3.cell (j := 2) (by omega)
    obtain ⟨yR3, cR3, lR3, hR3⟩ := gd3.cell (j := 3) (by omega)
    obtain ⟨yR4, cR4, lR4, hR4⟩ := gd3.cell (j := 4) (by omega)
    obtain ⟨yR5, cR5, lR5, hR5⟩ := gd3.cell (j := 5) (by omega)
    have fR0 := gd3.frozen 0
    have fR1 := gd3.frozen 1
    have fR2 := gd3.frozen 2
    have fR3 := gd3.frozen 3
    have fR4 := gd3.frozen 4
    have fR5 := gd3.frozen 5
    have bR := gd3.lt
    (refine bodyPost_ret (by simp (maxDischargeDepth := 4) [results, Try.results5, go_sem, *]; try rfl) rfl ?_)
    exact ⟨b, m, c', zs, yR0, yR1, yR2, yR3, yR4, yR5, rfl, ⟨serD_of (w1 := W) hO hbo rfl hl hm hz, ⟨⟨lR0, hR0⟩, ⟨lR1, hR1⟩, ⟨lR2, hR2⟩, ⟨lR3, hR3⟩, ⟨lR4, hR4⟩, ⟨lR5, hR5⟩⟩⟩, bW⟩
theorem DrawCorrectReport_any (A : Option Addr) (n c : Nat) (cs : List Value) (w : World) (hc : Code w A n cs) :
    Calls Try.prog 13 #[.slice A n c] w fun e w' => ∃ b m c' zs a0 a1 a2 a3 a4 a5, e = .returned (.tuple #[.slice (some ⟨b, 0, none⟩) m c', .agg #[.int .i64 a0, .int .i64 a1, .int .i64 a2, .int .i64 a3, .int .i64 a4, .int .i64 a5]]) ∧ (SerD w w' b m zs ∧ sitI (a0, a1, a2, a3, a4, a5)) ∧ Below w.heap.size w w' := by
  go_enter Try.func13, Try.ntmps13
  go_upto_region 2 with fail
  obtain ⟨X, hX⟩ : ∃ X : DX, X = ⟨w.heap.size + 1, A, n, c, cs, w.heap.size + 1 + 1⟩ := ⟨_, rfl⟩
  obtain ⟨d3, hd3⟩ : ∃ d, d = w.heap.size := ⟨_, rfl⟩
  refine wp_genC (fun W => Below w.heap.size w W ∧ Cur W X 0 ∧ Good W d3 26 6) ⟨by (repeat' (first | (with_reducible exact Below.refl _ _) | (with_reducible assumption) | (with_reducible refine balloc ?_ _) | (with_reducible refine bdrew ?_) | (with_reducible refine bdrewN ?_ _) | (with_reducible refine bstep ?_ (by assumption)) | (with_reducible refine bset ?_ ?_ _) | (exact Below.size (by assumption)) | go_size)), by rw [hX]; exact Cur.made hc (by (repeat' (first | (with_reducible exact Below.refl _ _) | (with_reducible assumption) | (with_reducible refine balloc ?_ _) | (with_reducible refine bdrew ?_) | (with_reducible refine bdrewN ?_ _) | (with_reducible refine bstep ?_ (by assumption)) | (with_reducible refine bset ?_ ?_ _) | (exact Below.size (by assumption)) | go_size))) (by simp), (Good.lit' hd3.symm (by simp) (by simp [sm_int])).alloc _⟩ ?_
  have eg : X.g = w.heap.size + 1 := by rw [hX]
  have hA3 : 0 < X.n → ∀ a, X.A = some a → a.block < w.heap.size := by rw [hX]; exact hc.lt
  have xg : w.heap.size + 1 ≤ X.g := by omega
  have xb : X.base ≤ X.g + 1 := by rw [hX]; exact Nat.le_refl _
  have xb2 : X.g < X.base := by rw [hX]; exact Nat.lt_succ_self _
  have nd3 : d3 ≠ X.g := by omega
  have hw3 : w.heap.size ≤ d3 := by omega
  have ad3 : 0 < X.n → ∀ a, X.A = some a → a.block ≠ d3 := fun h0 a ha => by have := hA3 h0 a ha; omega
  have d3g : d3 < X.g := by omega
  have hwg : w.heap.size ≤ X.g := by omega
  intro W ⟨bW, hC, gd3⟩
  rw [show w.heap.size + 1 = X.g from eg.symm, show w.heap.size = d3 from hd3.symm]
  clear hd3 eg hX
  have hlt := hC.lt
  obtain ⟨bo, hbo', hbo, hgo⟩ : ∃ bo, bo ≤ W.heap.size ∧ w.heap.size ≤ bo ∧ X.g < bo := ⟨W.heap.size, Nat.le_refl _, by omega, by omega⟩
  go_upto_region 3 with (go_at_call 23; refine (series18_ats X _ _ (by omega) hC (by omega)).mono ?_; rintro e w' ⟨b, m, c', zs, rfl, hg, hC, hO, hl, hm, hz⟩; have hO := own_weaken (base' := bo) hO hbo'; have bW := below_gr bW hg hwg; have gd3 := good_gr gd3 nd3 hg; have hlt := hC.lt)
  clear hbo'
  have hr3 : ∀ b', (Value.slice (some ⟨b, 0, none⟩) m c').ownBlock = some b' → b' ≠ d3 := fun b' e => by have := (own_blk hO).2; cases e; simp only; omega
  have HL := Lib.hid hl
  clear hl
  by_cases hm0 : 0 < m
  · have i1 : decide (0 < m) = true := decide_eq_true hm0
    have i2 : decide ((0 : Int) < (m : Int)) = true := decide_eq_true (by omega)
    go_upto_if 19 with (first | (go_at_call 24; refine (one_ty X _ _ _ hC (by omega) (by omega)).mono ?_; rintro e w' ⟨v, rfl, hg, hC, yes, rfl⟩; have hlt := hC.lt; have hO := own_grown hO hg hgo; have gd3 := good_gr gd3 nd3 hg; have bW := below_gr bW hg hwg))
    rcases yes with _ | _
    · go_upto_region 5 with (first | (go_at_call 35; refine (pick_ty X _ (m : Int) ((m : Int) - 1) _ hC (by omega) (by omega) (by omega) (by omega)).mono ?_; rintro e w' ⟨v, rfl, hg, hC, x, rfl, x0, x1⟩; obtain ⟨k, rfl⟩ : ∃ k : Nat, x = (k : Int) := ⟨x.toNat, by omega⟩; have hkm : k < m := (by omega); have i7 : (k : Int) < (m : Int) := (by omega); have hlt := hC.lt; have hO := own_grown hO hg hgo; have gd3 := good_gr gd3 nd3 hg; have bW := below_gr bW hg hwg; have hl := HL.out; obtain ⟨⟨p0, p1, p2, p3, p4, p5⟩, hp⟩ : ∃ z, zs[k]'(by omega) = z := ⟨_, rfl⟩; have hx : sitI (p0, p1, p2, p3, p4, p5) := hz _ (by rw [← hp]; exact List.getElem_mem _); obtain ⟨hx0, hx1, hx2, hx3, hx4, hx5⟩ := id hx; dsimp only at hx0 hx1 hx2 hx3 hx4 hx5; unfold I64 at hx0 hx1 hx2 hx3 hx4 hx5; obtain ⟨b', off', eb, hbl, v0, v1, v2, v3, v4, v5, hv, k0, k1, k2, k3, k4, k5⟩ := sit_at (own_r hO) (Below.refl _ _) hl (show k < m by omega); cases eb; rw [hp] at hv; cases hv; clear hp hl; simp only [Nat.zero_add] at k0 k1 k2 k3 k4 k5))
      obtain ⟨d7, ed7⟩ : ∃ d, w'.heap.size = d := ⟨_, rfl⟩
      rw [ed7]
      have sd7 : X.g < d7 := by have := hC.lt; omega
      have sd72 : bo ≤ d7 := by have := (hO.lt b rfl); have := (own_blk hO).2; omega
      have nd7 : d7 ≠ X.g := by omega
      have ad7 : 0 < X.n → ∀ a, X.A = some a → a.block ≠ d7 := fun h0 a ha => by have := hA3 h0 a ha; omega
      have hr7 : ∀ b', (Value.slice (some ⟨b, 0, none⟩) m c').ownBlock = some b' → b' ≠ d7 := fun b' e => by have := (hO.lt b' e).2; omega
      refine wp_genC (fun W => Below w.heap.size w W ∧ Cur W X _ ∧ Good W d3 26 6 ∧ Good W d7 26 6 ∧ W.ownsRow bo 26 6 (.slice (some ⟨b, 0, none⟩) m c') m (sitF zs)) ⟨balloc bW _, hC.alloc _, gd3.alloc _, Good.lit' ed7 (by simp) (by simp [sm_int]; omega), own_alloc hO _⟩ ?_
      clear bW hC gd3 hO hg ed7 k0 k1 k2 k3 k4 k5
      intro W ⟨bW, hC, gd3, gd7, hO⟩
      have hlt := hC.lt
      have bud : ∀ k : Nat, k < 9 → (0 + 4096 + 2 + 2) + 2 * (k : Int) ≤ 562949953421312 := fun k hk => by omega
      refine wp_region_inv (Le := Lx X.g [d7] W.heap.size) (G := GG X [d7] W ((0 + 4096 + 2 + 2)) (2)) 47 [([], [true, true, true, true, true, true, true, true, true, true, true, true, true, true, true, true, true, true, true, true, true, true, true, true, true, true, true, true, false, false, false, false, false, false, false, true, true, true, true, true, true, true, true, true, true, true, true]), ([0], [true, true, true, true, true, true, true, true, true, true, true, true, true, true, true, true, true, true, true, true, true, true, true, true, true, true, true, false, true, false, false, false, false, false, false, true, true, true, true, true, true, true, true, true, true, true, true]), ([], [true, true, true, true, true, true, true, true, true, true, true, true, true, true, true, true, true, true, true, true, true, true, true, true, true, true, true, false, false, true, false, false, false, false, false, true, true, true, true, true, true, true, true, true, true, true, true]), ([], [true, true, true, true, true, true, true, true, true, true, true, true, true, true, true, true, true, true, true, true, true, true, true, true, true, true, true, false, false, false, true, false, false, false, false, true, true, true, true, true, true, true, true, true, true, true, true]), ([2, 3], [true, true, true, true, true, true, true, true, true, true, true, true, true, true, true, true, true, true, true, true, true, true, true, true, true, true, true, false, false, false, false, true, false, false, false, true, true, true, true, true, true, true, true, true, true, true, true]), ([1, 4], [true, true, true, true, true, true, true, true, true, true, true, true, true, true, true, true, true, true, true, true, true, true, true, true, true, true, true, false, false, false, false, false, true, false, false, true, true, true, true, true, true, true, true, true, true, true, true]), ([5], [true, true, true, true, true, true, true, true, true, true, true, true, true, true, true, true, true, true, true, true, true, true, true, true, true, true, true, false, false, false, false, false, false, true, false, true, true, true, true, true, true, true, true, true, true, true, true]), ([], [true, true, true, true, true, true, true, true, true, true, true, true, true, true, true, true, true, true, true, true, true, true, true, true, true, true, true, false, false, false, false, false, false, false, true, true, true, true, true, true, true, true, true, true, true, true, true]), ([7, 6], [true, true, true, true, true, true, true, true, true, true, true, true, true, true, true, true, true, true, true, true, true, true, true, true, true, true, true, false, false, false, false, false, false, false, false, true, true, true, true, true, true, true, true, true, true, true, true])] [true, true, true, true, true, true, true, true, true, true, true, true, true, true, true, true, true, true, true, true, true, true, true, true, true, true, true, false, false, false, false, false, false, false, false, true, true, true, true, true, true, true, true, true, true, true, true] (by kernel_rfl) (by rfl) (by kernel_rfl) ⟨⟨rfl, rfl, rfl, Nat.le_refl _, fun _ _ _ _ _ => rfl, fun _ _ _ _ _ h => h⟩, hC.drew.le (by omega)⟩ ?_
      refine wpK_cons (isV (Value.pointer (some ⟨d7, 2, none⟩))) (fun V w k hk hG hD => ?_) (st_V _) ?_
      · obtain ⟨-⟩ := hD
        simp only [actT, maskT, Nat.reduceAdd, if_true, if_false, Bool.false_eq_true]
        go_wp2_with fail
        exact DP_mk (rv_same (by omega) hG rfl)
      refine wpK_cons (isI (-9223372036854775808) 9223372036854775807) (fun V w k hk hG hD => ?_) (st_I _ _) ?_
      · obtain ⟨f27, -⟩ := hD
        simp only [actT, maskT, Nat.reduceAdd, if_true, if_false, Bool.false_eq_true]
        rw [show V 27 = Value.pointer (some ⟨d7, 2, none⟩) from f27]
        have gk := hG.le.good d7 _ _ (.inr (by simp)) nd7 gd7
        obtain ⟨y0, cy0, l0, h0⟩ := gk.cell (j := 2) (by omega)
        have gl := gk.lt
        go_wp2_with fail
        exact DP_mk (rv_same (by omega) hG ⟨_, rfl, l0, h0⟩)
      refine wpK_cons (isV ((Value.pointer (some ⟨X.g, 0, none⟩)))) (fun V w k hk hG hD => ?_) (st_V _) ?_
      · obtain ⟨-⟩ := hD
        simp only [actT, maskT, Nat.reduceAdd, if_true, if_false, Bool.false_eq_true]
        go_wp2_with fail
        exact DP_mk (rv_same (by omega) hG rfl)
      refine wpK_cons (isS X.g W.heap.size 4 4) (fun V w k hk hG hD => ?_) (st_S _ _) ?_
      · obtain ⟨-⟩ := hD
        simp only [actT, maskT, Nat.reduceAdd, if_true, if_false, Bool.false_eq_true]
        go_wp2_with fail
        exact DP_mk (rv_alloc (by omega) hG ⟨_, _, rfl, by omega, by omega, hG.le.size, by have := hG.cur.lt; omega, Good.lit' rfl (by simp) (by simp [sm_int])⟩)
      refine wpK_cons (isI (-9223372036854775808) 9223372036854775807) (fun V w k hk hG hD => ?_) (st_I _ _) ?_
      · obtain ⟨f29, f30, -⟩ := hD
        simp only [actT, maskT, Nat.reduceAdd, if_true, if_false, Bool.false_eq_true]
        rw [show V 29 = (Value.pointer (some ⟨X.g, 0, none⟩)) from f29]
        obtain ⟨b30, n30, e30, p30, q30, r30, s30, hS30⟩ := f30
        rw [e30]
        go_wp2_with (go_at_call 25; refine (among_ty _ _ _ hG.cur (by have := bud k hk; omega) hS30 (by omega) (by omega) (by omega) (by omega)).mono ?_; rintro e w' ⟨v, rfl, hg, hC, hd⟩)
        exact DP_mk (rv_call (by omega) hG hg hC hd)
      refine wpK_cons (isI (-9223372036854775808) 9223372036854775807) (fun V w k hk hG hD => ?_) (st_I _ _) ?_
      · obtain ⟨f28, f31, -⟩ := hD
        simp only [actT, maskT, Nat.reduceAdd, if_true, if_false, Bool.false_eq_true]
        obtain ⟨x28, e28, p28, q28⟩ := f28
        rw [e28]
        obtain ⟨x31, e31, p31, q31⟩ := f31
        rw [e31]
        go_wp2_with fail
        exact DP_mk (rv_same (by omega) hG ⟨_, rfl, by first | exact (wrap64_bd _).1 | omega, by first | exact (wrap64_bd _).2 | omega⟩)
      refine wpK_cons (isI (-9223372036854775808) 9223372036854775807) (fun V w k hk hG hD => ?_) (st_I _ _) ?_
      · obtain ⟨f32, -⟩ := hD
        simp only [actT, maskT, Nat.reduceAdd, if_true, if_false, Bool.false_eq_true]
        obtain ⟨x32, e32, p32, q32⟩ := f32
        rw [e32]
        go_wp2_with (go_at_call 36; refine (l1Most_any _ _ _).mono ?_; rintro e w' ⟨rfl, rfl⟩)
        exact DP_mk (rv_same (by omega) hG ⟨_, rfl, by omega, by omega⟩)
      refine wpK_cons (isV (Value.pointer (some ⟨d7, 2, none⟩))) (fun V w k hk hG hD => ?_) (st_V _) ?_
      · obtain ⟨-⟩ := hD
        simp only [actT, maskT, Nat.reduceAdd, if_true, if_false, Bool.false_eq_true]
        go_wp2_with fail
        exact DP_mk (rv_same (by omega) hG rfl)
      refine wpK_cons (isT) (fun V w k hk hG hD => ?_) (st_T) ?_
      · obtain ⟨f34, f33, -⟩ := hD
        simp only [actT, maskT, Nat.reduceAdd, if_true, if_false, Bool.false_eq_true]
        rw [show V 34 = Value.pointer (some ⟨d7, 2, none⟩) from f34]
        obtain ⟨x33, e33, p33, q33⟩ := f33
        rw [e33]
        have gk := hG.le.good d7 _ _ (.inr (by simp)) nd7 gd7
        obtain ⟨y0, cy0, -, -⟩ := gk.cell (j := 2) (by omega)
        have fy0 := gk.frozen 2
        have gl := gk.lt
        go_wp2_with fail
        exact DP_mk (v := undef) (rv_set (R := isT) (by omega) hG (by simp) nd7 ad7 (sm_int.2 ⟨by omega, by omega⟩) trivial)
      refine wpK_nil (fun V W hG hD => ?_)
      obtain ⟨f27, f28, f29, f30, f31, f32, f33, f34, f_8, -⟩ := hD
      simp only [actT, maskT, Nat.reduceAdd, if_true, if_false, Bool.false_eq_true]
      clear bud
      have bW := below_lx bW hG.le (fun b hb => by simp at hb; omega) hwg (by have := bW.size; omega)
      have hC : Cur W X ((0 + 4096 + 2 + 2) + 18) := hG.cur.le (show (0 + 4096 + 2 + 2) + 2 * ((9 : Nat) : Int) ≤ (0 + 4096 + 2 + 2) + 18 by omega)
      have hO := own_lx hO hG.le (fun b' e => ⟨by simp; first | exact ⟨hr7 b' e, hr3 b' e⟩ | exact ⟨hr3 b' e, hr7 b' e⟩ | exact hr7 b' e, own_ne hO hgo b' e⟩)
      have gd7 := hG.le.good d7 _ _ (.inr (by simp)) nd7 gd7
      have gd3 := gd3.of_eq (hG.le.keep d3 gd3.lt gd3.lt (by simp; omega) nd3)
      have hlt := hC.lt
      clear hG f27 f28 f29 f30 f31 f32 f33 f34 f_8
      obtain ⟨y4, c4, l4, h4⟩ := gd7.cell (j := 4) (by omega)
      have f4 := gd7.frozen 4
      go_upto_region 6 with fail
      go_upto_region 7 with (first | (go_at_call 25; refine (among_ty X _ _ (hC.alloc _) (by omega) (Good.lit' rfl (by simp) (by simp [sm_int])) (by omega) (by omega) (by omega) (by omega)).mono ?_; rintro e w' ⟨v, rfl, hg, hC, x, rfl, x0, x1⟩; have gd7 := good_gr (gd7.alloc _) nd7 hg; obtain ⟨y4, c4, l4, h4⟩ := gd7.cell (j := 4) (by omega); have f4 := gd7.frozen 4; have b7 := gd7.lt; have hlt := hC.lt; have hO := own_grown (own_alloc hO _) hg hgo; have gd3 := good_gr (gd3.alloc _) nd3 hg; have bW := below_gr (balloc bW _) hg hwg))
      refine wp_genC (fun W => Below w.heap.size w W ∧ Cur W X ((0 + 4096 + 2 + 2) + 18 + 2) ∧ Good W d3 26 6 ∧ Good W d7 26 6 ∧ W.ownsRow bo 26 6 (.slice (some ⟨b, 0, none⟩) m c') m (sitF zs)) ⟨bset bW (p := ⟨d7, 4, none⟩) (by simp only; omega) _, hC.set (by omega) nd7 ⟨x, rfl, x0, x1⟩, gd3.set ⟨x, rfl, x0, x1⟩, gd7.set ⟨x, rfl, x0, x1⟩, own_far hO hr7⟩ ?_
      clear bW hC gd3 gd7 hO hg c4 f4 b7
      intro W ⟨bW, hC, gd3, gd7, hO⟩
      have hlt := hC.lt
      have bud : ∀ k : Nat, k < 4 → (0 + 4096 + 2 + 2) + 18 + 2 + 2 * (k : Int) ≤ 562949953421312 := fun k hk => by omega
      refine wp_region_inv (Le := Lx X.g [d7, d3] W.heap.size) (G := GG X [d7, d3] W ((0 + 4096 + 2 + 2) + 18 + 2) (2)) 47 [([], [true, true, false, true, true, true, true, true, true, true, true, true, true, true, true, true, true, true, true, true, true, true, true, true, true, true, true, true, true, true, true, true, true, true, true, true, true, true, true, true, false, true, true, true, true, true, true]), ([], [true, true, false, true, true, true, true, true, true, true, true, true, true, true, true, true, true, true, true, true, true, true, true, true, true, true, true, true, true, true, true, true, true, true, true, true, true, true, true, false, true, true, true, true, true, true, true]), ([0], [true, true, true, true, true, true, true, true, true, true, true, true, true, true, true, true, true, true, true, true, true, true, true, true, true, true, true, true, true, true, true, true, true, true, true, true, true, true, true, false, false, true, true, true, true, true, true]), ([1], [true, true, false, true, true, true, true, true, true, true, true, true, true, true, true, true, true, true, true, true, true, true, true, true, true, true, true, true, true, true, true, true, true, true, true, true, true, true, true, false, false, true, true, true, true, true, true])] [true, true, false, true, true, true, true, true, true, true, true, true, true, true, true, true, true, true, true, true, true, true, true, true, true, true, true, true, true, true, true, true, true, true, true, true, true, true, true, false, false, true, true, true, true, true, true] (by kernel_rfl) (by rfl) (by kernel_rfl) ⟨⟨rfl, rfl, rfl, Nat.le_refl _, fun _ _ _ _ _ => rfl, fun _ _ _ _ _ h => h⟩, hC.drew.le (by omega)⟩ ?_
      refine wpK_cons (isV ((Value.slice (some ⟨b, 0, none⟩) m c'))) (fun V w k hk hG hD => ?_) (st_V _) ?_
      · obtain ⟨-⟩ := hD
        simp only [actT, maskT, Nat.reduceAdd, if_true, if_false, Bool.false_eq_true]
        go_wp2_with fail
        exact DP_mk (rv_same (by omega) hG rfl)
      refine wpK_cons (isA 6) (fun V w k hk hG hD => ?_) (st_A _) ?_
      · obtain ⟨-⟩ := hD
        simp only [actT, maskT, Nat.reduceAdd, if_true, if_false, Bool.false_eq_true]
        have gk := hG.le.good d7 _ _ (.inr (by simp)) nd7 gd7
        obtain ⟨y0, cy0, l0, h0⟩ := gk.cell (j := 0) (by omega)
        obtain ⟨y1, cy1, l1, h1⟩ := gk.cell (j := 1) (by omega)
        obtain ⟨y2, cy2, l2, h2⟩ := gk.cell (j := 2) (by omega)
        obtain ⟨y3, cy3, l3, h3⟩ := gk.cell (j := 3) (by omega)
        obtain ⟨y4, cy4, l4, h4⟩ := gk.cell (j := 4) (by omega)
        obtain ⟨y5, cy5, l5, h5⟩ := gk.cell (j := 5) (by omega)
        have gl := gk.lt
        go_wp2_with fail
        exact DP_mk (rv_same (by omega) hG ⟨[y0, y1, y2, y3, y4, y5], rfl, rfl, by simp; omega⟩)
      refine wpK_cons (isV ((Value.slice (some ⟨b, 0, none⟩) m c'))) (fun V w k hk hG hD => ?_) (st_V _) ?_
      · obtain ⟨f39, -⟩ := hD
        simp only [actT, maskT, Nat.reduceAdd, if_true, if_false, Bool.false_eq_true]
        go_wp2_with fail
        exact DP_mk (rv_same (by omega) hG f39)
      refine wpK_cons (isT) (fun V w k hk hG hD => ?_) (st_T) ?_
      · obtain ⟨f40, -⟩ := hD
        simp only [actT, maskT, Nat.reduceAdd, if_true, if_false, Bool.false_eq_true]
        obtain ⟨zs40, ez40, lz40, hz40⟩ := f40
        obtain ⟨z40_0, z40_1, z40_2, z40_3, z40_4, z40_5, ew40⟩ := list6 lz40
        rw [ew40] at ez40 hz40
        simp only [ints, List.map_cons, List.map_nil] at ez40
        rw [ez40]
        have gR := hG.le.good d3 _ _ (.inr (by simp)) nd3 gd3
        obtain ⟨y0, c0, -, -⟩ := gR.cell (j := 0) (by omega)
        obtain ⟨y1, c1, -, -⟩ := gR.cell (j := 1) (by omega)
        obtain ⟨y2, c2, -, -⟩ := gR.cell (j := 2) (by omega)
        obtain ⟨y3, c3, -, -⟩ := gR.cell (j := 3) (by omega)
        obtain ⟨y4, c4, -, -⟩ := gR.cell (j := 4) (by omega)
        obtain ⟨y5, c5, -, -⟩ := gR.cell (j := 5) (by omega)
        have fz0 := gR.frozen 0
        have fz1 := gR.frozen 1
        have fz2 := gR.frozen 2
        have fz3 := gR.frozen 3
        have fz4 := gR.frozen 4
        have fz5 := gR.frozen 5
        have gl := gR.lt
        simp only [List.mem_cons, List.not_mem_nil, or_false, forall_eq_or_imp, forall_eq] at hz40
        obtain ⟨⟨v0, w0⟩, ⟨v1, w1⟩, ⟨v2, w2⟩, ⟨v3, w3⟩, ⟨v4, w4⟩, ⟨v5, w5⟩⟩ := hz40
        go_wp2_with fail
        exact DP_mk (v := undef) (rv_then ((((((Lx.refl _ _ _ _).trans (Lx.set _ (by simp) (sm_int.2 ⟨v0, w0⟩))).trans (Lx.set _ (by simp) (sm_int.2 ⟨v1, w1⟩))).trans (Lx.set _ (by simp) (sm_int.2 ⟨v2, w2⟩))).trans (Lx.set _ (by simp) (sm_int.2 ⟨v3, w3⟩))).trans (Lx.set _ (by simp) (sm_int.2 ⟨v4, w4⟩))) (rv_set (R := isT) (by omega) (gg_set (gg_set (gg_set (gg_set (gg_set hG (by simp) nd3 ad3 (sm_int.2 ⟨v0, w0⟩)) (by simp) nd3 ad3 (sm_int.2 ⟨v1, w1⟩)) (by simp) nd3 ad3 (sm_int.2 ⟨v2, w2⟩)) (by simp) nd3 ad3 (sm_int.2 ⟨v3, w3⟩)) (by simp) nd3 ad3 (sm_int.2 ⟨v4, w4⟩)) (by simp) nd3 ad3 (sm_int.2 ⟨v5, w5⟩) trivial))
      refine wpK_nil (fun V W hG hD => ?_)
      obtain ⟨f39, f40, f2, f_3, -⟩ := hD
      simp only [actT, maskT, Nat.reduceAdd, if_true, if_false, Bool.false_eq_true]
      clear bud
      have bW := below_lx bW hG.le (fun b hb => by simp at hb; omega) hwg (by have := bW.size; omega)
      have hC : Cur W X ((0 + 4096 + 2 + 2) + 18 + 2 + 8) := hG.cur.le (show (0 + 4096 + 2 + 2) + 18 + 2 + 2 * ((4 : Nat) : Int) ≤ (0 + 4096 + 2 + 2) + 18 + 2 + 8 by omega)
      have hO := own_lx hO hG.le (fun b' e => ⟨by simp; first | exact ⟨hr7 b' e, hr3 b' e⟩ | exact ⟨hr3 b' e, hr7 b' e⟩ | exact hr7 b' e, own_ne hO hgo b' e⟩)
      have gd7 := hG.le.good d7 _ _ (.inr (by simp)) nd7 gd7
      have gd3 := hG.le.good d3 _ _ (.inr (by simp)) nd3 gd3
      have hlt := hC.lt
      obtain ⟨yR0, cR0, lR0, hR0⟩ := gd3.cell (j := 0) (by omega)
      obtain ⟨yR1, cR1, lR1, hR1⟩ := gd3.cell (j := 1) (by omega)
      obtain ⟨yR2, cR2, lR2, hR2⟩ := gd3.cell (j := 2) (by omega)
      obtain ⟨yR3, cR3, lR3, hR3⟩ := gd3.cell (j := 3) (by omega)
      obtain ⟨yR4, cR4, lR4, hR4⟩ := gd3.cell (j := 4) (by omega)
      obtain ⟨yR5, cR5, lR5, hR5⟩ := gd3.cell (j := 5) (by omega)
      have fR0 := gd3.frozen 0
      have fR1 := gd3.frozen 1
      have fR2 := gd3.frozen 2
      have fR3 := gd3.frozen 3
      have fR4 := gd3.frozen 4
      have fR5 := gd3.frozen 5
      have bR := gd3.lt
      rw [show V 2 = (.slice (some ⟨b, 0, none⟩) m c') from f2]
      clear hG f2 f39 f40 f_3
      go_wp2
      (refine bodyPost_ret (by simp (maxDischargeDepth := 4) [results, Try.results13, go_sem, *]; try rfl) rfl ?_)
      exact ⟨b, m, c', zs, yR0, yR1, yR2, yR3, yR4, yR5, rfl, ⟨serD_of (w1 := W) hO hbo rfl HL.out hm hz, ⟨⟨lR0, hR0⟩, ⟨lR1, hR1⟩, ⟨lR2, hR2⟩, ⟨lR3, hR3⟩, ⟨lR4, hR4⟩, ⟨lR5, hR5⟩⟩⟩, bW⟩
    · have hl := HL.out
      go_wp2_with (first | (go_at_call 25; refine (among_ty X _ _ (hC.alloc _) (by omega) (Good.lit' rfl (by simp) (by simp [sm_int])) (by omega) (by omega) (by omega) (by omega)).mono ?_; rintro e w' ⟨v, rfl, hg, hC, x, rfl, x0, x1⟩;  have hlt := hC.lt; have hO := own_grown (own_alloc hO _) hg hgo; have gd3 := good_gr (gd3.alloc _) nd3 hg; have bW := below_gr (balloc bW _) hg hwg) | (go_at_call 26; refine (situation_ats X _ _ _ (by omega) hC (by omega) ⟨x0, x1⟩).mono ?_; rintro e w' ⟨q0, q1, q2, q3, q4, q5, rfl, hg, hC, hx⟩; have hlt := hC.lt; have hO := own_grown hO hg hgo; have gd3 := good_gr gd3 nd3 hg; have bW := below_gr bW hg hwg; obtain ⟨yR0, cR0, lR0, hR0⟩ := gd3.cell (j := 0) (by omega); obtain ⟨yR1, cR1, lR1, hR1⟩ := gd3.cell (j := 1) (by omega); obtain ⟨yR2, cR2, lR2, hR2⟩ := gd3.cell (j := 2) (by omega); obtain ⟨yR3, cR3, lR3, hR3⟩ := gd3.cell (j := 3) (by omega); obtain ⟨yR4, cR4, lR4, hR4⟩ := gd3.cell (j := 4) (by omega); obtain ⟨yR5, cR5, lR5, hR5⟩ := gd3.cell (j := 5) (by omega); have fR0 := gd3.frozen 0; have fR1 := gd3.frozen 1; have fR2 := gd3.frozen 2; have fR3 := gd3.frozen 3; have fR4 := gd3.frozen 4; have fR5 := gd3.frozen 5; have bR := gd3.lt))
      obtain ⟨hx0, hx1, hx2, hx3, hx4, hx5⟩ := id hx
      dsimp only at hx0 hx1 hx2 hx3 hx4 hx5
      refine bp_gen (fun W => Below w.heap.size w W ∧ Good W d3 26 6 ∧ W.ownsRow bo 26 6 (.slice (some ⟨b, 0, none⟩) m c') m (sitF zs)) ⟨(bset (bset (bset (bset (bset (bset bW (p := ⟨d3, 0, none⟩) (by simp only; omega) _) (p := ⟨d3, 1, none⟩) (by simp only; omega) _) (p := ⟨d3, 2, none⟩) (by simp only; omega) _) (p := ⟨d3, 3, none⟩) (by simp only; omega) _) (p := ⟨d3, 4, none⟩) (by simp only; omega) _) (p := ⟨d3, 5, none⟩) (by simp only; omega) _), (Good.set (Good.set (Good.set (Good.set (Good.set (Good.set gd3 ⟨q0, rfl, hx0.1, hx0.2⟩) ⟨q1, rfl, hx1.1, hx1.2⟩) ⟨q2, rfl, hx2.1, hx2.2⟩) ⟨q3, rfl, hx3.1, hx3.2⟩) ⟨q4, rfl, hx4.1, hx4.2⟩) ⟨q5, rfl, hx5.1, hx5.2⟩), (own_far (own_far (own_far (own_far (own_far (own_far hO hr3) hr3) hr3) hr3) hr3) hr3)⟩ ?_
      clear gd3 hO bW hC hg cR0 fR0 cR1 fR1 cR2 fR2 cR3 fR3 cR4 fR4 cR5 fR5 bR
      intro W ⟨bW, gd3, hO⟩
      obtain ⟨yR0, cR0, lR0, hR0⟩ := gd3.cell (j := 0) (by omega)
      obtain ⟨yR1, cR1, lR1, hR1⟩ := gd3.cell (j := 1) (by omega)
      obtain ⟨yR2, cR2, lR2, hR2⟩ := gd3.cell (j := 2) (by omega)
      obtain ⟨yR3, cR3, lR3, hR3⟩ := gd3.cell (j := 3) (by omega)
      obtain ⟨yR4, cR4, lR4, hR4⟩ := gd3.cell (j := 4) (by omega)
      obtain ⟨yR5, cR5, lR5, hR5⟩ := gd3.cell (j := 5) (by omega)
      have fR0 := gd3.frozen 0
      have fR1 := gd3.frozen 1
      have fR2 := gd3.frozen 2
      have fR3 := gd3.frozen 3
      have fR4 := gd3.frozen 4
      have fR5 := gd3.frozen 5
      have bR := gd3.lt
      (refine bodyPost_ret (by simp (maxDischargeDepth := 4) [results, Try.results13, go_sem, *]; try rfl) rfl ?_)
      exact ⟨b, m, c', zs, yR0, yR1, yR2, yR3, yR4, yR5, rfl, ⟨serD_of (w1 := W) hO hbo rfl hl hm hz, ⟨⟨lR0, hR0⟩, ⟨lR1, hR1⟩, ⟨lR2, hR2⟩, ⟨lR3, hR3⟩, ⟨lR4, hR4⟩, ⟨lR5, hR5⟩⟩⟩, bW⟩
  · have i1 : decide (0 < m) = false := decide_eq_false hm0
    have i2 : decide ((0 : Int) < (m : Int)) = false := decide_eq_false (by omega)
    have hl := HL.out
    go_wp2_with (first | (go_at_call 25; refine (among_ty X _ _ (hC.alloc _) (by omega) (Good.lit' rfl (by simp) (by simp [sm_int])) (by omega) (by omega) (by omega) (by omega)).mono ?_; rintro e w' ⟨v, rfl, hg, hC, x, rfl, x0, x1⟩;  have hlt := hC.lt; have hO := own_grown (own_alloc hO _) hg hgo; have gd3 := good_gr (gd3.alloc _) nd3 hg; have bW := below_gr (balloc bW _) hg hwg) | (go_at_call 26; refine (situation_ats X _ _ _ (by omega) hC (by omega) ⟨x0, x1⟩).mono ?_; rintro e w' ⟨q0, q1, q2, q3, q4, q5, rfl, hg, hC, hx⟩; have hlt := hC.lt; have hO := own_grown hO hg hgo; have gd3 := good_gr gd3 nd3 hg; have bW := below_gr bW hg hwg; obtain ⟨yR0, cR0, lR0, hR0⟩ := gd3.cell (j := 0) (by omega); obtain ⟨yR1, cR1, lR1, hR1⟩ := gd3.cell (j := 1) (by omega); obtain ⟨yR2, cR2, lR2, hR2⟩ := gd3.cell (j := 2) (by omega); obtain ⟨yR3, cR3, lR3, hR3⟩ := gd3.cell (j := 3) (by omega); obtain ⟨yR4, cR4, lR4, hR4⟩ := gd3.cell (j := 4) (by omega); obtain ⟨yR5, cR5, lR5, hR5⟩ := gd3.cell (j := 5) (by omega); have fR0 := gd3.frozen 0; have fR1 := gd3.frozen 1; have fR2 := gd3.frozen 2; have fR3 := gd3.frozen 3; have fR4 := gd3.frozen 4; have fR5 := gd3.frozen 5; have bR := gd3.lt))
    obtain ⟨hx0, hx1, hx2, hx3, hx4, hx5⟩ := id hx
    dsimp only at hx0 hx1 hx2 hx3 hx4 hx5
    refine bp_gen (fun W => Below w.heap.size w W ∧ Good W d3 26 6 ∧ W.ownsRow bo 26 6 (.slice (some ⟨b, 0, none⟩) m c') m (sitF zs)) ⟨(bset (bset (bset (bset (bset (bset bW (p := ⟨d3, 0, none⟩) (by simp only; omega) _) (p := ⟨d3, 1, none⟩) (by simp only; omega) _) (p := ⟨d3, 2, none⟩) (by simp only; omega) _) (p := ⟨d3, 3, none⟩) (by simp only; omega) _) (p := ⟨d3, 4, none⟩) (by simp only; omega) _) (p := ⟨d3, 5, none⟩) (by simp only; omega) _), (Good.set (Good.set (Good.set (Good.set (Good.set (Good.set gd3 ⟨q0, rfl, hx0.1, hx0.2⟩) ⟨q1, rfl, hx1.1, hx1.2⟩) ⟨q2, rfl, hx2.1, hx2.2⟩) ⟨q3, rfl, hx3.1, hx3.2⟩) ⟨q4, rfl, hx4.1, hx4.2⟩) ⟨q5, rfl, hx5.1, hx5.2⟩), (own_far (own_far (own_far (own_far (own_far (own_far hO hr3) hr3) hr3) hr3) hr3) hr3)⟩ ?_
    clear gd3 hO bW hC hg cR0 fR0 cR1 fR1 cR2 fR2 cR3 fR3 cR4 fR4 cR5 fR5 bR
    intro W ⟨bW, gd3, hO⟩
    obtain ⟨yR0, cR0, lR0, hR0⟩ := gd3.cell (j := 0) (by omega)
    obtain ⟨yR1, cR1, lR1, hR1⟩ := gd3.cell (j := 1) (by omega)
    obtain ⟨yR2, cR2, lR2, hR2⟩ := gd3.cell (j := 2) (by omega)
    obtain ⟨yR3, cR3, lR3, hR3⟩ := gd3.cell (j := 3) (by omega)
    obtain ⟨yR4, cR4, lR4, hR4⟩ := gd3.cell (j := 4) (by omega)
    obtain ⟨yR5, cR5, lR5, hR5⟩ := gd3.cell (j := 5) (by omega)
    have fR0 := gd3.frozen 0
    have fR1 := gd3.frozen 1
    have fR2 := gd3.frozen 2
    have fR3 := gd3.frozen 3
    have fR4 := gd3.frozen 4
    have fR5 := gd3.frozen 5
    have bR := gd3.lt
    (refine bodyPost_ret (by simp (maxDischargeDepth := 4) [results, Try.results13, go_sem, *]; try rfl) rfl ?_)
    exact ⟨b, m, c', zs, yR0, yR1, yR2, yR3, yR4, yR5, rfl, ⟨serD_of (w1 := W) hO hbo rfl hl hm hz, ⟨⟨lR0, hR0⟩, ⟨lR1, hR1⟩, ⟨lR2, hR2⟩, ⟨lR3, hR3⟩, ⟨lR4, hR4⟩, ⟨lR5, hR5⟩⟩⟩, bW⟩
end Go.Proofs.Ytjffhacoijmgiaa
