/-
  Copies of lists of ints, and exchanged ones. Conditions: lengths within the bound of a slice.
-/
import Derived.Test.YtallgjobljkgnaaK6
namespace Go.Proofs.Ytallgjobljkgnaa
open Go.RowKit
set_option maxRecDepth 100000
set_option maxHeartbeats 1000000

theorem ints_one (zs : List Int) : ∀ u ∈ ints zs, u.oneCell' = true := by
  intro u hu
  simp only [ints, List.mem_map] at hu
  obtain ⟨x, _, rfl⟩ := hu
  rfl
theorem l1Own_any (b off n c : Nat) (zs : List Int) (w : World) (hr : Rd w 1 (some ⟨b, off, none⟩) n (ints zs)) (hn : n ≤ 1048577) :
    Calls Try.prog 62 #[.slice (some ⟨b, off, none⟩) n c] w fun e w' => ∃ v, e = .returned v ∧ w'.ownsRow w.heap.size 3 1 v n (ints zs) ∧ Below w.heap.size w w' := by
  obtain ⟨i0, hi0, hz0, hz1, hz2⟩ := info_parts (show (Try.prog.info? 3).map (fun i => (i.zero, i.size, i.bytes)) = some (some (.int .i64 0), 1, 8) from by kernel_rfl)
  go_enter Try.func62, Try.ntmps62
  go_wp2_with (at_builtin; refine wpList_append_own _ rfl (.tmp 3) (.tmp 4) 24 rfl w.heap.size 3 i0 _ 1 8 Try.underlying24 hi0 hz0 hz1 hz2 rfl (by decide) (.slice (some ⟨w.heap.size, 0, none⟩) 0 0) 0 [] rfl (own_lit' rfl (Nat.le_refl _)) ⟨b, off, none⟩ n c (ints zs) rfl hr.1 (hr.below (by (repeat' (first | (with_reducible exact Below.refl _ _) | (with_reducible assumption) | (with_reducible refine balloc ?_ _) | (with_reducible refine bdrew ?_) | (with_reducible refine bdrewN ?_ _) | (with_reducible refine bstep ?_ (by assumption)) | (with_reducible refine bset ?_ ?_ _) | (exact Below.size (by assumption)) | go_size)))).news (ints_one zs) (by unfold maxLen; omega) (by omega) (by simp) ?_; intro v1 w1 hown1 hgr1 _)
  go_returns
  refine ⟨_, rfl, by simpa using hown1, ?_⟩
  exact Below.grown (by (repeat' (first | (with_reducible exact Below.refl _ _) | (with_reducible assumption) | (with_reducible refine balloc ?_ _) | (with_reducible refine bdrew ?_) | (with_reducible refine bdrewN ?_ _) | (with_reducible refine bstep ?_ (by assumption)) | (with_reducible refine bset ?_ ?_ _) | (exact Below.size (by assumption)) | go_size))) hgr1 (by simp) (fun k e => by cases e; exact Nat.le_refl _)
theorem copyInt_any (b off n c : Nat) (zs : List Int) (w : World) (hr : Rd w 1 (some ⟨b, off, none⟩) n (ints zs)) (hn : n ≤ 1048577) :
    Calls Try.prog 45 #[.slice (some ⟨b, off, none⟩) n c] w fun e w' => ∃ v, e = .returned v ∧ w'.ownsRow w.heap.size 3 1 v n (ints zs) ∧ Below w.heap.size w w' := by
  obtain ⟨i0, hi0, hz0, hz1, hz2⟩ := info_parts (show (Try.prog.info? 3).map (fun i => (i.zero, i.size, i.bytes)) = some (some (.int .i64 0), 1, 8) from by kernel_rfl)
  go_enter Try.func45, Try.ntmps45
  go_wp2_with (at_builtin; refine wpList_append_own _ rfl (.tmp 3) (.tmp 4) 24 rfl w.heap.size 3 i0 _ 1 8 Try.underlying24 hi0 hz0 hz1 hz2 rfl (by decide) (.slice (some ⟨w.heap.size, 0, none⟩) 0 0) 0 [] rfl (own_lit' rfl (Nat.le_refl _)) ⟨b, off, none⟩ n c (ints zs) rfl hr.1 (hr.below (by (repeat' (first | (with_reducible exact Below.refl _ _) | (with_reducible assumption) | (with_reducible refine balloc ?_ _) | (with_reducible refine bdrew ?_) | (with_reducible refine bdrewN ?_ _) | (with_reducible refine bstep ?_ (by assumption)) | (with_reducible refine bset ?_ ?_ _) | (exact Below.size (by assumption)) | go_size)))).news (ints_one zs) (by unfold maxLen; omega) (by omega) (by simp) ?_; intro v1 w1 hown1 hgr1 _)
  go_returns
  refine ⟨_, rfl, by simpa using hown1, ?_⟩
  exact Below.grown (by (repeat' (first | (with_reducible exact Below.refl _ _) | (with_reducible assumption) | (with_reducible refine balloc ?_ _) | (with_reducible refine bdrew ?_) | (with_reducible refine bdrewN ?_ _) | (with_reducible refine bstep ?_ (by assumption)) | (with_reducible refine bset ?_ ?_ _) | (exact Below.size (by assumption)) | go_size))) hgr1 (by simp) (fun k e => by cases e; exact Nat.le_refl _)
def swpI (zs : List Int) (a b : Nat) : List Int := (zs.set a (zs.getD b 0)).set b (zs.getD a 0)
theorem swpI_len (zs : List Int) (a b : Nat) : (swpI zs a b).length = zs.length := by simp [swpI]
theorem swp_cells {cs : List Value} {zs : List Int} {n a b : Nat} (h : cs.take n = ints zs) (u v : Int) (hu : zs.getD b 0 = u) (hv : zs.getD a 0 = v) : ((cs.set a (.int .i64 u)).set b (.int .i64 v)).take n = ints (swpI zs a b) := by
  rw [List.take_set, List.take_set, h]
  unfold swpI ints
  rw [hu, hv, List.map_set, List.map_set]
theorem cs_at {cs : List Value} {zs : List Int} {n a : Nat} {u : Int} (h : cs.take n = ints zs) (ha : a < n) (hl : zs.length = n) (hu : zs[a]'(by omega) = u) : cs[a]? = some (.int .i64 u) := by
  have h2 := ints_get zs a (by omega)
  rw [← h, List.getElem?_take, if_pos ha, hu] at h2
  exact h2
theorem l16Swap_any (bb off n c a b : Nat) (zs : List Int) (w : World) (hr : Rd w 1 (some ⟨bb, off, none⟩) n (ints zs)) (hl : zs.length = n) (hn : n ≤ 1048576) (ha : a < n) (hb : b < n) (hab : a ≠ b) :
    Calls Try.prog 61 #[.slice (some ⟨bb, off, none⟩) n c, .int .i64 a, .int .i64 b] w fun e w' => ∃ v, e = .returned v ∧ w'.ownsRow w.heap.size 3 1 v n (ints (swpI zs a b)) ∧ Below w.heap.size w w' := by
  go_enter Try.func61, Try.ntmps61
  go_wp2_with fail
  refine (l1Own_any bb off n c zs _ hr (by omega)).mono ?_
  rintro e w1 ⟨v1, rfl, ho, hb1⟩
  rcases own_bk ho with ⟨_, h0⟩ | ⟨g, cap, cs, rfl, hbg, hB, h1, h2, h3, h4⟩
  · omega
  rw [Nat.mul_one] at h3 h4
  obtain ⟨b2, off2, x, e0, hbl, hx, c0⟩ := ints_at hr hb1 hl ha
  simp only [Option.some.injEq, Addr.mk.injEq, and_true] at e0
  obtain ⟨rfl, rfl⟩ := e0
  obtain ⟨b3, off3, y, e0, _, hy, c1⟩ := ints_at hr hb1 hl hb
  simp only [Option.some.injEq, Addr.mk.injEq, and_true] at e0
  obtain ⟨rfl, rfl⟩ := e0
  have ex : zs.getD a 0 = x := getD_of (by omega) hx
  have ey : zs.getD b 0 = y := getD_of (by omega) hy
  have hfin : ∀ W : World, Bk W g 3 ((cs.set a (.int .i64 y)).set b (.int .i64 x)) → W.ownsRow w.heap.size 3 1 (.slice (some ⟨g, 0, none⟩) n cap) n (ints (swpI zs a b)) := fun W h =>
    bk_own hbg h h1 h2 (by simpa using h3) (by rw [Nat.mul_one]; exact swp_cells h4 y x ey ex)
  have hfin2 : ∀ W : World, Bk W g 3 ((cs.set b (.int .i64 x)).set a (.int .i64 y)) → W.ownsRow w.heap.size 3 1 (.slice (some ⟨g, 0, none⟩) n cap) n (ints (swpI zs a b)) := fun W h =>
    hfin W (by rw [List.set_comm _ _ hab]; exact h)
  have d0 : w1.cell? ⟨g, a, none⟩ = some (.int .i64 x) := by rw [hB.cell]; exact cs_at h4 ha hl hx
  have d1 : w1.cell? ⟨g, b, none⟩ = some (.int .i64 y) := by rw [hB.cell]; exact cs_at h4 hb hl hy
  have f0 := hB.frozen a
  have f1 := hB.frozen b
  have gl := hB.lt
  have i0 : (0 : Int) ≤ (a : Int) := by omega
  have i1 : (a : Int) < (n : Int) := by omega
  have i2 : (0 : Int) ≤ (b : Int) := by omega
  have i3 : (b : Int) < (n : Int) := by omega
  have hbl1 := Nat.lt_of_lt_of_le hbl hb1.size
  have hgb : ¬ bb = g := by omega
  have hgb2 : ¬ g = bb := by omega
  have hba : ¬ b = a := fun h => hab h.symm
  have HFIN := Lib.hid hfin
  have HFIN2 := Lib.hid hfin2
  have HB := Lib.hid hB
  clear hfin hfin2 ho hx hy ex ey h4 hB h3
  go_wp2
  go_returns
  exact ⟨_, rfl, HFIN.out _ ((HB.out.set_ a (.int .i64 y)).set_ b (.int .i64 x)), (bset (bset hb1 (by exact hbg) _) (by exact hbg) _)⟩
theorem swapped_any (bb off n c a b : Nat) (zs : List Int) (w : World) (hr : Rd w 1 (some ⟨bb, off, none⟩) n (ints zs)) (hl : zs.length = n) (hn : n ≤ 1048576) (ha : a < n) (hb : b < n) (hab : a ≠ b) :
    Calls Try.prog 57 #[.slice (some ⟨bb, off, none⟩) n c, .int .i64 a, .int .i64 b] w fun e w' => ∃ v, e = .returned v ∧ w'.ownsRow w.heap.size 3 1 v n (ints (swpI zs a b)) ∧ Below w.heap.size w w' := by
  go_enter Try.func57, Try.ntmps57
  go_wp2_with fail
  refine (copyInt_any bb off n c zs _ hr (by omega)).mono ?_
  rintro e w1 ⟨v1, rfl, ho, hb1⟩
  rcases own_bk ho with ⟨_, h0⟩ | ⟨g, cap, cs, rfl, hbg, hB, h1, h2, h3, h4⟩
  · omega
  rw [Nat.mul_one] at h3 h4
  obtain ⟨b2, off2, x, e0, hbl, hx, c0⟩ := ints_at hr hb1 hl ha
  simp only [Option.some.injEq, Addr.mk.injEq, and_true] at e0
  obtain ⟨rfl, rfl⟩ := e0
  obtain ⟨b3, off3, y, e0, _, hy, c1⟩ := ints_at hr hb1 hl hb
  simp only [Option.some.injEq, Addr.mk.injEq, and_true] at e0
  obtain ⟨rfl, rfl⟩ := e0
  have ex : zs.getD a 0 = x := getD_of (by omega) hx
  have ey : zs.getD b 0 = y := getD_of (by omega) hy
  have hfin : ∀ W : World, Bk W g 3 ((cs.set a (.int .i64 y)).set b (.int .i64 x)) → W.ownsRow w.heap.size 3 1 (.slice (some ⟨g, 0, none⟩) n cap) n (ints (swpI zs a b)) := fun W h =>
    bk_own hbg h h1 h2 (by simpa using h3) (by rw [Nat.mul_one]; exact swp_cells h4 y x ey ex)
  have hfin2 : ∀ W : World, Bk W g 3 ((cs.set b (.int .i64 x)).set a (.int .i64 y)) → W.ownsRow w.heap.size 3 1 (.slice (some ⟨g, 0, none⟩) n cap) n (ints (swpI zs a b)) := fun W h =>
    hfin W (by rw [List.set_comm _ _ hab]; exact h)
  have d0 : w1.cell? ⟨g, a, none⟩ = some (.int .i64 x) := by rw [hB.cell]; exact cs_at h4 ha hl hx
  have d1 : w1.cell? ⟨g, b, none⟩ = some (.int .i64 y) := by rw [hB.cell]; exact cs_at h4 hb hl hy
  have f0 := hB.frozen a
  have f1 := hB.frozen b
  have gl := hB.lt
  have i0 : (0 : Int) ≤ (a : Int) := by omega
  have i1 : (a : Int) < (n : Int) := by omega
  have i2 : (0 : Int) ≤ (b : Int) := by omega
  have i3 : (b : Int) < (n : Int) := by omega
  have hbl1 := Nat.lt_of_lt_of_le hbl hb1.size
  have hgb : ¬ bb = g := by omega
  have hgb2 : ¬ g = bb := by omega
  have hba : ¬ b = a := fun h => hab h.symm
  have HFIN := Lib.hid hfin
  have HFIN2 := Lib.hid hfin2
  have HB := Lib.hid hB
  clear hfin hfin2 ho hx hy ex ey h4 hB h3
  go_wp2
  go_region
  all_goals
    go_wp2
    go_returns
    first
      | exact ⟨_, rfl, HFIN.out _ (Bk.drew ((HB.out.set_ a (.int .i64 y)).set_ b (.int .i64 x))), bdrew (bset (bset hb1 (by exact hbg) _) (by exact hbg) _)⟩
      | exact ⟨_, rfl, HFIN2.out _ (Bk.drew ((HB.out.set_ b (.int .i64 x)).set_ a (.int .i64 y))), bdrew (bset (bset hb1 (by exact hbg) _) (by exact hbg) _)⟩
end Go.Proofs.Ytallgjobljkgnaa
