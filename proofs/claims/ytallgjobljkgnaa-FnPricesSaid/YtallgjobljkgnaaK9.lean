/-
  SwapSaving of the reference and of the program. Conditions: lengths within the bound of a slice.
-/
import Derived.Test.YtallgjobljkgnaaK8
namespace Go.Proofs.Ytallgjobljkgnaa
open Go.RowKit
set_option maxRecDepth 100000
set_option maxHeartbeats 1000000

theorem swp_all {zs : List Int} {p : Int → Bool} {a b : Nat} (h : zs.all p = true) (ha : a < zs.length) (hb : b < zs.length) : (swpI zs a b).all p = true := by
  rw [List.all_eq_true] at h ⊢
  intro x hx
  unfold swpI at hx
  rcases List.mem_or_eq_of_mem_set hx with h1 | h1
  · rcases List.mem_or_eq_of_mem_set h1 with h2 | h2
    · exact h x h2
    · rw [h2, getD_of hb rfl]; exact h _ (List.getElem_mem _)
  · rw [h1, getD_of ha rfl]; exact h _ (List.getElem_mem _)
def ssB (T : List (List Int)) (zs : List Int) (a b : Int) : Bool := (asT T zs && !decide (a = b)) && (tskP T.length a && tskP T.length b)
def ssI (T : List (List Int)) (zs : List Int) (a b : Int) : Int := if ssB T zs a b = true then cstA T zs T.length - cstA T (swpI zs a.toNat b.toNat) T.length else 0
theorem rd_some {w : World} {A : Option Addr} {n : Nat} {zs : List Int} (h : Rd w 1 A n (ints zs)) (hn : 0 < n) : ∃ b off, A = some ⟨b, off, none⟩ := by
  obtain ⟨b, off, e, _⟩ := h.2 hn
  exact ⟨b, off, e⟩
theorem sSwapSaving_is {q : Bool} {v : Int} {A B : Option Addr} {n m c d : Nat} {T : List (List Int)} {zs : List Int} {x y : Int} (hq : ssB T zs x y = q) (hv : ssI T zs x y = v) (w : World) (hr : RdT w A n T) (hn : n ≤ 1048576) (hd : m ≤ d) (hx : Rd w 1 B m (ints zs)) (hl : zs.length = m) (hm : m ≤ 1048576) :
    Calls Try.prog 23 #[.slice A n c, .slice B m d, .int .i64 x, .int .i64 y] w fun e w' => e = .returned (.tuple #[.int .i64 v, .bool q]) ∧ Below w.heap.size w w' := by
  have hT := hr.1
  have hwr : IntKind.i64.wrap ((n : Int) - 1) = (n : Int) - 1 := IntWalk.i64_in _ (by omega)
  go_enter Try.func23, Try.ntmps23
  rcases ha : asT T zs with _ | _
  · have HA := Lib.hid ha
    obtain rfl : q = false := by rw [← hq]; simp [ssB, ha]
    obtain rfl : v = 0 := by rw [← hv]; simp [ssI, hq]
    clear hq hv ha
    go_wp2_with fail
    refine (l16Tasks_is HA.out _ hr hn hx hl hm hd).mono ?_
    rintro e w1 ⟨rfl, b1⟩
    go_wp2
    go_returns
    exact ⟨rfl, b1⟩
  · have HA := Lib.hid ha
    obtain ⟨h1, h2⟩ := asT_parts ha hT
    obtain ⟨h3, h4, h5⟩ := asB_parts h2
    obtain ⟨h6, h7, _⟩ := ct_sq h1 hT
    obtain rfl : m = n := by omega
    rcases hxa : tskP m x with _ | _
    · skip
      obtain rfl : q = false := by rw [← hq]; simp [ssB, hxa, hT]
      obtain rfl : v = 0 := by rw [← hv]; simp [ssI, hq]
      clear hq hv ha h1 h2 h4 h5
      go_wp2_with fail
      refine (l16Tasks_is HA.out _ hr hn hx hl hm hd).mono ?_
      rintro e w1 ⟨rfl, b1⟩
      go_wp2_with fail
      refine (l1In_of false hxa _).mono ?_
      rintro e u ⟨rfl, rfl⟩
      go_wp2
      go_returns
      exact ⟨rfl, b1⟩
    rcases hya : tskP m y with _ | _
    · skip
      obtain rfl : q = false := by rw [← hq]; simp [ssB, hya, hT]
      obtain rfl : v = 0 := by rw [← hv]; simp [ssI, hq]
      clear hq hv ha h1 h2 h4 h5
      go_wp2_with fail
      refine (l16Tasks_is HA.out _ hr hn hx hl hm hd).mono ?_
      rintro e w1 ⟨rfl, b1⟩
      go_wp2_with fail
      refine (l1In_of true hxa _).mono ?_
      rintro e u ⟨rfl, rfl⟩
      go_wp2_with fail
      refine (l1In_of false hya _).mono ?_
      rintro e u ⟨rfl, rfl⟩
      go_wp2
      go_returns
      exact ⟨rfl, b1⟩
    by_cases hxy : x = y
    · skip
      obtain rfl : q = false := by rw [← hq]; simp [ssB, hxy]
      obtain rfl : v = 0 := by rw [← hv]; simp [ssI, hq]
      clear hq hv ha h1 h2 h4 h5
      have heq : (x == y) = true := by simpa using hxy
      subst hxy
      go_wp2_with fail
      refine (l16Tasks_is HA.out _ hr hn hx hl hm hd).mono ?_
      rintro e w1 ⟨rfl, b1⟩
      go_wp2_with fail
      refine (l1In_of true hxa _).mono ?_
      rintro e u ⟨rfl, rfl⟩
      go_wp2_with fail
      refine (l1In_of true hya _).mono ?_
      rintro e u ⟨rfl, rfl⟩
      go_wp2
      go_returns
      exact ⟨rfl, b1⟩
    have heq : (x == y) = false := by simpa using hxy
    have bx := tsk_bd hxa
    have by_ := tsk_bd hya
    obtain ⟨i, rfl⟩ : ∃ i : Nat, x = (i : Int) := ⟨x.toNat, by omega⟩
    obtain ⟨j, rfl⟩ : ∃ j : Nat, y = (j : Int) := ⟨y.toNat, by omega⟩
    have hij : i ≠ j := fun h => hxy (by rw [h])
    obtain rfl : q = true := by rw [← hq]; simp [ssB, ha, hT, hxa, hya]; omega
    have hv2 : cstA T zs m - cstA T (swpI zs i j) m = v := by rw [← hv]; simp [ssI, hq, hT]
    have hcz := ct_cells h1 hT
    have h10 := swp_all h4 (show i < zs.length by omega) (show j < zs.length by omega)
    have c1 := cstA_bd hcz h4 m (Nat.le_refl _) (by omega)
    have c2 := cstA_bd hcz h10 m (Nat.le_refl _) (by rw [swpI_len]; omega)
    obtain ⟨bb, off, rfl⟩ := rd_some hx (by omega)
    have HC := Lib.hid hcz
    have H4 := Lib.hid h4
    have H10 := Lib.hid h10
    have HIJ := Lib.hid hij
    obtain ⟨y1, e1⟩ : ∃ y, cstA T zs m = y := ⟨_, rfl⟩
    obtain ⟨y2, e2⟩ : ∃ y, cstA T (swpI zs i j) m = y := ⟨_, rfl⟩
    rw [e1, e2] at hv2
    rw [e1] at c1
    rw [e2] at c2
    have E1 := Lib.hid e1
    have E2 := Lib.hid e2
    subst hv2
    clear hq hv ha h1 h2 h4 h5 hcz h10 e1 e2 hxy hij
    go_wp2_with fail
    refine (l16Tasks_is HA.out _ hr hn hx hl hm hd).mono ?_
    rintro e w1 ⟨rfl, b1⟩
    go_wp2_with fail
    refine (l1In_of true hxa _).mono ?_
    rintro e u ⟨rfl, rfl⟩
    go_wp2_with fail
    refine (l1In_of true hya _).mono ?_
    rintro e u ⟨rfl, rfl⟩
    go_wp2_with fail
    refine (l16Cost_any _ _ _ _ _ _ T zs _ (hr.below b1) HC.out h6 (hx.below b1) hl (Nat.le_refl _) H4.out).mono ?_
    rintro e w4 ⟨rfl, hb4⟩
    rw [E1.out]
    have b4 := bstep b1 hb4
    go_wp2_with fail
    refine (l16Swap_any bb off _ _ i j zs _ (hx.below b4) hl hm (by omega) (by omega) HIJ.out).mono ?_
    rintro e w5 ⟨v5, rfl, ho5, hb5⟩
    obtain ⟨A5, c5, rfl, r5, _⟩ := own_rd ho5
    have b5 := bstep b4 hb5
    go_wp2_with fail
    refine (l16Cost_any _ _ _ _ _ _ T (swpI zs i j) _ (hr.below b5) HC.out h6 r5 (by rw [swpI_len]; exact hl) (Nat.le_refl _) H10.out).mono ?_
    rintro e w6 ⟨rfl, hb6⟩
    rw [E2.out]
    go_wp2
    go_returns
    exact ⟨by first | rfl | (congr 3; go_num), bstep b5 hb6⟩
theorem SwapSaving_is {q : Bool} {v : Int} {A B : Option Addr} {n m c d : Nat} {T : List (List Int)} {zs : List Int} {x y : Int} (hq : ssB T zs x y = q) (hv : ssI T zs x y = v) (w : World) (hr : RdT w A n T) (hn : n ≤ 1048576) (hM : ∀ i, i < n → (row T i).length ≤ 1048576) (hx : Rd w 1 B m (ints zs)) (hl : zs.length = m) (hm : m ≤ 1048576) :
    Calls Try.prog 22 #[.slice A n c, .slice B m d, .int .i64 x, .int .i64 y] w fun e w' => e = .returned (.tuple #[.int .i64 v, .bool q]) ∧ Below w.heap.size w w' := by
  have hT := hr.1
  have HM := Lib.hid hM
  clear hM
  have hwr : IntKind.i64.wrap ((n : Int) - 1) = (n : Int) - 1 := IntWalk.i64_in _ (by omega)
  go_enter Try.func22, Try.ntmps22
  rcases h1 : ctB T with _ | _
  · have HC1 := Lib.hid h1
    obtain rfl : q = false := by rw [← hq]; simp [ssB, asT, h1]
    obtain rfl : v = 0 := by rw [← hv]; simp [ssI, hq]
    clear hq hv h1
    go_wp2_with fail
    refine (IsCostTable_is HC1.out _ hr hn HM.out).mono ?_
    rintro e w1 ⟨rfl, b1⟩
    go_wp2
    go_returns
    exact ⟨rfl, b1⟩
  rcases h2 : asB n zs with _ | _
  · have HC1 := Lib.hid h1
    have HA := Lib.hid h2
    obtain rfl : q = false := by rw [← hq]; simp [ssB, asT, h2, hT]
    obtain rfl : v = 0 := by rw [← hv]; simp [ssI, hq]
    clear hq hv h1 h2
    go_wp2_with fail
    refine (IsCostTable_is HC1.out _ hr hn HM.out).mono ?_
    rintro e w1 ⟨rfl, hb1⟩
    go_wp2_with fail
    refine (isAssignment_is HA.out _ (hx.below hb1) hl hm hn).mono ?_
    rintro e w2 ⟨rfl, hb2⟩
    have b1 := bstep hb1 hb2
    go_wp2
    go_returns
    exact ⟨rfl, b1⟩
  · have HC1 := Lib.hid h1
    have HA := Lib.hid h2
    have ha : asT T zs = true := by simp [asT, h1, h2, hT]
    obtain ⟨h1, h2⟩ := asT_parts ha hT
    obtain ⟨h3, h4, h5⟩ := asB_parts h2
    obtain ⟨h6, h7, _⟩ := ct_sq h1 hT
    obtain rfl : m = n := by omega
    by_cases hxy : x = y
    · skip
      obtain rfl : q = false := by rw [← hq]; simp [ssB, hxy]
      obtain rfl : v = 0 := by rw [← hv]; simp [ssI, hq]
      clear hq hv ha h1 h2 h4 h5
      have heq : (x == y) = true := by simpa using hxy
      subst hxy
      go_wp2_with fail
      refine (IsCostTable_is HC1.out _ hr hn HM.out).mono ?_
      rintro e w1 ⟨rfl, hb1⟩
      go_wp2_with fail
      refine (isAssignment_is HA.out _ (hx.below hb1) hl hm hn).mono ?_
      rintro e w2 ⟨rfl, hb2⟩
      have b1 := bstep hb1 hb2
      go_wp2
      go_returns
      exact ⟨rfl, b1⟩
    have heq : (x == y) = false := by simpa using hxy
    rcases hxa : tskP m x with _ | _
    · skip
      obtain rfl : q = false := by rw [← hq]; simp [ssB, hxa, hT]
      obtain rfl : v = 0 := by rw [← hv]; simp [ssI, hq]
      clear hq hv ha h1 h2 h4 h5
      go_wp2_with fail
      refine (IsCostTable_is HC1.out _ hr hn HM.out).mono ?_
      rintro e w1 ⟨rfl, hb1⟩
      go_wp2_with fail
      refine (isAssignment_is HA.out _ (hx.below hb1) hl hm hn).mono ?_
      rintro e w2 ⟨rfl, hb2⟩
      have b1 := bstep hb1 hb2
      go_wp2_with fail
      refine (in_of false hxa _).mono ?_
      rintro e u ⟨rfl, rfl⟩
      go_wp2
      go_returns
      exact ⟨rfl, b1⟩
    rcases hya : tskP m y with _ | _
    · skip
      obtain rfl : q = false := by rw [← hq]; simp [ssB, hya, hT]
      obtain rfl : v = 0 := by rw [← hv]; simp [ssI, hq]
      clear hq hv ha h1 h2 h4 h5
      go_wp2_with fail
      refine (IsCostTable_is HC1.out _ hr hn HM.out).mono ?_
      rintro e w1 ⟨rfl, hb1⟩
      go_wp2_with fail
      refine (isAssignment_is HA.out _ (hx.below hb1) hl hm hn).mono ?_
      rintro e w2 ⟨rfl, hb2⟩
      have b1 := bstep hb1 hb2
      go_wp2_with fail
      refine (in_of true hxa _).mono ?_
      rintro e u ⟨rfl, rfl⟩
      go_wp2_with fail
      refine (in_of false hya _).mono ?_
      rintro e u ⟨rfl, rfl⟩
      go_wp2
      go_returns
      exact ⟨rfl, b1⟩
    have bx := tsk_bd hxa
    have by_ := tsk_bd hya
    obtain ⟨i, rfl⟩ : ∃ i : Nat, x = (i : Int) := ⟨x.toNat, by omega⟩
    obtain ⟨j, rfl⟩ : ∃ j : Nat, y = (j : Int) := ⟨y.toNat, by omega⟩
    have hij : i ≠ j := fun h => hxy (by rw [h])
    obtain rfl : q = true := by rw [← hq]; simp [ssB, ha, hT, hxa, hya]; omega
    have hv2 : cstA T zs m - cstA T (swpI zs i j) m = v := by rw [← hv]; simp [ssI, hq, hT]
    have hcz := ct_cells h1 hT
    have h10 := swp_all h4 (show i < zs.length by omega) (show j < zs.length by omega)
    have c1 := cstA_bd hcz h4 m (Nat.le_refl _) (by omega)
    have c2 := cstA_bd hcz h10 m (Nat.le_refl _) (by rw [swpI_len]; omega)
    obtain ⟨bb, off, rfl⟩ := rd_some hx (by omega)
    have HC := Lib.hid hcz
    have H4 := Lib.hid h4
    have H10 := Lib.hid h10
    have HIJ := Lib.hid hij
    obtain ⟨y1, e1⟩ : ∃ y, cstA T zs m = y := ⟨_, rfl⟩
    obtain ⟨y2, e2⟩ : ∃ y, cstA T (swpI zs i j) m = y := ⟨_, rfl⟩
    rw [e1, e2] at hv2
    rw [e1] at c1
    rw [e2] at c2
    have E1 := Lib.hid e1
    have E2 := Lib.hid e2
    subst hv2
    clear hq hv ha h1 h2 h4 h5 hcz h10 e1 e2 hxy hij
    go_wp2_with fail
    refine (IsCostTable_is HC1.out _ hr hn HM.out).mono ?_
    rintro e w1 ⟨rfl, hb1⟩
    go_wp2_with fail
    refine (isAssignment_is HA.out _ (hx.below hb1) hl hm hn).mono ?_
    rintro e w2 ⟨rfl, hb2⟩
    have b1 := bstep hb1 hb2
    go_wp2_with fail
    refine (in_of true hxa _).mono ?_
    rintro e u ⟨rfl, rfl⟩
    go_wp2_with fail
    refine (in_of true hya _).mono ?_
    rintro e u ⟨rfl, rfl⟩
    go_wp2_with fail
    refine (cost_any _ _ _ _ _ _ T zs _ (hr.below b1) HC.out h6 (hx.below b1) hl (Nat.le_refl _) H4.out).mono ?_
    rintro e w4 ⟨rfl, hb4⟩
    rw [E1.out]
    have b4 := bstep b1 hb4
    go_wp2_with fail
    refine (swapped_any bb off _ _ i j zs _ (hx.below b4) hl hm (by omega) (by omega) HIJ.out).mono ?_
    rintro e w5 ⟨v5, rfl, ho5, hb5⟩
    obtain ⟨A5, c5, rfl, r5, _⟩ := own_rd ho5
    have b5 := bstep b4 hb5
    go_wp2_with fail
    refine (cost_any _ _ _ _ _ _ T (swpI zs i j) _ (hr.below b5) HC.out h6 r5 (by rw [swpI_len]; exact hl) (Nat.le_refl _) H10.out).mono ?_
    rintro e w6 ⟨rfl, hb6⟩
    rw [E2.out]
    go_wp2
    go_returns
    exact ⟨by first | rfl | (congr 3; go_num), bstep b5 hb6⟩
end Go.Proofs.Ytallgjobljkgnaa
