/-
  AssignmentCost of the reference and of the program. Conditions: lengths within the bound of a slice.
-/
import Derived.Test.YtallgjobljkgnaaK3
namespace Go.Proofs.Ytallgjobljkgnaa
open Go.RowKit
set_option maxRecDepth 100000
set_option maxHeartbeats 1000000

def acI (T : List (List Int)) (zs : List Int) : Int := if asT T zs = true then cstA T zs T.length else 0
theorem asT_parts {T : List (List Int)} {zs : List Int} {n : Nat} (h : asT T zs = true) (hl : T.length = n) : ctB T = true ∧ asB n zs = true := by
  simp only [asT, Bool.and_eq_true, hl] at h
  exact h
theorem asB_parts {n : Nat} {zs : List Int} (h : asB n zs = true) : zs.length = n ∧ zs.all (tskP n) = true ∧ difB zs n = true := by
  simp only [asB, Bool.and_eq_true, decide_eq_true_eq] at h
  exact ⟨h.1, h.2.1, h.2.2⟩
theorem sAssignmentCost_is {q : Bool} {v : Int} {A B : Option Addr} {n m c d : Nat} {T : List (List Int)} {zs : List Int} (hq : asT T zs = q) (hv : acI T zs = v) (w : World) (hr : RdT w A n T) (hn : n ≤ 1048576) (hx : Rd w 1 B m (ints zs)) (hl : zs.length = m) (hm : m ≤ 1048576) (hd : m ≤ d) :
    Calls Try.prog 29 #[.slice A n c, .slice B m d] w fun e w' => e = .returned (.tuple #[.int .i64 v, .bool q]) ∧ Below w.heap.size w w' := by
  have hT := hr.1
  go_enter Try.func29, Try.ntmps29
  cases q
  · obtain rfl : v = 0 := by rw [← hv]; simp [acI, hq]
    have HQ := Lib.hid hq
    clear hv hq
    go_wp2_with fail
    refine (l16Tasks_is HQ.out _ hr hn hx hl hm hd).mono ?_
    rintro e w1 ⟨rfl, b1⟩
    go_wp2
    go_returns
    exact ⟨rfl, b1⟩
  · obtain ⟨h1, h2⟩ := asT_parts hq hT
    obtain ⟨h3, h4, h5⟩ := asB_parts h2
    obtain ⟨h6, _, _⟩ := ct_sq h1 hT
    obtain rfl : m = n := by omega
    have hv2 : cstA T zs m = v := by rw [← hv]; simp [acI, hq, hT]
    have HV := Lib.hid hv2
    have HQ := Lib.hid hq
    have HC := Lib.hid (ct_cells h1 hT)
    have H4 := Lib.hid h4
    clear hv hq hv2 h1 h2 h4 h5
    go_wp2_with fail
    refine (l16Tasks_is HQ.out _ hr hn hx hl hm hd).mono ?_
    rintro e w1 ⟨rfl, b1⟩
    go_wp2_with fail
    refine (l16Cost_any _ _ _ _ _ _ T zs _ (hr.below b1) HC.out h6 (hx.below b1) hl (Nat.le_refl _) H4.out).mono ?_
    rintro e w2 ⟨rfl, b2⟩
    rw [HV.out]
    go_wp2
    go_returns
    exact ⟨rfl, bstep b1 b2⟩
theorem AssignmentCost_is {q : Bool} {v : Int} {A B : Option Addr} {n m c d : Nat} {T : List (List Int)} {zs : List Int} (hq : asT T zs = q) (hv : acI T zs = v) (w : World) (hr : RdT w A n T) (hn : n ≤ 1048576) (hM : ∀ i, i < n → (row T i).length ≤ 1048576) (hx : Rd w 1 B m (ints zs)) (hl : zs.length = m) (hm : m ≤ 1048576) :
    Calls Try.prog 27 #[.slice A n c, .slice B m d] w fun e w' => e = .returned (.tuple #[.int .i64 v, .bool q]) ∧ Below w.heap.size w w' := by
  have hT := hr.1
  have HM := Lib.hid hM
  clear hM
  go_enter Try.func27, Try.ntmps27
  rcases h1 : ctB T with _ | _
  · obtain rfl : q = false := by rw [← hq]; simp [asT, h1]
    obtain rfl : v = 0 := by rw [← hv]; simp [acI, hq]
    clear hq hv
    go_wp2_with fail
    refine (IsCostTable_is h1 _ hr hn HM.out).mono ?_
    rintro e w1 ⟨rfl, b1⟩
    go_wp2
    go_returns
    exact ⟨rfl, b1⟩
  · have hq2 : asB n zs = q := by rw [← hq]; simp [asT, h1, hT]
    have HQ := Lib.hid hq2
    cases q
    · obtain rfl : v = 0 := by rw [← hv]; simp [acI, hq]
      clear hq hv hq2
      go_wp2_with fail
      refine (IsCostTable_is h1 _ hr hn HM.out).mono ?_
      rintro e w1 ⟨rfl, b1⟩
      go_wp2_with fail
      refine (isAssignment_is HQ.out _ (hx.below b1) hl hm hn).mono ?_
      rintro e w2 ⟨rfl, b2⟩
      go_wp2
      go_returns
      exact ⟨rfl, bstep b1 b2⟩
    · obtain ⟨h3, h4, h5⟩ := asB_parts hq2
      obtain ⟨h6, _, _⟩ := ct_sq h1 hT
      obtain rfl : m = n := by omega
      have hv2 : cstA T zs m = v := by rw [← hv]; simp [acI, hq, hT]
      have HV := Lib.hid hv2
      have HC := Lib.hid (ct_cells h1 hT)
      have H4 := Lib.hid h4
      clear hv hq hv2 hq2 h4 h5
      go_wp2_with fail
      refine (IsCostTable_is h1 _ hr hn HM.out).mono ?_
      rintro e w1 ⟨rfl, b1⟩
      go_wp2_with fail
      refine (isAssignment_is HQ.out _ (hx.below b1) hl hm hn).mono ?_
      rintro e w2 ⟨rfl, hb2⟩
      have b2 := bstep b1 hb2
      go_wp2_with fail
      refine (cost_any _ _ _ _ _ _ T zs _ (hr.below b2) HC.out h6 (hx.below b2) hl (Nat.le_refl _) H4.out).mono ?_
      rintro e w3 ⟨rfl, b3⟩
      rw [HV.out]
      go_wp2
      go_returns
      exact ⟨rfl, bstep b2 b3⟩
end Go.Proofs.Ytallgjobljkgnaa
