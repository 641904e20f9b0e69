/-
  ProvesCheapest of the reference and of the program. Conditions: lengths within the bound of a slice.
-/
import Derived.Test.YtallgjobljkgnaaK4
namespace Go.Proofs.Ytallgjobljkgnaa
open Go.RowKit
set_option maxRecDepth 100000
set_option maxHeartbeats 1000000

def pcB (T : List (List Int)) (zs cs ts : List Int) : Bool := fairV T cs ts && asB T.length zs
def pcV (T : List (List Int)) (zs cs ts : List Int) : Bool := pcB T zs cs ts && decide (valA cs ts T.length = cstA T zs T.length)
theorem fair_parts {T : List (List Int)} {cs ts : List Int} {n : Nat} (h : fairV T cs ts = true) (hl : T.length = n) : askB T cs ts = true ∧ frK T cs ts n n = true := by
  simpa [fairV, hl] using h
theorem eq_of_dec {a b : Int} {v : Bool} (h : decide (a = b) = v) : (a == b) = v := by
  rw [← h]
  by_cases e : a = b <;> simp [e]
theorem sProves_is {q v : Bool} {A B C D : Option Addr} {n m1 m2 m3 c d1 d2 d3 : Nat} {T : List (List Int)} {zs cs ts : List Int} (hq : pcB T zs cs ts = q) (hv : pcV T zs cs ts = v) (w : World) (hr : RdT w A n T) (hn : n ≤ 1048576)
    (hz : Rd w 1 B m1 (ints zs)) (hx : Rd w 1 C m2 (ints cs)) (hy : Rd w 1 D m3 (ints ts)) (hl1 : zs.length = m1) (hl2 : cs.length = m2) (hl3 : ts.length = m3) (hm1 : m1 ≤ 1048576) (hm2 : m2 ≤ 1048576) (hm3 : m3 ≤ 1048576) (hd : m1 ≤ d1) :
    Calls Try.prog 38 #[.slice A n c, .slice B m1 d1, .slice C m2 d2, .slice D m3 d3] w fun e w' => e = .returned (.tuple #[.bool v, .bool q]) ∧ Below w.heap.size w w' := by
  have hT := hr.1
  go_enter Try.func38, Try.ntmps38
  rcases ha : asT T zs with _ | _
  · obtain rfl : q = false := by
      rw [← hq]
      rcases hf : fairV T cs ts with _ | _
      · simp [pcB, hf]
      · have h1 := (ask_parts (fair_parts hf hT).1 hT).1
        have h2 : asB n zs = false := by simpa [asT, h1, hT] using ha
        simp [pcB, hT, h2]
    obtain rfl : v = false := by rw [← hv]; simp [pcV, hq]
    have HA := Lib.hid ha
    clear hq hv ha
    go_wp2_with fail
    refine (l16Tasks_is HA.out _ hr hn hz hl1 hm1 hd).mono ?_
    rintro e w1 ⟨rfl, b1⟩
    go_wp2
    go_returns
    exact ⟨rfl, b1⟩
  · obtain ⟨h1, h2⟩ := asT_parts ha hT
    have hq2 : fairV T cs ts = q := by rw [← hq]; simp [pcB, h2, hT]
    have HA := Lib.hid ha
    rcases hk : askB T cs ts with _ | _
    · obtain rfl : q = false := by rw [← hq2]; simp [fairV, hk]
      obtain rfl : v = false := by rw [← hv]; simp [pcV, hq]
      have HK := Lib.hid hk
      clear hq hv ha hk hq2
      go_wp2_with fail
      refine (l16Tasks_is HA.out _ hr hn hz hl1 hm1 hd).mono ?_
      rintro e w1 ⟨rfl, b1⟩
      go_wp2_with fail
      refine (l16Asked_is HK.out _ (hr.below b1) hn (hx.below b1) (hy.below b1) hl2 hl3 hm2 hm3).mono ?_
      rintro e w2 ⟨rfl, b2⟩
      go_wp2
      go_returns
      exact ⟨rfl, bstep b1 b2⟩
    · obtain ⟨_, k2, k3⟩ := ask_parts hk hT
      obtain ⟨h4, _, h5⟩ := ct_sq h1 hT
      obtain ⟨h6, h7⟩ := prcRow_of' k2
      obtain ⟨h8, h9⟩ := prcRow_of' k3
      obtain ⟨h3, h10, h11⟩ := asB_parts h2
      obtain rfl : m1 = n := by omega
      obtain rfl : m2 = m1 := by omega
      obtain rfl : m3 = m2 := by omega
      have hv2 : frK T cs ts m3 m3 = q := by rw [← hq2]; simp [fairV, hk, hT]
      have HF := Lib.hid hv2
      have H5 := Lib.hid h5
      have HK := Lib.hid hk
      have HC := Lib.hid (ct_cells h1 hT)
      have H7 := Lib.hid h7
      have H9 := Lib.hid h9
      have H10 := Lib.hid h10
      cases q
      · obtain rfl : v = false := by rw [← hv]; simp [pcV, hq]
        clear hq hv ha hk hq2 hv2 h5 h7 h9 h10 h11 h1 h2 k2 k3
        go_wp2_with fail
        refine (l16Tasks_is HA.out _ hr hn hz hl1 hm1 hd).mono ?_
        rintro e w1 ⟨rfl, b1⟩
        go_wp2_with fail
        refine (l16Asked_is HK.out _ (hr.below b1) hn (hx.below b1) (hy.below b1) hl2 hl3 hm2 hm3).mono ?_
        rintro e w2 ⟨rfl, hb2⟩
        have b2 := bstep b1 hb2
        go_wp2_with fail
        refine (l16Fair_is HF.out _ (hr.below b2) H5.out h4 (hx.below b2) (hy.below b2) hl2 hl3 H7.out H9.out).mono ?_
        rintro e w3 ⟨rfl, b3⟩
        go_wp2
        go_returns
        exact ⟨rfl, bstep b2 b3⟩
      · have hv3 : decide (valA cs ts m3 = cstA T zs m3) = v := by rw [← hv]; simp [pcV, hq, hT]
        have heq := eq_of_dec hv3
        obtain ⟨y1, e1⟩ : ∃ y, valA cs ts m3 = y := ⟨_, rfl⟩
        obtain ⟨y2, e2⟩ : ∃ y, cstA T zs m3 = y := ⟨_, rfl⟩
        rw [e1, e2] at heq
        have E1 := Lib.hid e1
        have E2 := Lib.hid e2
        clear hq hv ha hk hq2 hv2 h5 h7 h9 h10 h11 h1 h2 k2 k3 hv3 e1 e2
        go_wp2_with fail
        refine (l16Tasks_is HA.out _ hr hn hz hl1 hm1 hd).mono ?_
        rintro e w1 ⟨rfl, b1⟩
        go_wp2_with fail
        refine (l16Asked_is HK.out _ (hr.below b1) hn (hx.below b1) (hy.below b1) hl2 hl3 hm2 hm3).mono ?_
        rintro e w2 ⟨rfl, hb2⟩
        have b2 := bstep b1 hb2
        go_wp2_with fail
        refine (l16Fair_is HF.out _ (hr.below b2) H5.out h4 (hx.below b2) (hy.below b2) hl2 hl3 H7.out H9.out).mono ?_
        rintro e w3 ⟨rfl, hb3⟩
        have b3 := bstep b2 hb3
        go_wp2_with fail
        refine (l16Value_any _ _ _ _ _ cs ts _ (hx.below b3) (hy.below b3) hl2 hl3 h4 H7.out H9.out).mono ?_
        rintro e w4 ⟨rfl, hb4⟩
        have b4 := bstep b3 hb4
        rw [E1.out]
        go_wp2_with fail
        refine (l16Cost_any _ _ _ _ _ _ T zs _ (hr.below b4) HC.out h4 (hz.below b4) hl1 (Nat.le_refl _) H10.out).mono ?_
        rintro e w5 ⟨rfl, b5⟩
        rw [E2.out]
        go_wp2
        go_returns
        exact ⟨rfl, bstep b4 b5⟩
theorem Proves_is {q v : Bool} {A B C D : Option Addr} {n m1 m2 m3 c d1 d2 d3 : Nat} {T : List (List Int)} {zs cs ts : List Int} (hq : pcB T zs cs ts = q) (hv : pcV T zs cs ts = v) (w : World) (hr : RdT w A n T) (hn : n ≤ 1048576) (hM : ∀ i, i < n → (row T i).length ≤ 1048576)
    (hz : Rd w 1 B m1 (ints zs)) (hx : Rd w 1 C m2 (ints cs)) (hy : Rd w 1 D m3 (ints ts)) (hl1 : zs.length = m1) (hl2 : cs.length = m2) (hl3 : ts.length = m3) (hm1 : m1 ≤ 1048576) (hm2 : m2 ≤ 1048576) (hm3 : m3 ≤ 1048576) :
    Calls Try.prog 37 #[.slice A n c, .slice B m1 d1, .slice C m2 d2, .slice D m3 d3] w fun e w' => e = .returned (.tuple #[.bool v, .bool q]) ∧ Below w.heap.size w w' := by
  have hT := hr.1
  have HM := Lib.hid hM
  clear hM
  obtain ⟨y1, e1⟩ : ∃ y, pvI T cs ts = y := ⟨_, rfl⟩
  have E1 := Lib.hid e1
  go_enter Try.func37, Try.ntmps37
  rcases hf : fairV T cs ts with _ | _
  · obtain rfl : q = false := by rw [← hq]; simp [pcB, hf]
    obtain rfl : v = false := by rw [← hv]; simp [pcV, hq]
    have HF := Lib.hid hf
    clear hq hv hf e1
    go_wp2_with fail
    refine (PriceValue_is HF.out E1.out _ hr hn HM.out hx hy hl2 hl3 hm2 hm3).mono ?_
    rintro e w1 ⟨rfl, b1⟩
    go_wp2
    go_returns
    exact ⟨rfl, b1⟩
  · have hq2 : asB n zs = q := by rw [← hq]; simp [pcB, hf, hT]
    have HF := Lib.hid hf
    have HQ := Lib.hid hq2
    cases q
    · obtain rfl : v = false := by rw [← hv]; simp [pcV, hq]
      clear hq hv hf e1 hq2
      go_wp2_with fail
      refine (PriceValue_is HF.out E1.out _ hr hn HM.out hx hy hl2 hl3 hm2 hm3).mono ?_
      rintro e w1 ⟨rfl, b1⟩
      go_wp2_with fail
      refine (isAssignment_is HQ.out _ (hz.below b1) hl1 hm1 hn).mono ?_
      rintro e w2 ⟨rfl, b2⟩
      go_wp2
      go_returns
      exact ⟨rfl, bstep b1 b2⟩
    · have h1 := (ask_parts (fair_parts hf hT).1 hT).1
      obtain ⟨h4, _, _⟩ := ct_sq h1 hT
      obtain ⟨h3, h10, h11⟩ := asB_parts hq2
      obtain rfl : m1 = n := by omega
      have hv3 : decide (valA cs ts m1 = cstA T zs m1) = v := by rw [← hv]; simp [pcV, hq, hT]
      have e3 : valA cs ts m1 = y1 := by rw [← e1]; simp [pvI, hf, hT]
      have heq := eq_of_dec hv3
      obtain ⟨y2, e2⟩ : ∃ y, cstA T zs m1 = y := ⟨_, rfl⟩
      rw [e3, e2] at heq
      have E2 := Lib.hid e2
      have HC := Lib.hid (ct_cells h1 hT)
      have H10 := Lib.hid h10
      clear hq hv hf e1 hq2 h1 h10 h11 hv3 e2 e3
      go_wp2_with fail
      refine (PriceValue_is HF.out E1.out _ hr hn HM.out hx hy hl2 hl3 hm2 hm3).mono ?_
      rintro e w1 ⟨rfl, b1⟩
      go_wp2_with fail
      refine (isAssignment_is HQ.out _ (hz.below b1) hl1 hm1 hn).mono ?_
      rintro e w2 ⟨rfl, hb2⟩
      have b2 := bstep b1 hb2
      go_wp2_with fail
      refine (cost_any _ _ _ _ _ _ T zs _ (hr.below b2) HC.out h4 (hz.below b2) hl1 (Nat.le_refl _) H10.out).mono ?_
      rintro e w3 ⟨rfl, b3⟩
      rw [E2.out]
      go_wp2
      go_returns
      exact ⟨rfl, bstep b2 b3⟩
end Go.Proofs.Ytallgjobljkgnaa
