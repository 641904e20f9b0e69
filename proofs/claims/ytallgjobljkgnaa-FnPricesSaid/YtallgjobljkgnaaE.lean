/-
  AreFair of the reference and of the program. Conditions: lengths within the bound of a slice.
-/
import Derived.Test.YtallgjobljkgnaaD
namespace Go.Proofs.Ytallgjobljkgnaa
open Go.RowKit
set_option maxRecDepth 100000
set_option maxHeartbeats 1000000

def askB (T : List (List Int)) (cs ts : List Int) : Bool := ctB T && (prcRow T.length cs && prcRow T.length ts)
theorem ct_sq {T : List (List Int)} {n : Nat} (h : ctB T = true) (hl : T.length = n) : n ≤ 5 ∧ 1 ≤ n ∧ ∀ i, i < n → (row T i).length = n := by
  simp only [ctB, Bool.and_eq_true, hl] at h
  have h1 := inB_iff.1 h.1
  refine ⟨by omega, by omega, fun i hi => ?_⟩
  have := List.all_eq_true.1 h.2 _ (row_mem (T := T) (k := i) (by omega))
  simp only [rowP, Bool.and_eq_true, decide_eq_true_eq] at this
  exact this.1
theorem prcRow_of' {n : Nat} {zs : List Int} (h : prcRow n zs = true) : zs.length = n ∧ zs.all prcP = true := by
  simpa [prcRow] using h
theorem ask_parts {T : List (List Int)} {cs ts : List Int} {n : Nat} (h : askB T cs ts = true) (hl : T.length = n) : ctB T = true ∧ prcRow n cs = true ∧ prcRow n ts = true := by
  simp only [askB, Bool.and_eq_true, hl] at h
  exact ⟨h.1, h.2.1, h.2.2⟩
theorem l16Asked_is {q : Bool} {A B C : Option Addr} {n m1 m2 c c' c'' : Nat} {T : List (List Int)} {cs ts : List Int} (hq : askB T cs ts = q) (w : World) (hr : RdT w A n T) (hn : n ≤ 1048576)
    (hx : Rd w 1 B m1 (ints cs)) (hy : Rd w 1 C m2 (ints ts)) (hl1 : cs.length = m1) (hl2 : ts.length = m2) (hm1 : m1 ≤ 1048576) (hm2 : m2 ≤ 1048576) :
    Calls Try.prog 67 #[.slice A n c, .slice B m1 c', .slice C m2 c''] w fun e w' => e = .returned (.bool q) ∧ Below w.heap.size w w' := by
  have hl := hr.1
  go_enter Try.func67, Try.ntmps67
  rcases h1 : ctB T with _ | _
  · obtain rfl : q = false := by rw [← hq]; simp [askB, h1]
    clear hq
    go_wp2_with fail
    refine (l16Table_is h1 _ hr hn).mono ?_
    rintro e w1 ⟨rfl, b1⟩
    go_wp2
    go_returns
    exact ⟨rfl, b1⟩
  · rcases h2 : prcRow n cs with _ | _
    · obtain rfl : q = false := by rw [← hq]; simp [askB, hl, h2]
      clear hq
      go_wp2_with fail
      refine (l16Table_is h1 _ hr hn).mono ?_
      rintro e w1 ⟨rfl, b1⟩
      go_wp2_with fail
      refine (l16Prices_is h2 _ (hx.below b1) hl1 hm1 hn).mono ?_
      rintro e w2 ⟨rfl, b2⟩
      go_wp2
      go_returns
      exact ⟨rfl, bstep b1 b2⟩
    · obtain hq2 : prcRow n ts = q := by rw [← hq]; simp [askB, hl, h1, h2]
      clear hq
      go_wp2_with fail
      refine (l16Table_is h1 _ hr hn).mono ?_
      rintro e w1 ⟨rfl, b1⟩
      go_wp2_with fail
      refine (l16Prices_is h2 _ (hx.below b1) hl1 hm1 hn).mono ?_
      rintro e w2 ⟨rfl, b2⟩
      go_wp2_with fail
      refine (l16Prices_is hq2 _ (hy.below (bstep b1 b2)) hl2 hm2 hn).mono ?_
      rintro e w3 ⟨rfl, b3⟩
      go_wp2
      go_returns
      exact ⟨rfl, bstep (bstep b1 b2) b3⟩
def fairV (T : List (List Int)) (cs ts : List Int) : Bool := askB T cs ts && frK T cs ts T.length T.length
theorem sAreFair_is {q v : Bool} {A B C : Option Addr} {n m1 m2 c c' c'' : Nat} {T : List (List Int)} {cs ts : List Int} (hq : askB T cs ts = q) (hv : fairV T cs ts = v) (w : World) (hr : RdT w A n T) (hn : n ≤ 1048576)
    (hx : Rd w 1 B m1 (ints cs)) (hy : Rd w 1 C m2 (ints ts)) (hl1 : cs.length = m1) (hl2 : ts.length = m2) (hm1 : m1 ≤ 1048576) (hm2 : m2 ≤ 1048576) :
    Calls Try.prog 35 #[.slice A n c, .slice B m1 c', .slice C m2 c''] w fun e w' => e = .returned (.tuple #[.bool v, .bool q]) ∧ Below w.heap.size w w' := by
  have hl := hr.1
  go_enter Try.func35, Try.ntmps35
  cases q
  · obtain rfl : v = false := by rw [← hv]; simp [fairV, hq]
    clear hv
    go_wp2_with fail
    refine (l16Asked_is hq _ hr hn hx hy hl1 hl2 hm1 hm2).mono ?_
    rintro e w1 ⟨rfl, b1⟩
    go_wp2
    go_returns
    exact ⟨rfl, b1⟩
  · obtain ⟨h1, h2, h3⟩ := ask_parts hq hl
    obtain ⟨h4, _, h5⟩ := ct_sq h1 hl
    obtain ⟨h6, h7⟩ := prcRow_of' h2
    obtain ⟨h8, h9⟩ := prcRow_of' h3
    obtain rfl : m1 = n := by omega
    obtain rfl : m2 = m1 := by omega
    have hv2 : frK T cs ts m2 m2 = v := by rw [← hv]; simp [fairV, hq, hl]
    have HV := Lib.hid hv2
    have H5 := Lib.hid h5
    clear hv hv2 h5
    go_wp2_with fail
    refine (l16Asked_is hq _ hr hn hx hy hl1 hl2 hm1 hm2).mono ?_
    rintro e w1 ⟨rfl, b1⟩
    go_wp2_with fail
    refine (l16Fair_is HV.out _ (hr.below b1) H5.out h4 (hx.below b1) (hy.below b1) hl1 hl2 h7 h9).mono ?_
    rintro e w2 ⟨rfl, b2⟩
    go_wp2
    go_returns
    exact ⟨rfl, bstep b1 b2⟩
theorem two_rows {w : World} {B C : Option Addr} {m1 m2 c' c'' : Nat} {cs ts : List Int} {t : TypeId} (hx : Rd w 1 B m1 (ints cs)) (hy : Rd w 1 C m2 (ints ts)) (hl1 : cs.length = m1) (hl2 : ts.length = m2) :
    RdT (w.alloc (.cells #[.slice B m1 c', .slice C m2 c''] t)) (some ⟨w.heap.size, 0, none⟩) 2 [cs, ts] := by
  have hB := Bk.new w t [.slice B m1 c', .slice C m2 c'']
  have bb := balloc (Below.refl w.heap.size w) (.cells #[.slice B m1 c', .slice C m2 c''] t)
  refine ⟨rfl, fun _ => ⟨w.heap.size, 0, rfl, hB.lt, fun k hk => ?_⟩⟩
  match k, hk with
  | 0, _ => exact ⟨B, c', by rw [show (row [cs, ts] 0).length = m1 from hl1]; exact hB.cell 0, by rw [show (row [cs, ts] 0).length = m1 from hl1]; exact hx.below bb⟩
  | 1, _ => exact ⟨C, c'', by rw [show (row [cs, ts] 1).length = m2 from hl2]; exact hB.cell 1, by rw [show (row [cs, ts] 1).length = m2 from hl2]; exact hy.below bb⟩
theorem AreFair_is {q v : Bool} {A B C : Option Addr} {n m1 m2 c c' c'' : Nat} {T : List (List Int)} {cs ts : List Int} (hq : askB T cs ts = q) (hv : fairV T cs ts = v) (w : World) (hr : RdT w A n T) (hn : n ≤ 1048576) (hm : ∀ i, i < n → (row T i).length ≤ 1048576)
    (hx : Rd w 1 B m1 (ints cs)) (hy : Rd w 1 C m2 (ints ts)) (hl1 : cs.length = m1) (hl2 : ts.length = m2) (hm1 : m1 ≤ 1048576) (hm2 : m2 ≤ 1048576) :
    Calls Try.prog 20 #[.slice A n c, .slice B m1 c', .slice C m2 c''] w fun e w' => e = .returned (.tuple #[.bool v, .bool q]) ∧ Below w.heap.size w w' := by
  have hl := hr.1
  have hP : ∀ i, i < 2 → (row [cs, ts] i).length ≤ 1048576 := fun i hi => by
    match i, hi with
    | 0, _ => show cs.length ≤ _; omega
    | 1, _ => show ts.length ≤ _; omega
  have HP := Lib.hid hP
  clear hP
  go_enter Try.func20, Try.ntmps20
  rcases h1 : ctB T with _ | _
  · obtain rfl : q = false := by rw [← hq]; simp [askB, h1]
    obtain rfl : v = false := by rw [← hv]; simp [fairV, hq]
    clear hq hv
    go_wp2_with fail
    refine (IsCostTable_is h1 _ hr hn hm).mono ?_
    rintro e w1 ⟨rfl, b1⟩
    go_wp2
    go_returns
    exact ⟨rfl, b1⟩
  · have hpq : [cs, ts].all (prcRow n) = q := by rw [← hq]; simp [askB, h1, hl]
    have HPQ := Lib.hid hpq
    have HM := Lib.hid hm
    clear hpq hm
    cases q
    · obtain rfl : v = false := by rw [← hv]; simp [fairV, hq]
      clear hq hv
      go_wp2_with fail
      refine (IsCostTable_is h1 _ hr hn HM.out).mono ?_
      rintro e w1 ⟨rfl, b1⟩
      have hR := two_rows (c' := c') (c'' := c'') (t := 24) (hx.below b1) (hy.below b1) hl1 hl2
      have HR := Lib.hid hR
      clear hR
      go_wp2_with fail
      refine (arePrices_of HPQ.out _ HR.out hn (by omega) HP.out).mono ?_
      rintro e w2 ⟨rfl, b2⟩
      go_wp2
      go_returns
      exact ⟨rfl, bstep (balloc b1 _) b2⟩
    · obtain ⟨_, h2, h3⟩ := ask_parts hq hl
      obtain ⟨h4, _, h5⟩ := ct_sq h1 hl
      obtain ⟨h6, h7⟩ := prcRow_of' h2
      obtain ⟨h8, h9⟩ := prcRow_of' h3
      obtain rfl : m1 = n := by omega
      obtain rfl : m2 = m1 := by omega
      have hv2 : frK T cs ts m2 m2 = v := by rw [← hv]; simp [fairV, hq, hl]
      have HV := Lib.hid hv2
      have H5 := Lib.hid h5
      clear hv hv2 h5 hq
      go_wp2_with fail
      refine (IsCostTable_is h1 _ hr hn HM.out).mono ?_
      rintro e w1 ⟨rfl, b1⟩
      have hR := two_rows (c' := c') (c'' := c'') (t := 24) (hx.below b1) (hy.below b1) hl1 hl2
      have HR := Lib.hid hR
      clear hR
      go_wp2_with fail
      refine (arePrices_of HPQ.out _ HR.out hn (by omega) HP.out).mono ?_
      rintro e w2 ⟨rfl, hb2⟩
      have b2 := bstep (balloc b1 _) hb2
      go_wp2_with fail
      refine (fair_is HV.out _ (hr.below b2) H5.out h4 (hx.below b2) (hy.below b2) hl1 hl2 h7 h9).mono ?_
      rintro e w3 ⟨rfl, b3⟩
      go_wp2
      go_returns
      exact ⟨rfl, bstep b2 b3⟩
end Go.Proofs.Ytallgjobljkgnaa
