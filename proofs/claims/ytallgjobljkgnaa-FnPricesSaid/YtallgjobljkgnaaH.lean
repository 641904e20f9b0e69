/-
  PriceValue of the reference and of the program. Conditions: lengths within the bound of a slice.
-/
import Derived.Test.YtallgjobljkgnaaE
namespace Go.Proofs.Ytallgjobljkgnaa
open Go.RowKit
set_option maxRecDepth 100000
set_option maxHeartbeats 1000000

def valA (cs ts : List Int) : Nat → Int
  | 0 => 0
  | k + 1 => valA cs ts k + (cs.getD k 0 + ts.getD k 0)
theorem valA_step {cs ts : List Int} {k : Nat} {u v : Int} (hk : k < cs.length) (hu : cs[k] = u) (hk' : k < ts.length) (hv : ts[k] = v) : valA cs ts (k + 1) = valA cs ts k + (u + v) := by
  show _ + (cs.getD k 0 + ts.getD k 0) = _
  rw [getD_of hk hu, getD_of hk' hv]
theorem valA_bd {cs ts : List Int} (h : cs.all prcP = true) (h' : ts.all prcP = true) : ∀ k, k ≤ cs.length → k ≤ ts.length → -200 * (k : Int) ≤ valA cs ts k ∧ valA cs ts k ≤ 200 * (k : Int)
  | 0, _, _ => by simp [valA]
  | k + 1, h1, h2 => by
    have ih := valA_bd h h' k (by omega) (by omega)
    have b1 := prc_bd (List.all_eq_true.1 h cs[k] (List.getElem_mem _))
    have b2 := prc_bd (List.all_eq_true.1 h' ts[k] (List.getElem_mem _))
    rw [valA_step (k := k) (by omega) rfl (by omega) rfl]
    omega
def pvI (T : List (List Int)) (cs ts : List Int) : Int := if fairV T cs ts = true then valA cs ts T.length else 0
theorem l16Value_any (B C : Option Addr) (n c' c'' : Nat) (cs ts : List Int) (w : World) (hx : Rd w 1 B n (ints cs)) (hy : Rd w 1 C n (ints ts)) (hl : cs.length = n) (hl' : ts.length = n) (hn : n ≤ 5) (hb : cs.all prcP = true) (hb' : ts.all prcP = true) :
    Calls Try.prog 69 #[.slice B n c', .slice C n c''] w fun e w' => e = .returned (.int .i64 (valA cs ts n)) ∧ Below w.heap.size w w' := by
  have HB := Lib.hid hb
  have HB' := Lib.hid hb'
  clear hb hb'
  go_enter Try.func69, Try.ntmps69
  go_wp2_with fail
  go_loopw [5, 6] (fun s i wr => ∃ k : Nat, k ≤ n ∧ i = .int .i64 k ∧ s = .int .i64 (valA cs ts k) ∧ Below w.heap.size w wr) (fun _ i _ => n - (intOf i).toNat)
  case atStart => exact ⟨0, Nat.zero_le _, rfl, rfl, Below.refl _ _⟩
  case round =>
    obtain ⟨k, hk, rfl, rfl, hW⟩ := hrel
    by_cases hlt : k < n
    · obtain ⟨b, off, u, rfl, hbl, hu, d0⟩ := ints_at hx hW hl hlt
      obtain ⟨b2, off2, v, rfl, hbl2, hv, d1⟩ := ints_at hy hW hl' hlt
      have s1 : b < wr.heap.size := Nat.lt_of_lt_of_le hbl hW.size
      have s2 : b2 < wr.heap.size := Nat.lt_of_lt_of_le hbl2 hW.size
      have bu := prc_bd (List.all_eq_true.1 HB.out u (hu ▸ List.getElem_mem (by omega)))
      have bv := prc_bd (List.all_eq_true.1 HB'.out v (hv ▸ List.getElem_mem (by omega)))
      have bd := valA_bd HB.out HB'.out k (by omega) (by omega)
      have hst := valA_step (show k < cs.length by omega) hu (show k < ts.length by omega) hv
      obtain ⟨y, hy2⟩ : ∃ y, valA cs ts k = y := ⟨_, rfl⟩
      rw [hy2] at hst bd ⊢
      have HS := Lib.hid hst
      have i1 : (k : Int) < (n : Int) := by omega
      have i2 : (0 : Int) ≤ (k : Int) := by omega
      clear hst hu hv hy2
      go_wp2
      (refine wp_region_bel (by kernel_rfl) (by kernel_rfl) ?_; (repeat (go_big_quiet_step ((first | fail)))); refine wpQuiet_nil ?_; intro w' hw'; have hb := below_of hw'; clear hw'; (try clear cW fW zW); (first | (have bW := bstep bW hb) | (have bW := bstep (bdrew bW) hb) | (have bW := bstep (balloc bW _) hb) | (have bW := bstep (bdrewN bW _) hb) | (have bW := hb)); clear hb; obtain ⟨cW, fW⟩ := bcell bW; have zW := bsize bW)
      go_wp2
      go_roundw
      case rel => exact ⟨k + 1, by omega, by go_num, by rw [HS.out]; go_num, bstep hW bW⟩
      case measure => simp [intOf]; omega
    · have hkn : k = n := by omega
      subst hkn
      go_wp2
      go_returns
      exact ⟨rfl, hW⟩
theorem sPriceValue_is {q : Bool} {v : Int} {A B C : Option Addr} {n m1 m2 c c' c'' : Nat} {T : List (List Int)} {cs ts : List Int} (hq : fairV T cs ts = q) (hv : pvI T cs ts = v) (w : World) (hr : RdT w A n T) (hn : n ≤ 1048576)
    (hx : Rd w 1 B m1 (ints cs)) (hy : Rd w 1 C m2 (ints ts)) (hl1 : cs.length = m1) (hl2 : ts.length = m2) (hm1 : m1 ≤ 1048576) (hm2 : m2 ≤ 1048576) :
    Calls Try.prog 34 #[.slice A n c, .slice B m1 c', .slice C m2 c''] w fun e w' => e = .returned (.tuple #[.int .i64 v, .bool q]) ∧ Below w.heap.size w w' := by
  have hl := hr.1
  go_enter Try.func34, Try.ntmps34
  rcases ha : askB T cs ts with _ | _
  · obtain rfl : q = false := by rw [← hq]; simp [fairV, ha]
    obtain rfl : v = 0 := by rw [← hv]; simp [pvI, hq]
    clear hv hq
    go_wp2_with fail
    refine (l16Asked_is ha _ hr hn hx hy hl1 hl2 hm1 hm2).mono ?_
    rintro e w1 ⟨rfl, b1⟩
    go_wp2
    go_returns
    exact ⟨rfl, b1⟩
  · obtain ⟨h1, h2, h3⟩ := ask_parts ha hl
    obtain ⟨h4, _, h5⟩ := ct_sq h1 hl
    obtain ⟨h6, h7⟩ := prcRow_of' h2
    obtain ⟨h8, h9⟩ := prcRow_of' h3
    obtain rfl : m1 = n := by omega
    obtain rfl : m2 = m1 := by omega
    have hv2 : frK T cs ts m2 m2 = q := by rw [← hq]; simp [fairV, ha, hl]
    have HV := Lib.hid hv2
    have H5 := Lib.hid h5
    clear hv2 h5
    cases q
    · obtain rfl : v = 0 := by rw [← hv]; simp [pvI, hq]
      clear hv hq
      go_wp2_with fail
      refine (l16Asked_is ha _ hr hn hx hy hl1 hl2 hm1 hm2).mono ?_
      rintro e w1 ⟨rfl, b1⟩
      go_wp2_with fail
      refine (l16Fair_is HV.out _ (hr.below b1) H5.out h4 (hx.below b1) (hy.below b1) hl1 hl2 h7 h9).mono ?_
      rintro e w2 ⟨rfl, b2⟩
      go_wp2
      go_returns
      exact ⟨rfl, bstep b1 b2⟩
    · have hv3 : valA cs ts m2 = v := by rw [← hv]; simp [pvI, hq, hl]
      have HV3 := Lib.hid hv3
      clear hv hq hv3
      go_wp2_with fail
      refine (l16Asked_is ha _ hr hn hx hy hl1 hl2 hm1 hm2).mono ?_
      rintro e w1 ⟨rfl, b1⟩
      go_wp2_with fail
      refine (l16Fair_is HV.out _ (hr.below b1) H5.out h4 (hx.below b1) (hy.below b1) hl1 hl2 h7 h9).mono ?_
      rintro e w2 ⟨rfl, hb2⟩
      have b2 := bstep b1 hb2
      go_wp2_with fail
      refine (l16Value_any _ _ _ _ _ cs ts _ (hx.below b2) (hy.below b2) hl1 hl2 h4 h7 h9).mono ?_
      rintro e w3 ⟨rfl, b3⟩
      rw [HV3.out]
      go_wp2
      go_returns
      exact ⟨rfl, bstep b2 b3⟩
theorem PriceValue_is {q : Bool} {v : Int} {A B C : Option Addr} {n m1 m2 c c' c'' : Nat} {T : List (List Int)} {cs ts : List Int} (hq : fairV T cs ts = q) (hv : pvI T cs ts = v) (w : World) (hr : RdT w A n T) (hn : n ≤ 1048576) (hm : ∀ i, i < n → (row T i).length ≤ 1048576)
    (hx : Rd w 1 B m1 (ints cs)) (hy : Rd w 1 C m2 (ints ts)) (hl1 : cs.length = m1) (hl2 : ts.length = m2) (hm1 : m1 ≤ 1048576) (hm2 : m2 ≤ 1048576) :
    Calls Try.prog 33 #[.slice A n c, .slice B m1 c', .slice C m2 c''] w fun e w' => e = .returned (.tuple #[.int .i64 v, .bool q]) ∧ Below w.heap.size w w' := by
  have hl := hr.1
  have HM := Lib.hid hm
  clear hm
  go_enter Try.func33, Try.ntmps33
  obtain ⟨a, ha⟩ : ∃ a, askB T cs ts = a := ⟨_, rfl⟩
  cases q
  · obtain rfl : v = 0 := by rw [← hv]; simp [pvI, hq]
    have HA := Lib.hid ha
    have HQ := Lib.hid hq
    clear hv ha hq
    go_wp2_with fail
    refine (AreFair_is HA.out HQ.out _ hr hn HM.out hx hy hl1 hl2 hm1 hm2).mono ?_
    rintro e w1 ⟨rfl, b1⟩
    cases a
    · go_wp2
      go_returns
      exact ⟨rfl, b1⟩
    · go_wp2
      go_returns
      exact ⟨rfl, b1⟩
  · obtain rfl : a = true := by
      cases a
      · simp [fairV, ha] at hq
      · rfl
    obtain ⟨h1, h2, h3⟩ := ask_parts ha hl
    obtain ⟨h4, _, _⟩ := ct_sq h1 hl
    obtain ⟨h6, h7⟩ := prcRow_of' h2
    obtain ⟨h8, h9⟩ := prcRow_of' h3
    obtain rfl : m1 = n := by omega
    obtain rfl : m2 = m1 := by omega
    have hv3 : valA cs ts m2 = v := by rw [← hv]; simp [pvI, hq, hl]
    have HV3 := Lib.hid hv3
    have HA := Lib.hid ha
    have HQ := Lib.hid hq
    have HB := Lib.hid h7
    have HB' := Lib.hid h9
    clear hv hq hv3 ha h1 h2 h3 h7 h9
    go_wp2_with fail
    refine (AreFair_is HA.out HQ.out _ hr hn HM.out hx hy hl1 hl2 hm1 hm2).mono ?_
    rintro e w1 ⟨rfl, b1⟩
    go_wp2_with fail
    go_loopw [10, 27] (fun s i wr => ∃ k : Nat, k ≤ m2 ∧ i = .int .i64 k ∧ s = .int .i64 (valA cs ts k) ∧ Below w.heap.size w wr) (fun _ i _ => m2 - (intOf i).toNat)
    case atStart => exact ⟨0, Nat.zero_le _, rfl, rfl, b1⟩
    case round =>
      obtain ⟨k, hk, rfl, rfl, hW⟩ := hrel
      by_cases hlt : k < m2
      · obtain ⟨b, off, u, rfl, hbl, hu, d0⟩ := ints_at hx hW hl1 hlt
        obtain ⟨b2, off2, v2, rfl, hbl2, hv, d1⟩ := ints_at hy hW hl2 hlt
        have s1 : b < wr.heap.size := Nat.lt_of_lt_of_le hbl hW.size
        have s2 : b2 < wr.heap.size := Nat.lt_of_lt_of_le hbl2 hW.size
        have bu := prc_bd (List.all_eq_true.1 HB.out u (hu ▸ List.getElem_mem (by omega)))
        have bv := prc_bd (List.all_eq_true.1 HB'.out v2 (hv ▸ List.getElem_mem (by omega)))
        have bd := valA_bd HB.out HB'.out k (by omega) (by omega)
        have hst := valA_step (show k < cs.length by omega) hu (show k < ts.length by omega) hv
        obtain ⟨y, hy2⟩ : ∃ y, valA cs ts k = y := ⟨_, rfl⟩
        rw [hy2] at hst bd ⊢
        have HS := Lib.hid hst
        have i1 : (k : Int) < (m2 : Int) := by omega
        have i2 : (0 : Int) ≤ (k : Int) := by omega
        clear hst hu hv hy2
        go_wp2
        (refine wp_region_bel (by kernel_rfl) (by kernel_rfl) ?_; (repeat (go_big_quiet_step ((first | fail)))); refine wpQuiet_nil ?_; intro w' hw'; have hb := below_of hw'; clear hw'; (try clear cW fW zW); (first | (have bW := bstep bW hb) | (have bW := bstep (bdrew bW) hb) | (have bW := bstep (balloc bW _) hb) | (have bW := bstep (bdrewN bW _) hb) | (have bW := hb)); clear hb; obtain ⟨cW, fW⟩ := bcell bW; have zW := bsize bW)
        go_wp2
        go_roundw
        case rel => exact ⟨k + 1, by omega, by go_num, by rw [HS.out], bstep hW bW⟩
        case measure => simp [intOf]; omega
      · have hkn : k = m2 := by omega
        rw [hkn, HV3.out]
        have i1 : ¬ (m2 : Int) < (m2 : Int) := by omega
        go_wp2
        go_returns
        exact ⟨rfl, hW⟩
end Go.Proofs.Ytallgjobljkgnaa
