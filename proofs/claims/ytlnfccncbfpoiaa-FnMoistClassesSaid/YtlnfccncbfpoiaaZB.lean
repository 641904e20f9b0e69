/-
  MixMoisture of the reference and of the program. Conditions: lengths within the bound of a slice.
-/
import Derived.Test.YtlnfccncbfpoiaaZA
namespace Go.Proofs.Ytlnfccncbfpoiaa
open Go.RowKit
set_option maxRecDepth 100000
set_option maxHeartbeats 1000000

def bedP (z : FuelbedT) : Bool := bedB z.1 z.2
def prtP (x : Int) : Bool := inB x 0 100
def mixS (zs : List FuelbedT) (ps : List Int) : Nat → Int
  | 0 => 0
  | k + 1 => mixS zs ps k + ps.getD k 0 * (zs.getD k (0, 0)).2
def mixOk (zs : List FuelbedT) (ps : List Int) : Bool := (inB (zs.length : Int) 1 6 && decide (ps.length = zs.length)) && ((zs.all bedP && ps.all prtP) && !decide (sumL ps = 0))
def mixN (zs : List FuelbedT) (ps : List Int) : Int := if mixOk zs ps = true then (((mixS zs ps zs.length).toNat / Nat.gcd (mixS zs ps zs.length).toNat (sumL ps).toNat : Nat) : Int) else 0
def mixD (zs : List FuelbedT) (ps : List Int) : Int := if mixOk zs ps = true then (((sumL ps).toNat / Nat.gcd (mixS zs ps zs.length).toNat (sumL ps).toNat : Nat) : Int) else 0
theorem mix_no {zs : List FuelbedT} {ps : List Int} (h : mixOk zs ps = false) : mixN zs ps = 0 ∧ mixD zs ps = 0 := by simp [mixN, mixD, h]
theorem prt_bd {x : Int} (h : prtP x = true) : 0 ≤ x ∧ x ≤ 100 := inB_iff.1 h
theorem bedP_bd {l m : Int} (h : bedB l m = true) : 0 ≤ m ∧ m ≤ 400 := by simp [bedB, inB] at h; omega
theorem getD_of {α : Type} {xs : List α} {k : Nat} {d x : α} (hk : k < xs.length) (h : xs[k] = x) : xs.getD k d = x := by
  rw [List.getD_eq_getElem?_getD, List.getElem?_eq_getElem hk, h]; rfl
theorem mixS_step {zs : List FuelbedT} {ps : List Int} {k : Nat} {l m p : Int} (hk : k < zs.length) (hk' : k < ps.length) (hz : zs[k] = (l, m)) (hp : ps[k] = p) : mixS zs ps (k + 1) = mixS zs ps k + p * m := by
  show mixS zs ps k + ps.getD k 0 * (zs.getD k (0, 0)).2 = _
  rw [getD_of hk hz, getD_of hk' hp]
theorem prod_bd {p m : Int} (hp : 0 ≤ p ∧ p ≤ 100) (hm : 0 ≤ m ∧ m ≤ 400) : 0 ≤ p * m ∧ p * m ≤ 40000 :=
  ⟨Int.mul_nonneg hp.1 hm.1, by
    have h1 : p * m ≤ 100 * m := Int.mul_le_mul_of_nonneg_right hp.2 hm.1
    omega⟩
theorem mixS_bd {zs : List FuelbedT} {ps : List Int} (hz : zs.all bedP = true) (hp : ps.all prtP = true) : ∀ k, k ≤ zs.length → k ≤ ps.length → 0 ≤ mixS zs ps k ∧ mixS zs ps k ≤ 40000 * (k : Int)
  | 0, _, _ => by simp [mixS]
  | k + 1, h1, h2 => by
    have ih := mixS_bd hz hp k (by omega) (by omega)
    have e := mixS_step (zs := zs) (ps := ps) (k := k) (l := zs[k].1) (m := zs[k].2) (p := ps[k]) (by omega) (by omega) rfl rfl
    have b1 := List.all_eq_true.1 hz zs[k] (List.getElem_mem _)
    have b2 := List.all_eq_true.1 hp ps[k] (List.getElem_mem _)
    have b3 := prod_bd (prt_bd b2) (bedP_bd b1)
    rw [e]
    omega
theorem all_step {α : Type} {p : α → Bool} {xs : List α} {k : Nat} {x : α} (hk : k < xs.length) (hx : xs[k] = x) (h : (xs.take k).all p = true) (hp : p x = true) : (xs.take (k + 1)).all p = true := by
  rw [List.take_succ_eq_append_getElem hk, List.all_append, h, hx]; simp [hp]
theorem all_not {α : Type} {p : α → Bool} {xs : List α} {k : Nat} {x : α} (hk : k < xs.length) (hx : xs[k] = x) (hp : p x = false) : xs.all p = false := by
  rw [List.all_eq_false]
  exact ⟨xs[k], List.getElem_mem _, by rw [hx]; simp [hp]⟩
theorem all_whole {α : Type} {p : α → Bool} {xs : List α} {k : Nat} (hk : xs.length ≤ k) (h : (xs.take k).all p = true) : xs.all p = true := by
  rw [List.take_of_length_le hk] at h; exact h
theorem l20Bed_of {l m : Int} (v : Bool) (h : bedB l m = v) (w : World) : Calls Try.prog 36 #[.agg #[.int .i64 l, .int .i64 m]] w fun e w' => e = .returned (.bool v) ∧ Below w.heap.size w w' := by rw [← h]; exact l20Bed_any l m w
theorem l1In_of {n lo hi : Int} (v : Bool) (h : inB n lo hi = v) (w : World) : Calls Try.prog 58 #[.int .i64 n, .int .i64 lo, .int .i64 hi] w fun e w' => e = .returned (.bool v) ∧ w = w' := by rw [← h]; exact l1In_any n lo hi w
theorem in_of {n lo hi : Int} (v : Bool) (h : inB n lo hi = v) (w : World) : Calls Try.prog 39 #[.int .i64 n, .int .i64 lo, .int .i64 hi] w fun e w' => e = .returned (.bool v) ∧ w = w' := by rw [← h]; exact in_any n lo hi w
theorem sMix_is {q : Bool} {I D : Int} {zs : List FuelbedT} {ps : List Int} {A B : Option Addr} {n c m d : Nat} (hq : mixOk zs ps = q) (hI : mixN zs ps = I) (hD : mixD zs ps = D) (w : World) (hx : Rd w 2 A n (fubF zs)) (hy : Rd w 1 B m (ints ps)) (hl : zs.length = n) (hm : ps.length = m) (hn : n ≤ 1048576) (hn' : m ≤ 1048576) :
    Calls Try.prog 31 #[.slice A n c, .slice B m d] w fun e w' => e = .returned (.tuple #[.int .i64 I, .int .i64 D, .bool q]) ∧ Below w.heap.size w w' := by
  go_enter Try.func31, Try.ntmps31
  rcases h6 : inB (n : Int) 1 6 with _ | _
  · have e1 : mixOk zs ps = false := by simp [mixOk, hl, h6]
    obtain ⟨e2, e3⟩ := mix_no e1
    obtain rfl := e1.symm.trans hq
    obtain rfl := e2.symm.trans hI
    obtain rfl := e3.symm.trans hD
    clear e1 e2 e3 hq hI hD
    go_wp2_with (first | (go_at_call 58; refine (l1In_of false h6 _).mono ?_; rintro e w' ⟨rfl, rfl⟩))
    go_returns
    exact ⟨rfl, Below.refl _ _⟩
  · have h66 := inB_iff.1 h6
    by_cases hmn : m = n
    · subst hmn
      have hne : ((m : Int) != (m : Int)) = false := by simp
      go_wp2_with (first | (go_at_call 58; refine (l1In_of true h6 _).mono ?_; rintro e w' ⟨rfl, rfl⟩))
      go_loopw [7, 8, 9] (fun s t i wr => ∃ k : Nat, k ≤ m ∧ i = .int .i64 k ∧ s = .int .i64 (mixS zs ps k) ∧ t = .int .i64 (sumL (ps.take k)) ∧ (0 ≤ mixS zs ps k ∧ mixS zs ps k ≤ 40000 * (k : Int)) ∧ (0 ≤ sumL (ps.take k) ∧ sumL (ps.take k) ≤ 100 * (k : Int)) ∧ (zs.take k).all bedP = true ∧ (ps.take k).all prtP = true ∧ Below w.heap.size w wr) (fun _ _ i _ => m - (intOf i).toNat)
      case atStart => exact ⟨0, Nat.zero_le _, rfl, rfl, rfl, by simp [mixS], by simp [sumL], rfl, rfl, Below.refl _ _⟩
      case round =>
        obtain ⟨k, hk, rfl, rfl, rfl, hS, hT, hU, hV, hW⟩ := hrel
        obtain ⟨sv, hsv⟩ : ∃ v, mixS zs ps k = v := ⟨_, rfl⟩
        obtain ⟨tv, htv⟩ : ∃ v, sumL (ps.take k) = v := ⟨_, rfl⟩
        rw [hsv] at hS ⊢
        rw [htv] at hT ⊢
        have HU := Lib.hid hU
        have HV := Lib.hid hV
        have HSV := Lib.hid hsv
        have HTV := Lib.hid htv
        clear hU hV hsv htv
        by_cases hlt : k < m
        · obtain ⟨b, off, rfl, hbl, x0, x1, hz, c0, c1⟩ := fub_at hx hW hl hlt
          obtain ⟨b', off', p, rfl, hbl', hp, d0⟩ := ints_at hy hW hm hlt
          have hk2 : k < zs.length := by omega
          have hk3 : k < ps.length := by omega
          have i1 : (0 : Int) ≤ (k : Int) := by omega
          have i2 : (k : Int) < (m : Int) := by omega
          have s1 : b < wr.heap.size := Nat.lt_of_lt_of_le hbl hW.size
          have s2 : b' < wr.heap.size := Nat.lt_of_lt_of_le hbl' hW.size
          have HZ := Lib.hid hz
          have HP := Lib.hid hp
          clear hz hp
          rcases hv : bedB x0 x1 with _ | _
          · have e1 : mixOk zs ps = false := by simp [mixOk, all_not hk2 HZ.out (show bedP (x0, x1) = false from hv)]
            obtain ⟨e2, e3⟩ := mix_no e1
            obtain rfl := e1.symm.trans hq
            obtain rfl := e2.symm.trans hI
            obtain rfl := e3.symm.trans hD
            clear e1 e2 e3 hq hI hD
            go_wp2_with (first | (go_at_call 36; refine (l20Bed_of false hv _).mono ?_; rintro e w' ⟨rfl, hb⟩; (try clear cW fW zW); (first | (have bW := bstep bW hb) | (have bW := bstep (bdrew bW) hb) | (have bW := bstep (balloc bW _) hb) | (have bW := bstep (bdrewN bW _) hb) | (have bW := hb)); clear hb; obtain ⟨cW, fW⟩ := bcell bW; have zW := bsize bW))
            go_returns
            exact ⟨rfl, bstep hW bW⟩
          · rcases hv2 : inB p 0 100 with _ | _
            · have e1 : mixOk zs ps = false := by simp [mixOk, all_not hk3 HP.out (show prtP p = false from hv2)]
              obtain ⟨e2, e3⟩ := mix_no e1
              obtain rfl := e1.symm.trans hq
              obtain rfl := e2.symm.trans hI
              obtain rfl := e3.symm.trans hD
              clear e1 e2 e3 hq hI hD
              have d1 := fun (W : World) (hw : Below wr.heap.size wr W) => (hw.cell (p := ⟨b', off' + k, none⟩) s2).trans d0
              go_wp2_with fail
              refine (l20Bed_of true hv _).mono ?_
              rintro e w1 ⟨rfl, b1⟩
              have d2 := d1 w1 b1
              clear d1 d0
              go_wp2_with (first | (go_at_call 58; refine (l1In_of false hv2 _).mono ?_; rintro e w' ⟨rfl, rfl⟩))
              go_returns
              exact ⟨rfl, bstep hW b1⟩
            · have hbm := bedP_bd hv
              have hbp := prt_bd (show prtP p = true from hv2)
              have hpm := prod_bd hbp hbm
              have d1 := fun (W : World) (hw : Below wr.heap.size wr W) => (hw.cell (p := ⟨b', off' + k, none⟩) s2).trans d0
              have c2 := fun (W : World) (hw : Below wr.heap.size wr W) => (hw.cell (p := ⟨b, off + k * 2 + 1, none⟩) s1).trans c1
              have D1 := Lib.hid d1
              have C2 := Lib.hid c2
              clear d1 c2
              go_wp2_with fail
              refine (l20Bed_of true hv _).mono ?_
              rintro e w1 ⟨rfl, b1⟩
              clear c0 c1 d0
              have d0 := D1.out w1 b1
              have c1 := C2.out w1 b1
              have s3 := Nat.lt_of_lt_of_le s1 b1.size
              have s4 := Nat.lt_of_lt_of_le s2 b1.size
              obtain ⟨pm, hpm2⟩ : ∃ v, p * x1 = v := ⟨_, rfl⟩
              rw [hpm2] at hpm
              have hst := mixS_step hk2 hk3 HZ.out HP.out
              have hss := sumL_take hk3 HP.out
              rw [HSV.out, hpm2] at hst
              rw [HTV.out] at hss
              have HM := Lib.hid hst
              have HSS := Lib.hid hss
              clear hst hss
              go_wp2_with (first | (go_at_call 58; refine (l1In_of true hv2 _).mono ?_; rintro e w' ⟨rfl, rfl⟩))
              (refine wp_region_bel (by kernel_rfl) (by kernel_rfl) ?_; (repeat (go_big_quiet_step ((first | fail)))); refine wpQuiet_nil ?_; intro w' hw'; have hb := below_of hw'; clear hw'; (try clear cW fW zW); (first | (have bW := bstep bW hb) | (have bW := bstep (bdrew bW) hb) | (have bW := bstep (balloc bW _) hb) | (have bW := bstep (bdrewN bW _) hb) | (have bW := hb)); clear hb; obtain ⟨cW, fW⟩ := bcell bW; have zW := bsize bW)
              have d0 := (cW b' (off' + k) s4).trans d0
              go_wp2
              go_roundw
              case rel => exact ⟨k + 1, by omega, by go_num, by rw [HM.out], by rw [HSS.out], by rw [HM.out]; omega, by rw [HSS.out]; omega, all_step hk2 HZ.out HU.out (show bedP (x0, x1) = true from hv), all_step hk3 HP.out HV.out (show prtP p = true from hv2), bstep hW (bstep b1 bW)⟩
              case measure => simp [intOf]; omega
        · have hkm : k = m := by omega
          have a1 := all_whole (by omega) HU.out
          have a2 := all_whole (by omega) HV.out
          have e4 : sumL ps = tv := by rw [← HTV.out, List.take_of_length_le (by omega)]
          have e5 : mixS zs ps zs.length = sv := by rw [← HSV.out, hl, hkm]
          by_cases ht0 : tv = 0
          · have e1 : mixOk zs ps = false := by simp [mixOk, e4, ht0]
            obtain ⟨e2, e3⟩ := mix_no e1
            obtain rfl := e1.symm.trans hq
            obtain rfl := e2.symm.trans hI
            obtain rfl := e3.symm.trans hD
            subst ht0
            clear e1 e2 e3 hq hI hD a1 a2 e4 e5
            have i2 : ¬ (k : Int) < (m : Int) := by omega
            go_wp2
            go_returns
            exact ⟨rfl, hW⟩
          · obtain ⟨a, rfl⟩ : ∃ a : Nat, sv = (a : Int) := ⟨sv.toNat, by omega⟩
            obtain ⟨t, rfl⟩ : ∃ t : Nat, tv = (t : Int) := ⟨tv.toNat, by omega⟩
            have e1 : mixOk zs ps = true := by simp [mixOk, hl, h6, hm, a1, a2, e4]; omega
            have e2 : mixN zs ps = ((a / Nat.gcd a t : Nat) : Int) := by unfold mixN; rw [if_pos e1, e5, e4]; rfl
            have e3 : mixD zs ps = ((t / Nat.gcd a t : Nat) : Int) := by unfold mixD; rw [if_pos e1, e5, e4]; rfl
            obtain rfl := e1.symm.trans hq
            have e2 := e2.symm.trans hI
            have e3 := e3.symm.trans hD
            have t0 : 0 < t := by omega
            have ta : a ≤ 1000000000 := by omega
            have tb : t ≤ 1000000000 := by omega
            have hg : 0 < Nat.gcd a t := Nat.gcd_pos_of_pos_right _ t0
            have hC := l20Common_any a t ta tb
            obtain ⟨g, hgg⟩ : ∃ g, Nat.gcd a t = g := ⟨_, rfl⟩
            rw [hgg] at hg hC e2 e3
            have g0 : ¬ (g : Int) = 0 := by omega
            have HC := Lib.hid hC
            have E2 := Lib.hid e2
            have E3 := Lib.hid e3
            have i2 : ¬ (k : Int) < (m : Int) := by omega
            clear hC hgg e1 e2 e3 hq hI hD a1 a2 e4 e5
            go_wp2_with fail
            refine (HC.out _).mono ?_
            rintro e w1 ⟨rfl, b1⟩
            go_wp2
            (refine wp_region_bel (by kernel_rfl) (by kernel_rfl) ?_; (repeat (go_big_quiet_step ((first | fail)))); refine wpQuiet_nil ?_; intro w' hw'; have hb := below_of hw'; clear hw'; (try clear cW fW zW); (first | (have bW := bstep bW hb) | (have bW := bstep (bdrew bW) hb) | (have bW := bstep (balloc bW _) hb) | (have bW := bstep (bdrewN bW _) hb) | (have bW := hb)); clear hb; obtain ⟨cW, fW⟩ := bcell bW; have zW := bsize bW)
            go_wp2
            go_returns
            exact ⟨by rw [← E2.out, ← E3.out]; simp [wdiv g ta, wdiv g tb], bstep hW (bstep b1 bW)⟩
    · have e1 : mixOk zs ps = false := by simp [mixOk, hl, hm, hmn]
      obtain ⟨e2, e3⟩ := mix_no e1
      obtain rfl := e1.symm.trans hq
      obtain rfl := e2.symm.trans hI
      obtain rfl := e3.symm.trans hD
      have hne : ¬ (m : Int) = (n : Int) := by omega
      clear e1 e2 e3 hq hI hD
      go_wp2_with (first | (go_at_call 58; refine (l1In_of true h6 _).mono ?_; rintro e w' ⟨rfl, rfl⟩))
      go_returns
      exact ⟨rfl, Below.refl _ _⟩
end Go.Proofs.Ytlnfccncbfpoiaa
