/-
  FnMoistClasses, walked. Conditions: none beyond the layout of its argument.
-/
import Derived.Test.YtlnfccncbfpoiaaFM
import Derived.Test.YtlnfccncbfpoiaaCM
import Derived.Test.YtlnfccncbfpoiaaGL
import Derived.Test.YtlnfccncbfpoiaaW
namespace Go.Proofs.Ytlnfccncbfpoiaa
open Go.RowKit
set_option maxRecDepth 100000
set_option maxHeartbeats 4000000

theorem sum_part {zs : List Int} (h : ∀ x ∈ zs, 0 ≤ x ∧ x ≤ 1000000) (k : Nat) : 0 ≤ sumL (zs.take k) ∧ sumL (zs.take k) ≤ 1000000 * (k : Int) := by
  have := sumL_bd (xs := zs.take k) (B := 1000000) (by omega) (fun x hx => h x (List.mem_of_mem_take hx))
  have hl : ((zs.take k).length : Int) ≤ (k : Int) := by simp; omega
  omega
theorem rSum_any (A : Option Addr) (n c : Nat) (zs : List Int) (w : World) (hr : Rd w 1 A n (ints zs)) (hn : n ≤ 1000000) (hb : ∀ x ∈ zs, 0 ≤ x ∧ x ≤ 1000000) :
    Calls Try.prog 25 #[.slice A n c] w fun e w' => e = .returned (.int .i64 (sumL zs)) ∧ Below w.heap.size w w' := by
  have hl := hr.eq_len
  go_enter Try.func25, Try.ntmps25
  go_wp2
  go_loopw [3, 4] (fun s i wr => ∃ k : Nat, k ≤ n ∧ i = .int .i64 k ∧ s = .int .i64 (sumL (zs.take k)) ∧ Below w.heap.size w wr) (fun _ i _ => n - (intOf i).toNat)
  case atStart => exact ⟨0, Nat.zero_le _, rfl, by simp [sumL], Below.refl _ _⟩
  case round =>
    obtain ⟨k, hk, rfl, rfl, hW⟩ := hrel
    by_cases hlt : k < n
    · obtain ⟨b, off, rfl, hb1, hc1⟩ := hr.2 (by omega)
      have g1 : wr.cell? ⟨b, off + k, none⟩ = some (.int .i64 zs[k]) := (hW.cell (p := ⟨b, off + k, none⟩) hb1).trans (hc1 k _ (ints_get zs k (by omega)))
      have i1 : (0 : Int) ≤ (k : Int) := by omega
      have i2 : (k : Int) < (n : Int) := by omega
      have hs := sum_part hb k
      have hx := hb _ (List.getElem_mem (show k < zs.length by omega))
      have hst := sumL_takeD zs k (by omega)
      rw [getD_of (by omega) rfl] at hst
      have HS := Lib.hid hst
      obtain ⟨s, hs2⟩ : ∃ s, sumL (zs.take k) = s := ⟨_, rfl⟩
      rw [hs2] at hs ⊢
      have HS2 := Lib.hid hs2
      clear hc1 hst hs2
      go_wp2
      go_roundw
      case rel => exact ⟨k + 1, by omega, by go_num, by rw [HS.out, HS2.out], hW⟩
      case measure => simp [intOf]; omega
    · have e : k = n := by omega
      subst e
      go_wp2
      go_returns
      exact ⟨by simp [List.take_of_length_le (show zs.length ≤ k by omega)], hW⟩
theorem hc_small {l m : Int} {ts : List AirT} {L : List Int} (hL : hcL l m ts = L) (hn : ts.length ≤ 64) : ∀ x ∈ L, 0 ≤ x ∧ x ≤ 1000000 := by
  intro x hx
  rw [← hL] at hx
  unfold hcL at hx
  split at hx
  · simp only [hcR, List.mem_cons, List.not_mem_nil, or_false] at hx
    have b0 := cntA_bd (runA l m ts ts.length) 0 ts.length
    have b1 := cntA_bd (runA l m ts ts.length) 1 ts.length
    have b2 := cntA_bd (runA l m ts ts.length) 2 ts.length
    have b3 := cntA_bd (runA l m ts ts.length) 3 ts.length
    rcases hx with rfl | rfl | rfl | rfl <;> omega
  · cases hx
theorem step_all {bs : List FuelbedT} {k : Nat} {lo hi lo' hi' x0 x1 : Int} (h : ∀ j, j < k → lo ≤ (bs.getD j (0, 0)).2 ∧ (bs.getD j (0, 0)).2 ≤ hi) (hg : bs.getD k (0, 0) = (x0, x1)) (h1 : lo' ≤ lo) (h2 : lo' ≤ x1) (h3 : hi ≤ hi') (h4 : x1 ≤ hi') :
    ∀ j, j < k + 1 → lo' ≤ (bs.getD j (0, 0)).2 ∧ (bs.getD j (0, 0)).2 ≤ hi' := by
  intro j hj
  by_cases e : j = k
  · subst e; rw [hg]; exact ⟨h2, h4⟩
  · obtain ⟨a, b⟩ := h j (by omega)
    omega
theorem prod_bd600 {x y : Int} (h1 : 0 ≤ x ∧ x ≤ 400) (h2 : 0 ≤ y ∧ y ≤ 600) : 0 ≤ x * y ∧ x * y ≤ 240000 :=
  ⟨Int.mul_nonneg h1.1 h2.1, by have := Int.mul_le_mul h1.2 h2.2 h2.1 (by omega); omega⟩
theorem fnMoistClasses_walk (A : Option Addr) (n c : Nat) (zs : List Int) (w : World) (hr : Rd w 1 A n (zs.flatMap (fun n => [Value.int .u8 n]))) (hl : zs.length = n) (hn : n ≤ 9223372036854775807) (ok : ∀ z ∈ zs, 0 ≤ z ∧ z ≤ 255) :
    Calls Try.prog 4 #[.slice A n c] w fun e w' => e = .returned (.bool true) ∧ Below w.heap.size w w' := by
  by_cases hbig : 65536 < n
  · have d1 : decide ((65536 : Int) < (n : Int)) = true := decide_eq_true (by omega)
    go_enter Try.func4, Try.ntmps4
    go_wp2_with (go_at_call 5; refine (rBig_is _ d1 _).mono ?_; rintro e w' ⟨rfl, rfl⟩)
    go_returns
    exact ⟨rfl, Below.refl _ _⟩
  · have hc := code_of hr hl (by omega) ok
    have d1 : decide ((65536 : Int) < (n : Int)) = false := decide_eq_false (by omega)
    clear hr hl ok
    have bW : Below w.heap.size w w := Below.refl _ _
    go_enter Try.func4, Try.ntmps4
    go_upto_region 4 with (first | (go_at_call 5; refine (rBig_is _ d1 _).mono ?_; rintro e w' ⟨rfl, rfl⟩) | (go_at_call 20; refine (DrawDriestHour_any A n c _ _ hc).mono ?_; rintro e w' ⟨l, m, A', n', c', ts, rfl, ⟨hl, hm, hn', htl, hr, hz, _⟩, hb⟩; have bW := bstep bW hb))
    obtain ⟨d3, e_d3⟩ : ∃ d, w'.heap.size = d := ⟨_, rfl⟩
    rw [e_d3]
    have s3 : w.heap.size ≤ d3 := by have := bW.size; omega
    refine wp_genC (fun W => Below w.heap.size w W ∧ Bk W d3 25 [.int .i64 l, .int .i64 m] ∧ Rd W 3 A' n' (airF ts)) ⟨by (repeat' (first | (with_reducible exact Below.refl _ _) | (with_reducible assumption) | (with_reducible refine balloc ?_ _) | (with_reducible refine bdrew ?_) | (with_reducible refine bdrewN ?_ _) | (with_reducible refine bstep ?_ (by assumption)) | (with_reducible refine bset ?_ ?_ _) | (exact Below.size (by assumption)) | go_size)), by (repeat (first | with_reducible assumption | exact Bk.new' (by first | assumption | rfl | (simp [*]; done) | (simp; omega)) | with_reducible refine Bk.alloc ?_ _)), hr.below (balloc (Below.refl _ _) _)⟩ ?_
    clear e_d3
    intro W ⟨bW, k3, hr⟩
    have ck3_0 := k3.cell 0
    have ck3_1 := k3.cell 1
    have lk3 := k3.lt
    simp only [List.getElem?_cons_zero, List.getElem?_cons_succ] at ck3_0 ck3_1
    obtain ⟨at1, h1⟩ : ∃ q, dhI l m ts = q := ⟨_, rfl⟩
    obtain ⟨M, h2⟩ : ∃ q, dhM l m ts = q := ⟨_, rfl⟩
    obtain ⟨good, h3⟩ : ∃ q, dhB l m ts = q := ⟨_, rfl⟩
    obtain ⟨q, hq⟩ : ∃ q, mrB l m ts = q := ⟨_, rfl⟩
    obtain ⟨L, hL⟩ : ∃ q, hcL l m ts = q := ⟨_, rfl⟩
    have HA := fun W : World => fun (h : Rd W 3 A' n' (airF ts)) => DriestHour_any l m A' n' c' ts W h htl (by omega)
    have HS := fun W : World => fun (h : Rd W 3 A' n' (airF ts)) => sDriestHour_any l m A' n' c' ts W h htl (by omega)
    simp only [h1, h2, h3] at HA HS
    have hcl : good = true → _ := fun e => class_law (h3.trans e) h2 hL
    have hsm := hc_small hL (by omega)
    have hsum : q = true → sumL L = (ts.length : Int) := fun e => by rw [← hL]; exact hc_sum (hq.trans e)
    have hLn := hcL_len l m ts
    rw [hL] at hLn
    have HQ := Lib.hid hq
    have HL := Lib.hid hL
    have HC := Lib.hid hcl
    have HM := Lib.hid hsum
    have HB := Lib.hid hsm
    have HT := Lib.hid htl
    clear h1 h2 h3 hq hL hcl hsum hsm
    go_upto_region 5 with (first | (go_at_call 21; refine (HA _ hr).mono ?_; rintro e w' ⟨rfl, hb⟩; have k3 := below_blk hb k3; have bW := bstep bW hb; have hr := hr.below hb))
    have ck3_0 := k3.cell 0
    have ck3_1 := k3.cell 1
    have lk3 := k3.lt
    simp only [List.getElem?_cons_zero, List.getElem?_cons_succ] at ck3_0 ck3_1
    go_upto_region 8 with (first | (go_at_call 22; refine (HS _ hr).mono ?_; rintro e w' ⟨rfl, hb⟩; have k3 := below_blk hb k3; have bW := bstep bW hb; have hr := hr.below hb))
    have ck3_0 := k3.cell 0
    have ck3_1 := k3.cell 1
    have lk3 := k3.lt
    simp only [List.getElem?_cons_zero, List.getElem?_cons_succ] at ck3_0 ck3_1
    go_upto_region 9 with (first | (go_at_call 23; refine (HoursInClass_is HQ.out HL.out _ hr HT.out (by omega)).mono ?_; rintro e w' ⟨v, rfl, hO, hb⟩; have k3 := below_blk hb k3; have bW := bstep bW hb; have hr := hr.below hb; obtain ⟨A1, c1, rfl, hr1, _⟩ := own_rd hO))
    have ck3_0 := k3.cell 0
    have ck3_1 := k3.cell 1
    have lk3 := k3.lt
    simp only [List.getElem?_cons_zero, List.getElem?_cons_succ] at ck3_0 ck3_1
    go_upto_region 10 with (first | (go_at_call 24; refine (sHoursInClass_is HQ.out HL.out _ hr HT.out (by omega)).mono ?_; rintro e w' ⟨v, rfl, hO, hb⟩; have k3 := below_blk hb k3; have bW := bstep bW hb; have hr := hr.below hb; have hr1 := hr1.below hb; obtain ⟨A2, c2, rfl, hr2, _⟩ := own_rd hO))
    refine wp_genC (fun V => Below w.heap.size w V ∧ Rd V 1 A1 L.length (ints L) ∧ Rd V 1 A2 L.length (ints L)) ⟨bW, hr1, hr2⟩ ?_
    intro V ⟨bV, hr1V, hr2V⟩
    go_cut [98] (fun s98 wx => s98 = .bool false ∧ Below V.heap.size V wx)
    case first =>
      rcases q with _ | _
      · go_wp2_with (first | (go_at_call 16; refine (rInts_same _ hr1V hr2V (by omega)).mono ?_; rintro e w1 ⟨rfl, hb⟩))
        go_meet
        exact ⟨rfl, hb⟩
      · go_wp2_with (first | (go_at_call 16; refine (rInts_same _ hr1V hr2V (by omega)).mono ?_; rintro e w1 ⟨rfl, hb⟩) | (go_at_call 25; refine (rSum_any A1 L.length c1 L _ (hr1V.below hb) (by omega) HB.out).mono ?_; rintro e w2 ⟨rfl, hb2⟩; rw [HM.out (by trivial), HT.out]))
        go_meet
        exact ⟨rfl, bstep hb hb2⟩
    case rest =>
      obtain ⟨rfl, bVc⟩ := hcut
      go_upto_if 99 with fail
      have bW := bstep bV bVc
      have hr1 := hr1V.below bVc
      refine wp_genC (fun V => Below w.heap.size w V ∧ Rd V 1 A1 L.length (ints L)) ⟨bW, hr1⟩ ?_
      clear bW hr1 bVc
      intro V2 ⟨bV2, hr12⟩
      go_cut [15, 16, 17] (fun s15 s16 s17 wx => Below V2.heap.size V2 wx)
      case first =>
        rcases good with _ | _
        · go_wp2
          go_meet
          exact Below.refl _ _
        · obtain ⟨hM4, hq4, j, hj, hj4, hL4, hnz, hzz⟩ := HC.out (by trivial)
          have hcj : classOfI M = (j : Int) := by simp [classOfI, hM4, hj]
          have HK := fun W : World => ClassOf_any M W
          simp only [hcj, hM4] at HK
          obtain ⟨b, off, rfl, hbl, hcell⟩ := int_at hr12 (Below.refl _ _) (by omega)
          have hcj2 := hcell j (by omega)
          obtain ⟨y, hy⟩ : ∃ y, L.getD j 0 = y := ⟨_, rfl⟩
          rw [hy] at hcj2 hnz
          have i1 : (0 : Int) ≤ (j : Int) := by omega
          have i2 : (j : Int) < (L.length : Int) := by omega
          have i3 : decide ((j : Int) < 0) = false := decide_eq_false (by omega)
          have i4 : decide ((L.length : Int) ≤ (j : Int)) = false := decide_eq_false (by omega)
          have i5 : (y == (0 : Int)) = false := beq_false_of_ne hnz
          have HZ := Lib.hid hzz
          have HE := Lib.hid hcell
          have b2 : Below V2.heap.size V2 V2 := Below.refl _ _
          have HL4 := Lib.hid hL4
          clear hzz hcell hcj hM4 hq4 hj hy hL4
          go_wp2_with (go_at_call 26; refine (HK _).mono ?_; rintro e w' ⟨rfl, rfl⟩)
          go_loopw [17] (fun i wr => ∃ k : Nat, k ≤ j ∧ i = .int .i64 k ∧ Below V2.heap.size V2 wr) (fun i _ => j - (intOf i).toNat)
          case atStart => exact ⟨0, Nat.zero_le _, rfl, by (repeat' (first | (with_reducible exact Below.refl _ _) | (with_reducible assumption) | (with_reducible refine balloc ?_ _) | (with_reducible refine bdrew ?_) | (with_reducible refine bdrewN ?_ _) | (with_reducible refine bstep ?_ (by assumption)) | (with_reducible refine bset ?_ ?_ _) | (exact Below.size (by assumption)) | go_size))⟩
          case round =>
            obtain ⟨k, hk, rfl, hW⟩ := hrel
            by_cases hlt : k < j
            · have g1 := (hW.cell (p := ⟨b, off + k, none⟩) hbl).trans (HE.out k (by have := HL4.out; omega))
              have g2 : b < wr.heap.size := Nat.lt_of_lt_of_le hbl hW.size
              rw [HZ.out k hlt] at g1
              have i6 : (0 : Int) ≤ (k : Int) := by omega
              have i7 : (k : Int) < (j : Int) := by omega
              have i8 : (k : Int) < (L.length : Int) := by have := HL4.out; omega
              go_wp2
              go_roundw
              case rel => exact ⟨k + 1, by omega, by go_num, by (repeat' (first | (with_reducible exact Below.refl _ _) | (with_reducible assumption) | (with_reducible refine balloc ?_ _) | (with_reducible refine bdrew ?_) | (with_reducible refine bdrewN ?_ _) | (with_reducible refine bstep ?_ (by assumption)) | (with_reducible refine bset ?_ ?_ _) | (exact Below.size (by assumption)) | go_size))⟩
              case measure => simp [intOf]; omega
            · have i7 : ¬ (k : Int) < (j : Int) := by omega
              go_wp2
              go_meet
              exact hW
      case rest =>
        have bW : Below w.heap.size w wc := bstep bV2 hcut
        clear HQ HL HC HM HB HT HA HS hLn
        go_upto_region 22 with (go_at_call 27; refine (DrawClassOf_any A n c _ _ (hc.below bW)).mono ?_; rintro e w' ⟨m2, rfl, _, hb⟩; have bW := bstep bW hb)
        obtain ⟨cl, hcl⟩ : ∃ q, classOfI m2 = q := ⟨_, rfl⟩
        obtain ⟨tl, htl2⟩ : ∃ q, inB m2 0 400 = q := ⟨_, rfl⟩
        have HK := fun W : World => ClassOf_any m2 W
        have HJ := fun W : World => sClassOf_any m2 W
        simp only [hcl, htl2] at HK HJ
        clear hcl htl2
        go_upto_region 26 with (first | (go_at_call 26; refine (HK _).mono ?_; rintro e w' ⟨rfl, rfl⟩) | (go_at_call 28; refine (HJ _).mono ?_; rintro e w' ⟨rfl, rfl⟩))
        go_upto_region 27 with (go_at_call 29; refine (DrawMixMoisture_any A n c _ _ (hc.below bW)).mono ?_; rintro e w' ⟨A5, n5, c5, bs, A6, n6, c6, ps, rfl, ⟨hn5, hl5, hr5, hn6, hl6, hr6⟩, hb⟩; have bW := bstep bW hb)
        obtain ⟨kn, hkn⟩ : ∃ q, mixOk bs ps = q := ⟨_, rfl⟩
        obtain ⟨N, hN⟩ : ∃ q, mixN bs ps = q := ⟨_, rfl⟩
        obtain ⟨D, hD⟩ : ∃ q, mixD bs ps = q := ⟨_, rfl⟩
        have hsm : kn = true → _ := fun e => mix_small (hkn.trans e) hN hD
        have hlaw : kn = true → ∀ lo hi : Int, _ → _ := fun e lo hi h => mix_law (lo := lo) (hi := hi) (hkn.trans e) hN hD h
        have HK := Lib.hid hkn
        have HN := Lib.hid hN
        have HD := Lib.hid hD
        have HM := Lib.hid hsm
        have HL := Lib.hid hlaw
        have H5 := Lib.hid hl5
        have H6 := Lib.hid hl6
        clear hkn hN hD hsm hlaw hl5 hl6
        go_upto_region 28 with (go_at_call 30; refine (Mix_is HK.out HN.out HD.out _ hr5 hr6 H5.out H6.out (by omega) (by omega)).mono ?_; rintro e w' ⟨rfl, hb⟩; have bW := bstep bW hb; have hr5 := hr5.below hb; have hr6 := hr6.below hb)
        go_upto_if 186 with (go_at_call 31; refine (sMix_is HK.out HN.out HD.out _ hr5 hr6 H5.out H6.out (by omega) (by omega)).mono ?_; rintro e w' ⟨rfl, hb⟩; have bW := bstep bW hb; have hr5 := hr5.below hb; have hr6 := hr6.below hb)
        refine wp_genC (fun V => Below w.heap.size w V ∧ Rd V 2 A5 n5 (fubF bs)) ⟨bW, hr5⟩ ?_
        clear bW hr5 hr6
        intro V3 ⟨bV3, hr5⟩
        rcases kn with _ | _
        · go_wp2
          go_returns
          exact ⟨rfl, bV3⟩
        · obtain ⟨N0, N1, D0, D1, hbed, hb6⟩ := HM.out (by trivial)
          have hl5 := H5.out
          go_upto_region 33 with fail
          go_wp2
          go_loopw [31, 32, 33] (fun vl vh vi wr => ∃ (k : Nat) (lo hi : Int), k ≤ n5 ∧ vi = .int .i64 k ∧ vl = .int .i64 lo ∧ vh = .int .i64 hi ∧ (0 ≤ lo ∧ lo ≤ 400 ∧ 0 ≤ hi ∧ hi ≤ 400) ∧ (∀ j, j < k → lo ≤ (bs.getD j (0, 0)).2 ∧ (bs.getD j (0, 0)).2 ≤ hi) ∧ Below V3.heap.size V3 wr) (fun _ _ i _ => n5 - (intOf i).toNat)
          case atStart => exact ⟨0, 400, 0, Nat.zero_le _, rfl, rfl, rfl, by omega, fun j hj => by omega, Below.refl _ _⟩
          case round =>
            obtain ⟨k, lo, hi, hk, rfl, rfl, rfl, ⟨lo0, lo1, hi0, hi1⟩, hall, hW⟩ := hrel
            have HA := Lib.hid hall
            clear hall
            by_cases hlt : k < n5
            · obtain ⟨b, off, rfl, hbl, x0, x1, hz, c0, c1⟩ := fub_at hr5 hW H5.out hlt
              have hx : 0 ≤ x1 ∧ x1 ≤ 400 := by
                have := List.all_eq_true.1 hbed bs[k] (List.getElem_mem _)
                rw [hz] at this
                exact bedP_bd this
              have hg : bs.getD k (0, 0) = (x0, x1) := getD_of (by omega) hz
              have HG := Lib.hid hg
              have q2 : b < wr.heap.size := Nat.lt_of_lt_of_le hbl hW.size
              have i1 : (0 : Int) ≤ (k : Int) := by omega
              have i2 : (k : Int) < (n5 : Int) := by omega
              clear hz hg hbed
              by_cases e1 : x1 < lo
              · by_cases e2 : hi < x1
                · go_wp2
                  go_roundw
                  case rel => exact ⟨k + 1, x1, x1, by omega, by go_num, rfl, rfl, by omega, step_all HA.out HG.out (by omega) (by omega) (by omega) (by omega), by (repeat' (first | (with_reducible exact Below.refl _ _) | (with_reducible assumption) | (with_reducible refine balloc ?_ _) | (with_reducible refine bdrew ?_) | (with_reducible refine bdrewN ?_ _) | (with_reducible refine bstep ?_ (by assumption)) | (with_reducible refine bset ?_ ?_ _) | (exact Below.size (by assumption)) | go_size))⟩
                  case measure => simp [intOf]; omega
                · go_wp2
                  go_roundw
                  case rel => exact ⟨k + 1, x1, hi, by omega, by go_num, rfl, rfl, by omega, step_all HA.out HG.out (by omega) (by omega) (by omega) (by omega), by (repeat' (first | (with_reducible exact Below.refl _ _) | (with_reducible assumption) | (with_reducible refine balloc ?_ _) | (with_reducible refine bdrew ?_) | (with_reducible refine bdrewN ?_ _) | (with_reducible refine bstep ?_ (by assumption)) | (with_reducible refine bset ?_ ?_ _) | (exact Below.size (by assumption)) | go_size))⟩
                  case measure => simp [intOf]; omega
              · by_cases e2 : hi < x1
                · go_wp2
                  go_roundw
                  case rel => exact ⟨k + 1, lo, x1, by omega, by go_num, rfl, rfl, by omega, step_all HA.out HG.out (by omega) (by omega) (by omega) (by omega), by (repeat' (first | (with_reducible exact Below.refl _ _) | (with_reducible assumption) | (with_reducible refine balloc ?_ _) | (with_reducible refine bdrew ?_) | (with_reducible refine bdrewN ?_ _) | (with_reducible refine bstep ?_ (by assumption)) | (with_reducible refine bset ?_ ?_ _) | (exact Below.size (by assumption)) | go_size))⟩
                  case measure => simp [intOf]; omega
                · go_wp2
                  go_roundw
                  case rel => exact ⟨k + 1, lo, hi, by omega, by go_num, rfl, rfl, by omega, step_all HA.out HG.out (by omega) (by omega) (by omega) (by omega), by (repeat' (first | (with_reducible exact Below.refl _ _) | (with_reducible assumption) | (with_reducible refine balloc ?_ _) | (with_reducible refine bdrew ?_) | (with_reducible refine bdrewN ?_ _) | (with_reducible refine bstep ?_ (by assumption)) | (with_reducible refine bset ?_ ?_ _) | (exact Below.size (by assumption)) | go_size))⟩
                  case measure => simp [intOf]; omega
            · have hkn : k = n5 := by omega
              subst hkn
              obtain ⟨m1, m2⟩ := HL.out (by trivial) lo hi (fun j hj => HA.out j (by rw [← H5.out]; exact hj))
              have pb1 := prod_bd600 ⟨lo0, lo1⟩ ⟨D0, D1⟩
              have pb2 := prod_bd600 ⟨hi0, hi1⟩ ⟨D0, D1⟩
              have w1 : wrap64 (lo * D) = lo * D := by simp only [wrap64]; omega
              have w2 : wrap64 (hi * D) = hi * D := by simp only [wrap64]; omega
              have g1 : decide (lo * D ≤ N) = true := decide_eq_true m1
              have g2 : decide (N ≤ hi * D) = true := decide_eq_true m2
              go_wp2
              go_returns
              exact ⟨by simp, bstep bV3 hW⟩
end Go.Proofs.Ytlnfccncbfpoiaa
