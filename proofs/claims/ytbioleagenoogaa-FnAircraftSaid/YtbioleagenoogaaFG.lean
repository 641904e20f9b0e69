/-
  FarthestLeg of the program and of the reference. Conditions: none.
-/
import Derived.Test.YtbioleagenoogaaMS
namespace Go.Proofs.Ytbioleagenoogaa
open Go.RowKit
set_option maxRecDepth 100000
set_option maxHeartbeats 4000000


/-- the greatest leg up to k with which there is a sortie -/
def farI (s f fi wa ba : Int) : Nat → Int
  | 0 => 0
  | k + 1 => if srt s fi wa ((k : Int) + 1) ba 1 ≤ f then (k : Int) + 1 else farI s f fi wa ba k
theorem farI_bd (s f fi wa ba : Int) : ∀ k : Nat, 0 ≤ farI s f fi wa ba k ∧ farI s f fi wa ba k ≤ (k : Int)
  | 0 => by simp [farI]
  | k + 1 => by
    have h := farI_bd s f fi wa ba k
    unfold farI
    split <;> omega
theorem farI_go {s f fi wa ba : Int} {k : Nat} (h : srt s fi wa ((k : Int) + 1) ba 1 ≤ f) : farI s f fi wa ba (k + 1) = (k : Int) + 1 := by simp [farI, h]
theorem farI_no {s f fi wa ba : Int} {k : Nat} (h : ¬ srt s fi wa ((k : Int) + 1) ba 1 ≤ f) : farI s f fi wa ba (k + 1) = farI s f fi wa ba k := by simp [farI, h]
def flI (i l s f fi wa le ba : Int) : Int := if (acB i l s f fi && tgB wa le ba) = true then farI s f fi wa ba 400 else 0
def flB (i l s f fi wa le ba : Int) : Bool := (acB i l s f fi && tgB wa le ba) && decide (0 < farI s f fi wa ba 400)
theorem FarthestLeg_is {q : Bool} {v i l s f fi wa le ba : Int} (hq : flB i l s f fi wa le ba = q) (hv : flI i l s f fi wa le ba = v) (w : World) :
    Calls Try.prog 26 #[.agg #[.int .i64 i, .int .i64 l, .int .i64 s, .int .i64 f, .int .i64 fi], .agg #[.int .i64 wa, .int .i64 le, .int .i64 ba]] w fun e w' => e = .returned (.tuple #[.int .i64 v, .bool q]) ∧ Below w.heap.size w w' := by
  have HA := fun W : World => isFlight_any i l s f fi wa le ba W
  obtain ⟨qa, hA⟩ : ∃ q, (acB i l s f fi && tgB wa le ba) = q := ⟨_, rfl⟩
  simp only [hA] at HA
  go_enter Try.func26, Try.ntmps26
  go_upto_region 1 with fail
  refine wp_gen (fun W => Below w.heap.size w W ∧ Bk W w.heap.size 41 [.int .i64 i, .int .i64 l, .int .i64 s, .int .i64 f, .int .i64 fi] ∧ Bk W (w.heap.size + 1) 31 [.int .i64 wa, .int .i64 le, .int .i64 ba]) ⟨by (repeat' (first | (with_reducible exact Below.refl _ _) | (with_reducible assumption) | (with_reducible refine balloc ?_ _) | (with_reducible refine bdrew ?_) | (with_reducible refine bdrewN ?_ _) | (with_reducible refine bstep ?_ (by assumption)) | (with_reducible refine bset ?_ ?_ _) | (exact Below.size (by assumption)) | go_size)), (Bk.new _ _ _).alloc _, Bk.new' (by simp)⟩ ?_
  intro W ⟨bW, k0, k1⟩
  have ck0_0 := k0.cell 0
  have ck0_1 := k0.cell 1
  have ck0_2 := k0.cell 2
  have ck0_3 := k0.cell 3
  have ck0_4 := k0.cell 4
  have lk0 := k0.lt
  have ck1_0 := k1.cell 0
  have ck1_1 := k1.cell 1
  have ck1_2 := k1.cell 2
  have lk1 := k1.lt
  simp only [List.getElem?_cons_zero, List.getElem?_cons_succ] at ck0_0 ck0_1 ck0_2 ck0_3 ck0_4 ck1_0 ck1_1 ck1_2
  rcases qa with _ | _
  · obtain rfl : false = q := by rw [← hq, flB, hA]; rfl
    obtain rfl : 0 = v := by rw [← hv]; simp [flI, hA]
    clear hq hv hA
    go_wp2_with (first | (go_at_call 52; refine (HA _).mono ?_; rintro e w' ⟨rfl, hb⟩; have k0 := below_blk hb k0; have k1 := below_blk hb k1; have bW := bstep bW hb))
    go_returns
    exact ⟨rfl, bW⟩
  · have hv2 : farI s f fi wa ba 400 = v := by rw [← hv]; simp [flI, hA]
    have hq2 : decide (0 < v) = q := by rw [← hq, ← hv2]; simp [flB, hA]
    have h2 : acB i l s f fi = true ∧ tgB wa le ba = true := by simpa using hA
    obtain ⟨hac, htg⟩ := h2
    obtain ⟨g1, g2, g3, g4, g5⟩ := acB_bd hac
    obtain ⟨g6, g7, g8⟩ := tgB_bd htg
    have HV := Lib.hid hv2
    have HQ := Lib.hid hq2
    clear hq hv hA hac htg hv2 hq2
    go_wp2_with (first | (go_at_call 52; refine (HA _).mono ?_; rintro e w' ⟨rfl, hb⟩; have k0 := below_blk hb k0; have k1 := below_blk hb k1; have bW := bstep bW hb))
    go_loopw [6] (fun i6 wr => ∃ j : Nat, j ≤ 400 ∧ i6 = .int .i64 j ∧ Hid (farI s f fi wa ba j = v) ∧ Below w.heap.size w wr ∧ Bk wr w.heap.size 41 [.int .i64 i, .int .i64 l, .int .i64 s, .int .i64 f, .int .i64 fi] ∧ Bk wr (w.heap.size + 1) 31 [.int .i64 wa, .int .i64 le, .int .i64 ba]) (fun i6 _ => (intOf i6).toNat)
    case atStart => exact ⟨400, Nat.le_refl _, rfl, HV, bW, k0, k1⟩
    case round =>
      obtain ⟨j, hj, rfl, HJ, bW, k0, k1⟩ := hrel
      have ck0_0 := k0.cell 0
      have ck0_1 := k0.cell 1
      have ck0_2 := k0.cell 2
      have ck0_3 := k0.cell 3
      have ck0_4 := k0.cell 4
      have lk0 := k0.lt
      have ck1_0 := k1.cell 0
      have ck1_1 := k1.cell 1
      have ck1_2 := k1.cell 2
      have lk1 := k1.lt
      simp only [List.getElem?_cons_zero, List.getElem?_cons_succ] at ck0_0 ck0_1 ck0_2 ck0_3 ck0_4 ck1_0 ck1_1 ck1_2
      rcases j with _ | j
      · have i1 : decide ((1 : Int) ≤ ((0 : Nat) : Int)) = false := rfl
        have h0 := HJ.out
        simp only [farI] at h0
        subst h0
        have hq3 := HQ.out
        simp only [Int.lt_irrefl, decide_false] at hq3
        subst hq3
        go_wp2
        go_returns
        exact ⟨rfl, bW⟩
      · have i1 : decide ((1 : Int) ≤ ((j : Int) + 1)) = true := decide_eq_true (by omega)
        obtain ⟨y, hy⟩ : ∃ y, srt s fi wa ((j : Int) + 1) ba 1 = y := ⟨_, rfl⟩
        have HY := Lib.hid hy
        have HS := fun W : World => sortie_is (i := i) (l := l) (f := f) (wa := wa) (le := (j : Int) + 1) (ba := ba) (k := 1) g3 g5 g6 ⟨by omega, by omega⟩ g8 (by omega) hy W
        clear hy
        by_cases hyf : y ≤ f
        · have g1' : decide (y ≤ f) = true := decide_eq_true hyf
          have h0 := HJ.out
          rw [farI_go (by rw [HY.out]; exact hyf)] at h0
          subst h0
          have hq3 := HQ.out
          rw [decide_eq_true (by omega)] at hq3
          subst hq3
          go_upto_region 6 with fail
          (refine wp_region_bel (by kernel_rfl) (by kernel_rfl) ?_; (repeat (go_big_quiet_step ((first | (go_at_call 55; exact calls_bel (HS _)))))); refine wpQuiet_nil ?_; intro w' hw'; have hb := below_of hw'; clear hw')
          go_wp2
          go_returns
          exact ⟨rfl, bstep bW hb⟩
        · have g1' : decide (y ≤ f) = false := decide_eq_false hyf
          have h0 := HJ.out
          rw [farI_no (by rw [HY.out]; exact hyf)] at h0
          have H0 := Lib.hid h0
          clear h0
          go_upto_region 6 with fail
          (refine wp_region_bel (by kernel_rfl) (by kernel_rfl) ?_; (repeat (go_big_quiet_step ((first | (go_at_call 55; exact calls_bel (HS _)))))); refine wpQuiet_nil ?_; intro w' hw'; have hb := below_of hw'; clear hw')
          have k0 := below_blk hb k0
          have k1 := below_blk hb k1
          have bW := bstep bW hb
          go_wp2
          go_roundw
          case rel => exact ⟨j, by omega, by go_num, H0, bW, k0, k1⟩
          case measure => simp [intOf]
theorem sFarthestLeg_is {q : Bool} {v i l s f fi wa le ba : Int} (hq : flB i l s f fi wa le ba = q) (hv : flI i l s f fi wa le ba = v) (w : World) :
    Calls Try.prog 27 #[.agg #[.int .i64 i, .int .i64 l, .int .i64 s, .int .i64 f, .int .i64 fi], .agg #[.int .i64 wa, .int .i64 le, .int .i64 ba]] w fun e w' => e = .returned (.tuple #[.int .i64 v, .bool q]) ∧ Below w.heap.size w w' := by
  have HA := fun W : World => l14Asked_any i l s f fi wa le ba W
  obtain ⟨qa, hA⟩ : ∃ q, (acB i l s f fi && tgB wa le ba) = q := ⟨_, rfl⟩
  simp only [hA] at HA
  go_enter Try.func27, Try.ntmps27
  go_upto_region 1 with fail
  refine wp_gen (fun W => Below w.heap.size w W ∧ Bk W w.heap.size 41 [.int .i64 i, .int .i64 l, .int .i64 s, .int .i64 f, .int .i64 fi] ∧ Bk W (w.heap.size + 1) 31 [.int .i64 wa, .int .i64 le, .int .i64 ba]) ⟨by (repeat' (first | (with_reducible exact Below.refl _ _) | (with_reducible assumption) | (with_reducible refine balloc ?_ _) | (with_reducible refine bdrew ?_) | (with_reducible refine bdrewN ?_ _) | (with_reducible refine bstep ?_ (by assumption)) | (with_reducible refine bset ?_ ?_ _) | (exact Below.size (by assumption)) | go_size)), (Bk.new _ _ _).alloc _, Bk.new' (by simp)⟩ ?_
  intro W ⟨bW, k0, k1⟩
  have ck0_0 := k0.cell 0
  have ck0_1 := k0.cell 1
  have ck0_2 := k0.cell 2
  have ck0_3 := k0.cell 3
  have ck0_4 := k0.cell 4
  have lk0 := k0.lt
  have ck1_0 := k1.cell 0
  have ck1_1 := k1.cell 1
  have ck1_2 := k1.cell 2
  have lk1 := k1.lt
  simp only [List.getElem?_cons_zero, List.getElem?_cons_succ] at ck0_0 ck0_1 ck0_2 ck0_3 ck0_4 ck1_0 ck1_1 ck1_2
  rcases qa with _ | _
  · obtain rfl : false = q := by rw [← hq, flB, hA]; rfl
    obtain rfl : 0 = v := by rw [← hv]; simp [flI, hA]
    clear hq hv hA
    go_wp2_with (first | (go_at_call 54; refine (HA _).mono ?_; rintro e w' ⟨rfl, hb⟩; have k0 := below_blk hb k0; have k1 := below_blk hb k1; have bW := bstep bW hb))
    go_returns
    exact ⟨rfl, bW⟩
  · have hv2 : farI s f fi wa ba 400 = v := by rw [← hv]; simp [flI, hA]
    have hq2 : decide (0 < v) = q := by rw [← hq, ← hv2]; simp [flB, hA]
    have h2 : acB i l s f fi = true ∧ tgB wa le ba = true := by simpa using hA
    obtain ⟨hac, htg⟩ := h2
    obtain ⟨g1, g2, g3, g4, g5⟩ := acB_bd hac
    obtain ⟨g6, g7, g8⟩ := tgB_bd htg
    have HV := Lib.hid hv2
    have HQ := Lib.hid hq2
    clear hq hv hA hac htg hv2 hq2
    go_wp2_with (first | (go_at_call 54; refine (HA _).mono ?_; rintro e w' ⟨rfl, hb⟩; have k0 := below_blk hb k0; have k1 := below_blk hb k1; have bW := bstep bW hb))
    go_loopw [6] (fun i6 wr => ∃ j : Nat, j ≤ 400 ∧ i6 = .int .i64 j ∧ Hid (farI s f fi wa ba j = v) ∧ Below w.heap.size w wr ∧ Bk wr w.heap.size 41 [.int .i64 i, .int .i64 l, .int .i64 s, .int .i64 f, .int .i64 fi] ∧ Bk wr (w.heap.size + 1) 31 [.int .i64 wa, .int .i64 le, .int .i64 ba]) (fun i6 _ => (intOf i6).toNat)
    case atStart => exact ⟨400, Nat.le_refl _, rfl, HV, bW, k0, k1⟩
    case round =>
      obtain ⟨j, hj, rfl, HJ, bW, k0, k1⟩ := hrel
      have ck0_0 := k0.cell 0
      have ck0_1 := k0.cell 1
      have ck0_2 := k0.cell 2
      have ck0_3 := k0.cell 3
      have ck0_4 := k0.cell 4
      have lk0 := k0.lt
      have ck1_0 := k1.cell 0
      have ck1_1 := k1.cell 1
      have ck1_2 := k1.cell 2
      have lk1 := k1.lt
      simp only [List.getElem?_cons_zero, List.getElem?_cons_succ] at ck0_0 ck0_1 ck0_2 ck0_3 ck0_4 ck1_0 ck1_1 ck1_2
      rcases j with _ | j
      · have i1 : decide ((1 : Int) ≤ ((0 : Nat) : Int)) = false := rfl
        have h0 := HJ.out
        simp only [farI] at h0
        subst h0
        have hq3 := HQ.out
        simp only [Int.lt_irrefl, decide_false] at hq3
        subst hq3
        go_wp2
        go_returns
        exact ⟨rfl, bW⟩
      · have i1 : decide ((1 : Int) ≤ ((j : Int) + 1)) = true := decide_eq_true (by omega)
        obtain ⟨y, hy⟩ : ∃ y, srt s fi wa ((j : Int) + 1) ba 1 = y := ⟨_, rfl⟩
        have HY := Lib.hid hy
        have HS := fun W : World => l14Sortie_is (i := i) (l := l) (f := f) (wa := wa) (le := (j : Int) + 1) (ba := ba) (k := 1) g3 g5 g6 ⟨by omega, by omega⟩ g8 (by omega) hy W
        clear hy
        by_cases hyf : y ≤ f
        · have g1' : decide (y ≤ f) = true := decide_eq_true hyf
          have h0 := HJ.out
          rw [farI_go (by rw [HY.out]; exact hyf)] at h0
          subst h0
          have hq3 := HQ.out
          rw [decide_eq_true (by omega)] at hq3
          subst hq3
          go_upto_region 6 with fail
          (refine wp_region_bel (by kernel_rfl) (by kernel_rfl) ?_; (repeat (go_big_quiet_step ((first | (go_at_call 59; exact calls_bel (HS _)))))); refine wpQuiet_nil ?_; intro w' hw'; have hb := below_of hw'; clear hw')
          go_wp2
          go_returns
          exact ⟨rfl, bstep bW hb⟩
        · have g1' : decide (y ≤ f) = false := decide_eq_false hyf
          have h0 := HJ.out
          rw [farI_no (by rw [HY.out]; exact hyf)] at h0
          have H0 := Lib.hid h0
          clear h0
          go_upto_region 6 with fail
          (refine wp_region_bel (by kernel_rfl) (by kernel_rfl) ?_; (repeat (go_big_quiet_step ((first | (go_at_call 59; exact calls_bel (HS _)))))); refine wpQuiet_nil ?_; intro w' hw'; have hb := below_of hw'; clear hw')
          have k0 := below_blk hb k0
          have k1 := below_blk hb k1
          have bW := bstep bW hb
          go_wp2
          go_roundw
          case rel => exact ⟨j, by omega, by go_num, H0, bW, k0, k1⟩
          case measure => simp [intOf]
end Go.Proofs.Ytbioleagenoogaa
