/-
  FnMoisture, walked. Conditions: none beyond the layout of its argument.
-/
import Derived.Test.YtlnfccncbfpoiaaCH
import Derived.Test.YtlnfccncbfpoiaaRB
import Derived.Test.YtlnfccncbfpoiaaF
import Derived.Test.YtlnfccncbfpoiaaFL
namespace Go.Proofs.Ytlnfccncbfpoiaa
open Go.RowKit
set_option maxRecDepth 100000
set_option maxHeartbeats 4000000

theorem rBig_is {A : Option Addr} {n c : Nat} (v : Bool) (h : decide ((65536 : Int) < (n : Int)) = v) (w : World) : Calls Try.prog 5 #[.slice A n c] w fun e w' => e = .returned (.bool v) ∧ w = w' := by
  go_enter Try.func5, Try.ntmps5
  go_wp2
  go_returns
  exact ⟨by simp, rfl⟩
theorem sIsFuelbed_is {l m : Int} (v : Bool) (h : bedB l m = v) (w : World) : Calls Try.prog 10 #[.agg #[.int .i64 l, .int .i64 m]] w fun e w' => e = .returned (.bool v) ∧ Below w.heap.size w w' := by rw [← h]; exact sIsFuelbed_any l m w
theorem prod_bd400 {x y : Int} (h1 : -400 ≤ x ∧ x ≤ 400) (h2 : -400 ≤ y ∧ y ≤ 400) : -160000 ≤ x * y ∧ x * y ≤ 160000 := by
  have e1 : (x + 400) * (y + 400) = x * y + 400 * x + 400 * y + 160000 := by rw [Int.add_mul, Int.mul_add, Int.mul_add]; omega
  have e2 : (400 - x) * (400 - y) = x * y - 400 * x - 400 * y + 160000 := by rw [Int.sub_mul, Int.mul_sub, Int.mul_sub]; omega
  have e3 : (x + 400) * (400 - y) = 400 * x - x * y - 400 * y + 160000 := by rw [Int.add_mul, Int.mul_sub, Int.mul_sub]; omega
  have e4 : (400 - x) * (y + 400) = 400 * y - x * y - 400 * x + 160000 := by rw [Int.sub_mul, Int.mul_add, Int.mul_add]; omega
  have p1 : 0 ≤ (x + 400) * (y + 400) := Int.mul_nonneg (by omega) (by omega)
  have p2 : 0 ≤ (400 - x) * (400 - y) := Int.mul_nonneg (by omega) (by omega)
  have p3 : 0 ≤ (x + 400) * (400 - y) := Int.mul_nonneg (by omega) (by omega)
  have p4 : 0 ≤ (400 - x) * (y + 400) := Int.mul_nonneg (by omega) (by omega)
  omega
theorem rInts_same {A B : Option Addr} {n m c d : Nat} {xs : List Int} (w : World) (hx : Rd w 1 A n (ints xs)) (hy : Rd w 1 B m (ints xs)) (hn : n ≤ 9223372036854775807) :
    Calls Try.prog 16 #[.slice A n c, .slice B m d] w fun e w' => e = .returned (.bool true) ∧ Below w.heap.size w w' := by
  have h := rInts_any A B n m c d xs xs w hx hy hn
  rw [decide_eq_true rfl] at h
  exact h
theorem below_blk {w w' : World} (h : Below w.heap.size w w') {g : Nat} {t : TypeId} {cs : List Value} (k : Bk w g t cs) : Bk w' g t cs := k.below h k.lt
theorem fnMoisture_walk (A : Option Addr) (n c : Nat) (zs : List Int) (w : World) (hr : Rd w 1 A n (zs.flatMap (fun n => [Value.int .u8 n]))) (hl : zs.length = n) (hn : n ≤ 9223372036854775807) (ok : ∀ z ∈ zs, 0 ≤ z ∧ z ≤ 255) :
    Calls Try.prog 3 #[.slice A n c] w fun e w' => e = .returned (.bool true) ∧ Below w.heap.size w w' := by
  by_cases hbig : 65536 < n
  · have d1 : decide ((65536 : Int) < (n : Int)) = true := decide_eq_true (by omega)
    go_enter Try.func3, Try.ntmps3
    go_wp2_with (go_at_call 5; refine (rBig_is _ d1 _).mono ?_; rintro e w' ⟨rfl, rfl⟩)
    go_returns
    exact ⟨rfl, Below.refl _ _⟩
  · have hc := code_of hr hl (by omega) ok
    have d1 : decide ((65536 : Int) < (n : Int)) = false := decide_eq_false (by omega)
    clear hr hl ok
    have bW : Below w.heap.size w w := Below.refl _ _
    go_enter Try.func3, Try.ntmps3
    go_upto_region 4 with (first
      | (go_at_call 5; refine (rBig_is _ d1 _).mono ?_; rintro e w' ⟨rfl, rfl⟩)
      | (go_at_call 6; refine (DrawAfterHour_any A n c _ _ hc).mono ?_; rintro e w' ⟨l, m, h, t, r, rfl, hI, bW⟩))
    obtain ⟨q, hq⟩ : ∃ q, okBA l m h t r = q := ⟨_, rfl⟩
    obtain ⟨aL, haL⟩ : ∃ q, aftL l m h t r = q := ⟨_, rfl⟩
    obtain ⟨aM, haM⟩ : ∃ q, aftM l m h t r = q := ⟨_, rfl⟩
    obtain ⟨p, hp⟩ : ∃ q, bedB l m = q := ⟨_, rfl⟩
    obtain ⟨bal, hbal⟩ : ∃ q, balOfI h t r = q := ⟨_, rfl⟩
    obtain ⟨fine, hfine⟩ : ∃ q, airB h t r = q := ⟨_, rfl⟩
    obtain ⟨p2, hp2⟩ : ∃ q, bedB aL aM = q := ⟨_, rfl⟩
    have HA := fun W : World => AfterHour_any l m h t r W
    have HS := fun W : World => sAfterHour_any l m h t r W
    have HB := fun W : World => BalanceOf_any h t r W
    have HT := fun W : World => sBalanceOf_any h t r W
    simp only [hq, haL, haM] at HA HS
    simp only [hbal, hfine] at HB HT
    have hL1 := moist_law1 hI hq haL haM hp hbal hfine hp2
    obtain ⟨d3, e_d3⟩ : ∃ d, w'.heap.size = d := ⟨_, rfl⟩
    have s3 : w.heap.size ≤ d3 := by have := bW.size; omega
    rw [e_d3]
    refine wp_genC (fun W => Below w.heap.size w W ∧ Bk W d3 25 [.int .i64 l, .int .i64 m] ∧ Bk W (d3 + 1) 27 [.int .i64 h, .int .i64 t, .int .i64 r]) ⟨by (repeat' (first | (with_reducible exact Below.refl _ _) | (with_reducible assumption) | (with_reducible refine balloc ?_ _) | (with_reducible refine bdrew ?_) | (with_reducible refine bdrewN ?_ _) | (with_reducible refine bstep ?_ (by assumption)) | (with_reducible refine bset ?_ ?_ _) | (exact Below.size (by assumption)) | go_size)), by (repeat (first | with_reducible assumption | exact Bk.new' (by first | assumption | rfl | (simp [*]; done) | (simp; omega)) | with_reducible refine Bk.alloc ?_ _)), by (repeat (first | with_reducible assumption | exact Bk.new' (by first | assumption | rfl | (simp [*]; done) | (simp; omega)) | with_reducible refine Bk.alloc ?_ _))⟩ ?_
    clear e_d3
    intro W ⟨bW, k3, k4⟩
    have ck3_0 := k3.cell 0
    have ck3_1 := k3.cell 1
    have lk3 := k3.lt
    have ck4_0 := k4.cell 0
    have ck4_1 := k4.cell 1
    have ck4_2 := k4.cell 2
    have lk4 := k4.lt
    simp only [List.getElem?_cons_zero, List.getElem?_cons_succ] at ck3_0 ck3_1 ck4_0 ck4_1 ck4_2
    have HP := Lib.hid hp
    have HP2 := Lib.hid hp2
    have HL1 := Lib.hid hL1
    clear hq hp haL haM hbal hfine hp2 hL1
    go_upto_region 5 with (first | (go_at_call 7; refine (HA _).mono ?_; rintro e w' ⟨rfl, hb⟩; have k3 := below_blk hb k3; have k4 := below_blk hb k4; have bW := bstep bW hb))
    obtain ⟨d5, e_d5⟩ : ∃ d, w'.heap.size = d := ⟨_, rfl⟩
    have s5 : w.heap.size ≤ d5 := by have := bW.size; omega
    rw [e_d5]
    refine wp_genC (fun W => Below w.heap.size w W ∧ Bk W d3 25 [.int .i64 l, .int .i64 m] ∧ Bk W (d3 + 1) 27 [.int .i64 h, .int .i64 t, .int .i64 r] ∧ Bk W d5 25 [.int .i64 aL, .int .i64 aM]) ⟨by (repeat' (first | (with_reducible exact Below.refl _ _) | (with_reducible assumption) | (with_reducible refine balloc ?_ _) | (with_reducible refine bdrew ?_) | (with_reducible refine bdrewN ?_ _) | (with_reducible refine bstep ?_ (by assumption)) | (with_reducible refine bset ?_ ?_ _) | (exact Below.size (by assumption)) | go_size)), by (repeat (first | with_reducible assumption | exact Bk.new' (by first | assumption | rfl | (simp [*]; done) | (simp; omega)) | with_reducible refine Bk.alloc ?_ _)), by (repeat (first | with_reducible assumption | exact Bk.new' (by first | assumption | rfl | (simp [*]; done) | (simp; omega)) | with_reducible refine Bk.alloc ?_ _)), by (repeat (first | with_reducible assumption | exact Bk.new' (by first | assumption | rfl | (simp [*]; done) | (simp; omega)) | with_reducible refine Bk.alloc ?_ _))⟩ ?_
    clear e_d5
    intro W ⟨bW, k3, k4, k5⟩
    have ck3_0 := k3.cell 0
    have ck3_1 := k3.cell 1
    have lk3 := k3.lt
    have ck4_0 := k4.cell 0
    have ck4_1 := k4.cell 1
    have ck4_2 := k4.cell 2
    have lk4 := k4.lt
    have ck5_0 := k5.cell 0
    have ck5_1 := k5.cell 1
    have lk5 := k5.lt
    simp only [List.getElem?_cons_zero, List.getElem?_cons_succ] at ck3_0 ck3_1 ck4_0 ck4_1 ck4_2 ck5_0 ck5_1
    go_upto_region 6 with (first | (go_at_call 8; refine (HS _).mono ?_; rintro e w' ⟨rfl, hb⟩; have k3 := below_blk hb k3; have k4 := below_blk hb k4; have k5 := below_blk hb k5; have bW := bstep bW hb))
    obtain ⟨d7, e_d7⟩ : ∃ d, w'.heap.size = d := ⟨_, rfl⟩
    have s7 : w.heap.size ≤ d7 := by have := bW.size; omega
    rw [e_d7]
    refine wp_genC (fun W => Below w.heap.size w W ∧ Bk W d3 25 [.int .i64 l, .int .i64 m] ∧ Bk W (d3 + 1) 27 [.int .i64 h, .int .i64 t, .int .i64 r] ∧ Bk W d5 25 [.int .i64 aL, .int .i64 aM] ∧ Bk W d7 25 [.int .i64 aL, .int .i64 aM]) ⟨by (repeat' (first | (with_reducible exact Below.refl _ _) | (with_reducible assumption) | (with_reducible refine balloc ?_ _) | (with_reducible refine bdrew ?_) | (with_reducible refine bdrewN ?_ _) | (with_reducible refine bstep ?_ (by assumption)) | (with_reducible refine bset ?_ ?_ _) | (exact Below.size (by assumption)) | go_size)), by (repeat (first | with_reducible assumption | exact Bk.new' (by first | assumption | rfl | (simp [*]; done) | (simp; omega)) | with_reducible refine Bk.alloc ?_ _)), by (repeat (first | with_reducible assumption | exact Bk.new' (by first | assumption | rfl | (simp [*]; done) | (simp; omega)) | with_reducible refine Bk.alloc ?_ _)), by (repeat (first | with_reducible assumption | exact Bk.new' (by first | assumption | rfl | (simp [*]; done) | (simp; omega)) | with_reducible refine Bk.alloc ?_ _)), by (repeat (first | with_reducible assumption | exact Bk.new' (by first | assumption | rfl | (simp [*]; done) | (simp; omega)) | with_reducible refine Bk.alloc ?_ _))⟩ ?_
    clear e_d7
    intro W ⟨bW, k3, k4, k5, k7⟩
    have ck3_0 := k3.cell 0
    have ck3_1 := k3.cell 1
    have lk3 := k3.lt
    have ck4_0 := k4.cell 0
    have ck4_1 := k4.cell 1
    have ck4_2 := k4.cell 2
    have lk4 := k4.lt
    have ck5_0 := k5.cell 0
    have ck5_1 := k5.cell 1
    have lk5 := k5.lt
    have ck7_0 := k7.cell 0
    have ck7_1 := k7.cell 1
    have lk7 := k7.lt
    simp only [List.getElem?_cons_zero, List.getElem?_cons_succ] at ck3_0 ck3_1 ck4_0 ck4_1 ck4_2 ck5_0 ck5_1 ck7_0 ck7_1
    (refine wp_region_bel (by kernel_rfl) (by kernel_rfl) ?_; (repeat (go_big_quiet_step ((first | (go_at_call 9; exact calls_bel (IsFuelbed_is p HP.out _)) | (go_at_call 10; exact calls_bel (sIsFuelbed_is p HP.out _)))))); refine wpQuiet_nil ?_; intro w' hw'; have hb := below_of hw'; clear hw'; have k3 := below_blk hb k3; have k4 := below_blk hb k4; have k5 := below_blk hb k5; have k7 := below_blk hb k7; have bW := bstep bW hb)
    have ck3_0 := k3.cell 0
    have ck3_1 := k3.cell 1
    have lk3 := k3.lt
    have ck4_0 := k4.cell 0
    have ck4_1 := k4.cell 1
    have ck4_2 := k4.cell 2
    have lk4 := k4.lt
    have ck5_0 := k5.cell 0
    have ck5_1 := k5.cell 1
    have lk5 := k5.lt
    have ck7_0 := k7.cell 0
    have ck7_1 := k7.cell 1
    have lk7 := k7.lt
    simp only [List.getElem?_cons_zero, List.getElem?_cons_succ] at ck3_0 ck3_1 ck4_0 ck4_1 ck4_2 ck5_0 ck5_1 ck7_0 ck7_1
    go_upto_region 9 with (first | (go_at_call 11; refine (HB _).mono ?_; rintro e w' ⟨rfl, hb⟩; have k3 := below_blk hb k3; have k4 := below_blk hb k4; have k5 := below_blk hb k5; have k7 := below_blk hb k7; have bW := bstep bW hb))
    have ck3_0 := k3.cell 0
    have ck3_1 := k3.cell 1
    have lk3 := k3.lt
    have ck4_0 := k4.cell 0
    have ck4_1 := k4.cell 1
    have ck4_2 := k4.cell 2
    have lk4 := k4.lt
    have ck5_0 := k5.cell 0
    have ck5_1 := k5.cell 1
    have lk5 := k5.lt
    have ck7_0 := k7.cell 0
    have ck7_1 := k7.cell 1
    have lk7 := k7.lt
    simp only [List.getElem?_cons_zero, List.getElem?_cons_succ] at ck3_0 ck3_1 ck4_0 ck4_1 ck4_2 ck5_0 ck5_1 ck7_0 ck7_1
    go_upto_if 84 with (first | (go_at_call 12; refine (HT _).mono ?_; rintro e w' ⟨rfl, hb⟩; have k3 := below_blk hb k3; have k4 := below_blk hb k4; have k5 := below_blk hb k5; have k7 := below_blk hb k7; have bW := bstep bW hb))
    refine wp_genC (fun W => Below w.heap.size w W ∧ Bk W d3 25 [.int .i64 l, .int .i64 m] ∧ Bk W (d3 + 1) 27 [.int .i64 h, .int .i64 t, .int .i64 r] ∧ Bk W d5 25 [.int .i64 aL, .int .i64 aM] ∧ Bk W d7 25 [.int .i64 aL, .int .i64 aM]) ⟨by (repeat' (first | (with_reducible exact Below.refl _ _) | (with_reducible assumption) | (with_reducible refine balloc ?_ _) | (with_reducible refine bdrew ?_) | (with_reducible refine bdrewN ?_ _) | (with_reducible refine bstep ?_ (by assumption)) | (with_reducible refine bset ?_ ?_ _) | (exact Below.size (by assumption)) | go_size)), by (repeat (first | with_reducible assumption | exact Bk.new' (by first | assumption | rfl | (simp [*]; done) | (simp; omega)) | with_reducible refine Bk.alloc ?_ _)), by (repeat (first | with_reducible assumption | exact Bk.new' (by first | assumption | rfl | (simp [*]; done) | (simp; omega)) | with_reducible refine Bk.alloc ?_ _)), by (repeat (first | with_reducible assumption | exact Bk.new' (by first | assumption | rfl | (simp [*]; done) | (simp; omega)) | with_reducible refine Bk.alloc ?_ _)), by (repeat (first | with_reducible assumption | exact Bk.new' (by first | assumption | rfl | (simp [*]; done) | (simp; omega)) | with_reducible refine Bk.alloc ?_ _))⟩ ?_
    intro W ⟨bW, k3, k4, k5, k7⟩
    have ck3_0 := k3.cell 0
    have ck3_1 := k3.cell 1
    have lk3 := k3.lt
    have ck4_0 := k4.cell 0
    have ck4_1 := k4.cell 1
    have ck4_2 := k4.cell 2
    have lk4 := k4.lt
    have ck5_0 := k5.cell 0
    have ck5_1 := k5.cell 1
    have lk5 := k5.lt
    have ck7_0 := k7.cell 0
    have ck7_1 := k7.cell 1
    have lk7 := k7.lt
    simp only [List.getElem?_cons_zero, List.getElem?_cons_succ] at ck3_0 ck3_1 ck4_0 ck4_1 ck4_2 ck5_0 ck5_1 ck7_0 ck7_1
    go_cut [13, 14] (fun s13 s14 wx => Below w.heap.size w wx)
    case first =>
      rcases q with _ | _
      go_wp2
      go_meet
      exact bW
      obtain ⟨⟨m0, m1, b0, b1, a0, a1⟩, rfl, p1, p2', p3⟩ := HL1.out rfl
      obtain ⟨u, hu⟩ : ∃ u, bal - m = u := ⟨_, rfl⟩
      obtain ⟨v, hv⟩ : ∃ u, bal - aM = u := ⟨_, rfl⟩
      rw [hu, hv] at p1 p2' p3
      have u1 := prod_bd400 (x := u) (y := v) ⟨by omega, by omega⟩ ⟨by omega, by omega⟩
      have u2 := prod_bd400 (x := u) (y := u) ⟨by omega, by omega⟩ ⟨by omega, by omega⟩
      have u3 := prod_bd400 (x := v) (y := v) ⟨by omega, by omega⟩ ⟨by omega, by omega⟩
      have w3 : IntKind.i64.wrap (bal - m) = u := by rw [IntKind.wrap_i64]; omega
      have w4 : IntKind.i64.wrap (bal - aM) = v := by rw [IntKind.wrap_i64]; omega
      have w5 : wrap64 (u * v) = u * v := by simp only [wrap64]; omega
      have w6 : wrap64 (u * u) = u * u := by simp only [wrap64]; omega
      have w7 : wrap64 (v * v) = v * v := by simp only [wrap64]; omega
      have g1 : decide (u * v < 0) = false := decide_eq_false (by omega)
      have g2 : decide (u * u < v * v) = false := decide_eq_false (by omega)
      go_upto_region 13 with fail
      have hux := hu
      have hvx := hv
      (refine wp_region_bel (by kernel_rfl) (by kernel_rfl) ?_; (repeat (go_big_quiet_step ((first | fail)))); refine wpQuiet_nil ?_; intro w' hw'; have hb := below_of hw'; clear hw'; have k3 := below_blk hb k3; have k4 := below_blk hb k4; have k5 := below_blk hb k5; have k7 := below_blk hb k7; have bW := bstep bW hb)
      have ck3_0 := k3.cell 0
      have ck3_1 := k3.cell 1
      have lk3 := k3.lt
      have ck4_0 := k4.cell 0
      have ck4_1 := k4.cell 1
      have ck4_2 := k4.cell 2
      have lk4 := k4.lt
      have ck5_0 := k5.cell 0
      have ck5_1 := k5.cell 1
      have lk5 := k5.lt
      have ck7_0 := k7.cell 0
      have ck7_1 := k7.cell 1
      have lk7 := k7.lt
      simp only [List.getElem?_cons_zero, List.getElem?_cons_succ] at ck3_0 ck3_1 ck4_0 ck4_1 ck4_2 ck5_0 ck5_1 ck7_0 ck7_1
      go_upto_region 14 with fail
      refine wp_genC (fun W => Below w.heap.size w W ∧ Bk W d3 25 [.int .i64 l, .int .i64 m] ∧ Bk W (d3 + 1) 27 [.int .i64 h, .int .i64 t, .int .i64 r] ∧ Bk W d5 25 [.int .i64 aL, .int .i64 aM] ∧ Bk W d7 25 [.int .i64 aL, .int .i64 aM]) ⟨by (repeat' (first | (with_reducible exact Below.refl _ _) | (with_reducible assumption) | (with_reducible refine balloc ?_ _) | (with_reducible refine bdrew ?_) | (with_reducible refine bdrewN ?_ _) | (with_reducible refine bstep ?_ (by assumption)) | (with_reducible refine bset ?_ ?_ _) | (exact Below.size (by assumption)) | go_size)), by (repeat (first | with_reducible assumption | exact Bk.new' (by first | assumption | rfl | (simp [*]; done) | (simp; omega)) | with_reducible refine Bk.alloc ?_ _)), by (repeat (first | with_reducible assumption | exact Bk.new' (by first | assumption | rfl | (simp [*]; done) | (simp; omega)) | with_reducible refine Bk.alloc ?_ _)), by (repeat (first | with_reducible assumption | exact Bk.new' (by first | assumption | rfl | (simp [*]; done) | (simp; omega)) | with_reducible refine Bk.alloc ?_ _)), by (repeat (first | with_reducible assumption | exact Bk.new' (by first | assumption | rfl | (simp [*]; done) | (simp; omega)) | with_reducible refine Bk.alloc ?_ _))⟩ ?_
      intro W ⟨bW, k3, k4, k5, k7⟩
      have ck3_0 := k3.cell 0
      have ck3_1 := k3.cell 1
      have lk3 := k3.lt
      have ck4_0 := k4.cell 0
      have ck4_1 := k4.cell 1
      have ck4_2 := k4.cell 2
      have lk4 := k4.lt
      have ck5_0 := k5.cell 0
      have ck5_1 := k5.cell 1
      have lk5 := k5.lt
      have ck7_0 := k7.cell 0
      have ck7_1 := k7.cell 1
      have lk7 := k7.lt
      simp only [List.getElem?_cons_zero, List.getElem?_cons_succ] at ck3_0 ck3_1 ck4_0 ck4_1 ck4_2 ck5_0 ck5_1 ck7_0 ck7_1
      have gg : ∃ b : Bool, (u != 0) = b ∧ (b = true → (u == v) = false) := by
        by_cases e : u = 0
        · exact ⟨false, by simp [e], fun h => by cases h⟩
        · exact ⟨true, by simp [e], fun _ => by simp; exact p3 e⟩
      obtain ⟨b, g3, g4⟩ := gg
      rcases b with _ | _
      go_wp2_with (first | (go_at_call 9; refine (IsFuelbed_is true HP2.out _).mono ?_; rintro e w' ⟨rfl, hb⟩; have k3 := below_blk hb k3; have k4 := below_blk hb k4; have k5 := below_blk hb k5; have k7 := below_blk hb k7; have bW := bstep bW hb))
      go_meet
      exact bW
      have g5 : (u == v) = false := by simpa using g4
      go_wp2_with (first | (go_at_call 9; refine (IsFuelbed_is true HP2.out _).mono ?_; rintro e w' ⟨rfl, hb⟩; have k3 := below_blk hb k3; have k4 := below_blk hb k4; have k5 := below_blk hb k5; have k7 := below_blk hb k7; have bW := bstep bW hb))
      go_meet
      exact bW
    case rest =>
      have bW : Below w.heap.size w wc := hcut
      go_upto_region 17 with (first | (go_at_call 13; refine (DrawMoistureRun_any A n c _ _ (hc.below bW)).mono ?_; rintro e w' ⟨l, m, A', n', c', ts, rfl, ⟨hl, hm, hn', htl, hr, hz, _⟩, hb⟩; have bW := bstep bW hb))
      obtain ⟨d15, e_d15⟩ : ∃ d, w'.heap.size = d := ⟨_, rfl⟩
      rw [e_d15]
      have s15 : w.heap.size ≤ d15 := by have := bW.size; omega
      refine wp_genC (fun W => Below w.heap.size w W ∧ Bk W d15 25 [.int .i64 l, .int .i64 m] ∧ Rd W 3 A' n' (airF ts)) ⟨by (repeat' (first | (with_reducible exact Below.refl _ _) | (with_reducible assumption) | (with_reducible refine balloc ?_ _) | (with_reducible refine bdrew ?_) | (with_reducible refine bdrewN ?_ _) | (with_reducible refine bstep ?_ (by assumption)) | (with_reducible refine bset ?_ ?_ _) | (exact Below.size (by assumption)) | go_size)), by (repeat (first | with_reducible assumption | exact Bk.new' (by first | assumption | rfl | (simp [*]; done) | (simp; omega)) | with_reducible refine Bk.alloc ?_ _)), hr.below (balloc (Below.refl _ _) _)⟩ ?_
      clear e_d15
      intro W ⟨bW, k15, hr⟩
      have ck15_0 := k15.cell 0
      have ck15_1 := k15.cell 1
      have lk15 := k15.lt
      simp only [List.getElem?_cons_zero, List.getElem?_cons_succ] at ck15_0 ck15_1
      obtain ⟨q, hq⟩ : ∃ q, mrB l m ts = q := ⟨_, rfl⟩
      obtain ⟨L, hL⟩ : ∃ q, mrL l m ts = q := ⟨_, rfl⟩
      have HQ := Lib.hid hq
      have HL := Lib.hid hL
      have hLn := mrL_len l m ts
      rw [hL] at hLn
      clear hq hL
      go_upto_region 18 with (first | (go_at_call 14; refine (MoistureRun_is HQ.out HL.out _ hr htl (by omega)).mono ?_; rintro e w' ⟨v, rfl, hO, hb⟩; have k15 := below_blk hb k15; have bW := bstep bW hb; have hr := hr.below hb; obtain ⟨A1, c1, rfl, hr1, _⟩ := own_rd hO))
      have ck15_0 := k15.cell 0
      have ck15_1 := k15.cell 1
      have lk15 := k15.lt
      simp only [List.getElem?_cons_zero, List.getElem?_cons_succ] at ck15_0 ck15_1
      go_upto_region 19 with (first | (go_at_call 15; refine (sMoistureRun_is HQ.out HL.out _ hr htl (by omega)).mono ?_; rintro e w' ⟨v, rfl, hO, hb⟩; have k15 := below_blk hb k15; have bW := bstep bW hb; have hr := hr.below hb; have hr1 := hr1.below hb; obtain ⟨A2, c2, rfl, hr2, _⟩ := own_rd hO))
      refine wp_genC (fun W => Below w.heap.size w W ∧ Bk W d15 25 [.int .i64 l, .int .i64 m] ∧ Rd W 3 A' n' (airF ts) ∧ Rd W 1 A1 L.length (ints L) ∧ Rd W 1 A2 L.length (ints L)) ⟨by (repeat' (first | (with_reducible exact Below.refl _ _) | (with_reducible assumption) | (with_reducible refine balloc ?_ _) | (with_reducible refine bdrew ?_) | (with_reducible refine bdrewN ?_ _) | (with_reducible refine bstep ?_ (by assumption)) | (with_reducible refine bset ?_ ?_ _) | (exact Below.size (by assumption)) | go_size)), by (repeat (first | with_reducible assumption | exact Bk.new' (by first | assumption | rfl | (simp [*]; done) | (simp; omega)) | with_reducible refine Bk.alloc ?_ _)), hr, hr1, hr2⟩ ?_
      intro W ⟨bW, k15, hr, hr1, hr2⟩
      have ck15_0 := k15.cell 0
      have ck15_1 := k15.cell 1
      have lk15 := k15.lt
      simp only [List.getElem?_cons_zero, List.getElem?_cons_succ] at ck15_0 ck15_1
      go_upto_region 21 with (first | (go_at_call 16; refine (rInts_same _ hr1 hr2 (by omega)).mono ?_; rintro e w' ⟨rfl, hb⟩; have k15 := below_blk hb k15; have bW := bstep bW hb; have hr := hr.below hb; have hr1 := hr1.below hb; have hr2 := hr2.below hb))
      refine wp_genC (fun V => Below w.heap.size w V ∧ Bk V d15 25 [.int .i64 l, .int .i64 m] ∧ Rd V 3 A' n' (airF ts) ∧ Rd V 1 A1 L.length (ints L)) ⟨bW, k15, hr, hr1⟩ ?_
      intro V ⟨bV, kV, hrV, hr1V⟩
      have x0 := kV.cell 0
      have x1 := kV.cell 1
      have xl := kV.lt
      simp only [List.getElem?_cons_zero, List.getElem?_cons_succ] at x0 x1
      go_upto_region 22 with fail
      obtain ⟨d21, e_d21⟩ : ∃ d, V.heap.size = d := ⟨_, rfl⟩
      rw [e_d21]
      have s21 : w.heap.size ≤ d21 := by have := bV.size; omega
      have s2115 : d15 < d21 := by omega
      refine wp_genC (fun W => Below V.heap.size V W ∧ Bk W d21 25 [.int .i64 l, .int .i64 m]) ⟨balloc (Below.refl _ _) _, Bk.new' e_d21⟩ ?_
      have HE := Lib.hid e_d21
      clear e_d21 x0 x1 xl hr hr1 hr2 k15 bW
      intro W ⟨bVW, k21⟩
      go_wp2_with fail
      go_loopw [22] (fun i wr => ∃ k : Nat, k ≤ L.length ∧ i = .int .i64 k ∧ Below V.heap.size V wr ∧ Bk wr d21 25 [.int .i64 l, .int .i64 (nowA l m ts k)]) (fun i _ => L.length - (intOf i).toNat)
      case atStart => exact ⟨0, Nat.zero_le _, rfl, bVW, k21⟩
      case round =>
        obtain ⟨k, hk, rfl, bVW, k21⟩ := hrel
        have bW := bstep bV bVW
        have hr := hrV.below bVW
        have hr1 := hr1V.below bVW
        by_cases hlt : k < L.length
        · obtain ⟨x0, x1, x2, hk2, hz2, hq2, hL2, hok2, haL2, haM2⟩ := loop_fact HL.out hlt
          obtain ⟨b, off, rfl, hbl, y0, y1, y2, hz, c0, c1, c2⟩ := air_at hr (Below.refl _ _) htl (show k < n' by omega)
          have hxy : (y0, y1, y2) = (x0, x1, x2) := hz.symm.trans hz2
          simp only [Prod.mk.injEq] at hxy
          obtain ⟨rfl, rfl, rfl⟩ := hxy
          have HA := fun W : World => AfterHour_any l (nowA l m ts k) y0 y1 y2 W
          simp only [haL2, haM2, hok2] at HA
          obtain ⟨nx, hnx⟩ : ∃ nx, nowA l m ts (k + 1) = nx := ⟨_, rfl⟩
          rw [hnx] at HA hL2
          have HN := Lib.hid hnx
          obtain ⟨nw, hnw⟩ : ∃ nw, nowA l m ts k = nw := ⟨_, rfl⟩
          rw [hnw] at HA k21
          clear hnx hnw haL2 haM2 hok2 hq2 hz2 hz
          have u0 := k21.cell 0
          have u1 := k21.cell 1
          have v0 := k21.frozen 0
          have v1 := k21.frozen 1
          have l21 := k21.lt
          simp only [List.getElem?_cons_zero, List.getElem?_cons_succ] at u0 u1
          have i1 : (k : Int) < (L.length : Int) := by omega
          have i2 : (0 : Int) ≤ (k : Int) := by omega
          have i3 : (k : Int) < (n' : Int) := by omega
          go_upto_region 25 with fail
          go_cut [23, 24] (fun s6 s7 wx => ∃ d23, s6 = .pointer (some ⟨d23, 0, none⟩) ∧ s7 = .bool true ∧ wr.heap.size ≤ d23 ∧ Bk wx d23 25 [.int .i64 l, .int .i64 nx] ∧ Below wr.heap.size wr wx)
          case first =>
            go_region_with (first
              | (go_at_call 7; refine (HA _).mono ?_; rintro e w' ⟨rfl, hb⟩; have B1 : Below wr.heap.size wr w' := bstep (by (repeat' (first | (with_reducible exact Below.refl _ _) | (with_reducible assumption) | (with_reducible refine balloc ?_ _) | (with_reducible refine bdrew ?_) | (with_reducible refine bdrewN ?_ _) | (with_reducible refine bstep ?_ (by assumption)) | (with_reducible refine bset ?_ ?_ _) | (exact Below.size (by assumption)) | go_size))) hb; (try (have kz : Bk w' wr.heap.size 25 [.int .i64 0, .int .i64 0] := below_blk hb (Bk.new' rfl); have z0 := kz.cell 0; have z1 := kz.cell 1; have zf0 := kz.frozen 0; have zf1 := kz.frozen 1; have zl := kz.lt; simp only [List.getElem?_cons_zero, List.getElem?_cons_succ] at z0 z1))))
            all_goals (go_wp2_with fail; go_meet; exact ⟨_, rfl, rfl, by first | exact Nat.le_refl _ | exact B1.size, by first | exact (kz.set_ 0 _).set_ 1 _ | exact ((Bk.new' rfl).set_ 0 _).set_ 1 _ | exact Bk.new' rfl, by (repeat' (first | (with_reducible exact Below.refl _ _) | (with_reducible assumption) | (with_reducible refine balloc ?_ _) | (with_reducible refine bdrew ?_) | (with_reducible refine bdrewN ?_ _) | (with_reducible refine bstep ?_ (by assumption)) | (with_reducible refine bset ?_ ?_ _) | (exact Below.size (by assumption)) | go_size))⟩)
          case rest =>
            obtain ⟨d23, rfl, rfl, s23, k23, bx⟩ := hcut
            have bW2 := bstep bW bx
            have k21b := below_blk bx k21
            obtain ⟨b1, o1, rfl, hb1, hc1⟩ := hr1.2 (by omega)
            have g1 : wc.cell? ⟨b1, o1 + k, none⟩ = some (.int .i64 nx) := ((bx.cell (p := ⟨b1, o1 + k, none⟩) hb1).trans (hc1 k _ (ints_get L k hlt))).trans (by rw [hL2])
            have q0 := k23.cell 0
            have q1 := k23.cell 1
            have q2 := k23.lt
            have q3 : b1 < wc.heap.size := Nat.lt_of_lt_of_le hb1 bx.size
            have p0 := k21b.cell 0
            have p1 := k21b.cell 1
            have p2 := k21b.frozen 0
            have p3 := k21b.frozen 1
            have p4 := k21b.lt
            simp only [List.getElem?_cons_zero, List.getElem?_cons_succ] at q0 q1 p0 p1
            have hne : ¬ d23 = d21 := by omega
            have hne' : ¬ d21 = d23 := by omega
            clear u0 u1 v0 v1 c0 c1 c2
            go_upto_region 26 with fail
            (refine wp_region_bel (by kernel_rfl) (by kernel_rfl) ?_; (repeat (go_big_quiet_step ((first | fail)))); refine wpQuiet_nil ?_; intro w' hw'; have hb := below_of hw'; clear hw')
            have k23 := below_blk hb k23
            have k21 := below_blk hb k21b
            have bVW := bstep (bstep bVW bx) hb
            have q0 := k23.cell 0
            have q1 := k23.cell 1
            have q2 := k23.lt
            have p0 := k21.cell 0
            have p1 := k21.cell 1
            have p2 := k21.frozen 0
            have p3 := k21.frozen 1
            have p4 := k21.lt
            simp only [List.getElem?_cons_zero, List.getElem?_cons_succ] at q0 q1 p0 p1
            go_wp2_with fail
            go_roundw
            case rel =>
              exact ⟨k + 1, by omega, by go_num, bset (bset bVW (p := ⟨d21, 0, none⟩) (Nat.le_of_eq HE.out) _) (p := ⟨d21, 1, none⟩) (Nat.le_of_eq HE.out) _, by rw [HN.out]; exact (k21.set_ 0 _).set_ 1 _⟩
            case measure => simp [intOf]; omega
        · have i1 : ¬ (k : Int) < (L.length : Int) := by omega
          skip
          go_upto_region 30 with (go_at_call 17; refine (DrawHoursUntil_any A n c _ _ (hc.below bW)).mono ?_; rintro e w' ⟨l, m, h, t, r, x, rfl, hI, hb⟩; have bW := bstep bW hb)
          have bW' := bW
          obtain ⟨d25, e25⟩ : ∃ d, w'.heap.size = d := ⟨_, rfl⟩
          have s25 : w.heap.size ≤ d25 := by have := bW.size; omega
          rw [e25]
          refine wp_genC (fun W => Below w.heap.size w W ∧ Bk W d25 25 [.int .i64 l, .int .i64 m] ∧ Bk W (d25 + 1) 27 [.int .i64 h, .int .i64 t, .int .i64 r]) ⟨by (repeat' (first | (with_reducible exact Below.refl _ _) | (with_reducible assumption) | (with_reducible refine balloc ?_ _) | (with_reducible refine bdrew ?_) | (with_reducible refine bdrewN ?_ _) | (with_reducible refine bstep ?_ (by assumption)) | (with_reducible refine bset ?_ ?_ _) | (exact Below.size (by assumption)) | go_size)), (Bk.new' e25).alloc _, Bk.new' (by simp [e25])⟩ ?_
          clear e25 bW bW'
          intro W ⟨bW, k5, k6⟩
          obtain ⟨N, hN⟩ : ∃ q, huN l m h t r x = q := ⟨_, rfl⟩
          obtain ⟨kn, hkn⟩ : ∃ q, huB l m h t r x = q := ⟨_, rfl⟩
          have h3 := moist_law3 hN hkn
          have HU := fun W : World => HoursUntil_any l m h t r x W
          have HV := fun W : World => sHoursUntil_any l m h t r x W
          simp only [hN, hkn] at HU HV
          clear hN hkn
          have ck5_0 := k5.cell 0
          have ck5_1 := k5.cell 1
          have lk5 := k5.lt
          have ck6_0 := k6.cell 0
          have ck6_1 := k6.cell 1
          have ck6_2 := k6.cell 2
          have lk6 := k6.lt
          simp only [List.getElem?_cons_zero, List.getElem?_cons_succ] at ck5_0 ck5_1 ck6_0 ck6_1 ck6_2
          go_upto_region 31 with (first | (go_at_call 18; refine (HU _).mono ?_; rintro e w' ⟨rfl, hb⟩; have k5 := below_blk hb k5; have k6 := below_blk hb k6; have bW := bstep bW hb))
          have ck5_0 := k5.cell 0
          have ck5_1 := k5.cell 1
          have lk5 := k5.lt
          have ck6_0 := k6.cell 0
          have ck6_1 := k6.cell 1
          have ck6_2 := k6.cell 2
          have lk6 := k6.lt
          simp only [List.getElem?_cons_zero, List.getElem?_cons_succ] at ck5_0 ck5_1 ck6_0 ck6_1 ck6_2
          go_upto_region 32 with (first | (go_at_call 19; refine (HV _).mono ?_; rintro e w' ⟨rfl, hb⟩; have k5 := below_blk hb k5; have k6 := below_blk hb k6; have bW := bstep bW hb))
          have ck5_0 := k5.cell 0
          have ck5_1 := k5.cell 1
          have lk5 := k5.lt
          have ck6_0 := k6.cell 0
          have ck6_1 := k6.cell 1
          have ck6_2 := k6.cell 2
          have lk6 := k6.lt
          simp only [List.getElem?_cons_zero, List.getElem?_cons_succ] at ck5_0 ck5_1 ck6_0 ck6_1 ck6_2
          rcases kn with _ | _
          · go_wp2
            go_returns
            exact ⟨by simp, bW⟩
          · have h4 := h3 rfl
            by_cases e : N = 0
            · have e2 := h4.1 e
              subst e
              subst e2
              go_wp2
              go_returns
              exact ⟨by simp, bW⟩
            · have e2 : ¬ m = x := fun h => e (h4.2 h)
              go_wp2
              go_returns
              exact ⟨by simp; rw [beq_false_of_ne e, beq_false_of_ne e2], bW⟩
end Go.Proofs.Ytlnfccncbfpoiaa
