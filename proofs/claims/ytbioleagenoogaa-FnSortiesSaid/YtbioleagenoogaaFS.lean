/-
  FnSorties, walked. Conditions: none beyond the layout of its argument.
-/
import Derived.Test.YtbioleagenoogaaCD
import Derived.Test.YtbioleagenoogaaRB
import Derived.Test.YtbioleagenoogaaSL
namespace Go.Proofs.Ytbioleagenoogaa
open Go.RowKit
set_option maxRecDepth 100000
set_option maxHeartbeats 4000000

theorem rBig_is {A : Option Addr} {n c : Nat} (v : Bool) (h : decide ((65536 : Int) < (n : Int)) = v) (w : World) : Calls Try.prog 16 #[.slice A n c] w fun e w' => e = .returned (.bool v) ∧ w = w' := by
  go_enter Try.func16, Try.ntmps16
  go_wp2
  go_returns
  exact ⟨by simp, rfl⟩
theorem rInts_same {A B : Option Addr} {n m c d : Nat} {xs : List Int} (w : World) (hx : Rd w 1 A n (ints xs)) (hy : Rd w 1 B m (ints xs)) (hn : n ≤ 9223372036854775807) :
    Calls Try.prog 25 #[.slice A n c, .slice B m d] w fun e w' => e = .returned (.bool true) ∧ Below w.heap.size w w' := by
  have h := rInts_any A B n m c d xs xs w hx hy hn
  rw [decide_eq_true rfl] at h
  exact h
theorem int_at {w wr : World} {A : Option Addr} {n : Nat} {R : List Int} (hr : Rd w 1 A n (ints R)) (hW : Below w.heap.size w wr) (hn : 0 < n) :
    ∃ b off, A = some ⟨b, off, none⟩ ∧ b < w.heap.size ∧ ∀ j, j < n → wr.cell? ⟨b, off + j, none⟩ = some (.int .i64 (R.getD j 0)) := by
  obtain ⟨b, off, e, hb, hc⟩ := hr.2 hn
  have hl := hr.eq_len
  refine ⟨b, off, e, hb, fun j hj => ?_⟩
  refine (hW.cell (p := ⟨b, off + j, none⟩) hb).trans (hc _ _ ?_)
  rw [ints_get R j (by omega), List.getD_eq_getElem?_getD, List.getElem?_eq_getElem (by omega)]; rfl
theorem fnSorties_walk (A : Option Addr) (n c : Nat) (zs : List Int) (w : World) (hr : Rd w 1 A n (zs.flatMap (fun n => [Value.int .u8 n]))) (hl : zs.length = n) (hn : n ≤ 9223372036854775807) (ok : ∀ z ∈ zs, 0 ≤ z ∧ z ≤ 255) :
    Calls Try.prog 4 #[.slice A n c] w fun e w' => e = .returned (.bool true) ∧ Below w.heap.size w w' := by
  by_cases hbig : 65536 < n
  · have d1 : decide ((65536 : Int) < (n : Int)) = true := decide_eq_true (by omega)
    go_enter Try.func4, Try.ntmps4
    go_wp2_with (go_at_call 16; refine (rBig_is _ d1 _).mono ?_; rintro e w' ⟨rfl, rfl⟩)
    go_returns
    exact ⟨rfl, Below.refl _ _⟩
  · have hc := code_of hr hl (by omega) ok
    have d1 : decide ((65536 : Int) < (n : Int)) = false := decide_eq_false (by omega)
    clear hr hl ok
    have bW : Below w.heap.size w w := Below.refl _ _
    go_enter Try.func4, Try.ntmps4
    go_upto_region 4 with (first | (go_at_call 16; refine (rBig_is _ d1 _).mono ?_; rintro e w' ⟨rfl, rfl⟩) | (go_at_call 17; refine (DrawMostDrops_any A n c _ _ hc).mono ?_; rintro e w' ⟨i, l, s, f, fi, wa, le, ba, rfl, hI, bW⟩))
    obtain ⟨d3, e_d3⟩ : ∃ d, w'.heap.size = d := ⟨_, rfl⟩
    rw [e_d3]
    have s3 : w.heap.size ≤ d3 := by have := bW.size; omega
    refine wp_genC (fun W => Below w.heap.size w W ∧ Bk W d3 41 [.int .i64 i, .int .i64 l, .int .i64 s, .int .i64 f, .int .i64 fi] ∧ Bk W (d3 + 1) 31 [.int .i64 wa, .int .i64 le, .int .i64 ba]) ⟨by (repeat' (first | (with_reducible exact Below.refl _ _) | (with_reducible assumption) | (with_reducible refine balloc ?_ _) | (with_reducible refine bdrew ?_) | (with_reducible refine bdrewN ?_ _) | (with_reducible refine bstep ?_ (by assumption)) | (with_reducible refine bset ?_ ?_ _) | (exact Below.size (by assumption)) | go_size)), by (repeat (first | with_reducible assumption | exact Bk.new' (by first | assumption | rfl | (simp [*]; done) | (simp; omega)) | with_reducible refine Bk.alloc ?_ _)), by (repeat (first | with_reducible assumption | exact Bk.new' (by first | assumption | rfl | (simp [*]; done) | (simp; omega)) | with_reducible refine Bk.alloc ?_ _))⟩ ?_
    clear e_d3
    clear hI
    intro W ⟨bW, k3, k4⟩
    have ck3_0 := k3.cell 0
    have ck3_1 := k3.cell 1
    have ck3_2 := k3.cell 2
    have ck3_3 := k3.cell 3
    have ck3_4 := k3.cell 4
    have lk3 := k3.lt
    have ck4_0 := k4.cell 0
    have ck4_1 := k4.cell 1
    have ck4_2 := k4.cell 2
    have lk4 := k4.lt
    simp only [List.getElem?_cons_zero, List.getElem?_cons_succ] at ck3_0 ck3_1 ck3_2 ck3_3 ck3_4 ck4_0 ck4_1 ck4_2
    obtain ⟨N, hN6, hN⟩ := md_all i l s f fi wa le ba
    obtain ⟨nn, hnn⟩ : ∃ q, mdI i l s f fi wa le ba N = q := ⟨_, rfl⟩
    obtain ⟨p1, hp1⟩ : ∃ q, acB i l s f fi = q := ⟨_, rfl⟩
    obtain ⟨p2, hp2⟩ : ∃ q, tgB wa le ba = q := ⟨_, rfl⟩
    obtain ⟨qa, hqa⟩ : ∃ q, (acB i l s f fi && tgB wa le ba) = q := ⟨_, rfl⟩
    have hpq : (p1 && p2) = qa := by rw [← hp1, ← hp2]; exact hqa
    obtain ⟨q8, hq8⟩ : ∃ q, soB i l s f fi wa le ba nn = q := ⟨_, rfl⟩
    obtain ⟨v8, hv8⟩ : ∃ q, soI i l s f fi wa le ba nn = q := ⟨_, rfl⟩
    obtain ⟨q9, hq9⟩ : ∃ q, soB i l s f fi wa le ba (nn + 1) = q := ⟨_, rfl⟩
    obtain ⟨v9, hv9⟩ : ∃ q, soI i l s f fi wa le ba (nn + 1) = q := ⟨_, rfl⟩
    obtain ⟨L, hL⟩ : ∃ q, dmL i l s f fi wa le ba N = q := ⟨_, rfl⟩
    obtain ⟨qf, hqf⟩ : ∃ q, flB i l s f fi wa le ba = q := ⟨_, rfl⟩
    obtain ⟨vf, hvf⟩ : ∃ q, flI i l s f fi wa le ba = q := ⟨_, rfl⟩
    have n0 := mdI_bd i l s f fi wa le ba hN6
    rw [hnn] at n0
    have hLn := dmL_len i l s f fi wa le ba N
    rw [hL] at hLn
    have M1 := fun W : World => MostDrops_is hN hqa hnn W
    have M2 := fun W : World => sMostDrops_is hN hqa hnn W
    have C1 := fun W : World => ac_any i l s f fi W
    have C2 := fun W : World => tg_any wa le ba W
    simp only [hp1] at C1
    simp only [hp2] at C2
    have S1 := fun W : World => SortieMinutes_is hq8 hv8 W
    have S2 := fun W : World => SortieMinutes_is hq9 hv9 W
    have D1 := fun W : World => DropMinutes_is hN hqa hL W
    have D2 := fun W : World => sDropMinutes_is hN hqa hL W
    have F1 := fun W : World => FarthestLeg_is hqf hvf W
    have F2 := fun W : World => sFarthestLeg_is hqf hvf W
    have L8 := Lib.hid (sm_le hN hnn hq8 hv8)
    have L9 := Lib.hid (sm_gt hN hnn hq9 hv9)
    have LD := Lib.hid (fun (k : Nat) (hk : k < L.length) => dm_facts hN hL hk)
    have LF := Lib.hid (far_law hqf hvf)
    have LM := Lib.hid (fun (h : (acB i l s f fi && tgB wa le ba) = true) => mdI_is hnn h)
    clear hN hnn hp1 hp2 hqa hq8 hv8 hq9 hv9 hL hqf hvf
    go_upto_region 5 with (first | (go_at_call 18; refine (M1 _).mono ?_; rintro e w' ⟨rfl, hb⟩; have k3 := below_blk hb k3; have k4 := below_blk hb k4; have bW := bstep bW hb))
    have ck3_0 := k3.cell 0
    have ck3_1 := k3.cell 1
    have ck3_2 := k3.cell 2
    have ck3_3 := k3.cell 3
    have ck3_4 := k3.cell 4
    have lk3 := k3.lt
    have ck4_0 := k4.cell 0
    have ck4_1 := k4.cell 1
    have ck4_2 := k4.cell 2
    have lk4 := k4.lt
    simp only [List.getElem?_cons_zero, List.getElem?_cons_succ] at ck3_0 ck3_1 ck3_2 ck3_3 ck3_4 ck4_0 ck4_1 ck4_2
    go_upto_region 6 with (first | (go_at_call 19; refine (M2 _).mono ?_; rintro e w' ⟨rfl, hb⟩; have k3 := below_blk hb k3; have k4 := below_blk hb k4; have bW := bstep bW hb))
    refine wp_genC (fun W => Below w.heap.size w W ∧ Bk W d3 41 [.int .i64 i, .int .i64 l, .int .i64 s, .int .i64 f, .int .i64 fi] ∧ Bk W (d3 + 1) 31 [.int .i64 wa, .int .i64 le, .int .i64 ba]) ⟨by (repeat' (first | (with_reducible exact Below.refl _ _) | (with_reducible assumption) | (with_reducible refine balloc ?_ _) | (with_reducible refine bdrew ?_) | (with_reducible refine bdrewN ?_ _) | (with_reducible refine bstep ?_ (by assumption)) | (with_reducible refine bset ?_ ?_ _) | (exact Below.size (by assumption)) | go_size)), by (repeat (first | with_reducible assumption | exact Bk.new' (by first | assumption | rfl | (simp [*]; done) | (simp; omega)) | with_reducible refine Bk.alloc ?_ _)), by (repeat (first | with_reducible assumption | exact Bk.new' (by first | assumption | rfl | (simp [*]; done) | (simp; omega)) | with_reducible refine Bk.alloc ?_ _))⟩ ?_
    intro W ⟨bW, k3, k4⟩
    have ck3_0 := k3.cell 0
    have ck3_1 := k3.cell 1
    have ck3_2 := k3.cell 2
    have ck3_3 := k3.cell 3
    have ck3_4 := k3.cell 4
    have lk3 := k3.lt
    have ck4_0 := k4.cell 0
    have ck4_1 := k4.cell 1
    have ck4_2 := k4.cell 2
    have lk4 := k4.lt
    simp only [List.getElem?_cons_zero, List.getElem?_cons_succ] at ck3_0 ck3_1 ck3_2 ck3_3 ck3_4 ck4_0 ck4_1 ck4_2
    go_cut [70] (fun s70 wx => s70 = .bool false ∧ Below W.heap.size W wx)
    case first => as_aux_lemma =>
      have bX := Below.refl W.heap.size W
      rcases p1 with _ | _
      · obtain rfl : false = qa := by rw [← hpq]; rfl
        go_wp2_with (first | (go_at_call 20; refine (C1 _).mono ?_; rintro e w' ⟨rfl, hb⟩; have k3 := below_blk hb k3; have k4 := below_blk hb k4; have bW := bstep bW hb; have bX := bstep bX hb; have ck3_0 := k3.cell 0; have ck3_1 := k3.cell 1; have ck3_2 := k3.cell 2; have ck3_3 := k3.cell 3; have ck3_4 := k3.cell 4; have ck4_0 := k4.cell 0; have ck4_1 := k4.cell 1; have ck4_2 := k4.cell 2; have lk3 := k3.lt; have lk4 := k4.lt; simp only [List.getElem?_cons_zero, List.getElem?_cons_succ] at ck3_0 ck3_1 ck3_2 ck3_3 ck3_4 ck4_0 ck4_1 ck4_2))
        go_meet
        exact ⟨rfl, bX⟩
      · rcases p2 with _ | _
        · obtain rfl : false = qa := by rw [← hpq]; rfl
          go_wp2_with (first | (go_at_call 20; refine (C1 _).mono ?_; rintro e w' ⟨rfl, hb⟩; have k3 := below_blk hb k3; have k4 := below_blk hb k4; have bW := bstep bW hb; have bX := bstep bX hb; have ck3_0 := k3.cell 0; have ck3_1 := k3.cell 1; have ck3_2 := k3.cell 2; have ck3_3 := k3.cell 3; have ck3_4 := k3.cell 4; have ck4_0 := k4.cell 0; have ck4_1 := k4.cell 1; have ck4_2 := k4.cell 2; have lk3 := k3.lt; have lk4 := k4.lt; simp only [List.getElem?_cons_zero, List.getElem?_cons_succ] at ck3_0 ck3_1 ck3_2 ck3_3 ck3_4 ck4_0 ck4_1 ck4_2) | (go_at_call 21; refine (C2 _).mono ?_; rintro e w' ⟨rfl, hb⟩; have k3 := below_blk hb k3; have k4 := below_blk hb k4; have bW := bstep bW hb; have bX := bstep bX hb))
          go_meet
          exact ⟨rfl, bX⟩
        · obtain rfl : true = qa := by rw [← hpq]; rfl
          go_wp2_with (first | (go_at_call 20; refine (C1 _).mono ?_; rintro e w' ⟨rfl, hb⟩; have k3 := below_blk hb k3; have k4 := below_blk hb k4; have bW := bstep bW hb; have bX := bstep bX hb; have ck3_0 := k3.cell 0; have ck3_1 := k3.cell 1; have ck3_2 := k3.cell 2; have ck3_3 := k3.cell 3; have ck3_4 := k3.cell 4; have ck4_0 := k4.cell 0; have ck4_1 := k4.cell 1; have ck4_2 := k4.cell 2; have lk3 := k3.lt; have lk4 := k4.lt; simp only [List.getElem?_cons_zero, List.getElem?_cons_succ] at ck3_0 ck3_1 ck3_2 ck3_3 ck3_4 ck4_0 ck4_1 ck4_2) | (go_at_call 21; refine (C2 _).mono ?_; rintro e w' ⟨rfl, hb⟩; have k3 := below_blk hb k3; have k4 := below_blk hb k4; have bW := bstep bW hb; have bX := bstep bX hb))
          go_meet
          exact ⟨rfl, bX⟩
    case rest => as_aux_lemma =>
      obtain ⟨rfl, bx⟩ := hcut
      have bW := bstep bW bx
      have k3 := below_blk bx k3
      have k4 := below_blk bx k4
      have ck3_0 := k3.cell 0
      have ck3_1 := k3.cell 1
      have ck3_2 := k3.cell 2
      have ck3_3 := k3.cell 3
      have ck3_4 := k3.cell 4
      have lk3 := k3.lt
      have ck4_0 := k4.cell 0
      have ck4_1 := k4.cell 1
      have ck4_2 := k4.cell 2
      have lk4 := k4.lt
      simp only [List.getElem?_cons_zero, List.getElem?_cons_succ] at ck3_0 ck3_1 ck3_2 ck3_3 ck3_4 ck4_0 ck4_1 ck4_2
      clear C1 C2
      go_upto_region 9 with (first | (go_at_call 22; refine (S1 _).mono ?_; rintro e w' ⟨rfl, hb⟩; have k3 := below_blk hb k3; have k4 := below_blk hb k4; have bW := bstep bW hb))
      refine wp_genC (fun W => Below w.heap.size w W ∧ Bk W d3 41 [.int .i64 i, .int .i64 l, .int .i64 s, .int .i64 f, .int .i64 fi] ∧ Bk W (d3 + 1) 31 [.int .i64 wa, .int .i64 le, .int .i64 ba]) ⟨by (repeat' (first | (with_reducible exact Below.refl _ _) | (with_reducible assumption) | (with_reducible refine balloc ?_ _) | (with_reducible refine bdrew ?_) | (with_reducible refine bdrewN ?_ _) | (with_reducible refine bstep ?_ (by assumption)) | (with_reducible refine bset ?_ ?_ _) | (exact Below.size (by assumption)) | go_size)), by (repeat (first | with_reducible assumption | exact Bk.new' (by first | assumption | rfl | (simp [*]; done) | (simp; omega)) | with_reducible refine Bk.alloc ?_ _)), by (repeat (first | with_reducible assumption | exact Bk.new' (by first | assumption | rfl | (simp [*]; done) | (simp; omega)) | with_reducible refine Bk.alloc ?_ _))⟩ ?_
      intro W ⟨bW, k3, k4⟩
      have ck3_0 := k3.cell 0
      have ck3_1 := k3.cell 1
      have ck3_2 := k3.cell 2
      have ck3_3 := k3.cell 3
      have ck3_4 := k3.cell 4
      have lk3 := k3.lt
      have ck4_0 := k4.cell 0
      have ck4_1 := k4.cell 1
      have ck4_2 := k4.cell 2
      have lk4 := k4.lt
      simp only [List.getElem?_cons_zero, List.getElem?_cons_succ] at ck3_0 ck3_1 ck3_2 ck3_3 ck3_4 ck4_0 ck4_1 ck4_2
      go_cut [84] (fun s84 wx => s84 = .bool false ∧ Below W.heap.size W wx)
      case first => as_aux_lemma =>
        rcases q8 with _ | _
        · go_wp2
          go_meet
          exact ⟨rfl, Below.refl _ _⟩
        · have i8 : decide (f < v8) = false := decide_eq_false (by have := L8.out (by trivial); omega)
          go_wp2
          go_meet
          exact ⟨rfl, Below.refl _ _⟩
      case rest => as_aux_lemma =>
        obtain ⟨rfl, bx⟩ := hcut
        have bW := bstep bW bx
        have k3 := below_blk bx k3
        have k4 := below_blk bx k4
        have ck3_0 := k3.cell 0
        have ck3_1 := k3.cell 1
        have ck3_2 := k3.cell 2
        have ck3_3 := k3.cell 3
        have ck3_4 := k3.cell 4
        have lk3 := k3.lt
        have ck4_0 := k4.cell 0
        have ck4_1 := k4.cell 1
        have ck4_2 := k4.cell 2
        have lk4 := k4.lt
        simp only [List.getElem?_cons_zero, List.getElem?_cons_succ] at ck3_0 ck3_1 ck3_2 ck3_3 ck3_4 ck4_0 ck4_1 ck4_2
        go_upto_region 12 with (first | (go_at_call 22; refine (S2 _).mono ?_; rintro e w' ⟨rfl, hb⟩; have k3 := below_blk hb k3; have k4 := below_blk hb k4; have bW := bstep bW hb))
        refine wp_genC (fun W => Below w.heap.size w W ∧ Bk W d3 41 [.int .i64 i, .int .i64 l, .int .i64 s, .int .i64 f, .int .i64 fi] ∧ Bk W (d3 + 1) 31 [.int .i64 wa, .int .i64 le, .int .i64 ba]) ⟨by (repeat' (first | (with_reducible exact Below.refl _ _) | (with_reducible assumption) | (with_reducible refine balloc ?_ _) | (with_reducible refine bdrew ?_) | (with_reducible refine bdrewN ?_ _) | (with_reducible refine bstep ?_ (by assumption)) | (with_reducible refine bset ?_ ?_ _) | (exact Below.size (by assumption)) | go_size)), by (repeat (first | with_reducible assumption | exact Bk.new' (by first | assumption | rfl | (simp [*]; done) | (simp; omega)) | with_reducible refine Bk.alloc ?_ _)), by (repeat (first | with_reducible assumption | exact Bk.new' (by first | assumption | rfl | (simp [*]; done) | (simp; omega)) | with_reducible refine Bk.alloc ?_ _))⟩ ?_
        intro W ⟨bW, k3, k4⟩
        have ck3_0 := k3.cell 0
        have ck3_1 := k3.cell 1
        have ck3_2 := k3.cell 2
        have ck3_3 := k3.cell 3
        have ck3_4 := k3.cell 4
        have lk3 := k3.lt
        have ck4_0 := k4.cell 0
        have ck4_1 := k4.cell 1
        have ck4_2 := k4.cell 2
        have lk4 := k4.lt
        simp only [List.getElem?_cons_zero, List.getElem?_cons_succ] at ck3_0 ck3_1 ck3_2 ck3_3 ck3_4 ck4_0 ck4_1 ck4_2
        go_cut [102] (fun s102 wx => s102 = .bool false ∧ Below W.heap.size W wx)
        case first => as_aux_lemma =>
          rcases qa with _ | _
          · go_wp2
            go_meet
            exact ⟨rfl, Below.refl _ _⟩
          · rcases q9 with _ | _
            · go_wp2
              go_meet
              exact ⟨rfl, Below.refl _ _⟩
            · have i8 : decide (v9 ≤ f) = false := decide_eq_false (by have := L9.out (by trivial); omega)
              go_wp2
              go_meet
              exact ⟨rfl, Below.refl _ _⟩
        case rest => as_aux_lemma =>
          obtain ⟨rfl, bx⟩ := hcut
          have bW := bstep bW bx
          have k3 := below_blk bx k3
          have k4 := below_blk bx k4
          have ck3_0 := k3.cell 0
          have ck3_1 := k3.cell 1
          have ck3_2 := k3.cell 2
          have ck3_3 := k3.cell 3
          have ck3_4 := k3.cell 4
          have lk3 := k3.lt
          have ck4_0 := k4.cell 0
          have ck4_1 := k4.cell 1
          have ck4_2 := k4.cell 2
          have lk4 := k4.lt
          simp only [List.getElem?_cons_zero, List.getElem?_cons_succ] at ck3_0 ck3_1 ck3_2 ck3_3 ck3_4 ck4_0 ck4_1 ck4_2
          go_upto_region 15 with (first | (go_at_call 23; refine (D1 _).mono ?_; rintro e w' ⟨v, rfl, hO, hb⟩; have k3 := below_blk hb k3; have k4 := below_blk hb k4; have bW := bstep bW hb; obtain ⟨A1, c1, rfl, hr1, _⟩ := own_rd hO))
          have ck3_0 := k3.cell 0
          have ck3_1 := k3.cell 1
          have ck3_2 := k3.cell 2
          have ck3_3 := k3.cell 3
          have ck3_4 := k3.cell 4
          have lk3 := k3.lt
          have ck4_0 := k4.cell 0
          have ck4_1 := k4.cell 1
          have ck4_2 := k4.cell 2
          have lk4 := k4.lt
          simp only [List.getElem?_cons_zero, List.getElem?_cons_succ] at ck3_0 ck3_1 ck3_2 ck3_3 ck3_4 ck4_0 ck4_1 ck4_2
          go_upto_region 16 with (first | (go_at_call 24; refine (D2 _).mono ?_; rintro e w' ⟨v, rfl, hO, hb⟩; have k3 := below_blk hb k3; have k4 := below_blk hb k4; have bW := bstep bW hb; have hr1 := hr1.below hb; obtain ⟨A2, c2, rfl, hr2, _⟩ := own_rd hO))
          refine wp_genC (fun W => Below w.heap.size w W ∧ Bk W d3 41 [.int .i64 i, .int .i64 l, .int .i64 s, .int .i64 f, .int .i64 fi] ∧ Bk W (d3 + 1) 31 [.int .i64 wa, .int .i64 le, .int .i64 ba] ∧ Rd W 1 A1 L.length (ints L) ∧ Rd W 1 A2 L.length (ints L)) ⟨by (repeat' (first | (with_reducible exact Below.refl _ _) | (with_reducible assumption) | (with_reducible refine balloc ?_ _) | (with_reducible refine bdrew ?_) | (with_reducible refine bdrewN ?_ _) | (with_reducible refine bstep ?_ (by assumption)) | (with_reducible refine bset ?_ ?_ _) | (exact Below.size (by assumption)) | go_size)), by (repeat (first | with_reducible assumption | exact Bk.new' (by first | assumption | rfl | (simp [*]; done) | (simp; omega)) | with_reducible refine Bk.alloc ?_ _)), by (repeat (first | with_reducible assumption | exact Bk.new' (by first | assumption | rfl | (simp [*]; done) | (simp; omega)) | with_reducible refine Bk.alloc ?_ _)), hr1, hr2⟩ ?_
          intro W ⟨bW, k3, k4, hr1, hr2⟩
          have ck3_0 := k3.cell 0
          have ck3_1 := k3.cell 1
          have ck3_2 := k3.cell 2
          have ck3_3 := k3.cell 3
          have ck3_4 := k3.cell 4
          have lk3 := k3.lt
          have ck4_0 := k4.cell 0
          have ck4_1 := k4.cell 1
          have ck4_2 := k4.cell 2
          have lk4 := k4.lt
          simp only [List.getElem?_cons_zero, List.getElem?_cons_succ] at ck3_0 ck3_1 ck3_2 ck3_3 ck3_4 ck4_0 ck4_1 ck4_2
          go_upto_region 18 with (first | (go_at_call 25; refine (rInts_same _ hr1 hr2 (by omega)).mono ?_; rintro e w' ⟨rfl, hb⟩; have k3 := below_blk hb k3; have k4 := below_blk hb k4; have bW := bstep bW hb; have hr1 := hr1.below hb; have hr2 := hr2.below hb))
          refine wp_genC (fun W => Below w.heap.size w W ∧ Bk W d3 41 [.int .i64 i, .int .i64 l, .int .i64 s, .int .i64 f, .int .i64 fi] ∧ Bk W (d3 + 1) 31 [.int .i64 wa, .int .i64 le, .int .i64 ba] ∧ Rd W 1 A1 L.length (ints L)) ⟨by (repeat' (first | (with_reducible exact Below.refl _ _) | (with_reducible assumption) | (with_reducible refine balloc ?_ _) | (with_reducible refine bdrew ?_) | (with_reducible refine bdrewN ?_ _) | (with_reducible refine bstep ?_ (by assumption)) | (with_reducible refine bset ?_ ?_ _) | (exact Below.size (by assumption)) | go_size)), by (repeat (first | with_reducible assumption | exact Bk.new' (by first | assumption | rfl | (simp [*]; done) | (simp; omega)) | with_reducible refine Bk.alloc ?_ _)), by (repeat (first | with_reducible assumption | exact Bk.new' (by first | assumption | rfl | (simp [*]; done) | (simp; omega)) | with_reducible refine Bk.alloc ?_ _)), hr1⟩ ?_
          intro W ⟨bW, k3, k4, hr1⟩
          have ck3_0 := k3.cell 0
          have ck3_1 := k3.cell 1
          have ck3_2 := k3.cell 2
          have ck3_3 := k3.cell 3
          have ck3_4 := k3.cell 4
          have lk3 := k3.lt
          have ck4_0 := k4.cell 0
          have ck4_1 := k4.cell 1
          have ck4_2 := k4.cell 2
          have lk4 := k4.lt
          simp only [List.getElem?_cons_zero, List.getElem?_cons_succ] at ck3_0 ck3_1 ck3_2 ck3_3 ck3_4 ck4_0 ck4_1 ck4_2
          have hrW := hr1
          have k3W := k3
          have k4W := k4
          have bWW := bW
          have HLn := Lib.hid hLn
          go_wp2_with fail
          go_loopw [17] (fun i17 wr => ∃ k : Nat, k ≤ L.length ∧ i17 = .int .i64 k ∧ Below W.heap.size W wr) (fun i17 _ => L.length - (intOf i17).toNat)
          case atStart => exact ⟨0, Nat.zero_le _, rfl, Below.refl _ _⟩
          case round => as_aux_lemma =>
            obtain ⟨k, hk, rfl, hW⟩ := hrel
            have bW := bstep bWW hW
            have k3 := below_blk hW k3W
            have k4 := below_blk hW k4W
            have hr1 := hrW.below hW
            have ck3_0 := k3.cell 0
            have ck3_1 := k3.cell 1
            have ck3_2 := k3.cell 2
            have ck3_3 := k3.cell 3
            have ck3_4 := k3.cell 4
            have lk3 := k3.lt
            have ck4_0 := k4.cell 0
            have ck4_1 := k4.cell 1
            have ck4_2 := k4.cell 2
            have lk4 := k4.lt
            simp only [List.getElem?_cons_zero, List.getElem?_cons_succ] at ck3_0 ck3_1 ck3_2 ck3_3 ck3_4 ck4_0 ck4_1 ck4_2
            by_cases hlt : k < L.length
            · obtain ⟨e1, e2, e3, e4⟩ := LD.out k hlt
              have hnn := LM.out e1
              obtain ⟨b, off, rfl, hbl, hcell⟩ := int_at hr1 (Below.refl _ _) (by omega)
              have x1 := hcell k hlt
              obtain ⟨x, hx⟩ : ∃ x, L.getD k 0 = x := ⟨_, rfl⟩
              rw [hx] at x1 e2 e4
              have i1 : (0 : Int) ≤ (k : Int) := by omega
              have i2 : (k : Int) < (L.length : Int) := by omega
              have i3 : decide (f ≤ x) = false := decide_eq_false (by omega)
              have i4 : decide (nn ≤ (k : Int)) = false := decide_eq_false (by omega)
              have HE := Lib.hid hnn
              clear e1 hx hnn
              by_cases hk0 : k = 0
              · have i5 : decide ((0 : Int) < (k : Int)) = false := decide_eq_false (by omega)
                have i6 : decide (0 < k) = false := decide_eq_false (by omega)
                clear e4 hcell hk0
                go_upto_region 21 with fail
                (refine wp_region_bel (by kernel_rfl) (by kernel_rfl) ?_; (repeat (go_big_quiet_step ((first | fail)))); refine wpQuiet_nil ?_; intro w' hw'; have hb := below_of hw'; clear hw')
                go_wp2
                go_roundw
                case rel => exact ⟨k + 1, by omega, by go_num, bstep hW hb⟩
                case measure => simp [intOf]; omega
              · obtain ⟨k, rfl⟩ : ∃ k2, k = k2 + 1 := ⟨k - 1, by omega⟩
                have x2 := hcell k (by omega)
                have e5 := e4 (by omega)
                rw [show k + 1 - 1 = k from rfl] at e5
                obtain ⟨y, hy⟩ : ∃ y, L.getD k 0 = y := ⟨_, rfl⟩
                rw [hy] at x2 e5
                have i5 : decide ((0 : Int) < (k : Int) + 1) = true := decide_eq_true (by omega)
                have i11 : decide (nn ≤ (k : Int) + 1) = false := decide_eq_false (by have := HE.out; omega)
                have i12 : (k : Int) + 1 < (L.length : Int) := by omega
                have i7 : decide (x ≤ y) = false := decide_eq_false (by omega)
                have i8 : (0 : Int) ≤ (k : Int) := by omega
                have i9 : (k : Int) < (L.length : Int) := by omega
                have i10 : IntKind.i64.wrap ((k : Int) + 1 - 1) = (k : Int) := by rw [IntKind.wrap_i64]; omega
                clear e4 hcell hy e5
                go_upto_region 21 with fail
                (refine wp_region_bel (by kernel_rfl) (by kernel_rfl) ?_; (repeat (go_big_quiet_step ((first | fail)))); refine wpQuiet_nil ?_; intro w' hw'; have hb := below_of hw'; clear hw')
                go_wp2
                go_roundw
                case rel => exact ⟨k + 1 + 1, by omega, by go_num, bstep hW hb⟩
                case measure => simp [intOf]; omega
            · clear LD LM L8 L9
              go_upto_region 24 with (first | (go_at_call 26; refine (F1 _).mono ?_; rintro e w' ⟨rfl, hb⟩; have k3 := below_blk hb k3; have k4 := below_blk hb k4; have bW := bstep bW hb))
              have ck3_0 := k3.cell 0
              have ck3_1 := k3.cell 1
              have ck3_2 := k3.cell 2
              have ck3_3 := k3.cell 3
              have ck3_4 := k3.cell 4
              have lk3 := k3.lt
              have ck4_0 := k4.cell 0
              have ck4_1 := k4.cell 1
              have ck4_2 := k4.cell 2
              have lk4 := k4.lt
              simp only [List.getElem?_cons_zero, List.getElem?_cons_succ] at ck3_0 ck3_1 ck3_2 ck3_3 ck3_4 ck4_0 ck4_1 ck4_2
              go_upto_if 183 with (first | (go_at_call 27; refine (F2 _).mono ?_; rintro e w' ⟨rfl, hb⟩; have k3 := below_blk hb k3; have k4 := below_blk hb k4; have bW := bstep bW hb))
              refine wp_genC (fun W => Below w.heap.size w W ∧ Bk W d3 41 [.int .i64 i, .int .i64 l, .int .i64 s, .int .i64 f, .int .i64 fi] ∧ Bk W (d3 + 1) 31 [.int .i64 wa, .int .i64 le, .int .i64 ba]) ⟨by (repeat' (first | (with_reducible exact Below.refl _ _) | (with_reducible assumption) | (with_reducible refine balloc ?_ _) | (with_reducible refine bdrew ?_) | (with_reducible refine bdrewN ?_ _) | (with_reducible refine bstep ?_ (by assumption)) | (with_reducible refine bset ?_ ?_ _) | (exact Below.size (by assumption)) | go_size)), by (repeat (first | with_reducible assumption | exact Bk.new' (by first | assumption | rfl | (simp [*]; done) | (simp; omega)) | with_reducible refine Bk.alloc ?_ _)), by (repeat (first | with_reducible assumption | exact Bk.new' (by first | assumption | rfl | (simp [*]; done) | (simp; omega)) | with_reducible refine Bk.alloc ?_ _))⟩ ?_
              intro W ⟨bW, k3, k4⟩
              have ck3_0 := k3.cell 0
              have ck3_1 := k3.cell 1
              have ck3_2 := k3.cell 2
              have ck3_3 := k3.cell 3
              have ck3_4 := k3.cell 4
              have lk3 := k3.lt
              have ck4_0 := k4.cell 0
              have ck4_1 := k4.cell 1
              have ck4_2 := k4.cell 2
              have lk4 := k4.lt
              simp only [List.getElem?_cons_zero, List.getElem?_cons_succ] at ck3_0 ck3_1 ck3_2 ck3_3 ck3_4 ck4_0 ck4_1 ck4_2
              go_cut [22, 23, 24, 25, 26] (fun s22 s23 s24 s25 s26 wx => Below W.heap.size W wx)
              case first => as_aux_lemma =>
                rcases qf with _ | _
                · go_wp2
                  go_meet
                  exact Below.refl _ _
                · obtain ⟨ha, ht, v0, v1, ht2, hs1, hs2⟩ := LF.out (by trivial)
                  obtain ⟨N2, hN26, hN2⟩ := md_all i l s f fi wa vf ba
                  obtain ⟨n2, hn2⟩ : ∃ q, mdI i l s f fi wa vf ba N2 = q := ⟨_, rfl⟩
                  have hp := md_pos hN2 hn2 ha ht2 hs1
                  have MX := fun W : World => MostDrops_is hN2 (show (acB i l s f fi && tgB wa vf ba) = true by rw [ha, ht2]; rfl) hn2 W
                  obtain ⟨N3, hN36, hN3⟩ := md_all i l s f fi wa (vf + 1) ba
                  obtain ⟨n3, hn3⟩ : ∃ q, mdI i l s f fi wa (vf + 1) ba N3 = q := ⟨_, rfl⟩
                  obtain ⟨q3, hq3⟩ : ∃ q, tgB wa (vf + 1) ba = q := ⟨_, rfl⟩
                  have hz : q3 = true → n3 = 0 := fun e => md_zero hN3 hn3 ha (hq3.trans e) (hs2 (hq3.trans e))
                  have MY := fun W : World => MostDrops_is hN3 (show (acB i l s f fi && tgB wa (vf + 1) ba) = q3 by rw [ha, hq3]; rfl) hn3 W
                  have i1 : decide (n2 < 1) = false := decide_eq_false (by omega)
                  have HZ := Lib.hid hz
                  have bX := Below.refl W.heap.size W
                  clear hN2 hn2 hp ha ht ht2 hs1 hs2 hN3 hn3 hq3 hz LF
                  go_upto_region 29 with fail
                  obtain ⟨d22, e22⟩ : ∃ d, W.heap.size = d := ⟨_, rfl⟩
                  rw [e22]
                  refine wp_genC (fun V => Below W.heap.size W V ∧ Bk V d22 31 [.int .i64 wa, .int .i64 le, .int .i64 ba]) ⟨balloc bX _, Bk.new' e22⟩ ?_
                  have lk3W := k3.lt
                  have E22 := Lib.hid e22
                  clear e22 bX
                  intro V ⟨bX, k22⟩
                  have g0 := k22.cell 0
                  have g1 := k22.cell 1
                  have g2 := k22.cell 2
                  have gf := k22.frozen 1
                  have gl := k22.lt
                  simp only [List.getElem?_cons_zero, List.getElem?_cons_succ] at g0 g1 g2
                  go_upto_region 30 with fail
                  refine wp_genC (fun V => Below W.heap.size W V ∧ Bk V d22 31 [.int .i64 wa, .int .i64 vf, .int .i64 ba]) ⟨bset bX (p := ⟨d22, 1, none⟩) (Nat.le_of_eq E22.out) _, k22.set_ 1 _⟩ ?_
                  clear g0 g1 g2 gf gl
                  intro V2 ⟨bX, k22⟩
                  have k3 := below_blk bX k3
                  have k4 := below_blk bX k4
                  
                  have g0 := k22.cell 0
                  have g1 := k22.cell 1
                  have g2 := k22.cell 2
                  have gl := k22.lt
                  have ck3_0 := k3.cell 0
                  have ck3_1 := k3.cell 1
                  have ck3_2 := k3.cell 2
                  have ck3_3 := k3.cell 3
                  have ck3_4 := k3.cell 4
                  have lk3 := k3.lt
                  simp only [List.getElem?_cons_zero, List.getElem?_cons_succ] at g0 g1 g2 ck3_0 ck3_1 ck3_2 ck3_3 ck3_4
                  go_upto_region 31 with (go_at_call 18; refine (MX _).mono ?_; rintro e w' ⟨rfl, hb⟩; have k3 := below_blk hb k3; have k22 := below_blk hb k22; have bX := bstep bX hb)
                  have g0 := k22.cell 0
                  have g1 := k22.cell 1
                  have g2 := k22.cell 2
                  have gf := k22.frozen 1
                  have gl := k22.lt
                  simp only [List.getElem?_cons_zero, List.getElem?_cons_succ] at g0 g1 g2
                  have wr1 : wrap64 (vf + 1) = vf + 1 := by simp only [wrap64]; omega
                  go_upto_region 34 with fail
                  refine wp_genC (fun V => Below W.heap.size W V ∧ Bk V d22 31 [.int .i64 wa, .int .i64 (vf + 1), .int .i64 ba] ∧ Bk V d3 41 [.int .i64 i, .int .i64 l, .int .i64 s, .int .i64 f, .int .i64 fi]) ⟨bset bX (p := ⟨d22, 1, none⟩) (Nat.le_of_eq E22.out) _, k22.set_ 1 _, k3.far (by have := E22.out; have := lk3W; simp only; omega) _⟩ ?_
                  clear g0 g1 g2 gf gl ck3_0 ck3_1 ck3_2 ck3_3 ck3_4 lk3
                  intro V3 ⟨bX, k22, k3⟩
                  have g0 := k22.cell 0
                  have g1 := k22.cell 1
                  have g2 := k22.cell 2
                  have gl := k22.lt
                  have ck3_0 := k3.cell 0
                  have ck3_1 := k3.cell 1
                  have ck3_2 := k3.cell 2
                  have ck3_3 := k3.cell 3
                  have ck3_4 := k3.cell 4
                  have lk3 := k3.lt
                  simp only [List.getElem?_cons_zero, List.getElem?_cons_succ] at g0 g1 g2 ck3_0 ck3_1 ck3_2 ck3_3 ck3_4
                  go_upto_region 35 with (go_at_call 18; refine (MY _).mono ?_; rintro e w' ⟨rfl, hb⟩; have bX := bstep bX hb)
                  rcases q3 with _ | _
                  · go_wp2
                    go_meet
                    exact bX
                  · obtain rfl := HZ.out (by trivial)
                    have i2 : decide ((0 : Int) < 0) = false := rfl
                    go_wp2
                    go_meet
                    exact bX
              case rest => as_aux_lemma =>
                have bW : Below w.heap.size w wc := bstep bW hcut
                go_upto_region 38 with (go_at_call 28; refine (DrawSortieMinutes_any A n c _ _ (hc.below bW)).mono ?_; rintro e w' ⟨i, l, s, f, fi, wa, le, ba, x, rfl, hI, hb⟩; have bW := bstep bW hb)
                obtain ⟨d27, e_d27⟩ : ∃ d, w'.heap.size = d := ⟨_, rfl⟩
                rw [e_d27]
                have s27 : w.heap.size ≤ d27 := by have := bW.size; omega
                refine wp_genC (fun W => Below w.heap.size w W ∧ Bk W d27 41 [.int .i64 i, .int .i64 l, .int .i64 s, .int .i64 f, .int .i64 fi] ∧ Bk W (d27 + 1) 31 [.int .i64 wa, .int .i64 le, .int .i64 ba]) ⟨by (repeat' (first | (with_reducible exact Below.refl _ _) | (with_reducible assumption) | (with_reducible refine balloc ?_ _) | (with_reducible refine bdrew ?_) | (with_reducible refine bdrewN ?_ _) | (with_reducible refine bstep ?_ (by assumption)) | (with_reducible refine bset ?_ ?_ _) | (exact Below.size (by assumption)) | go_size)), by (repeat (first | with_reducible assumption | exact Bk.new' (by first | assumption | rfl | (simp [*]; done) | (simp; omega)) | with_reducible refine Bk.alloc ?_ _)), by (repeat (first | with_reducible assumption | exact Bk.new' (by first | assumption | rfl | (simp [*]; done) | (simp; omega)) | with_reducible refine Bk.alloc ?_ _))⟩ ?_
                clear e_d27
                clear hI
                intro W ⟨bW, k7, k8⟩
                have ck7_0 := k7.cell 0
                have ck7_1 := k7.cell 1
                have ck7_2 := k7.cell 2
                have ck7_3 := k7.cell 3
                have ck7_4 := k7.cell 4
                have lk7 := k7.lt
                have ck8_0 := k8.cell 0
                have ck8_1 := k8.cell 1
                have ck8_2 := k8.cell 2
                have lk8 := k8.lt
                simp only [List.getElem?_cons_zero, List.getElem?_cons_succ] at ck7_0 ck7_1 ck7_2 ck7_3 ck7_4 ck8_0 ck8_1 ck8_2
                obtain ⟨qz, hqz⟩ : ∃ q, soB i l s f fi wa le ba x = q := ⟨_, rfl⟩
                obtain ⟨vz, hvz⟩ : ∃ q, soI i l s f fi wa le ba x = q := ⟨_, rfl⟩
                have Z1 := fun W : World => SortieMinutes_is hqz hvz W
                have Z2 := fun W : World => sSortieMinutes_is hqz hvz W
                clear hqz hvz
                go_upto_region 39 with (first | (go_at_call 22; refine (Z1 _).mono ?_; rintro e w' ⟨rfl, hb⟩; have k7 := below_blk hb k7; have k8 := below_blk hb k8; have bW := bstep bW hb))
                have ck7_0 := k7.cell 0
                have ck7_1 := k7.cell 1
                have ck7_2 := k7.cell 2
                have ck7_3 := k7.cell 3
                have ck7_4 := k7.cell 4
                have lk7 := k7.lt
                have ck8_0 := k8.cell 0
                have ck8_1 := k8.cell 1
                have ck8_2 := k8.cell 2
                have lk8 := k8.lt
                simp only [List.getElem?_cons_zero, List.getElem?_cons_succ] at ck7_0 ck7_1 ck7_2 ck7_3 ck7_4 ck8_0 ck8_1 ck8_2
                go_wp2_with (first | (go_at_call 29; refine (Z2 _).mono ?_; rintro e w' ⟨rfl, hb⟩; have k7 := below_blk hb k7; have k8 := below_blk hb k8; have bW := bstep bW hb))
                go_returns
                exact ⟨by simp, bW⟩
end Go.Proofs.Ytbioleagenoogaa
