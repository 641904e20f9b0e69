/-
  FnSeries, walked. Conditions: none beyond the layout of its argument.
-/
import Derived.Test.YtjffhacoijmgiaaCD
import Derived.Test.YtjffhacoijmgiaaRS
import Derived.Test.YtjffhacoijmgiaaSL
import Derived.Test.YtjffhacoijmgiaaZG
import Derived.Test.YtjffhacoijmgiaaZA
import Derived.Laws.StructEq
namespace Go.Proofs.Ytjffhacoijmgiaa
open Go.RowKit
set_option maxRecDepth 100000
set_option maxHeartbeats 8000000

theorem rBig_is {A : Option Addr} {n c : Nat} (v : Bool) (h : decide ((65536 : Int) < (n : Int)) = v) (w : World) : Calls Try.prog 4 #[.slice A n c] w fun e w' => e = .returned (.bool v) ∧ w = w' := by
  go_enter Try.func4, Try.ntmps4
  go_wp2
  go_returns
  exact ⟨by simp, rfl⟩
theorem rInts_same {A B : Option Addr} {n m c d : Nat} {xs : List Int} (w : World) (hx : Rd w 1 A n (ints xs)) (hy : Rd w 1 B m (ints xs)) (hn : n ≤ 9223372036854775807) :
    Calls Try.prog 19 #[.slice A n c, .slice B m d] w fun e w' => e = .returned (.bool true) ∧ Below w.heap.size w w' := by
  have h := rInts_any A B n m c d xs xs w hx hy hn
  rw [decide_eq_true rfl] at h
  exact h
theorem below_blk {w w' : World} (h : Below w.heap.size w w') {g : Nat} {t : TypeId} {cs : List Value} (k : Bk w g t cs) : Bk w' g t cs := k.below h k.lt
theorem GrowthBetween_is {q : Bool} {h k f t : Int} {A : Option Addr} {n c : Nat} {zs : List SituationT} (hq : gbB zs f t = q) (hh : gbH zs f t = h) (hk : gbC zs f t = k) (w : World) (hr : Rd w 6 A n (sitF zs)) (hl : zs.length = n) (hn : n ≤ 140737488355328) :
    Calls Try.prog 11 #[.slice A n c, .int .i64 f, .int .i64 t] w fun e w' => e = .returned (.tuple #[.int .i64 h, .int .i64 k, .bool q]) ∧ Below w.heap.size w w' := by
  subst hq hh hk; exact GrowthBetween_any A n c zs f t w hr hl hn
theorem sGrowthBetween_is {q : Bool} {h k f t : Int} {A : Option Addr} {n c : Nat} {zs : List SituationT} (hq : gbB zs f t = q) (hh : gbH zs f t = h) (hk : gbC zs f t = k) (w : World) (hr : Rd w 6 A n (sitF zs)) (hl : zs.length = n) (hn : n ≤ 140737488355328) :
    Calls Try.prog 12 #[.slice A n c, .int .i64 f, .int .i64 t] w fun e w' => e = .returned (.tuple #[.int .i64 h, .int .i64 k, .bool q]) ∧ Below w.heap.size w w' := by
  subst hq hh hk; exact sGrowthBetween_any A n c zs f t w hr hl hn
theorem FastestGrowth_is {q : Bool} {h : Int} {A : Option Addr} {n c : Nat} {zs : List SituationT} (hh : fastN zs = h) (hq : fastB zs = q) (w : World) (hr : Rd w 6 A n (sitF zs)) (hl : zs.length = n) (hn : n ≤ 140737488355328) :
    Calls Try.prog 21 #[.slice A n c] w fun e w' => e = .returned (.tuple #[.int .i64 h, .bool q]) ∧ Below w.heap.size w w' := by
  subst hq hh; exact FastestGrowth_any A n c zs w hr hl hn
theorem sFastestGrowth_is {q : Bool} {h : Int} {A : Option Addr} {n c : Nat} {zs : List SituationT} (hh : fastN zs = h) (hq : fastB zs = q) (w : World) (hr : Rd w 6 A n (sitF zs)) (hl : zs.length = n) (hn : n ≤ 140737488355328) :
    Calls Try.prog 22 #[.slice A n c] w fun e w' => e = .returned (.tuple #[.int .i64 h, .bool q]) ∧ Below w.heap.size w w' := by
  subst hq hh; exact sFastestGrowth_any A n c zs w hr hl hn
theorem eqlSit {x0 x1 x2 x3 x4 x5 a0 a1 a2 a3 a4 a5 : Int} (v : Bool) (hv : (x0 == a0 && (x1 == a1 && (x2 == a2 && (x3 == a3 && (x4 == a4 && x5 == a5))))) = v) (w : World) :
    (binOp .eql 26 (.agg #[.int .i64 x0, .int .i64 x1, .int .i64 x2, .int .i64 x3, .int .i64 x4, .int .i64 x5]) (.agg #[.int .i64 a0, .int .i64 a1, .int .i64 a2, .int .i64 a3, .int .i64 a4, .int .i64 a5])).run Try.prog w = .ok (.bool v) w := by
  subst hv
  rcases h0 : (x0 == a0) with _ | _
  · simp [go_sem, h0]
  rcases h1 : (x1 == a1) with _ | _
  · simp [go_sem, h0, h1]
  rcases h2 : (x2 == a2) with _ | _
  · simp [go_sem, h0, h1, h2]
  rcases h3 : (x3 == a3) with _ | _
  · simp [go_sem, h0, h1, h2, h3]
  rcases h4 : (x4 == a4) with _ | _
  · simp [go_sem, h0, h1, h2, h3, h4]
  rcases h5 : (x5 == a5) with _ | _
  · simp [go_sem, h0, h1, h2, h3, h4, h5]
  · simp [go_sem, h0, h1, h2, h3, h4, h5]
theorem guardSit (x y : Operand) (xs ys : Array Value) (w : World) : (eqGuard .eql 26 x y (.agg xs) (.agg ys)).run Try.prog w = .ok () w := run_eqGuard_agg w .eql 26 x y xs ys (by kernel_rfl)
theorem fnSeries_walk (A : Option Addr) (n c : Nat) (bs : List Int) (w : World) (hr : Rd w 1 A n (bs.flatMap (fun n => [Value.int .u8 n]))) (hl : bs.length = n) (hn : n ≤ 9223372036854775807) (ok : ∀ z ∈ bs, 0 ≤ z ∧ z ≤ 255) :
    Calls Try.prog 3 #[.slice A n c] w fun e w' => e = .returned (.bool true) ∧ Below w.heap.size w w' := by
  by_cases hbig : 65536 < n
  · have d1 : decide ((65536 : Int) < (n : Int)) = true := decide_eq_true (by omega)
    go_enter Try.func3, Try.ntmps3
    go_wp2_with (go_at_call 4; refine (rBig_is _ d1 _).mono ?_; rintro e w' ⟨rfl, rfl⟩)
    go_returns
    exact ⟨rfl, Below.refl _ _⟩
  · have hc := code_of hr hl (by omega) ok
    have d1 : decide ((65536 : Int) < (n : Int)) = false := decide_eq_false (by omega)
    clear hr hl ok
    have bW : Below w.heap.size w w := Below.refl _ _
    go_enter Try.func3, Try.ntmps3
    go_upto_region 4 with (first | (go_at_call 4; refine (rBig_is _ d1 _).mono ?_; rintro e w' ⟨rfl, rfl⟩) | (go_at_call 5; refine (DrawAddReport_any A n c _ _ (hc.below bW)).mono ?_; rintro e w' ⟨b, m, c', zs, a0, a1, a2, a3, a4, a5, rfl, ⟨hS, hx⟩, hbl⟩; have bW := bstep bW hbl))
    obtain ⟨d4, ed4⟩ : ∃ d, w'.heap.size = d := ⟨_, rfl⟩
    rw [ed4]
    obtain ⟨hr, hl, hm, -, -, hb⟩ := hS
    refine wp_genC (fun W => Below w.heap.size w W ∧ Bk W d4 26 [.int .i64 a0, .int .i64 a1, .int .i64 a2, .int .i64 a3, .int .i64 a4, .int .i64 a5] ∧ Rd W 6 (some ⟨b, 0, none⟩) m (sitF zs) ∧ b < W.heap.size) ⟨by (repeat' (first | (with_reducible exact Below.refl _ _) | (with_reducible assumption) | (with_reducible refine balloc ?_ _) | (with_reducible refine bdrew ?_) | (with_reducible refine bdrewN ?_ _) | (with_reducible refine bstep ?_ (by assumption)) | (with_reducible refine bset ?_ ?_ _) | (exact Below.size (by assumption)) | go_size)), Bk.new' ed4, hr.below (balloc (Below.refl _ _) _), by simp; omega⟩ ?_
    clear ed4 hr hb bW hbl hx
    intro W ⟨bW, kx, hr, hb⟩
    have cx0 := kx.cell 0
    have cx1 := kx.cell 1
    have cx2 := kx.cell 2
    have cx3 := kx.cell 3
    have cx4 := kx.cell 4
    have cx5 := kx.cell 5
    have lx := kx.lt
    simp only [List.getElem?_cons_zero, List.getElem?_cons_succ] at cx0 cx1 cx2 cx3 cx4 cx5
    have hm2 : m ≤ 1048576 := by omega
    obtain ⟨q, hq⟩ : ∃ q, addR zs (a0, a1, a2, a3, a4, a5) = q := ⟨_, rfl⟩
    obtain ⟨L, hL⟩ : ∃ L, addL zs (a0, a1, a2, a3, a4, a5) = L := ⟨_, rfl⟩
    have hLn : L.length ≤ 1048576 := by have := addL_len zs (a0, a1, a2, a3, a4, a5); rw [hL] at this; omega
    have X1 := fun (W : World) h1 h2 => AddReport_is_rd (g := b) (c := c') hq hL W h1 h2 hl (by omega)
    have X2 := fun (W : World) h1 h2 => sAddReport_is_rd (g := b) (c := c') hq hL W h1 h2 hl (by omega)
    have LW := Lib.hid (add_law hq hL)
    clear hq hL hl
    go_upto_region 5 with (first | (go_at_call 6; refine (X1 _ hr hb).mono ?_; rintro e w' ⟨v, rfl, hO, hbl⟩; obtain ⟨A1, c1, rfl, hr1, _⟩ := own_rd hO; have hr := hr.below hbl; have hb := Nat.lt_of_lt_of_le hb hbl.size; have kx := below_blk hbl kx; have bW := bstep bW hbl))
    have cx0 := kx.cell 0
    have cx1 := kx.cell 1
    have cx2 := kx.cell 2
    have cx3 := kx.cell 3
    have cx4 := kx.cell 4
    have cx5 := kx.cell 5
    have lx := kx.lt
    simp only [List.getElem?_cons_zero, List.getElem?_cons_succ] at cx0 cx1 cx2 cx3 cx4 cx5
    go_upto_region 6 with (first | (go_at_call 7; refine (X2 _ hr hb).mono ?_; rintro e w' ⟨v, rfl, hO2, hbl⟩; obtain ⟨A2, c2, rfl, hr2, _⟩ := own_rd hO2; have hr1 := hr1.below hbl; have bW := bstep bW hbl))
    refine wp_genC (fun W => Below w.heap.size w W ∧ Rd W 6 A1 L.length (sitF L) ∧ Rd W 6 A2 L.length (sitF L)) ⟨bW, hr1, hr2⟩ ?_
    clear bW hr1 hr2 hr hb kx hO hO2 hbl X1 X2 cx0 cx1 cx2 cx3 cx4 cx5 lx
    intro W ⟨bW, hr1, hr2⟩
    go_cut [78] (fun s78 wx => s78 = .bool false ∧ Below W.heap.size W wx)
    case first => as_aux_lemma =>
      have bX := Below.refl W.heap.size W
      rcases q with _ | _
      · go_wp2_with (first | (go_at_call 8; refine (rSituations_same _ hr1 hr2 rfl hLn).mono ?_; rintro e w' ⟨rfl, hbl⟩; have hr1 := hr1.below hbl; have bX := bstep bX hbl))
        go_meet
        exact ⟨rfl, bX⟩
      · have hs := LW.out (by trivial)
        go_wp2_with (first | (go_at_call 8; refine (rSituations_same _ hr1 hr2 rfl hLn).mono ?_; rintro e w' ⟨rfl, hbl⟩; have hr1 := hr1.below hbl; have bX := bstep bX hbl) | (go_at_call 9; refine (IsSeries_is true hs _ hr1 rfl (by omega)).mono ?_; rintro e w' ⟨rfl, hbl⟩; have bX := bstep bX hbl))
        go_meet
        exact ⟨rfl, bX⟩
    case rest => as_aux_lemma =>
      obtain ⟨rfl, bx⟩ := hcut
      have bW := bstep bW bx
      clear LW hr1 hr2 hLn bx hm hm2
      go_upto_region 9 with (first | (go_at_call 10; refine (DrawGrowthBetween_any A n c _ _ (hc.below bW)).mono ?_; rintro e w' ⟨b, m, c', zs, x, y, rfl, ⟨hS, hx, hy⟩, hbl⟩; have bW := bstep bW hbl))
      obtain ⟨hr, hl, hm, -, -, hb⟩ := hS
      have hm2 : m ≤ 140737488355328 := by omega
      obtain ⟨q, hq⟩ : ∃ q, gbB zs x y = q := ⟨_, rfl⟩
      obtain ⟨h, hh⟩ : ∃ h, gbH zs x y = h := ⟨_, rfl⟩
      obtain ⟨k, hk⟩ : ∃ k, gbC zs x y = k := ⟨_, rfl⟩
      have X1 := fun (W : World) h1 => GrowthBetween_is (A := some ⟨b, 0, none⟩) (n := m) (c := c') hq hh hk W h1 hl hm2
      have X2 := fun (W : World) h1 => sGrowthBetween_is (A := some ⟨b, 0, none⟩) (n := m) (c := c') hq hh hk W h1 hl hm2
      obtain ⟨⟨h0, h1⟩, k0, k1⟩ := gb_bd hq hh hk
      have LG := Lib.hid (gb_law hq hh hk)
      have HL := Lib.hid hl
      clear hq hh hk hl hx hy
      have i1 : decide (h < 0) = false := decide_eq_false (by omega)
      have i2 : decide (k < 0) = false := decide_eq_false (by omega)
      go_upto_region 10 with (first | (go_at_call 11; refine (X1 _ hr).mono ?_; rintro e w' ⟨rfl, hbl⟩; have hr := hr.below hbl; have bW := bstep bW hbl))
      go_upto_region 11 with (first | (go_at_call 12; refine (X2 _ hr).mono ?_; rintro e w' ⟨rfl, hbl⟩; have hr := hr.below hbl; have bW := bstep bW hbl))
      go_upto_if 122 with fail
      have bX := Below.refl w'.heap.size w'
      clear X1 X2
      go_cut [18, 19, 20, 21, 22, 23, 24] (fun s18 s19 s20 s21 s22 s23 s24 wx => Below w'.heap.size w' wx)
      case first => as_aux_lemma =>
        rcases q with _ | _
        · go_wp2
          go_meet
          exact bX
        · obtain ⟨⟨x0, xy, y1⟩, hmid⟩ := LG.out (by trivial)
          obtain ⟨mid, em⟩ : ∃ mid, (x + y) / 2 = mid := ⟨_, rfl⟩
          have em2 : (x + y).tdiv 2 = mid := by rw [Int.tdiv_eq_ediv_of_nonneg (by omega)]; exact em
          have xm : x ≤ mid := by omega
          have my : mid ≤ y := by omega
          obtain ⟨q1, q2, e1, e2⟩ := hmid mid xm my
          obtain ⟨h1', hh1⟩ : ∃ h, gbH zs x mid = h := ⟨_, rfl⟩
          obtain ⟨h2', hh2⟩ : ∃ h, gbH zs mid y = h := ⟨_, rfl⟩
          obtain ⟨k1', hk1⟩ : ∃ k, gbC zs x mid = k := ⟨_, rfl⟩
          obtain ⟨k2', hk2⟩ : ∃ k, gbC zs mid y = k := ⟨_, rfl⟩
          rw [hh1, hh2] at e1
          rw [hk1, hk2] at e2
          have Y1 := fun (W : World) h1 => GrowthBetween_is (A := some ⟨b, 0, none⟩) (n := m) (c := c') q1 hh1 hk1 W h1 HL.out hm2
          have Y2 := fun (W : World) h1 => GrowthBetween_is (A := some ⟨b, 0, none⟩) (n := m) (c := c') q2 hh2 hk2 W h1 HL.out hm2
          have w1 : wrap64 (x + y) = x + y := by simp only [wrap64]; omega
          subst e1 e2
          have w2 : wrap64 (h1' + h2') = h1' + h2' := by simp only [wrap64]; omega
          have w3 : wrap64 (k1' + k2') = k1' + k2' := by simp only [wrap64]; omega
          clear hmid hh1 hh2 hk1 hk2 q1 q2 LG
          have EM := Lib.hid em
          go_upto_region 15 with fail
          go_upto_region 16 with (first | (go_at_call 11; refine (Y1 _ hr).mono ?_; rintro e w' ⟨rfl, hbl⟩; have hr := hr.below hbl; have bX := bstep bX hbl))
          go_wp2_with (first | (go_at_call 11; refine (Y2 _ hr).mono ?_; rintro e w' ⟨rfl, hbl⟩; have bX := bstep bX hbl))
          go_meet
          exact bX
      case rest => as_aux_lemma =>
        have bW := bstep bW hcut
        clear LG hr HL hm hm2 i1 i2 h0 h1 k0 k1 bX hcut hbl hb
        go_upto_region 20 with (first | (go_at_call 13; refine (DrawCorrectReport_any A n c _ _ (hc.below bW)).mono ?_; rintro e w' ⟨b, m, c', zs, a0, a1, a2, a3, a4, a5, rfl, ⟨hS, hx⟩, hbl⟩; have bW := bstep bW hbl))
        obtain ⟨d26, ed26⟩ : ∃ d, w'.heap.size = d := ⟨_, rfl⟩
        rw [ed26]
        obtain ⟨hr, hl, hm, -, -, hb⟩ := hS
        refine wp_genC (fun W => Below w.heap.size w W ∧ Bk W d26 26 [.int .i64 a0, .int .i64 a1, .int .i64 a2, .int .i64 a3, .int .i64 a4, .int .i64 a5] ∧ Rd W 6 (some ⟨b, 0, none⟩) m (sitF zs) ∧ b < W.heap.size) ⟨by (repeat' (first | (with_reducible exact Below.refl _ _) | (with_reducible assumption) | (with_reducible refine balloc ?_ _) | (with_reducible refine bdrew ?_) | (with_reducible refine bdrewN ?_ _) | (with_reducible refine bstep ?_ (by assumption)) | (with_reducible refine bset ?_ ?_ _) | (exact Below.size (by assumption)) | go_size)), Bk.new' ed26, hr.below (balloc (Below.refl _ _) _), by simp; omega⟩ ?_
        clear ed26 hr hb bW hbl hx
        intro W ⟨bW, kx, hr, hb⟩
        have cx0 := kx.cell 0
        have cx1 := kx.cell 1
        have cx2 := kx.cell 2
        have cx3 := kx.cell 3
        have cx4 := kx.cell 4
        have cx5 := kx.cell 5
        have lx := kx.lt
        simp only [List.getElem?_cons_zero, List.getElem?_cons_succ] at cx0 cx1 cx2 cx3 cx4 cx5
        have hm2 : m ≤ 1048576 := by omega
        obtain ⟨q, hq⟩ : ∃ q, corR zs (a0, a1, a2, a3, a4, a5) = q := ⟨_, rfl⟩
        obtain ⟨L, hL⟩ : ∃ L, corL zs (a0, a1, a2, a3, a4, a5) = L := ⟨_, rfl⟩
        have hLn : L.length ≤ 1048576 := by have := corL_len zs (a0, a1, a2, a3, a4, a5); rw [hL] at this; omega
        have X1 := fun (W : World) h1 h2 => CorrectReport_is_rd (g := b) (c := c') hq hL W h1 h2 hl (by omega)
        have X2 := fun (W : World) h1 h2 => sCorrectReport_is_rd (g := b) (c := c') hq hL W h1 h2 hl (by omega)
        have LW := Lib.hid (cor_law hq hL)
        have HL := Lib.hid hl
        clear hq hL hl
        go_upto_region 21 with (first | (go_at_call 14; refine (X1 _ hr hb).mono ?_; rintro e w' ⟨v, rfl, hO, hbl⟩; obtain ⟨A1, c1, rfl, hr1, _⟩ := own_rd hO; have hr := hr.below hbl; have hb := Nat.lt_of_lt_of_le hb hbl.size; have kx := below_blk hbl kx; have bW := bstep bW hbl))
        have cx0 := kx.cell 0
        have cx1 := kx.cell 1
        have cx2 := kx.cell 2
        have cx3 := kx.cell 3
        have cx4 := kx.cell 4
        have cx5 := kx.cell 5
        have lx := kx.lt
        simp only [List.getElem?_cons_zero, List.getElem?_cons_succ] at cx0 cx1 cx2 cx3 cx4 cx5
        go_upto_region 22 with (first | (go_at_call 15; refine (X2 _ hr hb).mono ?_; rintro e w' ⟨v, rfl, hO2, hbl⟩; obtain ⟨A2, c2, rfl, hr2, _⟩ := own_rd hO2; have hr1 := hr1.below hbl; have kx := below_blk hbl kx; have bW := bstep bW hbl))
        refine wp_genC (fun W => Below w.heap.size w W ∧ Rd W 6 A1 L.length (sitF L) ∧ Rd W 6 A2 L.length (sitF L) ∧ Bk W d26 26 [.int .i64 a0, .int .i64 a1, .int .i64 a2, .int .i64 a3, .int .i64 a4, .int .i64 a5]) ⟨bW, hr1, hr2, kx⟩ ?_
        clear bW hr1 hr2 hr hb kx hO hO2 hbl X1 X2 cx0 cx1 cx2 cx3 cx4 cx5 lx
        intro W ⟨bW, hr1, hr2, kx⟩
        have bX := Below.refl W.heap.size W
        have kx0 := kx
        go_upto_if 189 with (first | (go_at_call 8; refine (rSituations_same _ hr1 hr2 rfl hLn).mono ?_; rintro e w' ⟨rfl, hbl⟩; have hr1 := hr1.below hbl; have kx := below_blk hbl kx; have bW := bstep bW hbl))
        refine wp_genC (fun W => Below w.heap.size w W ∧ Rd W 6 A1 L.length (sitF L) ∧ Bk W d26 26 [.int .i64 a0, .int .i64 a1, .int .i64 a2, .int .i64 a3, .int .i64 a4, .int .i64 a5]) ⟨bW, hr1, kx⟩ ?_
        clear bW hr1 hr2 kx bX kx0 hbl
        intro W ⟨bW, hr1, kx⟩
        have bX := Below.refl W.heap.size W
        go_cut [31, 32] (fun s31 s32 wx => Below W.heap.size W wx)
        case first => as_aux_lemma =>
          rcases q with _ | _
          · go_wp2
            go_meet
            exact bX
          · obtain ⟨hs, hlen, j, hj, hja⟩ := LW.out (by trivial)
            have hLm := hlen.trans HL.out
            have hjm := hj
            have hne : ((L.length : Int) != (m : Int)) = false := by simp [hLm]
            have hne2 : (L.length != m) = false := by simp [hLm]
            have hja2 : L[j]? = some (a0, a1, a2, a3, a4, a5) := by rw [List.getElem?_eq_getElem hj, hja]
            have HJ := Lib.hid hja2
            clear LW hLm hlen hja hja2 hj
            go_wp2
            go_loopw [31, 32] (fun s31 s32 wr => ∃ (k : Nat) (B : Bool), k ≤ L.length ∧ s31 = .bool B ∧ s32 = .int .i64 k ∧ Hid ((∃ j, j < k ∧ L[j]? = some (a0, a1, a2, a3, a4, a5)) → B = true) ∧ Below W.heap.size W wr) (fun _ s32 _ => L.length - (intOf s32).toNat)
            case atStart => exact ⟨0, false, Nat.zero_le _, rfl, rfl, Lib.hid (fun ⟨j, h, _⟩ => by omega), bX⟩
            case round => as_aux_lemma =>
              obtain ⟨k, B, hk, rfl, rfl, hB, hW⟩ := hrel
              by_cases hlt : k < L.length
              · obtain ⟨b1, o1, rfl, hb1, x0, x1, x2, x3, x4, x5, hv, k0, k1, k2, k3, k4, k5⟩ := sit_at hr1 hW rfl hlt
                have kw := below_blk hW kx
                have cw0 := kw.cell 0
                have cw1 := kw.cell 1
                have cw2 := kw.cell 2
                have cw3 := kw.cell 3
                have cw4 := kw.cell 4
                have cw5 := kw.cell 5
                have lw := kw.lt
                simp only [List.getElem?_cons_zero, List.getElem?_cons_succ] at cw0 cw1 cw2 cw3 cw4 cw5
                obtain ⟨v, hv2⟩ : ∃ v, (x0 == a0 && (x1 == a1 && (x2 == a2 && (x3 == a3 && (x4 == a4 && x5 == a5))))) = v := ⟨_, rfl⟩
                have hq := fun (W : World) => eqlSit v hv2 W
                have hg := fun (W : World) => guardSit (.tmp 201) (.tmp 202) #[.int .i64 x0, .int .i64 x1, .int .i64 x2, .int .i64 x3, .int .i64 x4, .int .i64 x5] #[.int .i64 a0, .int .i64 a1, .int .i64 a2, .int .i64 a3, .int .i64 a4, .int .i64 a5] W
                have HV2 := Lib.hid hv2
                clear hv2
                have HV := Lib.hid (show L[k]? = some (x0, x1, x2, x3, x4, x5) by rw [List.getElem?_eq_getElem (by omega), hv])
                clear hv
                have i1 : (0 : Int) ≤ (k : Int) := by omega
                have i2 : (k : Int) < (L.length : Int) := by omega
                have s1 : b1 < wr.heap.size := Nat.lt_of_lt_of_le hb1 hW.size
                have bW := hW
                rcases B with _ | _
                · go_upto_region 29 with fail
                  (refine wp_region_bel (by kernel_rfl) (by kernel_rfl) ?_; (repeat (go_big_quiet_step ((first | fail)))); refine wpQuiet_nil ?_; intro w' hw'; have hb := below_of hw'; clear hw'; (try clear cW fW zW); (first | (have bW := bstep bW hb) | (have bW := bstep (bdrew bW) hb) | (have bW := bstep (balloc bW _) hb) | (have bW := bstep (bdrewN bW _) hb) | (have bW := hb)); clear hb; obtain ⟨cW, fW⟩ := bcell bW; have zW := bsize bW)
                  go_wp2
                  go_roundw
                  case rel => exact ⟨k + 1, v, by omega, rfl, by go_num, Lib.hid (fun ⟨j, hj1, hj2⟩ => by
                    by_cases hjk : j < k
                    · exact absurd (hB.out ⟨j, hjk, hj2⟩) (by simp)
                    · obtain rfl : j = k := by omega
                      have hv3 := HV.out
                      rw [hj2] at hv3
                      cases hv3
                      rw [← HV2.out]; simp), bW⟩
                  case measure => simp [intOf]; omega
                · go_upto_region 29 with fail
                  (refine wp_region_bel (by kernel_rfl) (by kernel_rfl) ?_; (repeat (go_big_quiet_step ((first | fail)))); refine wpQuiet_nil ?_; intro w' hw'; have hb := below_of hw'; clear hw'; (try clear cW fW zW); (first | (have bW := bstep bW hb) | (have bW := bstep (bdrew bW) hb) | (have bW := bstep (balloc bW _) hb) | (have bW := bstep (bdrewN bW _) hb) | (have bW := hb)); clear hb; obtain ⟨cW, fW⟩ := bcell bW; have zW := bsize bW)
                  go_wp2
                  go_roundw
                  case rel => exact ⟨k + 1, true, by omega, rfl, by go_num, Lib.hid (fun _ => rfl), bW⟩
                  case measure => simp [intOf]; omega
              · obtain rfl : B = true := hB.out ⟨j, by omega, HJ.out⟩
                have i1 : decide ((k : Int) < (L.length : Int)) = false := decide_eq_false (by omega)
                have i2 : decide (k < L.length) = false := decide_eq_false hlt
                have hr1 := hr1.below hW
                have bX := hW
                go_wp2_with (first | (go_at_call 9; refine (IsSeries_is true hs _ hr1 rfl (by omega)).mono ?_; rintro e w' ⟨rfl, hbl⟩; have bX := bstep bX hbl))
                go_meet
                exact bX
        case rest => as_aux_lemma =>
          have bW := bstep bW hcut
          clear LW hr1 kx HL hm hm2 bX hcut hLn
          go_upto_region 33 with (first | (go_at_call 16; refine (DrawStateChanges_any A n c _ _ (hc.below bW)).mono ?_; rintro e w' ⟨b, m, c', zs, rfl, hS, hbl⟩; have bW := bstep bW hbl))
          obtain ⟨hr, hl, hm, -, -, hb⟩ := hS
          have hm2 : m ≤ 140737488355 := by omega
          obtain ⟨q, hq⟩ : ∃ q, seriesB zs = q := ⟨_, rfl⟩
          obtain ⟨k, hk⟩ : ∃ k, (chgL zs).length = k := ⟨_, rfl⟩
          have hk2 : k ≤ 64 := by have := chgL_len zs; omega
          have X1 := fun (W : World) h1 => StateChanges_is (A := some ⟨b, 0, none⟩) (n := m) (c := c') hq hk W h1 hl hm2
          have X2 := fun (W : World) h1 => sStateChanges_is (A := some ⟨b, 0, none⟩) (n := m) (c := c') hq hk W h1 hl hm2
          clear hq hk hl
          go_upto_region 34 with (first | (go_at_call 17; refine (X1 _ hr).mono ?_; rintro e w' ⟨A1, c1, rfl, hO, hbl⟩; have hr1 := own_r hO; have hr := hr.below hbl; have bW := bstep bW hbl))
          go_upto_region 35 with (first | (go_at_call 18; refine (X2 _ hr).mono ?_; rintro e w' ⟨A2, c2, rfl, hO2, hbl⟩; have hr2 := own_r hO2; have hr1 := hr1.below hbl; have bW := bstep bW hbl))
          go_upto_region 37 with (first | (go_at_call 19; refine (rInts_same _ hr1 hr2 (by omega)).mono ?_; rintro e w' ⟨rfl, hbl⟩; have bW := bstep bW hbl))
          clear hr hr1 hr2 hO hO2 hm hm2 hk2 X1 X2 hb hbl
          go_upto_region 38 with (first | (go_at_call 20; refine (DrawFastestGrowth_any A n c _ _ (hc.below bW)).mono ?_; rintro e w' ⟨b, m, c', zs, rfl, hS, hbl⟩; have bW := bstep bW hbl))
          obtain ⟨hr, hl, hm, -, -, hb⟩ := hS
          have hm2 : m ≤ 140737488355328 := by omega
          obtain ⟨h, hh⟩ : ∃ h, fastN zs = h := ⟨_, rfl⟩
          obtain ⟨q, hq⟩ : ∃ q, fastB zs = q := ⟨_, rfl⟩
          have X1 := fun (W : World) h1 => FastestGrowth_is (A := some ⟨b, 0, none⟩) (n := m) (c := c') hh hq W h1 hl hm2
          have X2 := fun (W : World) h1 => sFastestGrowth_is (A := some ⟨b, 0, none⟩) (n := m) (c := c') hh hq W h1 hl hm2
          clear hh hq hl
          go_upto_region 39 with (first | (go_at_call 21; refine (X1 _ hr).mono ?_; rintro e w' ⟨rfl, hbl⟩; have hr := hr.below hbl; have bW := bstep bW hbl))
          go_wp2_with (first | (go_at_call 22; refine (X2 _ hr).mono ?_; rintro e w' ⟨rfl, hbl⟩; have hr := hr.below hbl; have bW := bstep bW hbl))
          all_goals (go_returns; exact ⟨by simp, bW⟩)
end Go.Proofs.Ytjffhacoijmgiaa
