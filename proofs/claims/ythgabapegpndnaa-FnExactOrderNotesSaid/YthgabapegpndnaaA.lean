/-
  One note: the program's and the reference's test, and how two notes stand to each other. Conditions: lengths within the bound of a slice.
-/
import Derived.Test.YthgabapegpndnaaWD
import Derived.Test.YthgabapegpndnaaMT
namespace Go.Proofs.Ythgabapegpndnaa
open Go.RowKit
set_option maxRecDepth 100000
set_option maxHeartbeats 2000000

theorem wp_gen {P : Program} {c : Code} {Q : Exit → Act → World → Prop} {a : Act} {w : World} (R : World → Prop) (h1 : R w) (h2 : ∀ w0, R w0 → c.wp P Q a w0) : c.wp P Q a w := h2 w h1
theorem four_cells {w : World} {g : Nat} {t : TypeId} {a b c d : Value} (h : Bk w g t [a, b, c, d]) : w.cell? ⟨g, 0, none⟩ = some a ∧ w.cell? ⟨g, 1, none⟩ = some b ∧ w.cell? ⟨g, 2, none⟩ = some c ∧ w.cell? ⟨g, 3, none⟩ = some d ∧ g < w.heap.size := ⟨h.cell 0, h.cell 1, h.cell 2, h.cell 3, h.lt⟩
def clkP (x : Int) : Bool := inB x 0 12
theorem in_of {n lo hi : Int} (v : Bool) (h : inB n lo hi = v) (w : World) : Calls Try.prog 40 #[.int .i64 n, .int .i64 lo, .int .i64 hi] w fun e w' => e = .returned (.bool v) ∧ w = w' := by rw [← h]; exact in_any n lo hi w
theorem l1In_of {n lo hi : Int} (v : Bool) (h : inB n lo hi = v) (w : World) : Calls Try.prog 59 #[.int .i64 n, .int .i64 lo, .int .i64 hi] w fun e w' => e = .returned (.bool v) ∧ w = w' := by rw [← h]; exact l1In_any n lo hi w
theorem in_iw {n lo hi : Int} (v : Bool) (h : inB n lo hi = v) (w : World) : Calls Try.prog 40 #[.int .i64 n, .int .i64 lo, .int .i64 hi] w fun e w' => e = .returned (.bool v) ∧ Below w.heap.size w w' := by rw [← h]; exact (in_any n lo hi w).mono fun _ _ h => ⟨h.1, h.2 ▸ Below.refl _ _⟩
theorem isWord_iw {s : ByteArray} (q : Bool) (hq : wordB s = q) (w : World) (hs : s.size ≤ maxLen) : Calls Try.prog 62 #[.string s] w fun e w' => e = .returned (.bool q) ∧ Below w.heap.size w w' := (isWord_is q hq w hs).mono fun _ _ h => ⟨h.1, h.2 ▸ Below.refl _ _⟩
theorem isNote1_of {x : Int} (v : Bool) (h : clkP x = v) (w : World) : Calls Try.prog 61 #[.int .i64 x] w fun e w' => e = .returned (.bool v) ∧ Below w.heap.size w w' := by
  go_enter Try.func61, Try.ntmps61
  go_wp2_with fail
  refine (in_of v h _).mono ?_
  rintro e u ⟨rfl, rfl⟩
  go_wp2
  go_returns
  exact ⟨rfl, Below.refl _ _⟩
theorem notClk_of {x : Int} {bx : Nat} (v : Bool) (h : clkP x = v) (w : World) (hc : w.cell? ⟨bx, 0, none⟩ = some (.func (.func 61) #[] #[])) (hb : bx < w.heap.size) :
    Calls Try.prog 74 #[.int .i64 x, .pointer (some ⟨bx, 0, none⟩)] w fun e w' => e = .returned (.bool (!v)) ∧ Below w.heap.size w w' := by
  have hne : ¬ bx = w.heap.size := by omega
  go_enter Try.func74, Try.ntmps74
  go_wp2_with (first | (go_at_call 61; refine (isNote1_of v h _).mono ?_; rintro e w' ⟨rfl, hb⟩; (try clear cW fW zW); (first | (have bW := bstep bW hb) | (have bW := bstep (bdrew bW) hb) | (have bW := bstep (balloc bW _) hb) | (have bW := bstep (bdrewN bW _) hb) | (have bW := hb)); clear hb; obtain ⟨cW, fW⟩ := bcell bW; have zW := bsize bW))
  go_returns
  exact ⟨rfl, by (repeat' (first | (with_reducible exact Below.refl _ _) | (with_reducible assumption) | (with_reducible refine balloc ?_ _) | (with_reducible refine bdrew ?_) | (with_reducible refine bdrewN ?_ _) | (with_reducible refine bstep ?_ (by assumption)) | (with_reducible refine bset ?_ ?_ _) | (exact Below.size (by assumption)) | go_size))⟩
theorem clk_of {A : Option Addr} {n c : Nat} {zs : List Int} (v : Bool) (h : zs.all clkP = v) (w : World) (hr : Rd w 1 A n (ints zs)) (hl : zs.length = n) (hn : n ≤ 140737488355328) :
    Calls Try.prog 60 #[.slice A n c, .func (.func 61) #[] #[]] w fun e w' => e = .returned (.bool v) ∧ Below w.heap.size w w' := by
  rw [← h]
  exact all_int A n c zs clkP _ _ _ w hr hl hn fun _ v _ W _ hv hc hb _ => notClk_of v hv W hc hb
/-- a valid note of that many units -/
def notB (units u s : Int) (xs : List Int) (wd : ByteArray) : Bool := (decide ((xs.length : Int) = units) && xs.all clkP) && (inB u 0 (units - 1) && (decide (1 ≤ s) && (decide (xs.getD u.toNat 0 = s) && wordB wd)))
theorem notB_len {units u s : Int} {xs : List Int} {wd : ByteArray} (h : ¬ (xs.length : Int) = units) : notB units u s xs wd = false := by simp [notB, h]
theorem isNote_is {q : Bool} {units u s : Int} {A : Option Addr} {n c : Nat} {xs : List Int} {wd : ByteArray} (hq : notB units u s xs wd = q) (w : World) (hr : Rd w 1 A n (ints xs)) (hl : xs.length = n) (hn : n ≤ 1048576) (hs : wd.size ≤ maxLen) :
    Calls Try.prog 38 #[.int .i64 units, .agg #[.int .i64 u, .int .i64 s, .slice A n c, .string wd]] w fun e w' => e = .returned (.bool q) ∧ Below w.heap.size w w' := by
  have HQ := Lib.hid hq
  clear hq
  go_enter Try.func38, Try.ntmps38
  go_upto_region 1 with fail
  refine wp_gen (fun w0 => Bk w0 w.heap.size 35 [.int .i64 u, .int .i64 s, .slice A n c, .string wd] ∧ Below w.heap.size w w0) ⟨Bk.new' rfl, by (repeat' (first | (with_reducible exact Below.refl _ _) | (with_reducible assumption) | (with_reducible refine balloc ?_ _) | (with_reducible refine bdrew ?_) | (with_reducible refine bdrewN ?_ _) | (with_reducible refine bstep ?_ (by assumption)) | (with_reducible refine bset ?_ ?_ _) | (exact Below.size (by assumption)) | go_size))⟩ ?_
  intro w0 ⟨hX, b0⟩
  obtain ⟨x0, x1, x2, x3, xl⟩ := four_cells hX
  by_cases hlen : (n : Int) = units
  case neg =>
    obtain rfl : q = false := by rw [← HQ.out]; exact notB_len (by rw [hl]; exact hlen)
    have hd : ((n : Int) == units) = false := by simp [hlen]
    go_wp2
    (refine wp_region_bel (by kernel_rfl) (by kernel_rfl) ?_; (repeat (go_big_quiet_step ((first | fail)))); refine wpQuiet_nil ?_; intro w' hw'; have hb := below_of hw'; clear hw'; (try clear cW fW zW); (first | (have bW := bstep bW hb) | (have bW := bstep (bdrew bW) hb) | (have bW := bstep (balloc bW _) hb) | (have bW := bstep (bdrewN bW _) hb) | (have bW := hb)); clear hb; obtain ⟨cW, fW⟩ := bcell bW; have zW := bsize bW)
    go_wp2
    go_returns
    exact ⟨rfl, by (repeat' (first | (with_reducible exact Below.refl _ _) | (with_reducible assumption) | (with_reducible refine balloc ?_ _) | (with_reducible refine bdrew ?_) | (with_reducible refine bdrewN ?_ _) | (with_reducible refine bstep ?_ (by assumption)) | (with_reducible refine bset ?_ ?_ _) | (exact Below.size (by assumption)) | go_size))⟩
  subst hlen
  have hd : ((n : Int) == (n : Int)) = true := by simp
  have hq2 : ∀ b0 b1 b2 b3 b4, xs.all clkP = b0 → inB u 0 ((n : Int) - 1) = b1 → decide (1 ≤ s) = b2 → decide (xs.getD u.toNat 0 = s) = b3 → wordB wd = b4 → (b0 && (b1 && (b2 && (b3 && b4)))) = q := fun b0 b1 b2 b3 b4 h0 h1 h2 h3 h4 => by
    rw [← HQ.out, ← h0, ← h1, ← h2, ← h3, ← h4]; simp [notB, hl]
  have HC := Lib.hid hq2
  clear hq2
  have hw0 : IntKind.i64.wrap ((n : Int) - 1) = (n : Int) - 1 := by unfold IntKind.wrap; simp [IntKind.bits, IntKind.signed]; omega
  rcases h0 : xs.all clkP with _ | _
  · obtain rfl := HC.out _ _ _ _ _ h0 rfl rfl rfl rfl
    go_wp2_with fail
    refine (clk_of false h0 _ (hr.below b0) hl (by omega)).mono ?_
    rintro e w1 ⟨rfl, hb1⟩
    have b1 := bstep b0 hb1
    go_wp2
    (refine wp_region_bel (by kernel_rfl) (by kernel_rfl) ?_; (repeat (go_big_quiet_step ((first | fail)))); refine wpQuiet_nil ?_; intro w' hw'; have hb := below_of hw'; clear hw'; (try clear cW fW zW); (first | (have bW := bstep bW hb) | (have bW := bstep (bdrew bW) hb) | (have bW := bstep (balloc bW _) hb) | (have bW := bstep (bdrewN bW _) hb) | (have bW := hb)); clear hb; obtain ⟨cW, fW⟩ := bcell bW; have zW := bsize bW)
    go_wp2
    go_returns
    exact ⟨rfl, by (repeat' (first | (with_reducible exact Below.refl _ _) | (with_reducible assumption) | (with_reducible refine balloc ?_ _) | (with_reducible refine bdrew ?_) | (with_reducible refine bdrewN ?_ _) | (with_reducible refine bstep ?_ (by assumption)) | (with_reducible refine bset ?_ ?_ _) | (exact Below.size (by assumption)) | go_size))⟩
  have hX1 := fun w1 (hb1 : Below w0.heap.size w0 w1) => hX.below hb1 hX.lt
  go_wp2_with fail
  refine (clk_of true h0 _ (hr.below b0) hl (by omega)).mono ?_
  rintro e w1 ⟨rfl, hb1⟩
  have b1 := bstep b0 hb1
  have hX := hX1 _ hb1
  clear x0 x1 x2 x3 xl hX1
  obtain ⟨x0, x1, x2, x3, xl⟩ := four_cells hX
  have hr1 := hr.below b1
  clear hr hb1 hX
  go_wp2
  rcases h1 : inB u 0 ((n : Int) - 1) with _ | _
  · obtain rfl := HC.out _ _ _ _ _ h0 h1 rfl rfl rfl
    (refine wp_region_bel (by kernel_rfl) (by kernel_rfl) ?_; (repeat (go_big_quiet_step ((first | (go_at_call 40; exact calls_bel (in_iw false h1 _)))))); refine wpQuiet_nil ?_; intro w' hw'; have hb := below_of hw'; clear hw'; (try clear cW fW zW); (first | (have bW := bstep bW hb) | (have bW := bstep (bdrew bW) hb) | (have bW := bstep (balloc bW _) hb) | (have bW := bstep (bdrewN bW _) hb) | (have bW := hb)); clear hb; obtain ⟨cW, fW⟩ := bcell bW; have zW := bsize bW)
    go_wp2
    go_returns
    exact ⟨rfl, by (repeat' (first | (with_reducible exact Below.refl _ _) | (with_reducible assumption) | (with_reducible refine balloc ?_ _) | (with_reducible refine bdrew ?_) | (with_reducible refine bdrewN ?_ _) | (with_reducible refine bstep ?_ (by assumption)) | (with_reducible refine bset ?_ ?_ _) | (exact Below.size (by assumption)) | go_size))⟩
  obtain ⟨u0, u1⟩ := inB_iff.1 h1
  obtain ⟨m, rfl⟩ : ∃ m : Nat, u = (m : Int) := ⟨u.toNat, by omega⟩
  by_cases h2 : 1 ≤ s
  case neg =>
    have hd2 : decide (1 ≤ s) = false := by simp [h2]
    obtain rfl := HC.out _ _ _ _ _ h0 h1 hd2 rfl rfl
    (refine wp_region_bel (by kernel_rfl) (by kernel_rfl) ?_; (repeat (go_big_quiet_step ((first | (go_at_call 40; exact calls_bel (in_iw true h1 _)))))); refine wpQuiet_nil ?_; intro w' hw'; have hb := below_of hw'; clear hw'; (try clear cW fW zW); (first | (have bW := bstep bW hb) | (have bW := bstep (bdrew bW) hb) | (have bW := bstep (balloc bW _) hb) | (have bW := bstep (bdrewN bW _) hb) | (have bW := hb)); clear hb; obtain ⟨cW, fW⟩ := bcell bW; have zW := bsize bW)
    go_wp2
    go_returns
    exact ⟨rfl, by (repeat' (first | (with_reducible exact Below.refl _ _) | (with_reducible assumption) | (with_reducible refine balloc ?_ _) | (with_reducible refine bdrew ?_) | (with_reducible refine bdrewN ?_ _) | (with_reducible refine bstep ?_ (by assumption)) | (with_reducible refine bset ?_ ?_ _) | (exact Below.size (by assumption)) | go_size))⟩
  have hd2 : decide (1 ≤ s) = true := by simp [h2]
  obtain ⟨b, off, x, rfl, hbl, hx, c0⟩ := ints_at hr1 (Below.refl _ _) hl (k := m) (by omega)
  have hgd : xs.getD (m : Int).toNat 0 = x := by
    rw [Int.toNat_natCast, List.getD_eq_getElem?_getD, List.getElem?_eq_getElem (by omega), hx]; rfl
  have i1 : (m : Int) < (n : Int) := by omega
  by_cases h3 : x = s
  case neg =>
    have hd3 : (x == s) = false := by simp [h3]
    have hg3 : decide (xs.getD (m : Int).toNat 0 = s) = false := by rw [hgd]; simp [h3]
    obtain rfl := HC.out _ _ _ _ _ h0 h1 hd2 hg3 rfl
    clear hg3
    clear hgd hx hr1
    (refine wp_region_bel (by kernel_rfl) (by kernel_rfl) ?_; (repeat (go_big_quiet_step ((first | (go_at_call 40; exact calls_bel (in_iw true h1 _)))))); refine wpQuiet_nil ?_; intro w' hw'; have hb := below_of hw'; clear hw'; (try clear cW fW zW); (first | (have bW := bstep bW hb) | (have bW := bstep (bdrew bW) hb) | (have bW := bstep (balloc bW _) hb) | (have bW := bstep (bdrewN bW _) hb) | (have bW := hb)); clear hb; obtain ⟨cW, fW⟩ := bcell bW; have zW := bsize bW)
    go_wp2
    go_returns
    exact ⟨rfl, by (repeat' (first | (with_reducible exact Below.refl _ _) | (with_reducible assumption) | (with_reducible refine balloc ?_ _) | (with_reducible refine bdrew ?_) | (with_reducible refine bdrewN ?_ _) | (with_reducible refine bstep ?_ (by assumption)) | (with_reducible refine bset ?_ ?_ _) | (exact Below.size (by assumption)) | go_size))⟩
  have hd3 : (x == s) = true := by simp [h3]
  have hg3 : decide (xs.getD (m : Int).toNat 0 = s) = true := by rw [hgd]; simp [h3]
  rcases h4 : wordB wd with _ | _
  · obtain rfl := HC.out _ _ _ _ _ h0 h1 hd2 hg3 h4
    clear hg3 hgd hx hr1
    (refine wp_region_bel (by kernel_rfl) (by kernel_rfl) ?_; (repeat (go_big_quiet_step ((first | (go_at_call 40; exact calls_bel (in_iw true h1 _)) | (go_at_call 62; exact calls_bel (isWord_iw false h4 _ hs)))))); refine wpQuiet_nil ?_; intro w' hw'; have hb := below_of hw'; clear hw'; (try clear cW fW zW); (first | (have bW := bstep bW hb) | (have bW := bstep (bdrew bW) hb) | (have bW := bstep (balloc bW _) hb) | (have bW := bstep (bdrewN bW _) hb) | (have bW := hb)); clear hb; obtain ⟨cW, fW⟩ := bcell bW; have zW := bsize bW)
    go_wp2
    go_returns
    exact ⟨rfl, by (repeat' (first | (with_reducible exact Below.refl _ _) | (with_reducible assumption) | (with_reducible refine balloc ?_ _) | (with_reducible refine bdrew ?_) | (with_reducible refine bdrewN ?_ _) | (with_reducible refine bstep ?_ (by assumption)) | (with_reducible refine bset ?_ ?_ _) | (exact Below.size (by assumption)) | go_size))⟩
  · obtain rfl := HC.out _ _ _ _ _ h0 h1 hd2 hg3 h4
    clear hg3 hgd hx hr1
    (refine wp_region_bel (by kernel_rfl) (by kernel_rfl) ?_; (repeat (go_big_quiet_step ((first | (go_at_call 40; exact calls_bel (in_iw true h1 _)) | (go_at_call 62; exact calls_bel (isWord_iw true h4 _ hs)))))); refine wpQuiet_nil ?_; intro w' hw'; have hb := below_of hw'; clear hw'; (try clear cW fW zW); (first | (have bW := bstep bW hb) | (have bW := bstep (bdrew bW) hb) | (have bW := bstep (balloc bW _) hb) | (have bW := bstep (bdrewN bW _) hb) | (have bW := hb)); clear hb; obtain ⟨cW, fW⟩ := bcell bW; have zW := bsize bW)
    go_wp2
    go_returns
    exact ⟨rfl, by (repeat' (first | (with_reducible exact Below.refl _ _) | (with_reducible assumption) | (with_reducible refine balloc ?_ _) | (with_reducible refine bdrew ?_) | (with_reducible refine bdrewN ?_ _) | (with_reducible refine bstep ?_ (by assumption)) | (with_reducible refine bset ?_ ?_ _) | (exact Below.size (by assumption)) | go_size))⟩
theorem l2Word_of {s : ByteArray} (q : Bool) (hq : wordB s = q) (w : World) (hs : s.size ≤ maxLen) : Calls Try.prog 64 #[.string s] w fun e w' => e = .returned (.bool q) ∧ w = w' := l2Word_is q hq w hs
theorem take_clk {xs : List Int} {k : Nat} {x : Int} (hk : k < xs.length) (hx : xs[k] = x) (h : (xs.take k).all clkP = true) (h2 : clkP x = true) : (xs.take (k + 1)).all clkP = true := by
  rw [List.take_succ_eq_append_getElem hk, List.all_append, h, hx]; simp [h2]
theorem clk_no {xs : List Int} {k : Nat} {x : Int} (hk : k < xs.length) (hx : xs[k] = x) (h2 : clkP x = false) : xs.all clkP = false := by
  rw [List.all_eq_false]
  exact ⟨xs[k], List.getElem_mem _, by rw [hx, h2]; simp⟩
theorem l17Single_is {q : Bool} {units u s : Int} {A : Option Addr} {n c : Nat} {xs : List Int} {wd : ByteArray} (hq : (inB units 2 4 && notB units u s xs wd) = q) (w : World) (hr : Rd w 1 A n (ints xs)) (hl : xs.length = n) (hn : n ≤ 1048576) (hs : wd.size ≤ maxLen) :
    Calls Try.prog 42 #[.int .i64 units, .agg #[.int .i64 u, .int .i64 s, .slice A n c, .string wd]] w fun e w' => e = .returned (.bool q) ∧ Below w.heap.size w w' := by
  have HQ := Lib.hid hq
  clear hq
  go_enter Try.func42, Try.ntmps42
  go_upto_region 1 with fail
  refine wp_gen (fun w0 => Bk w0 w.heap.size 35 [.int .i64 u, .int .i64 s, .slice A n c, .string wd] ∧ Below w.heap.size w w0) ⟨Bk.new' rfl, by (repeat' (first | (with_reducible exact Below.refl _ _) | (with_reducible assumption) | (with_reducible refine balloc ?_ _) | (with_reducible refine bdrew ?_) | (with_reducible refine bdrewN ?_ _) | (with_reducible refine bstep ?_ (by assumption)) | (with_reducible refine bset ?_ ?_ _) | (exact Below.size (by assumption)) | go_size))⟩ ?_
  intro w0 ⟨hX, b0⟩
  obtain ⟨x0, x1, x2, x3, xl⟩ := four_cells hX
  rcases hu : inB units 2 4 with _ | _
  · obtain rfl : q = false := by rw [← HQ.out, hu]; rfl
    go_wp2_with fail
    refine (l1In_of false hu _).mono ?_
    rintro e u ⟨rfl, rfl⟩
    go_wp2
    go_returns
    exact ⟨rfl, b0⟩
  obtain ⟨n0, n1⟩ := inB_iff.1 hu
  have hw0 : IntKind.i64.wrap (units - 1) = units - 1 := by unfold IntKind.wrap; simp [IntKind.bits, IntKind.signed]; omega
  have hq1 : notB units u s xs wd = q := by rw [← HQ.out, hu]; rfl
  have HQ1 := Lib.hid hq1
  clear hq1 HQ
  rcases h1 : inB u 0 (units - 1) with _ | _
  · obtain rfl : q = false := by rw [← HQ1.out]; simp [notB, h1]
    go_wp2_with fail
    refine (l1In_of true hu _).mono ?_
    rintro e u ⟨rfl, rfl⟩
    go_wp2_with fail
    refine (l1In_of false h1 _).mono ?_
    rintro e u ⟨rfl, rfl⟩
    go_wp2
    go_returns
    exact ⟨rfl, b0⟩
  by_cases hlen : (n : Int) = units
  case neg =>
    obtain rfl : q = false := by rw [← HQ1.out]; exact notB_len (by rw [hl]; exact hlen)
    have hd : ((n : Int) != units) = true := by simp [hlen]
    go_wp2_with fail
    refine (l1In_of true hu _).mono ?_
    rintro e u ⟨rfl, rfl⟩
    go_wp2_with fail
    refine (l1In_of true h1 _).mono ?_
    rintro e u ⟨rfl, rfl⟩
    go_wp2
    go_returns
    exact ⟨rfl, b0⟩
  subst hlen
  have hd : ((n : Int) != (n : Int)) = false := by simp
  rcases h4 : wordB wd with _ | _
  · obtain rfl : q = false := by rw [← HQ1.out]; simp [notB, h4]
    go_wp2_with fail
    refine (l1In_of true hu _).mono ?_
    rintro e u ⟨rfl, rfl⟩
    go_wp2_with fail
    refine (l1In_of true h1 _).mono ?_
    rintro e u ⟨rfl, rfl⟩
    go_wp2_with fail
    refine (l2Word_of false h4 _ hs).mono ?_
    rintro e u ⟨rfl, rfl⟩
    go_wp2
    go_returns
    exact ⟨rfl, b0⟩
  have HX := Lib.hid hX
  go_wp2_with fail
  refine (l1In_of true hu _).mono ?_
  rintro e v ⟨rfl, rfl⟩
  go_wp2_with fail
  refine (l1In_of true h1 _).mono ?_
  rintro e v ⟨rfl, rfl⟩
  go_wp2_with fail
  refine (l2Word_of true h4 _ hs).mono ?_
  rintro e v ⟨rfl, rfl⟩
  go_wp2_with fail
  go_loop [5] (fun i => ∃ k : Nat, k ≤ n ∧ i = .int .i64 k ∧ (xs.take k).all clkP = true) (fun i => n - (intOf i).toNat)
  case atStart => exact ⟨0, Nat.zero_le _, rfl, by simp⟩
  case round =>
    obtain ⟨k, hk, rfl, ho⟩ := hrel
    by_cases hlt : k < n
    · obtain ⟨b, off, x, rfl, hbl, hx, c0⟩ := ints_at hr b0 hl hlt
      have i1 : (0 : Int) ≤ (k : Int) := by omega
      have i2 : (k : Int) < (n : Int) := by omega
      have s1 : b < w0.heap.size := Nat.lt_of_lt_of_le hbl b0.size
      rcases hc : clkP x with _ | _
      · obtain rfl : q = false := by rw [← HQ1.out]; simp [notB, clk_no (by omega) hx hc]
        clear hx ho
        go_wp2_with fail
        refine (l1In_of false hc _).mono ?_
        rintro e v ⟨rfl, rfl⟩
        go_wp2
        go_returns
        exact ⟨rfl, b0⟩
      · have hn2 := take_clk (by omega) hx ho hc
        have HN := Lib.hid hn2
        clear hx ho hn2
        go_wp2_with fail
        refine (l1In_of true hc _).mono ?_
        rintro e v ⟨rfl, rfl⟩
        go_wp2
        go_round
        case rel => exact ⟨k + 1, by omega, by go_num, HN.out⟩
        case measure => simp [intOf]; omega
    · have h0 : xs.all clkP = true := by rw [List.take_of_length_le (by omega)] at ho; exact ho
      obtain ⟨u0, u1⟩ := inB_iff.1 h1
      obtain ⟨m, rfl⟩ : ∃ m : Nat, u = (m : Int) := ⟨u.toNat, by omega⟩
      obtain ⟨b, off, x, rfl, hbl, hx, c0⟩ := ints_at hr b0 hl (k := m) (by omega)
      have hgd : xs.getD (m : Int).toNat 0 = x := by
        rw [Int.toNat_natCast, List.getD_eq_getElem?_getD, List.getElem?_eq_getElem (by omega), hx]; rfl
      have i1 : (m : Int) < (n : Int) := by omega
      have s1 : b < w0.heap.size := Nat.lt_of_lt_of_le hbl b0.size
      have hq2 : (decide (1 ≤ s) && decide (x = s)) = q := by rw [← HQ1.out]; unfold notB; rw [h0, h1, h4, hgd, hl]; simp
      have HQ2 := Lib.hid hq2
      clear hq2 h0 ho hx hgd
      by_cases h2 : 1 ≤ s
      · have hd2 : decide (1 ≤ s) = true := by simp [h2]
        by_cases h3 : x = s
        · have hd3 : (x == s) = true := by simp [h3]
          obtain rfl : q = true := by rw [← HQ2.out]; simp [h2, h3]
          go_wp2
          (refine wp_region_bel (by kernel_rfl) (by kernel_rfl) ?_; (repeat (go_big_quiet_step ((first | fail)))); refine wpQuiet_nil ?_; intro w' hw'; have hb := below_of hw'; clear hw'; (try clear cW fW zW); (first | (have bW := bstep bW hb) | (have bW := bstep (bdrew bW) hb) | (have bW := bstep (balloc bW _) hb) | (have bW := bstep (bdrewN bW _) hb) | (have bW := hb)); clear hb; obtain ⟨cW, fW⟩ := bcell bW; have zW := bsize bW)
          go_wp2
          go_returns
          exact ⟨rfl, by (repeat' (first | (with_reducible exact Below.refl _ _) | (with_reducible assumption) | (with_reducible refine balloc ?_ _) | (with_reducible refine bdrew ?_) | (with_reducible refine bdrewN ?_ _) | (with_reducible refine bstep ?_ (by assumption)) | (with_reducible refine bset ?_ ?_ _) | (exact Below.size (by assumption)) | go_size))⟩
        · have hd3 : (x == s) = false := by simp [h3]
          obtain rfl : q = false := by rw [← HQ2.out]; simp [h3]
          go_wp2
          (refine wp_region_bel (by kernel_rfl) (by kernel_rfl) ?_; (repeat (go_big_quiet_step ((first | fail)))); refine wpQuiet_nil ?_; intro w' hw'; have hb := below_of hw'; clear hw'; (try clear cW fW zW); (first | (have bW := bstep bW hb) | (have bW := bstep (bdrew bW) hb) | (have bW := bstep (balloc bW _) hb) | (have bW := bstep (bdrewN bW _) hb) | (have bW := hb)); clear hb; obtain ⟨cW, fW⟩ := bcell bW; have zW := bsize bW)
          go_wp2
          go_returns
          exact ⟨rfl, by (repeat' (first | (with_reducible exact Below.refl _ _) | (with_reducible assumption) | (with_reducible refine balloc ?_ _) | (with_reducible refine bdrew ?_) | (with_reducible refine bdrewN ?_ _) | (with_reducible refine bstep ?_ (by assumption)) | (with_reducible refine bset ?_ ?_ _) | (exact Below.size (by assumption)) | go_size))⟩
      · have hd2 : decide (1 ≤ s) = false := by simp [h2]
        obtain rfl : q = false := by rw [← HQ2.out]; simp [h2]
        go_wp2
        (refine wp_region_bel (by kernel_rfl) (by kernel_rfl) ?_; (repeat (go_big_quiet_step ((first | fail)))); refine wpQuiet_nil ?_; intro w' hw'; have hb := below_of hw'; clear hw'; (try clear cW fW zW); (first | (have bW := bstep bW hb) | (have bW := bstep (bdrew bW) hb) | (have bW := bstep (balloc bW _) hb) | (have bW := bstep (bdrewN bW _) hb) | (have bW := hb)); clear hb; obtain ⟨cW, fW⟩ := bcell bW; have zW := bsize bW)
        go_wp2
        go_returns
        exact ⟨rfl, by (repeat' (first | (with_reducible exact Below.refl _ _) | (with_reducible assumption) | (with_reducible refine balloc ?_ _) | (with_reducible refine bdrew ?_) | (with_reducible refine bdrewN ?_ _) | (with_reducible refine bstep ?_ (by assumption)) | (with_reducible refine bset ?_ ?_ _) | (exact Below.size (by assumption)) | go_size))⟩
end Go.Proofs.Ythgabapegpndnaa
