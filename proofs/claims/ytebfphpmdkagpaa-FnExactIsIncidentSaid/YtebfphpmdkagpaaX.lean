/-
  IsIncident of the reference and of the program. Conditions: lengths within the bound of a slice.
-/
import Derived.Test.YtebfphpmdkagpaaW
namespace Go.Proofs.Ytebfphpmdkagpaa
open Go.RowKit
set_option maxRecDepth 100000
set_option maxHeartbeats 2000000

def incC (b f v : Int) : Bool := (inB f (-1) b && !(decide (b = 0) && !decide (f = 0))) && inB v 0 5
def incA (bs fs vs : List Int) (k : Nat) : Bool := (List.range k).all fun i => incC (bs.getD i 0) (fs.getD i 0) (vs.getD i 0)
def incB (W H : Int) (bs fs vs : List Int) (t : Int) : Bool := ((terB W H bs && decide (fs.length = bs.length)) && (decide (vs.length = bs.length) && inB t 0 9999)) && incA bs fs vs bs.length
theorem getD_of' {xs : List Int} {k : Nat} {x : Int} (hk : k < xs.length) (h : xs[k] = x) : xs.getD k 0 = x := by
  rw [List.getD_eq_getElem?_getD, List.getElem?_eq_getElem hk, h]; rfl
theorem incA_step {bs fs vs : List Int} {k : Nat} {b f v : Int} (h1 : k < bs.length) (e1 : bs[k] = b) (h2 : k < fs.length) (e2 : fs[k] = f) (h3 : k < vs.length) (e3 : vs[k] = v) (h : incA bs fs vs k = true) (hc : incC b f v = true) : incA bs fs vs (k + 1) = true := by
  unfold incA at h ⊢
  rw [List.range_succ, List.all_append, h]
  simp only [List.all_cons, List.all_nil, Bool.and_true, Bool.true_and]
  rw [getD_of' h1 e1, getD_of' h2 e2, getD_of' h3 e3, hc]
theorem incA_no {bs fs vs : List Int} {n k : Nat} {b f v : Int} (hn : k < n) (h1 : k < bs.length) (e1 : bs[k] = b) (h2 : k < fs.length) (e2 : fs[k] = f) (h3 : k < vs.length) (e3 : vs[k] = v) (hc : incC b f v = false) : incA bs fs vs n = false := by
  unfold incA
  rw [List.all_eq_false]
  exact ⟨k, by simp [hn], by rw [getD_of' h1 e1, getD_of' h2 e2, getD_of' h3 e3, hc]; simp⟩
theorem six_cells {w : World} {g : Nat} {t : TypeId} {a b c d e f : Value} (h : Bk w g t [a, b, c, d, e, f]) : w.cell? ⟨g, 0, none⟩ = some a ∧ w.cell? ⟨g, 1, none⟩ = some b ∧ w.cell? ⟨g, 2, none⟩ = some c ∧ w.cell? ⟨g, 3, none⟩ = some d ∧ w.cell? ⟨g, 4, none⟩ = some e ∧ w.cell? ⟨g, 5, none⟩ = some f ∧ g < w.heap.size := ⟨h.cell 0, h.cell 1, h.cell 2, h.cell 3, h.cell 4, h.cell 5, h.lt⟩
theorem isTick_of {x : Int} (v : Bool) (h : inB x 0 9999 = v) (w : World) : Calls Try.prog 49 #[.int .i64 x] w fun e w' => e = .returned (.bool v) ∧ w = w' := by rw [← h]; exact isTick_any x w
theorem l4Tick_of {x : Int} (v : Bool) (h : inB x 0 9999 = v) (w : World) : Calls Try.prog 54 #[.int .i64 x] w fun e w' => e = .returned (.bool v) ∧ w = w' := by rw [← h]; exact l4Tick_any x w
theorem l21Good_is {q : Bool} {W H t : Int} {A A2 A3 : Option Addr} {n n2 n3 c c2 c3 : Nat} {bs fs vs : List Int} (hq : incB W H bs fs vs t = q) (w : World) (hr : Rd w 1 A n (ints bs)) (hr2 : Rd w 1 A2 n2 (ints fs)) (hr3 : Rd w 1 A3 n3 (ints vs)) (hl : bs.length = n) (hl2 : fs.length = n2) (hl3 : vs.length = n3) (hn : n ≤ 1048576) :
    Calls Try.prog 46 #[.agg #[.int .i64 W, .int .i64 H, .slice A n c, .slice A2 n2 c2, .slice A3 n3 c3, .int .i64 t]] w fun e w' => e = .returned (.bool q) ∧ Below w.heap.size w w' := by
  go_enter Try.func46, Try.ntmps46
  go_upto_region 1 with fail
  refine wp_gen (fun w0 => Bk w0 w.heap.size 55 [.int .i64 W, .int .i64 H, .slice A n c, .slice A2 n2 c2, .slice A3 n3 c3, .int .i64 t] ∧ Below w.heap.size w w0) ⟨Bk.new' rfl, by (repeat' (first | (with_reducible exact Below.refl _ _) | (with_reducible assumption) | (with_reducible refine balloc ?_ _) | (with_reducible refine bdrew ?_) | (with_reducible refine bdrewN ?_ _) | (with_reducible refine bstep ?_ (by assumption)) | (with_reducible refine bset ?_ ?_ _) | (exact Below.size (by assumption)) | go_size))⟩ ?_
  intro w0 ⟨hX, b0⟩
  obtain ⟨x0, x1, x2, x3, x4, x5, xl⟩ := six_cells hX
  have HX := Lib.hid hX
  clear hX
  rcases h1 : terB W H bs with _ | _
  · have H1 := Lib.hid h1
    obtain rfl : q = false := by rw [← hq]; simp [incB, h1]
    clear hq
    go_wp2_with fail
    refine (l2Good_is H1.out _ (hr.below b0) hl (by omega)).mono ?_
    rintro e w1 ⟨rfl, hb1⟩
    have b1 := bstep b0 hb1
    have HX := Lib.hid (HX.out.below hb1 HX.out.lt)
    clear x0 x1 x2 x3 x4 x5 xl
    obtain ⟨x0, x1, x2, x3, x4, x5, xl⟩ := six_cells HX.out
    go_wp2
    go_returns
    exact ⟨rfl, b1⟩
  have H1 := Lib.hid h1
  by_cases e2 : n2 = n
  case neg =>
    have hne : ((n2 : Int) != (n : Int)) = true := by simp; omega
    obtain rfl : q = false := by rw [← hq]; simp [incB, hl, hl2, e2]
    clear hq
    go_wp2_with fail
    refine (l2Good_is H1.out _ (hr.below b0) hl (by omega)).mono ?_
    rintro e w1 ⟨rfl, hb1⟩
    have b1 := bstep b0 hb1
    have HX := Lib.hid (HX.out.below hb1 HX.out.lt)
    clear x0 x1 x2 x3 x4 x5 xl
    obtain ⟨x0, x1, x2, x3, x4, x5, xl⟩ := six_cells HX.out
    go_wp2
    go_returns
    exact ⟨rfl, b1⟩
  subst e2
  have hne2 : ((n2 : Int) != (n2 : Int)) = false := by simp
  by_cases e3 : n3 = n2
  case neg =>
    have hne : ((n3 : Int) != (n2 : Int)) = true := by simp; omega
    obtain rfl : q = false := by rw [← hq]; simp [incB, hl, hl3, e3]
    clear hq
    go_wp2_with fail
    refine (l2Good_is H1.out _ (hr.below b0) hl (by omega)).mono ?_
    rintro e w1 ⟨rfl, hb1⟩
    have b1 := bstep b0 hb1
    have HX := Lib.hid (HX.out.below hb1 HX.out.lt)
    clear x0 x1 x2 x3 x4 x5 xl
    obtain ⟨x0, x1, x2, x3, x4, x5, xl⟩ := six_cells HX.out
    go_wp2
    go_returns
    exact ⟨rfl, b1⟩
  subst e3
  rcases h4 : inB t 0 9999 with _ | _
  · skip
    obtain rfl : q = false := by rw [← hq]; simp [incB, h4]
    clear hq
    go_wp2_with fail
    refine (l2Good_is H1.out _ (hr.below b0) hl (by omega)).mono ?_
    rintro e w1 ⟨rfl, hb1⟩
    have b1 := bstep b0 hb1
    have HX := Lib.hid (HX.out.below hb1 HX.out.lt)
    clear x0 x1 x2 x3 x4 x5 xl
    obtain ⟨x0, x1, x2, x3, x4, x5, xl⟩ := six_cells HX.out
    go_wp2_with fail
    refine (l4Tick_of false h4 _).mono ?_
    rintro e u ⟨rfl, rfl⟩
    go_wp2
    go_returns
    exact ⟨rfl, b1⟩
  have hq2 : incA bs fs vs n3 = q := by rw [← hq]; simp [incB, h1, hl, hl2, hl3, h4]
  have HQ := Lib.hid hq2
  clear hq hq2 h1
  go_wp2_with fail
  refine (l2Good_is H1.out _ (hr.below b0) hl (by omega)).mono ?_
  rintro e w1 ⟨rfl, hb1⟩
  have b1 := bstep b0 hb1
  have HX := Lib.hid (HX.out.below hb1 HX.out.lt)
  clear x0 x1 x2 x3 x4 x5 xl
  obtain ⟨x0, x1, x2, x3, x4, x5, xl⟩ := six_cells HX.out
  go_wp2_with fail
  refine (l4Tick_of true h4 _).mono ?_
  rintro e u ⟨rfl, rfl⟩
  go_wp2_with fail
  clear x0 x1 x2 x3 x4 x5 xl
  go_loopw [4] (fun i wr => ∃ k : Nat, k ≤ n3 ∧ i = .int .i64 k ∧ incA bs fs vs k = true ∧ Bk wr w.heap.size 55 [.int .i64 W, .int .i64 H, .slice A n3 c, .slice A2 n3 c2, .slice A3 n3 c3, .int .i64 t] ∧ Below w.heap.size w wr) (fun i _ => n3 - (intOf i).toNat)
  case atStart => exact ⟨0, Nat.zero_le _, rfl, rfl, HX.out, b1⟩
  case round =>
    obtain ⟨k, hk, rfl, ho, hXk, hW⟩ := hrel
    obtain ⟨x0, x1, x2, x3, x4, x5, xl⟩ := six_cells hXk
    have HX := Lib.hid hXk
    have HO := Lib.hid ho
    clear hXk ho
    by_cases hlt : k < n3
    · obtain ⟨p, o1, b, rfl, hp1, hb, c0⟩ := ints_at hr hW hl hlt
      obtain ⟨p2, o2, f, rfl, hp2, hf, d0⟩ := ints_at hr2 hW hl2 hlt
      obtain ⟨p3, o3, v, rfl, hp3, hv, f0⟩ := ints_at hr3 hW hl3 hlt
      have s1 : p < wr.heap.size := Nat.lt_of_lt_of_le hp1 hW.size
      have s2 : p2 < wr.heap.size := Nat.lt_of_lt_of_le hp2 hW.size
      have s3 : p3 < wr.heap.size := Nat.lt_of_lt_of_le hp3 hW.size
      have HYes := Lib.hid (fun h => incA_step (show k < bs.length by omega) hb (show k < fs.length by omega) hf (show k < vs.length by omega) hv HO.out h)
      have HNo := Lib.hid (fun h => incA_no (n := n3) hlt (show k < bs.length by omega) hb (show k < fs.length by omega) hf (show k < vs.length by omega) hv h)
      have i1 : (0 : Int) ≤ (k : Int) := by omega
      have i2 : (k : Int) < (n3 : Int) := by omega
      clear hb hf hv
      rcases h6 : inB f (-1) b with _ | _
      · skip
        obtain rfl : q = false := by rw [← HQ.out]; exact HNo.out (by simp [incC, h6])
        go_wp2_with fail
        refine (l1In_of false h6 _).mono ?_
        rintro e u ⟨rfl, rfl⟩
        go_wp2
        go_returns
        exact ⟨rfl, hW⟩
      by_cases hb0 : b = 0
      · have hbe : (b == 0) = true := by simp [hb0]
        have HB0 := Lib.hid hb0
        clear hb0
        by_cases hf0 : f = 0
        · have hfe : (f != 0) = false := by simp [hf0]
          have HF0 := Lib.hid hf0
          clear hf0
          rcases h8 : inB v 0 5 with _ | _
          · skip
            obtain rfl : q = false := by rw [← HQ.out]; exact HNo.out (by simp [incC, h8])
            go_wp2_with fail
            refine (l1In_of true h6 _).mono ?_
            rintro e u ⟨rfl, rfl⟩
            go_wp2_with fail
            refine (l1In_of false h8 _).mono ?_
            rintro e u ⟨rfl, rfl⟩
            go_wp2
            go_returns
            exact ⟨rfl, hW⟩
          · skip
            have hg := HYes.out (by unfold incC; rw [h6, h8]; simp [HF0.out])
            have HG := Lib.hid hg
            clear hg
            go_wp2_with fail
            refine (l1In_of true h6 _).mono ?_
            rintro e u ⟨rfl, rfl⟩
            go_wp2_with fail
            refine (l1In_of true h8 _).mono ?_
            rintro e u ⟨rfl, rfl⟩
            go_wp2
            go_roundw
            case rel => exact ⟨k + 1, by omega, by go_num, HG.out, HX.out, hW⟩
            case measure => simp [intOf]; omega
        · have hfe : (f != 0) = true := by simp [hf0]
          obtain rfl : q = false := by rw [← HQ.out]; exact HNo.out (by simp [incC, HB0.out, hf0])
          go_wp2_with fail
          refine (l1In_of true h6 _).mono ?_
          rintro e u ⟨rfl, rfl⟩
          go_wp2
          go_returns
          exact ⟨rfl, hW⟩
      · have hbe : (b == 0) = false := by simp [hb0]
        rcases h8 : inB v 0 5 with _ | _
        · skip
          obtain rfl : q = false := by rw [← HQ.out]; exact HNo.out (by simp [incC, h8])
          go_wp2_with fail
          refine (l1In_of true h6 _).mono ?_
          rintro e u ⟨rfl, rfl⟩
          go_wp2_with fail
          refine (l1In_of false h8 _).mono ?_
          rintro e u ⟨rfl, rfl⟩
          go_wp2
          go_returns
          exact ⟨rfl, hW⟩
        · skip
          have hg := HYes.out (by unfold incC; rw [h6, h8]; simp [hb0])
          have HG := Lib.hid hg
          clear hg
          go_wp2_with fail
          refine (l1In_of true h6 _).mono ?_
          rintro e u ⟨rfl, rfl⟩
          go_wp2_with fail
          refine (l1In_of true h8 _).mono ?_
          rintro e u ⟨rfl, rfl⟩
          go_wp2
          go_roundw
          case rel => exact ⟨k + 1, by omega, by go_num, HG.out, HX.out, hW⟩
          case measure => simp [intOf]; omega
    · have hkn : k = n3 := by omega
      obtain rfl : q = true := by rw [← HQ.out, ← hkn]; exact HO.out
      subst hkn
      go_wp2
      go_returns
      exact ⟨rfl, hW⟩
theorem IsIncident_is {q : Bool} {W H t : Int} {A A2 A3 : Option Addr} {n n2 n3 c c2 c3 : Nat} {bs fs vs : List Int} (hq : incB W H bs fs vs t = q) (w : World) (hr : Rd w 1 A n (ints bs)) (hr2 : Rd w 1 A2 n2 (ints fs)) (hr3 : Rd w 1 A3 n3 (ints vs)) (hl : bs.length = n) (hl2 : fs.length = n2) (hl3 : vs.length = n3) (hn : n ≤ 1048576) :
    Calls Try.prog 30 #[.agg #[.int .i64 W, .int .i64 H, .slice A n c, .slice A2 n2 c2, .slice A3 n3 c3, .int .i64 t]] w fun e w' => e = .returned (.bool q) ∧ Below w.heap.size w w' := by
  go_enter Try.func30, Try.ntmps30
  go_upto_region 1 with fail
  refine wp_gen (fun w0 => Bk w0 w.heap.size 55 [.int .i64 W, .int .i64 H, .slice A n c, .slice A2 n2 c2, .slice A3 n3 c3, .int .i64 t] ∧ Below w.heap.size w w0) ⟨Bk.new' rfl, by (repeat' (first | (with_reducible exact Below.refl _ _) | (with_reducible assumption) | (with_reducible refine balloc ?_ _) | (with_reducible refine bdrew ?_) | (with_reducible refine bdrewN ?_ _) | (with_reducible refine bstep ?_ (by assumption)) | (with_reducible refine bset ?_ ?_ _) | (exact Below.size (by assumption)) | go_size))⟩ ?_
  intro w0 ⟨hX, b0⟩
  obtain ⟨x0, x1, x2, x3, x4, x5, xl⟩ := six_cells hX
  have HX := Lib.hid hX
  clear hX
  rcases h1 : terB W H bs with _ | _
  · have H1 := Lib.hid h1
    obtain rfl : q = false := by rw [← hq]; simp [incB, h1]
    clear hq
    go_wp2_with fail
    refine (IsTerrain_is H1.out _ (hr.below b0) hl (by omega)).mono ?_
    rintro e w1 ⟨rfl, hb1⟩
    have b1 := bstep b0 hb1
    have HX := Lib.hid (HX.out.below hb1 HX.out.lt)
    clear x0 x1 x2 x3 x4 x5 xl
    obtain ⟨x0, x1, x2, x3, x4, x5, xl⟩ := six_cells HX.out
    go_wp2
    go_returns
    exact ⟨rfl, b1⟩
  have H1 := Lib.hid h1
  by_cases e2 : n2 = n
  case neg =>
    have hne : ((n2 : Int) != (n : Int)) = true := by simp; omega
    obtain rfl : q = false := by rw [← hq]; simp [incB, hl, hl2, e2]
    clear hq
    go_wp2_with fail
    refine (IsTerrain_is H1.out _ (hr.below b0) hl (by omega)).mono ?_
    rintro e w1 ⟨rfl, hb1⟩
    have b1 := bstep b0 hb1
    have HX := Lib.hid (HX.out.below hb1 HX.out.lt)
    clear x0 x1 x2 x3 x4 x5 xl
    obtain ⟨x0, x1, x2, x3, x4, x5, xl⟩ := six_cells HX.out
    go_wp2
    go_returns
    exact ⟨rfl, b1⟩
  subst e2
  have hne2 : ((n2 : Int) != (n2 : Int)) = false := by simp
  by_cases e3 : n3 = n2
  case neg =>
    have hne : ((n3 : Int) != (n2 : Int)) = true := by simp; omega
    obtain rfl : q = false := by rw [← hq]; simp [incB, hl, hl3, e3]
    clear hq
    go_wp2_with fail
    refine (IsTerrain_is H1.out _ (hr.below b0) hl (by omega)).mono ?_
    rintro e w1 ⟨rfl, hb1⟩
    have b1 := bstep b0 hb1
    have HX := Lib.hid (HX.out.below hb1 HX.out.lt)
    clear x0 x1 x2 x3 x4 x5 xl
    obtain ⟨x0, x1, x2, x3, x4, x5, xl⟩ := six_cells HX.out
    go_wp2
    go_returns
    exact ⟨rfl, b1⟩
  subst e3
  rcases h4 : inB t 0 9999 with _ | _
  · skip
    obtain rfl : q = false := by rw [← hq]; simp [incB, h4]
    clear hq
    go_wp2_with fail
    refine (IsTerrain_is H1.out _ (hr.below b0) hl (by omega)).mono ?_
    rintro e w1 ⟨rfl, hb1⟩
    have b1 := bstep b0 hb1
    have HX := Lib.hid (HX.out.below hb1 HX.out.lt)
    clear x0 x1 x2 x3 x4 x5 xl
    obtain ⟨x0, x1, x2, x3, x4, x5, xl⟩ := six_cells HX.out
    go_wp2_with fail
    refine (isTick_of false h4 _).mono ?_
    rintro e u ⟨rfl, rfl⟩
    go_wp2
    go_returns
    exact ⟨rfl, b1⟩
  have hq2 : incA bs fs vs n3 = q := by rw [← hq]; simp [incB, h1, hl, hl2, hl3, h4]
  have HQ := Lib.hid hq2
  clear hq hq2 h1
  go_wp2_with fail
  refine (IsTerrain_is H1.out _ (hr.below b0) hl (by omega)).mono ?_
  rintro e w1 ⟨rfl, hb1⟩
  have b1 := bstep b0 hb1
  have HX := Lib.hid (HX.out.below hb1 HX.out.lt)
  clear x0 x1 x2 x3 x4 x5 xl
  obtain ⟨x0, x1, x2, x3, x4, x5, xl⟩ := six_cells HX.out
  go_wp2_with fail
  refine (isTick_of true h4 _).mono ?_
  rintro e u ⟨rfl, rfl⟩
  go_wp2_with fail
  clear x0 x1 x2 x3 x4 x5 xl
  go_loopw [38] (fun i wr => ∃ k : Nat, k ≤ n3 ∧ i = .int .i64 k ∧ incA bs fs vs k = true ∧ Bk wr w.heap.size 55 [.int .i64 W, .int .i64 H, .slice A n3 c, .slice A2 n3 c2, .slice A3 n3 c3, .int .i64 t] ∧ Below w.heap.size w wr) (fun i _ => n3 - (intOf i).toNat)
  case atStart => exact ⟨0, Nat.zero_le _, rfl, rfl, HX.out, b1⟩
  case round =>
    obtain ⟨k, hk, rfl, ho, hXk, hW⟩ := hrel
    obtain ⟨x0, x1, x2, x3, x4, x5, xl⟩ := six_cells hXk
    have HX := Lib.hid hXk
    have HO := Lib.hid ho
    clear hXk ho
    by_cases hlt : k < n3
    · obtain ⟨p, o1, b, rfl, hp1, hb, c0⟩ := ints_at hr hW hl hlt
      obtain ⟨p2, o2, f, rfl, hp2, hf, d0⟩ := ints_at hr2 hW hl2 hlt
      obtain ⟨p3, o3, v, rfl, hp3, hv, f0⟩ := ints_at hr3 hW hl3 hlt
      have s1 : p < wr.heap.size := Nat.lt_of_lt_of_le hp1 hW.size
      have s2 : p2 < wr.heap.size := Nat.lt_of_lt_of_le hp2 hW.size
      have s3 : p3 < wr.heap.size := Nat.lt_of_lt_of_le hp3 hW.size
      have HYes := Lib.hid (fun h => incA_step (show k < bs.length by omega) hb (show k < fs.length by omega) hf (show k < vs.length by omega) hv HO.out h)
      have HNo := Lib.hid (fun h => incA_no (n := n3) hlt (show k < bs.length by omega) hb (show k < fs.length by omega) hf (show k < vs.length by omega) hv h)
      have i1 : (0 : Int) ≤ (k : Int) := by omega
      have i2 : (k : Int) < (n3 : Int) := by omega
      clear hb hf hv
      by_cases hb0 : b = 0
      · have hbe : (b == 0) = true := by simp [hb0]
        have HB0 := Lib.hid hb0
        clear hb0
        by_cases hf0 : f = 0
        · have hfe : (f != 0) = false := by simp [hf0]
          have HF0 := Lib.hid hf0
          clear hf0
          rcases h6 : inB f (-1) b with _ | _
          · skip
            obtain rfl : q = false := by rw [← HQ.out]; exact HNo.out (by simp [incC, h6])
            go_wp2_with fail
            refine (in_of false h6 _).mono ?_
            rintro e u ⟨rfl, rfl⟩
            go_wp2
            go_returns
            exact ⟨rfl, hW⟩
          rcases h8 : inB v 0 5 with _ | _
          · skip
            obtain rfl : q = false := by rw [← HQ.out]; exact HNo.out (by simp [incC, h8])
            go_wp2_with fail
            refine (in_of true h6 _).mono ?_
            rintro e u ⟨rfl, rfl⟩
            go_wp2_with fail
            refine (in_of false h8 _).mono ?_
            rintro e u ⟨rfl, rfl⟩
            go_wp2
            go_returns
            exact ⟨rfl, hW⟩
          have hg := HYes.out (by unfold incC; rw [h6, h8]; simp [HF0.out])
          have HG := Lib.hid hg
          clear hg
          go_wp2_with fail
          refine (in_of true h6 _).mono ?_
          rintro e u ⟨rfl, rfl⟩
          go_wp2_with fail
          refine (in_of true h8 _).mono ?_
          rintro e u ⟨rfl, rfl⟩
          go_wp2
          go_roundw
          case rel => exact ⟨k + 1, by omega, by go_num, HG.out, HX.out, hW⟩
          case measure => simp [intOf]; omega
        · have hfe : (f != 0) = true := by simp [hf0]
          obtain rfl : q = false := by rw [← HQ.out]; exact HNo.out (by simp [incC, HB0.out, hf0])
          go_wp2
          go_returns
          exact ⟨rfl, hW⟩
      · have hbe : (b == 0) = false := by simp [hb0]
        rcases h6 : inB f (-1) b with _ | _
        · skip
          obtain rfl : q = false := by rw [← HQ.out]; exact HNo.out (by simp [incC, h6])
          go_wp2_with fail
          refine (in_of false h6 _).mono ?_
          rintro e u ⟨rfl, rfl⟩
          go_wp2
          go_returns
          exact ⟨rfl, hW⟩
        rcases h8 : inB v 0 5 with _ | _
        · skip
          obtain rfl : q = false := by rw [← HQ.out]; exact HNo.out (by simp [incC, h8])
          go_wp2_with fail
          refine (in_of true h6 _).mono ?_
          rintro e u ⟨rfl, rfl⟩
          go_wp2_with fail
          refine (in_of false h8 _).mono ?_
          rintro e u ⟨rfl, rfl⟩
          go_wp2
          go_returns
          exact ⟨rfl, hW⟩
        have hg := HYes.out (by unfold incC; rw [h6, h8]; simp [hb0])
        have HG := Lib.hid hg
        clear hg
        go_wp2_with fail
        refine (in_of true h6 _).mono ?_
        rintro e u ⟨rfl, rfl⟩
        go_wp2_with fail
        refine (in_of true h8 _).mono ?_
        rintro e u ⟨rfl, rfl⟩
        go_wp2
        go_roundw
        case rel => exact ⟨k + 1, by omega, by go_num, HG.out, HX.out, hW⟩
        case measure => simp [intOf]; omega
    · have hkn : k = n3 := by omega
      obtain rfl : q = true := by rw [← HQ.out, ← hkn]; exact HO.out
      subst hkn
      go_wp2
      go_returns
      exact ⟨rfl, hW⟩
theorem sIsIncident_is {q : Bool} {W H t : Int} {A A2 A3 : Option Addr} {n n2 n3 c c2 c3 : Nat} {bs fs vs : List Int} (hq : incB W H bs fs vs t = q) (w : World) (hr : Rd w 1 A n (ints bs)) (hr2 : Rd w 1 A2 n2 (ints fs)) (hr3 : Rd w 1 A3 n3 (ints vs)) (hl : bs.length = n) (hl2 : fs.length = n2) (hl3 : vs.length = n3) (hn : n ≤ 1048576) :
    Calls Try.prog 28 #[.agg #[.int .i64 W, .int .i64 H, .slice A n c, .slice A2 n2 c2, .slice A3 n3 c3, .int .i64 t]] w fun e w' => e = .returned (.bool q) ∧ Below w.heap.size w w' := by
  have b0 := balloc (Below.refl w.heap.size w) (.cells #[.int .i64 W, .int .i64 H, .slice A n c, .slice A2 n2 c2, .slice A3 n3 c3, .int .i64 t] 55)
  have HQ := Lib.hid hq
  clear hq
  go_enter Try.func28, Try.ntmps28
  go_wp2_with fail
  refine (l21Good_is HQ.out _ (hr.below b0) (hr2.below b0) (hr3.below b0) hl hl2 hl3 hn).mono ?_
  rintro e w1 ⟨rfl, b1⟩
  go_wp2
  go_returns
  exact ⟨rfl, bstep b0 b1⟩
end Go.Proofs.Ytebfphpmdkagpaa
