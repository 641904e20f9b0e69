/-
  OrderNotes of the program and of the reference, whole. Conditions: lengths within the bound of a slice.
-/
import Derived.Test.YthgabapegpndnaaON
import Derived.Test.YthgabapegpndnaaMZ
namespace Go.Proofs.Ythgabapegpndnaa
open Go.RowKit
set_option maxRecDepth 100000
set_option maxHeartbeats 4000000

theorem i64_wrap {x : Int} (h1 : -9223372036854775808 ≤ x) (h2 : x ≤ 9223372036854775807) : IntKind.i64.wrap x = x := by
  simp [IntKind.wrap, IntKind.signed, IntKind.bits]; omega
theorem OrderNotes_is {q : Bool} {L : List Int} {units : Int} {A : Option Addr} {n c : Nat} {Z : List NoteV} (hq : onQ units Z = q) (hL : onL units Z = L) (w : World) (hr : RdN w A n Z) (hn : n ≤ 1048576) (hm : ∀ i, i < n → (nAt Z i).2.2.1.length ≤ 1048576 ∧ (nAt Z i).2.2.2.size ≤ maxLen) :
    Calls Try.prog 36 #[.int .i64 units, .slice A n c] w fun e w' => ∃ v, e = .returned (.tuple #[v, .bool q]) ∧ w'.ownsRow w.heap.size 3 1 v L.length (ints L) ∧ Below w.heap.size w w' := by
  have HQ := Lib.hid hq
  have HL := Lib.hid hL
  have hl := hr.1
  obtain ⟨q1, hq1⟩ : ∃ q, bookB units Z = q := ⟨_, rfl⟩
  have hgood := fun W (hW : Below w.heap.size w W) => IsNotebook_is (c := c) hq1 W (hr.below hW) hn hm
  have HQ1 := Lib.hid hq1
  clear hq hL hq1
  obtain ⟨i0, hi0, hz0, hz1, hz2⟩ := infoI
  go_enter Try.func36, Try.ntmps36
  go_upto_region 1 with fail
  refine wp_gen (fun w0 => Bk w0 w.heap.size 25 [.slice A n c] ∧ Below w.heap.size w w0 ∧ w.heap.size < w0.heap.size) ⟨Bk.new' rfl, by (repeat' (first | (with_reducible exact Below.refl _ _) | (with_reducible assumption) | (with_reducible refine balloc ?_ _) | (with_reducible refine bdrew ?_) | (with_reducible refine bdrewN ?_ _) | (with_reducible refine bstep ?_ (by assumption)) | (with_reducible refine bset ?_ ?_ _) | (exact Below.size (by assumption)) | go_size)), by simp⟩ ?_
  intro w0 ⟨hX, b0, hlt0⟩
  have c0 := hX.cell 0
  simp only [List.getElem?_cons_zero] at c0
  have HX := Lib.hid hX
  clear hX
  go_wp2_with fail
  refine (hgood _ b0).mono ?_
  rintro e w1 ⟨rfl, hb1⟩
  have b1 := bstep b0 hb1
  have HX1 := Lib.hid (HX.out.below hb1 HX.out.lt)
  clear hgood c0
  rcases q1 with _ | _
  · obtain rfl : q = false := by rw [← HQ.out]; simp [onQ, HQ1.out]
    obtain rfl : L = [] := by rw [← HL.out]; simp [onL, HQ.out]
    go_wp2
    go_returns
    exact ⟨_, rfl, World.ownsRow_nil _ _ _ _, b1⟩
  have hcq : comB Z = q := by rw [← HQ.out]; simp [onQ, HQ1.out]
  have HCQ := Lib.hid hcq
  have c1 := HX1.out.cell 0
  simp only [List.getElem?_cons_zero] at c1
  clear hcq
  go_wp2_with fail
  refine (complete_is HQ1.out HCQ.out _ (hr.below b1) hn).mono ?_
  rintro e w2 ⟨rfl, hb2⟩
  have b2 := bstep b1 hb2
  have hX2 := HX1.out.below hb2 HX1.out.lt
  have c2 := hX2.cell 0
  simp only [List.getElem?_cons_zero] at c2
  have HX2 := Lib.hid hX2
  clear hX2 c1
  have hlt2 : w.heap.size < w2.heap.size := Nat.lt_of_lt_of_le hlt0 (Nat.le_trans hb1.size hb2.size)
  rcases q with _ | _
  · obtain rfl : L = [] := by rw [← HL.out]; simp [onL, HQ.out]
    go_wp2
    go_returns
    exact ⟨_, rfl, World.ownsRow_nil _ _ _ _, b2⟩
  have hL2 : srt (ltN Z) (idx n) n = L := by rw [← HL.out]; simp [onL, HQ.out, hl]
  have HL2 := Lib.hid hL2
  have hn12 : n ≤ 12 := by have := (bookB_iff.1 HQ1.out).2.2; omega
  clear HL hL2
  go_wp2_with fail
  go_loopw [6, 20] (fun v i wr => ∃ k : Nat, k ≤ n ∧ i = .int .i64 k ∧ wr.ownsRow w2.heap.size 3 1 v (idx k).length (ints (idx k)) ∧ Hid (v ≠ .slice none 0 0) ∧ Below w2.heap.size w2 wr) (fun _ i _ => n - (intOf i).toNat)
  case atStart => exact ⟨0, Nat.zero_le _, rfl, by simpa [idx, ints] using own_lit' (w := w2) (t := 3) (k := 1) rfl (Nat.le_refl _), Lib.hid (by simp), by (repeat' (first | (with_reducible exact Below.refl _ _) | (with_reducible assumption) | (with_reducible refine balloc ?_ _) | (with_reducible refine bdrew ?_) | (with_reducible refine bdrewN ?_ _) | (with_reducible refine bstep ?_ (by assumption)) | (with_reducible refine bset ?_ ?_ _) | (exact Below.size (by assumption)) | go_size))⟩
  case round =>
    obtain ⟨k, hk, rfl, hown, HNN, hW⟩ := hrel
    have hWW := bstep b2 hW
    have hXr := HX2.out.below hW HX2.out.lt
    have HXR := Lib.hid hXr
    have c3 := hXr.cell 0
    simp only [List.getElem?_cons_zero] at c3
    clear hXr c2
    have hil := idx_len k
    by_cases hlt : k < n
    · have hsz := hW.size
      go_wp2_with (at_builtin; refine wpList_append_own _ rfl (.tmp 23) (.tmp 25) 29 rfl w2.heap.size 3 i0 (.int .i64 0) 1 8 Try.underlying29 hi0 hz0 hz1 hz2 rfl (by decide) _ _ _ rfl (own_alloc hown _) ⟨_, 0, none⟩ 1 1 [.int .i64 (k : Int)] rfl rfl ?c1 ?c2 ?c3 ?c4 ?c5 ?_)
      case c1 => exact cell_one_new _ _ _
      case c2 => (first | rfl | (intro u hu; simp at hu; subst hu; rfl))
      case c3 => (unfold maxLen; omega)
      case c4 => omega
      case c5 => (simp; omega)
      intro v' w4 hown4 hgrow _
      have b4 := own_grownBy (own_alloc hown _) (balloc hW _) hgrow (Nat.le_refl _) (by simp; omega)
      have hnn : v' ≠ .slice none 0 0 := fun h => by
        rcases own_bk hown4 with ⟨_, h0⟩ | ⟨_, _, _, h1, _⟩
        · omega
        · rw [h] at h1; cases h1
      have HN4 := Lib.hid hnn
      clear hnn
      go_wp2
      go_roundw
      case rel => exact ⟨k + 1, by omega, by go_num, by rw [idx_succ, List.length_append, hil]; simpa [ints] using hown4, HN4, b4⟩
      case measure => simp [intOf]; omega
    · obtain rfl : k = n := by omega
      rcases own_bk hown with ⟨hv, _⟩ | ⟨g, cap, cs, rfl, hb, hB, h1, h2, h3, h4⟩
      · exact absurd hv HNN.out
      rw [hil] at h1 h4 ⊢
      have hcs : cs = ints (idx k) ++ cs.drop k := by rw [← h4, Nat.mul_one]; exact (List.take_append_drop _ _).symm
      rw [hcs] at hB
      have HB := Lib.hid hB
      have HCS := Lib.hid hcs
      have H3 := Lib.hid h3
      have hgl : g < wr.heap.size := hB.lt
      have hF := fun (x y : Int) (W : World) (hx : x ∈ idx k) (hy : y ∈ idx k) (hG : wr.grownBy W (some g)) => (show Calls Try.prog 56 #[.int .i64 x, .int .i64 y, .pointer (some ⟨w.heap.size, 0, none⟩)] W fun e w' => e = .returned (.int .i64 (cmpv (sN Z x) (sN Z y))) ∧ Below W.heap.size W w' from by
        obtain ⟨i, hi, rfl⟩ := idx_mem hx
        obtain ⟨j, hj, rfl⟩ := idx_mem hy
        exact ord_clo HQ1.out A k c i j w.heap.size w W hr (hWW.grown hG hWW.size (fun k e => by cases e; exact Nat.le_of_lt (Nat.lt_of_lt_of_le hlt2 hb))) hi hj (HXR.out.grown hG (by intro e; cases e; omega)))
      clear hown hB hcs h4 h3 c3
      go_wp2_with fail
      refine (sortStable_int g k cap 3 (idx k) _ (fun x y => cmpv (sN Z x) (sN Z y)) w.heap.size _ HB.out (idx_len k) (by omega) hF).mono ?_
      rintro e w5 ⟨rfl, hB5, hG5⟩
      have hW5 : Below w.heap.size w w5 := hWW.grown hG5 hWW.size (fun k e => by cases e; exact Nat.le_of_lt (Nat.lt_of_lt_of_le hlt2 hb))
      have hLs : srt (fun x y => decide (cmpv (sN Z x) (sN Z y) < 0)) (idx k) k = L := HL2.out
      rw [hLs] at hB5
      have hll : L.length = k := by rw [← HL2.out]; exact srt_len (by rw [idx_len]; exact Nat.le_refl _)
      have hown5 := bk_own (n := k) (k := 1) (xs := ints L) hb hB5 h1 h2 (by
        have h9 := congrArg List.length HCS.out
        have h8 := H3.out
        rw [List.length_append, ints_length] at h9 ⊢
        rw [idx_len] at h9
        rw [hll]
        omega) (by
        rw [Nat.mul_one, List.take_append_of_le_length (by rw [ints_length, hll]; exact Nat.le_refl _)]
        exact List.take_of_length_le (by rw [ints_length, hll]; exact Nat.le_refl _))
      rw [← hll] at hown5
      have HO := Lib.hid (own_weaken (base' := w.heap.size) hown5 (Nat.le_of_lt hlt2))
      have HLL := Lib.hid hll
      clear hown5 hB5 hLs hll hF
      go_wp2
      go_returns
      exact ⟨_, rfl, by have := HO.out; rw [HLL.out] at this ⊢; exact this, hW5⟩
theorem sOrderNotes_is {q : Bool} {L : List Int} {units : Int} {A : Option Addr} {n c : Nat} {Z : List NoteV} (hq : onQ units Z = q) (hL : onL units Z = L) (w : World) (hr : RdN w A n Z) (hn : n ≤ 1048576) (hm : ∀ i, i < n → (nAt Z i).2.2.1.length ≤ 1048576 ∧ (nAt Z i).2.2.2.size ≤ maxLen) :
    Calls Try.prog 35 #[.int .i64 units, .slice A n c] w fun e w' => ∃ v, e = .returned (.tuple #[v, .bool q]) ∧ w'.ownsRow w.heap.size 3 1 v L.length (ints L) ∧ Below w.heap.size w w' := by
  have HQ := Lib.hid hq
  have HL := Lib.hid hL
  have hl := hr.1
  obtain ⟨q1, hq1⟩ : ∃ q, bookB units Z = q := ⟨_, rfl⟩
  have hgood := fun W (hW : Below w.heap.size w W) => l17Good_is (c := c) hq1 W (hr.below hW) hn hm
  have HQ1 := Lib.hid hq1
  clear hq hL hq1
  obtain ⟨i0, hi0, hz0, hz1, hz2⟩ := infoI
  go_enter Try.func35, Try.ntmps35
  go_wp2_with fail
  refine (hgood _ (by (repeat' (first | (with_reducible exact Below.refl _ _) | (with_reducible assumption) | (with_reducible refine balloc ?_ _) | (with_reducible refine bdrew ?_) | (with_reducible refine bdrewN ?_ _) | (with_reducible refine bstep ?_ (by assumption)) | (with_reducible refine bset ?_ ?_ _) | (exact Below.size (by assumption)) | go_size)))).mono ?_
  rintro e w1 ⟨rfl, hb1⟩
  have b1 : Below w.heap.size w w1 := bstep (by (repeat' (first | (with_reducible exact Below.refl _ _) | (with_reducible assumption) | (with_reducible refine balloc ?_ _) | (with_reducible refine bdrew ?_) | (with_reducible refine bdrewN ?_ _) | (with_reducible refine bstep ?_ (by assumption)) | (with_reducible refine bset ?_ ?_ _) | (exact Below.size (by assumption)) | go_size))) hb1
  have HO := Lib.hid (own_below (own_lit' (w := w) (t := 3) (k := 1) rfl (Nat.le_refl _)) hb1)
  clear hgood hb1
  rcases q1 with _ | _
  · obtain rfl : q = false := by rw [← HQ.out]; simp [onQ, HQ1.out]
    obtain rfl : L = [] := by rw [← HL.out]; simp [onL, HQ.out]
    go_wp2
    go_returns
    exact ⟨_, rfl, HO.out, b1⟩
  have hcq : comB Z = q := by rw [← HQ.out]; simp [onQ, HQ1.out]
  have HCQ := Lib.hid hcq
  clear hcq
  go_wp2_with fail
  refine (l17Complete_is HQ1.out HCQ.out _ (hr.below b1) hn).mono ?_
  rintro e w2 ⟨rfl, hb2⟩
  have b2 := bstep b1 hb2
  have HO2 := Lib.hid (own_below HO.out hb2)
  clear HO
  rcases q with _ | _
  · obtain rfl : L = [] := by rw [← HL.out]; simp [onL, HQ.out]
    go_wp2
    go_returns
    exact ⟨_, rfl, HO2.out, b2⟩
  have hL2 : srt (ltN Z) (idx n) n = L := by rw [← HL.out]; simp [onL, HQ.out, hl]
  have HL2 := Lib.hid hL2
  have hn12 : n ≤ 12 := by have := (bookB_iff.1 HQ1.out).2.2; omega
  have HV := Lib.hid (fun k (hk : k < n) => book_val HQ1.out (k := k) (by omega))
  have hu24 := inB_iff.1 (bookB_iff.1 HQ1.out).1
  clear HL hL2
  go_wp2_with fail
  go_loopw [6, 7] (fun v i wr => ∃ k : Nat, k ≤ n ∧ i = .int .i64 k ∧ wr.ownsRow w.heap.size 3 1 v k (ints (srt (ltN Z) (idx n) k)) ∧ Hid (v ≠ .slice none 0 0) ∧ Below w.heap.size w wr) (fun _ i _ => n - (intOf i).toNat)
  case atStart => exact ⟨0, Nat.zero_le _, rfl, by simpa [srt, ints] using HO2.out, Lib.hid (by simp), b2⟩
  case round =>
    obtain ⟨k, hk, rfl, hown, HNN, hW⟩ := hrel
    by_cases hlt : k < n
    · have hst := srt_succ (lt := ltN Z) (ds := idx n) (k := k) (by rw [idx_len]; exact hlt)
      have hik : (idx n)[k]'(by rw [idx_len]; exact hlt) = (k : Int) := by simp [idx]
      rw [hik] at hst
      have hmem : ∀ y ∈ srt (ltN Z) (idx n) k, y ∈ idx n := fun y hy => List.mem_of_mem_take (srt_mem (by rw [idx_len]; omega) hy)
      have hcl := srt_len (lt := ltN Z) (ds := idx n) (k := k) (by rw [idx_len]; omega)
      obtain ⟨cl, hcle⟩ : ∃ cl, srt (ltN Z) (idx n) k = cl := ⟨_, rfl⟩
      rw [hcle] at hown hst hmem hcl
      rcases own_bk hown with ⟨hv, _⟩ | ⟨g, cap, cs, rfl, hb, hB, h1, h2, h3, h4⟩
      · exact absurd hv HNN.out
      obtain ⟨b, off, u, s, Ar, m, cr, xs, wd, rfl, hbl, hx, hxm, hrow, z0, z1, z2, z3⟩ := hr.at_ (Below.refl w.heap.size w) hlt
      have HZ0 := Lib.hid z0
      have HZ1 := Lib.hid z1
      have HZ2 := Lib.hid z2
      have HZ3 := Lib.hid z3
      have hnp := HV.out k hlt
      rw [hx] at hnp
      obtain ⟨e1, e2, _⟩ := nP_bd hnp
      obtain ⟨sx, hsx⟩ : ∃ sx, sumL xs = sx := ⟨_, rfl⟩
      have hsk : sN Z (k : Int) = sx := by unfold sN; rw [Int.toNat_natCast, hx]; exact hsx
      have HS1 := fun V (hV : Below w.heap.size w V) => l17Sum_is (u := u) (s := s) (c := cr) (wd := wd) hsx V (hrow.below hV) hxm (by omega) e2
      have HSK := Lib.hid hsk
      have HST := Lib.hid hst
      have HM := Lib.hid hmem
      have HCL := Lib.hid hcl
      have HO3 := Lib.hid hown
      have hro : Rd wr 1 (some ⟨g, 0, none⟩) k (ints cl) := own_r hown
      have HRO := Lib.hid hro
      have hgl : g < wr.heap.size := hB.lt
      obtain ⟨wo, rfl⟩ : ∃ wo, wo = wr := ⟨_, rfl⟩
      have i3 : (k : Int) < (n : Int) := by omega
      have i4 : (0 : Int) ≤ (k : Int) := by omega
      clear hst hmem hcl hown hro hx hxm hrow hnp e1 e2 hsx hsk hcle hB h3 h4 z0 z1 z2 z3
      go_wp2_with fail
      go_loopw [8] (fun j wr => ∃ p : Nat, p ≤ k ∧ j = .int .i64 p ∧ Hid (back (ltN Z) (k : Int) cl p = back (ltN Z) (k : Int) cl k) ∧ Below wo.heap.size wo wr) (fun j _ => (intOf j).toNat)
      case atStart => exact ⟨k, Nat.le_refl _, rfl, Lib.hid rfl, Below.refl _ _⟩
      case round =>
        obtain ⟨p, hp, rfl, HBK, hW2⟩ := hrel
        have hWW := bstep hW hW2
        have c0 := (hWW.cell (p := ⟨b, off + k * 4, none⟩) hbl).trans HZ0.out
        have c1 := (hWW.cell (p := ⟨b, off + k * 4 + 1, none⟩) hbl).trans HZ1.out
        have c2 := (hWW.cell (p := ⟨b, off + k * 4 + 2, none⟩) hbl).trans HZ2.out
        have c3 := (hWW.cell (p := ⟨b, off + k * 4 + 3, none⟩) hbl).trans HZ3.out
        have s1 : b < wr.heap.size := Nat.lt_of_lt_of_le hbl hWW.size
        by_cases hgo : 0 < p ∧ ∃ (h : p - 1 < cl.length), ltN Z (k : Int) cl[p - 1] = true
        · obtain ⟨h0, h1', hgt⟩ := hgo
          obtain ⟨p', hp'⟩ : ∃ p', p = p' + 1 := ⟨p - 1, by omega⟩
          have hpl : p' < cl.length := by have := HCL.out; omega
          obtain ⟨y0, hy0⟩ : ∃ y, cl[p'] = y := ⟨_, rfl⟩
          obtain ⟨v, hv, rfl⟩ := idx_mem (HM.out y0 (hy0 ▸ List.getElem_mem _))
          obtain ⟨b6, off6, y6, hA6, hbl6, hg6, z6⟩ := ints_at HRO.out hW2 HCL.out (k := p') (by omega)
          simp only [Option.some.injEq, Addr.mk.injEq, and_true] at hA6
          obtain ⟨rfl, rfl⟩ := hA6
          obtain rfl : y6 = (v : Int) := hg6.symm.trans hy0
          simp only [Nat.zero_add] at z6
          have s6 : g < wr.heap.size := Nat.lt_of_lt_of_le hbl6 hW2.size
          obtain ⟨b', off', u', s', Ar', m', cr', ys, wd', hbe, hbl', hy, hym, hrow', d0, d1, d2, d3⟩ := hr.at_ hWW hv
          simp only [Option.some.injEq, Addr.mk.injEq, and_true] at hbe
          obtain ⟨rfl, rfl⟩ := hbe
          have hnp := HV.out v hv
          rw [hy] at hnp
          obtain ⟨f1, f2, _⟩ := nP_bd hnp
          obtain ⟨sy, hsy⟩ : ∃ sy, sumL ys = sy := ⟨_, rfl⟩
          have hsv : sN Z (v : Int) = sy := by unfold sN; rw [Int.toNat_natCast, hy]; exact hsy
          have HS2 := fun V (hV : Below wr.heap.size wr V) => l17Sum_is (u := u') (s := s') (c := cr') (wd := wd') hsy V (hrow'.below hV) hym (by omega) f2
          have hlt9 : ltN Z (k : Int) (v : Int) = decide (sx < sy) := by rw [ltN_eq, HSK.out, hsv]
          have HLT := Lib.hid hlt9
          have HY0 := Lib.hid hy0
          have HPP := Lib.hid hp'
          have hwrp : IntKind.i64.wrap ((p : Int) - 1) = (p' : Int) := by rw [i64_wrap (by omega) (by omega)]; omega
          have i5 : (0 : Int) ≤ (p' : Int) := by omega
          have i6 : (p' : Int) < (k : Int) := by omega
          have i7 : (0 : Int) ≤ (v : Int) := by omega
          have i8 : (v : Int) < (n : Int) := by omega
          have hd0 : decide (0 < p) = true := decide_eq_true (by omega)
          clear hy hym hrow' hnp f1 f2 hsy hsv hg6
          have hp1 : p - 1 = p' := by have := HPP.out; omega
          simp only [hp1, HY0.out] at hgt
          rw [HLT.out] at hgt
          have hbk := back_yes (lt := ltN Z) (x := (k : Int)) (xs := cl) hpl (by rw [HY0.out, HLT.out]; exact hgt)
          rw [← HPP.out] at hbk
          have HB2 := Lib.hid hbk
          clear hbk hp1 hlt9 hp'
          go_wp2
          (refine wp_region_bel (by kernel_rfl) (by kernel_rfl) ?_; (repeat (go_big_quiet_step ((first | (go_at_call_of 54 (#[Value.agg #[Value.int .i64 u, Value.int .i64 s, Value.slice Ar m cr, Value.string wd]] : Array Value); exact calls_bel (HS1 _ (bstep hWW (below_bel _ _)))) | (go_at_call_of 54 (#[Value.agg #[Value.int .i64 u', Value.int .i64 s', Value.slice Ar' m' cr', Value.string wd']] : Array Value); exact calls_bel (HS2 _ (below_bel _ _))))))); refine wpQuiet_nil ?_; intro w' hw'; have hb := below_of hw'; clear hw'; (try clear cW fW zW); (first | (have bW := bstep bW hb) | (have bW := bstep (bdrew bW) hb) | (have bW := bstep (balloc bW _) hb) | (have bW := bstep (bdrewN bW _) hb) | (have bW := hb)); clear hb; obtain ⟨cW, fW⟩ := bcell bW; have zW := bsize bW)
          go_wp2
          go_roundw
          case rel => exact ⟨p', by have := HPP.out; omega, by go_num, Lib.hid (by rw [← HB2.out]; exact HBK.out), bstep hW2 bW⟩
          case measure => have := HPP.out; simp [intOf]; omega
        · have hbp : back (ltN Z) (k : Int) cl p = p := by
            rcases Nat.eq_zero_or_pos p with h0 | h0
            · rw [h0]; rfl
            · have hpl := HCL.out
              have e : back (ltN Z) (k : Int) cl (p - 1 + 1) = p - 1 + 1 := back_no (by omega) (by
                rw [Bool.eq_false_iff]
                exact fun h => hgo ⟨h0, by omega, h⟩)
              rwa [show p - 1 + 1 = p from by omega] at e
          have hfi : srt (ltN Z) (idx n) (k + 1) = insAt cl (k : Int) p := by
            rw [HST.out]; unfold ins; rw [HCL.out, ← HBK.out, hbp]
          have HFI := Lib.hid hfi
          have hgo2 : Hid (∀ (h : p - 1 < cl.length), 0 < p → ltN Z (k : Int) cl[p - 1] = false) := Lib.hid fun h h0 => by
            rw [Bool.eq_false_iff]
            exact fun h1 => hgo ⟨h0, h, h1⟩
          clear hfi hbp hgo
          rcases Nat.eq_zero_or_pos p with h0 | h0
          case' inl =>
            have hd0 : decide (0 < p) = false := decide_eq_false (by omega)
            have H0 := Lib.hid h0
            clear h0
          case' inr =>
            obtain ⟨p', hp'⟩ : ∃ p', p = p' + 1 := ⟨p - 1, by omega⟩
            have hpl : p' < cl.length := by have := HCL.out; omega
            obtain ⟨y0, hy0⟩ : ∃ y, cl[p'] = y := ⟨_, rfl⟩
            obtain ⟨v, hv, rfl⟩ := idx_mem (HM.out y0 (hy0 ▸ List.getElem_mem _))
            obtain ⟨b6, off6, y6, hA6, hbl6, hg6, z6⟩ := ints_at HRO.out hW2 HCL.out (k := p') (by omega)
            simp only [Option.some.injEq, Addr.mk.injEq, and_true] at hA6
            obtain ⟨rfl, rfl⟩ := hA6
            obtain rfl : y6 = (v : Int) := hg6.symm.trans hy0
            simp only [Nat.zero_add] at z6
            have s6 : g < wr.heap.size := Nat.lt_of_lt_of_le hbl6 hW2.size
            obtain ⟨b', off', u', s', Ar', m', cr', ys, wd', hbe, hbl', hy, hym, hrow', d0, d1, d2, d3⟩ := hr.at_ hWW hv
            simp only [Option.some.injEq, Addr.mk.injEq, and_true] at hbe
            obtain ⟨rfl, rfl⟩ := hbe
            have hnp := HV.out v hv
            rw [hy] at hnp
            obtain ⟨f1, f2, _⟩ := nP_bd hnp
            obtain ⟨sy, hsy⟩ : ∃ sy, sumL ys = sy := ⟨_, rfl⟩
            have hsv : sN Z (v : Int) = sy := by unfold sN; rw [Int.toNat_natCast, hy]; exact hsy
            have HS2 := fun V (hV : Below wr.heap.size wr V) => l17Sum_is (u := u') (s := s') (c := cr') (wd := wd') hsy V (hrow'.below hV) hym (by omega) f2
            have hlt9 : ltN Z (k : Int) (v : Int) = decide (sx < sy) := by rw [ltN_eq, HSK.out, hsv]
            have HLT := Lib.hid hlt9
            have HY0 := Lib.hid hy0
            have HPP := Lib.hid hp'
            have hwrp : IntKind.i64.wrap ((p : Int) - 1) = (p' : Int) := by rw [i64_wrap (by omega) (by omega)]; omega
            have i5 : (0 : Int) ≤ (p' : Int) := by omega
            have i6 : (p' : Int) < (k : Int) := by omega
            have i7 : (0 : Int) ≤ (v : Int) := by omega
            have i8 : (v : Int) < (n : Int) := by omega
            have hd0 : decide (0 < p) = true := decide_eq_true (by omega)
            clear hy hym hrow' hnp f1 f2 hsy hsv hg6
            have hgt : decide (sx < sy) = false := by
              rw [← HLT.out]
              have hp1 : p - 1 = p' := by have := HPP.out; omega
              have h9 := hgo2.out (by omega) h0
              simp only [hp1, HY0.out] at h9
              exact h9
            clear hlt9 hp' h0
          all_goals
            go_wp2
            (refine wp_region_bel (by kernel_rfl) (by kernel_rfl) ?_; (repeat (go_big_quiet_step ((first | (go_at_call_of 54 (#[Value.agg #[Value.int .i64 u, Value.int .i64 s, Value.slice Ar m cr, Value.string wd]] : Array Value); exact calls_bel (HS1 _ (bstep hWW (below_bel _ _)))) | (go_at_call_of 54 (#[Value.agg #[Value.int .i64 u', Value.int .i64 s', Value.slice Ar' m' cr', Value.string wd']] : Array Value); exact calls_bel (HS2 _ (below_bel _ _))))))); refine wpQuiet_nil ?_; intro w' hw'; have hb := below_of hw'; clear hw'; (try clear cW fW zW); (first | (have bW := bstep bW hb) | (have bW := bstep (bdrew bW) hb) | (have bW := bstep (balloc bW _) hb) | (have bW := bstep (bdrewN bW _) hb) | (have bW := hb)); clear hb; obtain ⟨cW, fW⟩ := bcell bW; have zW := bsize bW)
            have b9 := bstep hW2 bW
            have b8 := bstep hW b9
            have hr' := HRO.out.below b9
            have hcl := HCL.out
            clear cW fW zW c0 c1 c2 c3 s1
            by_cases hpc : p = cap
            · have hkp : k = p := by omega
              have e7 : cl.drop p = [] := List.drop_of_length_le (by omega)
              have hfin : ints (cl.take p) ++ [.int .i64 (k : Int)] ++ [] = ints (insAt cl (k : Int) p) := by rw [ins_ints, e7]; rfl
              have HFN := Lib.hid hfin
              clear hfin e7
              subst hpc
              subst hkp
              have r1 := Rd.take1 (p := k) hr' hcl (Nat.le_refl _)
              have i5 : ((k : Nat) : Int) ≤ ((k : Nat) : Int) := Int.le_refl _
              have i6 : (0 : Int) ≤ ((k : Nat) : Int) := by omega
              clear hr'
              go_wp2_with fail
              refine wp_region_treeP (.two [1, 2, 3, 5, 8, 9, 10] 0 (.two [] 4 (.one [] 6 (.one [] 7 (.one [] 11 (.fin [12])))) 6 (.one [] 4 (.one [] 7 (.one [] 11 (.fin [12]))))) 6 (.one [] 0 (.one [] 4 (.one [] 7 (.one [] 11 (.fin [12])))))) (by kernel_rfl) (by kernel_rfl) ?_
              have bM : Below w'.heap.size w' w'.drew := bdrew (Below.refl _ _)
              have r1 := r1.below bM
              generalize w'.drew = wm at r1 bM ⊢
              have bm : Below wm.heap.size wm wm := Below.refl _ _
              (refine treeW_twoP ?_; (try simp only [List.map_cons]); (try simp only [List.map_nil]); (try simp only [List.getD_cons_succ]); (try simp only [List.getD_cons_zero]); (repeat (go_big_quiet_step (fail))); refine wpQuiet_nil ?_; refine ⟨?_, ?_⟩)
              · go_wp2_with fail
                refine ChainPostP.mk ?_
                have hL : (wm.alloc (.cells #[] 3)).ownsRow wm.heap.size 3 1 (.slice (some ⟨wm.heap.size, 0, none⟩) 0 0) 0 [] := own_lit' rfl bm.size
                have bwA : Below wm.heap.size wm (wm.alloc (.cells #[] 3)) := balloc bm _
                generalize wm.alloc (.cells #[] 3) = wA at hL bwA ⊢
                (refine treeW_twoP ?_; (try simp only [List.map_cons]); (try simp only [List.map_nil]); (try simp only [List.getD_cons_succ]); (try simp only [List.getD_cons_zero]); (repeat (go_big_quiet_step (fail))); refine wpQuiet_nil ?_; refine ⟨?_, ?_⟩)
                · go_wp2_with (at_builtin; (refine wpList_append_own _ rfl (.tmp 49) (.tmp 52) 29 rfl wm.heap.size 3 i0 (.int .i64 0) 1 8 Try.underlying29 hi0 hz0 hz1 hz2 rfl (by decide) _ _ _ rfl hL ⟨g, 0, none⟩ k k (ints (cl.take k)) rfl (r1.below bwA).1 (r1.below bwA).news (ints_one _) (by unfold maxLen; omega) (by omega) bwA.size ?_))
                  intro v1 w3 hown1 hgr1 _
                  go_wp2_with fail
                  refine ChainPostP.mk ?_
                  have bw3 : Below wm.heap.size wm w3 := own_grownBy hL bwA hgr1 (Nat.le_refl _) bwA.size
                  (try simp only [Nat.zero_add, List.nil_append] at hown1)
                  (refine treeW_oneP ?_; (try simp only [List.map_cons]); (try simp only [List.map_nil]); (try simp only [List.getD_cons_succ]); (try simp only [List.getD_cons_zero]); (repeat (go_big_quiet_step (fail))); refine wpQuiet_nil ?_)
                  go_wp2_with fail
                  refine ChainPostP.mk ?_
                  have hK : Bk (w3.alloc (.cells #[.int .i64 (k : Int)] 3)) w3.heap.size 3 [.int .i64 (k : Int)] := Bk.new' rfl
                  have bwB : Below wm.heap.size wm (w3.alloc (.cells #[.int .i64 (k : Int)] 3)) := balloc bw3 _
                  have hown1B := own_alloc hown1 (.cells #[.int .i64 (k : Int)] 3)
                  generalize w3.alloc (.cells #[.int .i64 (k : Int)] 3) = wB at hK bwB hown1B ⊢
                  (refine treeW_oneP ?_; (try simp only [List.map_cons]); (try simp only [List.map_nil]); (try simp only [List.getD_cons_succ]); (try simp only [List.getD_cons_zero]); (repeat (go_big_quiet_step (fail))); refine wpQuiet_nil ?_)
                  go_wp2_with (at_builtin; (refine wpList_append_own _ rfl (.tmp 53) (.tmp 55) 29 rfl wm.heap.size 3 i0 (.int .i64 0) 1 8 Try.underlying29 hi0 hz0 hz1 hz2 rfl (by decide) _ _ _ rfl hown1B ⟨_, 0, none⟩ 1 1 [.int .i64 (k : Int)] rfl (rd_one hK).1 (rd_one hK).news (by intro u hu; simp at hu; subst hu; rfl) (by unfold maxLen; omega) (by omega) bwB.size ?_))
                  intro v2 w4 hown2 hgr2 _
                  go_wp2_with fail
                  refine ChainPostP.mk ?_
                  have bw4 : Below wm.heap.size wm w4 := own_grownBy hown1B bwB hgr2 (Nat.le_refl _) bwB.size
                  (refine treeW_oneP ?_; (try simp only [List.map_cons]); (try simp only [List.map_nil]); (try simp only [List.getD_cons_succ]); (try simp only [List.getD_cons_zero]); (repeat (go_big_quiet_step (fail))); refine wpQuiet_nil ?_)
                  go_wp2_with (at_builtin; (refine wpList_append_own _ rfl (.tmp 56) (.tmp 59) 29 rfl wm.heap.size 3 i0 (.int .i64 0) 1 8 Try.underlying29 hi0 hz0 hz1 hz2 rfl (by decide) _ _ _ rfl hown2 ⟨g, 0, none⟩ 0 0 [] rfl ((Rd.nil_ : Rd w4 1 (some ⟨g, 0, none⟩) 0 [])).1 ((Rd.nil_ : Rd w4 1 (some ⟨g, 0, none⟩) 0 [])).news (by simp) (by unfold maxLen; omega) (by omega) bw4.size ?_))
                  intro v3 w5 hown3 hgr3 _
                  go_wp2_with fail
                  refine ChainPostP.mk ?_
                  have bw5 : Below wm.heap.size wm w5 := own_grownBy hown2 bw4 hgr3 (Nat.le_refl _) bw4.size
                  (refine treeW_finP ?_; (try simp only [List.map_cons]); (try simp only [List.map_nil]); (try simp only [List.getD_cons_succ]); (try simp only [List.getD_cons_zero]); (repeat (go_big_quiet_step (fail))); refine wpQuiet_nil ?_)
                  replace hown3 := own_list hown3 (show _ = ints (insAt cl (k : Int) k) from by have h9 := HFN.out; simpa [List.append_assoc] using h9)
                  have e5 : Below w.heap.size w w5 := bstep (bstep b8 bM) bw5
                  have HO5 := Lib.hid (own_weaken (base' := w.heap.size) (own_len (n' := k + 1) hown3 (by omega)) (Nat.le_trans b8.size bM.size))
                  have HN3 : Hid (v3 ≠ .slice none 0 0) := Lib.hid fun h => by
                    rcases own_bk HO5.out with ⟨_, h0⟩ | ⟨_, _, _, h1, _⟩
                    · omega
                    · rw [h] at h1; cases h1
                  clear hown3 hown2 hown1
                  go_wp2_with fail
                  go_roundw
                  case rel => exact ⟨k + 1, by omega, by go_num, by rw [HFI.out]; exact HO5.out, HN3, e5⟩
                  case measure => simp [intOf]; omega
                · go_wp2_with fail
                  have hne : ¬ wA.heap.size = wm.heap.size := by have := (hL.lt wm.heap.size rfl).2; omega
                  refine ChainPostP.mk ?_
                  have hK : Bk (wA.alloc (.cells #[.int .i64 (k : Int)] 3)) wA.heap.size 3 [.int .i64 (k : Int)] := Bk.new' rfl
                  have bwB : Below wm.heap.size wm (wA.alloc (.cells #[.int .i64 (k : Int)] 3)) := balloc bwA _
                  have hLB := own_alloc hL (.cells #[.int .i64 (k : Int)] 3)
                  generalize wA.alloc (.cells #[.int .i64 (k : Int)] 3) = wB at hK bwB hLB ⊢
                  (refine treeW_oneP ?_; (try simp only [List.map_cons]); (try simp only [List.map_nil]); (try simp only [List.getD_cons_succ]); (try simp only [List.getD_cons_zero]); (repeat (go_big_quiet_step (fail))); refine wpQuiet_nil ?_)
                  go_wp2_with (at_builtin; (refine wpList_append_own _ rfl (.tmp 49) (.tmp 52) 29 rfl wm.heap.size 3 i0 (.int .i64 0) 1 8 Try.underlying29 hi0 hz0 hz1 hz2 rfl (by decide) _ _ _ rfl hLB ⟨g, 0, none⟩ k k (ints (cl.take k)) rfl (r1.below bwB).1 (r1.below bwB).news (ints_one _) (by unfold maxLen; omega) (by omega) bwB.size ?_))
                  intro v1 w3 hown1 hgr1 _
                  go_wp2_with fail
                  refine ChainPostP.mk ?_
                  have bw3 : Below wm.heap.size wm w3 := own_grownBy hLB bwB hgr1 (Nat.le_refl _) bwB.size
                  (try simp only [Nat.zero_add, List.nil_append] at hown1)
                  have hK3 := hK.grown hgr1 (by simp [Value.ownBlock]; omega)
                  (refine treeW_oneP ?_; (try simp only [List.map_cons]); (try simp only [List.map_nil]); (try simp only [List.getD_cons_succ]); (try simp only [List.getD_cons_zero]); (repeat (go_big_quiet_step (fail))); refine wpQuiet_nil ?_)
                  go_wp2_with (at_builtin; (refine wpList_append_own _ rfl (.tmp 53) (.tmp 55) 29 rfl wm.heap.size 3 i0 (.int .i64 0) 1 8 Try.underlying29 hi0 hz0 hz1 hz2 rfl (by decide) _ _ _ rfl hown1 ⟨_, 0, none⟩ 1 1 [.int .i64 (k : Int)] rfl (rd_one hK3).1 (rd_one hK3).news (by intro u hu; simp at hu; subst hu; rfl) (by unfold maxLen; omega) (by omega) bw3.size ?_))
                  intro v2 w4 hown2 hgr2 _
                  go_wp2_with fail
                  refine ChainPostP.mk ?_
                  have bw4 : Below wm.heap.size wm w4 := own_grownBy hown1 bw3 hgr2 (Nat.le_refl _) bw3.size
                  (refine treeW_oneP ?_; (try simp only [List.map_cons]); (try simp only [List.map_nil]); (try simp only [List.getD_cons_succ]); (try simp only [List.getD_cons_zero]); (repeat (go_big_quiet_step (fail))); refine wpQuiet_nil ?_)
                  go_wp2_with (at_builtin; (refine wpList_append_own _ rfl (.tmp 56) (.tmp 59) 29 rfl wm.heap.size 3 i0 (.int .i64 0) 1 8 Try.underlying29 hi0 hz0 hz1 hz2 rfl (by decide) _ _ _ rfl hown2 ⟨g, 0, none⟩ 0 0 [] rfl ((Rd.nil_ : Rd w4 1 (some ⟨g, 0, none⟩) 0 [])).1 ((Rd.nil_ : Rd w4 1 (some ⟨g, 0, none⟩) 0 [])).news (by simp) (by unfold maxLen; omega) (by omega) bw4.size ?_))
                  intro v3 w5 hown3 hgr3 _
                  go_wp2_with fail
                  refine ChainPostP.mk ?_
                  have bw5 : Below wm.heap.size wm w5 := own_grownBy hown2 bw4 hgr3 (Nat.le_refl _) bw4.size
                  (refine treeW_finP ?_; (try simp only [List.map_cons]); (try simp only [List.map_nil]); (try simp only [List.getD_cons_succ]); (try simp only [List.getD_cons_zero]); (repeat (go_big_quiet_step (fail))); refine wpQuiet_nil ?_)
                  replace hown3 := own_list hown3 (show _ = ints (insAt cl (k : Int) k) from by have h9 := HFN.out; simpa [List.append_assoc] using h9)
                  have e5 : Below w.heap.size w w5 := bstep (bstep b8 bM) bw5
                  have HO5 := Lib.hid (own_weaken (base' := w.heap.size) (own_len (n' := k + 1) hown3 (by omega)) (Nat.le_trans b8.size bM.size))
                  have HN3 : Hid (v3 ≠ .slice none 0 0) := Lib.hid fun h => by
                    rcases own_bk HO5.out with ⟨_, h0⟩ | ⟨_, _, _, h1, _⟩
                    · omega
                    · rw [h] at h1; cases h1
                  clear hown3 hown2 hown1
                  go_wp2_with fail
                  go_roundw
                  case rel => exact ⟨k + 1, by omega, by go_num, by rw [HFI.out]; exact HO5.out, HN3, e5⟩
                  case measure => simp [intOf]; omega
              · go_wp2_with fail
                refine ChainPostP.mk ?_
                have hK : Bk (wm.alloc (.cells #[.int .i64 (k : Int)] 3)) wm.heap.size 3 [.int .i64 (k : Int)] := Bk.new' rfl
                have bwA : Below wm.heap.size wm (wm.alloc (.cells #[.int .i64 (k : Int)] 3)) := balloc bm _
                generalize wm.alloc (.cells #[.int .i64 (k : Int)] 3) = wA at hK bwA ⊢
                have hne : ¬ wA.heap.size = wm.heap.size := by have := hK.lt; omega
                (refine treeW_oneP ?_; (try simp only [List.map_cons]); (try simp only [List.map_nil]); (try simp only [List.getD_cons_succ]); (try simp only [List.getD_cons_zero]); (repeat (go_big_quiet_step (fail))); refine wpQuiet_nil ?_)
                go_wp2_with fail
                refine ChainPostP.mk ?_
                have hL : (wA.alloc (.cells #[] 3)).ownsRow wm.heap.size 3 1 (.slice (some ⟨wA.heap.size, 0, none⟩) 0 0) 0 [] := own_lit' rfl bwA.size
                have bwB : Below wm.heap.size wm (wA.alloc (.cells #[] 3)) := balloc bwA _
                have hK2 := hK.alloc (.cells #[] 3)
                generalize wA.alloc (.cells #[] 3) = wB at hL bwB hK2 ⊢
                (refine treeW_oneP ?_; (try simp only [List.map_cons]); (try simp only [List.map_nil]); (try simp only [List.getD_cons_succ]); (try simp only [List.getD_cons_zero]); (repeat (go_big_quiet_step (fail))); refine wpQuiet_nil ?_)
                go_wp2_with (at_builtin; (refine wpList_append_own _ rfl (.tmp 49) (.tmp 52) 29 rfl wm.heap.size 3 i0 (.int .i64 0) 1 8 Try.underlying29 hi0 hz0 hz1 hz2 rfl (by decide) _ _ _ rfl hL ⟨g, 0, none⟩ k k (ints (cl.take k)) rfl (r1.below bwB).1 (r1.below bwB).news (ints_one _) (by unfold maxLen; omega) (by omega) bwB.size ?_))
                intro v1 w3 hown1 hgr1 _
                go_wp2_with fail
                refine ChainPostP.mk ?_
                have bw3 : Below wm.heap.size wm w3 := own_grownBy hL bwB hgr1 (Nat.le_refl _) bwB.size
                (try simp only [Nat.zero_add, List.nil_append] at hown1)
                have hK3 := hK2.grown hgr1 (by simp [Value.ownBlock]; omega)
                (refine treeW_oneP ?_; (try simp only [List.map_cons]); (try simp only [List.map_nil]); (try simp only [List.getD_cons_succ]); (try simp only [List.getD_cons_zero]); (repeat (go_big_quiet_step (fail))); refine wpQuiet_nil ?_)
                go_wp2_with (at_builtin; (refine wpList_append_own _ rfl (.tmp 53) (.tmp 55) 29 rfl wm.heap.size 3 i0 (.int .i64 0) 1 8 Try.underlying29 hi0 hz0 hz1 hz2 rfl (by decide) _ _ _ rfl hown1 ⟨_, 0, none⟩ 1 1 [.int .i64 (k : Int)] rfl (rd_one hK3).1 (rd_one hK3).news (by intro u hu; simp at hu; subst hu; rfl) (by unfold maxLen; omega) (by omega) bw3.size ?_))
                intro v2 w4 hown2 hgr2 _
                go_wp2_with fail
                refine ChainPostP.mk ?_
                have bw4 : Below wm.heap.size wm w4 := own_grownBy hown1 bw3 hgr2 (Nat.le_refl _) bw3.size
                (refine treeW_oneP ?_; (try simp only [List.map_cons]); (try simp only [List.map_nil]); (try simp only [List.getD_cons_succ]); (try simp only [List.getD_cons_zero]); (repeat (go_big_quiet_step (fail))); refine wpQuiet_nil ?_)
                go_wp2_with (at_builtin; (refine wpList_append_own _ rfl (.tmp 56) (.tmp 59) 29 rfl wm.heap.size 3 i0 (.int .i64 0) 1 8 Try.underlying29 hi0 hz0 hz1 hz2 rfl (by decide) _ _ _ rfl hown2 ⟨g, 0, none⟩ 0 0 [] rfl ((Rd.nil_ : Rd w4 1 (some ⟨g, 0, none⟩) 0 [])).1 ((Rd.nil_ : Rd w4 1 (some ⟨g, 0, none⟩) 0 [])).news (by simp) (by unfold maxLen; omega) (by omega) bw4.size ?_))
                intro v3 w5 hown3 hgr3 _
                go_wp2_with fail
                refine ChainPostP.mk ?_
                have bw5 : Below wm.heap.size wm w5 := own_grownBy hown2 bw4 hgr3 (Nat.le_refl _) bw4.size
                (refine treeW_finP ?_; (try simp only [List.map_cons]); (try simp only [List.map_nil]); (try simp only [List.getD_cons_succ]); (try simp only [List.getD_cons_zero]); (repeat (go_big_quiet_step (fail))); refine wpQuiet_nil ?_)
                replace hown3 := own_list hown3 (show _ = ints (insAt cl (k : Int) k) from by have h9 := HFN.out; simpa [List.append_assoc] using h9)
                have e5 : Below w.heap.size w w5 := bstep (bstep b8 bM) bw5
                have HO5 := Lib.hid (own_weaken (base' := w.heap.size) (own_len (n' := k + 1) hown3 (by omega)) (Nat.le_trans b8.size bM.size))
                have HN3 : Hid (v3 ≠ .slice none 0 0) := Lib.hid fun h => by
                  rcases own_bk HO5.out with ⟨_, h0⟩ | ⟨_, _, _, h1, _⟩
                  · omega
                  · rw [h] at h1; cases h1
                clear hown3 hown2 hown1
                go_wp2_with fail
                go_roundw
                case rel => exact ⟨k + 1, by omega, by go_num, by rw [HFI.out]; exact HO5.out, HN3, e5⟩
                case measure => simp [intOf]; omega
            · have r1 := Rd.take1 (p := p) hr' hcl (by omega)
              have r2 := Rd.drop1 (p := p) hr' hcl (by omega) p (fun _ => by omega)
              have hfin : ints (cl.take p) ++ [.int .i64 (k : Int)] ++ ints (cl.drop p) = ints (insAt cl (k : Int) p) := by rw [ins_ints]
              have HFN := Lib.hid hfin
              clear hfin hr'
              have i5 : ((p : Nat) : Int) ≤ (cap : Int) := by omega
              have i7 : ((p : Nat) : Int) ≤ (k : Int) := by omega
              have i8 : (k : Int) ≤ (cap : Int) := by omega
              have i6 : (0 : Int) ≤ ((p : Nat) : Int) := by omega
              go_wp2_with fail
              refine wp_region_treeP (.two [1, 2, 3, 5, 8, 9, 10] 0 (.two [] 4 (.one [] 6 (.one [] 7 (.one [] 11 (.fin [12])))) 6 (.one [] 4 (.one [] 7 (.one [] 11 (.fin [12]))))) 6 (.one [] 0 (.one [] 4 (.one [] 7 (.one [] 11 (.fin [12])))))) (by kernel_rfl) (by kernel_rfl) ?_
              have bM : Below w'.heap.size w' w'.drew := bdrew (Below.refl _ _)
              have r1 := r1.below bM
              have r2 := r2.below bM
              generalize w'.drew = wm at r1 r2 bM ⊢
              have bm : Below wm.heap.size wm wm := Below.refl _ _
              (refine treeW_twoP ?_; (try simp only [List.map_cons]); (try simp only [List.map_nil]); (try simp only [List.getD_cons_succ]); (try simp only [List.getD_cons_zero]); (repeat (go_big_quiet_step (fail))); refine wpQuiet_nil ?_; refine ⟨?_, ?_⟩)
              · go_wp2_with fail
                refine ChainPostP.mk ?_
                have hL : (wm.alloc (.cells #[] 3)).ownsRow wm.heap.size 3 1 (.slice (some ⟨wm.heap.size, 0, none⟩) 0 0) 0 [] := own_lit' rfl bm.size
                have bwA : Below wm.heap.size wm (wm.alloc (.cells #[] 3)) := balloc bm _
                generalize wm.alloc (.cells #[] 3) = wA at hL bwA ⊢
                (refine treeW_twoP ?_; (try simp only [List.map_cons]); (try simp only [List.map_nil]); (try simp only [List.getD_cons_succ]); (try simp only [List.getD_cons_zero]); (repeat (go_big_quiet_step (fail))); refine wpQuiet_nil ?_; refine ⟨?_, ?_⟩)
                · go_wp2_with (at_builtin; (refine wpList_append_own _ rfl (.tmp 49) (.tmp 52) 29 rfl wm.heap.size 3 i0 (.int .i64 0) 1 8 Try.underlying29 hi0 hz0 hz1 hz2 rfl (by decide) _ _ _ rfl hL ⟨g, 0, none⟩ p cap (ints (cl.take p)) rfl (r1.below bwA).1 (r1.below bwA).news (ints_one _) (by unfold maxLen; omega) (by omega) bwA.size ?_))
                  intro v1 w3 hown1 hgr1 _
                  go_wp2_with fail
                  refine ChainPostP.mk ?_
                  have bw3 : Below wm.heap.size wm w3 := own_grownBy hL bwA hgr1 (Nat.le_refl _) bwA.size
                  (try simp only [Nat.zero_add, List.nil_append] at hown1)
                  (refine treeW_oneP ?_; (try simp only [List.map_cons]); (try simp only [List.map_nil]); (try simp only [List.getD_cons_succ]); (try simp only [List.getD_cons_zero]); (repeat (go_big_quiet_step (fail))); refine wpQuiet_nil ?_)
                  go_wp2_with fail
                  refine ChainPostP.mk ?_
                  have hK : Bk (w3.alloc (.cells #[.int .i64 (k : Int)] 3)) w3.heap.size 3 [.int .i64 (k : Int)] := Bk.new' rfl
                  have bwB : Below wm.heap.size wm (w3.alloc (.cells #[.int .i64 (k : Int)] 3)) := balloc bw3 _
                  have hown1B := own_alloc hown1 (.cells #[.int .i64 (k : Int)] 3)
                  generalize w3.alloc (.cells #[.int .i64 (k : Int)] 3) = wB at hK bwB hown1B ⊢
                  (refine treeW_oneP ?_; (try simp only [List.map_cons]); (try simp only [List.map_nil]); (try simp only [List.getD_cons_succ]); (try simp only [List.getD_cons_zero]); (repeat (go_big_quiet_step (fail))); refine wpQuiet_nil ?_)
                  go_wp2_with (at_builtin; (refine wpList_append_own _ rfl (.tmp 53) (.tmp 55) 29 rfl wm.heap.size 3 i0 (.int .i64 0) 1 8 Try.underlying29 hi0 hz0 hz1 hz2 rfl (by decide) _ _ _ rfl hown1B ⟨_, 0, none⟩ 1 1 [.int .i64 (k : Int)] rfl (rd_one hK).1 (rd_one hK).news (by intro u hu; simp at hu; subst hu; rfl) (by unfold maxLen; omega) (by omega) bwB.size ?_))
                  intro v2 w4 hown2 hgr2 _
                  go_wp2_with fail
                  refine ChainPostP.mk ?_
                  have bw4 : Below wm.heap.size wm w4 := own_grownBy hown1B bwB hgr2 (Nat.le_refl _) bwB.size
                  (refine treeW_oneP ?_; (try simp only [List.map_cons]); (try simp only [List.map_nil]); (try simp only [List.getD_cons_succ]); (try simp only [List.getD_cons_zero]); (repeat (go_big_quiet_step (fail))); refine wpQuiet_nil ?_)
                  go_wp2_with (at_builtin; (refine wpList_append_own _ rfl (.tmp 56) (.tmp 59) 29 rfl wm.heap.size 3 i0 (.int .i64 0) 1 8 Try.underlying29 hi0 hz0 hz1 hz2 rfl (by decide) _ _ _ rfl hown2 ⟨g, p, none⟩ (k - p) (cap - p) (ints (cl.drop p)) rfl (r2.below bw4).1 (r2.below bw4).news (ints_one _) (by unfold maxLen; omega) (by omega) bw4.size ?_))
                  intro v3 w5 hown3 hgr3 _
                  go_wp2_with fail
                  refine ChainPostP.mk ?_
                  have bw5 : Below wm.heap.size wm w5 := own_grownBy hown2 bw4 hgr3 (Nat.le_refl _) bw4.size
                  (refine treeW_finP ?_; (try simp only [List.map_cons]); (try simp only [List.map_nil]); (try simp only [List.getD_cons_succ]); (try simp only [List.getD_cons_zero]); (repeat (go_big_quiet_step (fail))); refine wpQuiet_nil ?_)
                  replace hown3 := own_list hown3 (show _ = ints (insAt cl (k : Int) p) from by have h9 := HFN.out; simpa [List.append_assoc] using h9)
                  have e5 : Below w.heap.size w w5 := bstep (bstep b8 bM) bw5
                  have HO5 := Lib.hid (own_weaken (base' := w.heap.size) (own_len (n' := k + 1) hown3 (by omega)) (Nat.le_trans b8.size bM.size))
                  have HN3 : Hid (v3 ≠ .slice none 0 0) := Lib.hid fun h => by
                    rcases own_bk HO5.out with ⟨_, h0⟩ | ⟨_, _, _, h1, _⟩
                    · omega
                    · rw [h] at h1; cases h1
                  clear hown3 hown2 hown1
                  go_wp2_with fail
                  go_roundw
                  case rel => exact ⟨k + 1, by omega, by go_num, by rw [HFI.out]; exact HO5.out, HN3, e5⟩
                  case measure => simp [intOf]; omega
                · go_wp2_with fail
                  have hne : ¬ wA.heap.size = wm.heap.size := by have := (hL.lt wm.heap.size rfl).2; omega
                  refine ChainPostP.mk ?_
                  have hK : Bk (wA.alloc (.cells #[.int .i64 (k : Int)] 3)) wA.heap.size 3 [.int .i64 (k : Int)] := Bk.new' rfl
                  have bwB : Below wm.heap.size wm (wA.alloc (.cells #[.int .i64 (k : Int)] 3)) := balloc bwA _
                  have hLB := own_alloc hL (.cells #[.int .i64 (k : Int)] 3)
                  generalize wA.alloc (.cells #[.int .i64 (k : Int)] 3) = wB at hK bwB hLB ⊢
                  (refine treeW_oneP ?_; (try simp only [List.map_cons]); (try simp only [List.map_nil]); (try simp only [List.getD_cons_succ]); (try simp only [List.getD_cons_zero]); (repeat (go_big_quiet_step (fail))); refine wpQuiet_nil ?_)
                  go_wp2_with (at_builtin; (refine wpList_append_own _ rfl (.tmp 49) (.tmp 52) 29 rfl wm.heap.size 3 i0 (.int .i64 0) 1 8 Try.underlying29 hi0 hz0 hz1 hz2 rfl (by decide) _ _ _ rfl hLB ⟨g, 0, none⟩ p cap (ints (cl.take p)) rfl (r1.below bwB).1 (r1.below bwB).news (ints_one _) (by unfold maxLen; omega) (by omega) bwB.size ?_))
                  intro v1 w3 hown1 hgr1 _
                  go_wp2_with fail
                  refine ChainPostP.mk ?_
                  have bw3 : Below wm.heap.size wm w3 := own_grownBy hLB bwB hgr1 (Nat.le_refl _) bwB.size
                  (try simp only [Nat.zero_add, List.nil_append] at hown1)
                  have hK3 := hK.grown hgr1 (by simp [Value.ownBlock]; omega)
                  (refine treeW_oneP ?_; (try simp only [List.map_cons]); (try simp only [List.map_nil]); (try simp only [List.getD_cons_succ]); (try simp only [List.getD_cons_zero]); (repeat (go_big_quiet_step (fail))); refine wpQuiet_nil ?_)
                  go_wp2_with (at_builtin; (refine wpList_append_own _ rfl (.tmp 53) (.tmp 55) 29 rfl wm.heap.size 3 i0 (.int .i64 0) 1 8 Try.underlying29 hi0 hz0 hz1 hz2 rfl (by decide) _ _ _ rfl hown1 ⟨_, 0, none⟩ 1 1 [.int .i64 (k : Int)] rfl (rd_one hK3).1 (rd_one hK3).news (by intro u hu; simp at hu; subst hu; rfl) (by unfold maxLen; omega) (by omega) bw3.size ?_))
                  intro v2 w4 hown2 hgr2 _
                  go_wp2_with fail
                  refine ChainPostP.mk ?_
                  have bw4 : Below wm.heap.size wm w4 := own_grownBy hown1 bw3 hgr2 (Nat.le_refl _) bw3.size
                  (refine treeW_oneP ?_; (try simp only [List.map_cons]); (try simp only [List.map_nil]); (try simp only [List.getD_cons_succ]); (try simp only [List.getD_cons_zero]); (repeat (go_big_quiet_step (fail))); refine wpQuiet_nil ?_)
                  go_wp2_with (at_builtin; (refine wpList_append_own _ rfl (.tmp 56) (.tmp 59) 29 rfl wm.heap.size 3 i0 (.int .i64 0) 1 8 Try.underlying29 hi0 hz0 hz1 hz2 rfl (by decide) _ _ _ rfl hown2 ⟨g, p, none⟩ (k - p) (cap - p) (ints (cl.drop p)) rfl (r2.below bw4).1 (r2.below bw4).news (ints_one _) (by unfold maxLen; omega) (by omega) bw4.size ?_))
                  intro v3 w5 hown3 hgr3 _
                  go_wp2_with fail
                  refine ChainPostP.mk ?_
                  have bw5 : Below wm.heap.size wm w5 := own_grownBy hown2 bw4 hgr3 (Nat.le_refl _) bw4.size
                  (refine treeW_finP ?_; (try simp only [List.map_cons]); (try simp only [List.map_nil]); (try simp only [List.getD_cons_succ]); (try simp only [List.getD_cons_zero]); (repeat (go_big_quiet_step (fail))); refine wpQuiet_nil ?_)
                  replace hown3 := own_list hown3 (show _ = ints (insAt cl (k : Int) p) from by have h9 := HFN.out; simpa [List.append_assoc] using h9)
                  have e5 : Below w.heap.size w w5 := bstep (bstep b8 bM) bw5
                  have HO5 := Lib.hid (own_weaken (base' := w.heap.size) (own_len (n' := k + 1) hown3 (by omega)) (Nat.le_trans b8.size bM.size))
                  have HN3 : Hid (v3 ≠ .slice none 0 0) := Lib.hid fun h => by
                    rcases own_bk HO5.out with ⟨_, h0⟩ | ⟨_, _, _, h1, _⟩
                    · omega
                    · rw [h] at h1; cases h1
                  clear hown3 hown2 hown1
                  go_wp2_with fail
                  go_roundw
                  case rel => exact ⟨k + 1, by omega, by go_num, by rw [HFI.out]; exact HO5.out, HN3, e5⟩
                  case measure => simp [intOf]; omega
              · go_wp2_with fail
                refine ChainPostP.mk ?_
                have hK : Bk (wm.alloc (.cells #[.int .i64 (k : Int)] 3)) wm.heap.size 3 [.int .i64 (k : Int)] := Bk.new' rfl
                have bwA : Below wm.heap.size wm (wm.alloc (.cells #[.int .i64 (k : Int)] 3)) := balloc bm _
                generalize wm.alloc (.cells #[.int .i64 (k : Int)] 3) = wA at hK bwA ⊢
                have hne : ¬ wA.heap.size = wm.heap.size := by have := hK.lt; omega
                (refine treeW_oneP ?_; (try simp only [List.map_cons]); (try simp only [List.map_nil]); (try simp only [List.getD_cons_succ]); (try simp only [List.getD_cons_zero]); (repeat (go_big_quiet_step (fail))); refine wpQuiet_nil ?_)
                go_wp2_with fail
                refine ChainPostP.mk ?_
                have hL : (wA.alloc (.cells #[] 3)).ownsRow wm.heap.size 3 1 (.slice (some ⟨wA.heap.size, 0, none⟩) 0 0) 0 [] := own_lit' rfl bwA.size
                have bwB : Below wm.heap.size wm (wA.alloc (.cells #[] 3)) := balloc bwA _
                have hK2 := hK.alloc (.cells #[] 3)
                generalize wA.alloc (.cells #[] 3) = wB at hL bwB hK2 ⊢
                (refine treeW_oneP ?_; (try simp only [List.map_cons]); (try simp only [List.map_nil]); (try simp only [List.getD_cons_succ]); (try simp only [List.getD_cons_zero]); (repeat (go_big_quiet_step (fail))); refine wpQuiet_nil ?_)
                go_wp2_with (at_builtin; (refine wpList_append_own _ rfl (.tmp 49) (.tmp 52) 29 rfl wm.heap.size 3 i0 (.int .i64 0) 1 8 Try.underlying29 hi0 hz0 hz1 hz2 rfl (by decide) _ _ _ rfl hL ⟨g, 0, none⟩ p cap (ints (cl.take p)) rfl (r1.below bwB).1 (r1.below bwB).news (ints_one _) (by unfold maxLen; omega) (by omega) bwB.size ?_))
                intro v1 w3 hown1 hgr1 _
                go_wp2_with fail
                refine ChainPostP.mk ?_
                have bw3 : Below wm.heap.size wm w3 := own_grownBy hL bwB hgr1 (Nat.le_refl _) bwB.size
                (try simp only [Nat.zero_add, List.nil_append] at hown1)
                have hK3 := hK2.grown hgr1 (by simp [Value.ownBlock]; omega)
                (refine treeW_oneP ?_; (try simp only [List.map_cons]); (try simp only [List.map_nil]); (try simp only [List.getD_cons_succ]); (try simp only [List.getD_cons_zero]); (repeat (go_big_quiet_step (fail))); refine wpQuiet_nil ?_)
                go_wp2_with (at_builtin; (refine wpList_append_own _ rfl (.tmp 53) (.tmp 55) 29 rfl wm.heap.size 3 i0 (.int .i64 0) 1 8 Try.underlying29 hi0 hz0 hz1 hz2 rfl (by decide) _ _ _ rfl hown1 ⟨_, 0, none⟩ 1 1 [.int .i64 (k : Int)] rfl (rd_one hK3).1 (rd_one hK3).news (by intro u hu; simp at hu; subst hu; rfl) (by unfold maxLen; omega) (by omega) bw3.size ?_))
                intro v2 w4 hown2 hgr2 _
                go_wp2_with fail
                refine ChainPostP.mk ?_
                have bw4 : Below wm.heap.size wm w4 := own_grownBy hown1 bw3 hgr2 (Nat.le_refl _) bw3.size
                (refine treeW_oneP ?_; (try simp only [List.map_cons]); (try simp only [List.map_nil]); (try simp only [List.getD_cons_succ]); (try simp only [List.getD_cons_zero]); (repeat (go_big_quiet_step (fail))); refine wpQuiet_nil ?_)
                go_wp2_with (at_builtin; (refine wpList_append_own _ rfl (.tmp 56) (.tmp 59) 29 rfl wm.heap.size 3 i0 (.int .i64 0) 1 8 Try.underlying29 hi0 hz0 hz1 hz2 rfl (by decide) _ _ _ rfl hown2 ⟨g, p, none⟩ (k - p) (cap - p) (ints (cl.drop p)) rfl (r2.below bw4).1 (r2.below bw4).news (ints_one _) (by unfold maxLen; omega) (by omega) bw4.size ?_))
                intro v3 w5 hown3 hgr3 _
                go_wp2_with fail
                refine ChainPostP.mk ?_
                have bw5 : Below wm.heap.size wm w5 := own_grownBy hown2 bw4 hgr3 (Nat.le_refl _) bw4.size
                (refine treeW_finP ?_; (try simp only [List.map_cons]); (try simp only [List.map_nil]); (try simp only [List.getD_cons_succ]); (try simp only [List.getD_cons_zero]); (repeat (go_big_quiet_step (fail))); refine wpQuiet_nil ?_)
                replace hown3 := own_list hown3 (show _ = ints (insAt cl (k : Int) p) from by have h9 := HFN.out; simpa [List.append_assoc] using h9)
                have e5 : Below w.heap.size w w5 := bstep (bstep b8 bM) bw5
                have HO5 := Lib.hid (own_weaken (base' := w.heap.size) (own_len (n' := k + 1) hown3 (by omega)) (Nat.le_trans b8.size bM.size))
                have HN3 : Hid (v3 ≠ .slice none 0 0) := Lib.hid fun h => by
                  rcases own_bk HO5.out with ⟨_, h0⟩ | ⟨_, _, _, h1, _⟩
                  · omega
                  · rw [h] at h1; cases h1
                clear hown3 hown2 hown1
                go_wp2_with fail
                go_roundw
                case rel => exact ⟨k + 1, by omega, by go_num, by rw [HFI.out]; exact HO5.out, HN3, e5⟩
                case measure => simp [intOf]; omega
    · obtain rfl : k = n := by omega
      have hll : L.length = k := by rw [← HL2.out]; exact srt_len (by rw [idx_len]; exact Nat.le_refl _)
      rw [HL2.out] at hown
      have HO3 := Lib.hid hown
      have HLL := Lib.hid hll
      clear hown hll
      go_wp2
      go_returns
      exact ⟨_, rfl, by rw [HLL.out]; exact HO3.out, hW⟩
end Go.Proofs.Ythgabapegpndnaa
