/-
  The reference's queue. Conditions: a valid list.
-/
import Derived.Test.YtaekngiejehooaaZG
import Derived.Test.YtaekngiejehooaaMZ
namespace Go.Proofs.Ytaekngiejehooaa
open Go.RowKit
set_option maxRecDepth 100000
set_option maxHeartbeats 4000000

theorem l15Queue_is {L : List Int} {A : Option Addr} {n c : Nat} {zs : List OrderT} (hv : listedB zs 10 = true) (hL : quO zs = L) (w : World) (hr : Rd w 5 A n (ordF zs)) (hl : zs.length = n) :
    Calls Try.prog 58 #[.slice A n c] w fun e w' => ∃ v, e = .returned v ∧ w'.ownsRow w.heap.size 3 1 v n (ints L) ∧ v ≠ .slice none 0 0 ∧ Below w.heap.size w w' := by
  have HV := Lib.hid hv
  have HL2 : Hid (srt (ltO zs) (idx n) n = L) := Lib.hid (by rw [← hL, ← hl]; rfl)
  have hn10 : n ≤ 10 := by have := (listedB_iff.1 hv).2; omega
  clear hL hv
  obtain ⟨i0, hi0, hz0, hz1, hz2⟩ := infoI
  go_enter Try.func58, Try.ntmps58
  go_wp2_with fail
  go_loopw [3, 4] (fun v i wr => ∃ k : Nat, k ≤ n ∧ i = .int .i64 k ∧ wr.ownsRow w.heap.size 3 1 v k (ints (srt (ltO zs) (idx n) k)) ∧ Hid (v ≠ .slice none 0 0) ∧ Below w.heap.size w wr) (fun _ i _ => n - (intOf i).toNat)
  case atStart => exact ⟨0, Nat.zero_le _, rfl, by simpa [srt, ints] using own_lit' (w := w) (t := 3) (k := 1) rfl (Nat.le_refl _), Lib.hid (by simp), by (repeat' (first | (with_reducible exact Below.refl _ _) | (with_reducible assumption) | (with_reducible refine balloc ?_ _) | (with_reducible refine bdrew ?_) | (with_reducible refine bdrewN ?_ _) | (with_reducible refine bstep ?_ (by assumption)) | (with_reducible refine bset ?_ ?_ _) | (exact Below.size (by assumption)) | go_size))⟩
  case round =>
    obtain ⟨k, hk, rfl, hown, HNN, hW⟩ := hrel
    by_cases hlt : k < n
    · have hst := srt_succ (lt := ltO zs) (ds := idx n) (k := k) (by rw [idx_len]; exact hlt)
      have hik : (idx n)[k]'(by rw [idx_len]; exact hlt) = (k : Int) := by simp [idx]
      rw [hik] at hst
      have hmem : ∀ y ∈ srt (ltO zs) (idx n) k, ∃ v : Nat, v < k ∧ y = (v : Int) := fun y hy => by
        have h1 := srt_mem (by rw [idx_len]; omega) hy
        have h2 : (idx n).take k = idx k := by unfold idx; rw [← List.map_take, List.take_range, Nat.min_eq_left (by omega)]
        rw [h2] at h1
        exact idx_mem h1
      have hcl := srt_len (lt := ltO zs) (ds := idx n) (k := k) (by rw [idx_len]; omega)
      obtain ⟨cl, hcle⟩ : ∃ cl, srt (ltO zs) (idx n) k = cl := ⟨_, rfl⟩
      rw [hcle] at hown hst hmem hcl
      rcases own_bk hown with ⟨hv, _⟩ | ⟨g, cap, cs, rfl, hb, hB, h1, h2, h3, h4⟩
      · exact absurd hv HNN.out
      obtain ⟨b, off, rfl, hbl, x0, x1, x2, x3, x4, hx, z0, z1, z2, z3, z4⟩ := ord_at hr (Below.refl w.heap.size w) hl hlt
      have HZ0 := Lib.hid z0
      have HZ1 := Lib.hid z1
      have HZ2 := Lib.hid z2
      have HZ3 := Lib.hid z3
      have HZ4 := Lib.hid z4
      have HXK := Lib.hid hx
      have HST := Lib.hid hst
      have HM := Lib.hid hmem
      have HCL := Lib.hid hcl
      have HO3 := Lib.hid hown
      have hro : Rd wr 1 (some ⟨g, 0, none⟩) k (ints cl) := own_r hown
      have HRO := Lib.hid hro
      have hgl : g < wr.heap.size := hB.lt
      obtain ⟨wo, rfl⟩ : ∃ wo, wo = wr := ⟨_, rfl⟩
      have i3 : (k : Int) < (n : Int) := by omega
      have i4 : (0 : Int) ≤ (k : Int) := by omega
      clear hst hmem hcl hown hro hx hcle hB h3 h4 z0 z1 z2 z3 z4
      go_wp2_with fail
      go_loopw [5] (fun j wr => ∃ p : Nat, p ≤ k ∧ j = .int .i64 p ∧ Hid (back (ltO zs) (k : Int) cl p = back (ltO zs) (k : Int) cl k) ∧ Below wo.heap.size wo wr) (fun j _ => (intOf j).toNat)
      case atStart => exact ⟨k, Nat.le_refl _, rfl, Lib.hid rfl, Below.refl _ _⟩
      case round =>
        obtain ⟨p, hp, rfl, HBK, hW2⟩ := hrel
        have hWW := bstep hW hW2
        have c0 := (hWW.cell (p := ⟨b, off + k * 5, none⟩) hbl).trans HZ0.out
        have c1 := (hWW.cell (p := ⟨b, off + k * 5 + 1, none⟩) hbl).trans HZ1.out
        have c2 := (hWW.cell (p := ⟨b, off + k * 5 + 2, none⟩) hbl).trans HZ2.out
        have c3 := (hWW.cell (p := ⟨b, off + k * 5 + 3, none⟩) hbl).trans HZ3.out
        have c4 := (hWW.cell (p := ⟨b, off + k * 5 + 4, none⟩) hbl).trans HZ4.out
        have s1 : b < wr.heap.size := Nat.lt_of_lt_of_le hbl hWW.size
        by_cases hgo : 0 < p ∧ ∃ (h : p - 1 < cl.length), ltO zs (k : Int) cl[p - 1] = true
        · obtain ⟨h0, h1', hgt⟩ := hgo
          obtain ⟨p', hp'⟩ : ∃ p', p = p' + 1 := ⟨p - 1, by omega⟩
          have hpl : p' < cl.length := by have := HCL.out; omega
          obtain ⟨y0, hy0⟩ : ∃ y, cl[p'] = y := ⟨_, rfl⟩
          obtain ⟨v, hv, rfl⟩ := HM.out y0 (hy0 ▸ List.getElem_mem _)
          obtain ⟨b6, off6, y6, hA6, hbl6, hg6, z6⟩ := ints_at HRO.out hW2 HCL.out (k := p') (by omega)
          simp only [Option.some.injEq, Addr.mk.injEq, and_true] at hA6
          obtain ⟨rfl, rfl⟩ := hA6
          obtain rfl : y6 = (v : Int) := hg6.symm.trans hy0
          simp only [Nat.zero_add] at z6
          have s6 : g < wr.heap.size := Nat.lt_of_lt_of_le hbl6 hW2.size
          obtain ⟨b', off', hbe, hbl', y0, y1, y2, y3, y4, hy, d0, d1, d2, d3, d4⟩ := ord_at hr hWW hl (k := v) (by omega)
          simp only [Option.some.injEq, Addr.mk.injEq, and_true] at hbe
          obtain ⟨rfl, rfl⟩ := hbe
          have hlt3 := lst_lt2 HV.out hv (by omega)
          rw [HXK.out, hy] at hlt3
          have hlt9 : ltO zs (k : Int) (v : Int) = befO (x0, x1, x2, x3, x4) (y0, y1, y2, y3, y4) := ltO_bef (by omega) (by omega) HXK.out hy hlt3
          obtain ⟨bv, hbv⟩ : ∃ bv, befO (x0, x1, x2, x3, x4) (y0, y1, y2, y3, y4) = bv := ⟨_, rfl⟩
          have HS2 := fun V => l15Before_is (x1 := x1) (y1 := y1) hbv V
          rw [hbv] at hlt9
          have HLT := Lib.hid hlt9
          have HY0 := Lib.hid hy0
          have HPP := Lib.hid hp'
          have hwrp : IntKind.i64.wrap ((p : Int) - 1) = (p' : Int) := by rw [i64_wrap (by omega) (by omega)]; omega
          have i5 : (0 : Int) ≤ (p' : Int) := by omega
          have i6 : (p' : Int) < (k : Int) := by omega
          have i7 : (0 : Int) ≤ (v : Int) := by omega
          have i8 : (v : Int) < (n : Int) := by omega
          have hd0 : decide (0 < p) = true := decide_eq_true (by omega)
          clear hy hg6 hlt3 hbv
          have hp1 : p - 1 = p' := by have := HPP.out; omega
          simp only [hp1, HY0.out] at hgt
          have hbk := back_yes (lt := ltO zs) (x := (k : Int)) (xs := cl) hpl (by rw [HY0.out]; exact hgt)
          rw [HLT.out] at hgt
          obtain rfl : bv = true := hgt
          rw [← HPP.out] at hbk
          have HB2 := Lib.hid hbk
          clear hbk hp1 hlt9 hp'
          go_wp2
          (refine wp_region_bel (by kernel_rfl) (by kernel_rfl) ?_; (repeat (go_big_quiet_step ((first | (go_at_call 67; exact calls_bel (HS2 _)))))); refine wpQuiet_nil ?_; intro w' hw'; have hb := below_of hw'; clear hw'; (try clear cW fW zW); (first | (have bW := bstep bW hb) | (have bW := bstep (bdrew bW) hb) | (have bW := bstep (balloc bW _) hb) | (have bW := bstep (bdrewN bW _) hb) | (have bW := hb)); clear hb; obtain ⟨cW, fW⟩ := bcell bW; have zW := bsize bW)
          go_wp2
          go_roundw
          case rel => exact ⟨p', by have := HPP.out; omega, by go_num, Lib.hid (by rw [← HB2.out]; exact HBK.out), bstep hW2 bW⟩
          case measure => have := HPP.out; simp [intOf]; omega
        · have hbp : back (ltO zs) (k : Int) cl p = p := by
            rcases Nat.eq_zero_or_pos p with h0 | h0
            · rw [h0]; rfl
            · have hpl := HCL.out
              have e : back (ltO zs) (k : Int) cl (p - 1 + 1) = p - 1 + 1 := back_no (by omega) (by
                rw [Bool.eq_false_iff]
                exact fun h => hgo ⟨h0, by omega, h⟩)
              rwa [show p - 1 + 1 = p from by omega] at e
          have hfi : srt (ltO zs) (idx n) (k + 1) = insAt cl (k : Int) p := by
            rw [HST.out]; unfold ins; rw [HCL.out, ← HBK.out, hbp]
          have HFI := Lib.hid hfi
          have hgo2 : Hid (∀ (h : p - 1 < cl.length), 0 < p → ltO zs (k : Int) cl[p - 1] = false) := Lib.hid fun h h0 => by
            rw [Bool.eq_false_iff]
            exact fun h1 => hgo ⟨h0, h, h1⟩
          clear hfi hbp hgo
          rcases Nat.eq_zero_or_pos p with h0 | h0
          case' inl =>
            have hd0 : decide (0 < p) = false := decide_eq_false (by omega)
            have H0 := Lib.hid h0
            clear h0
          case' inr =>
            obtain ⟨p', hp'⟩ : ∃ p', p = p' + 1 := ⟨p - 1, by omega⟩
            have hpl : p' < cl.length := by have := HCL.out; omega
            obtain ⟨y0, hy0⟩ : ∃ y, cl[p'] = y := ⟨_, rfl⟩
            obtain ⟨v, hv, rfl⟩ := HM.out y0 (hy0 ▸ List.getElem_mem _)
            obtain ⟨b6, off6, y6, hA6, hbl6, hg6, z6⟩ := ints_at HRO.out hW2 HCL.out (k := p') (by omega)
            simp only [Option.some.injEq, Addr.mk.injEq, and_true] at hA6
            obtain ⟨rfl, rfl⟩ := hA6
            obtain rfl : y6 = (v : Int) := hg6.symm.trans hy0
            simp only [Nat.zero_add] at z6
            have s6 : g < wr.heap.size := Nat.lt_of_lt_of_le hbl6 hW2.size
            obtain ⟨b', off', hbe, hbl', y0, y1, y2, y3, y4, hy, d0, d1, d2, d3, d4⟩ := ord_at hr hWW hl (k := v) (by omega)
            simp only [Option.some.injEq, Addr.mk.injEq, and_true] at hbe
            obtain ⟨rfl, rfl⟩ := hbe
            have hlt3 := lst_lt2 HV.out hv (by omega)
            rw [HXK.out, hy] at hlt3
            have hlt9 : ltO zs (k : Int) (v : Int) = befO (x0, x1, x2, x3, x4) (y0, y1, y2, y3, y4) := ltO_bef (by omega) (by omega) HXK.out hy hlt3
            obtain ⟨bv, hbv⟩ : ∃ bv, befO (x0, x1, x2, x3, x4) (y0, y1, y2, y3, y4) = bv := ⟨_, rfl⟩
            have HS2 := fun V => l15Before_is (x1 := x1) (y1 := y1) hbv V
            rw [hbv] at hlt9
            have HLT := Lib.hid hlt9
            have HY0 := Lib.hid hy0
            have HPP := Lib.hid hp'
            have hwrp : IntKind.i64.wrap ((p : Int) - 1) = (p' : Int) := by rw [i64_wrap (by omega) (by omega)]; omega
            have i5 : (0 : Int) ≤ (p' : Int) := by omega
            have i6 : (p' : Int) < (k : Int) := by omega
            have i7 : (0 : Int) ≤ (v : Int) := by omega
            have i8 : (v : Int) < (n : Int) := by omega
            have hd0 : decide (0 < p) = true := decide_eq_true (by omega)
            clear hy hg6 hlt3 hbv
            have hgt : bv = false := by
              rw [← HLT.out]
              have hp1 : p - 1 = p' := by have := HPP.out; omega
              have h9 := hgo2.out (by omega) h0
              simp only [hp1, HY0.out] at h9
              exact h9
            subst hgt
            clear hlt9 hp' h0
          all_goals
            go_wp2
            (refine wp_region_bel (by kernel_rfl) (by kernel_rfl) ?_; (repeat (go_big_quiet_step ((first | (go_at_call 67; exact calls_bel (HS2 _)))))); refine wpQuiet_nil ?_; intro w' hw'; have hb := below_of hw'; clear hw'; (try clear cW fW zW); (first | (have bW := bstep bW hb) | (have bW := bstep (bdrew bW) hb) | (have bW := bstep (balloc bW _) hb) | (have bW := bstep (bdrewN bW _) hb) | (have bW := hb)); clear hb; obtain ⟨cW, fW⟩ := bcell bW; have zW := bsize bW)
            have b9 := bstep hW2 bW
            have b8 := bstep hW b9
            have hr' := HRO.out.below b9
            have hcl := HCL.out
            clear cW fW zW c0 c1 c2 c3 c4 s1
            by_cases hpc : p = cap
            · have hkp : k = p := by omega
              have e7 : cl.drop p = [] := List.drop_of_length_le (by omega)
              have hfin : ints (cl.take p) ++ [.int .i64 (k : Int)] ++ [] = ints (insAt cl (k : Int) p) := by rw [ins_ints, e7]; rfl
              have HFN := Lib.hid hfin
              clear hfin e7
              subst hpc
              subst hkp
              have r1 := Rd.take1 (p := k) hr' hcl (Nat.le_refl _)
              have i5 : ((k : Nat) : Int) ≤ ((k : Nat) : Int) := Int.le_refl _
              have i6 : (0 : Int) ≤ ((k : Nat) : Int) := by omega
              clear hr'
              go_wp2_with fail
              refine wp_region_treeP (.two [1, 2, 3, 5, 8, 9, 10] 0 (.two [] 4 (.one [] 6 (.one [] 7 (.one [] 11 (.fin [12])))) 6 (.one [] 4 (.one [] 7 (.one [] 11 (.fin [12]))))) 6 (.one [] 0 (.one [] 4 (.one [] 7 (.one [] 11 (.fin [12])))))) (by kernel_rfl) (by kernel_rfl) ?_
              have bM : Below w'.heap.size w' w'.drew := bdrew (Below.refl _ _)
              have r1 := r1.below bM
              generalize w'.drew = wm at r1 bM ⊢
              have bm : Below wm.heap.size wm wm := Below.refl _ _
              (refine treeW_twoP ?_; (try simp only [List.map_cons]); (try simp only [List.map_nil]); (try simp only [List.getD_cons_succ]); (try simp only [List.getD_cons_zero]); (repeat (go_big_quiet_step (fail))); refine wpQuiet_nil ?_; refine ⟨?_, ?_⟩)
              · go_wp2_with fail
                refine ChainPostP.mk ?_
                have hL : (wm.alloc (.cells #[] 3)).ownsRow wm.heap.size 3 1 (.slice (some ⟨wm.heap.size, 0, none⟩) 0 0) 0 [] := own_lit' rfl bm.size
                have bwA : Below wm.heap.size wm (wm.alloc (.cells #[] 3)) := balloc bm _
                generalize wm.alloc (.cells #[] 3) = wA at hL bwA ⊢
                (refine treeW_twoP ?_; (try simp only [List.map_cons]); (try simp only [List.map_nil]); (try simp only [List.getD_cons_succ]); (try simp only [List.getD_cons_zero]); (repeat (go_big_quiet_step (fail))); refine wpQuiet_nil ?_; refine ⟨?_, ?_⟩)
                · go_wp2_with (at_builtin; (refine wpList_append_own _ rfl (.tmp 34) (.tmp 37) 49 rfl wm.heap.size 3 i0 (.int .i64 0) 1 8 Try.underlying49 hi0 hz0 hz1 hz2 rfl (by decide) _ _ _ rfl hL ⟨g, 0, none⟩ k k (ints (cl.take k)) rfl (r1.below bwA).1 (r1.below bwA).news (ints_one _) (by unfold maxLen; omega) (by omega) bwA.size ?_))
                  intro v1 w3 hown1 hgr1 _
                  go_wp2_with fail
                  refine ChainPostP.mk ?_
                  have bw3 : Below wm.heap.size wm w3 := own_grownBy hL bwA hgr1 (Nat.le_refl _) bwA.size
                  (try simp only [Nat.zero_add, List.nil_append] at hown1)
                  (refine treeW_oneP ?_; (try simp only [List.map_cons]); (try simp only [List.map_nil]); (try simp only [List.getD_cons_succ]); (try simp only [List.getD_cons_zero]); (repeat (go_big_quiet_step (fail))); refine wpQuiet_nil ?_)
                  go_wp2_with fail
                  refine ChainPostP.mk ?_
                  have hK : Bk (w3.alloc (.cells #[.int .i64 (k : Int)] 3)) w3.heap.size 3 [.int .i64 (k : Int)] := Bk.new' rfl
                  have bwB : Below wm.heap.size wm (w3.alloc (.cells #[.int .i64 (k : Int)] 3)) := balloc bw3 _
                  have hown1B := own_alloc hown1 (.cells #[.int .i64 (k : Int)] 3)
                  generalize w3.alloc (.cells #[.int .i64 (k : Int)] 3) = wB at hK bwB hown1B ⊢
                  (refine treeW_oneP ?_; (try simp only [List.map_cons]); (try simp only [List.map_nil]); (try simp only [List.getD_cons_succ]); (try simp only [List.getD_cons_zero]); (repeat (go_big_quiet_step (fail))); refine wpQuiet_nil ?_)
                  go_wp2_with (at_builtin; (refine wpList_append_own _ rfl (.tmp 38) (.tmp 40) 49 rfl wm.heap.size 3 i0 (.int .i64 0) 1 8 Try.underlying49 hi0 hz0 hz1 hz2 rfl (by decide) _ _ _ rfl hown1B ⟨_, 0, none⟩ 1 1 [.int .i64 (k : Int)] rfl (rd_one hK).1 (rd_one hK).news (by intro u hu; simp at hu; subst hu; rfl) (by unfold maxLen; omega) (by omega) bwB.size ?_))
                  intro v2 w4 hown2 hgr2 _
                  go_wp2_with fail
                  refine ChainPostP.mk ?_
                  have bw4 : Below wm.heap.size wm w4 := own_grownBy hown1B bwB hgr2 (Nat.le_refl _) bwB.size
                  (refine treeW_oneP ?_; (try simp only [List.map_cons]); (try simp only [List.map_nil]); (try simp only [List.getD_cons_succ]); (try simp only [List.getD_cons_zero]); (repeat (go_big_quiet_step (fail))); refine wpQuiet_nil ?_)
                  go_wp2_with (at_builtin; (refine wpList_append_own _ rfl (.tmp 41) (.tmp 44) 49 rfl wm.heap.size 3 i0 (.int .i64 0) 1 8 Try.underlying49 hi0 hz0 hz1 hz2 rfl (by decide) _ _ _ rfl hown2 ⟨g, 0, none⟩ 0 0 [] rfl ((Rd.nil_ : Rd w4 1 (some ⟨g, 0, none⟩) 0 [])).1 ((Rd.nil_ : Rd w4 1 (some ⟨g, 0, none⟩) 0 [])).news (by simp) (by unfold maxLen; omega) (by omega) bw4.size ?_))
                  intro v3 w5 hown3 hgr3 _
                  go_wp2_with fail
                  refine ChainPostP.mk ?_
                  have bw5 : Below wm.heap.size wm w5 := own_grownBy hown2 bw4 hgr3 (Nat.le_refl _) bw4.size
                  (refine treeW_finP ?_; (try simp only [List.map_cons]); (try simp only [List.map_nil]); (try simp only [List.getD_cons_succ]); (try simp only [List.getD_cons_zero]); (repeat (go_big_quiet_step (fail))); refine wpQuiet_nil ?_)
                  replace hown3 := own_list hown3 (show _ = ints (insAt cl (k : Int) k) from by have h9 := HFN.out; simpa [List.append_assoc] using h9)
                  have e5 : Below w.heap.size w w5 := bstep (bstep b8 bM) bw5
                  have HO5 := Lib.hid (own_weaken (base' := w.heap.size) (own_len (n' := k + 1) hown3 (by omega)) (Nat.le_trans b8.size bM.size))
                  have HN3 : Hid (v3 ≠ .slice none 0 0) := Lib.hid fun h => by
                    rcases own_bk HO5.out with ⟨_, h0⟩ | ⟨_, _, _, h1, _⟩
                    · omega
                    · rw [h] at h1; cases h1
                  clear hown3 hown2 hown1
                  go_wp2_with fail
                  go_roundw
                  case rel => exact ⟨k + 1, by omega, by go_num, by rw [HFI.out]; exact HO5.out, HN3, e5⟩
                  case measure => simp [intOf]; omega
                · go_wp2_with fail
                  have hne : ¬ wA.heap.size = wm.heap.size := by have := (hL.lt wm.heap.size rfl).2; omega
                  refine ChainPostP.mk ?_
                  have hK : Bk (wA.alloc (.cells #[.int .i64 (k : Int)] 3)) wA.heap.size 3 [.int .i64 (k : Int)] := Bk.new' rfl
                  have bwB : Below wm.heap.size wm (wA.alloc (.cells #[.int .i64 (k : Int)] 3)) := balloc bwA _
                  have hLB := own_alloc hL (.cells #[.int .i64 (k : Int)] 3)
                  generalize wA.alloc (.cells #[.int .i64 (k : Int)] 3) = wB at hK bwB hLB ⊢
                  (refine treeW_oneP ?_; (try simp only [List.map_cons]); (try simp only [List.map_nil]); (try simp only [List.getD_cons_succ]); (try simp only [List.getD_cons_zero]); (repeat (go_big_quiet_step (fail))); refine wpQuiet_nil ?_)
                  go_wp2_with (at_builtin; (refine wpList_append_own _ rfl (.tmp 34) (.tmp 37) 49 rfl wm.heap.size 3 i0 (.int .i64 0) 1 8 Try.underlying49 hi0 hz0 hz1 hz2 rfl (by decide) _ _ _ rfl hLB ⟨g, 0, none⟩ k k (ints (cl.take k)) rfl (r1.below bwB).1 (r1.below bwB).news (ints_one _) (by unfold maxLen; omega) (by omega) bwB.size ?_))
                  intro v1 w3 hown1 hgr1 _
                  go_wp2_with fail
                  refine ChainPostP.mk ?_
                  have bw3 : Below wm.heap.size wm w3 := own_grownBy hLB bwB hgr1 (Nat.le_refl _) bwB.size
                  (try simp only [Nat.zero_add, List.nil_append] at hown1)
                  have hK3 := hK.grown hgr1 (by simp [Value.ownBlock]; omega)
                  (refine treeW_oneP ?_; (try simp only [List.map_cons]); (try simp only [List.map_nil]); (try simp only [List.getD_cons_succ]); (try simp only [List.getD_cons_zero]); (repeat (go_big_quiet_step (fail))); refine wpQuiet_nil ?_)
                  go_wp2_with (at_builtin; (refine wpList_append_own _ rfl (.tmp 38) (.tmp 40) 49 rfl wm.heap.size 3 i0 (.int .i64 0) 1 8 Try.underlying49 hi0 hz0 hz1 hz2 rfl (by decide) _ _ _ rfl hown1 ⟨_, 0, none⟩ 1 1 [.int .i64 (k : Int)] rfl (rd_one hK3).1 (rd_one hK3).news (by intro u hu; simp at hu; subst hu; rfl) (by unfold maxLen; omega) (by omega) bw3.size ?_))
                  intro v2 w4 hown2 hgr2 _
                  go_wp2_with fail
                  refine ChainPostP.mk ?_
                  have bw4 : Below wm.heap.size wm w4 := own_grownBy hown1 bw3 hgr2 (Nat.le_refl _) bw3.size
                  (refine treeW_oneP ?_; (try simp only [List.map_cons]); (try simp only [List.map_nil]); (try simp only [List.getD_cons_succ]); (try simp only [List.getD_cons_zero]); (repeat (go_big_quiet_step (fail))); refine wpQuiet_nil ?_)
                  go_wp2_with (at_builtin; (refine wpList_append_own _ rfl (.tmp 41) (.tmp 44) 49 rfl wm.heap.size 3 i0 (.int .i64 0) 1 8 Try.underlying49 hi0 hz0 hz1 hz2 rfl (by decide) _ _ _ rfl hown2 ⟨g, 0, none⟩ 0 0 [] rfl ((Rd.nil_ : Rd w4 1 (some ⟨g, 0, none⟩) 0 [])).1 ((Rd.nil_ : Rd w4 1 (some ⟨g, 0, none⟩) 0 [])).news (by simp) (by unfold maxLen; omega) (by omega) bw4.size ?_))
                  intro v3 w5 hown3 hgr3 _
                  go_wp2_with fail
                  refine ChainPostP.mk ?_
                  have bw5 : Below wm.heap.size wm w5 := own_grownBy hown2 bw4 hgr3 (Nat.le_refl _) bw4.size
                  (refine treeW_finP ?_; (try simp only [List.map_cons]); (try simp only [List.map_nil]); (try simp only [List.getD_cons_succ]); (try simp only [List.getD_cons_zero]); (repeat (go_big_quiet_step (fail))); refine wpQuiet_nil ?_)
                  replace hown3 := own_list hown3 (show _ = ints (insAt cl (k : Int) k) from by have h9 := HFN.out; simpa [List.append_assoc] using h9)
                  have e5 : Below w.heap.size w w5 := bstep (bstep b8 bM) bw5
                  have HO5 := Lib.hid (own_weaken (base' := w.heap.size) (own_len (n' := k + 1) hown3 (by omega)) (Nat.le_trans b8.size bM.size))
                  have HN3 : Hid (v3 ≠ .slice none 0 0) := Lib.hid fun h => by
                    rcases own_bk HO5.out with ⟨_, h0⟩ | ⟨_, _, _, h1, _⟩
                    · omega
                    · rw [h] at h1; cases h1
                  clear hown3 hown2 hown1
                  go_wp2_with fail
                  go_roundw
                  case rel => exact ⟨k + 1, by omega, by go_num, by rw [HFI.out]; exact HO5.out, HN3, e5⟩
                  case measure => simp [intOf]; omega
              · go_wp2_with fail
                refine ChainPostP.mk ?_
                have hK : Bk (wm.alloc (.cells #[.int .i64 (k : Int)] 3)) wm.heap.size 3 [.int .i64 (k : Int)] := Bk.new' rfl
                have bwA : Below wm.heap.size wm (wm.alloc (.cells #[.int .i64 (k : Int)] 3)) := balloc bm _
                generalize wm.alloc (.cells #[.int .i64 (k : Int)] 3) = wA at hK bwA ⊢
                have hne : ¬ wA.heap.size = wm.heap.size := by have := hK.lt; omega
                (refine treeW_oneP ?_; (try simp only [List.map_cons]); (try simp only [List.map_nil]); (try simp only [List.getD_cons_succ]); (try simp only [List.getD_cons_zero]); (repeat (go_big_quiet_step (fail))); refine wpQuiet_nil ?_)
                go_wp2_with fail
                refine ChainPostP.mk ?_
                have hL : (wA.alloc (.cells #[] 3)).ownsRow wm.heap.size 3 1 (.slice (some ⟨wA.heap.size, 0, none⟩) 0 0) 0 [] := own_lit' rfl bwA.size
                have bwB : Below wm.heap.size wm (wA.alloc (.cells #[] 3)) := balloc bwA _
                have hK2 := hK.alloc (.cells #[] 3)
                generalize wA.alloc (.cells #[] 3) = wB at hL bwB hK2 ⊢
                (refine treeW_oneP ?_; (try simp only [List.map_cons]); (try simp only [List.map_nil]); (try simp only [List.getD_cons_succ]); (try simp only [List.getD_cons_zero]); (repeat (go_big_quiet_step (fail))); refine wpQuiet_nil ?_)
                go_wp2_with (at_builtin; (refine wpList_append_own _ rfl (.tmp 34) (.tmp 37) 49 rfl wm.heap.size 3 i0 (.int .i64 0) 1 8 Try.underlying49 hi0 hz0 hz1 hz2 rfl (by decide) _ _ _ rfl hL ⟨g, 0, none⟩ k k (ints (cl.take k)) rfl (r1.below bwB).1 (r1.below bwB).news (ints_one _) (by unfold maxLen; omega) (by omega) bwB.size ?_))
                intro v1 w3 hown1 hgr1 _
                go_wp2_with fail
                refine ChainPostP.mk ?_
                have bw3 : Below wm.heap.size wm w3 := own_grownBy hL bwB hgr1 (Nat.le_refl _) bwB.size
                (try simp only [Nat.zero_add, List.nil_append] at hown1)
                have hK3 := hK2.grown hgr1 (by simp [Value.ownBlock]; omega)
                (refine treeW_oneP ?_; (try simp only [List.map_cons]); (try simp only [List.map_nil]); (try simp only [List.getD_cons_succ]); (try simp only [List.getD_cons_zero]); (repeat (go_big_quiet_step (fail))); refine wpQuiet_nil ?_)
                go_wp2_with (at_builtin; (refine wpList_append_own _ rfl (.tmp 38) (.tmp 40) 49 rfl wm.heap.size 3 i0 (.int .i64 0) 1 8 Try.underlying49 hi0 hz0 hz1 hz2 rfl (by decide) _ _ _ rfl hown1 ⟨_, 0, none⟩ 1 1 [.int .i64 (k : Int)] rfl (rd_one hK3).1 (rd_one hK3).news (by intro u hu; simp at hu; subst hu; rfl) (by unfold maxLen; omega) (by omega) bw3.size ?_))
                intro v2 w4 hown2 hgr2 _
                go_wp2_with fail
                refine ChainPostP.mk ?_
                have bw4 : Below wm.heap.size wm w4 := own_grownBy hown1 bw3 hgr2 (Nat.le_refl _) bw3.size
                (refine treeW_oneP ?_; (try simp only [List.map_cons]); (try simp only [List.map_nil]); (try simp only [List.getD_cons_succ]); (try simp only [List.getD_cons_zero]); (repeat (go_big_quiet_step (fail))); refine wpQuiet_nil ?_)
                go_wp2_with (at_builtin; (refine wpList_append_own _ rfl (.tmp 41) (.tmp 44) 49 rfl wm.heap.size 3 i0 (.int .i64 0) 1 8 Try.underlying49 hi0 hz0 hz1 hz2 rfl (by decide) _ _ _ rfl hown2 ⟨g, 0, none⟩ 0 0 [] rfl ((Rd.nil_ : Rd w4 1 (some ⟨g, 0, none⟩) 0 [])).1 ((Rd.nil_ : Rd w4 1 (some ⟨g, 0, none⟩) 0 [])).news (by simp) (by unfold maxLen; omega) (by omega) bw4.size ?_))
                intro v3 w5 hown3 hgr3 _
                go_wp2_with fail
                refine ChainPostP.mk ?_
                have bw5 : Below wm.heap.size wm w5 := own_grownBy hown2 bw4 hgr3 (Nat.le_refl _) bw4.size
                (refine treeW_finP ?_; (try simp only [List.map_cons]); (try simp only [List.map_nil]); (try simp only [List.getD_cons_succ]); (try simp only [List.getD_cons_zero]); (repeat (go_big_quiet_step (fail))); refine wpQuiet_nil ?_)
                replace hown3 := own_list hown3 (show _ = ints (insAt cl (k : Int) k) from by have h9 := HFN.out; simpa [List.append_assoc] using h9)
                have e5 : Below w.heap.size w w5 := bstep (bstep b8 bM) bw5
                have HO5 := Lib.hid (own_weaken (base' := w.heap.size) (own_len (n' := k + 1) hown3 (by omega)) (Nat.le_trans b8.size bM.size))
                have HN3 : Hid (v3 ≠ .slice none 0 0) := Lib.hid fun h => by
                  rcases own_bk HO5.out with ⟨_, h0⟩ | ⟨_, _, _, h1, _⟩
                  · omega
                  · rw [h] at h1; cases h1
                clear hown3 hown2 hown1
                go_wp2_with fail
                go_roundw
                case rel => exact ⟨k + 1, by omega, by go_num, by rw [HFI.out]; exact HO5.out, HN3, e5⟩
                case measure => simp [intOf]; omega
            · have r1 := Rd.take1 (p := p) hr' hcl (by omega)
              have r2 := Rd.drop1 (p := p) hr' hcl (by omega) p (fun _ => by omega)
              have hfin : ints (cl.take p) ++ [.int .i64 (k : Int)] ++ ints (cl.drop p) = ints (insAt cl (k : Int) p) := by rw [ins_ints]
              have HFN := Lib.hid hfin
              clear hfin hr'
              have i5 : ((p : Nat) : Int) ≤ (cap : Int) := by omega
              have i7 : ((p : Nat) : Int) ≤ (k : Int) := by omega
              have i8 : (k : Int) ≤ (cap : Int) := by omega
              have i6 : (0 : Int) ≤ ((p : Nat) : Int) := by omega
              go_wp2_with fail
              refine wp_region_treeP (.two [1, 2, 3, 5, 8, 9, 10] 0 (.two [] 4 (.one [] 6 (.one [] 7 (.one [] 11 (.fin [12])))) 6 (.one [] 4 (.one [] 7 (.one [] 11 (.fin [12]))))) 6 (.one [] 0 (.one [] 4 (.one [] 7 (.one [] 11 (.fin [12])))))) (by kernel_rfl) (by kernel_rfl) ?_
              have bM : Below w'.heap.size w' w'.drew := bdrew (Below.refl _ _)
              have r1 := r1.below bM
              have r2 := r2.below bM
              generalize w'.drew = wm at r1 r2 bM ⊢
              have bm : Below wm.heap.size wm wm := Below.refl _ _
              (refine treeW_twoP ?_; (try simp only [List.map_cons]); (try simp only [List.map_nil]); (try simp only [List.getD_cons_succ]); (try simp only [List.getD_cons_zero]); (repeat (go_big_quiet_step (fail))); refine wpQuiet_nil ?_; refine ⟨?_, ?_⟩)
              · go_wp2_with fail
                refine ChainPostP.mk ?_
                have hL : (wm.alloc (.cells #[] 3)).ownsRow wm.heap.size 3 1 (.slice (some ⟨wm.heap.size, 0, none⟩) 0 0) 0 [] := own_lit' rfl bm.size
                have bwA : Below wm.heap.size wm (wm.alloc (.cells #[] 3)) := balloc bm _
                generalize wm.alloc (.cells #[] 3) = wA at hL bwA ⊢
                (refine treeW_twoP ?_; (try simp only [List.map_cons]); (try simp only [List.map_nil]); (try simp only [List.getD_cons_succ]); (try simp only [List.getD_cons_zero]); (repeat (go_big_quiet_step (fail))); refine wpQuiet_nil ?_; refine ⟨?_, ?_⟩)
                · go_wp2_with (at_builtin; (refine wpList_append_own _ rfl (.tmp 34) (.tmp 37) 49 rfl wm.heap.size 3 i0 (.int .i64 0) 1 8 Try.underlying49 hi0 hz0 hz1 hz2 rfl (by decide) _ _ _ rfl hL ⟨g, 0, none⟩ p cap (ints (cl.take p)) rfl (r1.below bwA).1 (r1.below bwA).news (ints_one _) (by unfold maxLen; omega) (by omega) bwA.size ?_))
                  intro v1 w3 hown1 hgr1 _
                  go_wp2_with fail
                  refine ChainPostP.mk ?_
                  have bw3 : Below wm.heap.size wm w3 := own_grownBy hL bwA hgr1 (Nat.le_refl _) bwA.size
                  (try simp only [Nat.zero_add, List.nil_append] at hown1)
                  (refine treeW_oneP ?_; (try simp only [List.map_cons]); (try simp only [List.map_nil]); (try simp only [List.getD_cons_succ]); (try simp only [List.getD_cons_zero]); (repeat (go_big_quiet_step (fail))); refine wpQuiet_nil ?_)
                  go_wp2_with fail
                  refine ChainPostP.mk ?_
                  have hK : Bk (w3.alloc (.cells #[.int .i64 (k : Int)] 3)) w3.heap.size 3 [.int .i64 (k : Int)] := Bk.new' rfl
                  have bwB : Below wm.heap.size wm (w3.alloc (.cells #[.int .i64 (k : Int)] 3)) := balloc bw3 _
                  have hown1B := own_alloc hown1 (.cells #[.int .i64 (k : Int)] 3)
                  generalize w3.alloc (.cells #[.int .i64 (k : Int)] 3) = wB at hK bwB hown1B ⊢
                  (refine treeW_oneP ?_; (try simp only [List.map_cons]); (try simp only [List.map_nil]); (try simp only [List.getD_cons_succ]); (try simp only [List.getD_cons_zero]); (repeat (go_big_quiet_step (fail))); refine wpQuiet_nil ?_)
                  go_wp2_with (at_builtin; (refine wpList_append_own _ rfl (.tmp 38) (.tmp 40) 49 rfl wm.heap.size 3 i0 (.int .i64 0) 1 8 Try.underlying49 hi0 hz0 hz1 hz2 rfl (by decide) _ _ _ rfl hown1B ⟨_, 0, none⟩ 1 1 [.int .i64 (k : Int)] rfl (rd_one hK).1 (rd_one hK).news (by intro u hu; simp at hu; subst hu; rfl) (by unfold maxLen; omega) (by omega) bwB.size ?_))
                  intro v2 w4 hown2 hgr2 _
                  go_wp2_with fail
                  refine ChainPostP.mk ?_
                  have bw4 : Below wm.heap.size wm w4 := own_grownBy hown1B bwB hgr2 (Nat.le_refl _) bwB.size
                  (refine treeW_oneP ?_; (try simp only [List.map_cons]); (try simp only [List.map_nil]); (try simp only [List.getD_cons_succ]); (try simp only [List.getD_cons_zero]); (repeat (go_big_quiet_step (fail))); refine wpQuiet_nil ?_)
                  go_wp2_with (at_builtin; (refine wpList_append_own _ rfl (.tmp 41) (.tmp 44) 49 rfl wm.heap.size 3 i0 (.int .i64 0) 1 8 Try.underlying49 hi0 hz0 hz1 hz2 rfl (by decide) _ _ _ rfl hown2 ⟨g, p, none⟩ (k - p) (cap - p) (ints (cl.drop p)) rfl (r2.below bw4).1 (r2.below bw4).news (ints_one _) (by unfold maxLen; omega) (by omega) bw4.size ?_))
                  intro v3 w5 hown3 hgr3 _
                  go_wp2_with fail
                  refine ChainPostP.mk ?_
                  have bw5 : Below wm.heap.size wm w5 := own_grownBy hown2 bw4 hgr3 (Nat.le_refl _) bw4.size
                  (refine treeW_finP ?_; (try simp only [List.map_cons]); (try simp only [List.map_nil]); (try simp only [List.getD_cons_succ]); (try simp only [List.getD_cons_zero]); (repeat (go_big_quiet_step (fail))); refine wpQuiet_nil ?_)
                  replace hown3 := own_list hown3 (show _ = ints (insAt cl (k : Int) p) from by have h9 := HFN.out; simpa [List.append_assoc] using h9)
                  have e5 : Below w.heap.size w w5 := bstep (bstep b8 bM) bw5
                  have HO5 := Lib.hid (own_weaken (base' := w.heap.size) (own_len (n' := k + 1) hown3 (by omega)) (Nat.le_trans b8.size bM.size))
                  have HN3 : Hid (v3 ≠ .slice none 0 0) := Lib.hid fun h => by
                    rcases own_bk HO5.out with ⟨_, h0⟩ | ⟨_, _, _, h1, _⟩
                    · omega
                    · rw [h] at h1; cases h1
                  clear hown3 hown2 hown1
                  go_wp2_with fail
                  go_roundw
                  case rel => exact ⟨k + 1, by omega, by go_num, by rw [HFI.out]; exact HO5.out, HN3, e5⟩
                  case measure => simp [intOf]; omega
                · go_wp2_with fail
                  have hne : ¬ wA.heap.size = wm.heap.size := by have := (hL.lt wm.heap.size rfl).2; omega
                  refine ChainPostP.mk ?_
                  have hK : Bk (wA.alloc (.cells #[.int .i64 (k : Int)] 3)) wA.heap.size 3 [.int .i64 (k : Int)] := Bk.new' rfl
                  have bwB : Below wm.heap.size wm (wA.alloc (.cells #[.int .i64 (k : Int)] 3)) := balloc bwA _
                  have hLB := own_alloc hL (.cells #[.int .i64 (k : Int)] 3)
                  generalize wA.alloc (.cells #[.int .i64 (k : Int)] 3) = wB at hK bwB hLB ⊢
                  (refine treeW_oneP ?_; (try simp only [List.map_cons]); (try simp only [List.map_nil]); (try simp only [List.getD_cons_succ]); (try simp only [List.getD_cons_zero]); (repeat (go_big_quiet_step (fail))); refine wpQuiet_nil ?_)
                  go_wp2_with (at_builtin; (refine wpList_append_own _ rfl (.tmp 34) (.tmp 37) 49 rfl wm.heap.size 3 i0 (.int .i64 0) 1 8 Try.underlying49 hi0 hz0 hz1 hz2 rfl (by decide) _ _ _ rfl hLB ⟨g, 0, none⟩ p cap (ints (cl.take p)) rfl (r1.below bwB).1 (r1.below bwB).news (ints_one _) (by unfold maxLen; omega) (by omega) bwB.size ?_))
                  intro v1 w3 hown1 hgr1 _
                  go_wp2_with fail
                  refine ChainPostP.mk ?_
                  have bw3 : Below wm.heap.size wm w3 := own_grownBy hLB bwB hgr1 (Nat.le_refl _) bwB.size
                  (try simp only [Nat.zero_add, List.nil_append] at hown1)
                  have hK3 := hK.grown hgr1 (by simp [Value.ownBlock]; omega)
                  (refine treeW_oneP ?_; (try simp only [List.map_cons]); (try simp only [List.map_nil]); (try simp only [List.getD_cons_succ]); (try simp only [List.getD_cons_zero]); (repeat (go_big_quiet_step (fail))); refine wpQuiet_nil ?_)
                  go_wp2_with (at_builtin; (refine wpList_append_own _ rfl (.tmp 38) (.tmp 40) 49 rfl wm.heap.size 3 i0 (.int .i64 0) 1 8 Try.underlying49 hi0 hz0 hz1 hz2 rfl (by decide) _ _ _ rfl hown1 ⟨_, 0, none⟩ 1 1 [.int .i64 (k : Int)] rfl (rd_one hK3).1 (rd_one hK3).news (by intro u hu; simp at hu; subst hu; rfl) (by unfold maxLen; omega) (by omega) bw3.size ?_))
                  intro v2 w4 hown2 hgr2 _
                  go_wp2_with fail
                  refine ChainPostP.mk ?_
                  have bw4 : Below wm.heap.size wm w4 := own_grownBy hown1 bw3 hgr2 (Nat.le_refl _) bw3.size
                  (refine treeW_oneP ?_; (try simp only [List.map_cons]); (try simp only [List.map_nil]); (try simp only [List.getD_cons_succ]); (try simp only [List.getD_cons_zero]); (repeat (go_big_quiet_step (fail))); refine wpQuiet_nil ?_)
                  go_wp2_with (at_builtin; (refine wpList_append_own _ rfl (.tmp 41) (.tmp 44) 49 rfl wm.heap.size 3 i0 (.int .i64 0) 1 8 Try.underlying49 hi0 hz0 hz1 hz2 rfl (by decide) _ _ _ rfl hown2 ⟨g, p, none⟩ (k - p) (cap - p) (ints (cl.drop p)) rfl (r2.below bw4).1 (r2.below bw4).news (ints_one _) (by unfold maxLen; omega) (by omega) bw4.size ?_))
                  intro v3 w5 hown3 hgr3 _
                  go_wp2_with fail
                  refine ChainPostP.mk ?_
                  have bw5 : Below wm.heap.size wm w5 := own_grownBy hown2 bw4 hgr3 (Nat.le_refl _) bw4.size
                  (refine treeW_finP ?_; (try simp only [List.map_cons]); (try simp only [List.map_nil]); (try simp only [List.getD_cons_succ]); (try simp only [List.getD_cons_zero]); (repeat (go_big_quiet_step (fail))); refine wpQuiet_nil ?_)
                  replace hown3 := own_list hown3 (show _ = ints (insAt cl (k : Int) p) from by have h9 := HFN.out; simpa [List.append_assoc] using h9)
                  have e5 : Below w.heap.size w w5 := bstep (bstep b8 bM) bw5
                  have HO5 := Lib.hid (own_weaken (base' := w.heap.size) (own_len (n' := k + 1) hown3 (by omega)) (Nat.le_trans b8.size bM.size))
                  have HN3 : Hid (v3 ≠ .slice none 0 0) := Lib.hid fun h => by
                    rcases own_bk HO5.out with ⟨_, h0⟩ | ⟨_, _, _, h1, _⟩
                    · omega
                    · rw [h] at h1; cases h1
                  clear hown3 hown2 hown1
                  go_wp2_with fail
                  go_roundw
                  case rel => exact ⟨k + 1, by omega, by go_num, by rw [HFI.out]; exact HO5.out, HN3, e5⟩
                  case measure => simp [intOf]; omega
              · go_wp2_with fail
                refine ChainPostP.mk ?_
                have hK : Bk (wm.alloc (.cells #[.int .i64 (k : Int)] 3)) wm.heap.size 3 [.int .i64 (k : Int)] := Bk.new' rfl
                have bwA : Below wm.heap.size wm (wm.alloc (.cells #[.int .i64 (k : Int)] 3)) := balloc bm _
                generalize wm.alloc (.cells #[.int .i64 (k : Int)] 3) = wA at hK bwA ⊢
                have hne : ¬ wA.heap.size = wm.heap.size := by have := hK.lt; omega
                (refine treeW_oneP ?_; (try simp only [List.map_cons]); (try simp only [List.map_nil]); (try simp only [List.getD_cons_succ]); (try simp only [List.getD_cons_zero]); (repeat (go_big_quiet_step (fail))); refine wpQuiet_nil ?_)
                go_wp2_with fail
                refine ChainPostP.mk ?_
                have hL : (wA.alloc (.cells #[] 3)).ownsRow wm.heap.size 3 1 (.slice (some ⟨wA.heap.size, 0, none⟩) 0 0) 0 [] := own_lit' rfl bwA.size
                have bwB : Below wm.heap.size wm (wA.alloc (.cells #[] 3)) := balloc bwA _
                have hK2 := hK.alloc (.cells #[] 3)
                generalize wA.alloc (.cells #[] 3) = wB at hL bwB hK2 ⊢
                (refine treeW_oneP ?_; (try simp only [List.map_cons]); (try simp only [List.map_nil]); (try simp only [List.getD_cons_succ]); (try simp only [List.getD_cons_zero]); (repeat (go_big_quiet_step (fail))); refine wpQuiet_nil ?_)
                go_wp2_with (at_builtin; (refine wpList_append_own _ rfl (.tmp 34) (.tmp 37) 49 rfl wm.heap.size 3 i0 (.int .i64 0) 1 8 Try.underlying49 hi0 hz0 hz1 hz2 rfl (by decide) _ _ _ rfl hL ⟨g, 0, none⟩ p cap (ints (cl.take p)) rfl (r1.below bwB).1 (r1.below bwB).news (ints_one _) (by unfold maxLen; omega) (by omega) bwB.size ?_))
                intro v1 w3 hown1 hgr1 _
                go_wp2_with fail
                refine ChainPostP.mk ?_
                have bw3 : Below wm.heap.size wm w3 := own_grownBy hL bwB hgr1 (Nat.le_refl _) bwB.size
                (try simp only [Nat.zero_add, List.nil_append] at hown1)
                have hK3 := hK2.grown hgr1 (by simp [Value.ownBlock]; omega)
                (refine treeW_oneP ?_; (try simp only [List.map_cons]); (try simp only [List.map_nil]); (try simp only [List.getD_cons_succ]); (try simp only [List.getD_cons_zero]); (repeat (go_big_quiet_step (fail))); refine wpQuiet_nil ?_)
                go_wp2_with (at_builtin; (refine wpList_append_own _ rfl (.tmp 38) (.tmp 40) 49 rfl wm.heap.size 3 i0 (.int .i64 0) 1 8 Try.underlying49 hi0 hz0 hz1 hz2 rfl (by decide) _ _ _ rfl hown1 ⟨_, 0, none⟩ 1 1 [.int .i64 (k : Int)] rfl (rd_one hK3).1 (rd_one hK3).news (by intro u hu; simp at hu; subst hu; rfl) (by unfold maxLen; omega) (by omega) bw3.size ?_))
                intro v2 w4 hown2 hgr2 _
                go_wp2_with fail
                refine ChainPostP.mk ?_
                have bw4 : Below wm.heap.size wm w4 := own_grownBy hown1 bw3 hgr2 (Nat.le_refl _) bw3.size
                (refine treeW_oneP ?_; (try simp only [List.map_cons]); (try simp only [List.map_nil]); (try simp only [List.getD_cons_succ]); (try simp only [List.getD_cons_zero]); (repeat (go_big_quiet_step (fail))); refine wpQuiet_nil ?_)
                go_wp2_with (at_builtin; (refine wpList_append_own _ rfl (.tmp 41) (.tmp 44) 49 rfl wm.heap.size 3 i0 (.int .i64 0) 1 8 Try.underlying49 hi0 hz0 hz1 hz2 rfl (by decide) _ _ _ rfl hown2 ⟨g, p, none⟩ (k - p) (cap - p) (ints (cl.drop p)) rfl (r2.below bw4).1 (r2.below bw4).news (ints_one _) (by unfold maxLen; omega) (by omega) bw4.size ?_))
                intro v3 w5 hown3 hgr3 _
                go_wp2_with fail
                refine ChainPostP.mk ?_
                have bw5 : Below wm.heap.size wm w5 := own_grownBy hown2 bw4 hgr3 (Nat.le_refl _) bw4.size
                (refine treeW_finP ?_; (try simp only [List.map_cons]); (try simp only [List.map_nil]); (try simp only [List.getD_cons_succ]); (try simp only [List.getD_cons_zero]); (repeat (go_big_quiet_step (fail))); refine wpQuiet_nil ?_)
                replace hown3 := own_list hown3 (show _ = ints (insAt cl (k : Int) p) from by have h9 := HFN.out; simpa [List.append_assoc] using h9)
                have e5 : Below w.heap.size w w5 := bstep (bstep b8 bM) bw5
                have HO5 := Lib.hid (own_weaken (base' := w.heap.size) (own_len (n' := k + 1) hown3 (by omega)) (Nat.le_trans b8.size bM.size))
                have HN3 : Hid (v3 ≠ .slice none 0 0) := Lib.hid fun h => by
                  rcases own_bk HO5.out with ⟨_, h0⟩ | ⟨_, _, _, h1, _⟩
                  · omega
                  · rw [h] at h1; cases h1
                clear hown3 hown2 hown1
                go_wp2_with fail
                go_roundw
                case rel => exact ⟨k + 1, by omega, by go_num, by rw [HFI.out]; exact HO5.out, HN3, e5⟩
                case measure => simp [intOf]; omega
    · obtain rfl : k = n := by omega
      rw [HL2.out] at hown
      have HO3 := Lib.hid hown
      clear hown
      go_wp2
      go_returns
      exact ⟨_, rfl, HO3.out, HNN.out, hW⟩
end Go.Proofs.Ytaekngiejehooaa
