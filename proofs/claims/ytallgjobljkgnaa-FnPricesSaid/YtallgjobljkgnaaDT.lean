/-
  The assignment chapter's draw of an assignment. Conditions: a cursor that has drawn less than 2^48 times; a table of at most five rows.
-/
import Derived.Test.YtallgjobljkgnaaCT
import Derived.Test.YtallgjobljkgnaaAP
import Derived.Test.YtallgjobljkgnaaMZ
namespace Go.Proofs.Ytallgjobljkgnaa
open Go Go.RowKit
set_option maxRecDepth 100000
set_option maxHeartbeats 8000000

theorem infoI : ∃ i0, Try.prog.info? 3 = some i0 ∧ i0.zero = some (.int .i64 0) ∧ i0.size = 1 ∧ i0.bytes = 8 := info_parts (show (Try.prog.info? 3).map (fun i => (i.zero, i.size, i.bytes)) = some (some (.int .i64 0), 1, 8) from by kernel_rfl)
theorem tasksFor_ty (X : DX) (B : Int) {A : Option Addr} {n c : Nat} (w : World) (hX : X.base = w.heap.size) (hC : Cur w X B) (hB : B ≤ 281474976710656) (hn : n ≤ 5) :
    Calls Try.prog 53 #[.pointer (some ⟨X.g, 0, none⟩), .slice A n c] w fun e w' => ∃ v m zs, e = .returned v ∧ w.grownBy w' (some X.g) ∧ Cur w' X (B + 64) ∧ w'.ownsRow X.base 3 1 v m (ints zs) ∧ zs.length = m ∧ m ≤ 6 ∧ ∀ z ∈ zs, 0 ≤ z ∧ z ≤ 1048576 := by
  obtain ⟨i0, hi0, hz0, hz1, hz2⟩ := infoI
  have hgl := cur_lt hC hX
  have hgw : X.g < w.heap.size := hC.lt
  have hGr : w.grownBy w (some X.g) := gb_refl _ _
  go_enter Try.func53, Try.ntmps53
  go_wp2_with fail
  go_loopw [5, 6] (fun v i wr => ∃ (k : Nat) (cl : List Int), k ≤ n ∧ i = .int .i64 k ∧ cl.length = k ∧ w.grownBy wr (some X.g) ∧ Cur wr X (B + 2 * k) ∧ wr.ownsRow w.heap.size 3 1 v k (ints cl) ∧ Hid (v ≠ .slice none 0 0) ∧ ∀ y ∈ cl, 0 ≤ y ∧ y ≤ 1048576) (fun _ i _ => n - (intOf i).toNat)
  case atStart => exact ⟨0, [], Nat.zero_le _, rfl, rfl, gb_alloc hGr _, (hC.alloc _).le (by omega), by simpa [ints] using own_lit' (w := w) (t := 3) (k := 1) rfl (Nat.le_refl _), Lib.hid (by simp), by simp⟩
  case round =>
    obtain ⟨k, cl, hk, rfl, hcl, hGr, hC, hO, HNN, hI⟩ := hrel
    by_cases hlt : k < n
    · rcases own_bk hO with ⟨hv, _⟩ | ⟨g, cap, cs, rfl, hb, hB9, h1, h2, h3, h4⟩
      · exact absurd hv HNN.out
      have i3 : (k : Int) < (n : Int) := by omega
      have i4 : (0 : Int) ≤ (k : Int) := by omega
      have hO0 := Lib.hid hO
      have hgX : g ≠ X.g := by omega
      have HB9 := Lib.hid hB9
      have HI := Lib.hid hI
      have HCL := Lib.hid hcl
      clear h3 h4 hB9 hO hcl hI
      go_upto_region 6 with (first | (go_at_call 54; refine (pick_ty X _ _ k _ hC (by omega) (by omega) (by omega) (by omega)).mono ?_; rintro e w' ⟨v, rfl, hg, hC, x, rfl, x0, x1⟩; have hGr := hGr.trans hg; have hO := own_grown hO0.out hg hgw))
      obtain ⟨p, rfl⟩ : ∃ p : Nat, x = (p : Int) := ⟨x.toNat, by omega⟩
      have hp : p ≤ k := by omega
      have hr' : Rd w' 1 (some ⟨g, 0, none⟩) k (ints cl) := own_r hO
      have hgl' : g < w'.heap.size := (hO.lt g rfl).2
      have HC := Lib.hid hC
      have HGR := Lib.hid hGr
      have hcl := HCL.out
      clear hC hGr hO
      by_cases hpc : p = cap
      · have hkp : k = p := by omega
        have e7 : cl.drop p = [] := List.drop_of_length_le (by omega)
        have hfin : ints (cl.take p) ++ [.int .i64 (k : Int)] ++ [] = ints (insAt cl (k : Int) p) := by rw [ins_ints, e7]; rfl
        have HFN := Lib.hid hfin
        clear hfin e7
        subst hpc
        subst hkp
        have r1 := Rd.take1 (p := k) hr' hcl (Nat.le_refl _)
        have i5 : ((k : Nat) : Int) ≤ ((k : Nat) : Int) := Int.le_refl _
        have i6 : (0 : Int) ≤ ((k : Nat) : Int) := by omega
        clear hr'
        go_wp2_with fail
        refine wp_region_treeP (.two [1, 2, 3, 5, 8, 9, 10] 0 (.two [] 4 (.one [] 6 (.one [] 7 (.one [] 11 (.fin [12])))) 6 (.one [] 4 (.one [] 7 (.one [] 11 (.fin [12]))))) 6 (.one [] 0 (.one [] 4 (.one [] 7 (.one [] 11 (.fin [12])))))) (by kernel_rfl) (by kernel_rfl) ?_
        have bM : Below w'.heap.size w' w'.drew := bdrew (Below.refl _ _)
        have r1 := r1.below bM
        generalize w'.drew = wm at r1 bM ⊢
        have bm : Below wm.heap.size wm wm := Below.refl _ _
        (refine treeW_twoP ?_; (try simp only [List.map_cons]); (try simp only [List.map_nil]); (try simp only [List.getD_cons_succ]); (try simp only [List.getD_cons_zero]); (repeat (go_big_quiet_step (fail))); refine wpQuiet_nil ?_; refine ⟨?_, ?_⟩)
        · go_wp2_with fail
          refine ChainPostP.mk ?_
          have hL : (wm.alloc (.cells #[] 3)).ownsRow wm.heap.size 3 1 (.slice (some ⟨wm.heap.size, 0, none⟩) 0 0) 0 [] := own_lit' rfl bm.size
          have bwA : Below wm.heap.size wm (wm.alloc (.cells #[] 3)) := balloc bm _
          generalize wm.alloc (.cells #[] 3) = wA at hL bwA ⊢
          (refine treeW_twoP ?_; (try simp only [List.map_cons]); (try simp only [List.map_nil]); (try simp only [List.getD_cons_succ]); (try simp only [List.getD_cons_zero]); (repeat (go_big_quiet_step (fail))); refine wpQuiet_nil ?_; refine ⟨?_, ?_⟩)
          · go_wp2_with (at_builtin; (refine wpList_append_own _ rfl (.tmp 20) (.tmp 23) 24 rfl wm.heap.size 3 i0 (.int .i64 0) 1 8 Try.underlying24 hi0 hz0 hz1 hz2 rfl (by decide) _ _ _ rfl hL ⟨g, 0, none⟩ k k (ints (cl.take k)) rfl (r1.below bwA).1 (r1.below bwA).news (ints_one _) (by unfold maxLen; omega) (by omega) bwA.size ?_))
            intro v1 w3 hown1 hgr1 _
            go_wp2_with fail
            refine ChainPostP.mk ?_
            have bw3 : Below wm.heap.size wm w3 := own_grownBy hL bwA hgr1 (Nat.le_refl _) bwA.size
            (try simp only [Nat.zero_add, List.nil_append] at hown1)
            (refine treeW_oneP ?_; (try simp only [List.map_cons]); (try simp only [List.map_nil]); (try simp only [List.getD_cons_succ]); (try simp only [List.getD_cons_zero]); (repeat (go_big_quiet_step (fail))); refine wpQuiet_nil ?_)
            go_wp2_with fail
            refine ChainPostP.mk ?_
            have hK : Bk (w3.alloc (.cells #[.int .i64 (k : Int)] 3)) w3.heap.size 3 [.int .i64 (k : Int)] := Bk.new' rfl
            have bwB : Below wm.heap.size wm (w3.alloc (.cells #[.int .i64 (k : Int)] 3)) := balloc bw3 _
            have hown1B := own_alloc hown1 (.cells #[.int .i64 (k : Int)] 3)
            generalize w3.alloc (.cells #[.int .i64 (k : Int)] 3) = wB at hK bwB hown1B ⊢
            (refine treeW_oneP ?_; (try simp only [List.map_cons]); (try simp only [List.map_nil]); (try simp only [List.getD_cons_succ]); (try simp only [List.getD_cons_zero]); (repeat (go_big_quiet_step (fail))); refine wpQuiet_nil ?_)
            go_wp2_with (at_builtin; (refine wpList_append_own _ rfl (.tmp 24) (.tmp 26) 24 rfl wm.heap.size 3 i0 (.int .i64 0) 1 8 Try.underlying24 hi0 hz0 hz1 hz2 rfl (by decide) _ _ _ rfl hown1B ⟨_, 0, none⟩ 1 1 [.int .i64 (k : Int)] rfl (rd_one hK).1 (rd_one hK).news (by intro u hu; simp at hu; subst hu; rfl) (by unfold maxLen; omega) (by omega) bwB.size ?_))
            intro v2 w4 hown2 hgr2 _
            go_wp2_with fail
            refine ChainPostP.mk ?_
            have bw4 : Below wm.heap.size wm w4 := own_grownBy hown1B bwB hgr2 (Nat.le_refl _) bwB.size
            (refine treeW_oneP ?_; (try simp only [List.map_cons]); (try simp only [List.map_nil]); (try simp only [List.getD_cons_succ]); (try simp only [List.getD_cons_zero]); (repeat (go_big_quiet_step (fail))); refine wpQuiet_nil ?_)
            go_wp2_with (at_builtin; (refine wpList_append_own _ rfl (.tmp 27) (.tmp 30) 24 rfl wm.heap.size 3 i0 (.int .i64 0) 1 8 Try.underlying24 hi0 hz0 hz1 hz2 rfl (by decide) _ _ _ rfl hown2 ⟨g, 0, none⟩ 0 0 [] rfl ((Rd.nil_ : Rd w4 1 (some ⟨g, 0, none⟩) 0 [])).1 ((Rd.nil_ : Rd w4 1 (some ⟨g, 0, none⟩) 0 [])).news (by simp) (by unfold maxLen; omega) (by omega) bw4.size ?_))
            intro v3 w5 hown3 hgr3 _
            go_wp2_with fail
            refine ChainPostP.mk ?_
            have bw5 : Below wm.heap.size wm w5 := own_grownBy hown2 bw4 hgr3 (Nat.le_refl _) bw4.size
            (refine treeW_finP ?_; (try simp only [List.map_cons]); (try simp only [List.map_nil]); (try simp only [List.getD_cons_succ]); (try simp only [List.getD_cons_zero]); (repeat (go_big_quiet_step (fail))); refine wpQuiet_nil ?_)
            replace hown3 := own_list hown3 (show _ = ints (insAt cl (k : Int) k) from by have h9 := HFN.out; simpa [List.append_assoc] using h9)
            have bq : Below w'.heap.size w' w5 := bstep bM bw5
            have hG5 : w'.grownBy w5 (some X.g) := gb_below bq
            have hC5 := HC.out.kept (Le.grown hG5) (bq.block _ HC.out.lt)
            have hGr5 := HGR.out.trans hG5
            have HO5 := Lib.hid (own_weaken (base' := w.heap.size) (own_len (n' := k + 1) hown3 (by omega)) (Nat.le_trans HGR.out.size bM.size))
            have HN3 : Hid (v3 ≠ .slice none 0 0) := Lib.hid fun h => by
              rcases own_bk HO5.out with ⟨_, h0⟩ | ⟨_, _, _, h1, _⟩
              · omega
              · rw [h] at h1; cases h1
            have HG5 := Lib.hid hGr5
            have HC5 := Lib.hid hC5
            have HI5 : Hid (∀ q, ∀ y ∈ insAt cl (k : Int) q, 0 ≤ y ∧ y ≤ 1048576) := Lib.hid fun q y hy => by
              rcases insAt_mem.1 hy with rfl | h
              · omega
              · exact HI.out y h
            have HL5 : Hid (∀ q, (insAt cl (k : Int) q).length = k + 1) := Lib.hid fun q => by rw [insAt_len, HCL.out]
            clear hown3 hown2 hown1 hG5 hC5 hGr5 bq
            go_wp2_with fail
            go_roundw
            case rel => exact ⟨k + 1, _, by omega, by go_num, HL5.out _, HG5.out, HC5.out.le (by omega), HO5.out, HN3, HI5.out _⟩
            case measure => simp [intOf]; omega
          · go_wp2_with fail
            have hne : ¬ wA.heap.size = wm.heap.size := by have := (hL.lt wm.heap.size rfl).2; omega
            refine ChainPostP.mk ?_
            have hK : Bk (wA.alloc (.cells #[.int .i64 (k : Int)] 3)) wA.heap.size 3 [.int .i64 (k : Int)] := Bk.new' rfl
            have bwB : Below wm.heap.size wm (wA.alloc (.cells #[.int .i64 (k : Int)] 3)) := balloc bwA _
            have hLB := own_alloc hL (.cells #[.int .i64 (k : Int)] 3)
            generalize wA.alloc (.cells #[.int .i64 (k : Int)] 3) = wB at hK bwB hLB ⊢
            (refine treeW_oneP ?_; (try simp only [List.map_cons]); (try simp only [List.map_nil]); (try simp only [List.getD_cons_succ]); (try simp only [List.getD_cons_zero]); (repeat (go_big_quiet_step (fail))); refine wpQuiet_nil ?_)
            go_wp2_with (at_builtin; (refine wpList_append_own _ rfl (.tmp 20) (.tmp 23) 24 rfl wm.heap.size 3 i0 (.int .i64 0) 1 8 Try.underlying24 hi0 hz0 hz1 hz2 rfl (by decide) _ _ _ rfl hLB ⟨g, 0, none⟩ k k (ints (cl.take k)) rfl (r1.below bwB).1 (r1.below bwB).news (ints_one _) (by unfold maxLen; omega) (by omega) bwB.size ?_))
            intro v1 w3 hown1 hgr1 _
            go_wp2_with fail
            refine ChainPostP.mk ?_
            have bw3 : Below wm.heap.size wm w3 := own_grownBy hLB bwB hgr1 (Nat.le_refl _) bwB.size
            (try simp only [Nat.zero_add, List.nil_append] at hown1)
            have hK3 := hK.grown hgr1 (by simp [Value.ownBlock]; omega)
            (refine treeW_oneP ?_; (try simp only [List.map_cons]); (try simp only [List.map_nil]); (try simp only [List.getD_cons_succ]); (try simp only [List.getD_cons_zero]); (repeat (go_big_quiet_step (fail))); refine wpQuiet_nil ?_)
            go_wp2_with (at_builtin; (refine wpList_append_own _ rfl (.tmp 24) (.tmp 26) 24 rfl wm.heap.size 3 i0 (.int .i64 0) 1 8 Try.underlying24 hi0 hz0 hz1 hz2 rfl (by decide) _ _ _ rfl hown1 ⟨_, 0, none⟩ 1 1 [.int .i64 (k : Int)] rfl (rd_one hK3).1 (rd_one hK3).news (by intro u hu; simp at hu; subst hu; rfl) (by unfold maxLen; omega) (by omega) bw3.size ?_))
            intro v2 w4 hown2 hgr2 _
            go_wp2_with fail
            refine ChainPostP.mk ?_
            have bw4 : Below wm.heap.size wm w4 := own_grownBy hown1 bw3 hgr2 (Nat.le_refl _) bw3.size
            (refine treeW_oneP ?_; (try simp only [List.map_cons]); (try simp only [List.map_nil]); (try simp only [List.getD_cons_succ]); (try simp only [List.getD_cons_zero]); (repeat (go_big_quiet_step (fail))); refine wpQuiet_nil ?_)
            go_wp2_with (at_builtin; (refine wpList_append_own _ rfl (.tmp 27) (.tmp 30) 24 rfl wm.heap.size 3 i0 (.int .i64 0) 1 8 Try.underlying24 hi0 hz0 hz1 hz2 rfl (by decide) _ _ _ rfl hown2 ⟨g, 0, none⟩ 0 0 [] rfl ((Rd.nil_ : Rd w4 1 (some ⟨g, 0, none⟩) 0 [])).1 ((Rd.nil_ : Rd w4 1 (some ⟨g, 0, none⟩) 0 [])).news (by simp) (by unfold maxLen; omega) (by omega) bw4.size ?_))
            intro v3 w5 hown3 hgr3 _
            go_wp2_with fail
            refine ChainPostP.mk ?_
            have bw5 : Below wm.heap.size wm w5 := own_grownBy hown2 bw4 hgr3 (Nat.le_refl _) bw4.size
            (refine treeW_finP ?_; (try simp only [List.map_cons]); (try simp only [List.map_nil]); (try simp only [List.getD_cons_succ]); (try simp only [List.getD_cons_zero]); (repeat (go_big_quiet_step (fail))); refine wpQuiet_nil ?_)
            replace hown3 := own_list hown3 (show _ = ints (insAt cl (k : Int) k) from by have h9 := HFN.out; simpa [List.append_assoc] using h9)
            have bq : Below w'.heap.size w' w5 := bstep bM bw5
            have hG5 : w'.grownBy w5 (some X.g) := gb_below bq
            have hC5 := HC.out.kept (Le.grown hG5) (bq.block _ HC.out.lt)
            have hGr5 := HGR.out.trans hG5
            have HO5 := Lib.hid (own_weaken (base' := w.heap.size) (own_len (n' := k + 1) hown3 (by omega)) (Nat.le_trans HGR.out.size bM.size))
            have HN3 : Hid (v3 ≠ .slice none 0 0) := Lib.hid fun h => by
              rcases own_bk HO5.out with ⟨_, h0⟩ | ⟨_, _, _, h1, _⟩
              · omega
              · rw [h] at h1; cases h1
            have HG5 := Lib.hid hGr5
            have HC5 := Lib.hid hC5
            have HI5 : Hid (∀ q, ∀ y ∈ insAt cl (k : Int) q, 0 ≤ y ∧ y ≤ 1048576) := Lib.hid fun q y hy => by
              rcases insAt_mem.1 hy with rfl | h
              · omega
              · exact HI.out y h
            have HL5 : Hid (∀ q, (insAt cl (k : Int) q).length = k + 1) := Lib.hid fun q => by rw [insAt_len, HCL.out]
            clear hown3 hown2 hown1 hG5 hC5 hGr5 bq
            go_wp2_with fail
            go_roundw
            case rel => exact ⟨k + 1, _, by omega, by go_num, HL5.out _, HG5.out, HC5.out.le (by omega), HO5.out, HN3, HI5.out _⟩
            case measure => simp [intOf]; omega
        · go_wp2_with fail
          refine ChainPostP.mk ?_
          have hK : Bk (wm.alloc (.cells #[.int .i64 (k : Int)] 3)) wm.heap.size 3 [.int .i64 (k : Int)] := Bk.new' rfl
          have bwA : Below wm.heap.size wm (wm.alloc (.cells #[.int .i64 (k : Int)] 3)) := balloc bm _
          generalize wm.alloc (.cells #[.int .i64 (k : Int)] 3) = wA at hK bwA ⊢
          have hne : ¬ wA.heap.size = wm.heap.size := by have := hK.lt; omega
          (refine treeW_oneP ?_; (try simp only [List.map_cons]); (try simp only [List.map_nil]); (try simp only [List.getD_cons_succ]); (try simp only [List.getD_cons_zero]); (repeat (go_big_quiet_step (fail))); refine wpQuiet_nil ?_)
          go_wp2_with fail
          refine ChainPostP.mk ?_
          have hL : (wA.alloc (.cells #[] 3)).ownsRow wm.heap.size 3 1 (.slice (some ⟨wA.heap.size, 0, none⟩) 0 0) 0 [] := own_lit' rfl bwA.size
          have bwB : Below wm.heap.size wm (wA.alloc (.cells #[] 3)) := balloc bwA _
          have hK2 := hK.alloc (.cells #[] 3)
          generalize wA.alloc (.cells #[] 3) = wB at hL bwB hK2 ⊢
          (refine treeW_oneP ?_; (try simp only [List.map_cons]); (try simp only [List.map_nil]); (try simp only [List.getD_cons_succ]); (try simp only [List.getD_cons_zero]); (repeat (go_big_quiet_step (fail))); refine wpQuiet_nil ?_)
          go_wp2_with (at_builtin; (refine wpList_append_own _ rfl (.tmp 20) (.tmp 23) 24 rfl wm.heap.size 3 i0 (.int .i64 0) 1 8 Try.underlying24 hi0 hz0 hz1 hz2 rfl (by decide) _ _ _ rfl hL ⟨g, 0, none⟩ k k (ints (cl.take k)) rfl (r1.below bwB).1 (r1.below bwB).news (ints_one _) (by unfold maxLen; omega) (by omega) bwB.size ?_))
          intro v1 w3 hown1 hgr1 _
          go_wp2_with fail
          refine ChainPostP.mk ?_
          have bw3 : Below wm.heap.size wm w3 := own_grownBy hL bwB hgr1 (Nat.le_refl _) bwB.size
          (try simp only [Nat.zero_add, List.nil_append] at hown1)
          have hK3 := hK2.grown hgr1 (by simp [Value.ownBlock]; omega)
          (refine treeW_oneP ?_; (try simp only [List.map_cons]); (try simp only [List.map_nil]); (try simp only [List.getD_cons_succ]); (try simp only [List.getD_cons_zero]); (repeat (go_big_quiet_step (fail))); refine wpQuiet_nil ?_)
          go_wp2_with (at_builtin; (refine wpList_append_own _ rfl (.tmp 24) (.tmp 26) 24 rfl wm.heap.size 3 i0 (.int .i64 0) 1 8 Try.underlying24 hi0 hz0 hz1 hz2 rfl (by decide) _ _ _ rfl hown1 ⟨_, 0, none⟩ 1 1 [.int .i64 (k : Int)] rfl (rd_one hK3).1 (rd_one hK3).news (by intro u hu; simp at hu; subst hu; rfl) (by unfold maxLen; omega) (by omega) bw3.size ?_))
          intro v2 w4 hown2 hgr2 _
          go_wp2_with fail
          refine ChainPostP.mk ?_
          have bw4 : Below wm.heap.size wm w4 := own_grownBy hown1 bw3 hgr2 (Nat.le_refl _) bw3.size
          (refine treeW_oneP ?_; (try simp only [List.map_cons]); (try simp only [List.map_nil]); (try simp only [List.getD_cons_succ]); (try simp only [List.getD_cons_zero]); (repeat (go_big_quiet_step (fail))); refine wpQuiet_nil ?_)
          go_wp2_with (at_builtin; (refine wpList_append_own _ rfl (.tmp 27) (.tmp 30) 24 rfl wm.heap.size 3 i0 (.int .i64 0) 1 8 Try.underlying24 hi0 hz0 hz1 hz2 rfl (by decide) _ _ _ rfl hown2 ⟨g, 0, none⟩ 0 0 [] rfl ((Rd.nil_ : Rd w4 1 (some ⟨g, 0, none⟩) 0 [])).1 ((Rd.nil_ : Rd w4 1 (some ⟨g, 0, none⟩) 0 [])).news (by simp) (by unfold maxLen; omega) (by omega) bw4.size ?_))
          intro v3 w5 hown3 hgr3 _
          go_wp2_with fail
          refine ChainPostP.mk ?_
          have bw5 : Below wm.heap.size wm w5 := own_grownBy hown2 bw4 hgr3 (Nat.le_refl _) bw4.size
          (refine treeW_finP ?_; (try simp only [List.map_cons]); (try simp only [List.map_nil]); (try simp only [List.getD_cons_succ]); (try simp only [List.getD_cons_zero]); (repeat (go_big_quiet_step (fail))); refine wpQuiet_nil ?_)
          replace hown3 := own_list hown3 (show _ = ints (insAt cl (k : Int) k) from by have h9 := HFN.out; simpa [List.append_assoc] using h9)
          have bq : Below w'.heap.size w' w5 := bstep bM bw5
          have hG5 : w'.grownBy w5 (some X.g) := gb_below bq
          have hC5 := HC.out.kept (Le.grown hG5) (bq.block _ HC.out.lt)
          have hGr5 := HGR.out.trans hG5
          have HO5 := Lib.hid (own_weaken (base' := w.heap.size) (own_len (n' := k + 1) hown3 (by omega)) (Nat.le_trans HGR.out.size bM.size))
          have HN3 : Hid (v3 ≠ .slice none 0 0) := Lib.hid fun h => by
            rcases own_bk HO5.out with ⟨_, h0⟩ | ⟨_, _, _, h1, _⟩
            · omega
            · rw [h] at h1; cases h1
          have HG5 := Lib.hid hGr5
          have HC5 := Lib.hid hC5
          have HI5 : Hid (∀ q, ∀ y ∈ insAt cl (k : Int) q, 0 ≤ y ∧ y ≤ 1048576) := Lib.hid fun q y hy => by
            rcases insAt_mem.1 hy with rfl | h
            · omega
            · exact HI.out y h
          have HL5 : Hid (∀ q, (insAt cl (k : Int) q).length = k + 1) := Lib.hid fun q => by rw [insAt_len, HCL.out]
          clear hown3 hown2 hown1 hG5 hC5 hGr5 bq
          go_wp2_with fail
          go_roundw
          case rel => exact ⟨k + 1, _, by omega, by go_num, HL5.out _, HG5.out, HC5.out.le (by omega), HO5.out, HN3, HI5.out _⟩
          case measure => simp [intOf]; omega
      · have r1 := Rd.take1 (p := p) hr' hcl (by omega)
        have r2 := Rd.drop1 (p := p) hr' hcl (by omega) p (fun _ => by omega)
        have hfin : ints (cl.take p) ++ [.int .i64 (k : Int)] ++ ints (cl.drop p) = ints (insAt cl (k : Int) p) := by rw [ins_ints]
        have HFN := Lib.hid hfin
        clear hfin hr'
        have i5 : ((p : Nat) : Int) ≤ (cap : Int) := by omega
        have i7 : ((p : Nat) : Int) ≤ (k : Int) := by omega
        have i8 : (k : Int) ≤ (cap : Int) := by omega
        have i6 : (0 : Int) ≤ ((p : Nat) : Int) := by omega
        go_wp2_with fail
        refine wp_region_treeP (.two [1, 2, 3, 5, 8, 9, 10] 0 (.two [] 4 (.one [] 6 (.one [] 7 (.one [] 11 (.fin [12])))) 6 (.one [] 4 (.one [] 7 (.one [] 11 (.fin [12]))))) 6 (.one [] 0 (.one [] 4 (.one [] 7 (.one [] 11 (.fin [12])))))) (by kernel_rfl) (by kernel_rfl) ?_
        have bM : Below w'.heap.size w' w'.drew := bdrew (Below.refl _ _)
        have r1 := r1.below bM
        have r2 := r2.below bM
        generalize w'.drew = wm at r1 r2 bM ⊢
        have bm : Below wm.heap.size wm wm := Below.refl _ _
        (refine treeW_twoP ?_; (try simp only [List.map_cons]); (try simp only [List.map_nil]); (try simp only [List.getD_cons_succ]); (try simp only [List.getD_cons_zero]); (repeat (go_big_quiet_step (fail))); refine wpQuiet_nil ?_; refine ⟨?_, ?_⟩)
        · go_wp2_with fail
          refine ChainPostP.mk ?_
          have hL : (wm.alloc (.cells #[] 3)).ownsRow wm.heap.size 3 1 (.slice (some ⟨wm.heap.size, 0, none⟩) 0 0) 0 [] := own_lit' rfl bm.size
          have bwA : Below wm.heap.size wm (wm.alloc (.cells #[] 3)) := balloc bm _
          generalize wm.alloc (.cells #[] 3) = wA at hL bwA ⊢
          (refine treeW_twoP ?_; (try simp only [List.map_cons]); (try simp only [List.map_nil]); (try simp only [List.getD_cons_succ]); (try simp only [List.getD_cons_zero]); (repeat (go_big_quiet_step (fail))); refine wpQuiet_nil ?_; refine ⟨?_, ?_⟩)
          · go_wp2_with (at_builtin; (refine wpList_append_own _ rfl (.tmp 20) (.tmp 23) 24 rfl wm.heap.size 3 i0 (.int .i64 0) 1 8 Try.underlying24 hi0 hz0 hz1 hz2 rfl (by decide) _ _ _ rfl hL ⟨g, 0, none⟩ p cap (ints (cl.take p)) rfl (r1.below bwA).1 (r1.below bwA).news (ints_one _) (by unfold maxLen; omega) (by omega) bwA.size ?_))
            intro v1 w3 hown1 hgr1 _
            go_wp2_with fail
            refine ChainPostP.mk ?_
            have bw3 : Below wm.heap.size wm w3 := own_grownBy hL bwA hgr1 (Nat.le_refl _) bwA.size
            (try simp only [Nat.zero_add, List.nil_append] at hown1)
            (refine treeW_oneP ?_; (try simp only [List.map_cons]); (try simp only [List.map_nil]); (try simp only [List.getD_cons_succ]); (try simp only [List.getD_cons_zero]); (repeat (go_big_quiet_step (fail))); refine wpQuiet_nil ?_)
            go_wp2_with fail
            refine ChainPostP.mk ?_
            have hK : Bk (w3.alloc (.cells #[.int .i64 (k : Int)] 3)) w3.heap.size 3 [.int .i64 (k : Int)] := Bk.new' rfl
            have bwB : Below wm.heap.size wm (w3.alloc (.cells #[.int .i64 (k : Int)] 3)) := balloc bw3 _
            have hown1B := own_alloc hown1 (.cells #[.int .i64 (k : Int)] 3)
            generalize w3.alloc (.cells #[.int .i64 (k : Int)] 3) = wB at hK bwB hown1B ⊢
            (refine treeW_oneP ?_; (try simp only [List.map_cons]); (try simp only [List.map_nil]); (try simp only [List.getD_cons_succ]); (try simp only [List.getD_cons_zero]); (repeat (go_big_quiet_step (fail))); refine wpQuiet_nil ?_)
            go_wp2_with (at_builtin; (refine wpList_append_own _ rfl (.tmp 24) (.tmp 26) 24 rfl wm.heap.size 3 i0 (.int .i64 0) 1 8 Try.underlying24 hi0 hz0 hz1 hz2 rfl (by decide) _ _ _ rfl hown1B ⟨_, 0, none⟩ 1 1 [.int .i64 (k : Int)] rfl (rd_one hK).1 (rd_one hK).news (by intro u hu; simp at hu; subst hu; rfl) (by unfold maxLen; omega) (by omega) bwB.size ?_))
            intro v2 w4 hown2 hgr2 _
            go_wp2_with fail
            refine ChainPostP.mk ?_
            have bw4 : Below wm.heap.size wm w4 := own_grownBy hown1B bwB hgr2 (Nat.le_refl _) bwB.size
            (refine treeW_oneP ?_; (try simp only [List.map_cons]); (try simp only [List.map_nil]); (try simp only [List.getD_cons_succ]); (try simp only [List.getD_cons_zero]); (repeat (go_big_quiet_step (fail))); refine wpQuiet_nil ?_)
            go_wp2_with (at_builtin; (refine wpList_append_own _ rfl (.tmp 27) (.tmp 30) 24 rfl wm.heap.size 3 i0 (.int .i64 0) 1 8 Try.underlying24 hi0 hz0 hz1 hz2 rfl (by decide) _ _ _ rfl hown2 ⟨g, p, none⟩ (k - p) (cap - p) (ints (cl.drop p)) rfl (r2.below bw4).1 (r2.below bw4).news (ints_one _) (by unfold maxLen; omega) (by omega) bw4.size ?_))
            intro v3 w5 hown3 hgr3 _
            go_wp2_with fail
            refine ChainPostP.mk ?_
            have bw5 : Below wm.heap.size wm w5 := own_grownBy hown2 bw4 hgr3 (Nat.le_refl _) bw4.size
            (refine treeW_finP ?_; (try simp only [List.map_cons]); (try simp only [List.map_nil]); (try simp only [List.getD_cons_succ]); (try simp only [List.getD_cons_zero]); (repeat (go_big_quiet_step (fail))); refine wpQuiet_nil ?_)
            replace hown3 := own_list hown3 (show _ = ints (insAt cl (k : Int) p) from by have h9 := HFN.out; simpa [List.append_assoc] using h9)
            have bq : Below w'.heap.size w' w5 := bstep bM bw5
            have hG5 : w'.grownBy w5 (some X.g) := gb_below bq
            have hC5 := HC.out.kept (Le.grown hG5) (bq.block _ HC.out.lt)
            have hGr5 := HGR.out.trans hG5
            have HO5 := Lib.hid (own_weaken (base' := w.heap.size) (own_len (n' := k + 1) hown3 (by omega)) (Nat.le_trans HGR.out.size bM.size))
            have HN3 : Hid (v3 ≠ .slice none 0 0) := Lib.hid fun h => by
              rcases own_bk HO5.out with ⟨_, h0⟩ | ⟨_, _, _, h1, _⟩
              · omega
              · rw [h] at h1; cases h1
            have HG5 := Lib.hid hGr5
            have HC5 := Lib.hid hC5
            have HI5 : Hid (∀ q, ∀ y ∈ insAt cl (k : Int) q, 0 ≤ y ∧ y ≤ 1048576) := Lib.hid fun q y hy => by
              rcases insAt_mem.1 hy with rfl | h
              · omega
              · exact HI.out y h
            have HL5 : Hid (∀ q, (insAt cl (k : Int) q).length = k + 1) := Lib.hid fun q => by rw [insAt_len, HCL.out]
            clear hown3 hown2 hown1 hG5 hC5 hGr5 bq
            go_wp2_with fail
            go_roundw
            case rel => exact ⟨k + 1, _, by omega, by go_num, HL5.out _, HG5.out, HC5.out.le (by omega), HO5.out, HN3, HI5.out _⟩
            case measure => simp [intOf]; omega
          · go_wp2_with fail
            have hne : ¬ wA.heap.size = wm.heap.size := by have := (hL.lt wm.heap.size rfl).2; omega
            refine ChainPostP.mk ?_
            have hK : Bk (wA.alloc (.cells #[.int .i64 (k : Int)] 3)) wA.heap.size 3 [.int .i64 (k : Int)] := Bk.new' rfl
            have bwB : Below wm.heap.size wm (wA.alloc (.cells #[.int .i64 (k : Int)] 3)) := balloc bwA _
            have hLB := own_alloc hL (.cells #[.int .i64 (k : Int)] 3)
            generalize wA.alloc (.cells #[.int .i64 (k : Int)] 3) = wB at hK bwB hLB ⊢
            (refine treeW_oneP ?_; (try simp only [List.map_cons]); (try simp only [List.map_nil]); (try simp only [List.getD_cons_succ]); (try simp only [List.getD_cons_zero]); (repeat (go_big_quiet_step (fail))); refine wpQuiet_nil ?_)
            go_wp2_with (at_builtin; (refine wpList_append_own _ rfl (.tmp 20) (.tmp 23) 24 rfl wm.heap.size 3 i0 (.int .i64 0) 1 8 Try.underlying24 hi0 hz0 hz1 hz2 rfl (by decide) _ _ _ rfl hLB ⟨g, 0, none⟩ p cap (ints (cl.take p)) rfl (r1.below bwB).1 (r1.below bwB).news (ints_one _) (by unfold maxLen; omega) (by omega) bwB.size ?_))
            intro v1 w3 hown1 hgr1 _
            go_wp2_with fail
            refine ChainPostP.mk ?_
            have bw3 : Below wm.heap.size wm w3 := own_grownBy hLB bwB hgr1 (Nat.le_refl _) bwB.size
            (try simp only [Nat.zero_add, List.nil_append] at hown1)
            have hK3 := hK.grown hgr1 (by simp [Value.ownBlock]; omega)
            (refine treeW_oneP ?_; (try simp only [List.map_cons]); (try simp only [List.map_nil]); (try simp only [List.getD_cons_succ]); (try simp only [List.getD_cons_zero]); (repeat (go_big_quiet_step (fail))); refine wpQuiet_nil ?_)
            go_wp2_with (at_builtin; (refine wpList_append_own _ rfl (.tmp 24) (.tmp 26) 24 rfl wm.heap.size 3 i0 (.int .i64 0) 1 8 Try.underlying24 hi0 hz0 hz1 hz2 rfl (by decide) _ _ _ rfl hown1 ⟨_, 0, none⟩ 1 1 [.int .i64 (k : Int)] rfl (rd_one hK3).1 (rd_one hK3).news (by intro u hu; simp at hu; subst hu; rfl) (by unfold maxLen; omega) (by omega) bw3.size ?_))
            intro v2 w4 hown2 hgr2 _
            go_wp2_with fail
            refine ChainPostP.mk ?_
            have bw4 : Below wm.heap.size wm w4 := own_grownBy hown1 bw3 hgr2 (Nat.le_refl _) bw3.size
            (refine treeW_oneP ?_; (try simp only [List.map_cons]); (try simp only [List.map_nil]); (try simp only [List.getD_cons_succ]); (try simp only [List.getD_cons_zero]); (repeat (go_big_quiet_step (fail))); refine wpQuiet_nil ?_)
            go_wp2_with (at_builtin; (refine wpList_append_own _ rfl (.tmp 27) (.tmp 30) 24 rfl wm.heap.size 3 i0 (.int .i64 0) 1 8 Try.underlying24 hi0 hz0 hz1 hz2 rfl (by decide) _ _ _ rfl hown2 ⟨g, p, none⟩ (k - p) (cap - p) (ints (cl.drop p)) rfl (r2.below bw4).1 (r2.below bw4).news (ints_one _) (by unfold maxLen; omega) (by omega) bw4.size ?_))
            intro v3 w5 hown3 hgr3 _
            go_wp2_with fail
            refine ChainPostP.mk ?_
            have bw5 : Below wm.heap.size wm w5 := own_grownBy hown2 bw4 hgr3 (Nat.le_refl _) bw4.size
            (refine treeW_finP ?_; (try simp only [List.map_cons]); (try simp only [List.map_nil]); (try simp only [List.getD_cons_succ]); (try simp only [List.getD_cons_zero]); (repeat (go_big_quiet_step (fail))); refine wpQuiet_nil ?_)
            replace hown3 := own_list hown3 (show _ = ints (insAt cl (k : Int) p) from by have h9 := HFN.out; simpa [List.append_assoc] using h9)
            have bq : Below w'.heap.size w' w5 := bstep bM bw5
            have hG5 : w'.grownBy w5 (some X.g) := gb_below bq
            have hC5 := HC.out.kept (Le.grown hG5) (bq.block _ HC.out.lt)
            have hGr5 := HGR.out.trans hG5
            have HO5 := Lib.hid (own_weaken (base' := w.heap.size) (own_len (n' := k + 1) hown3 (by omega)) (Nat.le_trans HGR.out.size bM.size))
            have HN3 : Hid (v3 ≠ .slice none 0 0) := Lib.hid fun h => by
              rcases own_bk HO5.out with ⟨_, h0⟩ | ⟨_, _, _, h1, _⟩
              · omega
              · rw [h] at h1; cases h1
            have HG5 := Lib.hid hGr5
            have HC5 := Lib.hid hC5
            have HI5 : Hid (∀ q, ∀ y ∈ insAt cl (k : Int) q, 0 ≤ y ∧ y ≤ 1048576) := Lib.hid fun q y hy => by
              rcases insAt_mem.1 hy with rfl | h
              · omega
              · exact HI.out y h
            have HL5 : Hid (∀ q, (insAt cl (k : Int) q).length = k + 1) := Lib.hid fun q => by rw [insAt_len, HCL.out]
            clear hown3 hown2 hown1 hG5 hC5 hGr5 bq
            go_wp2_with fail
            go_roundw
            case rel => exact ⟨k + 1, _, by omega, by go_num, HL5.out _, HG5.out, HC5.out.le (by omega), HO5.out, HN3, HI5.out _⟩
            case measure => simp [intOf]; omega
        · go_wp2_with fail
          refine ChainPostP.mk ?_
          have hK : Bk (wm.alloc (.cells #[.int .i64 (k : Int)] 3)) wm.heap.size 3 [.int .i64 (k : Int)] := Bk.new' rfl
          have bwA : Below wm.heap.size wm (wm.alloc (.cells #[.int .i64 (k : Int)] 3)) := balloc bm _
          generalize wm.alloc (.cells #[.int .i64 (k : Int)] 3) = wA at hK bwA ⊢
          have hne : ¬ wA.heap.size = wm.heap.size := by have := hK.lt; omega
          (refine treeW_oneP ?_; (try simp only [List.map_cons]); (try simp only [List.map_nil]); (try simp only [List.getD_cons_succ]); (try simp only [List.getD_cons_zero]); (repeat (go_big_quiet_step (fail))); refine wpQuiet_nil ?_)
          go_wp2_with fail
          refine ChainPostP.mk ?_
          have hL : (wA.alloc (.cells #[] 3)).ownsRow wm.heap.size 3 1 (.slice (some ⟨wA.heap.size, 0, none⟩) 0 0) 0 [] := own_lit' rfl bwA.size
          have bwB : Below wm.heap.size wm (wA.alloc (.cells #[] 3)) := balloc bwA _
          have hK2 := hK.alloc (.cells #[] 3)
          generalize wA.alloc (.cells #[] 3) = wB at hL bwB hK2 ⊢
          (refine treeW_oneP ?_; (try simp only [List.map_cons]); (try simp only [List.map_nil]); (try simp only [List.getD_cons_succ]); (try simp only [List.getD_cons_zero]); (repeat (go_big_quiet_step (fail))); refine wpQuiet_nil ?_)
          go_wp2_with (at_builtin; (refine wpList_append_own _ rfl (.tmp 20) (.tmp 23) 24 rfl wm.heap.size 3 i0 (.int .i64 0) 1 8 Try.underlying24 hi0 hz0 hz1 hz2 rfl (by decide) _ _ _ rfl hL ⟨g, 0, none⟩ p cap (ints (cl.take p)) rfl (r1.below bwB).1 (r1.below bwB).news (ints_one _) (by unfold maxLen; omega) (by omega) bwB.size ?_))
          intro v1 w3 hown1 hgr1 _
          go_wp2_with fail
          refine ChainPostP.mk ?_
          have bw3 : Below wm.heap.size wm w3 := own_grownBy hL bwB hgr1 (Nat.le_refl _) bwB.size
          (try simp only [Nat.zero_add, List.nil_append] at hown1)
          have hK3 := hK2.grown hgr1 (by simp [Value.ownBlock]; omega)
          (refine treeW_oneP ?_; (try simp only [List.map_cons]); (try simp only [List.map_nil]); (try simp only [List.getD_cons_succ]); (try simp only [List.getD_cons_zero]); (repeat (go_big_quiet_step (fail))); refine wpQuiet_nil ?_)
          go_wp2_with (at_builtin; (refine wpList_append_own _ rfl (.tmp 24) (.tmp 26) 24 rfl wm.heap.size 3 i0 (.int .i64 0) 1 8 Try.underlying24 hi0 hz0 hz1 hz2 rfl (by decide) _ _ _ rfl hown1 ⟨_, 0, none⟩ 1 1 [.int .i64 (k : Int)] rfl (rd_one hK3).1 (rd_one hK3).news (by intro u hu; simp at hu; subst hu; rfl) (by unfold maxLen; omega) (by omega) bw3.size ?_))
          intro v2 w4 hown2 hgr2 _
          go_wp2_with fail
          refine ChainPostP.mk ?_
          have bw4 : Below wm.heap.size wm w4 := own_grownBy hown1 bw3 hgr2 (Nat.le_refl _) bw3.size
          (refine treeW_oneP ?_; (try simp only [List.map_cons]); (try simp only [List.map_nil]); (try simp only [List.getD_cons_succ]); (try simp only [List.getD_cons_zero]); (repeat (go_big_quiet_step (fail))); refine wpQuiet_nil ?_)
          go_wp2_with (at_builtin; (refine wpList_append_own _ rfl (.tmp 27) (.tmp 30) 24 rfl wm.heap.size 3 i0 (.int .i64 0) 1 8 Try.underlying24 hi0 hz0 hz1 hz2 rfl (by decide) _ _ _ rfl hown2 ⟨g, p, none⟩ (k - p) (cap - p) (ints (cl.drop p)) rfl (r2.below bw4).1 (r2.below bw4).news (ints_one _) (by unfold maxLen; omega) (by omega) bw4.size ?_))
          intro v3 w5 hown3 hgr3 _
          go_wp2_with fail
          refine ChainPostP.mk ?_
          have bw5 : Below wm.heap.size wm w5 := own_grownBy hown2 bw4 hgr3 (Nat.le_refl _) bw4.size
          (refine treeW_finP ?_; (try simp only [List.map_cons]); (try simp only [List.map_nil]); (try simp only [List.getD_cons_succ]); (try simp only [List.getD_cons_zero]); (repeat (go_big_quiet_step (fail))); refine wpQuiet_nil ?_)
          replace hown3 := own_list hown3 (show _ = ints (insAt cl (k : Int) p) from by have h9 := HFN.out; simpa [List.append_assoc] using h9)
          have bq : Below w'.heap.size w' w5 := bstep bM bw5
          have hG5 : w'.grownBy w5 (some X.g) := gb_below bq
          have hC5 := HC.out.kept (Le.grown hG5) (bq.block _ HC.out.lt)
          have hGr5 := HGR.out.trans hG5
          have HO5 := Lib.hid (own_weaken (base' := w.heap.size) (own_len (n' := k + 1) hown3 (by omega)) (Nat.le_trans HGR.out.size bM.size))
          have HN3 : Hid (v3 ≠ .slice none 0 0) := Lib.hid fun h => by
            rcases own_bk HO5.out with ⟨_, h0⟩ | ⟨_, _, _, h1, _⟩
            · omega
            · rw [h] at h1; cases h1
          have HG5 := Lib.hid hGr5
          have HC5 := Lib.hid hC5
          have HI5 : Hid (∀ q, ∀ y ∈ insAt cl (k : Int) q, 0 ≤ y ∧ y ≤ 1048576) := Lib.hid fun q y hy => by
            rcases insAt_mem.1 hy with rfl | h
            · omega
            · exact HI.out y h
          have HL5 : Hid (∀ q, (insAt cl (k : Int) q).length = k + 1) := Lib.hid fun q => by rw [insAt_len, HCL.out]
          clear hown3 hown2 hown1 hG5 hC5 hGr5 bq
          go_wp2_with fail
          go_roundw
          case rel => exact ⟨k + 1, _, by omega, by go_num, HL5.out _, HG5.out, HC5.out.le (by omega), HO5.out, HN3, HI5.out _⟩
          case measure => simp [intOf]; omega
    · obtain rfl : k = n := by omega
      go_upto_region 7 with fail
      go_upto_if 33 with (first | (go_at_call 71; refine (one_ty X _ _ _ hC (by omega) (by omega)).mono ?_; rintro e w' ⟨v, rfl, hg, hC, x, rfl⟩; have hGr := hGr.trans hg; have hO := own_grown hO hg hgw))
      have HI := Lib.hid hI
      have HCL := Lib.hid hcl
      have hwr := hGr.size
      clear hI hcl
      rcases x with _ | _
      · go_wp2
        go_returns
        exact ⟨_, _, cl, rfl, hGr, hC.le (by omega), by rw [hX]; exact hO, HCL.out, by omega, HI.out⟩
      · go_wp2_with (at_builtin; refine wpList_append_own_at _ rfl (.tmp 34) (.tmp 35) 24 rfl w.heap.size 3 i0 _ 1 8 Try.underlying24 hi0 hz0 hz1 hz2 rfl (by decide) _ _ _ rfl (own_alloc hO _) ⟨_, 0, none⟩ 1 1 [.int .i64 0] rfl rfl ?e1 ?e2 ?e3 ?e4 ?e5 ?_)
        case e1 => exact ((Bk.new' (t := 3) (cs := [.int .i64 0]) (g := _) rfl).rd (k := 1) (n := 1) rfl).news
        case e2 => (intro u hu; simp at hu; subst hu; rfl)
        case e3 => (unfold maxLen; omega)
        case e4 => omega
        case e5 => (simp; omega)
        intro v' w1 hown' hgrow _ hat
        have hC := cur_own (hC.alloc _) (own_alloc hO _) hgw (Nat.le_of_eq hX) hgrow
        have hGr := gb_own (gb_alloc hGr _) (own_alloc hO _) hgrow
        have HO := Lib.hid hown'
        clear hown'
        go_wp2
        go_returns
        exact ⟨_, _, cl ++ [0], rfl, hGr, hC.le (by omega), by rw [hX, ints_snoc]; exact HO.out, by simp [HCL.out], by omega, fun z hz => by
          rcases List.mem_append.1 hz with h | h
          · exact HI.out z h
          · rw [List.mem_singleton.1 h]; decide⟩
end Go.Proofs.Ytallgjobljkgnaa
