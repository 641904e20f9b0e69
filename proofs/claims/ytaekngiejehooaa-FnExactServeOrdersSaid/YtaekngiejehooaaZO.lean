/-
  The reference serves. Conditions: lengths within the bound of a slice.
-/
import Derived.Test.YtaekngiejehooaaZN
import Derived.Maps.AppendAt
namespace Go.Proofs.Ytaekngiejehooaa
open Go.RowKit
set_option maxRecDepth 100000
set_option maxHeartbeats 4000000

theorem make_bk (W : World) (n : Nat) : Bk (W.alloc (.cells (Array.replicate n (Value.int .i64 0)) 3)) W.heap.size 3 (List.replicate n (Value.int .i64 0)) := by
  have h := Bk.new W 3 (List.replicate n (Value.int .i64 0))
  simpa using h
theorem set_id {α : Type} {l : List α} {i : Nat} {a : α} (h : l[i]? = some a) : l.set i a = l := by
  obtain ⟨hi, h1⟩ := List.getElem?_eq_some_iff.1 h
  rw [← h1, List.set_getElem_self]
theorem l1Least_of {a b v : Int} (h : min a b = v) (w : World) : Calls Try.prog 71 #[.int .i64 a, .int .i64 b] w fun e w' => e = .returned (.int .i64 v) ∧ w = w' := by
  go_enter Try.func71, Try.ntmps71
  go_wp2
  all_goals (go_returns; exact ⟨ret_int (by omega), rfl⟩)
theorem l15Serve_is {Q : List Int} {g n c gs m : Nat} {t ts : TypeId} {zs : List OrderT} {S : List StockT} {R : StT} (hv : listedB zs 10 = true) (hs : storeB S = true) (hQ : quO zs = Q) (hR : stF zs Q (List.replicate n 0, S) n = R) (w : World) (hB : Bk w g t (ordF zs)) (hl : zs.length = n) (hBs : Bk w gs ts (stkF S)) (hls : S.length = m) :
    Calls Try.prog 60 #[.slice (some ⟨g, 0, none⟩) n c, .slice (some ⟨gs, 0, none⟩) m m] w fun e w' => ∃ gG gS cp sp, e = .returned (.tuple #[.slice (some ⟨gG, 0, none⟩) n n, .slice (some ⟨gS, 0, none⟩) m cp]) ∧ w.heap.size ≤ gG ∧ w.heap.size ≤ gS ∧ gG ≠ gS ∧ Bk w' gG 3 (ints R.1) ∧ Bk w' gS 61 (stkF R.2 ++ sp) ∧ m ≤ cp ∧ cp ≤ maxLen ∧ (stkF R.2 ++ sp).length = cp * 2 ∧ Below w.heap.size w w' := by
  have HV := Lib.hid hv
  have HS := Lib.hid hs
  have HQ := Lib.hid hQ
  have HR := Lib.hid hR
  have hn10 : n ≤ 10 := by have := (listedB_iff.1 hv).2; omega
  have hm10 : m ≤ 10 := by have := (storeB_iff.1 hs).2; omega
  have hmk := make_int n (by omega)
  have hr := ord_rd hB hl
  have hrs := stk_rd hBs hls
  clear hv hs hQ hR
  obtain ⟨i0, hi0, hz0, hz1, hz2⟩ := infoS
  go_enter Try.func60, Try.ntmps60
  go_upto_region 1 with fail
  go_cut [6, 7] (fun s6 s7 wx => ∃ gG gS cp sp, s6 = .slice (some ⟨gG, 0, none⟩) n n ∧ s7 = .slice (some ⟨gS, 0, none⟩) m cp ∧ w.heap.size ≤ gG ∧ w.heap.size ≤ gS ∧ gG ≠ gS ∧ Bk wx gG 3 (ints (List.replicate n 0)) ∧ Bk wx gS 61 (stkF S ++ sp) ∧ m ≤ cp ∧ cp ≤ maxLen ∧ (stkF S ++ sp).length = cp * 2 ∧ Below w.heap.size w wx)
  case first =>
    refine wp_region_treeP (.two [0, 4] 1 (.two [] 2 (.one [] 3 (.one [] 5 (.fin [6, 7]))) 3 (.two [] 2 (.one [] 5 (.fin [6, 7])) 5 (.one [] 2 (.fin [6, 7])))) 3 (.two [] 1 (.two [] 2 (.one [] 5 (.fin [6, 7])) 5 (.one [] 2 (.fin [6, 7]))) 5 (.one [] 1 (.one [] 2 (.fin [6, 7]))))) (by kernel_rfl) (by kernel_rfl) ?_
    have cw0 : Below w.heap.size w w.drew := bdrew (Below.refl _ _)
    generalize w.drew = w0 at cw0 ⊢
    (refine treeW_twoP ?_; (try simp only [List.map_cons]); (try simp only [List.map_nil]); (try simp only [List.getD_cons_succ]); (try simp only [List.getD_cons_zero]); (repeat (go_big_quiet_step (fail))); refine wpQuiet_nil ?_; refine ⟨?_, ?_⟩)
    · go_wp2_with fail
      refine ChainPostP.mk ?_
      (refine treeW_twoP ?_; (try simp only [List.map_cons]); (try simp only [List.map_nil]); (try simp only [List.getD_cons_succ]); (try simp only [List.getD_cons_zero]); (repeat (go_big_quiet_step (fail))); refine wpQuiet_nil ?_; refine ⟨?_, ?_⟩)
      · go_wp2_with fail
        refine ChainPostP.mk ?_
        have hG := make_bk w0 n
        have cw102 := balloc cw0 (.cells (Array.replicate n (Value.int .i64 0)) 3)
        generalize w0.alloc (.cells (Array.replicate n (Value.int .i64 0)) 3) = w102 at hG cw102 ⊢
        obtain ⟨gG, hgG⟩ : ∃ q, q = w0.heap.size := ⟨_, rfl⟩
        rw [← hgG] at hG
        rw [← hgG]
        have kg : w.heap.size ≤ gG := by have := cw0.size; omega
        clear hgG
        (refine treeW_oneP ?_; (try simp only [List.map_cons]); (try simp only [List.map_nil]); (try simp only [List.getD_cons_succ]); (try simp only [List.getD_cons_zero]); (repeat (go_big_quiet_step (fail))); refine wpQuiet_nil ?_)
        go_wp2_with fail
        refine ChainPostP.mk ?_
        have hL : (w102.alloc (.cells #[] 61)).ownsRow w.heap.size 61 2 (.slice (some ⟨w102.heap.size, 0, none⟩) 0 0) 0 [] := own_lit' rfl cw102.size
        have cw103 := balloc cw102 (.cells #[] 61)
        have kne : ¬ gG = w102.heap.size := by have := hG.lt; omega
        have hG := hG.alloc (.cells #[] 61)
        generalize w102.alloc (.cells #[] 61) = w103 at hL cw103 hG ⊢
        obtain ⟨LB, hLB⟩ : ∃ q, q = w102.heap.size := ⟨_, rfl⟩
        rw [← hLB] at hL kne
        rw [← hLB]
        clear hLB
        (refine treeW_oneP ?_; (try simp only [List.map_cons]); (try simp only [List.map_nil]); (try simp only [List.getD_cons_succ]); (try simp only [List.getD_cons_zero]); (repeat (go_big_quiet_step (fail))); refine wpQuiet_nil ?_)
        go_wp2_with (at_builtin; (refine wpList_append_own_at _ rfl (.tmp 16) (.tmp 17) 25 rfl w.heap.size 61 i0 _ 2 24 Try.underlying25 hi0 hz0 hz1 hz2 rfl (by decide) _ _ _ rfl hL ⟨gs, 0, none⟩ m m (stkF S) rfl (hrs.below cw103).1 (hrs.below cw103).news (stk_one S) (by unfold maxLen; omega) (by omega) cw103.size ?_))
        intro v1 w104 hO hgr hnil hat
        go_wp2_with fail
        refine ChainPostP.mk ?_
        have cw104 : Below w.heap.size w w104 := own_grownBy hL cw103 hgr (Nat.le_refl _) cw103.size
        (try simp only [Nat.zero_add, List.nil_append] at hO)
        have hvn : v1 ≠ .slice none 0 0 := by first | exact hnil | exact fun h => (by have := hnil.1 h; simp at this)
        have kap : v1.ownBlock ≠ some gG := by
          rcases hat with h | h
          · rw [h]; simp [Value.ownBlock]; omega
          · rw [h]; have := hG.lt; simp; omega
        have hG := hG.grown hgr (by simp [Value.ownBlock]; omega)
        (refine treeW_finP ?_; (try simp only [List.map_cons]); (try simp only [List.map_nil]); (try simp only [List.getD_cons_succ]); (try simp only [List.getD_cons_zero]); (repeat (go_big_quiet_step (fail))); refine wpQuiet_nil ?_)
        go_wp2_with fail
        go_meet
        obtain ⟨gS, cp, sp, rfl, q1, q2, q3, q4, q5⟩ := stk_parts hO hvn
        exact ⟨gG, gS, cp, sp, rfl, rfl, kg, q1, fun e => kap (by rw [e]; rfl), by rw [← ints_rep]; exact hG, q2, q3, q4, q5, cw104⟩
      · go_wp2_with fail
        refine ChainPostP.mk ?_
        have hL : (w0.alloc (.cells #[] 61)).ownsRow w.heap.size 61 2 (.slice (some ⟨w0.heap.size, 0, none⟩) 0 0) 0 [] := own_lit' rfl cw0.size
        have cw105 := balloc cw0 (.cells #[] 61)
        generalize w0.alloc (.cells #[] 61) = w105 at hL cw105 ⊢
        obtain ⟨LB, hLB⟩ : ∃ q, q = w0.heap.size := ⟨_, rfl⟩
        rw [← hLB] at hL
        rw [← hLB]
        clear hLB
        (refine treeW_twoP ?_; (try simp only [List.map_cons]); (try simp only [List.map_nil]); (try simp only [List.getD_cons_succ]); (try simp only [List.getD_cons_zero]); (repeat (go_big_quiet_step (fail))); refine wpQuiet_nil ?_; refine ⟨?_, ?_⟩)
        · go_wp2_with fail
          refine ChainPostP.mk ?_
          have hG := make_bk w105 n
          have cw106 := balloc cw105 (.cells (Array.replicate n (Value.int .i64 0)) 3)
          have kne : ¬ w105.heap.size = LB := by have := (hL.lt LB rfl).2; omega
          have hL := own_alloc hL (.cells (Array.replicate n (Value.int .i64 0)) 3)
          generalize w105.alloc (.cells (Array.replicate n (Value.int .i64 0)) 3) = w106 at hG cw106 hL ⊢
          obtain ⟨gG, hgG⟩ : ∃ q, q = w105.heap.size := ⟨_, rfl⟩
          rw [← hgG] at hG kne
          rw [← hgG]
          have kg : w.heap.size ≤ gG := by have := cw105.size; omega
          clear hgG
          (refine treeW_oneP ?_; (try simp only [List.map_cons]); (try simp only [List.map_nil]); (try simp only [List.getD_cons_succ]); (try simp only [List.getD_cons_zero]); (repeat (go_big_quiet_step (fail))); refine wpQuiet_nil ?_)
          go_wp2_with (at_builtin; (refine wpList_append_own_at _ rfl (.tmp 16) (.tmp 17) 25 rfl w.heap.size 61 i0 _ 2 24 Try.underlying25 hi0 hz0 hz1 hz2 rfl (by decide) _ _ _ rfl hL ⟨gs, 0, none⟩ m m (stkF S) rfl (hrs.below cw106).1 (hrs.below cw106).news (stk_one S) (by unfold maxLen; omega) (by omega) cw106.size ?_))
          intro v1 w107 hO hgr hnil hat
          go_wp2_with fail
          refine ChainPostP.mk ?_
          have cw107 : Below w.heap.size w w107 := own_grownBy hL cw106 hgr (Nat.le_refl _) cw106.size
          (try simp only [Nat.zero_add, List.nil_append] at hO)
          have hvn : v1 ≠ .slice none 0 0 := by first | exact hnil | exact fun h => (by have := hnil.1 h; simp at this)
          have kap : v1.ownBlock ≠ some gG := by
            rcases hat with h | h
            · rw [h]; simp [Value.ownBlock]; omega
            · rw [h]; have := hG.lt; simp; omega
          have hG := hG.grown hgr (by simp [Value.ownBlock]; omega)
          (refine treeW_finP ?_; (try simp only [List.map_cons]); (try simp only [List.map_nil]); (try simp only [List.getD_cons_succ]); (try simp only [List.getD_cons_zero]); (repeat (go_big_quiet_step (fail))); refine wpQuiet_nil ?_)
          go_wp2_with fail
          go_meet
          obtain ⟨gS, cp, sp, rfl, q1, q2, q3, q4, q5⟩ := stk_parts hO hvn
          exact ⟨gG, gS, cp, sp, rfl, rfl, kg, q1, fun e => kap (by rw [e]; rfl), by rw [← ints_rep]; exact hG, q2, q3, q4, q5, cw107⟩
        · go_wp2_with (at_builtin; (refine wpList_append_own_at _ rfl (.tmp 16) (.tmp 17) 25 rfl w.heap.size 61 i0 _ 2 24 Try.underlying25 hi0 hz0 hz1 hz2 rfl (by decide) _ _ _ rfl hL ⟨gs, 0, none⟩ m m (stkF S) rfl (hrs.below cw105).1 (hrs.below cw105).news (stk_one S) (by unfold maxLen; omega) (by omega) cw105.size ?_))
          intro v1 w108 hO hgr hnil hat
          go_wp2_with fail
          refine ChainPostP.mk ?_
          have cw108 : Below w.heap.size w w108 := own_grownBy hL cw105 hgr (Nat.le_refl _) cw105.size
          (try simp only [Nat.zero_add, List.nil_append] at hO)
          have hvn : v1 ≠ .slice none 0 0 := by first | exact hnil | exact fun h => (by have := hnil.1 h; simp at this)
          (refine treeW_oneP ?_; (try simp only [List.map_cons]); (try simp only [List.map_nil]); (try simp only [List.getD_cons_succ]); (try simp only [List.getD_cons_zero]); (repeat (go_big_quiet_step (fail))); refine wpQuiet_nil ?_)
          go_wp2_with fail
          refine ChainPostP.mk ?_
          have hG := make_bk w108 n
          have cw109 := balloc cw108 (.cells (Array.replicate n (Value.int .i64 0)) 3)
          have kap : v1.ownBlock ≠ some w108.heap.size := fun e => by have := (hO.lt _ e).2; omega
          have hO := own_alloc hO (.cells (Array.replicate n (Value.int .i64 0)) 3)
          generalize w108.alloc (.cells (Array.replicate n (Value.int .i64 0)) 3) = w109 at hG cw109 hO ⊢
          obtain ⟨gG, hgG⟩ : ∃ q, q = w108.heap.size := ⟨_, rfl⟩
          rw [← hgG] at hG kap
          rw [← hgG]
          have kg : w.heap.size ≤ gG := by have := cw108.size; omega
          clear hgG
          (refine treeW_finP ?_; (try simp only [List.map_cons]); (try simp only [List.map_nil]); (try simp only [List.getD_cons_succ]); (try simp only [List.getD_cons_zero]); (repeat (go_big_quiet_step (fail))); refine wpQuiet_nil ?_)
          go_wp2_with fail
          go_meet
          obtain ⟨gS, cp, sp, rfl, q1, q2, q3, q4, q5⟩ := stk_parts hO hvn
          exact ⟨gG, gS, cp, sp, rfl, rfl, kg, q1, fun e => kap (by rw [e]; rfl), by rw [← ints_rep]; exact hG, q2, q3, q4, q5, cw109⟩
    · go_wp2_with fail
      refine ChainPostP.mk ?_
      have hL : (w0.alloc (.cells #[] 61)).ownsRow w.heap.size 61 2 (.slice (some ⟨w0.heap.size, 0, none⟩) 0 0) 0 [] := own_lit' rfl cw0.size
      have cw110 := balloc cw0 (.cells #[] 61)
      generalize w0.alloc (.cells #[] 61) = w110 at hL cw110 ⊢
      obtain ⟨LB, hLB⟩ : ∃ q, q = w0.heap.size := ⟨_, rfl⟩
      rw [← hLB] at hL
      rw [← hLB]
      clear hLB
      (refine treeW_twoP ?_; (try simp only [List.map_cons]); (try simp only [List.map_nil]); (try simp only [List.getD_cons_succ]); (try simp only [List.getD_cons_zero]); (repeat (go_big_quiet_step (fail))); refine wpQuiet_nil ?_; refine ⟨?_, ?_⟩)
      · go_wp2_with fail
        refine ChainPostP.mk ?_
        (refine treeW_twoP ?_; (try simp only [List.map_cons]); (try simp only [List.map_nil]); (try simp only [List.getD_cons_succ]); (try simp only [List.getD_cons_zero]); (repeat (go_big_quiet_step (fail))); refine wpQuiet_nil ?_; refine ⟨?_, ?_⟩)
        · go_wp2_with fail
          refine ChainPostP.mk ?_
          have hG := make_bk w110 n
          have cw112 := balloc cw110 (.cells (Array.replicate n (Value.int .i64 0)) 3)
          have kne : ¬ w110.heap.size = LB := by have := (hL.lt LB rfl).2; omega
          have hL := own_alloc hL (.cells (Array.replicate n (Value.int .i64 0)) 3)
          generalize w110.alloc (.cells (Array.replicate n (Value.int .i64 0)) 3) = w112 at hG cw112 hL ⊢
          obtain ⟨gG, hgG⟩ : ∃ q, q = w110.heap.size := ⟨_, rfl⟩
          rw [← hgG] at hG kne
          rw [← hgG]
          have kg : w.heap.size ≤ gG := by have := cw110.size; omega
          clear hgG
          (refine treeW_oneP ?_; (try simp only [List.map_cons]); (try simp only [List.map_nil]); (try simp only [List.getD_cons_succ]); (try simp only [List.getD_cons_zero]); (repeat (go_big_quiet_step (fail))); refine wpQuiet_nil ?_)
          go_wp2_with (at_builtin; (refine wpList_append_own_at _ rfl (.tmp 16) (.tmp 17) 25 rfl w.heap.size 61 i0 _ 2 24 Try.underlying25 hi0 hz0 hz1 hz2 rfl (by decide) _ _ _ rfl hL ⟨gs, 0, none⟩ m m (stkF S) rfl (hrs.below cw112).1 (hrs.below cw112).news (stk_one S) (by unfold maxLen; omega) (by omega) cw112.size ?_))
          intro v1 w113 hO hgr hnil hat
          go_wp2_with fail
          refine ChainPostP.mk ?_
          have cw113 : Below w.heap.size w w113 := own_grownBy hL cw112 hgr (Nat.le_refl _) cw112.size
          (try simp only [Nat.zero_add, List.nil_append] at hO)
          have hvn : v1 ≠ .slice none 0 0 := by first | exact hnil | exact fun h => (by have := hnil.1 h; simp at this)
          have kap : v1.ownBlock ≠ some gG := by
            rcases hat with h | h
            · rw [h]; simp [Value.ownBlock]; omega
            · rw [h]; have := hG.lt; simp; omega
          have hG := hG.grown hgr (by simp [Value.ownBlock]; omega)
          (refine treeW_finP ?_; (try simp only [List.map_cons]); (try simp only [List.map_nil]); (try simp only [List.getD_cons_succ]); (try simp only [List.getD_cons_zero]); (repeat (go_big_quiet_step (fail))); refine wpQuiet_nil ?_)
          go_wp2_with fail
          go_meet
          obtain ⟨gS, cp, sp, rfl, q1, q2, q3, q4, q5⟩ := stk_parts hO hvn
          exact ⟨gG, gS, cp, sp, rfl, rfl, kg, q1, fun e => kap (by rw [e]; rfl), by rw [← ints_rep]; exact hG, q2, q3, q4, q5, cw113⟩
        · go_wp2_with (at_builtin; (refine wpList_append_own_at _ rfl (.tmp 16) (.tmp 17) 25 rfl w.heap.size 61 i0 _ 2 24 Try.underlying25 hi0 hz0 hz1 hz2 rfl (by decide) _ _ _ rfl hL ⟨gs, 0, none⟩ m m (stkF S) rfl (hrs.below cw110).1 (hrs.below cw110).news (stk_one S) (by unfold maxLen; omega) (by omega) cw110.size ?_))
          intro v1 w114 hO hgr hnil hat
          go_wp2_with fail
          refine ChainPostP.mk ?_
          have cw114 : Below w.heap.size w w114 := own_grownBy hL cw110 hgr (Nat.le_refl _) cw110.size
          (try simp only [Nat.zero_add, List.nil_append] at hO)
          have hvn : v1 ≠ .slice none 0 0 := by first | exact hnil | exact fun h => (by have := hnil.1 h; simp at this)
          (refine treeW_oneP ?_; (try simp only [List.map_cons]); (try simp only [List.map_nil]); (try simp only [List.getD_cons_succ]); (try simp only [List.getD_cons_zero]); (repeat (go_big_quiet_step (fail))); refine wpQuiet_nil ?_)
          go_wp2_with fail
          refine ChainPostP.mk ?_
          have hG := make_bk w114 n
          have cw115 := balloc cw114 (.cells (Array.replicate n (Value.int .i64 0)) 3)
          have kap : v1.ownBlock ≠ some w114.heap.size := fun e => by have := (hO.lt _ e).2; omega
          have hO := own_alloc hO (.cells (Array.replicate n (Value.int .i64 0)) 3)
          generalize w114.alloc (.cells (Array.replicate n (Value.int .i64 0)) 3) = w115 at hG cw115 hO ⊢
          obtain ⟨gG, hgG⟩ : ∃ q, q = w114.heap.size := ⟨_, rfl⟩
          rw [← hgG] at hG kap
          rw [← hgG]
          have kg : w.heap.size ≤ gG := by have := cw114.size; omega
          clear hgG
          (refine treeW_finP ?_; (try simp only [List.map_cons]); (try simp only [List.map_nil]); (try simp only [List.getD_cons_succ]); (try simp only [List.getD_cons_zero]); (repeat (go_big_quiet_step (fail))); refine wpQuiet_nil ?_)
          go_wp2_with fail
          go_meet
          obtain ⟨gS, cp, sp, rfl, q1, q2, q3, q4, q5⟩ := stk_parts hO hvn
          exact ⟨gG, gS, cp, sp, rfl, rfl, kg, q1, fun e => kap (by rw [e]; rfl), by rw [← ints_rep]; exact hG, q2, q3, q4, q5, cw115⟩
      · go_wp2_with (at_builtin; (refine wpList_append_own_at _ rfl (.tmp 16) (.tmp 17) 25 rfl w.heap.size 61 i0 _ 2 24 Try.underlying25 hi0 hz0 hz1 hz2 rfl (by decide) _ _ _ rfl hL ⟨gs, 0, none⟩ m m (stkF S) rfl (hrs.below cw110).1 (hrs.below cw110).news (stk_one S) (by unfold maxLen; omega) (by omega) cw110.size ?_))
        intro v1 w116 hO hgr hnil hat
        go_wp2_with fail
        refine ChainPostP.mk ?_
        have cw116 : Below w.heap.size w w116 := own_grownBy hL cw110 hgr (Nat.le_refl _) cw110.size
        (try simp only [Nat.zero_add, List.nil_append] at hO)
        have hvn : v1 ≠ .slice none 0 0 := by first | exact hnil | exact fun h => (by have := hnil.1 h; simp at this)
        (refine treeW_oneP ?_; (try simp only [List.map_cons]); (try simp only [List.map_nil]); (try simp only [List.getD_cons_succ]); (try simp only [List.getD_cons_zero]); (repeat (go_big_quiet_step (fail))); refine wpQuiet_nil ?_)
        go_wp2_with fail
        refine ChainPostP.mk ?_
        (refine treeW_oneP ?_; (try simp only [List.map_cons]); (try simp only [List.map_nil]); (try simp only [List.getD_cons_succ]); (try simp only [List.getD_cons_zero]); (repeat (go_big_quiet_step (fail))); refine wpQuiet_nil ?_)
        go_wp2_with fail
        refine ChainPostP.mk ?_
        have hG := make_bk w116 n
        have cw118 := balloc cw116 (.cells (Array.replicate n (Value.int .i64 0)) 3)
        have kap : v1.ownBlock ≠ some w116.heap.size := fun e => by have := (hO.lt _ e).2; omega
        have hO := own_alloc hO (.cells (Array.replicate n (Value.int .i64 0)) 3)
        generalize w116.alloc (.cells (Array.replicate n (Value.int .i64 0)) 3) = w118 at hG cw118 hO ⊢
        obtain ⟨gG, hgG⟩ : ∃ q, q = w116.heap.size := ⟨_, rfl⟩
        rw [← hgG] at hG kap
        rw [← hgG]
        have kg : w.heap.size ≤ gG := by have := cw116.size; omega
        clear hgG
        (refine treeW_finP ?_; (try simp only [List.map_cons]); (try simp only [List.map_nil]); (try simp only [List.getD_cons_succ]); (try simp only [List.getD_cons_zero]); (repeat (go_big_quiet_step (fail))); refine wpQuiet_nil ?_)
        go_wp2_with fail
        go_meet
        obtain ⟨gS, cp, sp, rfl, q1, q2, q3, q4, q5⟩ := stk_parts hO hvn
        exact ⟨gG, gS, cp, sp, rfl, rfl, kg, q1, fun e => kap (by rw [e]; rfl), by rw [← ints_rep]; exact hG, q2, q3, q4, q5, cw118⟩
  case rest =>
    obtain ⟨gG, gS, cp, sp, rfl, rfl, k1, k2, k3, hG1, hS1, k4, k5, k6, c1⟩ := hcut
    have HG1 := Lib.hid hG1
    have HS1 := Lib.hid hS1
    clear hmk
    go_wp2_with fail
    refine (l15Queue_is HV.out HQ.out _ (hr.below c1) hl).mono ?_
    rintro e w2 ⟨v2, rfl, ho2, hnn, hb2⟩
    have b2 := bstep c1 hb2
    rcases own_bk ho2 with ⟨hv, _⟩ | ⟨gQ, cq, qs, rfl, hbq, hBq, _, _, _, h4⟩
    · exact absurd hv hnn
    have hQl : Q.length = n := by rw [← HQ.out, quO_len, hl]
    have hcell : ∀ (k : Nat) (h : k < Q.length), qs[k]? = some (.int .i64 Q[k]) := fun k h => by
      have h5 : (qs.take (n * 1))[k]? = some (.int .i64 Q[k]) := by rw [h4, ints_get Q k h]
      rwa [List.getElem?_take_of_lt (by omega)] at h5
    have hQm : ∀ y ∈ Q, ∃ i : Nat, i < zs.length ∧ y = (i : Int) := fun y hy => quO_mem (HQ.out ▸ hy)
    have hinv := inv_stF (s := (List.replicate n 0, S)) HV.out hQm (⟨by simp, rfl, store_bd HS.out⟩ : inv n S (List.replicate n 0, S))
    have HINV := Lib.hid hinv
    have HQM := Lib.hid hQm
    have HQL := Lib.hid hQl
    have HC := Lib.hid hcell
    have HBQ := Lib.hid hBq
    have hgx : ¬ gG = gQ := by have := hG1.lt; omega
    have hgy : ¬ gS = gQ := by have := hS1.lt; omega
    have HG2 := Lib.hid (HG1.out.below hb2 HG1.out.lt)
    have HS2 := Lib.hid (HS1.out.below hb2 HS1.out.lt)
    clear ho2 hnn h4 hcell hBq hQm hQl hinv hG1 hS1
    go_wp2_with fail
    go_loopw [9] (fun i wr => ∃ k : Nat, k ≤ n ∧ i = .int .i64 k ∧ Hid (Bk wr gG 3 (ints (stF zs Q (List.replicate n 0, S) k).1)) ∧ Hid (Bk wr gS 61 (stkF (stF zs Q (List.replicate n 0, S) k).2 ++ sp)) ∧ Hid ((stkF (stF zs Q (List.replicate n 0, S) k).2 ++ sp).length = cp * 2) ∧ Hid (Bk wr gQ 3 qs) ∧ Below w.heap.size w wr) (fun i _ => n - (intOf i).toNat)
    case atStart => exact ⟨0, Nat.zero_le _, rfl, HG2, HS2, Lib.hid k6, HBQ, b2⟩
    case round =>
      obtain ⟨k, hk, rfl, HG, HSS, HLN, HBQ, hW⟩ := hrel
      by_cases hlt : k < n
      · have hkq : k < Q.length := by have := HQL.out; omega
        obtain ⟨i, hi, hqi⟩ := HQM.out Q[k] (List.getElem_mem hkq)
        have hc0 := HBQ.out.cell k
        rw [HC.out k hkq, hqi] at hc0
        have hst := stF_succ (zs := zs) (s := (List.replicate n 0, S)) hkq hqi
        have hiv := HINV.out k (by omega)
        obtain ⟨st, hste⟩ : ∃ st, stF zs Q (List.replicate n 0, S) k = st := ⟨_, rfl⟩
        rw [hste] at hst hiv
        have hG := HG.out
        have hS := HSS.out
        have hLn := HLN.out
        rw [hste] at hG hS hLn
        have hsl : st.2.length = m := by rw [inv_len hiv, hls]
        obtain ⟨b, off, hbe, hbl, x0, x1, x2, x3, x4, hz, d0, d1, d2, d3, d4⟩ := ord_at hr hW hl (k := i) (by omega)
        simp only [Option.some.injEq, Addr.mk.injEq, and_true] at hbe
        obtain ⟨rfl, rfl⟩ := hbe
        simp only [Nat.zero_add] at d0 d1 d2 d3 d4
        have hcnt := ord_cnt HV.out hi hz
        have HST := Lib.hid hst
        have HIV := Lib.hid hiv
        have HSL := Lib.hid hsl
        have HZ := Lib.hid hz
        have HCN := Lib.hid hcnt
        have HG := Lib.hid hG
        have HS3 := Lib.hid hS
        have HLN2 := Lib.hid hLn
        have HC0 := Lib.hid hc0
        have hgl : gQ < wr.heap.size := HBQ.out.lt
        have hg1 : g < wr.heap.size := Nat.lt_of_lt_of_le hbl hW.size
        have i1 : (0 : Int) ≤ (k : Int) := by omega
        have i2 : (k : Int) < (n : Int) := by omega
        have i3 : (0 : Int) ≤ (i : Int) := by omega
        have i4 : (i : Int) < (n : Int) := by omega
        obtain ⟨wo, rfl⟩ : ∃ wo, wo = wr := ⟨_, rfl⟩
        clear hst hiv hsl hz hcnt hG hS hLn hste HSS HLN
        go_upto_region 7 with fail
        refine wp_gen (fun w3 => Bk w3 wo.heap.size 46 [.int .i64 x0, .string x1, .int .i64 x2, .int .i64 x3, .int .i64 x4] ∧ Below wo.heap.size wo w3) ⟨Bk.new' rfl, by (repeat' (first | (with_reducible exact Below.refl _ _) | (with_reducible assumption) | (with_reducible refine balloc ?_ _) | (with_reducible refine bdrew ?_) | (with_reducible refine bdrewN ?_ _) | (with_reducible refine bstep ?_ (by assumption)) | (with_reducible refine bset ?_ ?_ _) | (exact Below.size (by assumption)) | go_size))⟩ ?_
        intro w3 ⟨hI, c3⟩
        have b3 := bstep hW c3
        have nI : ∀ q, q < wo.heap.size → ¬ q = wo.heap.size := fun q h e => by omega
        have nG := nI gG HG.out.lt
        have nS := nI gS HS3.out.lt
        have nQ := nI gQ HBQ.out.lt
        have HI := Lib.hid hI
        have HG3 := Lib.hid (HG.out.below c3 HG.out.lt)
        have HS4 := Lib.hid (HS3.out.below c3 HS3.out.lt)
        have HBQ3 := Lib.hid (HBQ.out.below c3 HBQ.out.lt)
        clear hc0 hI d0 d1 d2 d3 d4 hgl hg1
        go_wp2_with fail
        go_loopw [11] (fun jv wr => ∃ (j : Nat) (s : StT), j ≤ m ∧ jv = .int .i64 j ∧ Hid ((s = st ∧ ∀ f (h : f < st.2.length), f < j → st.2[f].1 ≠ x1) ∨ (s = stp zs st i ∧ ∃ f, ∃ h : f < st.2.length, f < j ∧ st.2[f].1 = x1)) ∧ Hid (Bk wr gG 3 (ints s.1)) ∧ Hid (Bk wr gS 61 (stkF s.2 ++ sp)) ∧ Hid ((stkF s.2 ++ sp).length = cp * 2) ∧ Hid (Bk wr gQ 3 qs) ∧ Hid (Bk wr wo.heap.size 46 [.int .i64 x0, .string x1, .int .i64 x2, .int .i64 x3, .int .i64 x4]) ∧ Below w.heap.size w wr) (fun jv _ => m - (intOf jv).toNat)
        case atStart => exact ⟨0, st, Nat.zero_le _, rfl, Lib.hid (.inl ⟨rfl, fun f _ h => absurd h (Nat.not_lt_zero _)⟩), HG3, HS4, HLN2, HBQ3, HI, b3⟩
        case round =>
          obtain ⟨j, s, hj, rfl, HD, HGr, HSr, HLr, HQr, HIr, hW3⟩ := hrel
          have hsiv : inv n S s := by
            rcases HD.out with ⟨rfl, _⟩ | ⟨rfl, _⟩
            · exact HIV.out
            · exact inv_stp HV.out hi HIV.out
          have hsl2 : s.2.length = m := by rw [inv_len hsiv, hls]
          by_cases hlj : j < m
          · have hjl : j < s.2.length := by omega
            rcases hsf : s.2[j] with ⟨kk, cc⟩
            have hk1 := inv_kind hsiv hjl
            have hcc := hsiv.2.2 _ (hsf ▸ List.getElem_mem hjl)
            simp only at hcc
            rw [hsf] at hk1
            obtain ⟨t0, t1⟩ := stk_row HSr.out hjl hsf
            obtain ⟨y0, y1, y2, y3, y4, yl⟩ := five_cells HIr.out
            have HSF := Lib.hid hsf
            have s1 : gS < wr.heap.size := HSr.out.lt
            have s2 : gG < wr.heap.size := HGr.out.lt
            have i5 : (0 : Int) ≤ (j : Int) := by omega
            have i6 : (j : Int) < (m : Int) := by omega
            have j4 : (j : Int) < (cp : Int) := by omega
            by_cases he : kk = x1
            · subst he
              have hs1 : s = st ∧ ∀ f (h : f < st.2.length), f < j → st.2[f].1 ≠ kk := by
                rcases HD.out with h | ⟨_, f, hf, hfj, hfk⟩
                · exact h
                · exfalso
                  have h1 := inv_kind HIV.out hf
                  exact store_ne HS.out hfj (by omega) (h1.symm.trans (hfk.trans hk1))
              obtain ⟨rfl, hno⟩ := hs1
              have hyes := stp_yes (s := s) (by omega) HZ.out hjl HSF.out (fun f hf => hno f (by omega) hf)
              obtain ⟨mn, hmn⟩ : ∃ mn, min cc x2 = mn := ⟨_, rfl⟩
              rw [hmn] at hyes
              have hmn2 : min x2 cc = mn := by rw [← hmn]; omega
              have hmb : 0 ≤ mn ∧ mn ≤ cc := by have := HCN.out; rw [← hmn]; omega
              have HYS := Lib.hid hyes
              have hiv2 := inv_put (i := i) (v := mn) hsiv hjl HSF.out (show 0 ≤ cc - mn ∧ cc - mn ≤ 99 by omega)
              have HI2 := Lib.hid hiv2
              have hd : (kk.toList == kk.toList) = true := by simp
              have hL := fun V => l1Least_of hmn2 V
              have HSI := Lib.hid hsiv
              clear hyes hmn hno hk1 hsf hiv2 hmn2 hsiv
              go_wp2
              (refine wp_region_bel (by kernel_rfl) (by kernel_rfl) ?_; (repeat (go_big_quiet_step ((first | fail)))); refine wpQuiet_nil ?_; intro w' hw'; have hb := below_of hw'; clear hw'; (try clear cW fW zW); (first | (have bW := bstep bW hb) | (have bW := bstep (bdrew bW) hb) | (have bW := bstep (balloc bW _) hb) | (have bW := bstep (bdrewN bW _) hb) | (have bW := hb)); clear hb; obtain ⟨cW, fW⟩ := bcell bW; have zW := bsize bW)
              go_wp2
              (refine wp_region_bel (by kernel_rfl) (by kernel_rfl) ?_; (repeat (go_big_quiet_step ((first | (go_at_call 71; exact calls_bel_same (hL _)))))); refine wpQuiet_nil ?_; intro w' hw'; have hb := below_of hw'; clear hw'; (try clear cW fW zW); (first | (have bW := bstep bW hb) | (have bW := bstep (bdrew bW) hb) | (have bW := bstep (balloc bW _) hb) | (have bW := bstep (bdrewN bW _) hb) | (have bW := hb)); clear hb; obtain ⟨cW, fW⟩ := bcell bW; have zW := bsize bW)
              have b5 := bstep hW3 bW
              have hGw := HGr.out.below bW HGr.out.lt
              have f1 := hGw.frozen i
              have hil : i < s.1.length := by have := HSI.out.1; omega
              have cG := hGw.cell i
              rw [ints_get _ i hil] at cG
              have sG := hGw.lt
              have hQw := HQr.out.below bW HQr.out.lt
              have cQ := hQw.cell k
              rw [HC.out k hkq, hqi] at cQ
              have sQ := hQw.lt
              have hGs := hGw.set_ i (.int .i64 mn)
              rw [← ints_set] at hGs
              have hSs := (HSr.out.below bW HSr.out.lt).far (p := ⟨gG, i, none⟩) (fun e => k3 e.symm) (.int .i64 mn)
              have hQs := hQw.far (p := ⟨gG, i, none⟩) (fun e => hgx e.symm) (.int .i64 mn)
              have hIs := (HIr.out.below bW HIr.out.lt).far (p := ⟨gG, i, none⟩) (fun e => nG e.symm) (.int .i64 mn)
              have bS := bset b5 (p := ⟨gG, i, none⟩) (show w.heap.size ≤ gG by omega) (.int .i64 mn)
              have HGs := Lib.hid hGs
              have HSs := Lib.hid hSs
              have HQs := Lib.hid hQs
              have HIs := Lib.hid hIs
              clear hGs hSs hQs hIs cW fW zW t0 t1 y0 y1 y2 y3 y4 yl s1 s2
              go_upto_region 13 with fail
              refine wp_gen (fun w6 => Bk w6 gG 3 (ints (s.1.set i mn)) ∧ Bk w6 gS 61 (stkF s.2 ++ sp) ∧ Bk w6 gQ 3 qs ∧ Bk w6 wo.heap.size 46 [.int .i64 x0, .string kk, .int .i64 x2, .int .i64 x3, .int .i64 x4] ∧ Below w.heap.size w w6) ⟨HGs.out, HSs.out, HQs.out, HIs.out, bS⟩ ?_
              intro w6 ⟨hG6, hS6, hQ6, hI6, b6⟩
              clear HGs HSs HQs HIs bS f1 cG sG hGw bW b5 hQw cQ sQ
              obtain ⟨t0, t1⟩ := stk_row hS6 hjl HSF.out
              obtain ⟨y0, y1, y2, y3, y4, yl⟩ := five_cells hI6
              have s1 : gS < w6.heap.size := hS6.lt
              have hwr : IntKind.i64.wrap (cc - mn) = cc - mn := i64_wrap (by omega) (by omega)
              have HG6 := Lib.hid hG6
              have HS6 := Lib.hid hS6
              have HQ6 := Lib.hid hQ6
              have HI6 := Lib.hid hI6
              clear hG6 hS6 hQ6 hI6
              go_wp2
              (refine wp_region_bel_tail 13 (by kernel_rfl) (by kernel_rfl) ?_; (simp only [List.take_succ_cons, List.take_zero, List.drop_succ_cons, List.drop_zero]); (repeat (go_big_quiet_step ((first | fail)))); refine wpQuiet_nil ?_; intro w' hw'; have hb := below_of hw'; clear hw'; (try clear cW fW zW); (first | (have bW := bstep bW hb) | (have bW := bstep (bdrew bW) hb) | (have bW := bstep (balloc bW _) hb) | (have bW := bstep (bdrewN bW _) hb) | (have bW := hb)); clear hb; obtain ⟨cW, fW⟩ := bcell bW; have zW := bsize bW)
              have b7 := bstep b6 bW
              have hSw := HS6.out.below bW HS6.out.lt
              have f1 := hSw.frozen (j * 2)
              have f2 := hSw.frozen (j * 2 + 1)
              obtain ⟨u0, u1⟩ := stk_row hSw hjl HSF.out
              have sS := hSw.lt
              clear cW fW zW t0 t1 y0 y1 y2 y3 y4 yl s1
              have e0 : (stkF s.2 ++ sp)[j * 2]? = some (.string kk) := by rw [← hSw.cell]; exact u0
              have hSa := hSw.set_ (j * 2) (.string kk)
              rw [set_id e0] at hSa
              have hSs := hSa.set_ (j * 2 + 1) (.int .i64 (cc - mn))
              rw [stk_set hjl HSF.out] at hSs
              have hGs := ((HG6.out.below bW HG6.out.lt).far (p := ⟨gS, j * 2, none⟩) k3 (.string kk)).far (p := ⟨gS, j * 2 + 1, none⟩) k3 (.int .i64 (cc - mn))
              have hQs := ((HQ6.out.below bW HQ6.out.lt).far (p := ⟨gS, j * 2, none⟩) (fun e => hgy e.symm) (.string kk)).far (p := ⟨gS, j * 2 + 1, none⟩) (fun e => hgy e.symm) (.int .i64 (cc - mn))
              have hIs := ((HI6.out.below bW HI6.out.lt).far (p := ⟨gS, j * 2, none⟩) (fun e => nS e.symm) (.string kk)).far (p := ⟨gS, j * 2 + 1, none⟩) (fun e => nS e.symm) (.int .i64 (cc - mn))
              have bS := bset (bset b7 (p := ⟨gS, j * 2, none⟩) (show w.heap.size ≤ gS by omega) (.string kk)) (p := ⟨gS, j * 2 + 1, none⟩) (show w.heap.size ≤ gS by omega) (.int .i64 (cc - mn))
              have hln : (stkF (s.2.set j (kk, cc - mn)) ++ sp).length = cp * 2 := by rw [stk_len]; exact HLr.out
              have HD2 : Hid ((stp zs s i = s ∧ ∀ f (h : f < s.2.length), f < j + 1 → s.2[f].1 ≠ kk) ∨ (stp zs s i = stp zs s i ∧ ∃ f, ∃ h : f < s.2.length, f < j + 1 ∧ s.2[f].1 = kk)) := Lib.hid (.inr ⟨rfl, j, hjl, by omega, by rw [HSF.out]⟩)
              have HGs := Lib.hid hGs
              have HSs := Lib.hid hSs
              have HQs := Lib.hid hQs
              have HIs := Lib.hid hIs
              have HLs := Lib.hid hln
              clear hGs hSs hQs hIs hln hSa e0
              go_wp2
              go_roundw
              case rel => exact ⟨j + 1, stp zs s i, by omega, by go_num, HD2, by rw [HYS.out]; exact HGs, by rw [HYS.out]; exact HSs, by rw [HYS.out]; exact HLs, HQs, HIs, bS⟩
              case measure => simp [intOf]; omega
            · have hd : (kk.toList == x1.toList) = false := str_no he
              have HN : Hid ((s = st ∧ ∀ f (h : f < st.2.length), f < j + 1 → st.2[f].1 ≠ x1) ∨ (s = stp zs st i ∧ ∃ f, ∃ h : f < st.2.length, f < j + 1 ∧ st.2[f].1 = x1)) := Lib.hid (by
                rcases HD.out with ⟨h1, h2⟩ | ⟨h1, f, hf, hfj, hfk⟩
                · refine .inl ⟨h1, fun f hf hfj => ?_⟩
                  by_cases h9 : f < j
                  · exact h2 f hf h9
                  · have : f = j := by omega
                    subst this
                    have h3 := inv_kind HIV.out hf
                    rw [h3, ← hk1]; exact he
                · exact .inr ⟨h1, f, hf, by omega, hfk⟩)
              clear hk1 hsf he hsiv hsl2
              go_wp2
              (refine wp_region_bel (by kernel_rfl) (by kernel_rfl) ?_; (repeat (go_big_quiet_step ((first | fail)))); refine wpQuiet_nil ?_; intro w' hw'; have hb := below_of hw'; clear hw'; (try clear cW fW zW); (first | (have bW := bstep bW hb) | (have bW := bstep (bdrew bW) hb) | (have bW := bstep (balloc bW _) hb) | (have bW := bstep (bdrewN bW _) hb) | (have bW := hb)); clear hb; obtain ⟨cW, fW⟩ := bcell bW; have zW := bsize bW)
              have HGr := Lib.hid (HGr.out.below bW HGr.out.lt)
              have HSr := Lib.hid (HSr.out.below bW HSr.out.lt)
              have HQr := Lib.hid (HQr.out.below bW HQr.out.lt)
              have HIr := Lib.hid (HIr.out.below bW HIr.out.lt)
              go_wp2
              go_roundw
              case rel => exact ⟨j + 1, s, by omega, by go_num, HN, HGr, HSr, HLr, HQr, HIr, bstep hW3 bW⟩
              case measure => simp [intOf]; omega
          · obtain rfl : j = m := by omega
            have hfin : s = stp zs st i := by
              rcases HD.out with ⟨rfl, h2⟩ | ⟨h1, _⟩
              · exact (stp_no (s := s) (by omega) HZ.out (fun f hf => h2 f hf (by omega))).symm
              · exact h1
            rw [← HST.out] at hfin
            have HF := Lib.hid hfin
            clear hfin hsiv hsl2
            go_wp2
            go_roundw
            case rel => exact ⟨k + 1, by omega, by go_num, by rw [← HF.out]; exact HGr, by rw [← HF.out]; exact HSr, by rw [← HF.out]; exact HLr, HQr, hW3⟩
            case measure => simp [intOf]; omega
      · obtain rfl : k = n := by omega
        have hfin := HR.out
        have hG := HG.out
        have hS := HSS.out
        have hLn := HLN.out
        rw [hfin] at hG hS hLn
        have HG := Lib.hid hG
        have HSS := Lib.hid hS
        have HLN := Lib.hid hLn
        clear hG hS hLn hfin
        go_wp2
        go_returns
        exact ⟨gG, gS, cp, sp, rfl, by omega, by omega, k3, HG.out, HSS.out, k4, k5, HLN.out, hW⟩
end Go.Proofs.Ytaekngiejehooaa
