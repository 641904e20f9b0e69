/-
  The program serves: rows that it lays. Conditions: lengths within the bound of a slice.
-/
import Derived.Test.YtaekngiejehooaaZL
import Derived.Test.YtaekngiejehooaaQ
namespace Go.Proofs.Ytaekngiejehooaa
open Go.RowKit
set_option maxRecDepth 100000
set_option maxHeartbeats 4000000

theorem infoS : ∃ i, Try.prog.info? 61 = some i ∧ i.zero = some (.agg #[.string ⟨#[]⟩, .int .i64 0]) ∧ i.size = 2 ∧ i.bytes = 24 := by
  obtain ⟨i0, hi0, hz0, hz1, hz2⟩ := info_parts (show (Try.prog.info? 61).map (fun i => (i.zero, i.size, i.bytes)) = some (some (.agg #[.string ⟨#[]⟩, .int .i64 0]), 2, 24) from by kernel_rfl)
  exact ⟨i0, hi0, hz0, hz1, hz2⟩
theorem stk_one (S : List StockT) : ∀ u ∈ stkF S, u.oneCell' = true := by
  intro u hu
  obtain ⟨z, _, hz⟩ := List.mem_flatMap.1 hu
  simp [stkE] at hz
  rcases hz with rfl | rfl <;> rfl
theorem copyStk_any (g m c : Nat) (t : TypeId) (S : List StockT) (w : World) (hB : Bk w g t (stkF S)) (hl : S.length = m) (hm : m ≤ 1048577) :
    Calls Try.prog 72 #[.slice (some ⟨g, 0, none⟩) m c] w fun e w' => ∃ v, e = .returned v ∧ w'.ownsRow w.heap.size 61 2 v m (stkF S) ∧ v ≠ .slice none 0 0 ∧ Below w.heap.size w w' := by
  obtain ⟨i0, hi0, hz0, hz1, hz2⟩ := infoS
  have hr := stk_rd hB hl
  go_enter Try.func72, Try.ntmps72
  go_wp2_with (at_builtin; refine wpList_append_own _ rfl (.tmp 3) (.tmp 4) 25 rfl w.heap.size 61 i0 _ 2 24 Try.underlying25 hi0 hz0 hz1 hz2 rfl (by decide) (.slice (some ⟨w.heap.size, 0, none⟩) 0 0) 0 [] rfl (own_lit' rfl (Nat.le_refl _)) ⟨g, 0, none⟩ m c (stkF S) rfl hr.1 (hr.below (by (repeat' (first | (with_reducible exact Below.refl _ _) | (with_reducible assumption) | (with_reducible refine balloc ?_ _) | (with_reducible refine bdrew ?_) | (with_reducible refine bdrewN ?_ _) | (with_reducible refine bstep ?_ (by assumption)) | (with_reducible refine bset ?_ ?_ _) | (exact Below.size (by assumption)) | go_size)))).news (stk_one S) (by unfold maxLen; omega) (by omega) (by simp) ?_; intro v1 w1 hown1 hgr1 hnil)
  go_returns
  refine ⟨_, rfl, by simpa using hown1, fun h => by have := hnil.1 h; simp at this, ?_⟩
  exact Below.grown (by (repeat' (first | (with_reducible exact Below.refl _ _) | (with_reducible assumption) | (with_reducible refine balloc ?_ _) | (with_reducible refine bdrew ?_) | (with_reducible refine bdrewN ?_ _) | (with_reducible refine bstep ?_ (by assumption)) | (with_reducible refine bset ?_ ?_ _) | (exact Below.size (by assumption)) | go_size))) hgr1 (by simp) (fun k e => by cases e; exact Nat.le_refl _)
theorem make_int (n : Nat) (hn : n ≤ 1048577) : ∀ W : World, (Instr.makeSlice 49 (.int .i64 (n : Int)) (.int .i64 (n : Int))).run Try.prog W = .ok (.slice (some ⟨W.heap.size, 0, none⟩) n n) (W.alloc (.cells (List.replicate n (Value.int .i64 0)).toArray 3)) := by
  intro W
  obtain ⟨i0, hi0, hz0, hz1, hz2⟩ := info_parts (show (Try.prog.info? 3).map (fun i => (i.zero, i.size, i.bytes)) = some (some (.int .i64 0), 1, 8) from by kernel_rfl)
  have h := run_make (P := Try.prog) W 49 3 i0 (.int .i64 0) Try.underlying49 hi0 hz0 .i64 .i64 n n (by omega) (by omega) (by rw [hz2]; omega) (by omega)
  rw [hz1] at h
  simpa [Value.cells, madeCells_one] using h
theorem ints_rep (n : Nat) : List.replicate n (Value.int .i64 0) = ints (List.replicate n 0) := by unfold ints; rw [List.map_replicate]
theorem stk_parts {w : World} {base m : Nat} {t : TypeId} {v : Value} {S : List StockT} (h : w.ownsRow base t 2 v m (stkF S)) (hv : v ≠ .slice none 0 0) : ∃ gS cp sp, v = .slice (some ⟨gS, 0, none⟩) m cp ∧ base ≤ gS ∧ Bk w gS t (stkF S ++ sp) ∧ m ≤ cp ∧ cp ≤ maxLen ∧ (stkF S ++ sp).length = cp * 2 := by
  rcases own_bk h with ⟨h0, _⟩ | ⟨g, cap, cs, rfl, hb, hB, h1, h2, h3, h4⟩
  · exact absurd h0 hv
  · have e : stkF S ++ cs.drop (m * 2) = cs := by rw [← h4]; exact List.take_append_drop _ _
    exact ⟨g, cap, cs.drop (m * 2), rfl, hb, by rw [e]; exact hB, h1, h2, by rw [e]; exact h3⟩
theorem stk_row {w : World} {g : Nat} {t : TypeId} {ys : List StockT} {rest : List Value} (hB : Bk w g t (stkF ys ++ rest)) {k : Nat} (hk : k < ys.length) {x0 : ByteArray} {x1 : Int} (hx : ys[k] = (x0, x1)) :
    w.cell? ⟨g, k * 2, none⟩ = some (.string x0) ∧ w.cell? ⟨g, k * 2 + 1, none⟩ = some (.int .i64 x1) := by
  have hg : ∀ j, j < 2 → w.cell? ⟨g, k * 2 + j, none⟩ = (stkE (x0, x1))[j]? := fun j hj => by
    rw [hB.cell, List.getElem?_append_left (by rw [stkF_len]; omega)]
    rw [← hx]; exact flat_get stkE_len ys k j hk hj
  exact ⟨hg 0 (by omega), hg 1 (by omega)⟩
theorem stk_set {ys : List StockT} {rest : List Value} {k : Nat} (hk : k < ys.length) {x0 : ByteArray} {x1 y : Int} (hx : ys[k] = (x0, x1)) : (stkF ys ++ rest).set (k * 2 + 1) (.int .i64 y) = stkF (ys.set k (x0, y)) ++ rest := by
  have e0 : ys = ys.take k ++ (x0, x1) :: ys.drop (k + 1) := by
    conv => lhs; rw [← List.take_append_drop k ys, List.drop_eq_getElem_cons hk, hx]
  have hL : (ys.take k).length = k := by rw [List.length_take]; omega
  have e1 : ys.set k (x0, y) = ys.take k ++ (x0, y) :: ys.drop (k + 1) := by
    conv => lhs; rw [e0]
    rw [List.set_append_right _ _ (by omega), hL, Nat.sub_self]; rfl
  have hL2 : (stkF (ys.take k)).length = k * 2 := by rw [stkF_len, hL]
  have e2 : ∀ z : StockT, stkF (ys.take k ++ z :: ys.drop (k + 1)) ++ rest = stkF (ys.take k) ++ (stkE z ++ (stkF (ys.drop (k + 1)) ++ rest)) := fun z => by simp [stkF]
  rw [e1, e2]
  conv => lhs; rw [e0]
  rw [e2, List.set_append_right _ _ (by omega), hL2, Nat.add_sub_cancel_left]
  rfl
theorem stk_len {ys : List StockT} {rest : List Value} {k : Nat} {z : StockT} : (stkF (ys.set k z) ++ rest).length = (stkF ys ++ rest).length := by
  rw [List.length_append, List.length_append, stkF_len, stkF_len, List.length_set]
theorem bk_rd {w : World} {g m cp : Nat} {t : TypeId} {S : List StockT} {sp : List Value} (hB : Bk w g t (stkF S ++ sp)) (hl : S.length = m) (h1 : m ≤ cp) (h2 : cp ≤ maxLen) (h3 : (stkF S ++ sp).length = cp * 2) : Rd w 2 (some ⟨g, 0, none⟩) m (stkF S) :=
  own_r (c := cp) (bk_own (base := 0) (n := m) (Nat.zero_le _) hB h1 h2 h3 (by
    rw [List.take_append_of_le_length (by rw [stkF_len, hl]; exact Nat.le_refl _)]
    exact List.take_of_length_le (by rw [stkF_len, hl]; exact Nat.le_refl _)))
theorem serve_is {Q : List Int} {g n c gs m cs : Nat} {t ts : TypeId} {zs : List OrderT} {S : List StockT} {R : StT} (hv : listedB zs 10 = true) (hs : storeB S = true) (hQ : quO zs = Q) (hR : stF zs Q (List.replicate n 0, S) n = R) (w : World) (hB : Bk w g t (ordF zs)) (hl : zs.length = n) (hBs : Bk w gs ts (stkF S)) (hls : S.length = m) :
    Calls Try.prog 61 #[.slice (some ⟨g, 0, none⟩) n c, .slice (some ⟨gs, 0, none⟩) m cs] w fun e w' => ∃ gG gS cp sp, e = .returned (.tuple #[.slice (some ⟨gG, 0, none⟩) n n, .slice (some ⟨gS, 0, none⟩) m cp]) ∧ w.heap.size ≤ gG ∧ w.heap.size ≤ gS ∧ gG ≠ gS ∧ Bk w' gG 3 (ints R.1) ∧ Bk w' gS 61 (stkF R.2 ++ sp) ∧ m ≤ cp ∧ cp ≤ maxLen ∧ (stkF R.2 ++ sp).length = cp * 2 ∧ Below w.heap.size w w' := by
  have HV := Lib.hid hv
  have HS := Lib.hid hs
  have HQ := Lib.hid hQ
  have HR := Lib.hid hR
  have hn10 : n ≤ 10 := by have := (listedB_iff.1 hv).2; omega
  have hm10 : m ≤ 10 := by have := (storeB_iff.1 hs).2; omega
  have hmk := make_int n (by omega)
  have hr := ord_rd hB hl
  have hrs := stk_rd hBs hls
  clear hv hs hQ hR
  go_enter Try.func61, Try.ntmps61
  go_upto_region 1 with fail
  refine wp_gen (fun w0 => Bk w0 w.heap.size 32 [.slice (some ⟨g, 0, none⟩) n c] ∧ Below w.heap.size w w0 ∧ w.heap.size < w0.heap.size) ⟨Bk.new' rfl, by (repeat' (first | (with_reducible exact Below.refl _ _) | (with_reducible assumption) | (with_reducible refine balloc ?_ _) | (with_reducible refine bdrew ?_) | (with_reducible refine bdrewN ?_ _) | (with_reducible refine bstep ?_ (by assumption)) | (with_reducible refine bset ?_ ?_ _) | (exact Below.size (by assumption)) | go_size)), by simp⟩ ?_
  intro w0 ⟨hX, b0, hlt0⟩
  have x0 := hX.cell 0
  simp only [List.getElem?_cons_zero] at x0
  have HX := Lib.hid hX
  have xl := hX.lt
  clear hX
  have hR0 : ∀ (W : World), (Instr.makeSlice 49 (.int .i64 (n : Int)) (.int .i64 (n : Int))).run Try.prog W = .ok (.slice (some ⟨W.heap.size, 0, none⟩) n n) (W.alloc (.cells (List.replicate n (Value.int .i64 0)).toArray 3)) := hmk
  go_cut [6, 7] (fun s6 s7 wx => ∃ gG gS cp sp, s6 = .slice (some ⟨gG, 0, none⟩) n n ∧ s7 = .slice (some ⟨gS, 0, none⟩) m cp ∧ w0.heap.size ≤ gG ∧ w0.heap.size ≤ gS ∧ gG ≠ gS ∧ Bk wx gG 3 (ints (List.replicate n 0)) ∧ Bk wx gS 61 (stkF S ++ sp) ∧ m ≤ cp ∧ cp ≤ maxLen ∧ (stkF S ++ sp).length = cp * 2 ∧ Below w0.heap.size w0 wx)
  case first =>
    (refine wp_region_tree (.two [0, 3] 1 (.two [] 2 (.one [] 4 (.fin [5, 6])) 4 (.one [] 2 (.fin [5, 6]))) 4 (.one [] 1 (.one [] 2 (.fin [5, 6])))) (by kernel_rfl) (by kernel_rfl) ?_; intro wm bM; (try clear cM fM zM); obtain ⟨cM, fM⟩ := bcell bM; have zM := bsize bM)
    have c0 : Below w0.heap.size w0 wm := bM
    (refine treeW_two ?_; (try simp only [List.map_cons]); (try simp only [List.map_nil]); (try simp only [List.getD_cons_succ]); (try simp only [List.getD_cons_zero]); (repeat (go_big_quiet_step (fail))); refine wpQuiet_nil ?_; refine ⟨?_, ?_⟩)
    · go_wp2_with fail
      refine ChainPost.mk (Below.refl _ _) ?_
      (refine treeW_two ?_; (try simp only [List.map_cons]); (try simp only [List.map_nil]); (try simp only [List.getD_cons_succ]); (try simp only [List.getD_cons_zero]); (repeat (go_big_quiet_step (fail))); refine wpQuiet_nil ?_; refine ⟨?_, ?_⟩)
      · go_wp2_with fail
        refine ChainPost.mk (balloc (Below.refl _ _) _) ?_
        have hG := Bk.new wm 3 (List.replicate n (Value.int .i64 0))
        have c1 := balloc c0 (.cells (List.replicate n (Value.int .i64 0)).toArray 3)
        (refine treeW_one ?_; (try simp only [List.map_cons]); (try simp only [List.map_nil]); (try simp only [List.getD_cons_succ]); (try simp only [List.getD_cons_zero]); (repeat (go_big_quiet_step (fail))); refine wpQuiet_nil ?_)
        go_wp2_with fail
        refine (copyStk_any gs m cs ts S _ (hBs.below (bstep b0 c1) hBs.lt) hls (by omega)).mono ?_
        rintro e w5 ⟨v5, rfl, ho5, hn5, hb5⟩
        have c5 := bstep c1 hb5
        obtain ⟨gS, cp, sp, rfl, q1, q2, q3, q4, q5⟩ := stk_parts ho5 hn5
        (go_wp2_with fail; refine ChainPost.mk hb5 ?_)
        (refine treeW_fin ?_; (try simp only [List.map_cons]); (try simp only [List.map_nil]); (try simp only [List.getD_cons_succ]); (try simp only [List.getD_cons_zero]); (repeat (go_big_quiet_step (fail))); refine wpQuiet_nil ?_)
        go_wp2_with fail
        go_meet
        exact ⟨wm.heap.size, gS, cp, sp, rfl, rfl, c0.size, Nat.le_trans c1.size q1, by simp only [World.size_alloc] at q1; omega, by rw [← ints_rep]; exact hG.below hb5 hG.lt, q2, q3, q4, q5, c5⟩
      · go_wp2_with fail
        refine (copyStk_any gs m cs ts S _ (hBs.below (bstep b0 c0) hBs.lt) hls (by omega)).mono ?_
        rintro e w5 ⟨v5, rfl, ho5, hn5, hb5⟩
        have c5 := bstep c0 hb5
        obtain ⟨gS, cp, sp, rfl, q1, q2, q3, q4, q5⟩ := stk_parts ho5 hn5
        (go_wp2_with fail; refine ChainPost.mk hb5 ?_)
        (refine treeW_one ?_; (try simp only [List.map_cons]); (try simp only [List.map_nil]); (try simp only [List.getD_cons_succ]); (try simp only [List.getD_cons_zero]); (repeat (go_big_quiet_step (fail))); refine wpQuiet_nil ?_)
        go_wp2_with fail
        refine ChainPost.mk (balloc (Below.refl _ _) _) ?_
        have hG := Bk.new w5 3 (List.replicate n (Value.int .i64 0))
        have c6 := balloc c5 (.cells (List.replicate n (Value.int .i64 0)).toArray 3)
        have q6 := q2.lt
        (refine treeW_fin ?_; (try simp only [List.map_cons]); (try simp only [List.map_nil]); (try simp only [List.getD_cons_succ]); (try simp only [List.getD_cons_zero]); (repeat (go_big_quiet_step (fail))); refine wpQuiet_nil ?_)
        go_wp2_with fail
        go_meet
        exact ⟨w5.heap.size, gS, cp, sp, rfl, rfl, c5.size, Nat.le_trans c0.size q1, by omega, by rw [← ints_rep]; exact hG, q2.alloc _, q3, q4, q5, c6⟩
    · go_wp2_with fail
      refine (copyStk_any gs m cs ts S _ (hBs.below (bstep b0 c0) hBs.lt) hls (by omega)).mono ?_
      rintro e w5 ⟨v5, rfl, ho5, hn5, hb5⟩
      have c5 := bstep c0 hb5
      obtain ⟨gS, cp, sp, rfl, q1, q2, q3, q4, q5⟩ := stk_parts ho5 hn5
      (go_wp2_with fail; refine ChainPost.mk hb5 ?_)
      (refine treeW_one ?_; (try simp only [List.map_cons]); (try simp only [List.map_nil]); (try simp only [List.getD_cons_succ]); (try simp only [List.getD_cons_zero]); (repeat (go_big_quiet_step (fail))); refine wpQuiet_nil ?_)
      go_wp2_with fail
      refine ChainPost.mk (Below.refl _ _) ?_
      (refine treeW_one ?_; (try simp only [List.map_cons]); (try simp only [List.map_nil]); (try simp only [List.getD_cons_succ]); (try simp only [List.getD_cons_zero]); (repeat (go_big_quiet_step (fail))); refine wpQuiet_nil ?_)
      go_wp2_with fail
      refine ChainPost.mk (balloc (Below.refl _ _) _) ?_
      have hG := Bk.new w5 3 (List.replicate n (Value.int .i64 0))
      have c6 := balloc c5 (.cells (List.replicate n (Value.int .i64 0)).toArray 3)
      have q6 := q2.lt
      (refine treeW_fin ?_; (try simp only [List.map_cons]); (try simp only [List.map_nil]); (try simp only [List.getD_cons_succ]); (try simp only [List.getD_cons_zero]); (repeat (go_big_quiet_step (fail))); refine wpQuiet_nil ?_)
      go_wp2_with fail
      go_meet
      exact ⟨w5.heap.size, gS, cp, sp, rfl, rfl, c5.size, Nat.le_trans c0.size q1, by omega, by rw [← ints_rep]; exact hG, q2.alloc _, q3, q4, q5, c6⟩
  case rest =>
    obtain ⟨gG, gS, cp, sp, rfl, rfl, k1, k2, k3, hG1, hS1, k4, k5, k6, c1⟩ := hcut
    have hX1 := HX.out.below c1 HX.out.lt
    have x1' := hX1.cell 0
    simp only [List.getElem?_cons_zero] at x1'
    have xl1 := hX1.lt
    have HX1 := Lib.hid hX1
    have HG1 := Lib.hid hG1
    have HS1 := Lib.hid hS1
    clear x0 xl hX1 hR0 hmk
    have hWx := bstep b0 c1
    go_wp2_with fail
    refine (serving_is HQ.out _ (hr.below hWx) hl (by omega)).mono ?_
    rintro e w2 ⟨v2, rfl, ho2, hnn, hb2⟩
    have b2 := bstep hWx hb2
    rcases own_bk ho2 with ⟨hv, _⟩ | ⟨gQ, cq, qs, rfl, hbq, hBq, _, _, _, h4⟩
    · exact absurd hv hnn
    have hQl : Q.length = n := by rw [← HQ.out, quO_len, hl]
    have hcell : ∀ (k : Nat) (h : k < Q.length), qs[k]? = some (.int .i64 Q[k]) := fun k h => by
      have h5 : (qs.take (n * 1))[k]? = some (.int .i64 Q[k]) := by rw [h4, ints_get Q k h]
      rwa [List.getElem?_take_of_lt (by omega)] at h5
    have hQm : ∀ y ∈ Q, ∃ i : Nat, i < zs.length ∧ y = (i : Int) := fun y hy => quO_mem (HQ.out ▸ hy)
    have hinv := inv_stF (s := (List.replicate n 0, S)) HV.out hQm (⟨by simp, rfl, store_bd HS.out⟩ : inv n S (List.replicate n 0, S))
    have HINV := Lib.hid hinv
    have HQM := Lib.hid hQm
    have HQL := Lib.hid hQl
    have HC := Lib.hid hcell
    have HBQ := Lib.hid hBq
    have hgx : ¬ gG = gQ := by have := hG1.lt; omega
    have hgy : ¬ gS = gQ := by have := hS1.lt; omega
    have HG2 := Lib.hid (HG1.out.below hb2 HG1.out.lt)
    have HS2 := Lib.hid (HS1.out.below hb2 HS1.out.lt)
    have HX2 := Lib.hid (HX1.out.below hb2 HX1.out.lt)
    have kG : ¬ gG = w.heap.size := by omega
    have kS : ¬ gS = w.heap.size := by omega
    have kQ : ¬ gQ = w.heap.size := by omega
    clear ho2 hnn h4 hcell hBq hQm hQl hinv hG1 hS1 x1' xl1
    go_wp2_with fail
    go_loopw [19] (fun i wr => ∃ k : Nat, k ≤ n ∧ i = .int .i64 k ∧ Hid (Bk wr gG 3 (ints (stF zs Q (List.replicate n 0, S) k).1)) ∧ Hid (Bk wr gS 61 (stkF (stF zs Q (List.replicate n 0, S) k).2 ++ sp)) ∧ Hid ((stkF (stF zs Q (List.replicate n 0, S) k).2 ++ sp).length = cp * 2) ∧ Hid (Bk wr gQ 3 qs) ∧ Hid (Bk wr w.heap.size 32 [.slice (some ⟨g, 0, none⟩) n c]) ∧ Below w.heap.size w wr) (fun i _ => n - (intOf i).toNat)
    case atStart => exact ⟨0, Nat.zero_le _, rfl, HG2, HS2, Lib.hid k6, HBQ, HX2, b2⟩
    case round =>
      obtain ⟨k, hk, rfl, HG, HSS, HLN, HBQ, HX, hW⟩ := hrel
      by_cases hlt : k < n
      · have hkq : k < Q.length := by have := HQL.out; omega
        obtain ⟨i, hi, hqi⟩ := HQM.out Q[k] (List.getElem_mem hkq)
        have hc0 := HBQ.out.cell k
        rw [HC.out k hkq, hqi] at hc0
        have hst := stF_succ (zs := zs) (s := (List.replicate n 0, S)) hkq hqi
        have hiv := HINV.out k (by omega)
        obtain ⟨st, hste⟩ : ∃ st, stF zs Q (List.replicate n 0, S) k = st := ⟨_, rfl⟩
        rw [hste] at hst hiv
        have hG := HG.out
        have hS := HSS.out
        have hLn := HLN.out
        rw [hste] at hG hS hLn
        have hsl : st.2.length = m := by rw [inv_len hiv, hls]
        obtain ⟨b, off, hbe, hbl, x0, x1, x2, x3, x4, hz, d0, d1, d2, d3, d4⟩ := ord_at hr (Below.refl w.heap.size w) hl (k := i) (by omega)
        simp only [Option.some.injEq, Addr.mk.injEq, and_true] at hbe
        obtain ⟨rfl, rfl⟩ := hbe
        have hcnt := ord_cnt HV.out hi hz
        have HST := Lib.hid hst
        have HIV := Lib.hid hiv
        have HSL := Lib.hid hsl
        have HZ := Lib.hid hz
        have HCN := Lib.hid hcnt
        have HD1 := Lib.hid d1
        have HD2 := Lib.hid d2
        have HG := Lib.hid hG
        have HS3 := Lib.hid hS
        have HLN2 := Lib.hid hLn
        have hgl : gQ < wr.heap.size := HBQ.out.lt
        have i1 : (0 : Int) ≤ (k : Int) := by omega
        have i2 : (k : Int) < (n : Int) := by omega
        have i3 : (0 : Int) ≤ (i : Int) := by omega
        have i4 : (i : Int) < (n : Int) := by omega
        obtain ⟨wo, rfl⟩ : ∃ wo, wo = wr := ⟨_, rfl⟩
        clear hst hiv hsl hz hcnt d0 d1 d2 d3 d4 hG hS hLn hste HSS HLN
        go_upto_region 5 with fail
        refine wp_gen (fun w3 => Bk w3 wo.heap.size 3 [.int .i64 i] ∧ Below wo.heap.size wo w3) ⟨Bk.new' rfl, by (repeat' (first | (with_reducible exact Below.refl _ _) | (with_reducible assumption) | (with_reducible refine balloc ?_ _) | (with_reducible refine bdrew ?_) | (with_reducible refine bdrewN ?_ _) | (with_reducible refine bstep ?_ (by assumption)) | (with_reducible refine bset ?_ ?_ _) | (exact Below.size (by assumption)) | go_size))⟩ ?_
        intro w3 ⟨hI, c3⟩
        have b3 := bstep hW c3
        have nI : ∀ q, q < wo.heap.size → ¬ q = wo.heap.size := fun q h e => by omega
        have nG := nI gG HG.out.lt
        have nS := nI gS HS3.out.lt
        have nQ := nI gQ HBQ.out.lt
        have nX := nI w.heap.size HX.out.lt
        have hI0 := hI.cell 0
        simp only [List.getElem?_cons_zero] at hI0
        have hX3 := HX.out.below c3 HX.out.lt
        have hx0 := hX3.cell 0
        simp only [List.getElem?_cons_zero] at hx0
        have hord1 := (b3.cell (p := ⟨g, 0 + i * 5 + 1, none⟩) hbl).trans HD1.out
        have HI := Lib.hid hI
        have HX3 := Lib.hid hX3
        have HG3 := Lib.hid (HG.out.below c3 HG.out.lt)
        have HS4 := Lib.hid (HS3.out.below c3 HS3.out.lt)
        have HBQ3 := Lib.hid (HBQ.out.below c3 HBQ.out.lt)
        have hidx := index_is (c := cp) w3 (bk_rd HS4.out HSL.out k4 k5 HLN2.out) HSL.out (by omega) hx0 hI0 hord1 (Nat.lt_of_lt_of_le hbl b3.size) hX3.lt hI.lt (by omega : i < n)
        clear hc0 hI hX3
        go_wp2_with fail
        refine hidx.mono ?_
        rintro e w4 ⟨⟨v, rfl, hfst⟩, hb4⟩
        clear hidx hx0 hI0 hord1
        have b4 := bstep b3 hb4
        have HG4 := Lib.hid (HG3.out.below hb4 HG3.out.lt)
        have HS5 := Lib.hid (HS4.out.below hb4 HS4.out.lt)
        have HBQ4 := Lib.hid (HBQ3.out.below hb4 HBQ3.out.lt)
        have HX4 := Lib.hid (HX3.out.below hb4 HX3.out.lt)
        have HI4 := Lib.hid (HI.out.below hb4 HI.out.lt)
        rcases hfst with ⟨rfl, hno⟩ | ⟨f, hf, rfl, hkf, hbef⟩
        · have hsame := HST.out.trans (stp_no (s := st) (by omega) HZ.out hno)
          have HSM := Lib.hid hsame
          clear hno hsame
          go_wp2
          go_roundw
          case rel => exact ⟨k + 1, by omega, by go_num, by rw [HSM.out]; exact HG4, by rw [HSM.out]; exact HS5, by rw [HSM.out]; exact HLN2, HBQ4, HX4, b4⟩
          case measure => simp [intOf]; omega
        · rcases hsf : st.2[f] with ⟨kk, cc⟩
          rw [hsf] at hkf
          obtain rfl : kk = x1 := hkf
          have hyes := HST.out.trans (stp_yes (s := st) (by omega) HZ.out hf hsf hbef)
          obtain ⟨mn, hmn⟩ : ∃ mn, min cc x2 = mn := ⟨_, rfl⟩
          rw [hmn] at hyes
          have hif : (if x2 < cc then x2 else cc) = mn := by rw [← hmn]; split <;> omega
          have HYS := Lib.hid hyes
          have hcc := HIV.out.2.2 _ (hsf ▸ List.getElem_mem hf)
          simp only at hcc
          have HSF := Lib.hid hsf
          have hmb : 0 ≤ mn ∧ mn ≤ cc := by have := HCN.out; rw [← hmn]; omega
          obtain ⟨t0, t1⟩ := stk_row HS5.out hf hsf
          have hi0 := HI4.out.cell 0
          simp only [List.getElem?_cons_zero] at hi0
          have hx0 := HX4.out.cell 0
          simp only [List.getElem?_cons_zero] at hx0
          have hord2 := (b4.cell (p := ⟨g, 0 + i * 5 + 2, none⟩) hbl).trans HD2.out
          simp only [Nat.zero_add] at hord2
          have s0 : g < w4.heap.size := Nat.lt_of_lt_of_le hbl b4.size
          have s1 : gS < w4.heap.size := HS5.out.lt
          have s2 : gG < w4.heap.size := HG4.out.lt
          have s3 := HI4.out.lt
          have s4 := HX4.out.lt
          have hfm : f < m := by have := HSL.out; omega
          have i5 : (0 : Int) ≤ (f : Int) := by omega
          have i6 : (f : Int) < (m : Int) := by omega
          have f0 := HG4.out.frozen i
          have hgd : ¬ gG = gS := k3
          clear hyes hsf hbef
          go_wp2
          (refine wp_region_bel_tail 14 (by kernel_rfl) (by kernel_rfl) ?_; (simp only [List.take_succ_cons, List.take_zero, List.drop_succ_cons, List.drop_zero]); (repeat (go_big_quiet_step ((first | fail)))); refine wpQuiet_nil ?_; intro w' hw'; have hb := below_of hw'; clear hw'; (try clear cW fW zW); (first | (have bW := bstep bW hb) | (have bW := bstep (bdrew bW) hb) | (have bW := bstep (balloc bW _) hb) | (have bW := bstep (bdrewN bW _) hb) | (have bW := hb)); clear hb; obtain ⟨cW, fW⟩ := bcell bW; have zW := bsize bW)
          (try rw [hif])
          have b5 := bstep b4 bW
          have hGw := HG4.out.below bW HG4.out.lt
          have f1 := hGw.frozen i
          have hil : i < st.1.length := by have := HIV.out.1; omega
          have cG := hGw.cell i
          rw [ints_get _ i hil] at cG
          have sG := hGw.lt
          have hGs := hGw.set_ i (.int .i64 mn)
          rw [← ints_set] at hGs
          have hSs := (HS5.out.below bW HS5.out.lt).far (p := ⟨gG, i, none⟩) (fun e => hgd e.symm) (.int .i64 mn)
          have hQs := (HBQ4.out.below bW HBQ4.out.lt).far (p := ⟨gG, i, none⟩) (fun e => hgx e.symm) (.int .i64 mn)
          have hXs := (HX4.out.below bW HX4.out.lt).far (p := ⟨gG, i, none⟩) (fun e => kG e.symm) (.int .i64 mn)
          have hIs := (HI4.out.below bW HI4.out.lt).far (p := ⟨gG, i, none⟩) (fun e => nG e.symm) (.int .i64 mn)
          have bS := bset b5 (p := ⟨gG, i, none⟩) (show w.heap.size ≤ gG by omega) (.int .i64 mn)
          have HGs := Lib.hid hGs
          have HSs := Lib.hid hSs
          have HQs := Lib.hid hQs
          have HXs := Lib.hid hXs
          have HIs := Lib.hid hIs
          clear hGs hSs hQs hXs hIs cW fW zW t0 t1 hi0 hx0 hord2 s0 s1 s2 s3 s4 f0
          go_upto_region 8 with fail
          refine wp_gen (fun w6 => Bk w6 gG 3 (ints (st.1.set i mn)) ∧ Bk w6 gS 61 (stkF st.2 ++ sp) ∧ Bk w6 gQ 3 qs ∧ Bk w6 w.heap.size 32 [.slice (some ⟨g, 0, none⟩) n c] ∧ Bk w6 wo.heap.size 3 [.int .i64 i] ∧ Below w.heap.size w w6) ⟨HGs.out, HSs.out, HQs.out, HXs.out, HIs.out, bS⟩ ?_
          intro w6 ⟨hG6, hS6, hQ6, hX6, hI6, b6⟩
          clear HGs HSs HQs HXs HIs bS f1 cG sG hGw bW b5
          obtain ⟨t0, t1⟩ := stk_row hS6 hf HSF.out
          have hi0 := hI6.cell 0
          simp only [List.getElem?_cons_zero] at hi0
          have cG := hG6.cell i
          rw [ints_get _ i (by rw [List.length_set]; exact hil)] at cG
          simp only [List.getElem_set_self] at cG
          have s1 : gS < w6.heap.size := hS6.lt
          have s2 : gG < w6.heap.size := hG6.lt
          have s3 := hI6.lt
          have hwr : IntKind.i64.wrap (cc - mn) = cc - mn := i64_wrap (by omega) (by omega)
          have HG6 := Lib.hid hG6
          have HS6 := Lib.hid hS6
          have HQ6 := Lib.hid hQ6
          have HX6 := Lib.hid hX6
          clear hG6 hS6 hQ6 hX6 hI6
          go_wp2
          (refine wp_region_bel_tail 12 (by kernel_rfl) (by kernel_rfl) ?_; (simp only [List.take_succ_cons, List.take_zero, List.drop_succ_cons, List.drop_zero]); (repeat (go_big_quiet_step ((first | fail)))); refine wpQuiet_nil ?_; intro w' hw'; have hb := below_of hw'; clear hw'; (try clear cW fW zW); (first | (have bW := bstep bW hb) | (have bW := bstep (bdrew bW) hb) | (have bW := bstep (balloc bW _) hb) | (have bW := bstep (bdrewN bW _) hb) | (have bW := hb)); clear hb; obtain ⟨cW, fW⟩ := bcell bW; have zW := bsize bW)
          have b7 := bstep b6 bW
          have hSw := HS6.out.below bW HS6.out.lt
          have f1 := hSw.frozen (f * 2 + 1)
          obtain ⟨u0, u1⟩ := stk_row hSw hf HSF.out
          have sS := hSw.lt
          have hSs := hSw.set_ (f * 2 + 1) (.int .i64 (cc - mn))
          rw [stk_set hf HSF.out] at hSs
          have hGs := (HG6.out.below bW HG6.out.lt).far (p := ⟨gS, f * 2 + 1, none⟩) hgd (.int .i64 (cc - mn))
          have hQs := (HQ6.out.below bW HQ6.out.lt).far (p := ⟨gS, f * 2 + 1, none⟩) (fun e => hgy e.symm) (.int .i64 (cc - mn))
          have hXs := (HX6.out.below bW HX6.out.lt).far (p := ⟨gS, f * 2 + 1, none⟩) (fun e => kS e.symm) (.int .i64 (cc - mn))
          have bS := bset b7 (p := ⟨gS, f * 2 + 1, none⟩) (show w.heap.size ≤ gS by omega) (.int .i64 (cc - mn))
          have hln : (stkF (st.2.set f (kk, cc - mn)) ++ sp).length = cp * 2 := by rw [stk_len]; exact HLN2.out
          have HGs := Lib.hid hGs
          have HSs := Lib.hid hSs
          have HQs := Lib.hid hQs
          have HXs := Lib.hid hXs
          have HLs := Lib.hid hln
          clear hGs hSs hQs hXs hln cW fW zW t0 t1 hi0 cG s1 s2 s3
          go_wp2
          go_roundw
          case rel => exact ⟨k + 1, by omega, by go_num, by rw [HYS.out]; exact HGs, by rw [HYS.out]; exact HSs, by rw [HYS.out]; exact HLs, HQs, HXs, bS⟩
          case measure => simp [intOf]; omega
      · obtain rfl : k = n := by omega
        have hfin := HR.out
        have hG := HG.out
        have hS := HSS.out
        have hLn := HLN.out
        rw [hfin] at hG hS hLn
        have HG := Lib.hid hG
        have HSS := Lib.hid hS
        have HLN := Lib.hid hLn
        clear hG hS hLn hfin
        go_wp2
        go_returns
        exact ⟨gG, gS, cp, sp, rfl, by omega, by omega, k3, HG.out, HSS.out, k4, k5, HLN.out, hW⟩
end Go.Proofs.Ytaekngiejehooaa
