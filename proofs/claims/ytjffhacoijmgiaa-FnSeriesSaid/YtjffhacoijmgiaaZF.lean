/-
  CorrectReport of the reference. Conditions: lengths within the bound of a slice.
-/
import Derived.Test.YtjffhacoijmgiaaZE
namespace Go.Proofs.Ytjffhacoijmgiaa
open Go.RowKit
set_option maxRecDepth 100000
set_option maxHeartbeats 400000

theorem rp_get {zs : List SituationT} {a x : SituationT} {k : Nat} (hk : k < zs.length) (hx : zs[k] = x) : (rp zs a k)[k]'(by rw [rp_len]; exact hk) = x := by
  have h := rp_at (a := a) hk hx
  have hL : ((zs.take k).map (putF a)).length = k := by simp; omega
  have h2 : (rp zs a k)[k]? = some x := by
    rw [h, List.getElem?_append_right (by omega), hL, Nat.sub_self]; rfl
  rw [List.getElem?_eq_getElem (by rw [rp_len]; exact hk)] at h2
  exact Option.some.inj h2
theorem cor_no {zs : List SituationT} {a : SituationT} (h : hasN zs a.1 zs.length = false ∨ seriesB (rp zs a zs.length) = false) : corR zs a = false ∧ corL zs a = [] := by
  have h1 : corR zs a = false := by
    unfold corR
    rcases h with h | h
    · rw [h]; simp
    · rw [h]; simp
  exact ⟨h1, by simp [corL, h1]⟩
theorem row_own {w : World} {g n cap base : Nat} {t : TypeId} {ys : List SituationT} {rest : List Value} (hB : Bk w g t (sitF ys ++ rest)) (hb : base ≤ g) (hy : ys.length = n) (h1 : n ≤ cap) (h2 : cap ≤ maxLen) (h3 : (sitF ys ++ rest).length = cap * 6) : w.ownsRow base t 6 (.slice (some ⟨g, 0, none⟩) n cap) n (sitF ys) :=
  bk_own hb hB h1 h2 h3 (by rw [List.take_append_of_le_length (by rw [sitF_len, hy]; exact Nat.le_refl _)]; exact List.take_of_length_le (by rw [sitF_len, hy]; exact Nat.le_refl _))
theorem sCorrectReport_is_rd {q : Bool} {L : List SituationT} {g n c : Nat} {zs : List SituationT} {a0 a1 a2 a3 a4 a5 : Int} (hq : corR zs (a0, a1, a2, a3, a4, a5) = q) (hL : corL zs (a0, a1, a2, a3, a4, a5) = L) (w : World) (hr : Rd w 6 (some ⟨g, 0, none⟩) n (sitF zs)) (_hlt : g < w.heap.size) (hl : zs.length = n) (hn : n ≤ 1048577) :
    Calls Try.prog 15 #[.slice (some ⟨g, 0, none⟩) n c, .agg #[.int .i64 a0, .int .i64 a1, .int .i64 a2, .int .i64 a3, .int .i64 a4, .int .i64 a5]] w fun e w' => ∃ v, e = .returned (.tuple #[v, .bool q]) ∧ w'.ownsRow w.heap.size 26 6 v L.length (sitF L) ∧ Below w.heap.size w w' := by
  obtain ⟨i0, hi0, hz0, hz1, hz2⟩ := info_parts (show (Try.prog.info? 26).map (fun i => (i.zero, i.size, i.bytes)) = some (some (.agg #[.int .i64 0, .int .i64 0, .int .i64 0, .int .i64 0, .int .i64 0, .int .i64 0]), 6, 48) from by kernel_rfl)
  go_enter Try.func15, Try.ntmps15
  rcases hv : seriesB zs with _ | _
  · have e1 : corR zs (a0, a1, a2, a3, a4, a5) = false := by simp [corR, hv]
    have e2 : corL zs (a0, a1, a2, a3, a4, a5) = [] := by simp [corL, e1]
    obtain rfl := e1.symm.trans hq
    obtain rfl := e2.symm.trans hL
    clear e1 e2 hq hL
    go_wp2_with fail
    refine (l18Good_is false hv _ (hr.below (balloc (Below.refl _ _) _)) hl (by omega)).mono ?_
    rintro e w1 ⟨rfl, b1⟩
    have b1 := bstep (balloc (Below.refl _ _) _) b1
    go_wp2
    go_returns
    exact ⟨_, rfl, own_lit' rfl b1.size, by (repeat' (first | (with_reducible exact Below.refl _ _) | (with_reducible assumption) | (with_reducible refine balloc ?_ _) | (with_reducible refine bdrew ?_) | (with_reducible refine bdrewN ?_ _) | (with_reducible refine bstep ?_ (by assumption)) | (with_reducible refine bset ?_ ?_ _) | (exact Below.size (by assumption)) | go_size))⟩
  · go_wp2_with fail
    refine (l18Good_is true hv _ (hr.below (balloc (Below.refl _ _) _)) hl (by omega)).mono ?_
    rintro e w1 ⟨rfl, hb1⟩
    have hbox := (Bk.new w 26 [.int .i64 a0, .int .i64 a1, .int .i64 a2, .int .i64 a3, .int .i64 a4, .int .i64 a5]).below hb1 (by simp)
    have b1 := bstep (balloc (Below.refl w.heap.size w) _) hb1
    have hs1 := hb1.size
    rw [World.size_alloc] at hs1
    have hr1 := hr.below b1
    have HV := Lib.hid hv
    have HQ := Lib.hid hq
    have HL := Lib.hid hL
    have HZ := Lib.hid hl
    clear hv hq hL hl
    go_wp2_with (at_builtin; refine wpList_append_own _ rfl (.tmp 12) (.tmp 13) 24 rfl (w.heap.size + 1) 26 i0 _ 6 48 Try.underlying24 hi0 hz0 hz1 hz2 rfl (by decide) (.slice (some ⟨w1.heap.size, 0, none⟩) 0 0) 0 [] rfl (own_lit' rfl hs1) ⟨g, 0, none⟩ n c (sitF zs) rfl hr.1 (hr1.below (balloc (Below.refl _ _) _)).news (sit_one zs) (by unfold maxLen; omega) (by omega) (by simp; omega) ?_; intro v2 w2 hown2 hgr2 _)
    have b2 : Below w.heap.size w w2 := Below.grown (balloc b1 _) hgr2 (by simp; omega) (fun k e => by cases e; show w.heap.size ≤ w1.heap.size; omega)
    have hbox2 := (hbox.alloc (.cells #[] 26)).grown hgr2 (by simp [Value.ownBlock]; omega)
    rw [List.nil_append, Nat.zero_add] at hown2
    rcases own_bk hown2 with ⟨rfl, hn0⟩ | ⟨g', cap, cs, rfl, hb', hB', h1, h2, h3, h4⟩
    · have hl := HZ.out
      subst hn0
      obtain rfl : zs = [] := List.eq_nil_of_length_eq_zero hl
      obtain ⟨e1, e2⟩ := cor_no (zs := []) (a := (a0, a1, a2, a3, a4, a5)) (.inl (hasN_zero _ _))
      obtain rfl := e1.symm.trans HQ.out
      obtain rfl := e2.symm.trans HL.out
      clear e1 e2
      refine wp_loop_rounds 1 ?_
      rw [rounds_succ]
      go_wp2
      go_returns
      exact ⟨_, rfl, own_lit' rfl b2.size, by (repeat' (first | (with_reducible exact Below.refl _ _) | (with_reducible assumption) | (with_reducible refine balloc ?_ _) | (with_reducible refine bdrew ?_) | (with_reducible refine bdrewN ?_ _) | (with_reducible refine bstep ?_ (by assumption)) | (with_reducible refine bset ?_ ?_ _) | (exact Below.size (by assumption)) | go_size))⟩
    · obtain ⟨rest, hrest⟩ : ∃ rest, cs = sitF zs ++ rest := ⟨cs.drop (n * 6), by rw [← h4]; exact (List.take_append_drop _ _).symm⟩
      subst hrest
      have hgb : g' ≠ w.heap.size := by omega
      have HL3 := Lib.hid h3
      have HG := Lib.hid hgr2
      clear h3 h4 hi0 hz0 hz1 hz2 hgr2 hown2
      go_loopw [7] (fun i wr => ∃ k : Nat, k ≤ n ∧ i = .int .i64 k ∧ Bk wr g' 26 (sitF (rp zs (a0, a1, a2, a3, a4, a5) k) ++ rest) ∧ Bk wr w.heap.size 26 [.int .i64 a0, .int .i64 a1, .int .i64 a2, .int .i64 a3, .int .i64 a4, .int .i64 a5] ∧ (hasN zs a0 k = false ∨ hasN zs a0 k = true ∧ seriesB (rp zs (a0, a1, a2, a3, a4, a5) n) = false) ∧ Below w.heap.size w wr) (fun i _ => n - (intOf i).toNat)
      case atStart => exact ⟨0, Nat.zero_le _, rfl, by rw [rp_zero]; exact hB', hbox2, .inl (hasN_zero _ _), b2⟩
      case round =>
        obtain ⟨k, hk, rfl, hR, hX, hst, hW⟩ := hrel
        by_cases hlt : k < n
        · have hk2 : k < zs.length := by rw [HZ.out]; exact hlt
          obtain ⟨⟨x0, x1, x2, x3, x4, x5⟩, hx⟩ : ∃ x, zs[k]'hk2 = x := ⟨_, rfl⟩
          obtain ⟨c0, c1, c2, c3, c4, c5⟩ := sit_row hR (k := k) (by rw [rp_len]; exact hk2) (rp_get hk2 hx)
          obtain ⟨k0, k1, k2, k3, k4, k5⟩ := six_cells hX
          have hS := Lib.hid ((((((hR.set_ (k * 6) (.int .i64 a0)).set_ (k * 6 + 1) (.int .i64 a1)).set_ (k * 6 + 2) (.int .i64 a2)).set_ (k * 6 + 3) (.int .i64 a3)).set_ (k * 6 + 4) (.int .i64 a4)).set_ (k * 6 + 5) (.int .i64 a5))
          have f0 := hR.frozen (k * 6)
          have f1 := hR.frozen (k * 6 + 1)
          have f2 := hR.frozen (k * 6 + 2)
          have f3 := hR.frozen (k * 6 + 3)
          have f4 := hR.frozen (k * 6 + 4)
          have f5 := hR.frozen (k * 6 + 5)
          have s1 : g' < wr.heap.size := hR.lt
          have s0 : w.heap.size < wr.heap.size := hX.lt
          have HR := Lib.hid hR
          have HX := Lib.hid hX
          have HI := Lib.hid hx
          have HS := Lib.hid hst
          have i1 : (k : Int) < (n : Int) := by omega
          have i2 : (0 : Int) ≤ (k : Int) := by omega
          clear hR hX hx hst
          by_cases hm : x0 = a0
          · subst hm
            go_wp2
            (refine wp_region_bel (by kernel_rfl) (by kernel_rfl) ?_; (repeat (go_big_quiet_step ((first | fail)))); refine wpQuiet_nil ?_; intro w' hw'; have hb := below_of hw'; clear hw'; (try clear cW fW zW); (first | (have bW := bstep bW hb) | (have bW := bstep (bdrew bW) hb) | (have bW := bstep (balloc bW _) hb) | (have bW := bstep (bdrewN bW _) hb) | (have bW := hb)); clear hb; obtain ⟨cW, fW⟩ := bcell bW; have zW := bsize bW)
            go_wp2_with fail
            have hR' := HR.out.below bW HR.out.lt
            have hX' := HX.out.below bW HX.out.lt
            have hQ : Bk _ g' 26 (sets (sitF (rp zs (x0, a1, a2, a3, a4, a5) k) ++ rest) (k * 6) [.int .i64 x0, .int .i64 a1, .int .i64 a2, .int .i64 a3, .int .i64 a4, .int .i64 a5]) := ((((((hR'.set_ (k * 6) (.int .i64 x0)).set_ (k * 6 + 1) (.int .i64 a1)).set_ (k * 6 + 2) (.int .i64 a2)).set_ (k * 6 + 3) (.int .i64 a3)).set_ (k * 6 + 4) (.int .i64 a4)).set_ (k * 6 + 5) (.int .i64 a5))
            rw [rp_row hk2 HI.out rfl] at hQ
            have hXX := ((((((hX'.far (p := ⟨g', k * 6, none⟩) (Ne.symm hgb) (.int .i64 x0)).far (p := ⟨g', k * 6 + 1, none⟩) (Ne.symm hgb) (.int .i64 a1)).far (p := ⟨g', k * 6 + 2, none⟩) (Ne.symm hgb) (.int .i64 a2)).far (p := ⟨g', k * 6 + 3, none⟩) (Ne.symm hgb) (.int .i64 a3)).far (p := ⟨g', k * 6 + 4, none⟩) (Ne.symm hgb) (.int .i64 a4)).far (p := ⟨g', k * 6 + 5, none⟩) (Ne.symm hgb) (.int .i64 a5))
            have hgB : w.heap.size ≤ g' := by omega
            have bS := (bset (bset (bset (bset (bset (bset (bstep hW bW) (p := ⟨g', k * 6, none⟩) hgB (.int .i64 x0)) (p := ⟨g', k * 6 + 1, none⟩) hgB (.int .i64 a1)) (p := ⟨g', k * 6 + 2, none⟩) hgB (.int .i64 a2)) (p := ⟨g', k * 6 + 3, none⟩) hgB (.int .i64 a3)) (p := ⟨g', k * 6 + 4, none⟩) hgB (.int .i64 a4)) (p := ⟨g', k * 6 + 5, none⟩) hgB (.int .i64 a5))
            have hlen : (sitF (rp zs (x0, a1, a2, a3, a4, a5) (k + 1)) ++ rest).length = cap * 6 := by
              rw [← HL3.out, List.length_append, List.length_append, sitF_len, sitF_len, rp_len]
            have hown := row_own hQ hgB (by rw [rp_len]; exact HZ.out) h1 h2 hlen
            have hdone := rp_done HV.out (a := (x0, a1, a2, a3, a4, a5)) hk2 (by rw [HI.out])
            have hyes : hasN zs x0 (k + 1) = true := hasN_yes hk2 (by rw [HI.out])
            clear c0 c1 c2 c3 c4 c5 k0 k1 k2 k3 k4 k5 f0 f1 f2 f3 f4 f5 cW fW zW
            rcases hs : seriesB (rp zs (x0, a1, a2, a3, a4, a5) (k + 1)) with _ | _
            · refine (l18Good_is false hs _ (own_r hown) (by rw [rp_len]; exact HZ.out) (by omega)).mono ?_
              rintro e w4 ⟨rfl, b4⟩
              go_wp2
              go_roundw
              case rel => exact ⟨k + 1, by omega, by go_num, hQ.below b4 hQ.lt, hXX.below b4 hXX.lt, .inr ⟨hyes, by rw [← HZ.out, ← hdone]; exact hs⟩, bstep bS b4⟩
              case measure => simp [intOf]; omega
            · refine (l18Good_is true hs _ (own_r hown) (by rw [rp_len]; exact HZ.out) (by omega)).mono ?_
              rintro e w4 ⟨rfl, b4⟩
              have e1 : corR zs (x0, a1, a2, a3, a4, a5) = true := by
                unfold corR
                rw [HV.out, ← hdone, hs]
                simp only [Bool.true_and, Bool.and_true]
                exact hasN_iff.2 ⟨k, hk2, hk2, by rw [HI.out]⟩
              have e2 : corL zs (x0, a1, a2, a3, a4, a5) = rp zs (x0, a1, a2, a3, a4, a5) (k + 1) := by simp only [corL, e1, if_true, hdone]
              obtain rfl := e1.symm.trans HQ.out
              obtain rfl := e2.symm.trans HL.out
              have hlq : (rp zs (x0, a1, a2, a3, a4, a5) (k + 1)).length = n := by rw [rp_len]; exact HZ.out
              clear e1 e2 hs hdone hyes hlen
              have HLQ := Lib.hid hlq
              clear hlq
              go_wp2
              go_returns
              exact ⟨_, rfl, by rw [HLQ.out]; exact own_below hown b4, bstep bS b4⟩
          · have hd : (x0 == a0) = false := by simp [hm]
            go_wp2
            (refine wp_region_bel (by kernel_rfl) (by kernel_rfl) ?_; (repeat (go_big_quiet_step ((first | fail)))); refine wpQuiet_nil ?_; intro w' hw'; have hb := below_of hw'; clear hw'; (try clear cW fW zW); (first | (have bW := bstep bW hb) | (have bW := bstep (bdrew bW) hb) | (have bW := bstep (balloc bW _) hb) | (have bW := bstep (bdrewN bW _) hb) | (have bW := hb)); clear hb; obtain ⟨cW, fW⟩ := bcell bW; have zW := bsize bW)
            clear c0 c1 c2 c3 c4 c5 k0 k1 k2 k3 k4 k5 f0 f1 f2 f3 f4 f5 cW fW zW
            go_wp2
            go_roundw
            case rel =>
              have hx := HI.out
              refine ⟨k + 1, by omega, by go_num, ?_, HX.out.below bW HX.out.lt, ?_, bstep hW bW⟩
              · rw [rp_same hk2 hx hm]; exact HR.out.below bW HR.out.lt
              · rw [hasN_no hk2 (by rw [hx]; exact hm)]; exact HS.out
            case measure => simp [intOf]; omega
        · have hl := HZ.out
          obtain rfl : k = n := by omega
          have hno : hasN zs a0 zs.length = false ∨ seriesB (rp zs (a0, a1, a2, a3, a4, a5) zs.length) = false := by
            rw [hl]
            rcases hst with h | ⟨_, h⟩
            · exact .inl h
            · exact .inr h
          obtain ⟨e1, e2⟩ := cor_no (zs := zs) (a := (a0, a1, a2, a3, a4, a5)) hno
          obtain rfl := e1.symm.trans HQ.out
          obtain rfl := e2.symm.trans HL.out
          clear e1 e2 hno hl hst
          go_wp2
          go_returns
          exact ⟨_, rfl, own_lit' rfl hW.size, by (repeat' (first | (with_reducible exact Below.refl _ _) | (with_reducible assumption) | (with_reducible refine balloc ?_ _) | (with_reducible refine bdrew ?_) | (with_reducible refine bdrewN ?_ _) | (with_reducible refine bstep ?_ (by assumption)) | (with_reducible refine bset ?_ ?_ _) | (exact Below.size (by assumption)) | go_size))⟩
theorem sCorrectReport_is {q : Bool} {L : List SituationT} {g n c : Nat} {t : TypeId} {zs : List SituationT} {a0 a1 a2 a3 a4 a5 : Int} (hq : corR zs (a0, a1, a2, a3, a4, a5) = q) (hL : corL zs (a0, a1, a2, a3, a4, a5) = L) (w : World) (hB : Bk w g t (sitF zs)) (hl : zs.length = n) (hn : n ≤ 1048577) :
    Calls Try.prog 15 #[.slice (some ⟨g, 0, none⟩) n c, .agg #[.int .i64 a0, .int .i64 a1, .int .i64 a2, .int .i64 a3, .int .i64 a4, .int .i64 a5]] w fun e w' => ∃ v, e = .returned (.tuple #[v, .bool q]) ∧ w'.ownsRow w.heap.size 26 6 v L.length (sitF L) ∧ Below w.heap.size w w' :=
  sCorrectReport_is_rd hq hL w (sit_rd hB hl) hB.lt hl hn
end Go.Proofs.Ytjffhacoijmgiaa
