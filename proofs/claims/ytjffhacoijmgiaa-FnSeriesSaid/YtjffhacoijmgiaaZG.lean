/-
  CorrectReport of the program. Conditions: lengths within the bound of a slice.
-/
import Derived.Test.YtjffhacoijmgiaaZF
namespace Go.Proofs.Ytjffhacoijmgiaa
open Go.RowKit
set_option maxRecDepth 100000
set_option maxHeartbeats 400000

theorem CorrectReport_is_rd {q : Bool} {L : List SituationT} {g n c : Nat} {zs : List SituationT} {a0 a1 a2 a3 a4 a5 : Int} (hq : corR zs (a0, a1, a2, a3, a4, a5) = q) (hL : corL zs (a0, a1, a2, a3, a4, a5) = L) (w : World) (hr : Rd w 6 (some ⟨g, 0, none⟩) n (sitF zs)) (_hlt : g < w.heap.size) (hl : zs.length = n) (hn : n ≤ 1048577) :
    Calls Try.prog 14 #[.slice (some ⟨g, 0, none⟩) n c, .agg #[.int .i64 a0, .int .i64 a1, .int .i64 a2, .int .i64 a3, .int .i64 a4, .int .i64 a5]] w fun e w' => ∃ v, e = .returned (.tuple #[v, .bool q]) ∧ w'.ownsRow w.heap.size 26 6 v L.length (sitF L) ∧ Below w.heap.size w w' := by
  go_enter Try.func14, Try.ntmps14
  rcases hv : seriesB zs with _ | _
  · have e1 : corR zs (a0, a1, a2, a3, a4, a5) = false := by simp [corR, hv]
    have e2 : corL zs (a0, a1, a2, a3, a4, a5) = [] := by simp [corL, e1]
    obtain rfl := e1.symm.trans hq
    obtain rfl := e2.symm.trans hL
    clear e1 e2 hq hL
    go_wp2_with fail
    refine (IsSeries_is false hv _ (hr.below (balloc (Below.refl _ _) _)) hl (by omega)).mono ?_
    rintro e w1 ⟨rfl, b1⟩
    have b1 := bstep (balloc (Below.refl _ _) _) b1
    go_wp2
    go_returns
    exact ⟨_, rfl, World.ownsRow_nil _ _ _ _, by (repeat' (first | (with_reducible exact Below.refl _ _) | (with_reducible assumption) | (with_reducible refine balloc ?_ _) | (with_reducible refine bdrew ?_) | (with_reducible refine bdrewN ?_ _) | (with_reducible refine bstep ?_ (by assumption)) | (with_reducible refine bset ?_ ?_ _) | (exact Below.size (by assumption)) | go_size))⟩
  · go_wp2_with fail
    refine (IsSeries_is true hv _ (hr.below (balloc (Below.refl _ _) _)) hl (by omega)).mono ?_
    rintro e w1 ⟨rfl, hb1⟩
    have hbox := (Bk.new w 26 [.int .i64 a0, .int .i64 a1, .int .i64 a2, .int .i64 a3, .int .i64 a4, .int .i64 a5]).below hb1 (by simp)
    have b1 := bstep (balloc (Below.refl w.heap.size w) _) hb1
    have hs1 := hb1.size
    rw [World.size_alloc] at hs1
    have hr1 := hr.below b1
    have HV := Lib.hid hv
    have HQ := Lib.hid hq
    have HL := Lib.hid hL
    have HZ := Lib.hid hl
    clear hv hq hL hl
    go_wp2_with fail
    refine (copySit_any_rd g n c zs _ (hr.below b1) (by have := b1.size; omega) HZ.out hn).mono ?_
    rintro e w2 ⟨v2, rfl, hown2, hb2⟩
    have b2 := bstep b1 hb2
    have hbox2 := hbox.below hb2 hbox.lt
    have hown2 := own_weaken (base' := w.heap.size + 1) hown2 hs1
    rcases own_bk hown2 with ⟨rfl, hn0⟩ | ⟨g', cap, cs, rfl, hb', hB', h1, h2, h3, h4⟩
    · have hl := HZ.out
      subst hn0
      obtain rfl : zs = [] := List.eq_nil_of_length_eq_zero hl
      obtain ⟨e1, e2⟩ := cor_no (zs := []) (a := (a0, a1, a2, a3, a4, a5)) (.inl (hasN_zero _ _))
      obtain rfl := e1.symm.trans HQ.out
      obtain rfl := e2.symm.trans HL.out
      clear e1 e2
      go_wp2_with fail
      refine wp_loop_rounds 1 ?_
      rw [rounds_succ]
      go_wp2
      go_returns
      exact ⟨_, rfl, World.ownsRow_nil _ _ _ _, by (repeat' (first | (with_reducible exact Below.refl _ _) | (with_reducible assumption) | (with_reducible refine balloc ?_ _) | (with_reducible refine bdrew ?_) | (with_reducible refine bdrewN ?_ _) | (with_reducible refine bstep ?_ (by assumption)) | (with_reducible refine bset ?_ ?_ _) | (exact Below.size (by assumption)) | go_size))⟩
    · obtain ⟨rest, hrest⟩ : ∃ rest, cs = sitF zs ++ rest := ⟨cs.drop (n * 6), by rw [← h4]; exact (List.take_append_drop _ _).symm⟩
      subst hrest
      have hgb : g' ≠ w.heap.size := by omega
      have HL3 := Lib.hid h3
      clear h3 h4 hown2
      go_wp2_with fail
      go_loopw [7, 17] (fun fd i wr => ∃ k : Nat, k ≤ n ∧ i = .int .i64 k ∧ fd = .bool (hasN zs a0 k) ∧ Bk wr g' 26 (sitF (rp zs (a0, a1, a2, a3, a4, a5) k) ++ rest) ∧ Bk wr w.heap.size 26 [.int .i64 a0, .int .i64 a1, .int .i64 a2, .int .i64 a3, .int .i64 a4, .int .i64 a5] ∧ Below w.heap.size w wr) (fun _ i _ => n - (intOf i).toNat)
      case atStart => exact ⟨0, Nat.zero_le _, rfl, by rw [hasN_zero], by rw [rp_zero]; exact hB', hbox2, b2⟩
      case round =>
        obtain ⟨k, hk, rfl, rfl, hR, hX, hW⟩ := hrel
        by_cases hlt : k < n
        · have hk2 : k < zs.length := by rw [HZ.out]; exact hlt
          obtain ⟨⟨x0, x1, x2, x3, x4, x5⟩, hx⟩ : ∃ x, zs[k]'hk2 = x := ⟨_, rfl⟩
          obtain ⟨c0, c1, c2, c3, c4, c5⟩ := sit_row hR (k := k) (by rw [rp_len]; exact hk2) (rp_get hk2 hx)
          obtain ⟨k0, k1, k2, k3, k4, k5⟩ := six_cells hX
          have f0 := hR.frozen (k * 6)
          have f1 := hR.frozen (k * 6 + 1)
          have f2 := hR.frozen (k * 6 + 2)
          have f3 := hR.frozen (k * 6 + 3)
          have f4 := hR.frozen (k * 6 + 4)
          have f5 := hR.frozen (k * 6 + 5)
          have s1 : g' < wr.heap.size := hR.lt
          have s0 : w.heap.size < wr.heap.size := hX.lt
          have HR := Lib.hid hR
          have HX := Lib.hid hX
          have HI := Lib.hid hx
          have i1 : (k : Int) < (n : Int) := by omega
          have i2 : (0 : Int) ≤ (k : Int) := by omega
          clear hR hX hx
          by_cases hm : x0 = a0
          · subst hm
            go_wp2_with fail
            have hR := HR.out
            have hX := HX.out
            have hQ : Bk _ g' 26 (sets (sitF (rp zs (x0, a1, a2, a3, a4, a5) k) ++ rest) (k * 6) [.int .i64 x0, .int .i64 a1, .int .i64 a2, .int .i64 a3, .int .i64 a4, .int .i64 a5]) := ((((((hR.set_ (k * 6) (.int .i64 x0)).set_ (k * 6 + 1) (.int .i64 a1)).set_ (k * 6 + 2) (.int .i64 a2)).set_ (k * 6 + 3) (.int .i64 a3)).set_ (k * 6 + 4) (.int .i64 a4)).set_ (k * 6 + 5) (.int .i64 a5))
            rw [rp_row hk2 HI.out rfl] at hQ
            have hXX := ((((((hX.far (p := ⟨g', k * 6, none⟩) (Ne.symm hgb) (.int .i64 x0)).far (p := ⟨g', k * 6 + 1, none⟩) (Ne.symm hgb) (.int .i64 a1)).far (p := ⟨g', k * 6 + 2, none⟩) (Ne.symm hgb) (.int .i64 a2)).far (p := ⟨g', k * 6 + 3, none⟩) (Ne.symm hgb) (.int .i64 a3)).far (p := ⟨g', k * 6 + 4, none⟩) (Ne.symm hgb) (.int .i64 a4)).far (p := ⟨g', k * 6 + 5, none⟩) (Ne.symm hgb) (.int .i64 a5))
            have hgB : w.heap.size ≤ g' := by omega
            have bS := (bset (bset (bset (bset (bset (bset hW (p := ⟨g', k * 6, none⟩) hgB (.int .i64 x0)) (p := ⟨g', k * 6 + 1, none⟩) hgB (.int .i64 a1)) (p := ⟨g', k * 6 + 2, none⟩) hgB (.int .i64 a2)) (p := ⟨g', k * 6 + 3, none⟩) hgB (.int .i64 a3)) (p := ⟨g', k * 6 + 4, none⟩) hgB (.int .i64 a4)) (p := ⟨g', k * 6 + 5, none⟩) hgB (.int .i64 a5))
            have hyes : hasN zs x0 (k + 1) = true := hasN_yes hk2 (by rw [HI.out])
            clear c0 c1 c2 c3 c4 c5 k0 k1 k2 k3 k4 k5 f0 f1 f2 f3 f4 f5
            go_roundw
            case rel => exact ⟨k + 1, by omega, by go_num, by rw [hyes], hQ.alloc _, hXX.alloc _, balloc bS _⟩
            case measure => simp [intOf]; omega
          · have hd : (x0 == a0) = false := by simp [hm]
            go_wp2_with fail
            clear c0 c1 c2 c3 c4 c5 k0 k1 k2 k3 k4 k5 f0 f1 f2 f3 f4 f5
            go_roundw
            case rel =>
              have hx := HI.out
              exact ⟨k + 1, by omega, by go_num, by rw [hasN_no hk2 (by rw [hx]; exact hm)], by rw [rp_same hk2 hx hm]; exact HR.out.alloc _, HX.out.alloc _, balloc hW _⟩
            case measure => simp [intOf]; omega
        · obtain rfl : k = n := by omega
          have hgB : w.heap.size ≤ g' := by omega
          have hlen : (sitF (rp zs (a0, a1, a2, a3, a4, a5) k) ++ rest).length = cap * 6 := by
            rw [← HL3.out, List.length_append, List.length_append, sitF_len, sitF_len, rp_len]
          have hlq : (rp zs (a0, a1, a2, a3, a4, a5) k).length = k := by rw [rp_len]; exact HZ.out
          have hown := row_own hR hgB hlq h1 h2 hlen
          have HLQ := Lib.hid hlq
          clear hlq hlen
          rcases hf : hasN zs a0 k with _ | _
          · obtain ⟨e1, e2⟩ := cor_no (zs := zs) (a := (a0, a1, a2, a3, a4, a5)) (.inl (by rw [HZ.out]; exact hf))
            obtain rfl := e1.symm.trans HQ.out
            obtain rfl := e2.symm.trans HL.out
            clear e1 e2
            go_wp2_with fail
            go_returns
            exact ⟨_, rfl, World.ownsRow_nil _ _ _ _, hW⟩
          · rcases hs : seriesB (rp zs (a0, a1, a2, a3, a4, a5) k) with _ | _
            · obtain ⟨e1, e2⟩ := cor_no (zs := zs) (a := (a0, a1, a2, a3, a4, a5)) (.inr (by rw [HZ.out]; exact hs))
              obtain rfl := e1.symm.trans HQ.out
              obtain rfl := e2.symm.trans HL.out
              clear e1 e2
              go_wp2_with fail
              refine (IsSeries_is false hs _ (own_r hown) HLQ.out (by omega)).mono ?_
              rintro e w4 ⟨rfl, b4⟩
              go_wp2
              go_returns
              exact ⟨_, rfl, World.ownsRow_nil _ _ _ _, bstep hW b4⟩
            · have e1 : corR zs (a0, a1, a2, a3, a4, a5) = true := by simp only [corR, HV.out, HZ.out, hs, hf, Bool.and_self]
              have e2 : corL zs (a0, a1, a2, a3, a4, a5) = rp zs (a0, a1, a2, a3, a4, a5) k := by simp only [corL, e1, if_true, HZ.out]
              obtain rfl := e1.symm.trans HQ.out
              obtain rfl := e2.symm.trans HL.out
              clear e1 e2
              go_wp2_with fail
              refine (IsSeries_is true hs _ (own_r hown) HLQ.out (by omega)).mono ?_
              rintro e w4 ⟨rfl, b4⟩
              go_wp2
              go_returns
              exact ⟨_, rfl, by rw [HLQ.out]; exact own_below hown b4, bstep hW b4⟩
theorem CorrectReport_is {q : Bool} {L : List SituationT} {g n c : Nat} {t : TypeId} {zs : List SituationT} {a0 a1 a2 a3 a4 a5 : Int} (hq : corR zs (a0, a1, a2, a3, a4, a5) = q) (hL : corL zs (a0, a1, a2, a3, a4, a5) = L) (w : World) (hB : Bk w g t (sitF zs)) (hl : zs.length = n) (hn : n ≤ 1048577) :
    Calls Try.prog 14 #[.slice (some ⟨g, 0, none⟩) n c, .agg #[.int .i64 a0, .int .i64 a1, .int .i64 a2, .int .i64 a3, .int .i64 a4, .int .i64 a5]] w fun e w' => ∃ v, e = .returned (.tuple #[v, .bool q]) ∧ w'.ownsRow w.heap.size 26 6 v L.length (sitF L) ∧ Below w.heap.size w w' :=
  CorrectReport_is_rd hq hL w (sit_rd hB hl) hB.lt hl hn
end Go.Proofs.Ytjffhacoijmgiaa
