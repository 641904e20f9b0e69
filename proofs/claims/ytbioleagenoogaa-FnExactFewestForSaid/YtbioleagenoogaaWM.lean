/-
  FnExactFewestFor, walked. Conditions: none beyond the layout of its arguments.
-/
import Derived.Test.YtbioleagenoogaaWL
namespace Go.Proofs.Ytbioleagenoogaa
open Go Go.RowKit
set_option maxRecDepth 100000
set_option maxHeartbeats 4000000

theorem markAircraftS_any (g n c : Nat) (t : TypeId) (cs : List Value) (k : Int) (w : World) (hB : Bk w g t cs) (hl : n * 5 ≤ cs.length) (hn : n ≤ 140737488355328) (hk : 0 ≤ k ∧ k ≤ 1152921504606846976) :
    Calls Try.prog 13 #[.slice (some ⟨g, 0, none⟩) n c, .int .i64 k] w fun e w' => e = .returned (.int .i64 (k + (n : Int) * 5)) ∧ Bk w' g t (ints (marks k (n * 5)) ++ cs.drop (n * 5)) ∧ w.grownBy w' (some g) := by
  obtain ⟨k0, k1⟩ := hk
  go_enter Try.func13, Try.ntmps13
  go_wp2
  go_loopw [1, 5] (fun kk i wr => ∃ j : Nat, j ≤ n ∧ i = .int .i64 j ∧ kk = .int .i64 (k + (j : Int) * 5) ∧ Bk wr g t (ints (marks k (j * 5)) ++ cs.drop (j * 5)) ∧ w.grownBy wr (some g)) (fun _ i _ => n - (intOf i).toNat)
  case atStart => exact ⟨0, Nat.zero_le _, rfl, by simp, by simpa [ints, marks] using hB, World.grownBy.refl w _⟩
  case round =>
    obtain ⟨j, hj, rfl, rfl, hR, hG⟩ := hrel
    by_cases hlt : j < n
    · have hin : ∀ i, i < 5 → ∃ u, wr.cell? ⟨g, j * 5 + i, none⟩ = some u := fun i hi => by
        refine ⟨cs[j * 5 + i]'(by omega), ?_⟩
        rw [hR.cell, List.getElem?_append_right (by simp [ints, marks])]
        simp [ints, marks]
      obtain ⟨u0, t0⟩ : ∃ u, wr.cell? ⟨g, j * 5, none⟩ = some u := hin 0 (by omega)
      have f0 : wr.frozen? ⟨g, j * 5, none⟩ = false := hR.frozen _
      obtain ⟨u1, t1⟩ : ∃ u, wr.cell? ⟨g, j * 5 + 1, none⟩ = some u := hin 1 (by omega)
      have f1 : wr.frozen? ⟨g, j * 5 + 1, none⟩ = false := hR.frozen _
      obtain ⟨u2, t2⟩ : ∃ u, wr.cell? ⟨g, j * 5 + 2, none⟩ = some u := hin 2 (by omega)
      have f2 : wr.frozen? ⟨g, j * 5 + 2, none⟩ = false := hR.frozen _
      obtain ⟨u3, t3⟩ : ∃ u, wr.cell? ⟨g, j * 5 + 3, none⟩ = some u := hin 3 (by omega)
      have f3 : wr.frozen? ⟨g, j * 5 + 3, none⟩ = false := hR.frozen _
      obtain ⟨u4, t4⟩ : ∃ u, wr.cell? ⟨g, j * 5 + 4, none⟩ = some u := hin 4 (by omega)
      have f4 : wr.frozen? ⟨g, j * 5 + 4, none⟩ = false := hR.frozen _
      have hR' := Lib.hid hR
      have hG' := Lib.hid hG
      clear hin hR hG
      go_wp2
      go_roundw
      case rel =>
        refine ⟨j + 1, by omega, by go_num, by go_num, Bk.cast (((((hR'.out.set_ (j * 5) _).set_ (j * 5 + 1) _).set_ (j * 5 + 2) _).set_ (j * 5 + 3) _).set_ (j * 5 + 4) _) ?_, (((((hG'.out.trans (onlySet _ ⟨g, j * 5, none⟩ _)).trans (onlySet _ ⟨g, j * 5 + 1, none⟩ _)).trans (onlySet _ ⟨g, j * 5 + 2, none⟩ _)).trans (onlySet _ ⟨g, j * 5 + 3, none⟩ _)).trans (onlySet _ ⟨g, j * 5 + 4, none⟩ _))⟩
        rw [step_marks' (j := j * 5) hl (by omega) (by omega), step_marks' (j := j * 5 + 1) hl (by omega) (by omega), step_marks' (j := j * 5 + 2) hl (by omega) (by omega), step_marks' (j := j * 5 + 3) hl (by omega) (by omega), step_marks' (j := j * 5 + 4) hl (by omega) (by omega)]
        have e : (j + 1) * 5 = j * 5 + 5 := by omega
        rw [e]
      case measure => simp [intOf]; omega
    · go_wp2
      go_ret
      have e : j = n := by omega
      subst e
      exact ⟨rfl, hR, hG⟩
theorem acr_rd {w : World} {g n : Nat} {t : TypeId} {zs : List AircraftT} (h : Bk w g t (acrF zs)) (hl : zs.length = n) : Rd w 5 (some ⟨g, 0, none⟩) n (acrF zs) := h.rd (by rw [acrF_len, hl])
theorem outR_len (zs : List AircraftT) (wa le ba need : Int) : (outL zs (ffR zs wa le ba need)).length ≤ 6 := by
  by_cases h : ffB zs wa le ba need = true
  · rw [← ff_bits h]
    have h6 := ff_len h
    rcases fwS_inv zs.length (gdB zs wa le ba need) (2 ^ zs.length) with ⟨e, _⟩ | ⟨i, _, e, _⟩
    · rw [e]; simp [outL]
    · rw [e, outL_len]; have := bts_len zs.length i; omega
  · have e : ffR zs wa le ba need = none := by unfold ffR; rw [if_neg h]
    rw [e]; simp [outL]
theorem fnExactFewestFor_walk (A : Option Addr) (n c : Nat) (zs : List AircraftT) (b : Int × Int × Int) (need : Int) (w : World) (hr : Rd w 5 A n (acrF zs)) (hl : zs.length = n) (hn : n ≤ 9223372036854775807) (_ok : ∀ z ∈ zs, I64 z.1 ∧ I64 z.2.1 ∧ I64 z.2.2.1 ∧ I64 z.2.2.2.1 ∧ I64 z.2.2.2.2) (_h' : I64 b.1 ∧ I64 b.2.1 ∧ I64 b.2.2) (_hn' : I64 need) : Calls Try.prog 3 #[.slice A n c, .agg #[.int .i64 b.1, .int .i64 b.2.1, .int .i64 b.2.2], .int .i64 need] w fun e w' => e = .returned (.bool true) ∧ Below w.heap.size w w' := by
  obtain ⟨wa, le, ba⟩ := b
  dsimp only at *
  clear _ok _h' _hn'
  go_enter Try.func3, Try.ntmps3
  go_upto_region 1 with fail
  refine wp_gen (fun w0 => Bk w0 w.heap.size 24 [.int .i64 wa, .int .i64 le, .int .i64 ba] ∧ Below w.heap.size w w0) ⟨Bk.new' rfl, by (repeat' (first | (with_reducible exact Below.refl _ _) | (with_reducible assumption) | (with_reducible refine balloc ?_ _) | (with_reducible refine bdrew ?_) | (with_reducible refine bdrewN ?_ _) | (with_reducible refine bstep ?_ (by assumption)) | (with_reducible refine bset ?_ ?_ _) | (exact Below.size (by assumption)) | go_size))⟩ ?_
  intro w0 ⟨hy, hW⟩
  have hr := hr.below hW
  by_cases hbig : n ≤ 1048576
  · obtain ⟨q, hq⟩ : ∃ q, (ffR zs wa le ba need).isSome = q := ⟨_, rfl⟩
    obtain ⟨L, hL⟩ : ∃ q, outL zs (ffR zs wa le ba need) = q := ⟨_, rfl⟩
    have hm6 : L.length ≤ 6 := by rw [← hL]; exact outR_len _ _ _ _ _
    obtain ⟨m, hm⟩ : ∃ m, L.length = m := ⟨_, rfl⟩
    rw [hm] at hm6
    have HQ := Lib.hid hq
    have HL := Lib.hid hL
    have HM := Lib.hid hm
    have hs : 0 ≤ szI n 1048576 := by unfold szI; split <;> omega
    clear hq hL hm
    go_wp2_with fail
    refine (szAircraftS_any A n c 1048576 _ (by omega) (by omega)).mono ?_
    rintro e w1 ⟨rfl, rfl⟩
    obtain ⟨y0, y1, y2, yl⟩ := three_cells hy
    go_upto_region 5 with fail
    go_cut [8, 9] (fun s6 s7 wx => ∃ A2 c2, s6 = .slice A2 m c2 ∧ s7 = .bool q ∧ wx.ownsRow w0.heap.size 3 1 (.slice A2 m c2) m (ints L) ∧ Below w0.heap.size w0 wx)
    case first =>
      go_region_with (first
        | (go_at_call 8; refine (toAircraftS_any A n c zs _ (hr.below (show Below w0.heap.size w0 _ from by (repeat' (first | (with_reducible exact Below.refl _ _) | (with_reducible assumption) | (with_reducible refine balloc ?_ _) | (with_reducible refine bdrew ?_) | (with_reducible refine bdrewN ?_ _) | (with_reducible refine bstep ?_ (by assumption)) | (with_reducible refine bset ?_ ?_ _) | (exact Below.size (by assumption)) | go_size)))) hl (by omega)).mono ?_; rintro e w' ⟨g1, rfl, hg1, hB1, hb⟩; have B : Below w0.heap.size w0 w' := bstep (by (repeat' (first | (with_reducible exact Below.refl _ _) | (with_reducible assumption) | (with_reducible refine balloc ?_ _) | (with_reducible refine bdrew ?_) | (with_reducible refine bdrewN ?_ _) | (with_reducible refine bstep ?_ (by assumption)) | (with_reducible refine bset ?_ ?_ _) | (exact Below.size (by assumption)) | go_size))) hb; clear y0 y1 y2 yl; obtain ⟨y0, y1, y2, yl⟩ := three_cells (hy.below B hy.lt))
        | (go_at_call 9; refine (toTarget_any _ _ _ _).mono ?_; rintro e w' ⟨rfl, hb2⟩; have B : Below w0.heap.size w0 w' := bstep (by (repeat' (first | (with_reducible exact Below.refl _ _) | (with_reducible assumption) | (with_reducible refine balloc ?_ _) | (with_reducible refine bdrew ?_) | (with_reducible refine bdrewN ?_ _) | (with_reducible refine bstep ?_ (by assumption)) | (with_reducible refine bset ?_ ?_ _) | (exact Below.size (by assumption)) | go_size))) hb2; clear y0 y1 y2 yl; obtain ⟨y0, y1, y2, yl⟩ := three_cells (hy.below B hy.lt))
        | (go_at_call 7; refine (sFewest_is HQ.out HL.out _ (acr_rd (by first | exact hB1 | exact hB1.below hb2 hB1.lt) hl) hl hbig).mono ?_; rintro e w' ⟨v3, rfl, ho3, hb⟩; have B : Below w0.heap.size w0 w' := bstep (by (repeat' (first | (with_reducible exact Below.refl _ _) | (with_reducible assumption) | (with_reducible refine balloc ?_ _) | (with_reducible refine bdrew ?_) | (with_reducible refine bdrewN ?_ _) | (with_reducible refine bstep ?_ (by assumption)) | (with_reducible refine bset ?_ ?_ _) | (exact Below.size (by assumption)) | go_size))) hb; have o3 := own_weaken (base' := w0.heap.size) ho3 (Below.size (by (repeat' (first | (with_reducible exact Below.refl _ _) | (with_reducible assumption) | (with_reducible refine balloc ?_ _) | (with_reducible refine bdrew ?_) | (with_reducible refine bdrewN ?_ _) | (with_reducible refine bstep ?_ (by assumption)) | (with_reducible refine bset ?_ ?_ _) | (exact Below.size (by assumption)) | go_size)))); clear ho3))
      all_goals (rw [HM.out] at o3; obtain ⟨A2, c2, rfl, _, _⟩ := own_rd o3; (try go_wp2_with fail); go_meet; exact ⟨A2, c2, rfl, rfl, o3, B⟩)
    case rest =>
      obtain ⟨A2, c2, rfl, rfl, o2, b2⟩ := hcut
      have r20 := own_r o2
      have R20 := Lib.hid r20
      have HY := Lib.hid (hy.below b2 hy.lt)
      obtain ⟨w2, rfl⟩ : ∃ w2, w2 = wc := ⟨_, rfl⟩
      clear y0 y1 y2 yl o2 r20 hy
      go_wp2_with fail
      refine (toAircraftS_any A n c zs _ (hr.below b2) hl (by omega)).mono ?_
      rintro e w3 ⟨g3, rfl, hg3, hB3, hb3⟩
      have b3 := bstep b2 hb3
      obtain ⟨y0, y1, y2, yl⟩ := three_cells (HY.out.below hb3 HY.out.lt)
      go_wp2_with fail
      refine (toTarget_any _ _ _ _).mono ?_
      rintro e w4 ⟨rfl, hb4⟩
      have b4 := bstep b3 hb4
      have e4 := bstep hb3 hb4
      have hB4 := hB3.below hb4 hB3.lt
      clear y0 y1 y2 yl
      go_wp2_with fail
      refine (Fewest_is HQ.out HL.out _ (acr_rd hB4 hl) hl hbig).mono ?_
      rintro e w5 ⟨v5, rfl, ho5, hb5⟩
      rw [HM.out] at ho5
      obtain ⟨A5, c5, rfl, r5, _⟩ := own_rd ho5
      have b5 := bstep b4 hb5
      have e5 := bstep e4 hb5
      have hB5 := hB4.below hb5 hB4.lt
      have r2 := R20.out.below e5
      have HO5 := Lib.hid ho5
      clear ho5
      go_wp2_with fail
      refine (eqIntS_yes _ r5 r2 (by omega) rfl).mono ?_
      rintro e w6 ⟨rfl, hb6⟩
      have b6 := bstep b5 hb6
      have e6 := bstep e5 hb6
      have hB6 := hB5.below hb6 hB5.lt
      have HO6 := Lib.hid (own_below HO5.out hb6)
      clear r2 r5
      go_wp2_with fail
      refine (toAircraftS_any A n c zs _ (hr.below b6) hl (by omega)).mono ?_
      rintro e w7 ⟨g7, rfl, hg7, hB7, hb7⟩
      have b7 := bstep b6 hb7
      have e7 := bstep e6 hb7
      have hB6' := hB6.below hb7 hB6.lt
      have HO7 := Lib.hid (own_below HO6.out hb7)
      go_wp2_with fail
      refine (eqAircraftS_same _ _ n n n zs _ (acr_rd hB6' hl) (acr_rd hB7 hl) hl (by omega)).mono ?_
      rintro e w8 ⟨rfl, hb8⟩
      have b8 := bstep b7 hb8
      have e8 := bstep e7 hb8
      have hB8 := hB6'.below hb8 hB6'.lt
      have HO8 := Lib.hid (own_below HO7.out hb8)
      go_wp2_with fail
      refine (markAircraftS_any g3 n n _ _ 1 _ hB8 (by simp [acrF_len, hl]) (by omega) (by omega)).mono ?_
      rintro e w9 ⟨rfl, hB9, hG9⟩
      have hg30 : w0.heap.size ≤ g3 := Nat.le_trans b2.size hg3
      have b9 := b8.grown hG9 b8.size (fun k e => by cases e; omega)
      have e9 := e8.grown hG9 e8.size (fun k e => by cases e; omega)
      have hg34 : g3 < w4.heap.size := Nat.lt_of_lt_of_le hB3.lt hb4.size
      have HO9 := Lib.hid (own_grown HO8.out hG9 hg34)
      have r4 := own_r HO9.out
      have r2 := R20.out.below e9
      go_wp2_with fail
      refine (eqIntS_yes _ r4 r2 (by omega) rfl).mono ?_
      rintro e w10 ⟨rfl, hb10⟩
      have b10 := bstep b9 hb10
      have e10 := bstep e9 hb10
      have ho10 := own_below HO9.out hb10
      clear r4 r2
      go_wp2_with fail
      refine (markIntS_own ho10 (by omega) (by omega)).mono ?_
      rintro e w11 ⟨rfl, ho11, hG11⟩
      have b11 := own_grownBy ho10 b10 hG11 b4.size b10.size
      have e11 := own_grownBy ho10 e10 hG11 e4.size e10.size
      have r4 := own_r ho11
      have HO11 := Lib.hid ho11
      clear ho10 ho11
      go_wp2_with fail
      refine (heldIntS_any _ _ _ 1 _ r4 (by omega) (by omega)).mono ?_
      rintro e w12 ⟨rfl, rfl⟩
      have hy11 := HY.out.below e11 HY.out.lt
      obtain ⟨y0, y1, y2, yl⟩ := three_cells hy11
      have HY11 := Lib.hid hy11
      have hrw := hr.below b11
      have HRW := Lib.hid hrw
      clear r4 hy11 hrw
      go_upto_region 24 with fail
      go_cut [16, 17] (fun s6 s7 wx => ∃ A7 c7, s6 = .slice A7 m c7 ∧ s7 = .bool q ∧ wx.ownsRow w11.heap.size 3 1 (.slice A7 m c7) m (ints L) ∧ Below w11.heap.size w11 wx)
      case first =>
        go_region_with (first
          | (go_at_call 8; refine (toAircraftS_any A n c zs _ (HRW.out.below (show Below w11.heap.size w11 _ from by (repeat' (first | (with_reducible exact Below.refl _ _) | (with_reducible assumption) | (with_reducible refine balloc ?_ _) | (with_reducible refine bdrew ?_) | (with_reducible refine bdrewN ?_ _) | (with_reducible refine bstep ?_ (by assumption)) | (with_reducible refine bset ?_ ?_ _) | (exact Below.size (by assumption)) | go_size)))) hl (by omega)).mono ?_; rintro e w' ⟨g1, rfl, hg1, hB1, hb⟩; have B : Below w11.heap.size w11 w' := bstep (by (repeat' (first | (with_reducible exact Below.refl _ _) | (with_reducible assumption) | (with_reducible refine balloc ?_ _) | (with_reducible refine bdrew ?_) | (with_reducible refine bdrewN ?_ _) | (with_reducible refine bstep ?_ (by assumption)) | (with_reducible refine bset ?_ ?_ _) | (exact Below.size (by assumption)) | go_size))) hb; clear y0 y1 y2 yl; obtain ⟨y0, y1, y2, yl⟩ := three_cells (HY11.out.below B HY11.out.lt))
          | (go_at_call 9; refine (toTarget_any _ _ _ _).mono ?_; rintro e w' ⟨rfl, hb2⟩; have B : Below w11.heap.size w11 w' := bstep (by (repeat' (first | (with_reducible exact Below.refl _ _) | (with_reducible assumption) | (with_reducible refine balloc ?_ _) | (with_reducible refine bdrew ?_) | (with_reducible refine bdrewN ?_ _) | (with_reducible refine bstep ?_ (by assumption)) | (with_reducible refine bset ?_ ?_ _) | (exact Below.size (by assumption)) | go_size))) hb2; clear y0 y1 y2 yl; obtain ⟨y0, y1, y2, yl⟩ := three_cells (HY11.out.below B HY11.out.lt))
          | (go_at_call 10; refine (Fewest_is HQ.out HL.out _ (acr_rd (by first | exact hB1 | exact hB1.below hb2 hB1.lt) hl) hl hbig).mono ?_; rintro e w' ⟨v3, rfl, ho3, hb⟩; have B : Below w11.heap.size w11 w' := bstep (by (repeat' (first | (with_reducible exact Below.refl _ _) | (with_reducible assumption) | (with_reducible refine balloc ?_ _) | (with_reducible refine bdrew ?_) | (with_reducible refine bdrewN ?_ _) | (with_reducible refine bstep ?_ (by assumption)) | (with_reducible refine bset ?_ ?_ _) | (exact Below.size (by assumption)) | go_size))) hb; have o3 := own_weaken (base' := w11.heap.size) ho3 (Below.size (by (repeat' (first | (with_reducible exact Below.refl _ _) | (with_reducible assumption) | (with_reducible refine balloc ?_ _) | (with_reducible refine bdrew ?_) | (with_reducible refine bdrewN ?_ _) | (with_reducible refine bstep ?_ (by assumption)) | (with_reducible refine bset ?_ ?_ _) | (exact Below.size (by assumption)) | go_size)))); clear ho3))
        all_goals (rw [HM.out] at o3; obtain ⟨A7, c7, rfl, _, _⟩ := own_rd o3; (try go_wp2_with fail); go_meet; exact ⟨A7, c7, rfl, rfl, o3, B⟩)
      case rest =>
        obtain ⟨A7, c7, rfl, rfl, o7, b13⟩ := hcut
        have O7 := Lib.hid o7
        clear y0 y1 y2 yl o7
        go_wp2_with fail
        refine (eqIntS_yes _ (own_r O7.out) (R20.out.below (bstep e11 b13)) (by omega) rfl).mono ?_
        rintro e w14 ⟨rfl, hb14⟩
        go_wp2_with fail
        refine (heldIntS_any _ _ _ 1 _ (own_r (own_below (own_below HO11.out b13) hb14)) (by omega) (by omega)).mono ?_
        rintro e w15 ⟨rfl, rfl⟩
        go_wp2
        go_returns
        exact ⟨rfl, bstep hW (bstep (bstep b11 b13) hb14)⟩
  · have hs : szI n 1048576 < 0 := by unfold szI; split <;> omega
    go_wp2_with fail
    refine (szAircraftS_any A n c 1048576 _ (by omega) (by omega)).mono ?_
    rintro e w1 ⟨rfl, rfl⟩
    go_wp2
    go_returns
    exact ⟨rfl, hW⟩
end Go.Proofs.Ytbioleagenoogaa
