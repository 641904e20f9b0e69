/-
  The missing notes as the program collects and sorts them. Conditions: lengths within the bound of a slice; a valid notebook.
-/
import Derived.Test.YthgabapegpndnaaSF
import Derived.Test.YthgabapegpndnaaHS
import Derived.Test.YthgabapegpndnaaFD
import Derived.Test.YthgabapegpndnaaR
namespace Go.Proofs.Ythgabapegpndnaa
open Go.RowKit
set_option maxRecDepth 100000
set_option maxHeartbeats 4000000

theorem mi_yes {Z : List NoteV} {acc : List PairT} {u s : Int} (h1 : noB Z u s = true) (h2 : decide ((u, s) ∈ acc) = false) : mi Z acc u s = acc ++ [(u, s)] := by unfold mi; rw [if_pos ⟨h1, of_decide_eq_false h2⟩]
theorem mi_in {Z : List NoteV} {acc : List PairT} {u s : Int} (h2 : decide ((u, s) ∈ acc) = true) : mi Z acc u s = acc := by unfold mi; rw [if_neg (fun h => h.2 (of_decide_eq_true h2))]
theorem mi_there {Z : List NoteV} {acc : List PairT} {u s : Int} (h1 : noB Z u s = false) : mi Z acc u s = acc := by unfold mi; rw [if_neg (fun h => by rw [h1] at h; cases h.1)]
theorem acc_len {units : Int} {Z : List NoteV} (h : bookB units Z = true) {k : Nat} (hk : k < Z.length) {u s : Int} {xs : List Int} {wd : ByteArray} (hz : nAt Z k = (u, s, xs, wd)) (j p : Nat) (hj : j ≤ 4) (hp : p ≤ 12) : (ms Z (mu Z (mz Z k) xs j) (j : Int) p).length ≤ 700 := by
  have h1 := mz_len h k (by omega)
  have hv := book_val h hk
  rw [hz] at hv
  obtain ⟨_, e2, _⟩ := nP_bd hv
  have h2 := mu_len Z (mz Z k) xs e2 j
  have h3 := ms_len Z (mu Z (mz Z k) xs j) (j : Int) p
  have h4 := (bookB_iff.1 h).2.2
  omega
theorem ms_zero (Z : List NoteV) (acc : List PairT) (u : Int) : ms Z acc u 0 = acc := rfl
theorem ms_succ (Z : List NoteV) (acc : List PairT) (u : Int) (k : Nat) : ms Z acc u (k + 1) = mi Z (ms Z acc u k) u ((k : Int) + 1) := rfl
theorem mu_zero (Z : List NoteV) (acc : List PairT) (xs : List Int) : mu Z acc xs 0 = acc := rfl
theorem mu_succ {Z : List NoteV} {acc : List PairT} {xs : List Int} {j : Nat} {x : Int} (hj : j < xs.length) (hx : xs[j] = x) : mu Z acc xs (j + 1) = ms Z (mu Z acc xs j) (j : Int) x.toNat := by
  show ms Z (mu Z acc xs j) (j : Int) (xs.getD j 0).toNat = _
  rw [List.getD_eq_getElem?_getD, List.getElem?_eq_getElem hj, hx]; rfl
theorem mz_succ {Z : List NoteV} {k : Nat} {u s : Int} {xs : List Int} {wd : ByteArray} (hz : nAt Z k = (u, s, xs, wd)) {m : Nat} (hm : xs.length = m) : mz Z (k + 1) = mu Z (mz Z k) xs m := by
  show mu Z (mz Z k) (nAt Z k).2.2.1 (nAt Z k).2.2.1.length = _
  rw [hz]; simp only [hm]
theorem missing_is {L : List PairT} {units : Int} {A : Option Addr} {n c : Nat} {Z : List NoteV} (hq : bookB units Z = true) (hL : spA Z units.toNat = L) (w : World) (hr : RdN w A n Z) (hn : n ≤ 1048576) :
    Calls Try.prog 53 #[.slice A n c] w fun e w' => ∃ v, e = .returned v ∧ w'.ownsRow w.heap.size 55 2 v L.length (prF L) ∧ Below w.heap.size w w' := by
  have HQ := Lib.hid hq
  have HL := Lib.hid hL
  have hl := hr.1
  have hn12 : n ≤ 12 := by have := (bookB_iff.1 hq).2.2; omega
  have HF := Lib.hid (fun u s => fnd_ex Z u s)
  clear hq hL
  obtain ⟨i0, hi0, hz0, hz1, hz2⟩ := infoP
  go_enter Try.func53, Try.ntmps53
  go_wp2_with fail
  go_loopw [3, 13] (fun v i wr => ∃ k : Nat, k ≤ n ∧ i = .int .i64 k ∧ wr.ownsRow w.heap.size 55 2 v (mz Z k).length (prF (mz Z k)) ∧ Hid (v ≠ .slice none 0 0) ∧ Below w.heap.size w wr) (fun _ i _ => n - (intOf i).toNat)
  case atStart => exact ⟨0, Nat.zero_le _, rfl, by simpa [mz, prF] using own_lit' (w := w) (t := 55) (k := 2) rfl (Nat.le_refl _), Lib.hid (by simp), by (repeat' (first | (with_reducible exact Below.refl _ _) | (with_reducible assumption) | (with_reducible refine balloc ?_ _) | (with_reducible refine bdrew ?_) | (with_reducible refine bdrewN ?_ _) | (with_reducible refine bstep ?_ (by assumption)) | (with_reducible refine bset ?_ ?_ _) | (exact Below.size (by assumption)) | go_size))⟩
  case round =>
    obtain ⟨k, hk, rfl, hown, HNN, hW⟩ := hrel
    by_cases hlt : k < n
    · obtain ⟨b, off, u, s, Ar, m, cr, xs, wd, rfl, hbl, hx, hxm, hrow, z0, z1, z2, z3⟩ := hr.at_ (Below.refl w.heap.size w) hlt
      have c0 := (hW.cell (p := ⟨b, off + k * 4, none⟩) hbl).trans z0
      have c1 := (hW.cell (p := ⟨b, off + k * 4 + 1, none⟩) hbl).trans z1
      have c2 := (hW.cell (p := ⟨b, off + k * 4 + 2, none⟩) hbl).trans z2
      have c3 := (hW.cell (p := ⟨b, off + k * 4 + 3, none⟩) hbl).trans z3
      have s1 : b < wr.heap.size := Nat.lt_of_lt_of_le hbl hW.size
      have hnp := book_val HQ.out (k := k) (by omega)
      rw [hx] at hnp
      obtain ⟨e1, e2, _⟩ := nP_bd hnp
      have hu24 := inB_iff.1 (bookB_iff.1 HQ.out).1
      have hm4 : m ≤ 4 := by omega
      have HX := Lib.hid hx
      have HE2 := Lib.hid e2
      have HXM := Lib.hid hxm
      have HROW := Lib.hid hrow
      have HO := Lib.hid hown
      obtain ⟨wo, rfl⟩ : ∃ wo, wo = wr := ⟨_, rfl⟩
      clear hx hrow hnp hown e1 e2 hxm hu24 z0 z1 z2 z3
      go_upto_region 5 with fail
      refine wp_gen (fun w2 => Bk w2 wo.heap.size 35 [.int .i64 u, .int .i64 s, .slice Ar m cr, .string wd] ∧ Below wo.heap.size wo w2) ⟨Bk.new' rfl, by (repeat' (first | (with_reducible exact Below.refl _ _) | (with_reducible assumption) | (with_reducible refine balloc ?_ _) | (with_reducible refine bdrew ?_) | (with_reducible refine bdrewN ?_ _) | (with_reducible refine bstep ?_ (by assumption)) | (with_reducible refine bset ?_ ?_ _) | (exact Below.size (by assumption)) | go_size))⟩ ?_
      intro w2 ⟨hX, c2b⟩
      obtain ⟨x0, x1, x2, x3, xl⟩ := four_cells hX
      have HO2 := Lib.hid (own_below HO.out c2b)
      have b2 := bstep hW c2b
      clear c0 c1 c2 c3 hX s1
      go_wp2_with fail
      clear x0 x1 x2 x3 xl
      go_loopw [3, 20] (fun v i wr => ∃ j : Nat, j ≤ m ∧ i = .int .i64 j ∧ wr.ownsRow w.heap.size 55 2 v (mu Z (mz Z k) xs j).length (prF (mu Z (mz Z k) xs j)) ∧ Hid (v ≠ .slice none 0 0) ∧ Below w.heap.size w wr) (fun _ i _ => m - (intOf i).toNat)
      case atStart => exact ⟨0, Nat.zero_le _, rfl, HO2.out, HNN, b2⟩
      case round =>
        obtain ⟨j, hj, rfl, hown, HNN, hW2⟩ := hrel
        by_cases hlj : j < m
        · obtain ⟨b3, off3, x, hA3, hbl3, hx3, z0⟩ := ints_at HROW.out hW2 HXM.out hlj
          subst hA3
          have s3 : b3 < wr.heap.size := Nat.lt_of_lt_of_le hbl3 hW2.size
          have hxb := HE2.out x (hx3 ▸ List.getElem_mem _)
          obtain ⟨y, hy⟩ : ∃ y : Nat, x.toNat = y := ⟨_, rfl⟩
          have hxy : x = (y : Int) := by omega
          have hy12 : y ≤ 12 := by omega
          have hmu := mu_succ (Z := Z) (acc := mz Z k) (by have := HXM.out; omega) hx3
          rw [hy] at hmu
          have HMU := Lib.hid hmu
          have hac := fun p (hp : p ≤ 12) => acc_len HQ.out (k := k) (by omega) HX.out j p (by omega) hp
          obtain ⟨ac, hacc⟩ : ∃ ac, ac = mu Z (mz Z k) xs j := ⟨_, rfl⟩
          rw [← hacc] at hown hac hmu
          have HAC := Lib.hid hac
          have HA := Lib.hid hacc
          have HM2 := Lib.hid hmu
          have HO3 := Lib.hid hown
          have j3 : (j : Int) < (m : Int) := by omega
          have j4 : (0 : Int) ≤ (j : Int) := by omega
          subst hxy
          clear hx3 hy hmu hac hacc hown hxb
          go_wp2_with fail
          go_loopw [3, 8] (fun v i wr => ∃ p : Nat, p ≤ y ∧ i = .int .i64 ((p : Int) + 1) ∧ wr.ownsRow w.heap.size 55 2 v (ms Z ac (j : Int) p).length (prF (ms Z ac (j : Int) p)) ∧ Hid (v ≠ .slice none 0 0) ∧ Below w.heap.size w wr) (fun _ i _ => y + 1 - (intOf i).toNat)
          case atStart => exact ⟨0, Nat.zero_le _, by go_num, HO3.out, HNN, hW2⟩
          case round =>
            obtain ⟨p, hp, rfl, hown, HNN, hW3⟩ := hrel
            by_cases hlp : p < y
            · have hle := HAC.out p (by omega)
              have hst := ms_succ Z ac (j : Int) p
              obtain ⟨aq, haq⟩ : ∃ aq, aq = ms Z ac (j : Int) p := ⟨_, rfl⟩
              rw [← haq] at hown hle hst
              obtain ⟨fv, hfv⟩ := HF.out (j : Int) ((p : Int) + 1)
              have hno := fnd_no hfv
              have HFV := Lib.hid hfv
              have HNO := Lib.hid hno
              have HST := Lib.hid hst
              have HAQ := Lib.hid haq
              obtain ⟨A5, c5, rfl, r5, hm5⟩ := own_rd hown
              have HO5 := Lib.hid hown
              have HR5 := Lib.hid r5
              have hltg := fun g hg => (hown.lt g hg).2
              have HLT := Lib.hid hltg
              have q1 : (p : Int) + 1 ≤ (y : Int) := by omega
              have q2 : (0 : Int) ≤ (p : Int) := by omega
              have q3 : (p : Int) ≤ 12 := by omega
              obtain ⟨wq, rfl⟩ : ∃ wq, wq = wr := ⟨_, rfl⟩
              clear hfv hno hst haq hown r5 hltg
              go_upto_region 12 with fail
              refine wp_gen (fun w4 => Bk w4 wq.heap.size 55 [.int .i64 (j : Int), .int .i64 ((p : Int) + 1)] ∧ Below wq.heap.size wq w4) ⟨Bk.new' rfl, by (repeat' (first | (with_reducible exact Below.refl _ _) | (with_reducible assumption) | (with_reducible refine balloc ?_ _) | (with_reducible refine bdrew ?_) | (with_reducible refine bdrewN ?_ _) | (with_reducible refine bstep ?_ (by assumption)) | (with_reducible refine bset ?_ ?_ _) | (exact Below.size (by assumption)) | go_size))⟩ ?_
              intro w4 ⟨hP, c4b⟩
              have b4 := bstep hW3 c4b
              have HP := Lib.hid hP
              clear hP
              go_wp2_with fail
              refine (find_is HFV.out _ (hr.below b4) hn).mono ?_
              rintro e w5 ⟨rfl, hb5⟩
              have c5b := bstep c4b hb5
              have b5 := bstep b4 hb5
              have HP5 := Lib.hid (HP.out.below hb5 HP.out.lt)
              by_cases hneg : fv < 0
              · have hnb : noB Z (j : Int) ((p : Int) + 1) = true := by rw [HNO.out]; simp [hneg]
                have HNB := Lib.hid hnb
                obtain ⟨iv, hiv⟩ : ∃ iv, decide (((j : Int), (p : Int) + 1) ∈ aq) = iv := ⟨_, rfl⟩
                have HIV := Lib.hid hiv
                obtain ⟨x0, x1, xl⟩ := two_cells HP5.out
                clear hiv hnb
                go_wp2_with fail
                refine (hasPr_is HIV.out _ (HR5.out.below c5b) rfl (by omega)).mono ?_
                rintro e w6 ⟨rfl, hb6⟩
                have c6b := bstep c5b hb6
                have b6 := bstep b5 hb6
                have HP6 := Lib.hid (HP5.out.below hb6 HP5.out.lt)
                clear x0 x1 xl
                rcases iv with _ | _
                · obtain ⟨x0, x1, xl⟩ := two_cells HP6.out
                  have ho6 := own_below HO5.out c6b
                  have hsz := b6.size
                  go_wp2_with (at_builtin; refine wpList_append_own _ rfl (.tmp 44) (.tmp 46) 44 rfl w.heap.size 55 i0 _ 2 16 Try.underlying44 hi0 hz0 hz1 hz2 rfl (by decide) _ _ _ rfl (own_alloc ho6 _) ⟨_, 0, none⟩ 1 1 (prE ((j : Int), (p : Int) + 1)) rfl rfl ?c1 ?c2 ?c3 ?c4 ?c5 ?_)
                  case c1 => exact two_new rfl
                  case c2 => intro u hu; exact pr_one [_] u (by simpa [prF] using hu)
                  case c3 => (unfold maxLen; omega)
                  case c4 => omega
                  case c5 => (simp; omega)
                  intro v' w7 hown7 hgrow _
                  have b7 := own_grownBy (own_alloc ho6 _) (balloc b6 _) hgrow (Nat.le_refl _) (by simp; omega)
                  have hnn : v' ≠ .slice none 0 0 := fun h => by
                    rcases own_bk hown7 with ⟨_, h0⟩ | ⟨_, _, _, h1, _⟩
                    · omega
                    · rw [h] at h1; cases h1
                  have HNN7 := Lib.hid hnn
                  clear hnn
                  go_wp2
                  go_roundw
                  case rel => exact ⟨p + 1, by omega, by go_num, by rw [HST.out, mi_yes HNB.out HIV.out, prF_append, List.length_append]; simpa [prF] using hown7, HNN7, b7⟩
                  case measure => simp [intOf]; omega
                · have ho6 := Lib.hid (own_below HO5.out c6b)
                  go_wp2
                  go_roundw
                  case rel => exact ⟨p + 1, by omega, by go_num, by rw [HST.out, mi_in HIV.out]; exact ho6.out, HNN, b6⟩
                  case measure => simp [intOf]; omega
              · have hnb : noB Z (j : Int) ((p : Int) + 1) = false := by rw [HNO.out]; simp [hneg]
                have HNB := Lib.hid hnb
                have ho5 := Lib.hid (own_below HO5.out c5b)
                clear hnb
                go_wp2
                go_roundw
                case rel => exact ⟨p + 1, by omega, by go_num, by rw [HST.out, mi_there HNB.out]; exact ho5.out, HNN, b5⟩
                case measure => simp [intOf]; omega
            · obtain rfl : p = y := by omega
              have HO4 := Lib.hid hown
              clear hown
              go_wp2
              go_roundw
              case rel => exact ⟨j + 1, by omega, by go_num, by rw [HMU.out, ← HA.out]; exact HO4.out, HNN, hW3⟩
              case measure => simp [intOf]; omega
        · obtain rfl : j = m := by omega
          have HO4 := Lib.hid hown
          clear hown
          go_wp2
          go_roundw
          case rel => exact ⟨k + 1, by omega, by go_num, by rw [mz_succ HX.out HXM.out]; exact HO4.out, HNN, hW2⟩
          case measure => simp [intOf]; omega
    · obtain rfl : k = n := by omega
      have hlen := mz_len HQ.out k (by omega)
      rw [← hl] at hown hlen
      rcases own_bk hown with ⟨hv, _⟩ | ⟨g, cap, cs, rfl, hb, hB, h1, h2, h3, h4⟩
      · exact absurd hv HNN.out
      obtain ⟨ln, hln⟩ : ∃ ln, (mz Z Z.length).length = ln := ⟨_, rfl⟩
      rw [hln] at h1 h4 hlen
      have hcs : cs = prF (mz Z Z.length) ++ cs.drop (ln * 2) := by rw [← h4]; exact (List.take_append_drop _ _).symm
      rw [hcs] at hB
      have HB := Lib.hid hB
      have HLN := Lib.hid hln
      have HCS := Lib.hid hcs
      have H3 := Lib.hid h3
      clear hown hB hcs h4 hln h3
      rw [HLN.out]
      go_wp2_with fail
      refine (SortFunc_pr g ln cap 55 (mz Z Z.length) _ _ HB.out HLN.out (by omega)).mono ?_
      rintro e w1 ⟨rfl, ds, hp, hs, hB1, hG1⟩
      have hsame := miss_same HQ.out hp hs
      rw [HL.out] at hsame
      subst hsame
      have hlL : ds.length = ln := by rw [hp.length_eq, HLN.out]
      have hW1 : Below w.heap.size w w1 := hW.grown hG1 hW.size (fun k e => by cases e; exact hb)
      have hown1 := bk_own (n := ln) (k := 2) (xs := prF ds) hb hB1 h1 h2 (by
        have h9 := congrArg List.length HCS.out
        have h8 := H3.out
        rw [List.length_append, prF_len] at h9 ⊢
        rw [hlL]
        rw [HLN.out] at h9
        omega) (by
        rw [List.take_append_of_le_length (by rw [prF_len, hlL]; exact Nat.le_refl _)]
        exact List.take_of_length_le (by rw [prF_len, hlL]; exact Nat.le_refl _))
      rw [← hlL] at hown1
      have HO := Lib.hid hown1
      have HLL := Lib.hid hlL
      clear hown1 hB1 hp hs hlL
      go_wp2
      go_returns
      exact ⟨_, rfl, by have := HO.out; rw [HLL.out] at this ⊢; exact this, hW1⟩
end Go.Proofs.Ythgabapegpndnaa
