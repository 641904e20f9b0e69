/-
  A complete notebook: the program's triple loop. Conditions: lengths within the bound of a slice; a valid notebook.
-/
import Derived.Test.YthgabapegpndnaaKN
namespace Go.Proofs.Ythgabapegpndnaa
open Go.RowKit
set_option maxRecDepth 100000
set_option maxHeartbeats 4000000

theorem complete_is {q : Bool} {units : Int} {A : Option Addr} {n c : Nat} {Z : List NoteV} (hb : bookB units Z = true) (hq : comB Z = q) (w : World) (hr : RdN w A n Z) (hn : n ≤ 1048576) :
    Calls Try.prog 50 #[.slice A n c] w fun e w' => e = .returned (.bool q) ∧ Below w.heap.size w w' := by
  have HB := Lib.hid hb
  have HQ := Lib.hid hq
  have hl := hr.1
  have HF := Lib.hid (fun u s => fnd_ex Z u s)
  obtain ⟨L, hL⟩ : ∃ L, spA Z units.toNat = L := ⟨_, rfl⟩
  have HL := Lib.hid hL
  have hmiss := missing_is (c := c) hb hL w hr hn
  clear hb hq hL
  go_enter Try.func50, Try.ntmps50
  go_wp2_with fail
  refine hmiss.mono ?_
  rintro e w1 ⟨v, rfl, ho, b1⟩
  clear hmiss
  obtain ⟨A1, c1, rfl, _, _⟩ := own_rd ho
  clear ho
  rcases L with _ | ⟨p0, L⟩
  case cons =>
    obtain rfl : q = false := by rw [← HQ.out]; exact miss_com HB.out (by rw [HL.out]; simp)
    obtain ⟨ln, hln⟩ : ∃ ln, (p0 :: L).length = ln + 1 := ⟨L.length, by simp⟩
    rw [hln]
    have i0 : (0 : Int) < ((ln + 1 : Nat) : Int) := by omega
    clear hln
    go_wp2
    go_returns
    exact ⟨rfl, b1⟩
  case nil =>
  go_wp2_with fail
  go_loopw [15] (fun i wr => ∃ k : Nat, k ≤ n ∧ i = .int .i64 k ∧ Hid (∀ j, j < k → noteP Z j) ∧ Below w.heap.size w wr) (fun i _ => n - (intOf i).toNat)
  case atStart => exact ⟨0, Nat.zero_le _, rfl, Lib.hid (fun j hj => absurd hj (Nat.not_lt_zero _)), b1⟩
  case round =>
    obtain ⟨k, hk, rfl, HK, hW⟩ := hrel
    by_cases hlt : k < n
    · obtain ⟨b, off, u, s, Ar, m, cr, xs, wd, rfl, hbl, hx, hxm, hrow, z0, z1, z2, z3⟩ := hr.at_ (Below.refl w.heap.size w) hlt
      have c0 := (hW.cell (p := ⟨b, off + k * 4, none⟩) hbl).trans z0
      have c1 := (hW.cell (p := ⟨b, off + k * 4 + 1, none⟩) hbl).trans z1
      have c2 := (hW.cell (p := ⟨b, off + k * 4 + 2, none⟩) hbl).trans z2
      have c3 := (hW.cell (p := ⟨b, off + k * 4 + 3, none⟩) hbl).trans z3
      have s1 : b < wr.heap.size := Nat.lt_of_lt_of_le hbl hW.size
      have hnp := book_val HB.out (k := k) (by omega)
      rw [hx] at hnp
      obtain ⟨e1, e2, e3, _⟩ := nP_bd hnp
      have hu24 := inB_iff.1 (bookB_iff.1 HB.out).1
      have hm4 : m ≤ 4 := by omega
      have HX := Lib.hid hx
      have HE1 := Lib.hid e1
      have HE2 := Lib.hid e2
      have HE3 := Lib.hid e3
      have HXM := Lib.hid hxm
      have HROW := Lib.hid hrow
      obtain ⟨wo, rfl⟩ : ∃ wo, wo = wr := ⟨_, rfl⟩
      clear hx hrow hnp e1 e2 e3 hxm hu24 z0 z1 z2 z3
      go_upto_region 6 with fail
      refine wp_gen (fun w2 => Bk w2 wo.heap.size 35 [.int .i64 u, .int .i64 s, .slice Ar m cr, .string wd] ∧ Below wo.heap.size wo w2) ⟨Bk.new' rfl, by (repeat' (first | (with_reducible exact Below.refl _ _) | (with_reducible assumption) | (with_reducible refine balloc ?_ _) | (with_reducible refine bdrew ?_) | (with_reducible refine bdrewN ?_ _) | (with_reducible refine bstep ?_ (by assumption)) | (with_reducible refine bset ?_ ?_ _) | (exact Below.size (by assumption)) | go_size))⟩ ?_
      intro w2 ⟨hX, c2b⟩
      obtain ⟨x0, x1, x2, x3, xl⟩ := four_cells hX
      have b2 := bstep hW c2b
      have HBX := Lib.hid hX
      clear c0 c1 c2 c3 hX s1
      go_wp2_with fail
      clear x0 x1 x2 x3 xl
      go_loopw [23] (fun i wr => ∃ j : Nat, j ≤ m ∧ i = .int .i64 j ∧ Hid (∀ (u s : Nat), u < j → 1 ≤ s → (s : Int) ≤ xs.getD u 0 → itP Z k u s) ∧ Hid (Bk wr wo.heap.size 35 [.int .i64 u, .int .i64 s, .slice Ar m cr, .string wd]) ∧ Below w.heap.size w wr) (fun i _ => m - (intOf i).toNat)
      case atStart => exact ⟨0, Nat.zero_le _, rfl, Lib.hid (fun u s h => absurd h (Nat.not_lt_zero _)), HBX, b2⟩
      case round =>
        obtain ⟨j, hj, rfl, HU, HBX, hW2⟩ := hrel
        by_cases hlj : j < m
        · obtain ⟨b3, off3, x, hA3, hbl3, hx3, z0⟩ := ints_at HROW.out hW2 HXM.out hlj
          subst hA3
          have s3 : b3 < wr.heap.size := Nat.lt_of_lt_of_le hbl3 hW2.size
          have hxb := HE2.out x (hx3 ▸ List.getElem_mem _)
          have hxg := getD_of hx3
          obtain ⟨y, hy⟩ : ∃ y : Nat, x.toNat = y := ⟨_, rfl⟩
          have hxy : x = (y : Int) := by omega
          have hy12 : y ≤ 12 := by omega
          subst hxy
          have HXG := Lib.hid hxg
          have j3 : (j : Int) < (m : Int) := by omega
          have j4 : (0 : Int) ≤ (j : Int) := by omega
          clear hx3 hy hxb hxg
          go_wp2_with fail
          go_loopw [7] (fun i wr => ∃ p : Nat, p ≤ y ∧ i = .int .i64 ((p : Int) + 1) ∧ Hid (∀ s : Nat, 1 ≤ s → s ≤ p → itP Z k j s) ∧ Hid (Bk wr wo.heap.size 35 [.int .i64 u, .int .i64 s, .slice (some ⟨b3, off3, none⟩) m cr, .string wd]) ∧ Below w.heap.size w wr) (fun i _ => y + 1 - (intOf i).toNat)
          case atStart => exact ⟨0, Nat.zero_le _, by go_num, Lib.hid (fun s h1 h2 => by omega), HBX, hW2⟩
          case round =>
            obtain ⟨p, hp, rfl, HS, HBX, hW3⟩ := hrel
            by_cases hlp : p < y
            · obtain ⟨fv, hfv⟩ := HF.out (j : Int) ((p : Int) + 1)
              have h0 : 0 ≤ fv := by
                refine miss_none HB.out HL.out (k := k) (u := j) (s := p + 1) (x := (y : Int)) (by omega) ?_ (by omega) ?_ (by omega) (by simpa using hfv)
                · rw [HX.out]; show j < xs.length; rw [HXM.out]; exact hlj
                · rw [HX.out]; exact HXG.out
              obtain ⟨v, rfl⟩ : ∃ v : Nat, fv = (v : Int) := ⟨fv.toNat, by omega⟩
              have hvl := fnd_lt hfv
              have hit := itP_of (k := k) hfv
              have HFV := Lib.hid hfv
              have HIT := Lib.hid hit
              have q1 : (p : Int) + 1 ≤ (y : Int) := by omega
              have q2 : (0 : Int) ≤ (p : Int) := by omega
              have q3 : (p : Int) ≤ 12 := by omega
              clear hfv hit h0
              go_wp2_with fail
              refine (find_is HFV.out _ (hr.below hW3) hn).mono ?_
              rintro e w5 ⟨rfl, hb5⟩
              have b5 := bstep hW3 hb5
              have hbx5 := HBX.out.below hb5 HBX.out.lt
              have HBX5 := Lib.hid hbx5
              obtain ⟨x0, x1, x2, x3, xl⟩ := four_cells hbx5
              obtain ⟨b', off', u', s', Ar', m', cr', xs', wd', hbe, hbl', hx', hxm', hrow', d0, d1, d2, d3⟩ := hr.at_ (k := v) b5 (by omega)
              simp only [Option.some.injEq, Addr.mk.injEq, and_true] at hbe
              obtain ⟨rfl, rfl⟩ := hbe
              have s2 : b < w5.heap.size := Nat.lt_of_lt_of_le hbl b5.size
              have hnp' := book_val HB.out (k := v) (by omega)
              rw [hx'] at hnp'
              obtain ⟨f1, _, _⟩ := nP_bd hnp'
              have hmm : m' = m := by have := HE1.out; have := HXM.out; omega
              subst hmm
              obtain ⟨kv, hkv⟩ : ∃ kv, knB u s xs xs' = kv := ⟨_, rfl⟩
              have hka : knAt Z k v = (decide (v = k) || kv) := by
                unfold knAt
                rw [HX.out, hx']
                show (decide (v = k) || knB u s xs xs') = _
                rw [hkv]
              have hpu : 0 ≤ u ∧ u < (m' : Int) := by have := HE3.out; have := HE1.out; have := HXM.out; omega
              have HKN := fun W (hr1 : Rd W 1 (some ⟨b3, off3, none⟩) m' (ints xs)) (hr2 : Rd W 1 Ar' m' (ints xs')) => knows_is (c := cr) (c2 := cr') (wd := wd) (wd2 := wd') (u2 := u') (s2 := s') hkv W hr1 hr2 HXM.out hxm' (Nat.le_refl _) (by omega) hpu
              have HKA := Lib.hid hka
              have HRO := Lib.hid hrow'
              have v1 : (v : Int) < (n : Int) := by omega
              have v2 : (0 : Int) ≤ (v : Int) := by omega
              have HKV := Lib.hid hkv
              clear hx' hxm' hrow' hnp' f1 hka hkv hpu hbx5
              by_cases hvk : v = k
              · subst hvk
                have hd : ((v : Int) != (v : Int)) = false := by simp
                have HYES : Hid (knAt Z v v = true) := Lib.hid (by rw [HKA.out]; simp)
                go_wp2
                (refine wp_region_bel (by kernel_rfl) (by kernel_rfl) ?_; (repeat (go_big_quiet_step ((first | fail)))); refine wpQuiet_nil ?_; intro w' hw'; have hb := below_of hw'; clear hw'; (try clear cW fW zW); (first | (have bW := bstep bW hb) | (have bW := bstep (bdrew bW) hb) | (have bW := bstep (balloc bW _) hb) | (have bW := bstep (bdrewN bW _) hb) | (have bW := hb)); clear hb; obtain ⟨cW, fW⟩ := bcell bW; have zW := bsize bW)
                have HBX6 := Lib.hid (HBX5.out.below bW HBX5.out.lt)
                go_wp2
                go_roundw
                case rel =>
                  refine ⟨p + 1, by omega, by go_num, Lib.hid (fun s h1 h2 => ?_), HBX6, bstep b5 bW⟩
                  by_cases h9 : s ≤ p
                  · exact HS.out s h1 h9
                  · have : s = p + 1 := by omega
                    subst this
                    simpa using HIT.out.2 HYES.out
                case measure => simp [intOf]; omega
              · have hd : ((v : Int) != (k : Int)) = true := by simp; omega
                have HVK := Lib.hid hvk
                clear hvk
                rcases kv with _ | _
                · obtain rfl : q = false := by
                    rw [← HQ.out]
                    refine comB_no (k := k) (by omega) (noteK_no (u := j) (s := p + 1) (x := (y : Int)) ?_ (by omega) (by omega) ?_ ?_)
                    · rw [HX.out]; show j < xs.length; rw [HXM.out]; exact hlj
                    · rw [HX.out]; exact HXG.out
                    · intro h
                      have h2 := HIT.out.1 (by simpa using h)
                      rw [HKA.out, decide_eq_false HVK.out] at h2
                      cases h2
                  go_wp2
                  (refine wp_region_bel (by kernel_rfl) (by kernel_rfl) ?_; (repeat (go_big_quiet_step ((first | (go_at_call 67; exact calls_bel (HKN _ (HROW.out.below (bstep b5 (below_bel _ _))) (HRO.out.below (below_bel _ _)))))))); refine wpQuiet_nil ?_; intro w' hw'; have hb := below_of hw'; clear hw'; (try clear cW fW zW); (first | (have bW := bstep bW hb) | (have bW := bstep (bdrew bW) hb) | (have bW := bstep (balloc bW _) hb) | (have bW := bstep (bdrewN bW _) hb) | (have bW := hb)); clear hb; obtain ⟨cW, fW⟩ := bcell bW; have zW := bsize bW)
                  go_wp2
                  go_returns
                  exact ⟨rfl, bstep b5 bW⟩
                · have HYES : Hid (knAt Z k v = true) := Lib.hid (by rw [HKA.out]; simp)
                  go_wp2
                  (refine wp_region_bel (by kernel_rfl) (by kernel_rfl) ?_; (repeat (go_big_quiet_step ((first | (go_at_call 67; exact calls_bel (HKN _ (HROW.out.below (bstep b5 (below_bel _ _))) (HRO.out.below (below_bel _ _)))))))); refine wpQuiet_nil ?_; intro w' hw'; have hb := below_of hw'; clear hw'; (try clear cW fW zW); (first | (have bW := bstep bW hb) | (have bW := bstep (bdrew bW) hb) | (have bW := bstep (balloc bW _) hb) | (have bW := bstep (bdrewN bW _) hb) | (have bW := hb)); clear hb; obtain ⟨cW, fW⟩ := bcell bW; have zW := bsize bW)
                  have HBX6 := Lib.hid (HBX5.out.below bW HBX5.out.lt)
                  go_wp2
                  go_roundw
                  case rel =>
                    refine ⟨p + 1, by omega, by go_num, Lib.hid (fun s h1 h2 => ?_), HBX6, bstep b5 bW⟩
                    by_cases h9 : s ≤ p
                    · exact HS.out s h1 h9
                    · have : s = p + 1 := by omega
                      subst this
                      simpa using HIT.out.2 HYES.out
                  case measure => simp [intOf]; omega
            · obtain rfl : p = y := by omega
              go_wp2
              go_roundw
              case rel =>
                refine ⟨j + 1, by omega, by go_num, Lib.hid (fun u s h1 h2 h3 => ?_), HBX, hW3⟩
                by_cases h9 : u < j
                · exact HU.out u s h9 h2 h3
                · have : u = j := by omega
                  subst this
                  rw [HXG.out] at h3
                  exact HS.out s h2 (by omega)
              case measure => simp [intOf]; omega
        · obtain rfl : j = m := by omega
          go_wp2
          go_roundw
          case rel =>
            refine ⟨k + 1, by omega, by go_num, Lib.hid (fun j hj => ?_), hW2⟩
            by_cases h9 : j < k
            · exact HK.out j h9
            · have : j = k := by omega
              subst this
              intro u s h1 h2 h3
              rw [HX.out] at h1 h3
              exact HU.out u s (by have := HXM.out; have h1 : u < xs.length := h1; omega) h2 h3
          case measure => simp [intOf]; omega
    · obtain rfl : k = n := by omega
      obtain rfl : q = true := by rw [← HQ.out]; exact comB_iff.2 (by rw [hl]; exact HK.out)
      go_wp2
      go_returns
      exact ⟨rfl, hW⟩
end Go.Proofs.Ythgabapegpndnaa
