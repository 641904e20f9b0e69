/-
  A complete notebook: the reference's test; IsCompleteBook of both. Conditions: lengths within the bound of a slice.
-/
import Derived.Test.YthgabapegpndnaaCM
namespace Go.Proofs.Ythgabapegpndnaa
open Go.RowKit
set_option maxRecDepth 100000
set_option maxHeartbeats 4000000

theorem l17Knows_is {q : Bool} {units u s : Int} {A Ar : Option Addr} {n c m cr k : Nat} {xs : List Int} {wd : ByteArray} {Z : List NoteV} (hb : bookB units Z = true) (hq : noteK Z k = q) (w : World) (hr : RdN w A n Z) (hn : n ≤ 1048576) (hk : k < n) (hx : nAt Z k = (u, s, xs, wd)) (hxm : xs.length = m) (hrow : Rd w 1 Ar m (ints xs)) :
    Calls Try.prog 65 #[.slice A n c, .agg #[.int .i64 u, .int .i64 s, .slice Ar m cr, .string wd]] w fun e w' => e = .returned (.bool q) ∧ Below w.heap.size w w' := by
  have HB := Lib.hid hb
  have HQ := Lib.hid hq
  have hl := hr.1
  have HF := Lib.hid (fun u s => fnd_ex Z u s)
  have hnp := book_val hb (k := k) (by omega)
  rw [hx] at hnp
  obtain ⟨e1, e2, e3, e4, e5, _⟩ := nP_bd hnp
  have hu24 := inB_iff.1 (bookB_iff.1 hb).1
  have hm4 : m ≤ 4 := by omega
  have HX := Lib.hid hx
  have HE1 := Lib.hid e1
  have HE2 := Lib.hid e2
  have HE3 := Lib.hid e3
  have HE4 := Lib.hid e4
  have HXM := Lib.hid hxm
  have HROW := Lib.hid hrow
  clear hb hq hx hxm hrow hnp e1 e2 e3 e4 e5 hu24
  go_enter Try.func65, Try.ntmps65
  go_upto_region 1 with fail
  refine wp_gen (fun w2 => Bk w2 w.heap.size 35 [.int .i64 u, .int .i64 s, .slice Ar m cr, .string wd] ∧ Below w.heap.size w w2) ⟨Bk.new' rfl, by (repeat' (first | (with_reducible exact Below.refl _ _) | (with_reducible assumption) | (with_reducible refine balloc ?_ _) | (with_reducible refine bdrew ?_) | (with_reducible refine bdrewN ?_ _) | (with_reducible refine bstep ?_ (by assumption)) | (with_reducible refine bset ?_ ?_ _) | (exact Below.size (by assumption)) | go_size))⟩ ?_
  intro w2 ⟨hX, b2⟩
  obtain ⟨x0, x1, x2, x3, xl⟩ := four_cells hX
  have HBX := Lib.hid hX
  clear hX
  go_wp2_with fail
  clear x0 x1 x2 x3 xl
  go_loopw [6] (fun i wr => ∃ j : Nat, j ≤ m ∧ i = .int .i64 j ∧ Hid (∀ (u s : Nat), u < j → 1 ≤ s → (s : Int) ≤ xs.getD u 0 → itP Z k u s) ∧ Hid (Bk wr w.heap.size 35 [.int .i64 u, .int .i64 s, .slice Ar m cr, .string wd]) ∧ Below w.heap.size w wr) (fun i _ => m - (intOf i).toNat)
  case atStart => exact ⟨0, Nat.zero_le _, rfl, Lib.hid (fun u s h => absurd h (Nat.not_lt_zero _)), HBX, b2⟩
  case round =>
    obtain ⟨j, hj, rfl, HU, HBX, hW2⟩ := hrel
    by_cases hlj : j < m
    · obtain ⟨b3, off3, x, hA3, hbl3, hx3, z0⟩ := ints_at HROW.out hW2 HXM.out hlj
      subst hA3
      have s3 : b3 < wr.heap.size := Nat.lt_of_lt_of_le hbl3 hW2.size
      have hxb := HE2.out x (hx3 ▸ List.getElem_mem _)
      have hxg := getD_of hx3
      obtain ⟨y, hy⟩ : ∃ y : Nat, x.toNat = y := ⟨_, rfl⟩
      have hxy : x = (y : Int) := by omega
      have hy12 : y ≤ 12 := by omega
      subst hxy
      have HXG := Lib.hid hxg
      have HX3 := Lib.hid hx3
      have j3 : (j : Int) < (m : Int) := by omega
      have j4 : (0 : Int) ≤ (j : Int) := by omega
      clear hx3 hy hxb hxg s3 z0
      go_wp2_with fail
      go_loopw [7] (fun i wr => ∃ p : Nat, p ≤ y ∧ i = .int .i64 ((p : Int) + 1) ∧ Hid (∀ s : Nat, 1 ≤ s → s ≤ p → itP Z k j s) ∧ Hid (Bk wr w.heap.size 35 [.int .i64 u, .int .i64 s, .slice (some ⟨b3, off3, none⟩) m cr, .string wd]) ∧ Below w.heap.size w wr) (fun i _ => y + 1 - (intOf i).toNat)
      case atStart => exact ⟨0, Nat.zero_le _, by go_num, Lib.hid (fun s h1 h2 => by omega), HBX, hW2⟩
      case round =>
        obtain ⟨p, hp, rfl, HS, HBX, hW3⟩ := hrel
        obtain ⟨b3', off3', x3', hA3', hbl3', hx3', z0⟩ := ints_at HROW.out hW3 HXM.out hlj
        simp only [Option.some.injEq, Addr.mk.injEq, and_true] at hA3'
        obtain ⟨rfl, rfl⟩ := hA3'
        obtain rfl : (y : Int) = x3' := HX3.out.symm.trans hx3'
        have s3 : b3 < wr.heap.size := Nat.lt_of_lt_of_le hbl3 hW3.size
        clear hx3'
        by_cases hlp : p < y
        · obtain ⟨fv, hfv⟩ := HF.out (j : Int) ((p : Int) + 1)
          have HFV := Lib.hid hfv
          have q1 : (p : Int) + 1 ≤ (y : Int) := by omega
          have q2 : (0 : Int) ≤ (p : Int) := by omega
          have q3 : (p : Int) ≤ 12 := by omega
          have hqno : ¬ itP Z k (j : Int) ((p : Int) + 1) → q = false := by
            intro h
            rw [← HQ.out]
            refine noteK_no (u := j) (s := p + 1) (x := (y : Int)) ?_ (by omega) (by omega) ?_ (by simpa using h)
            · rw [HX.out]; show j < xs.length; rw [HXM.out]; exact hlj
            · rw [HX.out]; exact HXG.out
          have HNO := Lib.hid hqno
          clear hfv hqno
          go_wp2_with fail
          refine (l17Find_is HFV.out _ (hr.below hW3) hn).mono ?_
          rintro e w5 ⟨rfl, hb5⟩
          have b5 := bstep hW3 hb5
          have hbx5 := HBX.out.below hb5 HBX.out.lt
          have HBX5 := Lib.hid hbx5
          clear z0 s3
          by_cases hneg : fv < 0
          · obtain rfl : q = false := HNO.out (itP_no HFV.out hneg)
            clear hbx5
            have hd : decide (fv < 0) = true := decide_eq_true hneg
            clear hneg
            go_wp2
            (refine wp_region_bel (by kernel_rfl) (by kernel_rfl) ?_; (repeat (go_big_quiet_step ((first | fail)))); refine wpQuiet_nil ?_; intro w' hw'; have hb := below_of hw'; clear hw'; (try clear cW fW zW); (first | (have bW := bstep bW hb) | (have bW := bstep (bdrew bW) hb) | (have bW := bstep (balloc bW _) hb) | (have bW := bstep (bdrewN bW _) hb) | (have bW := hb)); clear hb; obtain ⟨cW, fW⟩ := bcell bW; have zW := bsize bW)
            go_wp2
            go_returns
            exact ⟨rfl, bstep b5 bW⟩
          obtain ⟨v, rfl⟩ : ∃ v : Nat, fv = (v : Int) := ⟨fv.toNat, by omega⟩
          have hit := itP_of (k := k) HFV.out
          have HIT := Lib.hid hit
          have hvl := fnd_lt HFV.out
          obtain ⟨x0, x1, x2, x3, xl⟩ := four_cells hbx5
          obtain ⟨b', off', u', s', Ar', m', cr', xs', wd', rfl, hbl', hx', hxm', hrow', y0, y1, y2, y3⟩ := hr.at_ (k := v) (Below.refl w.heap.size w) (by omega)
          have d0 := (b5.cell (p := ⟨b', off' + v * 4, none⟩) hbl').trans y0
          have d1 := (b5.cell (p := ⟨b', off' + v * 4 + 1, none⟩) hbl').trans y1
          have d2 := (b5.cell (p := ⟨b', off' + v * 4 + 2, none⟩) hbl').trans y2
          have d3 := (b5.cell (p := ⟨b', off' + v * 4 + 3, none⟩) hbl').trans y3
          have s2 : b' < w5.heap.size := Nat.lt_of_lt_of_le hbl' b5.size
          have hnp' := book_val HB.out (k := v) (by omega)
          rw [hx'] at hnp'
          obtain ⟨f1, f2, f3, f4, _⟩ := nP_bd hnp'
          have hmm : m' = m := by have := HE1.out; have := HXM.out; omega
          subst hmm
          obtain ⟨lv, hlv⟩ : ∃ lv, leB xs' xs = lv := ⟨_, rfl⟩
          obtain ⟨u0, u1⟩ := HE3.out
          obtain ⟨un, hun⟩ : ∃ un : Nat, u = (un : Int) := ⟨u.toNat, by omega⟩
          obtain ⟨b6, off6, g, hA6, hbl6, hg6, z6⟩ := ints_at hrow' (Below.refl _ _) hxm' (k := un) (by have := HE1.out; have := HXM.out; omega)
          subst hA6
          have hgd := getD_of hg6
          have s6 : b6 < w5.heap.size := Nat.lt_of_lt_of_le hbl6 b5.size
          have z7 := (b5.cell (p := ⟨b6, off6 + un, none⟩) hbl6).trans z6
          have hka : knAt Z k v = (decide (v = k) || (lv && decide (g < s))) := by
            unfold knAt
            rw [HX.out, hx']
            show (decide (v = k) || (leB xs' xs && decide (xs'.getD u.toNat 0 < s))) = _
            rw [hlv, hun, Int.toNat_natCast, hgd]
          obtain ⟨cv, hcv⟩ : ∃ cv, (u' - u) * 100 + s' - s = cv := ⟨_, rfl⟩
          have hcz : cv = 0 ↔ v = k := by
            constructor
            · intro h
              by_cases h2 : v = k
              · exact h2
              · exfalso
                have h3 := book_ne HB.out (i := v) (j := k) (by omega) (by omega) h2
                rw [hx', HX.out] at h3
                have := HE4.out
                exact h3 ⟨show u' = u by omega, show s' = s by omega⟩
            · intro h
              subst h
              have h4 := hx'.symm.trans HX.out
              simp only [Prod.mk.injEq] at h4
              omega
          have hself : v = k → lv = true := by
            intro h
            subst h
            have h4 := hx'.symm.trans HX.out
            simp only [Prod.mk.injEq] at h4
            rw [← hlv, h4.2.2.1]; first | done | exact leB_self _
          have HC := fun W => l17Order_of (A := some ⟨b6, off6, none⟩) (n := m') (c := cr') (wd := wd') (A2 := some ⟨b3, off3, none⟩) (n2 := m') (c2 := cr) (wd2 := wd) hcv W (by have := HE1.out; have := HXM.out; omega) (by have := HE1.out; have := HXM.out; omega) (by omega) (by have := HE4.out; omega)
          have HKA := Lib.hid hka
          have HRO := Lib.hid hrow'
          have HCZ := Lib.hid hcz
          have HSF := Lib.hid hself
          have HLV := Lib.hid hlv
          have HXM2 := Lib.hid hxm'
          have HY2 := Lib.hid y2
          have HBL := Lib.hid hbl'
          clear y0 y1 y2 y3
          have v1 : (v : Int) < (n : Int) := by omega
          have v2 : (0 : Int) ≤ (v : Int) := by omega
          have v3 : decide ((v : Int) < 0) = false := decide_eq_false (by omega)
          have u3 : (un : Int) < (m' : Int) := by have := HE1.out; have := HXM.out; omega
          have u4 : (0 : Int) ≤ (un : Int) := by omega
          obtain ⟨cz, hz⟩ : ∃ cz, (cv != 0) = cz := ⟨_, rfl⟩
          obtain ⟨gz, hgz⟩ : ∃ gz, decide (s ≤ g) = gz := ⟨_, rfl⟩
          have hczv : cz = false ↔ v = k := by rw [← hz, ← hcz]; simp
          have HCZV := Lib.hid hczv
          have HGZ := Lib.hid hgz
          subst hun
          clear hx' hxm' hrow' hnp' f1 f2 f3 f4 hka hcv hcz hself hlv hgd hg6 z6 u0 u1 hit hczv hbx5 hneg
          by_cases hbad : cz = true ∧ gz = true
          · obtain ⟨rfl, rfl⟩ := hbad
            obtain rfl : q = false := by
              refine HNO.out (fun h => ?_)
              have h2 := HIT.out.1 h
              have h3 : ¬ v = k := fun h => by have := HCZV.out.2 h; cases this
              have h4 := of_decide_eq_true HGZ.out
              rw [HKA.out, decide_eq_false h3, decide_eq_false (show ¬ g < s by omega)] at h2
              cases lv <;> cases h2
            go_wp2
            (refine wp_region_bel (by kernel_rfl) (by kernel_rfl) ?_; (repeat (go_big_quiet_step ((first | (go_at_call 43; exact calls_bel (HC _)))))); refine wpQuiet_nil ?_; intro w' hw'; have hb := below_of hw'; clear hw'; (try clear cW fW zW); (first | (have bW := bstep bW hb) | (have bW := bstep (bdrew bW) hb) | (have bW := bstep (balloc bW _) hb) | (have bW := bstep (bdrewN bW _) hb) | (have bW := hb)); clear hb; obtain ⟨cW, fW⟩ := bcell bW; have zW := bsize bW)
            go_wp2
            go_returns
            exact ⟨rfl, bstep b5 bW⟩
          have hlk : knAt Z k v = lv := by
            rw [HKA.out]
            by_cases h2 : v = k
            · rw [HSF.out h2]; simp [h2]
            · have h3 : cz = true := by
                rcases cz with _ | _
                · exact absurd (HCZV.out.1 rfl) h2
                · rfl
              have h4 : gz = false := by
                rcases gz with _ | _
                · rfl
                · exact absurd ⟨h3, rfl⟩ hbad
              have h5 := HGZ.out
              rw [h4] at h5
              have h6 := of_decide_eq_false h5
              rw [decide_eq_false h2, decide_eq_true (show g < s by omega)]
              cases lv <;> rfl
          have HLK := Lib.hid hlk
          have hor : cz = false ∨ (cz = true ∧ gz = false) := by
            cases cz <;> cases gz <;> simp_all
          clear hlk hbad
          rcases hor with rfl | ⟨rfl, rfl⟩
          all_goals
            go_wp2
            (refine wp_region_bel (by kernel_rfl) (by kernel_rfl) ?_; (repeat (go_big_quiet_step ((first | (go_at_call 43; exact calls_bel (HC _)))))); refine wpQuiet_nil ?_; intro w' hw'; have hb := below_of hw'; clear hw'; (try clear cW fW zW); (first | (have bW := bstep bW hb) | (have bW := bstep (bdrew bW) hb) | (have bW := bstep (balloc bW _) hb) | (have bW := bstep (bdrewN bW _) hb) | (have bW := hb)); clear hb; obtain ⟨cW, fW⟩ := bcell bW; have zW := bsize bW)
            have HBX6 := Lib.hid (HBX5.out.below bW HBX5.out.lt)
            have b7 := bstep b5 bW
            clear d0 d1 d2 d3 x0 x1 x2 x3 xl z7 s2 s6 hz hgz
            go_wp2_with fail
            clear cW fW zW
            go_loopw [9] (fun i wr => ∃ t : Nat, t ≤ m' ∧ i = .int .i64 t ∧ Hid (lePre xs' xs t) ∧ Hid (Bk wr w.heap.size 35 [.int .i64 un, .int .i64 s, .slice (some ⟨b3, off3, none⟩) m' cr, .string wd]) ∧ Below w.heap.size w wr) (fun i _ => m' - (intOf i).toNat)
            case atStart => exact ⟨0, Nat.zero_le _, rfl, Lib.hid (fun u h => absurd h (Nat.not_lt_zero _)), HBX6, b7⟩
            case round =>
              obtain ⟨t, ht, rfl, HT, HBX, hW4⟩ := hrel
              by_cases hlt : t < m'
              · obtain ⟨b8, off8, e8, hA8, hbl8, hg8, z8⟩ := ints_at HRO.out hW4 HXM2.out hlt
                simp only [Option.some.injEq, Addr.mk.injEq, and_true] at hA8
                obtain ⟨rfl, rfl⟩ := hA8
                obtain ⟨b9, off9, e9, hA9, hbl9, hg9, z9⟩ := ints_at HROW.out hW4 HXM.out hlt
                simp only [Option.some.injEq, Addr.mk.injEq, and_true] at hA9
                obtain ⟨rfl, rfl⟩ := hA9
                have d2 := (hW4.cell (p := ⟨b', off' + v * 4 + 2, none⟩) HBL.out).trans HY2.out
                have s2 : b' < wr.heap.size := Nat.lt_of_lt_of_le HBL.out hW4.size
                have s8 : b6 < wr.heap.size := Nat.lt_of_lt_of_le hbl8 hW4.size
                have s9 : b3 < wr.heap.size := Nat.lt_of_lt_of_le hbl9 hW4.size
                have G8 := Lib.hid (getD_of hg8)
                have G9 := Lib.hid (getD_of hg9)
                have t1 : (0 : Int) ≤ (t : Int) := by omega
                have t2 : (t : Int) < (m' : Int) := by omega
                clear hg8 hg9
                by_cases hgt : e9 < e8
                · have hd : decide (e9 < e8) = true := decide_eq_true hgt
                  obtain rfl : q = false := by
                    refine HNO.out (fun h => ?_)
                    have h2 := HIT.out.1 h
                    rw [HLK.out, ← HLV.out, leB_no (i := t) (by have := HXM2.out; omega) (by rw [G8.out, G9.out]; omega)] at h2
                    cases h2
                  clear hgt
                  go_wp2
                  (refine wp_region_bel (by kernel_rfl) (by kernel_rfl) ?_; (repeat (go_big_quiet_step ((first | fail)))); refine wpQuiet_nil ?_; intro w' hw'; have hb := below_of hw'; clear hw'; (try clear cW fW zW); (first | (have bW := bstep bW hb) | (have bW := bstep (bdrew bW) hb) | (have bW := bstep (balloc bW _) hb) | (have bW := bstep (bdrewN bW _) hb) | (have bW := hb)); clear hb; obtain ⟨cW, fW⟩ := bcell bW; have zW := bsize bW)
                  go_wp2
                  go_returns
                  exact ⟨rfl, bstep hW4 bW⟩
                · have hd : decide (e9 < e8) = false := decide_eq_false hgt
                  have HGT := Lib.hid hgt
                  clear hgt
                  go_wp2
                  (refine wp_region_bel (by kernel_rfl) (by kernel_rfl) ?_; (repeat (go_big_quiet_step ((first | fail)))); refine wpQuiet_nil ?_; intro w' hw'; have hb := below_of hw'; clear hw'; (try clear cW fW zW); (first | (have bW := bstep bW hb) | (have bW := bstep (bdrew bW) hb) | (have bW := bstep (balloc bW _) hb) | (have bW := bstep (bdrewN bW _) hb) | (have bW := hb)); clear hb; obtain ⟨cW, fW⟩ := bcell bW; have zW := bsize bW)
                  have HBX2 := Lib.hid (HBX.out.below bW HBX.out.lt)
                  go_wp2
                  go_roundw
                  case rel =>
                    refine ⟨t + 1, by omega, by go_num, Lib.hid (fun j hj => ?_), HBX2, bstep hW4 bW⟩
                    by_cases h9 : j < t
                    · exact HT.out j h9
                    · have : j = t := by omega
                      subst this; rw [G8.out, G9.out]; have := HGT.out; omega
                  case measure => simp [intOf]; omega
              · obtain rfl : t = m' := by omega
                have hlvt : lv = true := by rw [← HLV.out]; exact leB_iff.2 (by rw [HXM2.out]; exact HT.out)
                have HYES : Hid (knAt Z k v = true) := Lib.hid (by rw [HLK.out]; exact hlvt)
                clear hlvt
                go_wp2
                go_roundw
                case rel =>
                  refine ⟨p + 1, by omega, by go_num, Lib.hid (fun s h1 h2 => ?_), HBX, hW4⟩
                  by_cases h9 : s ≤ p
                  · exact HS.out s h1 h9
                  · have : s = p + 1 := by omega
                    subst this
                    simpa using HIT.out.2 HYES.out
                case measure => simp [intOf]; omega
        · obtain rfl : p = y := by omega
          go_wp2
          go_roundw
          case rel =>
            refine ⟨j + 1, by omega, by go_num, Lib.hid (fun u s h1 h2 h3 => ?_), HBX, hW3⟩
            by_cases h9 : u < j
            · exact HU.out u s h9 h2 h3
            · have : u = j := by omega
              subst this
              rw [HXG.out] at h3
              exact HS.out s h2 (by omega)
          case measure => simp [intOf]; omega
    · obtain rfl : j = m := by omega
      obtain rfl : q = true := by
        rw [← HQ.out]
        refine noteK_iff.2 fun u s h1 h2 h3 => ?_
        rw [HX.out] at h1 h3
        exact HU.out u s (by have := HXM.out; have h1 : u < xs.length := h1; omega) h2 h3
      go_wp2
      go_returns
      exact ⟨rfl, hW2⟩
theorem l17Complete_is {q : Bool} {units : Int} {A : Option Addr} {n c : Nat} {Z : List NoteV} (hb : bookB units Z = true) (hq : comB Z = q) (w : World) (hr : RdN w A n Z) (hn : n ≤ 1048576) :
    Calls Try.prog 49 #[.slice A n c] w fun e w' => e = .returned (.bool q) ∧ Below w.heap.size w w' := by
  have HB := Lib.hid hb
  have HQ := Lib.hid hq
  have hl := hr.1
  clear hb hq
  go_enter Try.func49, Try.ntmps49
  go_wp2_with fail
  go_loopw [3] (fun i wr => ∃ k : Nat, k ≤ n ∧ i = .int .i64 k ∧ Hid (∀ j, j < k → noteP Z j) ∧ Below w.heap.size w wr) (fun i _ => n - (intOf i).toNat)
  case atStart => exact ⟨0, Nat.zero_le _, rfl, Lib.hid (fun j hj => absurd hj (Nat.not_lt_zero _)), Below.refl _ _⟩
  case round =>
    obtain ⟨k, hk, rfl, HK, hW⟩ := hrel
    by_cases hlt : k < n
    · obtain ⟨b, off, u, s, Ar, m, cr, xs, wd, rfl, hbl, hx, hxm, hrow, c0, c1, c2, c3⟩ := hr.at_ hW hlt
      have s1 : b < wr.heap.size := Nat.lt_of_lt_of_le hbl hW.size
      obtain ⟨r, hr2⟩ : ∃ r, noteK Z k = r := ⟨_, rfl⟩
      have hK := l17Knows_is (c := c) (cr := cr) HB.out hr2 wr (hr.below hW) hn hlt hx hxm hrow
      have HR := Lib.hid hr2
      have i1 : (0 : Int) ≤ (k : Int) := by omega
      have i2 : (k : Int) < (n : Int) := by omega
      clear hx hxm hrow hr2
      go_wp2_with fail
      refine hK.mono ?_
      rintro e w2 ⟨rfl, hb2⟩
      clear hK
      rcases r with _ | _
      · obtain rfl : q = false := by rw [← HQ.out]; exact comB_no (by omega) HR.out
        go_wp2
        go_returns
        exact ⟨rfl, bstep hW hb2⟩
      · go_wp2
        go_roundw
        case rel =>
          refine ⟨k + 1, by omega, by go_num, Lib.hid (fun j hj => ?_), bstep hW hb2⟩
          by_cases h9 : j < k
          · exact HK.out j h9
          · have : j = k := by omega
            subst this
            exact noteK_iff.1 HR.out
        case measure => simp [intOf]; omega
    · obtain rfl : k = n := by omega
      obtain rfl : q = true := by rw [← HQ.out]; exact comB_iff.2 (by rw [hl]; exact HK.out)
      go_wp2
      go_returns
      exact ⟨rfl, hW⟩
noncomputable def icB (units : Int) (Z : List NoteV) : Bool := if bookB units Z = true then comB Z else false
theorem IsCompleteBook_is {q q2 : Bool} {units : Int} {A : Option Addr} {n c : Nat} {Z : List NoteV} (hq : bookB units Z = q) (h2 : icB units Z = q2) (w : World) (hr : RdN w A n Z) (hn : n ≤ 1048576) (hm : ∀ i, i < n → (nAt Z i).2.2.1.length ≤ 1048576 ∧ (nAt Z i).2.2.2.size ≤ maxLen) :
    Calls Try.prog 32 #[.int .i64 units, .slice A n c] w fun e w' => e = .returned (.tuple #[.bool q2, .bool q]) ∧ Below w.heap.size w w' := by
  have HQ := Lib.hid hq
  have H2 := Lib.hid h2
  have hgood := IsNotebook_is (c := c) hq w hr hn hm
  clear hq h2
  rcases q with _ | _
  · obtain rfl : q2 = false := by rw [← H2.out]; simp [icB, HQ.out]
    go_enter Try.func32, Try.ntmps32
    go_wp2_with fail
    refine hgood.mono ?_
    rintro e w1 ⟨rfl, b1⟩
    go_wp2
    go_returns
    exact ⟨rfl, b1⟩
  have H1 : Hid (comB Z = q2) := Lib.hid (by rw [← H2.out]; simp [icB, HQ.out])
  go_enter Try.func32, Try.ntmps32
  go_wp2_with fail
  refine hgood.mono ?_
  rintro e w1 ⟨rfl, b1⟩
  clear hgood
  go_wp2_with fail
  refine (complete_is HQ.out H1.out _ (hr.below b1) hn).mono ?_
  rintro e w2 ⟨rfl, b2⟩
  go_wp2
  go_returns
  exact ⟨rfl, bstep b1 b2⟩
theorem sIsCompleteBook_is {q q2 : Bool} {units : Int} {A : Option Addr} {n c : Nat} {Z : List NoteV} (hq : bookB units Z = q) (h2 : icB units Z = q2) (w : World) (hr : RdN w A n Z) (hn : n ≤ 1048576) (hm : ∀ i, i < n → (nAt Z i).2.2.1.length ≤ 1048576 ∧ (nAt Z i).2.2.2.size ≤ maxLen) :
    Calls Try.prog 31 #[.int .i64 units, .slice A n c] w fun e w' => e = .returned (.tuple #[.bool q2, .bool q]) ∧ Below w.heap.size w w' := by
  have HQ := Lib.hid hq
  have H2 := Lib.hid h2
  have hgood := l17Good_is (c := c) hq w hr hn hm
  clear hq h2
  rcases q with _ | _
  · obtain rfl : q2 = false := by rw [← H2.out]; simp [icB, HQ.out]
    go_enter Try.func31, Try.ntmps31
    go_wp2_with fail
    refine hgood.mono ?_
    rintro e w1 ⟨rfl, b1⟩
    go_wp2
    go_returns
    exact ⟨rfl, b1⟩
  have H1 : Hid (comB Z = q2) := Lib.hid (by rw [← H2.out]; simp [icB, HQ.out])
  go_enter Try.func31, Try.ntmps31
  go_wp2_with fail
  refine hgood.mono ?_
  rintro e w1 ⟨rfl, b1⟩
  clear hgood
  go_wp2_with fail
  refine (l17Complete_is HQ.out H1.out _ (hr.below b1) hn).mono ?_
  rintro e w2 ⟨rfl, b2⟩
  go_wp2
  go_returns
  exact ⟨rfl, bstep b1 b2⟩
end Go.Proofs.Ythgabapegpndnaa
