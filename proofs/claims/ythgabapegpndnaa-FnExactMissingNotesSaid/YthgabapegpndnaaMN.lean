/-
  MissingNotes of the program and of the reference. Conditions: lengths within the bound of a slice.
-/
import Derived.Test.YthgabapegpndnaaMS
namespace Go.Proofs.Ythgabapegpndnaa
open Go.RowKit
set_option maxRecDepth 100000
set_option maxHeartbeats 4000000

theorem maxU_le {units : Int} {Z : List NoteV} (h : bookB units Z = true) (u : Nat) : ∀ k, k ≤ Z.length → maxU Z u k ≤ 12
  | 0, _ => by show (0 : Int) ≤ 12; omega
  | k + 1, hk => by
    have ih := maxU_le h u k (by omega)
    have hv := book_val h (k := k) (by omega)
    rcases hz : nAt Z k with ⟨a, b, xs, d⟩
    rw [hz] at hv
    obtain ⟨_, e2, _⟩ := nP_bd hv
    show max (maxU Z u k) ((nAt Z k).2.2.1.getD u 0) ≤ 12
    rw [hz]
    show max (maxU Z u k) (xs.getD u 0) ≤ 12
    rw [List.getD_eq_getElem?_getD]
    rcases h2 : xs[u]? with _ | y
    · simp; omega
    · have := e2 y (List.mem_of_getElem? h2)
      simp; omega
theorem spA_len {units : Int} {Z : List NoteV} (h : bookB units Z = true) : ∀ j, (spA Z j).length ≤ j * 12
  | 0 => by simp [spA]
  | j + 1 => by
    have ih := spA_len h j
    have h1 := spu_len Z j (maxU Z j Z.length).toNat
    have h2 := maxU_le h j Z.length (Nat.le_refl _)
    rw [spA_succ, List.length_append]; omega
noncomputable def mnL (units : Int) (Z : List NoteV) : List PairT := if bookB units Z = true then spA Z units.toNat else []
theorem mnL_len (units : Int) (Z : List NoteV) : (mnL units Z).length ≤ 1000 := by
  unfold mnL
  split
  · rename_i h
    have h1 := inB_iff.1 (bookB_iff.1 h).1
    have h2 := spA_len h units.toNat
    omega
  · exact Nat.zero_le _
theorem MissingNotes_is {q : Bool} {L : List PairT} {units : Int} {A : Option Addr} {n c : Nat} {Z : List NoteV} (hq : bookB units Z = q) (hL : mnL units Z = L) (w : World) (hr : RdN w A n Z) (hn : n ≤ 1048576) (hm : ∀ i, i < n → (nAt Z i).2.2.1.length ≤ 1048576 ∧ (nAt Z i).2.2.2.size ≤ maxLen) :
    Calls Try.prog 34 #[.int .i64 units, .slice A n c] w fun e w' => ∃ v, e = .returned (.tuple #[v, .bool q]) ∧ w'.ownsRow w.heap.size 55 2 v L.length (prF L) ∧ Below w.heap.size w w' := by
  have HQ := Lib.hid hq
  have HL := Lib.hid hL
  have hgood := IsNotebook_is (c := c) hq w hr hn hm
  clear hq hL
  rcases q with _ | _
  · obtain rfl : L = [] := by rw [← HL.out]; simp [mnL, HQ.out]
    go_enter Try.func34, Try.ntmps34
    go_wp2_with fail
    refine hgood.mono ?_
    rintro e w1 ⟨rfl, b1⟩
    go_wp2
    go_returns
    exact ⟨_, rfl, World.ownsRow_nil _ _ _ _, b1⟩
  have H1 : Hid (spA Z units.toNat = L) := Lib.hid (by rw [← HL.out]; simp [mnL, HQ.out])
  go_enter Try.func34, Try.ntmps34
  go_wp2_with fail
  refine hgood.mono ?_
  rintro e w1 ⟨rfl, b1⟩
  clear hgood
  go_wp2_with fail
  refine (missing_is HQ.out H1.out _ (hr.below b1) hn).mono ?_
  rintro e w2 ⟨v, rfl, ho, b2⟩
  have HO := Lib.hid (own_weaken (base' := w.heap.size) ho b1.size)
  clear ho
  go_wp2
  go_returns
  exact ⟨_, rfl, HO.out, bstep b1 b2⟩
theorem sMissingNotes_is {q : Bool} {L : List PairT} {units : Int} {A : Option Addr} {n c : Nat} {Z : List NoteV} (hq : bookB units Z = q) (hL : mnL units Z = L) (w : World) (hr : RdN w A n Z) (hn : n ≤ 1048576) (hm : ∀ i, i < n → (nAt Z i).2.2.1.length ≤ 1048576 ∧ (nAt Z i).2.2.2.size ≤ maxLen) :
    Calls Try.prog 33 #[.int .i64 units, .slice A n c] w fun e w' => ∃ v, e = .returned (.tuple #[v, .bool q]) ∧ w'.ownsRow w.heap.size 55 2 v L.length (prF L) ∧ Below w.heap.size w w' := by
  have HQ := Lib.hid hq
  have HL := Lib.hid hL
  have hl := hr.1
  have hgood := fun W (hW : Below w.heap.size w W) => l17Good_is (c := c) hq W (hr.below hW) hn hm
  clear hq hL
  obtain ⟨i0, hi0, hz0, hz1, hz2⟩ := infoP
  rcases q with _ | _
  · obtain rfl : L = [] := by rw [← HL.out]; simp [mnL, HQ.out]
    clear hi0 hz0 hz1 hz2
    go_enter Try.func33, Try.ntmps33
    go_wp2_with fail
    refine (hgood _ (by (repeat' (first | (with_reducible exact Below.refl _ _) | (with_reducible assumption) | (with_reducible refine balloc ?_ _) | (with_reducible refine bdrew ?_) | (with_reducible refine bdrewN ?_ _) | (with_reducible refine bstep ?_ (by assumption)) | (with_reducible refine bset ?_ ?_ _) | (exact Below.size (by assumption)) | go_size)))).mono ?_
    rintro e w1 ⟨rfl, b1⟩
    have HO := Lib.hid (own_below (own_lit' (w := w) (t := 55) (k := 2) rfl (Nat.le_refl _)) b1)
    go_wp2
    go_returns
    exact ⟨_, rfl, HO.out, bstep (by (repeat' (first | (with_reducible exact Below.refl _ _) | (with_reducible assumption) | (with_reducible refine balloc ?_ _) | (with_reducible refine bdrew ?_) | (with_reducible refine bdrewN ?_ _) | (with_reducible refine bstep ?_ (by assumption)) | (with_reducible refine bset ?_ ?_ _) | (exact Below.size (by assumption)) | go_size))) b1⟩
  have H1 : Hid (spA Z units.toNat = L) := Lib.hid (by rw [← HL.out]; simp [mnL, HQ.out])
  have HV := Lib.hid (fun k (hk : k < n) => book_val HQ.out (k := k) (by omega))
  have HF := Lib.hid (fun u s => fnd_ex Z u s)
  have HMX := Lib.hid (fun u k (hk : k ≤ n) => (⟨maxU_nonneg Z u k, maxU_le HQ.out u k (by omega)⟩ : 0 ≤ maxU Z u k ∧ maxU Z u k ≤ 12))
  have HSL := Lib.hid (fun j => spA_len HQ.out j)
  obtain ⟨u24, u42⟩ := inB_iff.1 (bookB_iff.1 HQ.out).1
  obtain ⟨un, hun⟩ : ∃ un : Nat, units.toNat = un := ⟨_, rfl⟩
  have hun2 : units = (un : Int) := by omega
  subst hun2
  rw [show ((un : Int)).toNat = un from by omega] at H1
  clear hun
  go_enter Try.func33, Try.ntmps33
  go_wp2_with fail
  refine (hgood _ (by (repeat' (first | (with_reducible exact Below.refl _ _) | (with_reducible assumption) | (with_reducible refine balloc ?_ _) | (with_reducible refine bdrew ?_) | (with_reducible refine bdrewN ?_ _) | (with_reducible refine bstep ?_ (by assumption)) | (with_reducible refine bset ?_ ?_ _) | (exact Below.size (by assumption)) | go_size)))).mono ?_
  rintro e w1 ⟨rfl, b1⟩
  clear hgood
  have HO := Lib.hid (own_below (own_lit' (w := w) (t := 55) (k := 2) rfl (Nat.le_refl _)) b1)
  have b2 : Below w.heap.size w w1 := bstep (by (repeat' (first | (with_reducible exact Below.refl _ _) | (with_reducible assumption) | (with_reducible refine balloc ?_ _) | (with_reducible refine bdrew ?_) | (with_reducible refine bdrewN ?_ _) | (with_reducible refine bstep ?_ (by assumption)) | (with_reducible refine bset ?_ ?_ _) | (exact Below.size (by assumption)) | go_size))) b1
  clear b1
  go_wp2_with fail
  go_loopw [6, 7] (fun v i wr => ∃ k : Nat, k ≤ un ∧ i = .int .i64 k ∧ wr.ownsRow w.heap.size 55 2 v (spA Z k).length (prF (spA Z k)) ∧ Below w.heap.size w wr) (fun _ i _ => un - (intOf i).toNat)
  case atStart => exact ⟨0, Nat.zero_le _, rfl, by simpa [spA, prF] using HO.out, b2⟩
  case round =>
    obtain ⟨u, hu, rfl, hown, hW⟩ := hrel
    by_cases hlt : u < un
    · have HO2 := Lib.hid hown
      have i3 : (u : Int) < (un : Int) := by omega
      have i4 : (0 : Int) ≤ (u : Int) := by omega
      obtain ⟨wo, rfl⟩ : ∃ wo, wo = wr := ⟨_, rfl⟩
      clear hown
      go_wp2_with fail
      go_loopw [8, 9] (fun mv j wr => ∃ (k : Nat) (mx : Int), k ≤ n ∧ j = .int .i64 k ∧ mv = .int .i64 mx ∧ Hid (mx = maxU Z u k) ∧ Below wo.heap.size wo wr) (fun _ j _ => n - (intOf j).toNat)
      case atStart => exact ⟨0, 0, Nat.zero_le _, rfl, rfl, Lib.hid rfl, Below.refl _ _⟩
      case round =>
        obtain ⟨k, mx, hk, rfl, rfl, HM, hW2⟩ := hrel
        have hWW := bstep hW hW2
        by_cases hlt2 : k < n
        · obtain ⟨b, off, a0, s0, Ar, m, cr, xs, wd, rfl, hbl, hx, hxm, hrow, c0, c1, c2, c3⟩ := hr.at_ hWW hlt2
          have s1 : b < wr.heap.size := Nat.lt_of_lt_of_le hbl hWW.size
          have hnp := HV.out k hlt2
          rw [hx] at hnp
          obtain ⟨e1, _⟩ := nP_bd hnp
          have hum : u < m := by omega
          obtain ⟨b3, off3, x, hA3, hbl3, hx3, z0⟩ := ints_at hrow (Below.refl _ _) hxm hum
          subst hA3
          have hst : maxU Z u (k + 1) = max mx x := by
            rw [HM.out]
            show max (maxU Z u k) ((nAt Z k).2.2.1.getD u 0) = _
            rw [hx]
            show max (maxU Z u k) (xs.getD u 0) = _
            rw [List.getD_eq_getElem?_getD, List.getElem?_eq_getElem (by omega), hx3]; rfl
          have HS := Lib.hid hst
          have j3 : (k : Int) < (n : Int) := by omega
          have j4 : (0 : Int) ≤ (k : Int) := by omega
          have j5 : (u : Int) < (m : Int) := by omega
          clear hx hxm hrow hnp e1 hx3 hst hum
          go_wp2_with fail
          refine (l1Most_any _ _ _).mono ?_
          rintro e w4 ⟨rfl, rfl⟩
          go_wp2
          go_roundw
          case rel => exact ⟨k + 1, _, by omega, by go_num, rfl, Lib.hid HS.out.symm, hW2⟩
          case measure => simp [intOf]; omega
        · obtain rfl : k = n := by omega
          obtain ⟨m0, m1⟩ := HMX.out u k (Nat.le_refl _)
          rw [← HM.out] at m0 m1
          obtain ⟨y, hy⟩ : ∃ y : Nat, mx.toNat = y := ⟨_, rfl⟩
          have hmy : mx = (y : Int) := by omega
          have hmax : (maxU Z u Z.length).toNat = y := by rw [hl, ← HM.out]; exact hy
          have hsp := spA_succ Z u
          rw [hmax] at hsp
          have HSP := Lib.hid hsp
          have hle := HSL.out u
          obtain ⟨ac, hacc⟩ : ∃ ac, ac = spA Z u := ⟨_, rfl⟩
          have ho3 := own_below HO2.out hW2
          rw [← hacc] at ho3 hle
          have HA := Lib.hid hacc
          have HO3 := Lib.hid ho3
          subst hmy
          clear hy hmax hsp hacc ho3 HM
          go_wp2_with fail
          go_loopw [6, 10] (fun v i wr => ∃ p : Nat, p ≤ y ∧ i = .int .i64 ((p : Int) + 1) ∧ wr.ownsRow w.heap.size 55 2 v (ac ++ spu Z u p).length (prF (ac ++ spu Z u p)) ∧ Below w.heap.size w wr) (fun _ i _ => y + 1 - (intOf i).toNat)
          case atStart => exact ⟨0, Nat.zero_le _, by go_num, by rw [show spu Z u 0 = [] from rfl, List.append_nil]; exact HO3.out, hWW⟩
          case round =>
            obtain ⟨p, hp, rfl, hown, hW3⟩ := hrel
            by_cases hlp : p < y
            · have hl2 := spu_len Z u p
              have hl3 : (ac ++ spu Z u p).length ≤ 700 := by rw [List.length_append]; omega
              obtain ⟨fv, hfv⟩ := HF.out (u : Int) ((p : Int) + 1)
              have hno := fnd_no hfv
              have HFV := Lib.hid hfv
              have HNO := Lib.hid hno
              have HO4 := Lib.hid hown
              have q1 : (p : Int) + 1 ≤ (y : Int) := by omega
              have q2 : (0 : Int) ≤ (p : Int) := by omega
              clear hfv hno hown
              go_wp2_with fail
              refine (l17Find_is HFV.out _ (hr.below hW3) hn).mono ?_
              rintro e w5 ⟨rfl, hb5⟩
              have b5 := bstep hW3 hb5
              have ho5 := own_below HO4.out hb5
              by_cases hneg : fv < 0
              · have HNB : Hid (noB Z (u : Int) ((p : Int) + 1) = true) := Lib.hid (by rw [HNO.out]; simp [hneg])
                have hsz := b5.size
                go_wp2_with (at_builtin; refine wpList_append_own _ rfl (.tmp 48) (.tmp 52) 44 rfl w.heap.size 55 i0 _ 2 16 Try.underlying44 hi0 hz0 hz1 hz2 rfl (by decide) _ _ _ rfl (own_alloc ho5 _) ⟨_, 0, none⟩ 1 1 (prE ((u : Int), (p : Int) + 1)) rfl rfl ?c1 ?c2 ?c3 ?c4 ?c5 ?_)
                case c1 => exact two_new rfl
                case c2 => intro u hu; exact pr_one [_] u (by simpa [prF] using hu)
                case c3 => (unfold maxLen; omega)
                case c4 => omega
                case c5 => (simp; omega)
                intro v' w7 hown7 hgrow _
                have b7 := own_grownBy (own_alloc ho5 _) (balloc b5 _) hgrow (Nat.le_refl _) (by simp; omega)
                go_wp2
                go_roundw
                case rel => exact ⟨p + 1, by omega, by go_num, by rw [spu_yes HNB.out, ← List.append_assoc, prF_append, List.length_append]; simpa [prF] using hown7, b7⟩
                case measure => simp [intOf]; omega
              · have HNB : Hid (noB Z (u : Int) ((p : Int) + 1) = false) := Lib.hid (by rw [HNO.out]; simp [hneg])
                have HO5 := Lib.hid ho5
                clear ho5
                go_wp2
                go_roundw
                case rel => exact ⟨p + 1, by omega, by go_num, by rw [spu_no HNB.out]; exact HO5.out, b5⟩
                case measure => simp [intOf]; omega
            · obtain rfl : p = y := by omega
              have HO4 := Lib.hid hown
              clear hown
              go_wp2
              go_roundw
              case rel => exact ⟨u + 1, by omega, by go_num, by rw [HSP.out, ← HA.out]; exact HO4.out, hW3⟩
              case measure => simp [intOf]; omega
    · obtain rfl : u = un := by omega
      rw [H1.out] at hown
      have HO3 := Lib.hid hown
      clear hown
      go_wp2
      go_returns
      exact ⟨_, rfl, HO3.out, hW⟩
end Go.Proofs.Ythgabapegpndnaa
