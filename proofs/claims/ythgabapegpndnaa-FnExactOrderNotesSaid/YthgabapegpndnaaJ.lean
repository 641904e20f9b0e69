/-
  LatestNotes of the program and of the reference. Conditions: lengths within the bound of a slice.
-/
import Derived.Test.YthgabapegpndnaaF
namespace Go.Proofs.Ythgabapegpndnaa
open Go.RowKit
set_option maxRecDepth 100000
set_option maxHeartbeats 4000000

theorem nLt_trans {a b c : NoteV} (h1 : nLt a b) (h2 : nLt b c) : nLt a c := by unfold nLt at *; omega
theorem book_val {units : Int} {Z : List NoteV} (h : bookB units Z = true) {k : Nat} (hk : k < Z.length) : nP units (nAt Z k) = true := ((bookB_iff.1 h).2.1 k hk hk).1
theorem book_lt {units : Int} {Z : List NoteV} (h : bookB units Z = true) {i : Nat} : ∀ d, i + 1 + d < Z.length → nLt (nAt Z i) (nAt Z (i + 1 + d))
  | 0, hd => by
    have := ((bookB_iff.1 h).2.1 (i + 1) hd hd).2 (by omega)
    simpa using this
  | d + 1, hd => by
    have h1 := book_lt h (i := i) d (by omega)
    have h2 := ((bookB_iff.1 h).2.1 (i + 1 + d + 1) hd hd).2 (by omega)
    exact nLt_trans h1 h2
theorem book_ne {units : Int} {Z : List NoteV} (h : bookB units Z = true) {i j : Nat} (hi : i < Z.length) (hj : j < Z.length) (hne : i ≠ j) : ¬ ((nAt Z i).1 = (nAt Z j).1 ∧ (nAt Z i).2.1 = (nAt Z j).2.1) := by
  rcases Nat.lt_or_gt_of_ne hne with h1 | h1
  · obtain ⟨d, rfl⟩ : ∃ d, j = i + 1 + d := ⟨j - (i + 1), by omega⟩
    have := book_lt h d hj
    unfold nLt at this; omega
  · obtain ⟨d, rfl⟩ : ∃ d, i = j + 1 + d := ⟨i - (j + 1), by omega⟩
    have := book_lt h d hi
    unfold nLt at this; omega
def latP (Z : List NoteV) (k i : Nat) : Bool := (List.range k).all fun j => decide (j = i) || !(befB (nAt Z i) (nAt Z j))
theorem latP_succ (Z : List NoteV) (k i : Nat) : latP Z (k + 1) i = (latP Z k i && (decide (k = i) || !(befB (nAt Z i) (nAt Z k)))) := by
  unfold latP; rw [List.range_succ, List.all_append]; simp
def lst (Z : List NoteV) (k : Nat) : List Int := ((List.range k).filter fun i => latP Z Z.length i).map fun i : Nat => (i : Int)
theorem lst_yes {Z : List NoteV} {k : Nat} (h : latP Z Z.length k = true) : lst Z (k + 1) = lst Z k ++ [(k : Int)] := by
  unfold lst; rw [List.range_succ, List.filter_append, List.map_append]; simp [h]
theorem lst_no {Z : List NoteV} {k : Nat} (h : latP Z Z.length k = false) : lst Z (k + 1) = lst Z k := by
  unfold lst; rw [List.range_succ, List.filter_append, List.map_append]; simp [h]
theorem lst_len (Z : List NoteV) (k : Nat) : (lst Z k).length ≤ k := by
  unfold lst; rw [List.length_map]; exact Nat.le_trans (List.length_filter_le _ _) (by simp)
noncomputable def latL (units : Int) (Z : List NoteV) : List Int := if bookB units Z = true then lst Z Z.length else []
theorem latL_len (units : Int) (Z : List NoteV) : (latL units Z).length ≤ Z.length := by
  unfold latL
  split
  · exact lst_len Z _
  · exact Nat.zero_le _
theorem infoI : ∃ i0, Try.prog.info? 3 = some i0 ∧ i0.zero = some (.int .i64 0) ∧ i0.size = 1 ∧ i0.bytes = 8 := info_parts (show (Try.prog.info? 3).map (fun i => (i.zero, i.size, i.bytes)) = some (some (.int .i64 0), 1, 8) from by kernel_rfl)
theorem LatestNotes_is {q : Bool} {L : List Int} {units : Int} {A : Option Addr} {n c : Nat} {Z : List NoteV} (hq : bookB units Z = q) (hL : latL units Z = L) (w : World) (hr : RdN w A n Z) (hn : n ≤ 1048576) (hm : ∀ i, i < n → (nAt Z i).2.2.1.length ≤ 1048576 ∧ (nAt Z i).2.2.2.size ≤ maxLen) :
    Calls Try.prog 21 #[.int .i64 units, .slice A n c] w fun e w' => ∃ v, e = .returned (.tuple #[v, .bool q]) ∧ w'.ownsRow w.heap.size 3 1 v L.length (ints L) ∧ Below w.heap.size w w' := by
  have HQ := Lib.hid hq
  have HL := Lib.hid hL
  have hl := hr.1
  have hgood := IsNotebook_is (c := c) hq w hr hn hm
  clear hq hL
  obtain ⟨i0, hi0, hz0, hz1, hz2⟩ := infoI
  rcases q with _ | _
  · obtain rfl : L = [] := by rw [← HL.out]; simp [latL, HQ.out]
    clear hi0 hz0 hz1 hz2
    go_enter Try.func21, Try.ntmps21
    go_wp2_with fail
    refine hgood.mono ?_
    rintro e w1 ⟨rfl, b1⟩
    go_wp2
    go_returns
    exact ⟨_, rfl, World.ownsRow_nil _ _ _ _, b1⟩
  have h1 : lst Z n = L := by rw [← HL.out]; simp [latL, HQ.out, hl]
  have H1 := Lib.hid h1
  clear HL h1
  have hval := fun k (hk : k < n) => book_val HQ.out (k := k) (by omega)
  have HV := Lib.hid hval
  clear hval
  go_enter Try.func21, Try.ntmps21
  go_wp2_with fail
  refine hgood.mono ?_
  rintro e w1 ⟨rfl, b1⟩
  clear hgood
  go_wp2_with fail
  go_loopw [6, 19] (fun v i wr => ∃ k : Nat, k ≤ n ∧ i = .int .i64 k ∧ wr.ownsRow w.heap.size 3 1 v (lst Z k).length (ints (lst Z k)) ∧ Below w.heap.size w wr) (fun _ i _ => n - (intOf i).toNat)
  case atStart => exact ⟨0, Nat.zero_le _, rfl, by simpa [lst, ints] using World.ownsRow_lit (e := 3) (size := 1) (base := w.heap.size) _ #[] 0 (by have := b1.size; omega) (by decide) rfl, by (repeat' (first | (with_reducible exact Below.refl _ _) | (with_reducible assumption) | (with_reducible refine balloc ?_ _) | (with_reducible refine bdrew ?_) | (with_reducible refine bdrewN ?_ _) | (with_reducible refine bstep ?_ (by assumption)) | (with_reducible refine bset ?_ ?_ _) | (exact Below.size (by assumption)) | go_size))⟩
  case round =>
    obtain ⟨k, hk, rfl, hown, hW⟩ := hrel
    by_cases hlt : k < n
    · obtain ⟨b, off, u, s, Ar, m, cr, xs, wd, rfl, hbl, hx, hxm, hrow, c0, c1, c2, c3⟩ := hr.at_ hW hlt
      have s1 : b < wr.heap.size := Nat.lt_of_lt_of_le hbl hW.size
      have hnp := HV.out k hlt
      rw [hx] at hnp
      obtain ⟨e1, _, ⟨p0, p1⟩, _, _, _⟩ := nP_bd hnp
      have hlen := lst_len Z k
      have HX := Lib.hid hx
      have HE := Lib.hid e1
      obtain ⟨cl, hcl⟩ : ∃ cl, cl = lst Z k := ⟨_, rfl⟩
      rw [← hcl] at hown hlen
      have HC := Lib.hid hcl
      have HO := Lib.hid hown
      have i3 : (k : Int) < (n : Int) := by omega
      have i4 : (0 : Int) ≤ (k : Int) := by omega
      obtain ⟨wo, rfl⟩ : ∃ wo, wo = wr := ⟨_, rfl⟩
      clear hx hrow hnp hcl hown e1 hxm
      go_upto_region 7 with fail
      refine wp_gen (fun w2 => Bk w2 wo.heap.size 35 [.int .i64 u, .int .i64 s, .slice Ar m cr, .string wd] ∧ Below wo.heap.size wo w2) ⟨Bk.new' rfl, by (repeat' (first | (with_reducible exact Below.refl _ _) | (with_reducible assumption) | (with_reducible refine balloc ?_ _) | (with_reducible refine bdrew ?_) | (with_reducible refine bdrewN ?_ _) | (with_reducible refine bstep ?_ (by assumption)) | (with_reducible refine bset ?_ ?_ _) | (exact Below.size (by assumption)) | go_size))⟩ ?_
      intro w2 ⟨hX, c2b⟩
      have HX2 := Lib.hid hX
      clear c0 c1 c2 c3 hX
      go_wp2_with fail
      go_loopw [9, 26] (fun bv j wr => ∃ (k' : Nat) (q : Bool), k' ≤ n ∧ j = .int .i64 k' ∧ bv = .bool q ∧ Hid (latP Z k' k = q) ∧ Hid (Bk wr wo.heap.size 35 [.int .i64 u, .int .i64 s, .slice Ar m cr, .string wd]) ∧ Below wo.heap.size wo wr) (fun _ j _ => n - (intOf j).toNat)
      case atStart => exact ⟨0, true, Nat.zero_le _, rfl, rfl, Lib.hid rfl, HX2, c2b⟩
      case round =>
        obtain ⟨k', q, hk', rfl, rfl, HP, HB, hW2⟩ := hrel
        have hWW := bstep hW hW2
        have hgl := HB.out.lt
        by_cases hlt' : k' < n
        · obtain ⟨b', off', u', s', Ar', m', cr', xs', wd', hbe, hbl', hx', hxm', hrow', d0, d1, d2, d3⟩ := hr.at_ hWW hlt'
          simp only [Option.some.injEq, Addr.mk.injEq, and_true] at hbe
          obtain ⟨rfl, rfl⟩ := hbe
          have s2 : b < wr.heap.size := Nat.lt_of_lt_of_le hbl hWW.size
          have hnp' := HV.out k' hlt'
          rw [hx'] at hnp'
          obtain ⟨e2, _, _, _, _, _⟩ := nP_bd hnp'
          have p2 : 0 ≤ u ∧ u < (m' : Int) := by have := HE.out; omega
          have hst := latP_succ Z k' k
          rw [HX.out, hx'] at hst
          have HS := Lib.hid hst
          have HXM := Lib.hid hxm'
          have HP2 := Lib.hid p2
          have HR2 := Lib.hid hrow'
          have j3 : (k' : Int) < (n : Int) := by omega
          have j4 : (0 : Int) ≤ (k' : Int) := by omega
          clear hx' hxm' hnp' hrow' e2 p2 hst
          go_upto_region 11 with fail
          refine wp_gen (fun w3 => Bk w3 wr.heap.size 35 [.int .i64 u', .int .i64 s', .slice Ar' m' cr', .string wd'] ∧ Bk w3 wo.heap.size 35 [.int .i64 u, .int .i64 s, .slice Ar m cr, .string wd] ∧ Below wr.heap.size wr w3) ⟨Bk.new' rfl, HB.out.alloc _, by (repeat' (first | (with_reducible exact Below.refl _ _) | (with_reducible assumption) | (with_reducible refine balloc ?_ _) | (with_reducible refine bdrew ?_) | (with_reducible refine bdrewN ?_ _) | (with_reducible refine bstep ?_ (by assumption)) | (with_reducible refine bset ?_ ?_ _) | (exact Below.size (by assumption)) | go_size))⟩ ?_
          intro w3 ⟨hX3, hB3, c3b⟩
          have b3 := bstep hW2 c3b
          clear d0 d1 d2 d3
          rcases q with _ | _
          · go_wp2
            go_roundw
            case rel => exact ⟨k' + 1, false, by omega, by go_num, rfl, Lib.hid (by rw [HS.out, HP.out]; rfl), Lib.hid hB3, b3⟩
            case measure => simp [intOf]; omega
          · by_cases hkk : k' = k
            · subst hkk
              have hd : ((k' : Int) == (k' : Int)) = true := by simp
              have HB3 := Lib.hid hB3
              clear hX3 hB3
              go_wp2
              go_roundw
              case rel => exact ⟨k' + 1, true, by omega, by go_num, rfl, Lib.hid (by rw [HS.out, HP.out]; simp), HB3, b3⟩
              case measure => simp [intOf]; omega
            · have hd : ((k' : Int) == (k : Int)) = false := by simp; omega
              have HK := Lib.hid hkk
              obtain ⟨bv, hbv⟩ : ∃ bv, decide (s ≤ xs'.getD u.toNat 0) = bv := ⟨_, rfl⟩
              have HBV := Lib.hid hbv
              have HB3 := Lib.hid hB3
              obtain ⟨x0, x1, x2, x3, xl⟩ := four_cells hX3
              obtain ⟨y0, y1, y2, y3, yl⟩ := four_cells hB3
              have hRR := HR2.out.below c3b
              clear hX3 hB3 hkk hbv
              go_wp2_with fail
              refine (before_is HBV.out _ hRR HXM.out HP2.out).mono ?_
              rintro e w4 ⟨rfl, hb4⟩
              have b4 := bstep b3 hb4
              have HB4 := Lib.hid (HB3.out.below hb4 HB3.out.lt)
              clear x0 x1 x2 x3 xl y0 y1 y2 y3 yl
              rcases bv with _ | _
              · go_wp2
                go_roundw
                case rel => exact ⟨k' + 1, true, by omega, by go_num, rfl, Lib.hid (by rw [HS.out, HP.out]; show (true && (decide (k' = k) || !(decide (s ≤ xs'.getD u.toNat 0)))) = true; rw [HBV.out]; simp), HB4, b4⟩
                case measure => simp [intOf]; omega
              · go_wp2
                go_roundw
                case rel => exact ⟨k' + 1, false, by omega, by go_num, rfl, Lib.hid (by rw [HS.out, HP.out]; show (true && (decide (k' = k) || !(decide (s ≤ xs'.getD u.toNat 0)))) = false; rw [HBV.out, decide_eq_false HK.out]; rfl), HB4, b4⟩
                case measure => simp [intOf]; omega
        · obtain rfl : k' = n := by omega
          have hown := own_below HO.out hW2
          have hP := HP.out
          rw [← hl] at hP
          rcases q with _ | _
          · have HS := Lib.hid (lst_no hP)
            have HO2 := Lib.hid hown
            clear hP hown
            go_wp2
            go_roundw
            case rel =>
              have h := HS.out
              rw [← HC.out] at h
              exact ⟨k + 1, by omega, by go_num, by rw [h]; exact HO2.out, hWW⟩
            case measure => simp [intOf]; omega
          · have HS := Lib.hid (lst_yes hP)
            clear hP
            have hsz := hWW.size
            go_wp2_with (first | (at_builtin; refine wpList_append_own _ rfl (.tmp 45) (.tmp 47) 29 rfl w.heap.size 3 i0 (.int .i64 0) 1 8 Try.underlying29 hi0 hz0 hz1 hz2 rfl (by decide) _ _ _ rfl (hown.alloc _) ⟨_, 0, none⟩ 1 1 [.int .i64 (k : Int)] rfl rfl ?c1 ?c2 ?c3 ?c4 ?c5 ?_))
            case c1 => exact cell_one_new _ _ _
            case c2 => (first | rfl | (intro u hu; simp at hu; subst hu; rfl))
            case c3 => (unfold maxLen; omega)
            case c4 => omega
            case c5 => (simp; omega)
            intro v' w4 hown4 hgrow _
            have b4 := own_grownBy (own_alloc hown _) (balloc hWW _) hgrow (Nat.le_refl _) (by simp; omega)
            go_wp2
            go_roundw
            case rel =>
              have h := HS.out
              rw [← HC.out] at h
              exact ⟨k + 1, by omega, by go_num, by rw [h]; simpa [ints] using hown4, b4⟩
            case measure => simp [intOf]; omega
    · obtain rfl : k = n := by omega
      rw [H1.out] at hown
      have HO := Lib.hid hown
      clear hown
      go_wp2
      go_returns
      exact ⟨_, rfl, HO.out, hW⟩
theorem sLatestNotes_is {q : Bool} {L : List Int} {units : Int} {A : Option Addr} {n c : Nat} {Z : List NoteV} (hq : bookB units Z = q) (hL : latL units Z = L) (w : World) (hr : RdN w A n Z) (hn : n ≤ 1048576) (hm : ∀ i, i < n → (nAt Z i).2.2.1.length ≤ 1048576 ∧ (nAt Z i).2.2.2.size ≤ maxLen) :
    Calls Try.prog 20 #[.int .i64 units, .slice A n c] w fun e w' => ∃ v, e = .returned (.tuple #[v, .bool q]) ∧ w'.ownsRow w.heap.size 3 1 v L.length (ints L) ∧ Below w.heap.size w w' := by
  have HQ := Lib.hid hq
  have HL := Lib.hid hL
  have hl := hr.1
  have hgood := fun W (hW : Below w.heap.size w W) => l17Good_is (c := c) hq W (hr.below hW) hn hm
  clear hq hL
  obtain ⟨i0, hi0, hz0, hz1, hz2⟩ := infoI
  rcases q with _ | _
  · obtain rfl : L = [] := by rw [← HL.out]; simp [latL, HQ.out]
    clear hi0 hz0 hz1 hz2
    go_enter Try.func20, Try.ntmps20
    go_wp2_with fail
    refine (hgood _ (by (repeat' (first | (with_reducible exact Below.refl _ _) | (with_reducible assumption) | (with_reducible refine balloc ?_ _) | (with_reducible refine bdrew ?_) | (with_reducible refine bdrewN ?_ _) | (with_reducible refine bstep ?_ (by assumption)) | (with_reducible refine bset ?_ ?_ _) | (exact Below.size (by assumption)) | go_size)))).mono ?_
    rintro e w1 ⟨rfl, b1⟩
    have ho := own_below (own_lit' (w := w) (t := 3) (k := 1) rfl (Nat.le_refl _)) b1
    have HO := Lib.hid ho
    clear ho
    go_wp2
    go_returns
    exact ⟨_, rfl, HO.out, bstep (by (repeat' (first | (with_reducible exact Below.refl _ _) | (with_reducible assumption) | (with_reducible refine balloc ?_ _) | (with_reducible refine bdrew ?_) | (with_reducible refine bdrewN ?_ _) | (with_reducible refine bstep ?_ (by assumption)) | (with_reducible refine bset ?_ ?_ _) | (exact Below.size (by assumption)) | go_size))) b1⟩
  have h1 : lst Z n = L := by rw [← HL.out]; simp [latL, HQ.out, hl]
  have H1 := Lib.hid h1
  clear HL h1
  have hval := fun k (hk : k < n) => book_val HQ.out (k := k) (by omega)
  have hnee := fun i j (hi : i < n) (hj : j < n) => book_ne HQ.out (i := i) (j := j) (by omega) (by omega)
  have hun := (bookB_iff.1 HQ.out).1
  have hun2 := inB_iff.1 hun
  have HU := Lib.hid hun2
  have HV := Lib.hid hval
  have HN := Lib.hid hnee
  clear hval hnee hun hun2
  go_enter Try.func20, Try.ntmps20
  go_wp2_with fail
  refine (hgood _ (by (repeat' (first | (with_reducible exact Below.refl _ _) | (with_reducible assumption) | (with_reducible refine balloc ?_ _) | (with_reducible refine bdrew ?_) | (with_reducible refine bdrewN ?_ _) | (with_reducible refine bstep ?_ (by assumption)) | (with_reducible refine bset ?_ ?_ _) | (exact Below.size (by assumption)) | go_size)))).mono ?_
  rintro e w1 ⟨rfl, b1⟩
  clear hgood
  have ho := own_below (own_lit' (w := w) (t := 3) (k := 1) rfl (Nat.le_refl _)) b1
  have b2 : Below w.heap.size w w1 := bstep (by (repeat' (first | (with_reducible exact Below.refl _ _) | (with_reducible assumption) | (with_reducible refine balloc ?_ _) | (with_reducible refine bdrew ?_) | (with_reducible refine bdrewN ?_ _) | (with_reducible refine bstep ?_ (by assumption)) | (with_reducible refine bset ?_ ?_ _) | (exact Below.size (by assumption)) | go_size))) b1
  clear b1
  have HO := Lib.hid ho
  clear ho
  go_wp2_with fail
  go_loopw [6, 7] (fun v i wr => ∃ k : Nat, k ≤ n ∧ i = .int .i64 k ∧ wr.ownsRow w.heap.size 3 1 v (lst Z k).length (ints (lst Z k)) ∧ Below w.heap.size w wr) (fun _ i _ => n - (intOf i).toNat)
  case atStart => exact ⟨0, Nat.zero_le _, rfl, by simpa [lst, ints] using HO.out, b2⟩
  case round =>
    obtain ⟨k, hk, rfl, hown, hW⟩ := hrel
    by_cases hlt : k < n
    · obtain ⟨b, off, u, s, Ar, m, cr, xs, wd, rfl, hbl, hx, hxm, hrow, c0, c1, c2, c3⟩ := hr.at_ hW hlt
      have hnp := HV.out k hlt
      rw [hx] at hnp
      obtain ⟨e1, _, ⟨p0, p1⟩, ⟨v0, v1⟩, _, _⟩ := nP_bd hnp
      have hlen := lst_len Z k
      have HX := Lib.hid hx
      have HE := Lib.hid e1
      obtain ⟨cl, hcl⟩ : ∃ cl, cl = lst Z k := ⟨_, rfl⟩
      rw [← hcl] at hown hlen
      have HC := Lib.hid hcl
      have HO := Lib.hid hown
      have i3 : (k : Int) < (n : Int) := by omega
      have i4 : (0 : Int) ≤ (k : Int) := by omega
      obtain ⟨wo, rfl⟩ : ∃ wo, wo = wr := ⟨_, rfl⟩
      have HROW := Lib.hid hrow
      have HXM := Lib.hid hxm
      clear hx hrow hnp hcl hown e1 hxm c0 c1 c2 c3
      go_wp2_with fail
      go_loopw [8, 9] (fun bv j wr => ∃ (k' : Nat) (q : Bool), k' ≤ n ∧ j = .int .i64 k' ∧ bv = .bool q ∧ Hid (latP Z k' k = q) ∧ Below wo.heap.size wo wr) (fun _ j _ => n - (intOf j).toNat)
      case atStart => exact ⟨0, true, Nat.zero_le _, rfl, rfl, Lib.hid rfl, Below.refl _ _⟩
      case round =>
        obtain ⟨k', q, hk', rfl, rfl, HP, hW2⟩ := hrel
        have hWW := bstep hW hW2
        by_cases hlt' : k' < n
        · obtain ⟨b1, off1, u1, s1, Ar1, m1, cr1, xs1, wd1, hbe, hbl1, hx1, hxm1, hrow1, c0, c1, c2, c3⟩ := hr.at_ hWW hlt
          simp only [Option.some.injEq, Addr.mk.injEq, and_true] at hbe
          obtain ⟨rfl, rfl⟩ := hbe
          rw [HX.out] at hx1
          simp only [Prod.mk.injEq] at hx1
          obtain ⟨rfl, rfl, rfl, rfl⟩ := hx1
          obtain ⟨b', off', u', s', Ar', m', cr', xs', wd', hbe, hbl', hx', hxm', hrow', d0, d1, d2, d3⟩ := hr.at_ hWW hlt'
          simp only [Option.some.injEq, Addr.mk.injEq, and_true] at hbe
          obtain ⟨rfl, rfl⟩ := hbe
          have s2 : b < wr.heap.size := Nat.lt_of_lt_of_le hbl hWW.size
          have hnp' := HV.out k' hlt'
          rw [hx'] at hnp'
          obtain ⟨e2, _, ⟨p0', p1'⟩, ⟨v0', v1'⟩, _, _⟩ := nP_bd hnp'
          have p2 : 0 ≤ u ∧ u < (m' : Int) := by have := HE.out; omega
          have hst := latP_succ Z k' k
          rw [HX.out, hx'] at hst
          have HS := Lib.hid hst
          have hne : k ≠ k' → ¬ (u = u' ∧ s = s') := fun h => by
            have h9 := HN.out k k' hlt hlt' h
            rw [HX.out, hx'] at h9
            exact h9
          have heq : k = k' → (u = u' ∧ s = s') := fun h => by
            subst h
            rw [HX.out] at hx'
            simp only [Prod.mk.injEq] at hx'
            exact ⟨hx'.1, hx'.2.1⟩
          have hbd := HU.out
          have o1 : 0 ≤ u ∧ u ≤ 1000 := by omega
          have o2 : 0 ≤ u' ∧ u' ≤ 1000 := by omega
          have o3 : 0 ≤ s ∧ s ≤ 1000 := by omega
          have o4 : 0 ≤ s' ∧ s' ≤ 1000 := by omega
          obtain ⟨qo, hqo⟩ : ∃ qo, decide ((u - u') * 100 + s - s' = 0) = qo := ⟨_, rfl⟩
          have hqk : qo = decide (k' = k) := by
            rw [← hqo]
            by_cases h : k = k'
            · have := heq h
              rw [decide_eq_true (by omega), decide_eq_true h.symm]
            · have := hne h
              rw [decide_eq_false (by omega), decide_eq_false (fun h2 => h h2.symm)]
          obtain ⟨bv, hbv⟩ : ∃ bv, decide (s ≤ xs'.getD u.toNat 0) = bv := ⟨_, rfl⟩
          have HB := fun (W : World) (hr : Rd W 1 Ar' m' (ints xs')) => l17Before_is (A := Ar1) (n := m1) (c := cr1) (c2 := cr') (wd := wd) (wd2 := wd') hbv hqo W hr hxm' p2 o1 o2 o3 o4
          obtain ⟨rv, hrv⟩ : ∃ rv, (bv && !qo) = rv := ⟨_, rfl⟩
          rw [hrv] at HB
          have hfin : latP Z (k' + 1) k = (q && !rv) := by
            rw [HS.out, HP.out]
            show (q && (decide (k' = k) || !(decide (s ≤ xs'.getD u.toNat 0)))) = _
            rw [hbv, ← hqk, ← hrv]
            cases q <;> cases bv <;> cases qo <;> rfl
          have HF := Lib.hid hfin
          have HR2 := Lib.hid hrow'
          have j3 : (k' : Int) < (n : Int) := by omega
          have j4 : (0 : Int) ≤ (k' : Int) := by omega
          clear hx' hxm1 hrow1 hxm' hnp' hrow' e2 p2 hst hne heq hbd o1 o2 o3 o4 hqo hqk hbv hrv hfin HS HP
          rcases q with _ | _
          · go_wp2
            (refine wp_region_bel (by kernel_rfl) (by kernel_rfl) ?_; (repeat (go_big_quiet_step ((first | fail)))); refine wpQuiet_nil ?_; intro w' hw'; have hb := below_of hw'; clear hw'; (try clear cW fW zW); (first | (have bW := bstep bW hb) | (have bW := bstep (bdrew bW) hb) | (have bW := bstep (balloc bW _) hb) | (have bW := bstep (bdrewN bW _) hb) | (have bW := hb)); clear hb; obtain ⟨cW, fW⟩ := bcell bW; have zW := bsize bW)
            go_wp2
            go_roundw
            case rel => exact ⟨k' + 1, false, by omega, by go_num, rfl, Lib.hid (by rw [HF.out]; rfl), by (repeat' (first | (with_reducible exact Below.refl _ _) | (with_reducible assumption) | (with_reducible refine balloc ?_ _) | (with_reducible refine bdrew ?_) | (with_reducible refine bdrewN ?_ _) | (with_reducible refine bstep ?_ (by assumption)) | (with_reducible refine bset ?_ ?_ _) | (exact Below.size (by assumption)) | go_size))⟩
            case measure => simp [intOf]; omega
          · rcases rv with _ | _
            · go_wp2
              (refine wp_region_bel (by kernel_rfl) (by kernel_rfl) ?_; (repeat (go_big_quiet_step ((first | (go_at_call 44; exact calls_bel (HB _ (HR2.out.below (below_bel _ _)))))))); refine wpQuiet_nil ?_; intro w' hw'; have hb := below_of hw'; clear hw'; (try clear cW fW zW); (first | (have bW := bstep bW hb) | (have bW := bstep (bdrew bW) hb) | (have bW := bstep (balloc bW _) hb) | (have bW := bstep (bdrewN bW _) hb) | (have bW := hb)); clear hb; obtain ⟨cW, fW⟩ := bcell bW; have zW := bsize bW)
              go_wp2
              go_roundw
              case rel => exact ⟨k' + 1, true, by omega, by go_num, rfl, Lib.hid (by rw [HF.out]; rfl), by (repeat' (first | (with_reducible exact Below.refl _ _) | (with_reducible assumption) | (with_reducible refine balloc ?_ _) | (with_reducible refine bdrew ?_) | (with_reducible refine bdrewN ?_ _) | (with_reducible refine bstep ?_ (by assumption)) | (with_reducible refine bset ?_ ?_ _) | (exact Below.size (by assumption)) | go_size))⟩
              case measure => simp [intOf]; omega
            · go_wp2
              (refine wp_region_bel (by kernel_rfl) (by kernel_rfl) ?_; (repeat (go_big_quiet_step ((first | (go_at_call 44; exact calls_bel (HB _ (HR2.out.below (below_bel _ _)))))))); refine wpQuiet_nil ?_; intro w' hw'; have hb := below_of hw'; clear hw'; (try clear cW fW zW); (first | (have bW := bstep bW hb) | (have bW := bstep (bdrew bW) hb) | (have bW := bstep (balloc bW _) hb) | (have bW := bstep (bdrewN bW _) hb) | (have bW := hb)); clear hb; obtain ⟨cW, fW⟩ := bcell bW; have zW := bsize bW)
              go_wp2
              go_roundw
              case rel => exact ⟨k' + 1, false, by omega, by go_num, rfl, Lib.hid (by rw [HF.out]; rfl), by (repeat' (first | (with_reducible exact Below.refl _ _) | (with_reducible assumption) | (with_reducible refine balloc ?_ _) | (with_reducible refine bdrew ?_) | (with_reducible refine bdrewN ?_ _) | (with_reducible refine bstep ?_ (by assumption)) | (with_reducible refine bset ?_ ?_ _) | (exact Below.size (by assumption)) | go_size))⟩
              case measure => simp [intOf]; omega
        · obtain rfl : k' = n := by omega
          have hown := own_below HO.out hW2
          have hP := HP.out
          rw [← hl] at hP
          rcases q with _ | _
          · have HS := Lib.hid (lst_no hP)
            have HO2 := Lib.hid hown
            clear hP hown
            go_wp2
            go_roundw
            case rel =>
              have h := HS.out
              rw [← HC.out] at h
              exact ⟨k + 1, by omega, by go_num, by rw [h]; exact HO2.out, hWW⟩
            case measure => simp [intOf]; omega
          · have HS := Lib.hid (lst_yes hP)
            clear hP
            have hsz := hWW.size
            go_wp2_with (first | (at_builtin; refine wpList_append_own _ rfl (.tmp 42) (.tmp 44) 29 rfl w.heap.size 3 i0 (.int .i64 0) 1 8 Try.underlying29 hi0 hz0 hz1 hz2 rfl (by decide) _ _ _ rfl (hown.alloc _) ⟨_, 0, none⟩ 1 1 [.int .i64 (k : Int)] rfl rfl ?c1 ?c2 ?c3 ?c4 ?c5 ?_))
            case c1 => exact cell_one_new _ _ _
            case c2 => (first | rfl | (intro u hu; simp at hu; subst hu; rfl))
            case c3 => (unfold maxLen; omega)
            case c4 => omega
            case c5 => (simp; omega)
            intro v' w4 hown4 hgrow _
            have b4 := own_grownBy (own_alloc hown _) (balloc hWW _) hgrow (Nat.le_refl _) (by simp; omega)
            go_wp2
            go_roundw
            case rel =>
              have h := HS.out
              rw [← HC.out] at h
              exact ⟨k + 1, by omega, by go_num, by rw [h]; simpa [ints] using hown4, b4⟩
            case measure => simp [intOf]; omega
    · obtain rfl : k = n := by omega
      rw [H1.out] at hown
      have HO := Lib.hid hown
      clear hown
      go_wp2
      go_returns
      exact ⟨_, rfl, HO.out, hW⟩
end Go.Proofs.Ythgabapegpndnaa
