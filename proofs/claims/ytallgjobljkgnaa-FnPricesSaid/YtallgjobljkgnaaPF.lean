/-
  The assignment chapter's draw of prices. Conditions: a cursor that has drawn less than 2^48 times; a table of at most five rows that was drawn.
-/
import Derived.Test.YtallgjobljkgnaaCT
import Derived.Test.YtallgjobljkgnaaKB
import Derived.Test.YtallgjobljkgnaaAP
import Derived.Laws.AppendOwnNone
namespace Go.Proofs.Ytallgjobljkgnaa
open Go Go.RowKit
set_option maxRecDepth 100000
set_option maxHeartbeats 8000000

theorem rpO_i64 {T : List (List Int)} {ts : List Int} : ∀ x ∈ rpO T ts, I64 x := fun x hx => by
  unfold rpO at hx
  split at hx
  · rename_i h
    have h2 : prcRow T.length (rpL T ts T.length T.length) = true := by
      unfold rpB at h
      exact ((Bool.and_eq_true _ _).mp h).2
    unfold prcRow at h2
    simp only [Bool.and_eq_true] at h2
    have h3 := List.all_eq_true.1 h2.2 x hx
    unfold prcP at h3
    have := inB_iff.1 h3
    exact ⟨by omega, by omega⟩
  · cases hx
theorem pricesFor_ty (X : DX) (B : Int) {base0 : Nat} {V : Value} {T : List (List Int)} {f cc : Nat → Nat} (w : World) (hX : X.base = w.heap.size) (hC : Cur w X B) (hB : B ≤ 281474976710656) (hD : TD w base0 V T f cc) (hg0 : X.g < base0) (hT : tabI T) :
    Calls Try.prog 70 #[.pointer (some ⟨X.g, 0, none⟩), V] w fun e w' => ∃ v1 v2 cs ts, e = .returned (.tuple #[v1, v2]) ∧ w.grownBy w' (some X.g) ∧ Cur w' X (B + 64) ∧ w'.ownsRow X.base 3 1 v1 cs.length (ints cs) ∧ w'.ownsRow X.base 3 1 v2 ts.length (ints ts) ∧ (cs.length ≤ 6 ∧ ∀ z ∈ cs, I64 z) ∧ ts.length ≤ 6 ∧ ∀ z ∈ ts, I64 z := by
  obtain ⟨i0, hi0, hz0, hz1, hz2⟩ := info_parts (show (Try.prog.info? 3).map (fun i => (i.zero, i.size, i.bytes)) = some (some (.int .i64 0), 1, 8) from by kernel_rfl)
  obtain ⟨A, c0, rfl, -⟩ := hD.rd
  obtain ⟨n, hn⟩ : ∃ n, T.length = n := ⟨_, rfl⟩
  have hn5 : n ≤ 5 := by rw [← hn]; exact hT.1
  rw [hn] at hD ⊢
  have hgl := cur_lt hC hX
  have hgw : X.g < w.heap.size := hC.lt
  have hGr : w.grownBy w (some X.g) := gb_refl _ _
  have HD := Lib.hid hD
  have HN := Lib.hid hn
  clear hD hn
  go_enter Try.func70, Try.ntmps70
  go_wp2_with fail
  go_loopw [6, 7] (fun v i wr => ∃ (U : Value) (k : Nat) (ys : List Int), U = v ∧ i = .int .i64 k ∧ k ≤ n ∧ ys.length = k ∧ w.grownBy wr (some X.g) ∧ Cur wr X (B + 2 * k) ∧ wr.ownsRow w.heap.size 3 1 U k (ints ys) ∧ (∃ ub uc, U = .slice (some ⟨ub, 0, none⟩) k uc) ∧ ∀ y ∈ ys, I64 y) (fun _ i _ => n - (intOf i).toNat)
  case atStart => exact ⟨_, 0, [], rfl, rfl, Nat.zero_le _, rfl, gb_alloc hGr _, (hC.alloc _).le (by omega), own_lit' rfl (Nat.le_refl _), ⟨_, _, rfl⟩, by simp⟩
  case round =>
    obtain ⟨U, k, ys, rfl, rfl, hk, hyl, hGr, hC, hO, ⟨ub, uc, rfl⟩, hy⟩ := hrel
    have hwr := hGr.size
    have hub := (hO.lt ub rfl).2
    have hub0 := (hO.lt ub rfl).1
    by_cases hlt : k < n
    · have k1 : decide ((k : Int) < (n : Int)) = true := decide_eq_true (by omega)
      have k2 : decide (k < n) = true := decide_eq_true hlt
      go_wp2_with (first | (go_at_call 76; refine (among_ty X _ _ (hC.alloc _) (by omega) (Good.lit' rfl (by simp) (by simp [sm_int])) (by have := hC.lt; omega) (by omega) (by omega) (by omega)).mono ?_; rintro e w' ⟨vv, rfl, hg, hC, y, rfl, y0, y1⟩; have hGr := (gb_alloc hGr _).trans hg; have hO := own_grown (own_alloc hO _) hg (by omega); have hwr2 := hGr.size) | (at_builtin; refine wpList_append_own_at _ rfl (.tmp 18) (.tmp 22) 24 rfl w.heap.size 3 i0 _ 1 8 Try.underlying24 hi0 hz0 hz1 hz2 rfl (by decide) _ _ _ rfl (own_alloc hO _) ⟨_, 0, none⟩ 1 1 [.int .i64 y] rfl rfl ?c1 ?c2 ?c3 ?c4 ?c5 ?_))
      case c1 => exact ((Bk.new' (t := 3) (cs := [.int .i64 y]) (g := _) (by simp)).rd (k := 1) (n := 1) rfl).news
      case c2 => (intro u hu; simp at hu; subst hu; rfl)
      case c3 => (unfold maxLen; omega)
      case c4 => omega
      case c5 => (simp; omega)
      intro v' w1 hown' hgrow _ hat
      have hC := cur_own (hC.alloc _) (own_alloc hO _) hgw (Nat.le_of_eq hX) hgrow
      have hGr := gb_own (gb_alloc hGr _) (own_alloc hO _) hgrow
      rw [← ints_snoc] at hown'
      obtain ⟨ub', uc', rfl, _⟩ := own_some1' hown' (by omega)
      have hy := i64_snoc hy ⟨y0, y1⟩
      go_wp2
      go_roundw
      case rel => exact ⟨_, k + 1, ys ++ [y], rfl, by go_num, by omega, by simp; omega, hGr, hC.le (by omega), hown', ⟨_, _, rfl⟩, hy⟩
      case measure => simp [intOf]; omega
    · have k1 : decide ((k : Int) < (n : Int)) = false := decide_eq_false (by omega)
      have k2 : decide (k < n) = false := decide_eq_false hlt
      have hkn : k = n := by omega
      have HY := Lib.hid hy
      have HYL := Lib.hid hyl
      clear hy hyl hkn
      go_upto_if 25 with (first | (go_at_call 71; refine (one_ty X _ _ _ hC (by omega) (by omega)).mono ?_; rintro e w' ⟨v, rfl, hg, hC, x, rfl⟩; have hGr := hGr.trans hg; have hO := own_grown hO hg hgw))
      have hwr := hGr.size
      go_cut [6] (fun s6 wx => ∃ (V : Value) (ts : List Int), V = s6 ∧ w.grownBy wx (some X.g) ∧ Cur wx X (B + 12) ∧ wx.ownsRow w.heap.size 3 1 V ts.length (ints ts) ∧ (∃ b c, V = .slice (some ⟨b, 0, none⟩) ts.length c) ∧ ts.length ≤ 6 ∧ ∀ z ∈ ts, I64 z)
      case first =>
        rcases x with _ | _
        · have hyl := HYL.out
          subst hyl
          go_wp2
          go_meet
          exact ⟨_, ys, rfl, hGr, hC.le (by omega), hO, ⟨_, _, rfl⟩, by omega, HY.out⟩
        · go_wp2_with (at_builtin; refine wpList_append_own_at _ rfl (.tmp 26) (.tmp 27) 24 rfl w.heap.size 3 i0 _ 1 8 Try.underlying24 hi0 hz0 hz1 hz2 rfl (by decide) _ _ _ rfl (own_alloc hO _) ⟨_, 0, none⟩ 1 1 [.int .i64 101] rfl rfl ?d1 ?d2 ?d3 ?d4 ?d5 ?_)
          case d1 => exact ((Bk.new' (t := 3) (cs := [.int .i64 101]) (g := _) (by simp)).rd (k := 1) (n := 1) rfl).news
          case d2 => (intro u hu; simp at hu; subst hu; rfl)
          case d3 => (unfold maxLen; omega)
          case d4 => omega
          case d5 => (simp; omega)
          intro v' w1 hown' hgrow _ hat
          have hC := cur_own (hC.alloc _) (own_alloc hO _) hgw (Nat.le_of_eq hX) hgrow
          have hGr := gb_own (gb_alloc hGr _) (own_alloc hO _) hgrow
          rw [← ints_snoc] at hown'
          obtain ⟨ub', uc', rfl, _⟩ := own_some1' hown' (by omega)
          have hyl := HYL.out
          subst hyl
          have HO := Lib.hid (own_len (n' := (ys ++ [101]).length) hown' (by simp))
          clear hown'
          go_wp2
          go_meet
          exact ⟨_, ys ++ [101], rfl, hGr, hC.le (by omega), HO.out, ⟨ub', uc', by simp⟩, by simp; omega, i64_snoc HY.out ⟨by decide, by decide⟩⟩
      case rest =>
      obtain ⟨V, ts, rfl, hGr, hC, hO, ⟨tb, tc, rfl⟩, hts6, hts⟩ := hcut
      have hwr := hGr.size
      have htb := (hO.lt tb rfl).2
      have htb0 := (hO.lt tb rfl).1
      obtain ⟨A', c', e9, hRT⟩ := (HD.out.grown hGr hg0).rd
      rw [HN.out] at e9 hRT
      cases e9
      obtain ⟨q, hq⟩ : ∃ q, rpB T ts = q := ⟨_, rfl⟩
      obtain ⟨L, hL⟩ : ∃ L, rpO T ts = L := ⟨_, rfl⟩
      have hL5 : L.length ≤ 5 := by rw [← hL]; exact rpO_len
      have hL64 : ∀ x ∈ L, I64 x := by rw [← hL]; exact rpO_i64
      have X1 := fun (W : World) h1 h2 => sRaise_is (A := A) (C := some ⟨tb, 0, none⟩) (n := n) (m := ts.length) (c := c0) (d := tc) hq hL W h1 (by omega) h2 rfl (by omega)
      have HTS := Lib.hid hts
      clear hts hq hL
      go_upto_region 9 with (first | (go_at_call 18; refine (X1 _ hRT (own_r hO)).mono ?_; rintro e w2 ⟨v2, rfl, hO2, hbl⟩; have hGr := hGr.trans (gb_below hbl); have hO := own_below hO hbl; have hC := hC.kept (Le.grown (gb_below hbl)) (hbl.block _ hC.lt); have htb := Nat.lt_of_lt_of_le htb hbl.size))
      have hwr := hGr.size
      have hw1 := hbl.size
      have HL5 := Lib.hid hL5
      have HL64 := Lib.hid hL64
      clear hL64 X1 hRT
      go_cut [35, 36, 37, 8] (fun s35 s36 s37 s8 wx => ∃ (V : Value) (b1 : Nat), V = s8 ∧ w.grownBy wx (some X.g) ∧ Cur wx X (B + 12) ∧ wx.ownsRow w.heap.size 3 1 (.slice (some ⟨tb, 0, none⟩) ts.length tc) ts.length (ints ts) ∧ wx.ownsRow b1 3 1 V L.length (ints L) ∧ tb < b1 ∧ w.heap.size ≤ b1)
      case first =>
        rcases own_bk hO2 with ⟨hv2, hL0⟩ | ⟨gL, capL, csL, hv2, hgL, hBL, hL1, -, -, -⟩
        · subst hv2
          obtain rfl : L = [] := List.eq_nil_of_length_eq_zero hL0
          go_wp2_with (at_builtin; refine wpList_append_own_none rfl (.tmp 35) (.tmp 36) 24 rfl w2.heap.size 3 i0 1 Try.underlying24 hi0 _ 0 [] rfl (own_lit' rfl (Nat.le_refl _)) rfl ?_)
          go_meet
          exact ⟨_, w2.heap.size, rfl, gb_alloc hGr _, hC.alloc _, own_alloc hO _, own_lit' rfl (Nat.le_refl _), htb, hwr⟩
        · subst hv2
          have hR2 := own_r hO2
          have hgl2 := hBL.lt
          clear hO2
          go_wp2_with (at_builtin; refine wpList_append_own_at _ rfl (.tmp 35) (.tmp 36) 24 rfl w2.heap.size 3 i0 _ 1 8 Try.underlying24 hi0 hz0 hz1 hz2 rfl (by decide) _ _ _ rfl (own_lit' rfl (Nat.le_refl _)) ⟨_, 0, none⟩ L.length capL (ints L) rfl (by simp [ints]) ?e1 (ints_one _) ?e3 ?e4 ?e5 ?_)
          case e1 => exact (hR2.below (balloc (Below.refl _ _) _)).news
          case e3 => (unfold maxLen; omega)
          case e4 => omega
          case e5 => simp
          intro v' w1 hown' hgrow _ hat
          (try simp only [Nat.zero_add, List.nil_append] at hown')
          have hC := cur_own (hC.alloc _) (own_lit' (w := w2) (t := 3) (k := 1) rfl (Nat.le_refl _)) hC.lt (Nat.le_trans (Nat.le_of_eq hX) hwr) hgrow
          have hGr := gb_own (gb_alloc hGr _) (own_weaken (base' := w.heap.size) (own_lit' (w := w2) (t := 3) (k := 1) rfl (Nat.le_refl _)) hwr) hgrow
          have hO := own_apart (own_alloc hO _) hgrow (fun b e he => by cases e; have h9 : some tb = some w2.heap.size := he; have := Option.some.inj h9; omega)
          have HO := Lib.hid hown'
          clear hown'
          go_wp2
          go_meet
          exact ⟨_, w2.heap.size, rfl, hGr, hC, hO, HO.out, htb, hwr⟩
      case rest =>
      obtain ⟨V, b1, rfl, hGr, hC, hO, hO2, htb, hb1⟩ := hcut
      have hwr := hGr.size
      clear hbl hg hw1
      go_upto_region 10 with fail
      go_cut [38, 39, 40, 41, 42, 43] (fun s38 s39 s40 s41 s42 s43 wx => ∃ z : Bool, s43 = .bool z ∧ w.grownBy wx (some X.g) ∧ Cur wx X (B + 16) ∧ wx.ownsRow w.heap.size 3 1 (.slice (some ⟨tb, 0, none⟩) ts.length tc) ts.length (ints ts) ∧ wx.ownsRow b1 3 1 V L.length (ints L))
      case first =>
        rcases q with _ | _
        · go_wp2
          go_meet
          exact ⟨_, rfl, hGr, hC.le (by omega), hO, hO2⟩
        · go_wp2_with (first | (go_at_call 71; refine (one_ty X _ _ _ hC (by omega) (by omega)).mono ?_; rintro e w3 ⟨v, rfl, hg, hC, x, rfl⟩; have hGr := hGr.trans hg; have hO := own_grown hO hg hgw; have hO2 := own_grown hO2 hg (by omega)))
          go_meet
          exact ⟨_, rfl, hGr, hC.le (by omega), hO, hO2⟩
      case rest =>
      obtain ⟨z, rfl, hGr, hC, hO, hO2⟩ := hcut
      have hwr := hGr.size
      rcases z with _ | _
      · go_wp2
        go_returns
        exact ⟨_, _, L, ts, rfl, hGr, hC.le (by omega), by rw [hX]; exact own_weaken hO2 hb1, by rw [hX]; exact hO, ⟨by have := HL5.out; omega, HL64.out⟩, hts6, HTS.out⟩
      · clear hO2
        go_upto_region 13 with fail
        obtain ⟨b2, hb2⟩ : ∃ b, wc.heap.size = b := ⟨_, rfl⟩
        have htb2 := (hO.lt tb rfl).2
        rw [hb2] at htb2 hwr
        have HB2 := Lib.hid hb2
        clear hb2
        go_loopw [8, 10] (fun v i wr => ∃ (U : Value) (j : Nat) (us : List Int), U = v ∧ i = .int .i64 j ∧ j ≤ n ∧ us.length = j ∧ w.grownBy wr (some X.g) ∧ Cur wr X (B + 16 + 2 * j) ∧ wr.ownsRow w.heap.size 3 1 (.slice (some ⟨tb, 0, none⟩) ts.length tc) ts.length (ints ts) ∧ wr.ownsRow b2 3 1 U j (ints us) ∧ (∃ ub uc, U = .slice (some ⟨ub, 0, none⟩) j uc) ∧ ∀ y ∈ us, I64 y) (fun _ i _ => n - (intOf i).toNat)
        case atStart => exact ⟨_, 0, [], rfl, rfl, Nat.zero_le _, rfl, gb_alloc hGr _, (hC.alloc _).le (by omega), own_alloc hO _, own_lit' rfl (Nat.le_of_eq HB2.out.symm), ⟨_, _, rfl⟩, by simp⟩
        case round =>
          obtain ⟨U, j, us, rfl, rfl, hj, hul, hGr, hC, hO, hU, ⟨ub, uc, rfl⟩, hus⟩ := hrel
          have hwr1 := hGr.size
          have hub := (hU.lt ub rfl).2
          have hub0 := (hU.lt ub rfl).1
          by_cases hlt : j < n
          · have k3 : decide ((j : Int) < (n : Int)) = true := decide_eq_true (by omega)
            have k4 : decide (j < n) = true := decide_eq_true hlt
            go_wp2_with (first | (go_at_call 76; refine (among_ty X _ _ (hC.alloc _) (by omega) (Good.lit' rfl (by simp) (by simp [sm_int])) (by have := hC.lt; omega) (by omega) (by omega) (by omega)).mono ?_; rintro e w' ⟨vv, rfl, hg, hC, y, rfl, y0, y1⟩; have hGr := (gb_alloc hGr _).trans hg; have hO := own_grown (own_alloc hO _) hg hgw; have hU := own_grown (own_alloc hU _) hg (by omega); have hwr2 := hGr.size; have hub2 := (hU.lt ub rfl).2) | (at_builtin; refine wpList_append_own_at _ rfl (.tmp 51) (.tmp 55) 24 rfl b2 3 i0 _ 1 8 Try.underlying24 hi0 hz0 hz1 hz2 rfl (by decide) _ _ _ rfl (own_alloc hU _) ⟨_, 0, none⟩ 1 1 [.int .i64 y] rfl rfl ?c1 ?c2 ?c3 ?c4 ?c5 ?_))
            case c1 => exact ((Bk.new' (t := 3) (cs := [.int .i64 y]) (g := _) (by simp)).rd (k := 1) (n := 1) rfl).news
            case c2 => (intro u hu; simp at hu; subst hu; rfl)
            case c3 => (unfold maxLen; omega)
            case c4 => omega
            case c5 => (simp; omega)
            intro v' w1 hown' hgrow _ hat
            have hC := cur_own (hC.alloc _) (own_alloc hU _) (by omega) (by omega) hgrow
            have hGr := gb_own (gb_alloc hGr _) (own_weaken (base' := w.heap.size) (own_alloc hU _) hwr) hgrow
            have hO := own_apart (own_alloc hO _) hgrow (fun b e he => by cases e; have h9 : some tb = some ub := he; have := Option.some.inj h9; omega)
            rw [← ints_snoc] at hown'
            obtain ⟨ub', uc', rfl, _⟩ := own_some1' hown' (by omega)
            have hus := i64_snoc hus ⟨y0, y1⟩
            go_wp2
            go_roundw
            case rel => exact ⟨_, j + 1, us ++ [y], rfl, by go_num, by omega, by simp; omega, hGr, hC.le (by omega), hO, hown', ⟨_, _, rfl⟩, hus⟩
            case measure => simp [intOf]; omega
          · have k3 : decide ((j : Int) < (n : Int)) = false := decide_eq_false (by omega)
            have k4 : decide (j < n) = false := decide_eq_false hlt
            have HUS := Lib.hid hus
            have HU := Lib.hid hU
            have HUL := Lib.hid hul
            clear hus hU hul
            go_wp2
            go_returns
            refine ⟨_, _, us, ts, rfl, hGr, hC.le (by omega), ?_, by rw [hX]; exact hO, ⟨by have := HUL.out; omega, HUS.out⟩, hts6, HTS.out⟩
            rw [hX, HUL.out]
            exact own_weaken HU.out hwr
end Go.Proofs.Ytallgjobljkgnaa
