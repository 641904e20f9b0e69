/-
  FnAssignments, walked. Conditions: none beyond the layout of its argument.
-/
import Derived.Test.YtallgjobljkgnaaPD
import Derived.Test.YtallgjobljkgnaaQM
import Derived.Test.YtallgjobljkgnaaCJ
import Derived.Test.YtallgjobljkgnaaRB
namespace Go.Proofs.Ytallgjobljkgnaa
open Go.RowKit
set_option maxRecDepth 100000
set_option maxHeartbeats 8000000

theorem vBig_is {A : Option Addr} {n c : Nat} (v : Bool) (h : decide ((65536 : Int) < (n : Int)) = v) (w : World) : Calls Try.prog 15 #[.slice A n c] w fun e w' => e = .returned (.bool v) ∧ w = w' := by
  go_enter Try.func15, Try.ntmps15
  go_wp2
  go_returns
  exact ⟨by simp, rfl⟩
theorem vInts_same {A B : Option Addr} {n m c d : Nat} {xs : List Int} (w : World) (hx : Rd w 1 A n (ints xs)) (hy : Rd w 1 B m (ints xs)) (hn : n ≤ 9223372036854775807) :
    Calls Try.prog 19 #[.slice A n c, .slice B m d] w fun e w' => e = .returned (.bool true) ∧ Below w.heap.size w w' := by
  have h := vInts_any A B n m c d xs xs w hx hy hn
  rw [decide_eq_true rfl] at h
  exact h
theorem tab_lens {T : List (List Int)} (h : tabI T) : ∀ i, i < T.length → (row T i).length ≤ 1048576 := fun i hi => by have := (h.2 _ (row_mem hi)).1; omega
theorem fnAssignments_walk (A : Option Addr) (n c : Nat) (bs : List Int) (w : World) (hr : Rd w 1 A n (bs.flatMap (fun n => [Value.int .u8 n]))) (hl : bs.length = n) (hn : n ≤ 9223372036854775807) (ok : ∀ z ∈ bs, 0 ≤ z ∧ z ≤ 255) :
    Calls Try.prog 5 #[.slice A n c] w fun e w' => e = .returned (.bool true) ∧ Below w.heap.size w w' := by
  by_cases hbig : 65536 < n
  · have d1 : decide ((65536 : Int) < (n : Int)) = true := decide_eq_true (by omega)
    go_enter Try.func5, Try.ntmps5
    go_wp2_with (go_at_call 15; refine (vBig_is _ d1 _).mono ?_; rintro e w' ⟨rfl, rfl⟩)
    go_returns
    exact ⟨rfl, Below.refl _ _⟩
  · have hc := code_of hr hl (by omega) ok
    have d1 : decide ((65536 : Int) < (n : Int)) = false := decide_eq_false (by omega)
    clear hr hl ok
    have bW : Below w.heap.size w w := Below.refl _ _
    go_enter Try.func5, Try.ntmps5
    go_upto_region 4 with (first | (go_at_call 15; refine (vBig_is _ d1 _).mono ?_; rintro e w' ⟨rfl, rfl⟩) | (go_at_call 28; refine (DrawAssignmentCost_any A n c _ _ (hc.below bW)).mono ?_; rintro e w' ⟨v1, v2, T, zs, rfl, ⟨⟨⟨A1, c1, rfl, hr⟩, hT⟩, ⟨A2, c2, rfl, hx, hd⟩, h6, hz⟩, hbl⟩; have bW := bstep bW hbl))
    have hT5 := hT.1
    have hM := tab_lens hT
    obtain ⟨q, hq⟩ : ∃ q, asT T zs = q := ⟨_, rfl⟩
    obtain ⟨v, hv⟩ : ∃ v, acI T zs = v := ⟨_, rfl⟩
    obtain ⟨qt, hqt⟩ : ∃ q, ctB T = q := ⟨_, rfl⟩
    obtain ⟨L, vL, hR⟩ : ∃ L v, caR T = (L, v) := ⟨_, _, rfl⟩
    obtain ⟨mL, hmL⟩ : ∃ m, rsM T L = m := ⟨_, rfl⟩
    have hL5 : L.length ≤ 5 := by have := caR_len T; rw [hR] at this; exact this
    have hlt : q = true → ¬ v < vL := fun h => by have h2 := caR_min (hq.trans h) hR; have h3 : acI T zs = cstA T zs T.length := (by unfold acI; rw [if_pos (hq.trans h)]); omega
    have hbest : qt = true → asT T L = true ∧ acI T L = vL ∧ mL = 0 := fun h => rotate_best (hqt.trans h) hR hmL
    have X1 := fun (W : World) h1 h2 => AssignmentCost_is (A := A1) (n := T.length) (c := c1) (B := A2) (m := zs.length) (d := c2) hq hv W h1 (by omega) hM h2 rfl (by omega)
    have X2 := fun (W : World) h1 h2 => sAssignmentCost_is (A := A1) (n := T.length) (c := c1) (B := A2) (m := zs.length) (d := c2) hq hv W h1 (by omega) h2 rfl (by omega) hd
    have X3 := fun (W : World) h1 => IsCostTable_is (A := A1) (n := T.length) (c := c1) hqt W h1 (by omega) hM
    have X4 := fun (W : World) h1 => sIsCostTable_is (A := A1) (n := T.length) (c := c1) hqt W h1 (by omega)
    have X5 := fun (W : World) h1 => Cheapest_is (A := A1) (n := T.length) (c := c1) hqt hR W h1 (by omega) hM
    have X6 := fun (W : World) h1 => sCheapest_is (A := A1) (n := T.length) (c := c1) hqt hR W h1 (by omega)
    have X7 := fun (W : World) (B : Option Addr) (d : Nat) h h1 h2 => AssignmentCost_is (A := A1) (n := T.length) (c := c1) (B := B) (m := L.length) (d := d) (hbest h).1 (hbest h).2.1 W h1 (by omega) hM h2 rfl (by omega)
    have X8 := fun (W : World) (B : Option Addr) (d : Nat) h h1 h2 => Rotate_is (A := A1) (n := T.length) (c := c1) (C := B) (m := L.length) (d := d) (hbest h).1 rfl hmL W h1 (by omega) hM h2 rfl (by omega)
    have hm0 : qt = true → mL = 0 := fun h => (hbest h).2.2
    have HLT := Lib.hid hlt
    have HM0 := Lib.hid hm0
    clear hq hv hqt hR hmL hbest hlt hm0 hM hT hz
    go_upto_region 5 with (first | (go_at_call 27; refine (X1 _ hr hx).mono ?_; rintro e w' ⟨rfl, hbl⟩; have hr := hr.below hbl; have hx := hx.below hbl; have bW := bstep bW hbl))
    go_upto_region 6 with (first | (go_at_call 29; refine (X2 _ hr hx).mono ?_; rintro e w' ⟨rfl, hbl⟩; have hr := hr.below hbl; have hx := hx.below hbl; have bW := bstep bW hbl))
    go_upto_region 8 with (first | (go_at_call 30; refine (X3 _ hr).mono ?_; rintro e w' ⟨rfl, hbl⟩; have hr := hr.below hbl; have hx := hx.below hbl; have bW := bstep bW hbl) | (go_at_call 31; refine (X4 _ hr).mono ?_; rintro e w' ⟨rfl, hbl⟩; have hr := hr.below hbl; have hx := hx.below hbl; have bW := bstep bW hbl))
    go_upto_region 9 with (first | (go_at_call 9; refine (X5 _ hr).mono ?_; rintro e w' ⟨u1, rfl, hO1, hbl⟩; have hr := hr.below hbl; have hx := hx.below hbl; have bW := bstep bW hbl; obtain ⟨A3, c3, rfl, hy, _⟩ := own_rd hO1))
    go_upto_region 10 with (first | (go_at_call 7; refine (X6 _ hr).mono ?_; rintro e w' ⟨u2, rfl, hO2, hbl⟩; have hr := hr.below hbl; have hx := hx.below hbl; have bW := bstep bW hbl; obtain ⟨A4, c4, rfl, hy2, _⟩ := own_rd hO2; have hy := hy.below hbl))
    clear X1 X2 X3 X4 X5 X6 hx hO1 hO2
    have bX := Below.refl w'.heap.size w'
    go_cut [95, 96, 97, 98, 99, 100, 101, 102, 103, 104, 105, 106, 107, 108, 109, 110, 111, 112, 113, 114] (fun s95 s96 s97 s98 s99 s100 s101 s102 s103 s104 s105 s106 s107 s108 s109 s110 s111 s112 s113 s114 wx => s114 = .bool false ∧ Below w'.heap.size w' wx)
    case first => as_aux_lemma =>
      rcases q with _ | _
      · go_wp2_with (first | (go_at_call 19; refine (vInts_same _ hy hy2 (by omega)).mono ?_; rintro e w' ⟨rfl, hbl⟩; have bX := bstep bX hbl))
        go_meet
        exact ⟨rfl, bX⟩
      · have hd2 : decide (v < vL) = false := decide_eq_false (by have := HLT.out (by trivial); omega)
        go_wp2_with (first | (go_at_call 19; refine (vInts_same _ hy hy2 (by omega)).mono ?_; rintro e w' ⟨rfl, hbl⟩; have bX := bstep bX hbl))
        go_meet
        exact ⟨rfl, bX⟩
    case rest => as_aux_lemma =>
      obtain ⟨rfl, bx⟩ := hcut
      have bW := bstep bW bx
      have hr := hr.below bx
      have hy := hy.below bx
      clear HLT hy2 hbl
      go_upto_if 115 with fail
      have bX := Below.refl wc.heap.size wc
      go_cut [15, 16, 17, 18, 19, 116, 117, 118, 119, 120, 121, 122, 123, 124, 125, 126, 127, 128, 129, 130, 131, 132, 133, 134, 135, 136, 137, 138, 139, 140, 141, 142, 143] (fun s15 s16 s17 s18 s19 s116 s117 s118 s119 s120 s121 s122 s123 s124 s125 s126 s127 s128 s129 s130 s131 s132 s133 s134 s135 s136 s137 s138 s139 s140 s141 s142 s143 wx => Below wc.heap.size wc wx)
      case first => as_aux_lemma =>
        rcases qt with _ | _
        · go_wp2
          go_meet
          exact bX
        · have hm := HM0.out (by trivial)
          subst hm
          go_wp2_with (first | (go_at_call 27; refine (X7 _ _ _ (by trivial) hr hy).mono ?_; rintro e w' ⟨rfl, hbl⟩; have hr := hr.below hbl; have hy := hy.below hbl; have bX := bstep bX hbl) | (go_at_call 24; refine (X8 _ _ _ (by trivial) hr hy).mono ?_; rintro e w' ⟨u5, rfl, _, hbl⟩; have hr := hr.below hbl; have hy := hy.below hbl; have bX := bstep bX hbl))
          go_meet
          exact bX
      case rest => as_aux_lemma =>
        have bW := bstep bW hcut
        clear X7 X8 HM0 hr hy hT5 hL5 h6 hd bx bX hcut
        go_upto_region 18 with (first | (go_at_call 32; refine (DrawPriceValue_any A n c _ _ (hc.below bW)).mono ?_; rintro e w' ⟨v1, v2, v3, T, ds, ts, rfl, ⟨⟨⟨A1, c1, rfl, hr⟩, hT⟩, ⟨⟨A2, c2, rfl, hx, _⟩, h6, _⟩, ⟨A3, c3, rfl, hy, _⟩, h62, _⟩, hbl⟩; have bW := bstep bW hbl))
        have hT5 := hT.1
        have hM := tab_lens hT
        obtain ⟨q, hq⟩ : ∃ q, fairV T ds ts = q := ⟨_, rfl⟩
        obtain ⟨v, hv⟩ : ∃ v, pvI T ds ts = v := ⟨_, rfl⟩
        obtain ⟨qa, hqa⟩ : ∃ q, askB T ds ts = q := ⟨_, rfl⟩
        obtain ⟨L, vL, hR⟩ : ∃ L v, caR T = (L, v) := ⟨_, _, rfl⟩
        have hask : q = true → qa = true := fun h => hqa.symm.trans (fair_ask (hq.trans h)).2.2
        have hval : q = true → ctB T = true ∧ ¬ vL < v := fun h => by have h2 := value_le (hq.trans h) hR; rw [hv] at h2; exact ⟨h2.1, by omega⟩
        have X1 := fun (W : World) h1 h2 h3 => PriceValue_is (A := A1) (n := T.length) (c := c1) (B := A2) (m1 := ds.length) (c' := c2) (C := A3) (m2 := ts.length) (c'' := c3) hq hv W h1 (by omega) hM h2 h3 rfl rfl (by omega) (by omega)
        have X2 := fun (W : World) h1 h2 h3 => sPriceValue_is (A := A1) (n := T.length) (c := c1) (B := A2) (m1 := ds.length) (c' := c2) (C := A3) (m2 := ts.length) (c'' := c3) hq hv W h1 (by omega) h2 h3 rfl rfl (by omega) (by omega)
        have X3 := fun (W : World) h1 h2 h3 => AreFair_is (A := A1) (n := T.length) (c := c1) (B := A2) (m1 := ds.length) (c' := c2) (C := A3) (m2 := ts.length) (c'' := c3) hqa hq W h1 (by omega) hM h2 h3 rfl rfl (by omega) (by omega)
        have X4 := fun (W : World) h1 h2 h3 => sAreFair_is (A := A1) (n := T.length) (c := c1) (B := A2) (m1 := ds.length) (c' := c2) (C := A3) (m2 := ts.length) (c'' := c3) hqa hq W h1 (by omega) h2 h3 rfl rfl (by omega) (by omega)
        have X5 := fun (W : World) h h1 => Cheapest_is (A := A1) (n := T.length) (c := c1) (hval h).1 hR W h1 (by omega) hM
        have hlt : q = true → ¬ vL < v := fun h => (hval h).2
        have HLT := Lib.hid hlt
        have HASK := Lib.hid hask
        clear hq hv hqa hR hval hlt hask hM hT
        go_upto_region 19 with (first | (go_at_call 33; refine (X1 _ hr hx hy).mono ?_; rintro e w' ⟨rfl, hbl⟩; have hr := hr.below hbl; have hx := hx.below hbl; have hy := hy.below hbl; have bW := bstep bW hbl))
        go_upto_region 20 with (first | (go_at_call 34; refine (X2 _ hr hx hy).mono ?_; rintro e w' ⟨rfl, hbl⟩; have hr := hr.below hbl; have hx := hx.below hbl; have hy := hy.below hbl; have bW := bstep bW hbl))
        go_upto_region 23 with (first | (go_at_call 20; refine (X3 _ hr hx hy).mono ?_; rintro e w' ⟨rfl, hbl⟩; have hr := hr.below hbl; have hx := hx.below hbl; have hy := hy.below hbl; have bW := bstep bW hbl))
        go_upto_region 24 with (first | (go_at_call 35; refine (X4 _ hr hx hy).mono ?_; rintro e w' ⟨rfl, hbl⟩; have hr := hr.below hbl; have hx := hx.below hbl; have hy := hy.below hbl; have bW := bstep bW hbl))
        clear X1 X2 X3 X4 hx hy
        have bX := Below.refl w'.heap.size w'
        go_cut [186, 187, 188, 189, 190, 191, 192, 193, 194, 195, 196, 197, 198, 199, 200, 201] (fun s186 s187 s188 s189 s190 s191 s192 s193 s194 s195 s196 s197 s198 s199 s200 s201 wx => s201 = .bool false ∧ Below w'.heap.size w' wx)
        case first => as_aux_lemma =>
          rcases q with _ | _
          · rcases qa with _ | _
            · go_wp2
              go_meet
              exact ⟨rfl, bX⟩
            · go_wp2
              go_meet
              exact ⟨rfl, bX⟩
          · have hqa := HASK.out (by trivial)
            subst hqa
            go_wp2
            go_meet
            exact ⟨rfl, bX⟩
        case rest => as_aux_lemma =>
          obtain ⟨rfl, bx⟩ := hcut
          have bW := bstep bW bx
          have hr := hr.below bx
          clear HASK hbl
          go_upto_if 202 with fail
          have bX := Below.refl wc.heap.size wc
          go_cut [31, 32, 33, 203, 204, 205, 206, 207, 208, 209, 210, 211, 212, 213, 214, 215] (fun s31 s32 s33 s203 s204 s205 s206 s207 s208 s209 s210 s211 s212 s213 s214 s215 wx => Below wc.heap.size wc wx)
          case first => as_aux_lemma =>
            rcases q with _ | _
            · go_wp2
              go_meet
              exact bX
            · have hd2 : decide (vL < v) = false := decide_eq_false (by have := HLT.out (by trivial); omega)
              go_wp2_with (first | (go_at_call 9; refine (X5 _ (by trivial) hr).mono ?_; rintro e w' ⟨u5, rfl, _, hbl⟩; have bX := bstep bX hbl))
              go_meet
              exact bX
          case rest => as_aux_lemma =>
            have bW := bstep bW hcut
            clear X5 HLT hr hT5 h6 h62 bx bX hcut
            go_upto_region 31 with (first | (go_at_call 36; refine (DrawProvesCheapest_any A n c _ _ (hc.below bW)).mono ?_; rintro e w' ⟨v1, v2, v3, v4, T, zs, ds, ts, rfl, ⟨⟨⟨A1, c1, rfl, hr⟩, hT⟩, ⟨⟨A4, c4, rfl, hz, hd⟩, h66⟩, ⟨⟨A2, c2, rfl, hx, _⟩, h6, _⟩, ⟨A3, c3, rfl, hy, _⟩, h62, _⟩, hbl⟩; have bW := bstep bW hbl))
            have hT5 := hT.1
            have hM := tab_lens hT
            obtain ⟨q, hq⟩ : ∃ q, pcB T zs ds ts = q := ⟨_, rfl⟩
            obtain ⟨v, hv⟩ : ∃ v, pcV T zs ds ts = v := ⟨_, rfl⟩
            obtain ⟨L, vL, hR⟩ : ∃ L v, caR T = (L, v) := ⟨_, _, rfl⟩
            have hpr : v = true → asT T zs = true ∧ ctB T = true ∧ acI T zs = vL := fun h => proves_eq (hv.trans h) hR
            have X1 := fun (W : World) h1 h2 h3 h4 => Proves_is (A := A1) (n := T.length) (c := c1) (B := A4) (m1 := zs.length) (d1 := c4) (C := A2) (m2 := ds.length) (d2 := c2) (D := A3) (m3 := ts.length) (d3 := c3) hq hv W h1 (by omega) hM h2 h3 h4 rfl rfl rfl (by omega) (by omega) (by omega)
            have X2 := fun (W : World) h1 h2 h3 h4 => sProves_is (A := A1) (n := T.length) (c := c1) (B := A4) (m1 := zs.length) (d1 := c4) (C := A2) (m2 := ds.length) (d2 := c2) (D := A3) (m3 := ts.length) (d3 := c3) hq hv W h1 (by omega) h2 h3 h4 rfl rfl rfl (by omega) (by omega) (by omega) hd
            have X5 := fun (W : World) h h1 h2 => AssignmentCost_is (A := A1) (n := T.length) (c := c1) (B := A4) (m := zs.length) (d := c4) (hpr h).1 (hpr h).2.2 W h1 (by omega) hM h2 rfl (by omega)
            have X6 := fun (W : World) h h1 => Cheapest_is (A := A1) (n := T.length) (c := c1) (hpr h).2.1 hR W h1 (by omega) hM
            clear hq hv hR hpr hM hT
            go_upto_region 32 with (first | (go_at_call 37; refine (X1 _ hr hz hx hy).mono ?_; rintro e w' ⟨rfl, hbl⟩; have hr := hr.below hbl; have hz := hz.below hbl; have hx := hx.below hbl; have hy := hy.below hbl; have bW := bstep bW hbl))
            go_upto_region 33 with (first | (go_at_call 38; refine (X2 _ hr hz hx hy).mono ?_; rintro e w' ⟨rfl, hbl⟩; have hr := hr.below hbl; have hz := hz.below hbl; have hx := hx.below hbl; have hy := hy.below hbl; have bW := bstep bW hbl))
            clear X1 X2 hx hy
            rcases v with _ | _
            · go_wp2
              go_returns
              exact ⟨rfl, bW⟩
            · go_wp2_with (first | (go_at_call 27; refine (X5 _ (by trivial) hr hz).mono ?_; rintro e w' ⟨rfl, hbl⟩; have hr := hr.below hbl; have bW := bstep bW hbl) | (go_at_call 9; refine (X6 _ (by trivial) hr).mono ?_; rintro e w' ⟨u5, rfl, _, hbl⟩; have bW := bstep bW hbl))
              go_returns
              exact ⟨by simp, bW⟩
end Go.Proofs.Ytallgjobljkgnaa
