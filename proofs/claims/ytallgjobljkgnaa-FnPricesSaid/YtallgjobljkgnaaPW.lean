/-
  FnPrices, walked. Conditions: none beyond the layout of its argument.
-/
import Derived.Test.YtallgjobljkgnaaPQ
namespace Go.Proofs.Ytallgjobljkgnaa
open Go.RowKit
set_option maxRecDepth 100000
set_option maxHeartbeats 8000000

theorem vBig_is {A : Option Addr} {n c : Nat} (v : Bool) (h : decide ((65536 : Int) < (n : Int)) = v) (w : World) : Calls Try.prog 15 #[.slice A n c] w fun e w' => e = .returned (.bool v) ∧ w = w' := by
  go_enter Try.func15, Try.ntmps15
  go_wp2
  go_returns
  exact ⟨by simp, rfl⟩
theorem vInts_same {A B : Option Addr} {n m c d : Nat} {xs : List Int} (w : World) (hx : Rd w 1 A n (ints xs)) (hy : Rd w 1 B m (ints xs)) (hn : n ≤ 9223372036854775807) :
    Calls Try.prog 19 #[.slice A n c, .slice B m d] w fun e w' => e = .returned (.bool true) ∧ Below w.heap.size w w' := by
  have h := vInts_any A B n m c d xs xs w hx hy hn
  rw [decide_eq_true rfl] at h
  exact h
theorem tab_lens {T : List (List Int)} (h : tabI T) : ∀ i, i < T.length → (row T i).length ≤ 1048576 := fun i hi => by have := (h.2 _ (row_mem hi)).1; omega
theorem rd_off {w : World} {n b off : Nat} {us : List Value} (h : Rd w 1 (some ⟨b, off, none⟩) n us) (hn : 0 < n) : ∀ j u, us[j]? = some u → w.cell? ⟨b, off + j, none⟩ = some u := by
  obtain ⟨b', off', e, _, hc⟩ := h.2 hn
  cases e
  exact hc
theorem fnPrices_walk (A : Option Addr) (n c : Nat) (bs : List Int) (w : World) (hr : Rd w 1 A n (bs.flatMap (fun n => [Value.int .u8 n]))) (hl : bs.length = n) (hn : n ≤ 9223372036854775807) (ok : ∀ z ∈ bs, 0 ≤ z ∧ z ≤ 255) :
    Calls Try.prog 4 #[.slice A n c] w fun e w' => e = .returned (.bool true) ∧ Below w.heap.size w w' := by
  by_cases hbig : 65536 < n
  · have d1 : decide ((65536 : Int) < (n : Int)) = true := decide_eq_true (by omega)
    go_enter Try.func4, Try.ntmps4
    go_wp2_with (go_at_call 15; refine (vBig_is _ d1 _).mono ?_; rintro e w' ⟨rfl, rfl⟩)
    go_returns
    exact ⟨rfl, Below.refl _ _⟩
  · have hc := code_of hr hl (by omega) ok
    have d1 : decide ((65536 : Int) < (n : Int)) = false := decide_eq_false (by omega)
    clear hr hl ok
    have bW : Below w.heap.size w w := Below.refl _ _
    go_enter Try.func4, Try.ntmps4
    go_upto_region 4 with (first | (go_at_call 15; refine (vBig_is _ d1 _).mono ?_; rintro e w' ⟨rfl, rfl⟩) | (go_at_call 16; refine (DrawRaisePrices_any A n c _ _ (hc.below bW)).mono ?_; rintro e w' ⟨v1, v2, T, ts, rfl, ⟨⟨⟨A1, c1, rfl, hr⟩, hT⟩, ⟨A2, c2, rfl, hx, hd⟩, h6, hz⟩, hbl⟩; have bW := bstep bW hbl))
    have hT5 := hT.1
    have hM := tab_lens hT
    obtain ⟨q, hq⟩ : ∃ q, rpB T ts = q := ⟨_, rfl⟩
    obtain ⟨L, hL⟩ : ∃ L, rpO T ts = L := ⟨_, rfl⟩
    have hL5 : L.length ≤ 5 := by rw [← hL]; exact rpO_len
    have hlaw : q = true → _ := fun h => raise_law (hq.trans h) hL
    have X1 := fun (W : World) h1 h2 => Raise_is (A := A1) (n := T.length) (c := c1) (C := A2) (m := ts.length) (d := c2) hq hL W h1 (by omega) hM h2 rfl (by omega)
    replace X1 := Lib.hid X1
    have X2 := fun (W : World) h1 h2 => sRaise_is (A := A1) (n := T.length) (c := c1) (C := A2) (m := ts.length) (d := c2) hq hL W h1 (by omega) h2 rfl (by omega)
    replace X2 := Lib.hid X2
    have X3 := fun (W : World) (B : Option Addr) (d : Nat) h h1 h2 h3 => AreFair_is (A := A1) (n := T.length) (c := c1) (B := B) (m1 := L.length) (c' := d) (C := A2) (m2 := ts.length) (c'' := c2) (fair_ask (hlaw h).1).2.2 (hlaw h).1 W h1 (by omega) hM h2 h3 rfl rfl (by omega) (by omega)
    replace X3 := Lib.hid X3
    have X4 := fun (W : World) (B : Option Addr) (d k : Nat) (qa : Bool) (x : Int) (hqa : askB T (L.set k x) ts = qa) (hf : fairV T (L.set k x) ts = false) h1 h2 h3 => AreFair_is (A := A1) (n := T.length) (c := c1) (B := B) (m1 := L.length) (c' := d) (C := A2) (m2 := ts.length) (c'' := c2) hqa hf W h1 (by omega) hM h2 h3 (by simp) rfl (by omega) (by omega)
    replace X4 := Lib.hid X4
    have HLAW := Lib.hid hlaw
    clear hq hL hM hT hz hlaw
    go_upto_region 5 with (first | (go_at_call 17; refine (X1.out _ hr hx).mono ?_; rintro e w' ⟨u1, rfl, hO1, hbl⟩; have hr := hr.below hbl; have hx := hx.below hbl; have bW := bstep bW hbl; obtain ⟨A3, c3, rfl, hy, _⟩ := own_rd hO1))
    go_upto_region 6 with (first | (go_at_call 18; refine (X2.out _ hr hx).mono ?_; rintro e w' ⟨u2, rfl, hO2, hbl⟩; have hr := hr.below hbl; have hx := hx.below hbl; have bW := bstep bW hbl; obtain ⟨A4, c4, rfl, hy2, _⟩ := own_rd hO2; have hy := hy.below hbl))
    clear X1 X2 hO1 hO2
    have bX := Below.refl w'.heap.size w'
    go_cut [60, 61, 62, 63, 64, 65, 66, 67, 68] (fun s60 s61 s62 s63 s64 s65 s66 s67 s68 wx => s68 = .bool false ∧ Below w'.heap.size w' wx)
    case first => as_aux_lemma =>
      rcases q with _ | _
      all_goals
        go_wp2_with (first | (go_at_call 19; refine (vInts_same _ hy hy2 (by omega)).mono ?_; rintro e w' ⟨rfl, hbl⟩; have bX := bstep bX hbl))
        go_meet
        exact ⟨rfl, bX⟩
    case rest => as_aux_lemma =>
      obtain ⟨rfl, bx⟩ := hcut
      have bW := bstep bW bx
      have hr := hr.below bx
      have hx := hx.below bx
      have hy := hy.below bx
      clear hy2 hbl
      go_upto_if 69 with fail
      have bX := Below.refl wc.heap.size wc
      go_cut [9, 10, 11, 12, 13, 14, 70, 71, 72, 73, 74, 75, 76, 77, 78, 79, 80, 81, 82, 83, 84, 85, 86, 87, 88, 89, 90, 91, 92, 93, 94, 95, 96, 97, 98, 99, 100, 101, 102, 103, 104, 105, 106, 107, 108, 109, 110] (fun s9 s10 s11 s12 s13 s14 s70 s71 s72 s73 s74 s75 s76 s77 s78 s79 s80 s81 s82 s83 s84 s85 s86 s87 s88 s89 s90 s91 s92 s93 s94 s95 s96 s97 s98 s99 s100 s101 s102 s103 s104 s105 s106 s107 s108 s109 s110 wx => Below wc.heap.size wc wx)
      case first => as_aux_lemma =>
        rcases q with _ | _
        · go_wp2
          go_meet
          exact bX
        · obtain ⟨_, hlen, hbd, hset⟩ := HLAW.out (by trivial)
          have HLEN := Lib.hid hlen
          have HBD := Lib.hid hbd
          have HSET := Lib.hid hset
          clear hlen hbd hset
          go_upto_region 12 with (first | (go_at_call 20; refine (X3.out _ _ _ (by trivial) hr hy hx).mono ?_; rintro e w' ⟨rfl, hbl⟩; have hr := hr.below hbl; have hx := hx.below hbl; have hy := hy.below hbl; have bX := bstep bX hbl))
          obtain ⟨i0, hi0, hz0, hz1, hz2⟩ := infoI
          go_wp2_with fail
          go_loopw [11] (fun i11 wr => ∃ k : Nat, k ≤ L.length ∧ i11 = .int .i64 k ∧ Below w'.heap.size w' wr) (fun i11 _ => L.length - (intOf i11).toNat)
          case atStart => exact ⟨0, Nat.zero_le _, rfl, Below.refl _ _⟩
          case round =>
            obtain ⟨k, hk, rfl, bR⟩ := hrel
            by_cases hlt : k < L.length
            · have i1 : decide ((k : Int) < (L.length : Int)) = true := decide_eq_true (by omega)
              have i2 : decide (k < L.length) = true := decide_eq_true hlt
              have i3 : (k : Int) < (L.length : Int) := by omega
              obtain ⟨b, off, rfl⟩ := rd_some hy (by omega)
              have hyr := hy.below bR
              obtain ⟨x, hxk⟩ : ∃ x, L.getD k 0 = x := ⟨_, rfl⟩
              have hxb : -100 ≤ x ∧ x ≤ 100 := by rw [← hxk]; exact HBD.out _ (getD_mem hlt)
              have hset := HSET.out k hlt
              rw [hxk] at hset
              have HS := Lib.hid hset
              have HXK := Lib.hid hxk
              clear hset hxk
              have hw1 : IntKind.i64.wrap (x + 1) = x + 1 := IntWalk.i64_in _ (by omega)
              go_upto_region 15 with fail
              go_wp2_with (at_builtin; refine wpList_append_own_at _ rfl (.tmp 89) (.tmp 90) 24 rfl wr.heap.size 3 i0 _ 1 8 Try.underlying24 hi0 hz0 hz1 hz2 rfl (by decide) _ _ _ rfl (own_lit' rfl (Nat.le_refl _)) ⟨b, off, none⟩ L.length c3 (ints L) (by rfl) ?c1 ?c2 ?c3 ?c4 ?c5 ?c6 ?_)
              case c1 => exact by simpa using hyr.1
              case c2 => exact (by first | exact (hyr.below (balloc (Below.refl _ _) _)).news | exact rd_off (hyr.below (balloc (Below.refl _ _) _)) (by omega))
              case c3 => exact ints_one L
              case c4 => (unfold maxLen; omega)
              case c5 => omega
              (try case c6 => (simp <;> omega))
              intro v' wa hown' hgrow _ hat
              clear hat
              obtain ⟨bm, cm, rfl, hbm⟩ := own_some1' hown' (by omega)
              have bA : Below wr.heap.size wr wa := own_grownBy (own_lit' (t := 3) (k := 1) rfl (Nat.le_refl _)) (balloc (Below.refl _ _) _) hgrow (Nat.le_refl _) (by simp <;> omega)
              obtain ⟨cl, hbl2⟩ := own_ci hown' hlt rfl HXK.out
              have fr := own_frozen1 hown' (j := k)
              have HO := Lib.hid hown'
              have HX4 := X4
              clear hown' hgrow
              go_upto_region 17 with fail
              have bB := bstep bR (bset bA (p := ⟨bm, k, none⟩) hbm (.int .i64 (x + 1)))
              have hO2 := own_r (own_seti (j := k) (x := x + 1) HO.out)
              obtain ⟨qa, hqa⟩ : ∃ q, askB T (L.set k (x + 1)) ts = q := ⟨_, rfl⟩
              have HQA := Lib.hid hqa
              clear hqa cl fr
              go_upto_region 18 with (first | (go_at_call 20; refine (X4.out _ _ _ _ _ _ HQA.out HS.out (hr.below bB) hO2 (hx.below bB)).mono ?_; rintro e w' ⟨rfl, hbl⟩; have bC := bstep bB hbl))
              rcases qa with _ | _
              all_goals
                go_wp2
                go_roundw
                case rel => exact ⟨k + 1, by omega, by go_num, bC⟩
                case measure => simp [intOf]; omega
            · have hkn : k = L.length := by omega
              subst hkn
              have i1 : decide ((L.length : Int) < (L.length : Int)) = false := decide_eq_false (by omega)
              go_wp2
              go_meet
              exact bstep bX bR
      case rest => as_aux_lemma =>
        have bW := bstep bW hcut
        clear X3 X4 HLAW hr hx hy hT5 hL5 h6 hd bx bX hcut
        go_upto_region 21 with (first | (go_at_call 21; refine (DrawSwapSaving_any A n c _ _ (hc.below bW)).mono ?_; rintro e w' ⟨v1, v2, T, zs, a, b, rfl, ⟨⟨⟨A1, c1, rfl, hr⟩, hT⟩, ⟨⟨A2, c2, rfl, hx, hd⟩, h6, hz⟩, ha, hb⟩, hbl⟩; have bW := bstep bW hbl))
        have hT5 := hT.1
        have hM := tab_lens hT
        obtain ⟨q, hq⟩ : ∃ q, ssB T zs a b = q := ⟨_, rfl⟩
        obtain ⟨v, hv⟩ : ∃ v, ssI T zs a b = v := ⟨_, rfl⟩
        obtain ⟨L, hL⟩ : ∃ L, rsL T zs = L := ⟨_, rfl⟩
        obtain ⟨m, hm⟩ : ∃ m, rsM T zs = m := ⟨_, rfl⟩
        have hlaw : q = true → asT T zs = true ∧ (∃ i j : Nat, a = (i : Int) ∧ b = (j : Int) ∧ i < zs.length ∧ j < zs.length ∧ ssB T (swpI zs i j) (i : Int) (j : Int) = true ∧ ssI T (swpI zs i j) (i : Int) (j : Int) = -v) ∧ L.length = zs.length ∧ v ≤ m ∧ -1000 ≤ v ∧ v ≤ 1000 := fun h => swap_law (hq.trans h) hv hL hm
        have X1 := fun (W : World) h1 h2 => SwapSaving_is (A := A1) (n := T.length) (c := c1) (B := A2) (m := zs.length) (d := c2) hq hv W h1 (by omega) hM h2 rfl (by omega)
        replace X1 := Lib.hid X1
        have X2 := fun (W : World) h1 h2 => sSwapSaving_is (A := A1) (n := T.length) (c := c1) (B := A2) (m := zs.length) (d := c2) hq hv W h1 (by omega) hd h2 rfl (by omega)
        replace X2 := Lib.hid X2
        have X3 := fun (W : World) (B : Option Addr) (d i j : Nat) (h : ssB T (swpI zs i j) (i : Int) (j : Int) = true) (hv' : ssI T (swpI zs i j) (i : Int) (j : Int) = -v) h1 h2 => SwapSaving_is (A := A1) (n := T.length) (c := c1) (B := B) (m := zs.length) (d := d) h hv' W h1 (by omega) hM h2 (swpI_len zs i j) (by omega)
        replace X3 := Lib.hid X3
        have X4 := fun (W : World) (h : asT T zs = true) h1 h2 => Rotate_is (A := A1) (n := T.length) (c := c1) (C := A2) (m := zs.length) (d := c2) h hL hm W h1 (by omega) hM h2 rfl (by omega)
        replace X4 := Lib.hid X4
        have HLAW := Lib.hid hlaw
        clear hq hv hL hm hM hT hz hlaw ha hb
        go_upto_region 22 with (first | (go_at_call 22; refine (X1.out _ hr hx).mono ?_; rintro e w' ⟨rfl, hbl⟩; have hr := hr.below hbl; have hx := hx.below hbl; have bW := bstep bW hbl))
        go_upto_region 23 with (first | (go_at_call 23; refine (X2.out _ hr hx).mono ?_; rintro e w' ⟨rfl, hbl⟩; have hr := hr.below hbl; have hx := hx.below hbl; have bW := bstep bW hbl))
        clear X1 X2
        have bX := Below.refl w'.heap.size w'
        go_cut [134, 135, 136, 137, 138, 139, 140, 141] (fun s134 s135 s136 s137 s138 s139 s140 s141 wx => s141 = .bool false ∧ Below w'.heap.size w' wx)
        case first => as_aux_lemma =>
          rcases q with _ | _
          all_goals
            go_wp2
            go_meet
            exact ⟨rfl, bX⟩
        case rest => as_aux_lemma =>
          obtain ⟨rfl, bx⟩ := hcut
          have bW := bstep bW bx
          have hr := hr.below bx
          have hx := hx.below bx
          clear hbl
          go_upto_if 142 with fail
          have bX := Below.refl wc.heap.size wc
          go_cut [23, 24, 25, 26, 27, 28, 143, 144, 145, 146, 147, 148, 149, 150, 151, 152, 153, 154, 155, 156, 157, 158, 159, 160, 161, 162, 163, 164, 165, 166, 167, 168, 169, 170, 171, 172, 173, 174, 175, 176, 177, 178, 179, 180, 181, 182, 183, 184, 185, 186, 187, 188, 189, 190, 191, 192, 193, 194, 195, 196, 197, 198] (fun s23 s24 s25 s26 s27 s28 s143 s144 s145 s146 s147 s148 s149 s150 s151 s152 s153 s154 s155 s156 s157 s158 s159 s160 s161 s162 s163 s164 s165 s166 s167 s168 s169 s170 s171 s172 s173 s174 s175 s176 s177 s178 s179 s180 s181 s182 s183 s184 s185 s186 s187 s188 s189 s190 s191 s192 s193 s194 s195 s196 s197 s198 wx => Below wc.heap.size wc wx)
          case first => as_aux_lemma =>
            rcases q with _ | _
            · go_wp2
              go_meet
              exact bX
            · obtain ⟨hqr, ⟨i, j, rfl, rfl, hi, hj, hs1, hs2⟩, hLl, hvm, hv1, hv2⟩ := HLAW.out (by trivial)
              obtain ⟨b, off, rfl⟩ := rd_some hx (by omega)
              obtain ⟨y, hy⟩ : ∃ y, zs.getD i 0 = y := ⟨_, rfl⟩
              obtain ⟨z, hz⟩ : ∃ z, zs.getD j 0 = z := ⟨_, rfl⟩
              obtain ⟨i0, hi0, hz0, hz1, hz2⟩ := infoI
              have hsw : (zs.set i z).set j y = swpI zs i j := by rw [← hy, ← hz]; rfl
              have HSW := Lib.hid hsw
              have HY := Lib.hid hy
              have HZ := Lib.hid hz
              have HS1 := Lib.hid hs1
              have HS2 := Lib.hid hs2
              have HLL := Lib.hid hLl
              have HQR := Lib.hid hqr
              have HI := Lib.hid hi
              have HJ := Lib.hid hj
              clear hsw hy hz hs1 hs2 hLl hqr
              have ii : (i : Int) < (zs.length : Int) := by omega
              have jj : (j : Int) < (zs.length : Int) := by omega
              have i4 : (0 : Int) ≤ (i : Int) := by omega
              have j4 : (0 : Int) ≤ (j : Int) := by omega
              go_upto_region 26 with fail
              go_wp2_with (at_builtin; refine wpList_append_own_at _ rfl (.tmp 143) (.tmp 144) 24 rfl wc.heap.size 3 i0 _ 1 8 Try.underlying24 hi0 hz0 hz1 hz2 rfl (by decide) _ _ _ rfl (own_lit' rfl (Nat.le_refl _)) ⟨b, off, none⟩ zs.length c2 (ints zs) (by rfl) ?c1 ?c2 ?c3 ?c4 ?c5 ?c6 ?_)
              case c1 => exact by simpa using hx.1
              case c2 => exact (by first | exact (hx.below (balloc (Below.refl _ _) _)).news | exact rd_off (hx.below (balloc (Below.refl _ _) _)) (by omega))
              case c3 => exact ints_one zs
              case c4 => (unfold maxLen; omega)
              case c5 => omega
              (try case c6 => (simp <;> omega))
              intro v' wa hown' hgrow _ hat
              clear hat
              obtain ⟨bm, cm, rfl, hbm⟩ := own_some1' hown' (by omega)
              have bA : Below wc.heap.size wc wa := own_grownBy (own_lit' (t := 3) (k := 1) rfl (Nat.le_refl _)) (balloc (Below.refl _ _) _) hgrow (Nat.le_refl _) (by simp <;> omega)
              have fr := own_frozen1 hown' (j := i)
              have hl1 := (hown'.lt bm rfl).2
              have hxA := hx.below bA
              obtain ⟨cj, hb0⟩ := rd_ci hxA HJ.out rfl HZ.out
              obtain ⟨ct, _⟩ := own_ci hown' HI.out rfl HY.out
              have HO := Lib.hid hown'
              clear hown' hgrow
              go_upto_region 28 with fail
              have bB := bset bA (p := ⟨bm, i, none⟩) hbm (.int .i64 z)
              have hO2 := own_seti (j := i) (x := z) HO.out
              have fr2 := own_frozen1 hO2 (j := j)
              obtain ⟨ci, hb1⟩ := rd_ci (hx.below bB) HI.out rfl HY.out
              have hl2 := (hO2.lt bm rfl).2
              obtain ⟨y2, hy2⟩ : ∃ y2, (zs.set i z).getD j 0 = y2 := ⟨_, rfl⟩
              obtain ⟨ct2, _⟩ := own_ci hO2 HJ.out (by simp) hy2
              have HO2 := Lib.hid hO2
              clear hO2 cj fr hxA ct hy2
              go_upto_region 29 with fail
              have bC := bset bB (p := ⟨bm, j, none⟩) hbm (.int .i64 y)
              have hO3 := own_r (own_seti (j := j) (x := y) HO2.out)
              rw [HSW.out] at hO3
              clear ci fr2 ct2
              go_upto_region 30 with (first | (go_at_call 22; refine (X3.out _ _ _ _ _ HS1.out HS2.out (hr.below bC) hO3).mono ?_; rintro e w' ⟨rfl, hbl⟩; have bD := bstep bC hbl))
              go_upto_region 31 with (first | (go_at_call 24; refine (X4.out _ HQR.out (hr.below bD) (hx.below bD)).mono ?_; rintro e w' ⟨u, rfl, hO5, hbl⟩; have bD := bstep bD hbl; obtain ⟨A5, c5, rfl, -⟩ := own_rd (own_len (n' := zs.length) hO5 HLL.out)))
              have hwn : IntKind.i64.wrap (-v) = -v := IntWalk.i64_in _ (by omega)
              have d5 : decide (m < v) = false := decide_eq_false (by omega)
              clear hO5 hO3
              go_wp2
              go_meet
              exact bstep bX bD
          case rest => as_aux_lemma =>
            have bW := bstep bW hcut
            clear X3 X4 HLAW hr hx hT5 h6 hd bx bX hcut
            go_upto_region 34 with (first | (go_at_call 25; refine (DrawRotateSaving_any A n c _ _ (hc.below bW)).mono ?_; rintro e w' ⟨v1, v2, T, zs, rfl, ⟨⟨⟨A1, c1, rfl, hr⟩, hT⟩, ⟨A2, c2, rfl, hx, hd⟩, h6, hz⟩, hbl⟩; have bW := bstep bW hbl))
            have hT5 := hT.1
            have hM := tab_lens hT
            obtain ⟨q, hq⟩ : ∃ q, asT T zs = q := ⟨_, rfl⟩
            obtain ⟨L, hL⟩ : ∃ L, rsL T zs = L := ⟨_, rfl⟩
            obtain ⟨v, hv⟩ : ∃ m, rsM T zs = m := ⟨_, rfl⟩
            obtain ⟨p, hp⟩ : ∃ p, acI T zs = p := ⟨_, rfl⟩
            obtain ⟨p', hp'⟩ : ∃ p, acI T L = p := ⟨_, rfl⟩
            have hL5 : L.length ≤ 5 := by rw [← hL]; exact rsL_len
            have hlaw : q = true → asT T L = true ∧ v = p - p' ∧ 0 ≤ p - p' ∧ p - p' ≤ 1000 := fun h => rotate_parts (hq.trans h) hL hv hp hp'
            have X1 := fun (W : World) h1 h2 => Rotate_is (A := A1) (n := T.length) (c := c1) (C := A2) (m := zs.length) (d := c2) hq hL hv W h1 (by omega) hM h2 rfl (by omega)
            replace X1 := Lib.hid X1
            have X2 := fun (W : World) h1 h2 => sRotate_is (A := A1) (n := T.length) (c := c1) (C := A2) (m := zs.length) (d := c2) hq hL hv W h1 (by omega) hd h2 rfl (by omega)
            replace X2 := Lib.hid X2
            have X3 := fun (W : World) h1 h2 => AssignmentCost_is (A := A1) (n := T.length) (c := c1) (B := A2) (m := zs.length) (d := c2) hq hp W h1 (by omega) hM h2 rfl (by omega)
            replace X3 := Lib.hid X3
            have X4 := fun (W : World) (B : Option Addr) (d : Nat) h h1 h2 => AssignmentCost_is (A := A1) (n := T.length) (c := c1) (B := B) (m := L.length) (d := d) (hlaw h).1 hp' W h1 (by omega) hM h2 rfl (by omega)
            replace X4 := Lib.hid X4
            replace hlaw : q = true → v = p - p' ∧ 0 ≤ p - p' ∧ p - p' ≤ 1000 := fun h => (hlaw h).2
            have HLAW := Lib.hid hlaw
            clear hq hL hv hp hp' hM hT hz hlaw
            go_upto_region 35 with (first | (go_at_call 24; refine (X1.out _ hr hx).mono ?_; rintro e w' ⟨u1, rfl, hO1, hbl⟩; have hr := hr.below hbl; have hx := hx.below hbl; have bW := bstep bW hbl; obtain ⟨A3, c3, rfl, hy, _⟩ := own_rd hO1))
            go_upto_region 36 with (first | (go_at_call 26; refine (X2.out _ hr hx).mono ?_; rintro e w' ⟨u2, rfl, hO2, hbl⟩; have hr := hr.below hbl; have hx := hx.below hbl; have bW := bstep bW hbl; obtain ⟨A4, c4, rfl, hy2, _⟩ := own_rd hO2; have hy := hy.below hbl))
            clear X1 X2 hO1 hO2
            have bX := Below.refl w'.heap.size w'
            go_cut [218, 219, 220, 221, 222, 223, 224, 225, 226, 227, 228, 229, 230, 231] (fun s218 s219 s220 s221 s222 s223 s224 s225 s226 s227 s228 s229 s230 s231 wx => s231 = .bool false ∧ Below w'.heap.size w' wx)
            case first => as_aux_lemma =>
              rcases q with _ | _
              all_goals
                go_wp2_with (first | (go_at_call 19; refine (vInts_same _ hy hy2 (by omega)).mono ?_; rintro e w' ⟨rfl, hbl⟩; have bX := bstep bX hbl))
                go_meet
                exact ⟨rfl, bX⟩
            case rest => as_aux_lemma =>
              obtain ⟨rfl, bx⟩ := hcut
              have bW := bstep bW bx
              have hr := hr.below bx
              have hx := hx.below bx
              have hy := hy.below bx
              clear hy2 hbl
              rcases q with _ | _
              · go_wp2
                go_returns
                exact ⟨rfl, bW⟩
              · obtain ⟨rfl, h0, h1⟩ := HLAW.out (by trivial)
                have hw : IntKind.i64.wrap (p - p') = p - p' := IntWalk.i64_in _ (by omega)
                go_wp2_with (first | (go_at_call 27; refine (X3.out _ hr hx).mono ?_; rintro e w' ⟨rfl, hbl⟩; have hr := hr.below hbl; have hy := hy.below hbl; have bW := bstep bW hbl) | (go_at_call 27; refine (X4.out _ _ _ (by trivial) hr hy).mono ?_; rintro e w' ⟨rfl, hbl⟩; have bW := bstep bW hbl))
                go_returns
                exact ⟨by (simp; omega), bW⟩
end Go.Proofs.Ytallgjobljkgnaa
