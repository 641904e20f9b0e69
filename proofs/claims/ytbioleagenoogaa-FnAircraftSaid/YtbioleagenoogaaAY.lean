/-
  FnAircraft, walked. Conditions: none beyond the layout of its argument.
-/
import Derived.Test.YtbioleagenoogaaAD
import Derived.Test.YtbioleagenoogaaAQ
import Derived.Test.YtbioleagenoogaaWL
import Derived.Test.YtbioleagenoogaaMS
import Derived.Test.YtbioleagenoogaaRB
import Derived.Test.YtbioleagenoogaaI
import Derived.Test.YtbioleagenoogaaC
namespace Go.Proofs.Ytbioleagenoogaa
open Go Go.RowKit
set_option maxRecDepth 100000
set_option maxHeartbeats 8000000

theorem rBig_is' {A : Option Addr} {n c : Nat} (v : Bool) (h : decide ((65536 : Int) < (n : Int)) = v) (w : World) : Calls Try.prog 16 #[.slice A n c] w fun e w' => e = .returned (.bool v) ∧ w = w' := by
  go_enter Try.func16, Try.ntmps16
  go_wp2
  go_returns
  exact ⟨by simp, rfl⟩
theorem rInts_same' {A B : Option Addr} {n m c d : Nat} {xs : List Int} (w : World) (hx : Rd w 1 A n (ints xs)) (hy : Rd w 1 B m (ints xs)) (hn : n ≤ 9223372036854775807) :
    Calls Try.prog 25 #[.slice A n c, .slice B m d] w fun e w' => e = .returned (.bool true) ∧ Below w.heap.size w w' := by
  have h := rInts_any A B n m c d xs xs w hx hy hn
  rw [decide_eq_true rfl] at h
  exact h
theorem rHas_is {v : Bool} {A : Option Addr} {n c : Nat} {xs : List Int} {y : Int} (hv : xs.contains y = v) (w : World) (hx : Rd w 1 A n (ints xs)) (hl : xs.length = n) (hn : n ≤ 1048576) :
    Calls Try.prog 37 #[.slice A n c, .int .i64 y] w fun e w' => e = .returned (.bool v) ∧ Below w.heap.size w w' := by
  have HV := Lib.hid hv
  clear hv
  go_enter Try.func37, Try.ntmps37
  go_wp2
  go_loopw [5] (fun i wr => ∃ k : Nat, k ≤ n ∧ i = .int .i64 k ∧ Hid ((xs.drop k).contains y = v) ∧ Below w.heap.size w wr) (fun i _ => n - (intOf i).toNat)
  case atStart => exact ⟨0, Nat.zero_le _, rfl, Lib.hid (by simpa using HV.out), Below.refl _ _⟩
  case round =>
    obtain ⟨k, hk, rfl, hE, hW⟩ := hrel
    by_cases hlt : k < n
    · obtain ⟨b1, o1, x, rfl, hb1, hxk, g1⟩ := ints_at hx hW hl hlt
      have i1 : (0 : Int) ≤ (k : Int) := by omega
      have i2 : (k : Int) < (n : Int) := by omega
      have hst := hE.out
      rw [List.drop_eq_getElem_cons (by omega), hxk, List.contains_cons] at hst
      have HS := Lib.hid hst
      clear hst hxk
      by_cases hq : x = y
      · have hv : true = v := by
          have := HS.out
          rw [hq] at this
          simpa using this
        have hq1 : (x == y) = true := by simp [hq]
        subst hv
        clear hq
        go_wp2
        go_returns
        exact ⟨rfl, hW⟩
      · have HS2 : Hid ((xs.drop (k + 1)).contains y = v) := Lib.hid (by
          have := HS.out
          rw [show (y == x) = false by simp; exact fun e => hq e.symm] at this
          simpa using this)
        have hq1 : (x == y) = false := by simp [hq]
        clear hq
        go_wp2
        go_roundw
        case rel => exact ⟨k + 1, by omega, by go_num, HS2, hW⟩
        case measure => simp [intOf]; omega
    · have h : false = v := by
        have h := hE.out
        rw [List.drop_of_length_le (by omega)] at h
        exact h
      subst h
      have e : k = n := by omega
      subst e
      go_wp2
      go_returns
      exact ⟨rfl, hW⟩
theorem acr_num {zs : List AircraftT} {p : Nat} {x0 x1 x2 x3 x4 wa le ba : Int} (h : listedB zs 6 = true) (ht : tgB wa le ba = true) (hp : p < zs.length) (hz : zs[p] = (x0, x1, x2, x3, x4)) :
    ∃ N : Nat, ∃ P : Int, (∀ W : World, Calls Try.prog 18 #[.agg #[.int .i64 x0, .int .i64 x1, .int .i64 x2, .int .i64 x3, .int .i64 x4], .agg #[.int .i64 wa, .int .i64 le, .int .i64 ba]] W fun e w' => e = .returned (.tuple #[.int .i64 (N : Int), .bool true]) ∧ Below W.heap.size W w') ∧ N ≤ 600 ∧ (N : Int) * x1 = P ∧ (0 ≤ P ∧ P ≤ 12000000) ∧ lt3 zs wa le ba p = P ∧ zs.getD p ac0 = (x0, x1, x2, x3, x4) := by
  have hac := listed_ok h hp hz
  obtain ⟨g1, g2, g3, g4, g5⟩ := acB_bd hac
  obtain ⟨g6, g7, g8⟩ := tgB_bd ht
  have hmd := mdN_is g3 g4 g5 g6 g7 g8
  obtain ⟨N, hN⟩ : ∃ N, mdN x2 x3 x4 wa le ba = N := ⟨_, rfl⟩
  rw [hN] at hmd
  have hN6 : N ≤ 600 := hmd.1
  obtain ⟨P, hP⟩ : ∃ P, x1 * (N : Int) = P := ⟨_, rfl⟩
  have hPb : 0 ≤ P ∧ P ≤ 12000000 := by
    rw [← hP]
    refine ⟨Int.mul_nonneg (by omega) (by omega), ?_⟩
    have h1 : x1 * (N : Int) ≤ 20000 * (N : Int) := Int.mul_le_mul_of_nonneg_right (by omega) (by omega)
    omega
  have hgd : zs.getD p ac0 = (x0, x1, x2, x3, x4) := getD_of hp hz
  refine ⟨N, P, fun W => MostDrops_is (fun _ _ => hmd) (by rw [hac, ht]; rfl) (by unfold mdI; rw [hac, ht]; rfl) W, hN6, by rw [Int.mul_comm]; exact hP, hPb, ?_, hgd⟩
  unfold lt3
  rw [hgd, ← hP, ← hN]; rfl
theorem fnAircraft_walk (A : Option Addr) (n c : Nat) (bs : List Int) (w : World) (hr : Rd w 1 A n (bs.flatMap (fun n => [Value.int .u8 n]))) (hl : bs.length = n) (hn : n ≤ 9223372036854775807) (ok : ∀ z ∈ bs, 0 ≤ z ∧ z ≤ 255) :
    Calls Try.prog 5 #[.slice A n c] w fun e w' => e = .returned (.bool true) ∧ Below w.heap.size w w' := by
  by_cases hbig : 65536 < n
  · have d1 : decide ((65536 : Int) < (n : Int)) = true := decide_eq_true (by omega)
    go_enter Try.func5, Try.ntmps5
    go_wp2_with (go_at_call 16; refine (rBig_is' _ d1 _).mono ?_; rintro e w' ⟨rfl, rfl⟩)
    go_returns
    exact ⟨rfl, Below.refl _ _⟩
  · have hc := code_of hr hl (by omega) ok
    have d1 : decide ((65536 : Int) < (n : Int)) = false := decide_eq_false (by omega)
    clear hr hl ok
    have bW : Below w.heap.size w w := Below.refl _ _
    go_enter Try.func5, Try.ntmps5
    go_upto_region 4 with (first | (go_at_call 16; refine (rBig_is' _ d1 _).mono ?_; rintro e w' ⟨rfl, rfl⟩) | (go_at_call 30; refine (DrawBestAircraft_any A n c _ _ (hc.below bW)).mono ?_; rintro e w' ⟨Ab, m, c1, zs, wa, le, ba, rfl, ⟨⟨hr, hl, hm, -⟩, -⟩, hbl⟩; have bW := bstep bW hbl))
    obtain ⟨d4, e4⟩ : ∃ d, w'.heap.size = d := ⟨_, rfl⟩
    rw [e4]
    refine wp_gen (fun W => Below w.heap.size w W ∧ Rd W 5 Ab m (acrF zs) ∧ Bk W d4 31 [.int .i64 wa, .int .i64 le, .int .i64 ba]) ⟨balloc bW _, hr.below (balloc (Below.refl _ _) _), Bk.new' e4⟩ ?_
    clear bW hr e4 hbl
    intro W0 ⟨bW, hr, kt⟩
    obtain ⟨q, hq⟩ : ∃ q, baQ zs wa le ba = q := ⟨_, rfl⟩
    obtain ⟨I, hI⟩ : ∃ q, baI zs wa le ba = q := ⟨_, rfl⟩
    obtain ⟨M, hM⟩ : ∃ q, baM zs wa le ba = q := ⟨_, rfl⟩
    have hlaw : q = true → listedB zs 6 = true ∧ tgB wa le ba = true ∧ ∀ i, i < zs.length → ltr wa le ba (zs.getD i ac0) ≤ M ∧ ((zs.getD i ac0).1 = I → ltr wa le ba (zs.getD i ac0) = M) := fun h => bs_law (hq.trans h) hI hM
    have X1 := fun (W : World) h1 => Best_is (A := Ab) (n := m) (c := c1) hq hI hM W h1 hl (by omega)
    replace X1 := Lib.hid X1
    have X2 := fun (W : World) h1 => sBest_is (A := Ab) (n := m) (c := c1) hq hI hM W h1 hl (by omega)
    replace X2 := Lib.hid X2
    have HLAW := Lib.hid hlaw
    have HL := Lib.hid hl
    clear hq hI hM hlaw hl
    obtain ⟨y0, y1, y2, yl⟩ := three_cells kt
    go_upto_region 5 with (first | (go_at_call 31; refine (X1.out _ hr).mono ?_; rintro e w' ⟨rfl, hbl⟩; have hr := hr.below hbl; clear y0 y1 y2 yl; have kt := kt.below hbl kt.lt; obtain ⟨y0, y1, y2, yl⟩ := three_cells kt; have bW := bstep bW hbl))
    go_upto_region 6 with (first | (go_at_call 32; refine (X2.out _ hr).mono ?_; rintro e w' ⟨rfl, hbl⟩; have hr := hr.below hbl; clear y0 y1 y2 yl; have kt := kt.below hbl kt.lt; obtain ⟨y0, y1, y2, yl⟩ := three_cells kt; have bW := bstep bW hbl))
    clear X1 X2 y0 y1 y2 yl
    have bX := Below.refl w'.heap.size w'
    go_cut [57, 58, 59, 60, 61, 62, 63, 64, 65, 66, 67, 68, 69] (fun s57 s58 s59 s60 s61 s62 s63 s64 s65 s66 s67 s68 s69 wx => s69 = .bool false ∧ Below w'.heap.size w' wx)
    case first => as_aux_lemma =>
      rcases q with _ | _
      all_goals
        go_wp2
        go_meet
        exact ⟨rfl, bX⟩
    case rest => as_aux_lemma =>
      obtain ⟨rfl, bx⟩ := hcut
      have bW := bstep bW bx
      have hr := hr.below bx
      have kt := kt.below bx kt.lt
      clear hbl
      go_upto_region 9 with fail
      have HR := Lib.hid hr
      have HK := Lib.hid kt
      clear hr kt
      obtain ⟨wo, hwo⟩ : ∃ wo, wo = wc := ⟨_, rfl⟩
      rw [← hwo] at HR HK bW ⊢
      clear hwo bx bX
      go_loopw [11] (fun i11 wr => ∃ k : Nat, k ≤ m ∧ i11 = .int .i64 k ∧ Below wo.heap.size wo wr) (fun i11 _ => m - (intOf i11).toNat)
      case atStart => exact ⟨0, Nat.zero_le _, rfl, Below.refl _ _⟩
      case round =>
        obtain ⟨k, hk, rfl, bR⟩ := hrel
        go_upto_region 9 with fail
        go_cut [70, 71, 72, 73, 74, 75, 76] (fun s70 s71 s72 s73 s74 s75 s76 wx => ∃ B : Bool, s76 = .bool B ∧ (B = true ↔ k < m ∧ q = true) ∧ wx = wr)
        case first => as_aux_lemma =>
          by_cases hlt : k < m
          · have i1 : decide ((k : Int) < (m : Int)) = true := decide_eq_true (by omega)
            have i2 : decide (k < m) = true := decide_eq_true hlt
            have i3 : (k : Int) < (m : Int) := by omega
            rcases q with _ | _
            · go_wp2
              go_meet
              exact ⟨_, rfl, by simp, rfl⟩
            · go_wp2
              go_meet
              exact ⟨_, rfl, by simp [hlt], rfl⟩
          · have i1 : decide ((k : Int) < (m : Int)) = false := decide_eq_false (by omega)
            have i2 : decide (k < m) = false := decide_eq_false hlt
            have i3 : ¬ (k : Int) < (m : Int) := by omega
            go_wp2
            go_meet
            exact ⟨_, rfl, by simp [hlt], rfl⟩
        case rest => as_aux_lemma =>
          obtain ⟨B, rfl, hB, rfl⟩ := hcut
          have HB := Lib.hid hB
          clear hB
          obtain hb | hb : B = true ∨ B = false := by cases B <;> simp
          · as_aux_lemma =>
              subst hb
              obtain ⟨hlt, rfl⟩ := HB.out.1 rfl
              clear HB
              have i3 : (k : Int) < (m : Int) := by omega
              have i4 : (0 : Int) ≤ (k : Int) := by omega
              obtain ⟨hL6, htg, hall⟩ := HLAW.out (by trivial)
              obtain ⟨b, off, rfl, hb0, x0, x1, x2, x3, x4, hz, c0, c1', c2, c3, c4⟩ := acr_at HR.out bR HL.out hlt
              have s1 : b < wc.heap.size := Nat.lt_of_lt_of_le hb0 bR.size
              obtain ⟨N, P, hMD, hN6, hP, ⟨hP0, hP1⟩, hl3, hgd⟩ := acr_num hL6 htg (by have := HL.out; omega) hz
              have hak := hall k (by have := HL.out; omega)
              have hPM : P ≤ M := by rw [← hl3]; exact hak.1
              have hPI : x0 = I → P = M := fun h => by rw [← hl3]; exact hak.2 (by rw [hgd]; exact h)
              have HMD := Lib.hid hMD
              have HPI := Lib.hid hPI
              have hw1 : IntKind.i64.wrap P = P := IntWalk.i64_in _ (by omega)
              have d5 : decide (M < P) = false := decide_eq_false (by omega)
              obtain ⟨y0, y1, y2, yl⟩ := three_cells (HK.out.below bR HK.out.lt)
              clear hMD hPI hak hall hl3 hgd hz
              go_upto_region 11 with fail
              (refine wp_region_bel (by kernel_rfl) (by kernel_rfl) ?_; (repeat (go_big_quiet_step ((first | (go_at_call 18; exact calls_bel (HMD.out _)))))); refine wpQuiet_nil ?_; intro w' hw'; have hb := below_of hw'; clear hw'; (try clear cW fW zW); (first | (have bW := bstep bW hb) | (have bW := bstep (bdrew bW) hb) | (have bW := bstep (balloc bW _) hb) | (have bW := bstep (bdrewN bW _) hb) | (have bW := hb)); clear hb; obtain ⟨cW, fW⟩ := bcell bW; have zW := bsize bW)
              have bR2 := bstep bR bW
              have s2 := zW b s1
              go_upto_region 12 with fail
              by_cases e9 : x0 = I
              · have hPM2 := HPI.out e9
                subst e9
                subst hPM2
                go_wp2
                go_roundw
                case rel => exact ⟨k + 1, by omega, by go_num, bR2⟩
                case measure => simp [intOf]; omega
              · have e10 : (x0 == I) = false := by simp [e9]
                go_wp2
                go_roundw
                case rel => exact ⟨k + 1, by omega, by go_num, bR2⟩
                case measure => simp [intOf]; omega
          as_aux_lemma =>
            subst hb
            have bW := bstep bW bR
            clear HLAW HR HK HL hm HB bR hk
            go_upto_region 15 with (first | (go_at_call 33; refine (DrawLitersIn_any A n c _ _ (hc.below bW)).mono ?_; rintro e w' ⟨i, l, s, f, fi, wa, le, ba, x, y, rfl, -, hbl⟩; have bW := bstep bW hbl))
            obtain ⟨d5, e5⟩ : ∃ d, w'.heap.size = d := ⟨_, rfl⟩
            rw [e5]
            obtain ⟨d6, e6⟩ : ∃ d, d5 + 1 = d := ⟨_, rfl⟩
            rw [e6]
            refine wp_gen (fun W => Below w.heap.size w W ∧ Bk W d5 41 [.int .i64 i, .int .i64 l, .int .i64 s, .int .i64 f, .int .i64 fi] ∧ Bk W d6 31 [.int .i64 wa, .int .i64 le, .int .i64 ba]) ⟨balloc (balloc bW _) _, (Bk.new' e5).alloc _, Bk.new' (by simp [e5]; omega)⟩ ?_
            clear bW e5 e6 hbl
            intro W0 ⟨bW, ka, kt⟩
            obtain ⟨N, hN⟩ := MD_if i l s f fi wa le ba
            obtain ⟨q, hq⟩ : ∃ q, litB i l s f fi wa le ba x y = q := ⟨_, rfl⟩
            obtain ⟨v, hv⟩ : ∃ v, litI i l s f fi wa le ba x y N = v := ⟨_, rfl⟩
            obtain ⟨q', hq'⟩ : ∃ q, litB i l s f fi wa le ba (wrap64 (x + 1)) y = q := ⟨_, rfl⟩
            obtain ⟨v', hv'⟩ : ∃ v, litI i l s f fi wa le ba (wrap64 (x + 1)) y N = v := ⟨_, rfl⟩
            have hlaw : q = true → q' = true → (v ≤ v' ∧ v' - v ≤ l) ∧ -48000000000 ≤ v' - v ∧ v' - v ≤ 48000000000 := fun h h' => by
              have h1 := hq.trans h
              have hx : wrap64 (x + 1) = x + 1 := by
                have h2 := h1
                simp only [litB, Bool.and_eq_true] at h2
                have := inB_iff.1 h2.2.1
                unfold wrap64; omega
              rw [hx] at hq' hv'
              have := lit_law hN h1 (hq'.trans h') hv hv'
              exact ⟨this.1, this.2.2⟩
            have X1 := fun (W : World) => LitersIn_is hN hq hv W
            replace X1 := Lib.hid X1
            have X2 := fun (W : World) => sLitersIn_is hN hq hv W
            replace X2 := Lib.hid X2
            have X3 := fun (z : Int) (hz : z = wrap64 (x + 1)) (W : World) => (by subst hz; exact LitersIn_is hN hq' hv' W : Calls Try.prog 34 #[.agg #[.int .i64 i, .int .i64 l, .int .i64 s, .int .i64 f, .int .i64 fi], .agg #[.int .i64 wa, .int .i64 le, .int .i64 ba], .int .i64 z, .int .i64 y] W fun e w' => e = .returned (.tuple #[.int .i64 v', .bool q']) ∧ Below W.heap.size W w')
            replace X3 := Lib.hid X3
            have HLAW := Lib.hid hlaw
            clear hN hq hv hq' hv' hlaw
            obtain ⟨y0, y1, y2, yl⟩ := three_cells kt
            obtain ⟨x0, x1, x2, x3, x4, xl⟩ := five_cells ka
            go_upto_region 16 with (first | (go_at_call 34; refine (X1.out _).mono ?_; rintro e w' ⟨rfl, hbl⟩; clear y0 y1 y2 yl x0 x1 x2 x3 x4 xl; have kt := kt.below hbl kt.lt; have ka := ka.below hbl ka.lt; obtain ⟨y0, y1, y2, yl⟩ := three_cells kt; obtain ⟨x0, x1, x2, x3, x4, xl⟩ := five_cells ka; have bW := bstep bW hbl))
            go_upto_region 17 with (first | (go_at_call 35; refine (X2.out _).mono ?_; rintro e w' ⟨rfl, hbl⟩; clear y0 y1 y2 yl x0 x1 x2 x3 x4 xl; have kt := kt.below hbl kt.lt; have ka := ka.below hbl ka.lt; obtain ⟨y0, y1, y2, yl⟩ := three_cells kt; obtain ⟨x0, x1, x2, x3, x4, xl⟩ := five_cells ka; have bW := bstep bW hbl))
            clear X1 X2
            have bX := Below.refl w'.heap.size w'
            go_cut [144, 145, 146, 147, 148, 149, 150, 151] (fun s144 s145 s146 s147 s148 s149 s150 s151 wx => s151 = .bool false ∧ wx = w')
            case first => as_aux_lemma =>
              rcases q with _ | _
              all_goals
                go_wp2
                go_meet
                exact ⟨rfl, rfl⟩
            case rest => as_aux_lemma =>
              obtain ⟨rfl, rfl⟩ := hcut
              clear hbl bX
              go_upto_region 20 with (first | (go_at_call 34; refine (X3.out _ (by first | rfl | exact IntKind.wrap_i64 _) _).mono ?_; rintro e w' ⟨rfl, hbl⟩; clear y0 y1 y2 yl x0 x1 x2 x3 x4 xl; have kt := kt.below hbl kt.lt; have ka := ka.below hbl ka.lt; obtain ⟨y0, y1, y2, yl⟩ := three_cells kt; obtain ⟨x0, x1, x2, x3, x4, xl⟩ := five_cells ka; have bW := bstep bW hbl))
              have bX := Below.refl w'.heap.size w'
              go_cut [161, 162, 163, 164, 165, 166, 167, 168, 169, 170, 171, 172, 173, 174, 175, 176, 177] (fun s161 s162 s163 s164 s165 s166 s167 s168 s169 s170 s171 s172 s173 s174 s175 s176 s177 wx => s177 = .bool false ∧ Below w'.heap.size w' wx)
              case first => as_aux_lemma =>
                rcases q with _ | _
                · go_wp2
                  go_meet
                  exact ⟨rfl, bX⟩
                · rcases q' with _ | _
                  · go_wp2
                    go_meet
                    exact ⟨rfl, bX⟩
                  · obtain ⟨⟨h1, h2⟩, h3, h4⟩ := HLAW.out (by trivial) (by trivial)
                    have e1 : decide (v' < v) = false := decide_eq_false (by omega)
                    have hw : IntKind.i64.wrap (v' - v) = v' - v := IntWalk.i64_in _ (by omega)
                    have e2 : decide (l < v' - v) = false := decide_eq_false (by omega)
                    go_wp2
                    go_meet
                    exact ⟨rfl, bX⟩
              case rest => as_aux_lemma =>
                obtain ⟨rfl, bx⟩ := hcut
                have bW := bstep bW bx
                clear X3 HLAW hbl bX bx kt ka y0 y1 y2 yl x0 x1 x2 x3 x4 xl
                go_upto_region 23 with (first | (go_at_call 36; refine (DrawFewestFor_any A n c _ _ (hc.below bW)).mono ?_; rintro e w' ⟨Ab, m, c1, zs, wa, le, ba, need, rfl, ⟨⟨hr, hl, hm, -⟩, -⟩, hbl⟩; have bW := bstep bW hbl))
                obtain ⟨d4, e4⟩ : ∃ d, w'.heap.size = d := ⟨_, rfl⟩
                rw [e4]
                refine wp_gen (fun W => Below w.heap.size w W ∧ Rd W 5 Ab m (acrF zs) ∧ Bk W d4 31 [.int .i64 wa, .int .i64 le, .int .i64 ba]) ⟨balloc bW _, hr.below (balloc (Below.refl _ _) _), Bk.new' e4⟩ ?_
                clear bW hr e4 hbl
                intro W0 ⟨bW, hr, kt⟩
                obtain ⟨F, hF⟩ : ∃ F, ffR zs wa le ba need = F := ⟨_, rfl⟩
                obtain ⟨q, hq⟩ : ∃ q, F.isSome = q := ⟨_, rfl⟩
                obtain ⟨L, hL⟩ : ∃ L, outL zs F = L := ⟨_, rfl⟩
                have hL6 : L.length ≤ 64 := by
                  rw [← hL]
                  cases hF2 : F with
                  | none => simp [outL]
                  | some s =>
                    obtain ⟨_, _, ⟨k, _, hk⟩, _⟩ := few_law (hF.trans hF2)
                    rw [outL_len, hk]
                    have := bts_len zs.length k
                    omega
                have X1 := fun (W : World) h1 => Fewest_is (q := q) (L := L) (A := Ab) (n := m) (c := c1) (by rw [hF]; exact hq) (by rw [hF]; exact hL) W h1 hl (by omega)
                replace X1 := Lib.hid X1
                have X2 := fun (W : World) h1 => sFewest_is (q := q) (L := L) (A := Ab) (n := m) (c := c1) (by rw [hF]; exact hq) (by rw [hF]; exact hL) W h1 hl (by omega)
                replace X2 := Lib.hid X2
                have HF := Lib.hid hF
                have HL := Lib.hid hl
                have HQ := Lib.hid hq
                have HLL := Lib.hid hL
                clear hF hq hl hL
                obtain ⟨y0, y1, y2, yl⟩ := three_cells kt
                go_upto_region 24 with (first | (go_at_call 10; refine (X1.out _ hr).mono ?_; rintro e w' ⟨u1, rfl, hO1, hbl⟩; have hr := hr.below hbl; clear y0 y1 y2 yl; have kt := kt.below hbl kt.lt; obtain ⟨y0, y1, y2, yl⟩ := three_cells kt; have bW := bstep bW hbl; obtain ⟨A3, c3, rfl, hy, _⟩ := own_rd hO1))
                go_upto_region 25 with (first | (go_at_call 7; refine (X2.out _ hr).mono ?_; rintro e w' ⟨u2, rfl, hO2, hbl⟩; have hr := hr.below hbl; clear y0 y1 y2 yl; have kt := kt.below hbl kt.lt; obtain ⟨y0, y1, y2, yl⟩ := three_cells kt; have bW := bstep bW hbl; obtain ⟨A4, c4, rfl, hy2, _⟩ := own_rd hO2; have hy := hy.below hbl))
                clear X1 X2 y0 y1 y2 yl hO1 hO2
                have bX := Below.refl w'.heap.size w'
                go_cut [198, 199, 200, 201, 202, 203, 204, 205, 206] (fun s198 s199 s200 s201 s202 s203 s204 s205 s206 wx => s206 = .bool false ∧ Below w'.heap.size w' wx)
                case first => as_aux_lemma =>
                  rcases q with _ | _
                  all_goals
                    go_wp2_with (first | (go_at_call 25; refine (rInts_same' _ hy hy2 (by omega)).mono ?_; rintro e w' ⟨rfl, hbl⟩; have bX := bstep bX hbl))
                    go_meet
                    exact ⟨rfl, bX⟩
                case rest => as_aux_lemma =>
                  obtain ⟨rfl, bx⟩ := hcut
                  have bW := bstep bW bx
                  have hr := hr.below bx
                  have hy := hy.below bx
                  have kt := kt.below bx kt.lt
                  clear hy2 hbl bX bx
                  rcases F with _ | s
                  · obtain rfl : false = q := HQ.out
                    go_wp2
                    go_returns
                    exact ⟨rfl, bW⟩
                  obtain rfl : true = q := HQ.out
                  obtain ⟨hL6', htg, ⟨k0, hk0, hs⟩, hneed, hmin, hn0⟩ := few_law HF.out
                  have hsL : s = bts m k0 := by rw [hs, HL.out]
                  have hLL : idL zs (bts m k0) = L := by rw [← hsL]; exact HLL.out
                  rw [hsL] at hneed hmin
                  have HN := Lib.hid hneed
                  have HM := Lib.hid hmin
                  have HLI := Lib.hid hLL
                  have HLL2 : Hid (L.length = (bts m k0).length) := Lib.hid (by rw [← hLL, idL_len])
                  clear hneed hmin hLL hs hsL HF HQ HLL
                  have HR := Lib.hid hr
                  have HK := Lib.hid kt
                  have HY := Lib.hid hy
                  clear hr kt hy
                  obtain ⟨wo, hwo⟩ : ∃ wo, wo = wc := ⟨_, rfl⟩
                  rw [← hwo] at HR HK HY bW ⊢
                  clear hwo
                  go_upto_region 30 with fail
                  go_loopw [31, 32, 33] (fun s31 s32 s33 wr => ∃ (p : Nat) (S e : Int), p ≤ m ∧ s33 = .int .i64 p ∧ s31 = .int .i64 S ∧ s32 = .int .i64 e ∧ Hid (tot (lt3 zs wa le ba) (bts p k0) = S) ∧ (0 ≤ S ∧ S ≤ 12000000 * (p : Int)) ∧ (0 ≤ e ∧ e ≤ 12000000) ∧ Hid ((bts p k0 = [] ∧ e = 0) ∨ ∃ i ∈ bts p k0, lt3 zs wa le ba i = e) ∧ Below wo.heap.size wo wr) (fun _ _ s33 _ => m - (intOf s33).toNat)
                  case atStart => exact ⟨0, 0, 0, Nat.zero_le _, rfl, rfl, rfl, Lib.hid rfl, by omega, by omega, Lib.hid (.inl ⟨rfl, rfl⟩), Below.refl _ _⟩
                  case round =>
                    obtain ⟨p, S, e, hp, rfl, rfl, rfl, HS, ⟨hS0, hS1⟩, ⟨he0, he1⟩, HE, bR⟩ := hrel
                    by_cases hlt : p < m
                    · have i1 : decide ((p : Int) < (m : Int)) = true := decide_eq_true (by omega)
                      have i2 : decide (p < m) = true := decide_eq_true hlt
                      have i3 : (p : Int) < (m : Int) := by omega
                      have i4 : (0 : Int) ≤ (p : Int) := by omega
                      obtain ⟨b, off, rfl, hb0, x0, x1, x2, x3, x4, hz, c0, c1', c2, c3', c4'⟩ := acr_at HR.out bR HL.out hlt
                      have s1 : b < wr.heap.size := Nat.lt_of_lt_of_le hb0 bR.size
                      obtain ⟨N, P, hMD, hN6, hP, ⟨hP0, hP1⟩, hl3, hgd⟩ := acr_num hL6' htg (by have := HL.out; omega) hz
                      have hbt := bts_succ p k0
                      have hhas := has_law hL6' (k := k0) (show p < zs.length by have := HL.out; omega)
                      rw [hgd, HL.out, HLI.out] at hhas
                      have HMD := Lib.hid hMD
                      have HL3 := Lib.hid hl3
                      have hw1 : IntKind.i64.wrap P = P := IntWalk.i64_in _ (by omega)
                      have hw2 : IntKind.i64.wrap (S + P) = S + P := IntWalk.i64_in _ (by omega)
                      have hyr := HY.out.below bR
                      clear hMD hl3 hgd hz
                      by_cases hb : k0 / 2 ^ p % 2 = 1
                      · rw [if_pos hb] at hbt
                        rw [decide_eq_true hb] at hhas
                        have HB := Lib.hid hbt
                        have HH := Lib.hid hhas
                        clear hbt hhas hb
                        go_wp2_with fail
                        refine (rHas_is HH.out _ hyr rfl (by omega)).mono ?_
                        rintro e w7 ⟨rfl, hb7⟩
                        have bR7 := bstep bR hb7
                        have c0 := cell_on bR bR7 hb0 c0
                        have c1' := cell_on bR bR7 hb0 c1'
                        have c2 := cell_on bR bR7 hb0 c2
                        have c3' := cell_on bR bR7 hb0 c3'
                        have c4' := cell_on bR bR7 hb0 c4'
                        have s7 : b < w7.heap.size := Nat.lt_of_lt_of_le hb0 bR7.size
                        obtain ⟨y0, y1, y2, yl⟩ := three_cells (HK.out.below bR7 HK.out.lt)
                        clear hyr
                        go_upto_region 33 with fail
                        (refine wp_region_bel (by kernel_rfl) (by kernel_rfl) ?_; (repeat (go_big_quiet_step ((first | (go_at_call 18; exact calls_bel (HMD.out _)))))); refine wpQuiet_nil ?_; intro w' hw'; have hb := below_of hw'; clear hw'; (try clear cW fW zW); (first | (have bW := bstep bW hb) | (have bW := bstep (bdrew bW) hb) | (have bW := bstep (balloc bW _) hb) | (have bW := bstep (bdrewN bW _) hb) | (have bW := hb)); clear hb; obtain ⟨cW, fW⟩ := bcell bW; have zW := bsize bW)
                        have bR2 := bstep bR7 bW
                        have s2 := zW b s7
                        have HS2 : Hid (tot (lt3 zs wa le ba) (bts (p + 1) k0) = S + P) := Lib.hid (by rw [HB.out, tot_snoc, HS.out, HL3.out])
                        have HE1 : Hid ((bts (p + 1) k0 = [] ∧ P = 0) ∨ ∃ i ∈ bts (p + 1) k0, lt3 zs wa le ba i = P) := Lib.hid (.inr ⟨p, by rw [HB.out]; simp, HL3.out⟩)
                        go_upto_region 37 with fail
                        by_cases e0 : e = 0
                        · subst e0
                          go_wp2
                          go_roundw
                          case rel => exact ⟨p + 1, S + P, P, by omega, by go_num, by go_num, by go_num, HS2, by omega, by omega, HE1, bR2⟩
                          case measure => simp [intOf]; omega
                        · have e1 : (e == 0) = false := by simp [e0]
                          have HE2 : Hid ((bts (p + 1) k0 = [] ∧ e = 0) ∨ ∃ i ∈ bts (p + 1) k0, lt3 zs wa le ba i = e) := Lib.hid (by
                            rcases HE.out with ⟨_, h⟩ | ⟨i, hi, he⟩
                            · exact absurd h e0
                            · exact .inr ⟨i, by rw [HB.out]; exact List.mem_append.2 (.inl hi), he⟩)
                          by_cases e2 : P < e
                          · have e3 : decide (P < e) = true := decide_eq_true e2
                            go_wp2
                            go_roundw
                            case rel => exact ⟨p + 1, S + P, P, by omega, by go_num, by go_num, by go_num, HS2, by omega, by omega, HE1, bR2⟩
                            case measure => simp [intOf]; omega
                          · have e3 : decide (P < e) = false := decide_eq_false e2
                            go_wp2
                            go_roundw
                            case rel => exact ⟨p + 1, S + P, e, by omega, by go_num, by go_num, rfl, HS2, by omega, by omega, HE2, bR2⟩
                            case measure => simp [intOf]; omega
                      · rw [if_neg hb] at hbt
                        rw [decide_eq_false hb] at hhas
                        have HB := Lib.hid hbt
                        have HH := Lib.hid hhas
                        clear hbt hhas hb
                        go_wp2_with fail
                        refine (rHas_is HH.out _ hyr rfl (by omega)).mono ?_
                        rintro e7 w7 ⟨rfl, hb7⟩
                        go_wp2
                        go_roundw
                        case rel => exact ⟨p + 1, S, e, by omega, by go_num, rfl, rfl, Lib.hid (by rw [HB.out]; exact HS.out), by omega, by omega, Lib.hid (by rw [HB.out]; exact HE.out), bstep bR hb7⟩
                        case measure => simp [intOf]; omega
                    · have hpm : p = m := by omega
                      have hS := HS.out
                      have hE := HE.out
                      rw [hpm] at hS hE
                      have hN := HN.out
                      rw [hS] at hN
                      have hM2 : bts m k0 ≠ [] → S - e < need := fun h => by
                        rcases hE with ⟨h1, _⟩ | ⟨i, hi, he⟩
                        · exact absurd h1 h
                        · have := HM.out i hi; rw [hS, he] at this; exact this
                      have i1 : decide ((p : Int) < (m : Int)) = false := decide_eq_false (by omega)
                      have i2 : decide (p < m) = false := decide_eq_false hlt
                      have i3 : ¬ (p : Int) < (m : Int) := by omega
                      have d1 : decide (S < need) = false := decide_eq_false (by omega)
                      have hw3 : IntKind.i64.wrap (S - e) = S - e := IntWalk.i64_in _ (by omega)
                      have bW9 := bstep bW bR
                      have HM2 := Lib.hid hM2
                      clear hS hE hpm hM2
                      by_cases h0 : (bts m k0).length = 0
                      · have l0 : L.length = 0 := by rw [HLL2.out]; exact h0
                        have d2 : decide (0 < L.length) = false := decide_eq_false (by omega)
                        have d3 : decide ((0 : Int) < (L.length : Int)) = false := decide_eq_false (by omega)
                        clear h0 l0
                        go_wp2
                        go_returns
                        exact ⟨rfl, bW9⟩
                      · have l0 : 0 < L.length := by rw [HLL2.out]; omega
                        have d2 : decide (0 < L.length) = true := decide_eq_true l0
                        have d3 : decide ((0 : Int) < (L.length : Int)) = true := decide_eq_true (by omega)
                        have d4' : decide (need ≤ S - e) = false := decide_eq_false (by have := HM2.out (fun h => h0 (by rw [h]; rfl)); omega)
                        clear h0 l0
                        go_wp2
                        go_returns
                        exact ⟨rfl, bW9⟩
end Go.Proofs.Ytbioleagenoogaa
