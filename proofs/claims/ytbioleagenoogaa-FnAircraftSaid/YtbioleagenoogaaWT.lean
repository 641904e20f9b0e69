/-
  FewestFor of the reference. Conditions: lengths within the bound of a slice.
-/
import Derived.Test.YtbioleagenoogaaWS
namespace Go.Proofs.Ytbioleagenoogaa
open Go Go.RowKit
set_option maxRecDepth 100000
set_option maxHeartbeats 4000000

theorem own_apart {w w' : World} {base k n : Nat} {t : TypeId} {v : Value} {xs : List Value} {r : Option Nat} (h : w.ownsRow base t k v n xs) (hg : w.grownBy w' r) (hne : ∀ b, v.ownBlock = some b → some b ≠ r) : w'.ownsRow base t k v n xs :=
  h.kept hg (by
    cases hv : v.ownBlock with
    | none => exact .inl rfl
    | some b => exact .inr (hne b hv))
theorem bit_small : ∀ q : Nat, q < 65 → (bits .and .i64 (q : Int) 1 == 1) = decide (q % 2 = 1) := by decide +kernel
theorem bit_is {k p : Nat} (hk : k ≤ 64) : (bits .and .i64 ((k : Int) / 2 ^ p) 1 == 1) = decide (k / 2 ^ p % 2 = 1) := by
  have e : (k : Int) / 2 ^ p = ((k / 2 ^ p : Nat) : Int) := by push_cast; rfl
  rw [e]
  exact bit_small _ (by have := Nat.div_le_self k (2 ^ p); omega)
theorem cell_on {w w1 w2 : World} {b o : Nat} {v : Value} (h1 : Below w.heap.size w w1) (h2 : Below w.heap.size w w2) (hb : b < w.heap.size) (c : w1.cell? ⟨b, o, none⟩ = some v) : w2.cell? ⟨b, o, none⟩ = some v :=
  (h2.cell (p := ⟨b, o, none⟩) hb).trans ((h1.cell (p := ⟨b, o, none⟩) hb).symm.trans c)
theorem ints_snoc (zs : List Int) (x : Int) : ints (zs ++ [x]) = ints zs ++ [.int .i64 x] := by simp [ints]
theorem bts_len (n k : Nat) : (bts n k).length ≤ n := by
  have := List.length_filter_le (fun i => decide (k / 2 ^ i % 2 = 1)) (List.range n)
  rw [List.length_range] at this
  exact this
theorem outL_len {zs : List AircraftT} {b : List Nat} : (outL zs (some b)).length = b.length := idL_len zs b
theorem sFewest_is {q : Bool} {L : List Int} {wa le ba need : Int} {A : Option Addr} {n c : Nat} {zs : List AircraftT} (hq : (ffR zs wa le ba need).isSome = q) (hL : outL zs (ffR zs wa le ba need) = L) (w : World) (hr : Rd w 5 A n (acrF zs)) (hl : zs.length = n) (hn : n ≤ 1048576) :
    Calls Try.prog 7 #[.slice A n c, .agg #[.int .i64 wa, .int .i64 le, .int .i64 ba], .int .i64 need] w fun e w' => ∃ u, e = .returned (.tuple #[u, .bool q]) ∧ w'.ownsRow w.heap.size 3 1 u L.length (ints L) ∧ Below w.heap.size w w' := by
  obtain ⟨i0, hi0, hz0, hz1, hz2⟩ := info_parts (show (Try.prog.info? 3).map (fun i => (i.zero, i.size, i.bytes)) = some (some (.int .i64 0), 1, 8) from by kernel_rfl)
  obtain ⟨p1, h1⟩ : ∃ p, listedB zs 6 = p := ⟨_, rfl⟩
  obtain ⟨p2, h2⟩ : ∃ p, tgB wa le ba = p := ⟨_, rfl⟩
  obtain ⟨p3, h3⟩ : ∃ p, inB need 0 1000000 = p := ⟨_, rfl⟩
  have hB : ffB zs wa le ba need = ((p1 && p2) && p3) := by unfold ffB; rw [h1, h2, h3]
  have hno : ((p1 && p2) && p3) = false → q = false ∧ L = [] := fun h => by
    have e : ffR zs wa le ba need = none := by unfold ffR; rw [hB, h]; rfl
    exact ⟨by rw [← hq, e]; rfl, by rw [← hL, e]; rfl⟩
  have H1 := Lib.hid h1
  have H2 := Lib.hid h2
  have H3 := Lib.hid h3
  have HB := Lib.hid hB
  have HN := Lib.hid hno
  have HQ := Lib.hid hq
  have HL := Lib.hid hL
  clear h1 h2 h3 hB hno hq hL
  go_enter Try.func7, Try.ntmps7
  go_upto_region 2 with fail
  refine wp_gen (fun w0 => Bk w0 w.heap.size 31 [.int .i64 wa, .int .i64 le, .int .i64 ba] ∧ w0.ownsRow (w.heap.size + 1) 3 1 (.slice (some ⟨w.heap.size + 1, 0, none⟩) 0 0) 0 [] ∧ Below w.heap.size w w0) ⟨Bk.alloc (Bk.new' rfl) _, own_lit' (by simp) (by simp), by (repeat' (first | (with_reducible exact Below.refl _ _) | (with_reducible assumption) | (with_reducible refine balloc ?_ _) | (with_reducible refine bdrew ?_) | (with_reducible refine bdrewN ?_ _) | (with_reducible refine bstep ?_ (by assumption)) | (with_reducible refine bset ?_ ?_ _) | (exact Below.size (by assumption)) | go_size))⟩ ?_
  intro w0 ⟨hT, hO, b0⟩
  have HO := Lib.hid hO
  clear hO
  go_wp2_with fail
  refine (l14List_of H1.out _ (hr.below b0) hl (by omega)).mono ?_
  rintro e w1 ⟨rfl, hb1⟩
  have b1 := bstep b0 hb1
  have hT1 := hT.below hb1 hT.lt
  have HO1 := Lib.hid (own_below HO.out hb1)
  obtain ⟨y0, y1, y2, yl⟩ := three_cells hT1
  rcases p1 with _ | _
  · obtain ⟨rfl, rfl⟩ := HN.out rfl
    go_wp2
    go_returns
    exact ⟨_, rfl, own_weaken HO1.out (by omega), b1⟩
  go_wp2_with fail
  refine (l14Target_of p2 H2.out _).mono ?_
  rintro e w2 ⟨rfl, hb2⟩
  have b1 := bstep b1 hb2
  have hT2 := hT1.below hb2 hT1.lt
  have HO2 := Lib.hid (own_below HO1.out hb2)
  clear y0 y1 y2 yl
  rcases p2 with _ | _
  · obtain ⟨rfl, rfl⟩ := HN.out rfl
    go_wp2
    go_returns
    exact ⟨_, rfl, own_weaken HO2.out (by omega), b1⟩
  go_wp2_with fail
  refine (l1In_of p3 H3.out _).mono ?_
  rintro e w3 ⟨rfl, rfl⟩
  rcases p3 with _ | _
  · obtain ⟨rfl, rfl⟩ := HN.out rfl
    go_wp2
    go_returns
    exact ⟨_, rfl, own_weaken HO2.out (by omega), b1⟩
  have hB : ffB zs wa le ba need = true := HB.out
  have hbits := ff_bits hB
  have n6 := ff_len hB
  obtain ⟨g6, g7, g8⟩ := tgB_bd H2.out
  have HBT := Lib.hid hbits
  clear hbits hB
  rw [hl] at n6
  obtain ⟨M, hM⟩ : ∃ M : Nat, 2 ^ n = M := ⟨_, rfl⟩
  have hM64 : M ≤ 64 := by rw [← hM]; exact Nat.pow_le_pow_right (by decide) n6
  have hw : wrap64 (2 ^ n) = (M : Int) := by
    have e : (2 : Int) ^ n = (M : Int) := by rw [← hM]; push_cast; rfl
    rw [e]; unfold wrap64; omega
  have HM : Hid (fwS n (gdB zs wa le ba need) M = ffR zs wa le ba need) := Lib.hid (by rw [← hM, ← hl]; exact HBT.out)
  have HW := Lib.hid hw
  clear hM hw
  go_wp2_with fail
  go_loopw [8, 9, 10] (fun u f i wr => ∃ (k : Nat) (r : Option (List Nat)), k ≤ M ∧ i = .int .i64 k ∧ f = .bool r.isSome ∧ Hid (fwS n (gdB zs wa le ba need) k = r) ∧ (outL zs r).length ≤ 6 ∧ wr.ownsRow w.heap.size 3 1 u (outL zs r).length (ints (outL zs r)) ∧ Bk wr w.heap.size 31 [.int .i64 wa, .int .i64 le, .int .i64 ba] ∧ Below w.heap.size w wr) (fun _ _ i _ => M - (intOf i).toNat)
  case atStart => exact ⟨0, none, Nat.zero_le _, rfl, rfl, Lib.hid rfl, by simp [outL], own_weaken HO2.out (by omega), hT2, b1⟩
  case round =>
    obtain ⟨k, r, hk, rfl, rfl, HR, hr6, hU, hTk, hW⟩ := hrel
    have HU := Lib.hid hU
    clear hU
    obtain ⟨f, hf⟩ : ∃ f, r.isSome = f := ⟨_, rfl⟩
    rw [hf]
    have HF := Lib.hid hf
    clear hf
    by_cases hlt : k < M
    · have i1 : (k : Int) < wrap64 (2 ^ n) := by rw [HW.out]; omega
      go_upto_region 9 with fail
      obtain ⟨wo, rfl⟩ : ∃ wo, wo = wr := ⟨_, rfl⟩
      go_loopw [11, 12, 13] (fun v s j wr => ∃ (p : Nat) (S : Int), p ≤ n ∧ j = .int .i64 p ∧ s = .int .i64 S ∧ Hid (tot (lt3 zs wa le ba) (bts p k) = S) ∧ (0 ≤ S ∧ S ≤ 12000000 * (p : Int)) ∧ wr.ownsRow wo.heap.size 3 1 v (bts p k).length (ints (idL zs (bts p k))) ∧ Below wo.heap.size wo wr) (fun _ _ j _ => n - (intOf j).toNat)
      case atStart => exact ⟨0, 0, Nat.zero_le _, rfl, rfl, Lib.hid rfl, by omega, own_lit' rfl (Nat.le_refl _), balloc (Below.refl _ _) _⟩
      case round =>
        obtain ⟨p, S, hp, rfl, rfl, HS, hS, hV, hB⟩ := hrel
        have HV := Lib.hid hV
        clear hV
        have hW' := bstep hW hB
        obtain ⟨y0, y1, y2, yl⟩ := three_cells (hTk.below hB hTk.lt)
        by_cases hp2 : p < n
        · have j1 : (p : Int) < (n : Int) := by omega
          have j2 : (0 : Int) ≤ (p : Int) := by omega
          have hbk := bts_succ p k
          have hbp := bts_len p k
          have hwo := hB.size
          have hbi := bit_is (p := p) (show k ≤ 64 by omega)
          by_cases hbt : k / 2 ^ p % 2 = 1
          · rw [if_pos hbt] at hbk
            rw [decide_eq_true hbt] at hbi
            have HBK := Lib.hid hbk
            obtain ⟨b, off, rfl, hbl, x0, x1, x2, x3, x4, hz, c0, c1, c2, c3, c4⟩ := acr_at hr hW' hl hp2
            have s1 : b < wr.heap.size := Nat.lt_of_lt_of_le hbl hW'.size
            have hac := listed_ok H1.out (show p < zs.length by omega) hz
            obtain ⟨g1, g2, g3, g4, g5⟩ := acB_bd hac
            have hmd := mdN_is g3 g4 g5 g6 g7 g8
            obtain ⟨N, hN⟩ : ∃ N, mdN x2 x3 x4 wa le ba = N := ⟨_, rfl⟩
            rw [hN] at hmd
            have hN6 : N ≤ 600 := hmd.1
            obtain ⟨P, hP⟩ : ∃ P, x1 * (N : Int) = P := ⟨_, rfl⟩
            have hP2 : (N : Int) * x1 = P := by rw [Int.mul_comm]; exact hP
            have hPb : 0 ≤ P ∧ P ≤ 12000000 := by
              rw [← hP]
              refine ⟨Int.mul_nonneg (by omega) (by omega), ?_⟩
              have h1 : x1 * (N : Int) ≤ 20000 * (N : Int) := Int.mul_le_mul_of_nonneg_right (by omega) (by omega)
              omega
            have hg : zs.getD p ac0 = (x0, x1, x2, x3, x4) := getD_of (show p < zs.length by omega) hz
            have hlt3 : lt3 zs wa le ba p = P := by unfold lt3; rw [hg, ← hP, ← hN]; rfl
            have HG := Lib.hid hg
            have HT3 := Lib.hid hlt3
            have HMo := Lib.hid (fun W => l14Most_is (i := x0) (l := x1) g3 g4 g5 g6 g7 g8 hmd W)
            have hw1 : IntKind.i64.wrap P = P := IntWalk.i64_in _ (by omega)
            have hw2 : IntKind.i64.wrap (S + P) = S + P := IntWalk.i64_in _ (by omega)
            clear hmd hN hz hac hg hlt3 hbk hbt
            go_upto_region 12 with fail
            go_wp2_with (at_builtin; refine wpList_append_own _ rfl (.tmp 50) (.tmp 56) 26 rfl wo.heap.size 3 i0 (.int .i64 0) 1 8 Try.underlying26 hi0 hz0 hz1 hz2 rfl (by decide) _ _ _ rfl (own_alloc HV.out _) ⟨_, 0, none⟩ 1 1 [.int .i64 x0] rfl rfl ?c1 ?c2 ?c3 ?c4 ?c5 ?_)
            case c1 => exact cell_one_new _ _ _
            case c2 => (first | rfl | (intro u hu; simp at hu; subst hu; rfl))
            case c3 => (unfold maxLen; omega)
            case c4 => omega
            case c5 => (simp; omega)
            intro v3 w3 hown3 hgr3 _
            have B3 : Below wo.heap.size wo w3 := own_grownBy (own_alloc HV.out _) (balloc hB _) hgr3 (Nat.le_refl _) (by simp; have := hB.size; omega)
            have hW3 := bstep hW B3
            have HO3 := Lib.hid hown3
            have c0 := cell_on hW' hW3 hbl c0
            have c1 := cell_on hW' hW3 hbl c1
            have c2 := cell_on hW' hW3 hbl c2
            have c3 := cell_on hW' hW3 hbl c3
            have c4 := cell_on hW' hW3 hbl c4
            have s3 : b < w3.heap.size := Nat.lt_of_lt_of_le hbl hW3.size
            clear y0 y1 y2 yl hown3 hgr3
            obtain ⟨y0, y1, y2, yl⟩ := three_cells (hTk.below B3 hTk.lt)
            go_wp2
            (refine wp_region_bel (by kernel_rfl) (by kernel_rfl) ?_; (repeat (go_big_quiet_step ((first | (go_at_call 41; exact calls_bel (HMo.out _)))))); refine wpQuiet_nil ?_; intro w' hw'; have hb := below_of hw'; clear hw'; (try clear cW fW zW); (first | (have bW := bstep bW hb) | (have bW := bstep (bdrew bW) hb) | (have bW := bstep (balloc bW _) hb) | (have bW := bstep (bdrewN bW _) hb) | (have bW := hb)); clear hb; obtain ⟨cW, fW⟩ := bcell bW; have zW := bsize bW)
            have hV5 : w'.ownsRow wo.heap.size 3 1 v3 (bts (p + 1) k).length (ints (idL zs (bts (p + 1) k))) := by
              rw [HBK.out, idL_snoc, HG.out, ints_snoc, List.length_append]
              exact own_below HO3.out bW
            have HV5 := Lib.hid hV5
            have HS5 : Hid (tot (lt3 zs wa le ba) (bts (p + 1) k) = S + P) := Lib.hid (by rw [HBK.out, tot_snoc, HS.out, HT3.out])
            clear c0 c1 c2 c3 c4 y0 y1 y2 yl hV5
            go_wp2
            go_roundw
            case rel =>
              exact ⟨p + 1, S + P, by omega, by go_num, by go_num, HS5, by omega, HV5.out, bstep B3 bW⟩
            case measure => simp [intOf]; omega
          · rw [if_neg hbt] at hbk
            rw [decide_eq_false hbt] at hbi
            have HBK := Lib.hid hbk
            clear hbk hbt
            go_wp2
            go_roundw
            case rel => exact ⟨p + 1, S, by omega, by go_num, rfl, Lib.hid (by rw [HBK.out]; exact HS.out), by omega, by rw [HBK.out]; exact HV.out, hB⟩
            case measure => simp [intOf]; omega
        · have hpn : p = n := by omega
          have j1 : ¬ (p : Int) < (n : Int) := by omega
          have hst := fwS_step (gd := gdB zs wa le ba need) (k := k) H1.out
          rw [hl, HR.out] at hst
          have hgd : gdB zs wa le ba need (bts n k) = !decide (S < need) := by unfold gdB; rw [← hpn, HS.out]
          rw [hgd] at hst
          rw [hpn] at HV
          obtain ⟨A1, c1, rfl, hV1, _⟩ := own_rd HV.out
          obtain ⟨A2, c2, rfl, hU1, _⟩ := own_rd HU.out
          have hU1 := hU1.below hB
          have HU2 := Lib.hid (own_below HU.out hB)
          have hT5 := hTk.below hB hTk.lt
          have hbl := bts_len n k
          have HT5 := Lib.hid hT5
          clear hgd y0 y1 y2 yl hpn hT5
          by_cases hg : need ≤ S
          · have d1 : decide (need ≤ S) = true := decide_eq_true hg
            have e1 : (!decide (S < need)) = true := by simp; omega
            rw [e1] at hst
            rcases r with _ | bb
            · obtain rfl : f = false := HF.out.symm
              have HS9 : Hid (fwS n (gdB zs wa le ba need) (k + 1) = some (bts n k)) := Lib.hid (by rw [hst, if_pos ⟨rfl, .inl rfl⟩])
              clear hst
              go_wp2
              go_roundw
              case rel => exact ⟨k + 1, some (bts n k), by omega, by go_num, rfl, HS9, by rw [outL_len]; omega, by rw [outL_len]; exact own_weaken HV.out hW.size, HT5.out, hW'⟩
              case measure => simp [intOf]; omega
            · obtain rfl : f = true := HF.out.symm
              obtain ⟨v, hv⟩ : ∃ v, lesI (idL zs (bts n k)) (outL zs (some bb)) = v := ⟨_, rfl⟩
              rw [hv] at hst
              have HST := Lib.hid hst
              have HVV := Lib.hid hv
              clear hst hv
              go_wp2_with fail
              refine (l14Less_is HVV.out _ hV1 hU1 (idL_len _ _) rfl (by omega) (by omega)).mono ?_
              rintro e w9 ⟨rfl, hb9⟩
              have HV9 := Lib.hid (own_below HV.out hb9)
              have HU9 := Lib.hid (own_below HU2.out hb9)
              have HT9 := Lib.hid (HT5.out.below hb9 HT5.out.lt)
              have hW9 := bstep hW' hb9
              rcases v with _ | _
              · have HS9 : Hid (fwS n (gdB zs wa le ba need) (k + 1) = some bb) := Lib.hid (by rw [HST.out, if_neg (by simp)])
                go_wp2
                go_roundw
                case rel => exact ⟨k + 1, some bb, by omega, by go_num, rfl, HS9, hr6, HU9.out, HT9.out, hW9⟩
                case measure => simp [intOf]; omega
              · have HS9 : Hid (fwS n (gdB zs wa le ba need) (k + 1) = some (bts n k)) := Lib.hid (by rw [HST.out]; simp)
                go_wp2
                go_roundw
                case rel =>
                  exact ⟨k + 1, some (bts n k), by omega, by go_num, rfl, HS9, by rw [outL_len]; omega, by rw [outL_len]; exact own_weaken HV9.out hW.size, HT9.out, hW9⟩
                case measure => simp [intOf]; omega
          · have d1 : decide (need ≤ S) = false := decide_eq_false hg
            have e1 : (!decide (S < need)) = false := by simp; omega
            rw [e1] at hst
            have HS9 : Hid (fwS n (gdB zs wa le ba need) (k + 1) = r) := Lib.hid (by rw [hst, if_neg (by simp)])
            clear hst
            go_wp2
            go_roundw
            case rel => exact ⟨k + 1, r, by omega, by go_num, by rw [HF.out], HS9, hr6, HU2.out, HT5.out, hW'⟩
            case measure => simp [intOf]; omega
    · have hkM : k = M := by omega
      have i1 : ¬ (k : Int) < wrap64 (2 ^ n) := by rw [HW.out]; omega
      have e1 : r = ffR zs wa le ba need := by rw [← HM.out, ← HR.out, hkM]
      have e2 : f = q := by rw [← HF.out, ← HQ.out, e1]
      have e3 : outL zs r = L := by rw [← HL.out, e1]
      subst e2
      have hU := HU.out
      rw [e3] at hU
      have HU3 := Lib.hid hU
      clear hkM e1 e3 hU
      go_wp2
      go_returns
      exact ⟨_, rfl, HU3.out, hW⟩
end Go.Proofs.Ytbioleagenoogaa
