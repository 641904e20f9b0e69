/-
  BestAircraft of the reference and of the program. Conditions: lengths within the bound of a slice.
-/
import Derived.Test.YtbioleagenoogaaH
namespace Go.Proofs.Ytbioleagenoogaa
open Go.RowKit
set_option maxRecDepth 100000
set_option maxHeartbeats 4000000

/-- the most drops of a sortie -/
noncomputable def mdN (s f fi wa le ba : Int) : Nat := @dite _ (∃ N, MD s f fi wa le ba N) (Classical.propDecidable _) (fun h => Classical.choose h) (fun _ => 0)
theorem mdN_is {s f fi wa le ba : Int} (hs : 1 ≤ s ∧ s ≤ 20) (hf : 1 ≤ f ∧ f ≤ 600) (hfi : 1 ≤ fi ∧ fi ≤ 30) (hwa : 1 ≤ wa ∧ wa ≤ 400) (hle : 1 ≤ le ∧ le ≤ 400) (hba : 1 ≤ ba ∧ ba ≤ 400) : MD s f fi wa le ba (mdN s f fi wa le ba) := by
  have h := MD_ex hs hf hfi hwa hle hba
  unfold mdN
  rw [dif_pos h]
  exact Classical.choose_spec h
noncomputable def ltr (wa le ba : Int) (a : AircraftT) : Int := a.2.1 * (mdN a.2.2.1 a.2.2.2.1 a.2.2.2.2 wa le ba : Int)
def ac0 : AircraftT := (0, 0, 0, 0, 0)
noncomputable def bsA (zs : List AircraftT) (wa le ba : Int) : Nat → Int × Int
  | 0 => (0, 0)
  | k + 1 => if (bsA zs wa le ba k).2 < ltr wa le ba (zs.getD k ac0) then ((zs.getD k ac0).1, ltr wa le ba (zs.getD k ac0)) else bsA zs wa le ba k
theorem getD_of {α : Type} {xs : List α} {k : Nat} {d x : α} (hk : k < xs.length) (h : xs[k] = x) : xs.getD k d = x := by
  rw [List.getD_eq_getElem?_getD, List.getElem?_eq_getElem hk, h]; rfl
theorem bsA_step {zs : List AircraftT} {wa le ba : Int} {k : Nat} {x : AircraftT} {y : Int} (hk : k < zs.length) (hx : zs[k] = x) (hy : ltr wa le ba x = y) : bsA zs wa le ba (k + 1) = if (bsA zs wa le ba k).2 < y then (x.1, y) else bsA zs wa le ba k := by
  show (if _ < _ then _ else _) = _
  rw [getD_of hk hx, hy]
theorem bsA_bd (zs : List AircraftT) (wa le ba : Int) : ∀ k, 0 ≤ (bsA zs wa le ba k).2 ∧ ((bsA zs wa le ba k).2 = 0 → (bsA zs wa le ba k).1 = 0)
  | 0 => by simp [bsA]
  | k + 1 => by
    have h := bsA_bd zs wa le ba k
    unfold bsA
    split
    · exact ⟨by show 0 ≤ ltr _ _ _ _; omega, fun h0 => by have h1 : ltr wa le ba (zs.getD k ac0) = 0 := h0; omega⟩
    · exact h
noncomputable def baB (zs : List AircraftT) (wa le ba : Int) : Bool := listedB zs 6 && tgB wa le ba
noncomputable def baI (zs : List AircraftT) (wa le ba : Int) : Int := if baB zs wa le ba = true then (bsA zs wa le ba zs.length).1 else 0
noncomputable def baM (zs : List AircraftT) (wa le ba : Int) : Int := if baB zs wa le ba = true then (bsA zs wa le ba zs.length).2 else 0
noncomputable def baQ (zs : List AircraftT) (wa le ba : Int) : Bool := baB zs wa le ba && decide (0 < (bsA zs wa le ba zs.length).2)
theorem ba_no {zs : List AircraftT} {wa le ba : Int} (h : baB zs wa le ba = false) : baQ zs wa le ba = false ∧ baI zs wa le ba = 0 ∧ baM zs wa le ba = 0 := by simp [baQ, baI, baM, h]
theorem listed_ok {zs : List AircraftT} {k : Nat} {i l s f fi : Int} (h : listedB zs 6 = true) (hk : k < zs.length) (hz : zs[k] = (i, l, s, f, fi)) : acB i l s f fi = true := by
  have := ((listedB_iff.1 h).1 k hk hk).1
  rw [hz] at this
  exact this
theorem tg_of {wa le ba : Int} (v : Bool) (h : tgB wa le ba = v) (w : World) : Calls Try.prog 21 #[.agg #[.int .i64 wa, .int .i64 le, .int .i64 ba]] w fun e w' => e = .returned (.bool v) ∧ Below w.heap.size w w' := by rw [← h]; exact tg_any wa le ba w
theorem l14Target_of {wa le ba : Int} (v : Bool) (h : tgB wa le ba = v) (w : World) : Calls Try.prog 39 #[.agg #[.int .i64 wa, .int .i64 le, .int .i64 ba]] w fun e w' => e = .returned (.bool v) ∧ Below w.heap.size w w' := by rw [← h]; exact l14Target_any wa le ba w
theorem l14List_of {v : Bool} {A : Option Addr} {n c : Nat} {zs : List AircraftT} (h : listedB zs 6 = v) (w : World) (hr : Rd w 5 A n (acrF zs)) (hl : zs.length = n) (hn : n ≤ 140737488355328) : Calls Try.prog 38 #[.slice A n c] w fun e w' => e = .returned (.bool v) ∧ Below w.heap.size w w' := by rw [← h]; exact l14List_any A n c zs w hr hl hn
theorem liters_is {i l s f fi wa le ba y : Int} {N : Nat} (_hl : 100 ≤ l ∧ l ≤ 20000) (hs : 1 ≤ s ∧ s ≤ 20) (hf : 1 ≤ f ∧ f ≤ 600) (hfi : 1 ≤ fi ∧ fi ≤ 30) (hwa : 1 ≤ wa ∧ wa ≤ 400) (hle : 1 ≤ le ∧ le ≤ 400) (hba : 1 ≤ ba ∧ ba ≤ 400) (hN : MD s f fi wa le ba N) (hy : l * (N : Int) = y) (hyb : 0 ≤ y ∧ y ≤ 12000000) (w : World) :
    Calls Try.prog 48 #[.agg #[.int .i64 i, .int .i64 l, .int .i64 s, .int .i64 f, .int .i64 fi], .agg #[.int .i64 wa, .int .i64 le, .int .i64 ba]] w fun e w' => e = .returned (.int .i64 y) ∧ Below w.heap.size w w' := by
  have HF := Lib.hid (fun W => mostDrops_is (i := i) (l := l) hs hf hfi hwa hle hba hN W)
  have hwr : IntKind.i64.wrap y = y := IntWalk.i64_in _ (by omega)
  clear hN
  go_enter Try.func48, Try.ntmps48
  go_upto_region 1 with fail
  refine wp_gen (fun w0 => Bk w0 w.heap.size 41 [.int .i64 i, .int .i64 l, .int .i64 s, .int .i64 f, .int .i64 fi] ∧ Bk w0 (w.heap.size + 1) 31 [.int .i64 wa, .int .i64 le, .int .i64 ba] ∧ Below w.heap.size w w0) ⟨Bk.alloc (Bk.new' rfl) _, Bk.new' (by simp), by (repeat' (first | (with_reducible exact Below.refl _ _) | (with_reducible assumption) | (with_reducible refine balloc ?_ _) | (with_reducible refine bdrew ?_) | (with_reducible refine bdrewN ?_ _) | (with_reducible refine bstep ?_ (by assumption)) | (with_reducible refine bset ?_ ?_ _) | (exact Below.size (by assumption)) | go_size))⟩ ?_
  intro w0 ⟨hx, hyb, b1⟩
  obtain ⟨x0, x1, x2, x3, x4, xl⟩ := five_cells hx
  obtain ⟨y0, y1, y2, yl⟩ := three_cells hyb
  (refine wp_region_bel (by kernel_rfl) (by kernel_rfl) ?_; (repeat (go_big_quiet_step ((first | (go_at_call 53; exact calls_bel (HF.out _)))))); refine wpQuiet_nil ?_; intro w' hw'; have hb := below_of hw'; clear hw'; (try clear cW fW zW); (first | (have bW := bstep bW hb) | (have bW := bstep (bdrew bW) hb) | (have bW := bstep (balloc bW _) hb) | (have bW := bstep (bdrewN bW _) hb) | (have bW := hb)); clear hb; obtain ⟨cW, fW⟩ := bcell bW; have zW := bsize bW)
  go_wp2
  go_returns
  exact ⟨ret_int (by first | rfl | omega | (simp only [hy]; omega)), bstep b1 bW⟩
theorem sBest_is {q : Bool} {I M wa le ba : Int} {A : Option Addr} {n c : Nat} {zs : List AircraftT} (hq : baQ zs wa le ba = q) (hI : baI zs wa le ba = I) (hM : baM zs wa le ba = M) (w : World) (hr : Rd w 5 A n (acrF zs)) (hl : zs.length = n) (hn : n ≤ 1048576) :
    Calls Try.prog 32 #[.slice A n c, .agg #[.int .i64 wa, .int .i64 le, .int .i64 ba]] w fun e w' => e = .returned (.tuple #[.int .i64 I, .int .i64 M, .bool q]) ∧ Below w.heap.size w w' := by
  have b0 := balloc (Below.refl w.heap.size w) (.cells #[.int .i64 wa, .int .i64 le, .int .i64 ba] 31)
  have hT := Bk.new w 31 [.int .i64 wa, .int .i64 le, .int .i64 ba]
  rcases h1 : listedB zs 6 with _ | _
  · have HL := Lib.hid h1
    obtain ⟨e1, e2, e3⟩ := ba_no (show baB zs wa le ba = false by simp [baB, h1])
    obtain rfl := e1.symm.trans hq
    obtain rfl := e2.symm.trans hI
    obtain rfl := e3.symm.trans hM
    clear e1 e2 e3 hq hI hM
    go_enter Try.func32, Try.ntmps32
    go_wp2_with fail
    refine (l14List_of HL.out _ (hr.below b0) hl (by omega)).mono ?_
    rintro e w1 ⟨rfl, hb1⟩
    have b1 := bstep b0 hb1
    have hT1 := hT.below hb1 hT.lt
    go_wp2
    go_returns
    exact ⟨rfl, b1⟩
  have HL := Lib.hid h1
  rcases h2 : tgB wa le ba with _ | _
  · skip
    obtain ⟨e1, e2, e3⟩ := ba_no (show baB zs wa le ba = false by simp [baB, h2])
    obtain rfl := e1.symm.trans hq
    obtain rfl := e2.symm.trans hI
    obtain rfl := e3.symm.trans hM
    clear e1 e2 e3 hq hI hM
    go_enter Try.func32, Try.ntmps32
    go_wp2_with fail
    refine (l14List_of HL.out _ (hr.below b0) hl (by omega)).mono ?_
    rintro e w1 ⟨rfl, hb1⟩
    have b1 := bstep b0 hb1
    have hT1 := hT.below hb1 hT.lt
    obtain ⟨y0, y1, y2, yl⟩ := three_cells hT1
    go_wp2_with fail
    refine (l14Target_of false h2 _).mono ?_
    rintro e w2 ⟨rfl, hb2⟩
    have b1 := bstep b1 hb2
    have hT2 := hT1.below hb2 hT1.lt
    clear y0 y1 y2 yl
    go_wp2
    go_returns
    exact ⟨rfl, b1⟩
  have hB : baB zs wa le ba = true := by simp [baB, h1, h2]
  obtain ⟨g6, g7, g8⟩ := tgB_bd h2
  have eI : (bsA zs wa le ba n).1 = I := by rw [← hI, ← hl]; unfold baI; rw [if_pos hB]
  have eM : (bsA zs wa le ba n).2 = M := by rw [← hM, ← hl]; unfold baM; rw [if_pos hB]
  have eQ : decide (0 < M) = q := by rw [← hq, ← eM]; simp [baQ, hB, hl]
  have hMI := bsA_bd zs wa le ba n
  rw [eI, eM] at hMI
  have EI := Lib.hid eI
  have EM := Lib.hid eM
  clear h1 hB hq hI hM eI eM
  go_enter Try.func32, Try.ntmps32
  go_wp2_with fail
  refine (l14List_of HL.out _ (hr.below b0) hl (by omega)).mono ?_
  rintro e w1 ⟨rfl, hb1⟩
  have b1 := bstep b0 hb1
  have hT1 := hT.below hb1 hT.lt
  obtain ⟨y0, y1, y2, yl⟩ := three_cells hT1
  go_wp2_with fail
  refine (l14Target_of true h2 _).mono ?_
  rintro e w2 ⟨rfl, hb2⟩
  have b1 := bstep b1 hb2
  have hT2 := hT1.below hb2 hT1.lt
  clear y0 y1 y2 yl
  go_wp2_with fail
  go_loopw [7, 8, 9] (fun x y i wr => ∃ k : Nat, k ≤ n ∧ i = .int .i64 k ∧ x = .int .i64 (bsA zs wa le ba k).1 ∧ y = .int .i64 (bsA zs wa le ba k).2 ∧ Bk wr w.heap.size 31 [.int .i64 wa, .int .i64 le, .int .i64 ba] ∧ Below w.heap.size w wr) (fun _ _ i _ => n - (intOf i).toNat)
  case atStart => exact ⟨0, Nat.zero_le _, rfl, rfl, rfl, hT2, b1⟩
  case round =>
    obtain ⟨k, hk, rfl, rfl, rfl, hTk, hW⟩ := hrel
    obtain ⟨y0, y1, y2, yl⟩ := three_cells hTk
    have HT := Lib.hid hTk
    clear hTk
    by_cases hlt : k < n
    · obtain ⟨b, off, rfl, hbl, x0, x1, x2, x3, x4, hz, c0, c1, c2, c3, c4⟩ := acr_at hr hW hl hlt
      have s1 : b < wr.heap.size := Nat.lt_of_lt_of_le hbl hW.size
      have hac := listed_ok HL.out (show k < zs.length by omega) hz
      obtain ⟨g1, g2, g3, g4, g5⟩ := acB_bd hac
      have hmd := mdN_is g3 g4 g5 g6 g7 g8
      obtain ⟨N, hN⟩ : ∃ N, mdN x2 x3 x4 wa le ba = N := ⟨_, rfl⟩
      rw [hN] at hmd
      have hN6 : N ≤ 600 := hmd.1
      obtain ⟨p, hp⟩ : ∃ p, x1 * (N : Int) = p := ⟨_, rfl⟩
      have hp2 : (N : Int) * x1 = p := by rw [Int.mul_comm]; exact hp
      have hpb : 0 ≤ p ∧ p ≤ 12000000 := by
        rw [← hp]
        refine ⟨Int.mul_nonneg (by omega) (by omega), ?_⟩
        have h1 : x1 * (N : Int) ≤ 20000 * (N : Int) := Int.mul_le_mul_of_nonneg_right (by omega) (by omega)
        omega
      have hst := bsA_step (wa := wa) (le := le) (ba := ba) (y := p) (show k < zs.length by omega) hz (by rw [← hp, ← hN]; rfl)
      have hbd := bsA_bd zs wa le ba k
      obtain ⟨u, v, huv⟩ : ∃ u v, bsA zs wa le ba k = (u, v) := ⟨_, _, rfl⟩
      rw [huv] at hst hbd ⊢
      dsimp only at hst hbd ⊢
      have HF := Lib.hid (fun W => l14Most_is (i := x0) (l := x1) g3 g4 g5 g6 g7 g8 hmd W)
      have i1 : (0 : Int) ≤ (k : Int) := by omega
      have i2 : (k : Int) < (n : Int) := by omega
      have hwr : IntKind.i64.wrap p = p := IntWalk.i64_in _ (by omega)
      clear hmd hN hz huv hac
      by_cases hlt2 : v < p
      · rw [if_pos hlt2] at hst
        have HS := Lib.hid hst
        clear hst
        go_wp2
        (refine wp_region_bel (by kernel_rfl) (by kernel_rfl) ?_; (repeat (go_big_quiet_step ((first | (go_at_call 41; exact calls_bel (HF.out _)))))); refine wpQuiet_nil ?_; intro w' hw'; have hb := below_of hw'; clear hw'; (try clear cW fW zW); (first | (have bW := bstep bW hb) | (have bW := bstep (bdrew bW) hb) | (have bW := bstep (balloc bW _) hb) | (have bW := bstep (bdrewN bW _) hb) | (have bW := hb)); clear hb; obtain ⟨cW, fW⟩ := bcell bW; have zW := bsize bW)
        have hT5 := HT.out.below bW yl
        have s2 := zW b s1
        clear c1 c2 c3 c4 y0 y1 y2 yl
        go_wp2
        go_roundw
        case rel => exact ⟨k + 1, by omega, by go_num, by rw [HS.out], by rw [HS.out], hT5, bstep hW bW⟩
        case measure => simp [intOf]; omega
      · rw [if_neg hlt2] at hst
        have HS := Lib.hid hst
        clear hst
        go_wp2
        (refine wp_region_bel (by kernel_rfl) (by kernel_rfl) ?_; (repeat (go_big_quiet_step ((first | (go_at_call 41; exact calls_bel (HF.out _)))))); refine wpQuiet_nil ?_; intro w' hw'; have hb := below_of hw'; clear hw'; (try clear cW fW zW); (first | (have bW := bstep bW hb) | (have bW := bstep (bdrew bW) hb) | (have bW := bstep (balloc bW _) hb) | (have bW := bstep (bdrewN bW _) hb) | (have bW := hb)); clear hb; obtain ⟨cW, fW⟩ := bcell bW; have zW := bsize bW)
        have hT5 := HT.out.below bW yl
        have s2 := zW b s1
        clear c1 c2 c3 c4 y0 y1 y2 yl
        go_wp2
        go_roundw
        case rel => exact ⟨k + 1, by omega, by go_num, by rw [HS.out], by rw [HS.out], hT5, bstep hW bW⟩
        case measure => simp [intOf]; omega
    · have hkn : k = n := by omega
      subst hkn
      rw [EI.out, EM.out]
      have i2 : ¬ (k : Int) < (k : Int) := by omega
      go_wp2
      (try (refine wp_region_bel (by kernel_rfl) (by kernel_rfl) ?_; (repeat (go_big_quiet_step ((first | fail)))); refine wpQuiet_nil ?_; intro w' hw'; have hb := below_of hw'; clear hw'; (try clear cW fW zW); (first | (have bW := bstep bW hb) | (have bW := bstep (bdrew bW) hb) | (have bW := bstep (balloc bW _) hb) | (have bW := bstep (bdrewN bW _) hb) | (have bW := hb)); clear hb; obtain ⟨cW, fW⟩ := bcell bW; have zW := bsize bW))
      (try go_wp2)
      go_returns
      exact ⟨by first | rfl | (rw [← eQ]; done) | (rw [← eQ]; rfl), by first | exact hW | exact bstep hW bW⟩
theorem Best_is {q : Bool} {I M wa le ba : Int} {A : Option Addr} {n c : Nat} {zs : List AircraftT} (hq : baQ zs wa le ba = q) (hI : baI zs wa le ba = I) (hM : baM zs wa le ba = M) (w : World) (hr : Rd w 5 A n (acrF zs)) (hl : zs.length = n) (hn : n ≤ 1048576) :
    Calls Try.prog 31 #[.slice A n c, .agg #[.int .i64 wa, .int .i64 le, .int .i64 ba]] w fun e w' => e = .returned (.tuple #[.int .i64 I, .int .i64 M, .bool q]) ∧ Below w.heap.size w w' := by
  have b0 := balloc (Below.refl w.heap.size w) (.cells #[.int .i64 wa, .int .i64 le, .int .i64 ba] 31)
  have hT := Bk.new w 31 [.int .i64 wa, .int .i64 le, .int .i64 ba]
  rcases h1 : listedB zs 6 with _ | _
  · have HL := Lib.hid h1
    obtain ⟨e1, e2, e3⟩ := ba_no (show baB zs wa le ba = false by simp [baB, h1])
    obtain rfl := e1.symm.trans hq
    obtain rfl := e2.symm.trans hI
    obtain rfl := e3.symm.trans hM
    clear e1 e2 e3 hq hI hM
    go_enter Try.func31, Try.ntmps31
    go_wp2_with fail
    refine (areAircraft_of HL.out _ (hr.below b0) hl (by omega)).mono ?_
    rintro e w1 ⟨rfl, hb1⟩
    have b1 := bstep b0 hb1
    have hT1 := hT.below hb1 hT.lt
    go_wp2
    go_returns
    exact ⟨rfl, b1⟩
  have HL := Lib.hid h1
  rcases h2 : tgB wa le ba with _ | _
  · skip
    obtain ⟨e1, e2, e3⟩ := ba_no (show baB zs wa le ba = false by simp [baB, h2])
    obtain rfl := e1.symm.trans hq
    obtain rfl := e2.symm.trans hI
    obtain rfl := e3.symm.trans hM
    clear e1 e2 e3 hq hI hM
    go_enter Try.func31, Try.ntmps31
    go_wp2_with fail
    refine (areAircraft_of HL.out _ (hr.below b0) hl (by omega)).mono ?_
    rintro e w1 ⟨rfl, hb1⟩
    have b1 := bstep b0 hb1
    have hT1 := hT.below hb1 hT.lt
    obtain ⟨y0, y1, y2, yl⟩ := three_cells hT1
    go_wp2_with fail
    refine (tg_of false h2 _).mono ?_
    rintro e w2 ⟨rfl, hb2⟩
    have b1 := bstep b1 hb2
    have hT2 := hT1.below hb2 hT1.lt
    clear y0 y1 y2 yl
    go_wp2
    go_returns
    exact ⟨rfl, b1⟩
  have hB : baB zs wa le ba = true := by simp [baB, h1, h2]
  obtain ⟨g6, g7, g8⟩ := tgB_bd h2
  have eI : (bsA zs wa le ba n).1 = I := by rw [← hI, ← hl]; unfold baI; rw [if_pos hB]
  have eM : (bsA zs wa le ba n).2 = M := by rw [← hM, ← hl]; unfold baM; rw [if_pos hB]
  have eQ : decide (0 < M) = q := by rw [← hq, ← eM]; simp [baQ, hB, hl]
  have hMI := bsA_bd zs wa le ba n
  rw [eI, eM] at hMI
  have EI := Lib.hid eI
  have EM := Lib.hid eM
  clear h1 hB hq hI hM eI eM
  go_enter Try.func31, Try.ntmps31
  go_wp2_with fail
  refine (areAircraft_of HL.out _ (hr.below b0) hl (by omega)).mono ?_
  rintro e w1 ⟨rfl, hb1⟩
  have b1 := bstep b0 hb1
  have hT1 := hT.below hb1 hT.lt
  obtain ⟨y0, y1, y2, yl⟩ := three_cells hT1
  go_wp2_with fail
  refine (tg_of true h2 _).mono ?_
  rintro e w2 ⟨rfl, hb2⟩
  have b1 := bstep b1 hb2
  have hT2 := hT1.below hb2 hT1.lt
  clear y0 y1 y2 yl
  go_wp2_with fail
  go_loopw [7, 8, 22] (fun x y i wr => ∃ k : Nat, k ≤ n ∧ i = .int .i64 k ∧ x = .int .i64 (bsA zs wa le ba k).1 ∧ y = .int .i64 (bsA zs wa le ba k).2 ∧ Bk wr w.heap.size 31 [.int .i64 wa, .int .i64 le, .int .i64 ba] ∧ Below w.heap.size w wr) (fun _ _ i _ => n - (intOf i).toNat)
  case atStart => exact ⟨0, Nat.zero_le _, rfl, rfl, rfl, hT2, b1⟩
  case round =>
    obtain ⟨k, hk, rfl, rfl, rfl, hTk, hW⟩ := hrel
    obtain ⟨y0, y1, y2, yl⟩ := three_cells hTk
    have HT := Lib.hid hTk
    clear hTk
    by_cases hlt : k < n
    · obtain ⟨b, off, rfl, hbl, x0, x1, x2, x3, x4, hz, c0, c1, c2, c3, c4⟩ := acr_at hr hW hl hlt
      have s1 : b < wr.heap.size := Nat.lt_of_lt_of_le hbl hW.size
      have hac := listed_ok HL.out (show k < zs.length by omega) hz
      obtain ⟨g1, g2, g3, g4, g5⟩ := acB_bd hac
      have hmd := mdN_is g3 g4 g5 g6 g7 g8
      obtain ⟨N, hN⟩ : ∃ N, mdN x2 x3 x4 wa le ba = N := ⟨_, rfl⟩
      rw [hN] at hmd
      have hN6 : N ≤ 600 := hmd.1
      obtain ⟨p, hp⟩ : ∃ p, x1 * (N : Int) = p := ⟨_, rfl⟩
      have hp2 : (N : Int) * x1 = p := by rw [Int.mul_comm]; exact hp
      have hpb : 0 ≤ p ∧ p ≤ 12000000 := by
        rw [← hp]
        refine ⟨Int.mul_nonneg (by omega) (by omega), ?_⟩
        have h1 : x1 * (N : Int) ≤ 20000 * (N : Int) := Int.mul_le_mul_of_nonneg_right (by omega) (by omega)
        omega
      have hst := bsA_step (wa := wa) (le := le) (ba := ba) (y := p) (show k < zs.length by omega) hz (by rw [← hp, ← hN]; rfl)
      have hbd := bsA_bd zs wa le ba k
      obtain ⟨u, v, huv⟩ : ∃ u v, bsA zs wa le ba k = (u, v) := ⟨_, _, rfl⟩
      rw [huv] at hst hbd ⊢
      dsimp only at hst hbd ⊢
      have HF := Lib.hid (fun W => liters_is (i := x0) g2 g3 g4 g5 g6 g7 g8 hmd hp hpb W)
      have i1 : (0 : Int) ≤ (k : Int) := by omega
      have i2 : (k : Int) < (n : Int) := by omega
      have hwr : IntKind.i64.wrap p = p := IntWalk.i64_in _ (by omega)
      clear hmd hN hz huv hac
      by_cases hlt2 : v < p
      · rw [if_pos hlt2] at hst
        have HS := Lib.hid hst
        clear hst
        have hne : ¬ w.heap.size = wr.heap.size := by omega
        have hA5 := Bk.new wr 41 [.int .i64 x0, .int .i64 x1, .int .i64 x2, .int .i64 x3, .int .i64 x4]
        have hT5 := HT.out.alloc (.cells #[.int .i64 x0, .int .i64 x1, .int .i64 x2, .int .i64 x3, .int .i64 x4] 41)
        go_wp2_with fail
        refine (HF.out _).mono ?_
        rintro e w5 ⟨rfl, hb5⟩
        have hT6 := hT5.below hb5 hT5.lt
        have hA6 := hA5.below hb5 hA5.lt
        have b5 := bstep hW (bstep (balloc (Below.refl _ _) _) hb5)
        clear c0 c1 c2 c3 c4 y0 y1 y2 yl
        obtain ⟨z0, _, _, _, _, zl⟩ := five_cells hA6
        go_wp2
        go_roundw
        case rel => exact ⟨k + 1, by omega, by go_num, by rw [HS.out], by rw [HS.out], hT6, b5⟩
        case measure => simp [intOf]; omega
      · rw [if_neg hlt2] at hst
        have HS := Lib.hid hst
        clear hst
        have hne : ¬ w.heap.size = wr.heap.size := by omega
        have hA5 := Bk.new wr 41 [.int .i64 x0, .int .i64 x1, .int .i64 x2, .int .i64 x3, .int .i64 x4]
        have hT5 := HT.out.alloc (.cells #[.int .i64 x0, .int .i64 x1, .int .i64 x2, .int .i64 x3, .int .i64 x4] 41)
        go_wp2_with fail
        refine (HF.out _).mono ?_
        rintro e w5 ⟨rfl, hb5⟩
        have hT6 := hT5.below hb5 hT5.lt
        have hA6 := hA5.below hb5 hA5.lt
        have b5 := bstep hW (bstep (balloc (Below.refl _ _) _) hb5)
        clear c0 c1 c2 c3 c4 y0 y1 y2 yl
        obtain ⟨z0, _, _, _, _, zl⟩ := five_cells hA6
        go_wp2
        go_roundw
        case rel => exact ⟨k + 1, by omega, by go_num, by rw [HS.out], by rw [HS.out], hT6, b5⟩
        case measure => simp [intOf]; omega
    · have hkn : k = n := by omega
      subst hkn
      rw [EI.out, EM.out]
      have i2 : ¬ (k : Int) < (k : Int) := by omega
      by_cases hM0 : M = 0
      · obtain rfl : q = false := by rw [← eQ]; simp [hM0]
        obtain rfl : I = 0 := hMI.2 hM0
        subst hM0
        go_wp2
        go_returns
        exact ⟨rfl, hW⟩
      · obtain rfl : q = true := by rw [← eQ]; simp; omega
        have hm0 : (M == 0) = false := by simpa using hM0
        go_wp2
        go_returns
        exact ⟨rfl, hW⟩
end Go.Proofs.Ytbioleagenoogaa
