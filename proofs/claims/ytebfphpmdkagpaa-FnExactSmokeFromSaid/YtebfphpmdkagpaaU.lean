/-
  SmokeFrom of the reference and of the program. Conditions: lengths within the bound of a slice.
-/
import Derived.Test.YtebfphpmdkagpaaQ
namespace Go.Proofs.Ytebfphpmdkagpaa
open Go.RowKit
set_option maxRecDepth 100000
set_option maxHeartbeats 2000000

/-- the grams that the wind blows away from cell k -/
def blo (zs : List Int) (h : Int) (k : Nat) : Int := zs.getD k 0 * h / 10
def sfl (W H e s h c : Int) (zs : List Int) : Nat → List Int
  | 0 => []
  | k + 1 => if sto W H e s k = c ∧ 0 < blo zs h k then sfl W H e s h c zs k ++ [(k : Int)] else sfl W H e s h c zs k
theorem sfl_len (W H e s h c : Int) (zs : List Int) : ∀ k, (sfl W H e s h c zs k).length ≤ k
  | 0 => Nat.le_refl _
  | k + 1 => by
    have h1 := sfl_len W H e s h c zs k
    unfold sfl
    split <;> simp <;> omega
theorem sfl_is {W H e s h c : Int} {zs : List Int} {f : Int} (hW : 1 ≤ W ∧ W ≤ 5) (hc : 0 ≤ c ∧ c < W * H) (hf : sto W H (-e) (-s) c = f) : ∀ k : Nat, (k : Int) ≤ W * H → sfl W H e s h c zs k = if 0 ≤ f ∧ f < (k : Int) ∧ 0 < blo zs h f.toNat then [f] else []
  | 0, _ => by rw [if_neg (by omega)]; rfl
  | k + 1, hk => by
    have ih := sfl_is (h := h) (zs := zs) hW hc hf k (by omega)
    have hv := sto_inv (W := W) (H := H) (e := e) (s := s) (k := (k : Int)) hW (by omega) hc
    rw [hf] at hv
    show (if sto W H e s (k : Int) = c ∧ 0 < blo zs h k then sfl W H e s h c zs k ++ [(k : Int)] else sfl W H e s h c zs k) = _
    rw [ih]
    by_cases hfk : f = (k : Int)
    · subst hfk
      by_cases hb : 0 < blo zs h k
      · rw [if_pos (show _ ∧ _ from ⟨hv.2 rfl, hb⟩), if_neg (by omega), if_pos ⟨by omega, by omega, by simpa using hb⟩]; rfl
      · rw [if_neg (show ¬ (_ ∧ _) from fun x => hb x.2), if_neg (by omega), if_neg (fun x => hb (by simpa using x.2.2))]
    · rw [if_neg (show ¬ (_ ∧ _) from fun x => hfk (hv.1 x.1))]
      by_cases hr : 0 ≤ f ∧ f < (k : Int) ∧ 0 < blo zs h f.toNat
      · rw [if_pos hr, if_pos ⟨hr.1, by omega, hr.2.2⟩]
      · rw [if_neg hr, if_neg (fun x => hr ⟨x.1, by omega, x.2.2⟩)]
def sfB (W H e s h c : Int) (zs : List Int) : Bool := smB W H zs && (wnB e s h && inB c 0 ((zs.length : Int) - 1))
def sfL (W H e s h c : Int) (zs : List Int) : List Int := if sfB W H e s h c zs = true then sfl W H e s h c zs zs.length else []
theorem sfL_len {W H e s h c : Int} {zs : List Int} : (sfL W H e s h c zs).length ≤ zs.length := by
  unfold sfL
  split
  · exact sfl_len _ _ _ _ _ _ _ _
  · exact Nat.zero_le _
theorem smB_all3 {W H : Int} {zs : List Int} (h : smB W H zs = true) : (1 ≤ W ∧ W ≤ 5) ∧ (1 ≤ H ∧ H ≤ 5) ∧ (zs.length : Int) = W * H ∧ zs.length ≤ 25 ∧ zs.all grmP = true := by
  simp only [smB, Bool.and_eq_true, decide_eq_true_eq] at h
  have := side_bd h.1.1 h.1.2
  exact ⟨this.1, this.2.1, h.2.1, by omega, h.2.2⟩
theorem blo_bd {x h p : Int} (hx : 0 ≤ x ∧ x ≤ 10000) (hh : 1 ≤ h ∧ h ≤ 10) (hp : x * h = p) : 0 ≤ p ∧ p ≤ 100000 := by
  rw [← hp]
  refine ⟨Int.mul_nonneg hx.1 (by omega), ?_⟩
  have q : x * h ≤ 10000 * h := Int.mul_le_mul_of_nonneg_right hx.2 (by omega)
  omega
theorem sSmokeFrom_is {q : Bool} {L : List Int} {W H e s h x : Int} {A : Option Addr} {n c : Nat} {zs : List Int} (hq : sfB W H e s h x zs = q) (hL : sfL W H e s h x zs = L) (w : World) (hr : Rd w 1 A n (ints zs)) (hl : zs.length = n) (hn : n ≤ 1048576) :
    Calls Try.prog 24 #[.agg #[.int .i64 W, .int .i64 H, .slice A n c], .agg #[.int .i64 e, .int .i64 s, .int .i64 h], .int .i64 x] w fun r w' => ∃ v, r = .returned (.tuple #[v, .bool q]) ∧ w'.ownsRow w.heap.size 3 1 v L.length (ints L) ∧ Below w.heap.size w w' := by
  obtain ⟨i0, hi0, hz0, hz1, hz2⟩ := info_parts (show (Try.prog.info? 3).map (fun i => (i.zero, i.size, i.bytes)) = some (some (.int .i64 0), 1, 8) from by kernel_rfl)
  have hwn : IntKind.i64.wrap ((n : Int) - 1) = (n : Int) - 1 := IntWalk.i64_in _ (by omega)
  go_enter Try.func24, Try.ntmps24
  go_upto_region 2 with fail
  refine wp_gen (fun w0 => (Bk w0 w.heap.size 27 [.int .i64 W, .int .i64 H, .slice A n c] ∧ Bk w0 (w.heap.size + 1) 44 [.int .i64 e, .int .i64 s, .int .i64 h]) ∧ w0.ownsRow (w.heap.size + 2) 3 1 (.slice (some ⟨w.heap.size + 2, 0, none⟩) 0 0) 0 [] ∧ Below w.heap.size w w0) ⟨⟨Bk.alloc (Bk.alloc (Bk.new' rfl) _) _, Bk.alloc (Bk.new' (by simp)) _⟩, own_lit' (by simp) (by simp), by (repeat' (first | (with_reducible exact Below.refl _ _) | (with_reducible assumption) | (with_reducible refine balloc ?_ _) | (with_reducible refine bdrew ?_) | (with_reducible refine bdrewN ?_ _) | (with_reducible refine bstep ?_ (by assumption)) | (with_reducible refine bset ?_ ?_ _) | (exact Below.size (by assumption)) | go_size))⟩ ?_
  intro w0 ⟨⟨hX, hY⟩, ho, b0⟩
  have HO := Lib.hid ho
  clear ho
  obtain ⟨x0, x1, x2, xl⟩ := three_cells hX
  obtain ⟨y0, y1, y2, yl⟩ := three_cells hY
  have HX := Lib.hid hX
  have HY := Lib.hid hY
  clear hX hY
  rcases h1 : smB W H zs with _ | _
  · have H1 := Lib.hid h1
    obtain rfl : q = false := by rw [← hq]; simp [sfB, h1]
    obtain rfl : ([] : List Int) = L := by rw [← hL]; simp [sfL, hq]
    clear hq hL
    go_wp2_with fail
    refine (l19Good_is H1.out _ (hr.below b0) hl (by omega)).mono ?_
    rintro r w1 ⟨rfl, hb1⟩
    have b1 := bstep b0 hb1
    have HX := Lib.hid (HX.out.below hb1 HX.out.lt)
    have HY := Lib.hid (HY.out.below hb1 HY.out.lt)
    clear x0 x1 x2 xl y0 y1 y2 yl
    obtain ⟨x0, x1, x2, xl⟩ := three_cells HX.out
    obtain ⟨y0, y1, y2, yl⟩ := three_cells HY.out
    go_wp2
    go_returns
    exact ⟨_, rfl, own_weaken (own_below HO.out hb1) (by omega), b1⟩
  have H1 := Lib.hid h1
  rcases h2 : wnB e s h with _ | _
  · skip
    obtain rfl : q = false := by rw [← hq]; simp [sfB, h2]
    obtain rfl : ([] : List Int) = L := by rw [← hL]; simp [sfL, hq]
    clear hq hL
    go_wp2_with fail
    refine (l19Good_is H1.out _ (hr.below b0) hl (by omega)).mono ?_
    rintro r w1 ⟨rfl, hb1⟩
    have b1 := bstep b0 hb1
    have HX := Lib.hid (HX.out.below hb1 HX.out.lt)
    have HY := Lib.hid (HY.out.below hb1 HY.out.lt)
    clear x0 x1 x2 xl y0 y1 y2 yl
    obtain ⟨x0, x1, x2, xl⟩ := three_cells HX.out
    obtain ⟨y0, y1, y2, yl⟩ := three_cells HY.out
    go_wp2_with fail
    refine (l19Wind_of false h2 _).mono ?_
    rintro r w2 ⟨rfl, hb2⟩
    have b2 := bstep b1 hb2
    have HX := Lib.hid (HX.out.below hb2 HX.out.lt)
    have HY := Lib.hid (HY.out.below hb2 HY.out.lt)
    clear x0 x1 x2 xl y0 y1 y2 yl
    obtain ⟨x0, x1, x2, xl⟩ := three_cells HX.out
    obtain ⟨y0, y1, y2, yl⟩ := three_cells HY.out
    go_wp2
    go_returns
    exact ⟨_, rfl, own_weaken (own_below HO.out (bstep hb1 hb2)) (by omega), b2⟩
  rcases h3 : inB x 0 ((n : Int) - 1) with _ | _
  · skip
    obtain rfl : q = false := by rw [← hq]; simp [sfB, h3, hl]
    obtain rfl : ([] : List Int) = L := by rw [← hL]; simp [sfL, hq]
    clear hq hL
    go_wp2_with fail
    refine (l19Good_is H1.out _ (hr.below b0) hl (by omega)).mono ?_
    rintro r w1 ⟨rfl, hb1⟩
    have b1 := bstep b0 hb1
    have HX := Lib.hid (HX.out.below hb1 HX.out.lt)
    have HY := Lib.hid (HY.out.below hb1 HY.out.lt)
    clear x0 x1 x2 xl y0 y1 y2 yl
    obtain ⟨x0, x1, x2, xl⟩ := three_cells HX.out
    obtain ⟨y0, y1, y2, yl⟩ := three_cells HY.out
    go_wp2_with fail
    refine (l19Wind_of true h2 _).mono ?_
    rintro r w2 ⟨rfl, hb2⟩
    have b2 := bstep b1 hb2
    have HX := Lib.hid (HX.out.below hb2 HX.out.lt)
    have HY := Lib.hid (HY.out.below hb2 HY.out.lt)
    clear x0 x1 x2 xl y0 y1 y2 yl
    obtain ⟨x0, x1, x2, xl⟩ := three_cells HX.out
    obtain ⟨y0, y1, y2, yl⟩ := three_cells HY.out
    go_wp2_with fail
    refine (l1In_of false h3 _).mono ?_
    rintro r w3 ⟨rfl, rfl⟩
    go_wp2
    go_returns
    exact ⟨_, rfl, own_weaken (own_below HO.out (bstep hb1 hb2)) (by omega), b2⟩
  obtain ⟨g1, g2, g3, g4, g5⟩ := smB_all3 h1
  obtain ⟨g6, g7, g8⟩ := wnB_bd h2
  have g9 := inB_iff.1 h3
  rw [hl] at g3 g4
  have G3 := Lib.hid g3
  clear g3
  obtain rfl : q = true := by rw [← hq]; simp [sfB, h1, h2, h3, hl]
  have hL2 : sfl W H e s h x zs n = L := by rw [← hL]; unfold sfL; rw [if_pos hq, hl]
  have HZ := Lib.hid (grms_bd g5)
  have HL2 := Lib.hid hL2
  clear hq hL hL2 h1 g5
  go_wp2_with fail
  refine (l19Good_is H1.out _ (hr.below b0) hl (by omega)).mono ?_
  rintro r w1 ⟨rfl, hb1⟩
  have b1 := bstep b0 hb1
  have HX := Lib.hid (HX.out.below hb1 HX.out.lt)
  have HY := Lib.hid (HY.out.below hb1 HY.out.lt)
  clear x0 x1 x2 xl y0 y1 y2 yl
  obtain ⟨x0, x1, x2, xl⟩ := three_cells HX.out
  obtain ⟨y0, y1, y2, yl⟩ := three_cells HY.out
  go_wp2_with fail
  refine (l19Wind_of true h2 _).mono ?_
  rintro r w2 ⟨rfl, hb2⟩
  have b2 := bstep b1 hb2
  have HX := Lib.hid (HX.out.below hb2 HX.out.lt)
  have HY := Lib.hid (HY.out.below hb2 HY.out.lt)
  clear x0 x1 x2 xl y0 y1 y2 yl
  obtain ⟨x0, x1, x2, xl⟩ := three_cells HX.out
  obtain ⟨y0, y1, y2, yl⟩ := three_cells HY.out
  go_wp2_with fail
  refine (l1In_of true h3 _).mono ?_
  rintro r w3 ⟨rfl, rfl⟩
  obtain ⟨U, rfl⟩ : ∃ U : Nat, W = (U : Int) := ⟨W.toNat, by omega⟩
  obtain ⟨xc, rfl⟩ : ∃ k : Nat, x = (k : Int) := ⟨x.toNat, by omega⟩
  have ho2 := own_below HO.out (bstep hb1 hb2)
  clear HO hb1 hb2 b1 x0 x1 x2 xl y0 y1 y2 yl
  go_wp2_with fail
  go_loopw [8, 9] (fun v i wr => ∃ k m : Nat, k ≤ n ∧ i = .int .i64 k ∧ (sfl U H e s h xc zs k).length = m ∧ wr.ownsRow (w.heap.size + 2) 3 1 v m (ints (sfl U H e s h xc zs k)) ∧ Bk wr w.heap.size 27 [.int .i64 (U : Int), .int .i64 H, .slice A n c] ∧ Bk wr (w.heap.size + 1) 44 [.int .i64 e, .int .i64 s, .int .i64 h] ∧ Below w.heap.size w wr) (fun _ i _ => n - (intOf i).toNat)
  case atStart => exact ⟨0, 0, Nat.zero_le _, rfl, rfl, ho2, HX.out, HY.out, b2⟩
  case round =>
    obtain ⟨k, m, hk, rfl, hm, hown, hXk, hYk, hW⟩ := hrel
    clear HX HY
    obtain ⟨x0, x1, x2, xl⟩ := three_cells hXk
    obtain ⟨y0, y1, y2, yl⟩ := three_cells hYk
    have HX := Lib.hid hXk
    have HY := Lib.hid hYk
    have HOW := Lib.hid hown
    have HM := Lib.hid hm
    clear hXk hYk hown
    have hmk := sfl_len (U : Int) H e s h xc zs k
    rw [hm] at hmk
    clear hm
    by_cases hlt : k < n
    · obtain ⟨b, off, y, rfl, hbl, hz, c0⟩ := ints_at hr hW hl hlt
      have s1 : b < wr.heap.size := Nat.lt_of_lt_of_le hbl hW.size
      have hyb := HZ.out y (hz ▸ List.getElem_mem (by omega))
      obtain ⟨t, ht⟩ : ∃ t, sto U H e s (k : Int) = t := ⟨_, rfl⟩
      have HF := Lib.hid (fun W => l19To_is (h := h) (A := some ⟨b, off, none⟩) (n := n) (c := c) g1 g2 g6 g7 (show k ≤ 24 by omega) ht W)
      obtain ⟨p, hp⟩ : ∃ p, y * h = p := ⟨_, rfl⟩
      have hpb := blo_bd hyb g8 hp
      obtain ⟨z, hzz⟩ : ∃ z, p / 10 = z := ⟨_, rfl⟩
      have hzt : p.tdiv 10 = z := by rw [Int.tdiv_eq_ediv_of_nonneg hpb.1]; exact hzz
      have hblo : blo zs h k = z := by unfold blo; rw [getD_of (show k < zs.length by omega) hz, hp]; exact hzz
      have hzb : 0 ≤ z ∧ z ≤ 100000 := by omega
      have hwp : IntKind.i64.wrap p = p := IntWalk.i64_in _ (by omega)
      have hwz : IntKind.i64.wrap z = z := IntWalk.i64_in _ (by omega)
      have hst : sfl (U : Int) H e s h xc zs (k + 1) = if t = (xc : Int) ∧ 0 < z then sfl (U : Int) H e s h xc zs k ++ [(k : Int)] else sfl (U : Int) H e s h xc zs k := by show (if sto _ _ _ _ _ = _ ∧ 0 < blo zs h k then _ else _) = _; rw [ht, hblo]
      have i1 : (0 : Int) ≤ (k : Int) := by omega
      have i2 : (k : Int) < (n : Int) := by omega
      clear ht hblo hz
      by_cases htc : t = (xc : Int)
      · have heq : (t == (xc : Int)) = true := by simp [htc]
        have HTC := Lib.hid htc
        clear htc
        by_cases hz0' : 0 < z
        · have hd : decide (0 < z) = true := by simp [hz0']
          rw [if_pos ⟨HTC.out, hz0'⟩] at hst
          have HS := Lib.hid hst
          clear hst hz0'
          go_wp2
          (refine wp_region_bel (by kernel_rfl) (by kernel_rfl) ?_; (repeat (go_big_quiet_step ((first | (go_at_call 42; exact calls_bel (HF.out _)))))); refine wpQuiet_nil ?_; intro w' hw'; have hb := below_of hw'; clear hw'; (try clear cW fW zW); (first | (have bW := bstep bW hb) | (have bW := bstep (bdrew bW) hb) | (have bW := bstep (balloc bW _) hb) | (have bW := bstep (bdrewN bW _) hb) | (have bW := hb)); clear hb; obtain ⟨cW, fW⟩ := bcell bW; have zW := bsize bW)
          have ho5 := own_below HOW.out bW
          have hX5 := HX.out.below bW xl
          have hY5 := HY.out.below bW yl
          have b5 := bstep hW bW
          have z5 := hY5.lt
          clear x0 x1 x2 xl y0 y1 y2 yl c0 cW fW zW bW
          go_wp2_with (first | (at_builtin; refine wpList_append_own _ rfl (.tmp 54) (.tmp 56) 22 rfl (w.heap.size + 2) 3 i0 (.int .i64 0) 1 8 Try.underlying22 hi0 hz0 hz1 hz2 rfl (by decide) _ _ _ rfl (own_alloc ho5 _) ⟨_, 0, none⟩ 1 1 [.int .i64 (k : Int)] rfl rfl ?c1 ?c2 ?c3 ?c4 ?c5 ?_))
          case c1 => exact one_new rfl
          case c2 => (first | rfl | (intro u hu; simp at hu; subst hu; rfl))
          case c3 => (unfold maxLen; omega)
          case c4 => omega
          case c5 => (simp; omega)
          intro v' w6 hown' hgrow _
          have hX6 := (hX5.alloc (.cells #[.int .i64 (k : Int)] 3)).grown hgrow (by
            intro e
            have := (ho5.lt _ e.symm).1
            omega)
          have hY6 := (hY5.alloc (.cells #[.int .i64 (k : Int)] 3)).grown hgrow (by
            intro e
            have := (ho5.lt _ e.symm).1
            omega)
          have b6 : Below w.heap.size w w6 := (balloc b5 (.cells #[.int .i64 (k : Int)] 3)).grown hgrow (by simp; omega) (fun g hg => by have := (ho5.lt g hg).1; omega)
          go_wp2
          go_roundw
          case rel => exact ⟨k + 1, m + 1, by omega, by go_num, by rw [HS.out]; simp [HM.out], by rw [HS.out]; simpa [ints] using hown', hX6, hY6, b6⟩
          case measure => simp [intOf]; omega
        · have hd : decide (0 < z) = false := by simp; omega
          rw [if_neg (by exact fun x => hz0' x.2)] at hst
          have HS := Lib.hid hst
          clear hst
          go_wp2
          (refine wp_region_bel (by kernel_rfl) (by kernel_rfl) ?_; (repeat (go_big_quiet_step ((first | (go_at_call 42; exact calls_bel (HF.out _)))))); refine wpQuiet_nil ?_; intro w' hw'; have hb := below_of hw'; clear hw'; (try clear cW fW zW); (first | (have bW := bstep bW hb) | (have bW := bstep (bdrew bW) hb) | (have bW := bstep (balloc bW _) hb) | (have bW := bstep (bdrewN bW _) hb) | (have bW := hb)); clear hb; obtain ⟨cW, fW⟩ := bcell bW; have zW := bsize bW)
          go_wp2
          go_roundw
          case rel => exact ⟨k + 1, m, by omega, by go_num, by rw [HS.out]; exact HM.out, by rw [HS.out]; exact own_below HOW.out bW, HX.out.below bW xl, HY.out.below bW yl, bstep hW bW⟩
          case measure => simp [intOf]; omega
      · have heq : (t == (xc : Int)) = false := by simpa using htc
        rw [if_neg (by exact fun x => htc x.1)] at hst
        have HS := Lib.hid hst
        clear hst
        go_wp2
        (refine wp_region_bel (by kernel_rfl) (by kernel_rfl) ?_; (repeat (go_big_quiet_step ((first | (go_at_call 42; exact calls_bel (HF.out _)))))); refine wpQuiet_nil ?_; intro w' hw'; have hb := below_of hw'; clear hw'; (try clear cW fW zW); (first | (have bW := bstep bW hb) | (have bW := bstep (bdrew bW) hb) | (have bW := bstep (balloc bW _) hb) | (have bW := bstep (bdrewN bW _) hb) | (have bW := hb)); clear hb; obtain ⟨cW, fW⟩ := bcell bW; have zW := bsize bW)
        go_wp2
        go_roundw
        case rel => exact ⟨k + 1, m, by omega, by go_num, by rw [HS.out]; exact HM.out, by rw [HS.out]; exact own_below HOW.out bW, HX.out.below bW xl, HY.out.below bW yl, bstep hW bW⟩
        case measure => simp [intOf]; omega
    · have hkn : k = n := by omega
      subst hkn
      have ho3 := own_weaken (base' := w.heap.size) HOW.out (by omega)
      have hm2 := HM.out
      rw [HL2.out] at ho3 hm2
      have HO3 := Lib.hid ho3
      clear ho3 HOW
      go_wp2
      go_returns
      exact ⟨_, rfl, by rw [hm2]; exact HO3.out, hW⟩
theorem SmokeFrom_is {q : Bool} {L : List Int} {W H e s h x : Int} {A : Option Addr} {n c : Nat} {zs : List Int} (hq : sfB W H e s h x zs = q) (hL : sfL W H e s h x zs = L) (w : World) (hr : Rd w 1 A n (ints zs)) (hl : zs.length = n) (hn : n ≤ 1048576) :
    Calls Try.prog 26 #[.agg #[.int .i64 W, .int .i64 H, .slice A n c], .agg #[.int .i64 e, .int .i64 s, .int .i64 h], .int .i64 x] w fun r w' => ∃ v, r = .returned (.tuple #[v, .bool q]) ∧ w'.ownsRow w.heap.size 3 1 v L.length (ints L) ∧ Below w.heap.size w w' := by
  obtain ⟨i0, hi0, hz0, hz1, hz2⟩ := info_parts (show (Try.prog.info? 3).map (fun i => (i.zero, i.size, i.bytes)) = some (some (.int .i64 0), 1, 8) from by kernel_rfl)
  have hwn : IntKind.i64.wrap ((n : Int) - 1) = (n : Int) - 1 := IntWalk.i64_in _ (by omega)
  go_enter Try.func26, Try.ntmps26
  go_upto_region 1 with fail
  refine wp_gen (fun w0 => (Bk w0 w.heap.size 27 [.int .i64 W, .int .i64 H, .slice A n c] ∧ Bk w0 (w.heap.size + 1) 44 [.int .i64 e, .int .i64 s, .int .i64 h]) ∧ Below w.heap.size w w0) ⟨⟨Bk.alloc (Bk.new' rfl) _, Bk.new' (by simp)⟩, by (repeat' (first | (with_reducible exact Below.refl _ _) | (with_reducible assumption) | (with_reducible refine balloc ?_ _) | (with_reducible refine bdrew ?_) | (with_reducible refine bdrewN ?_ _) | (with_reducible refine bstep ?_ (by assumption)) | (with_reducible refine bset ?_ ?_ _) | (exact Below.size (by assumption)) | go_size))⟩ ?_
  intro w0 ⟨⟨hX, hY⟩, b0⟩
  obtain ⟨x0, x1, x2, xl⟩ := three_cells hX
  obtain ⟨y0, y1, y2, yl⟩ := three_cells hY
  have HX := Lib.hid hX
  have HY := Lib.hid hY
  clear hX hY
  rcases h1 : smB W H zs with _ | _
  · have H1 := Lib.hid h1
    obtain rfl : q = false := by rw [← hq]; simp [sfB, h1]
    obtain rfl : ([] : List Int) = L := by rw [← hL]; simp [sfL, hq]
    clear hq hL
    go_wp2_with fail
    refine (IsSmoke_is H1.out _ (hr.below b0) hl (by omega)).mono ?_
    rintro r w1 ⟨rfl, hb1⟩
    have b1 := bstep b0 hb1
    have HX := Lib.hid (HX.out.below hb1 HX.out.lt)
    have HY := Lib.hid (HY.out.below hb1 HY.out.lt)
    clear x0 x1 x2 xl y0 y1 y2 yl
    obtain ⟨x0, x1, x2, xl⟩ := three_cells HX.out
    obtain ⟨y0, y1, y2, yl⟩ := three_cells HY.out
    go_wp2
    go_returns
    exact ⟨_, rfl, World.ownsRow_nil _ _ _ _, b1⟩
  have H1 := Lib.hid h1
  rcases h2 : wnB e s h with _ | _
  · skip
    obtain rfl : q = false := by rw [← hq]; simp [sfB, h2]
    obtain rfl : ([] : List Int) = L := by rw [← hL]; simp [sfL, hq]
    clear hq hL
    go_wp2_with fail
    refine (IsSmoke_is H1.out _ (hr.below b0) hl (by omega)).mono ?_
    rintro r w1 ⟨rfl, hb1⟩
    have b1 := bstep b0 hb1
    have HX := Lib.hid (HX.out.below hb1 HX.out.lt)
    have HY := Lib.hid (HY.out.below hb1 HY.out.lt)
    clear x0 x1 x2 xl y0 y1 y2 yl
    obtain ⟨x0, x1, x2, xl⟩ := three_cells HX.out
    obtain ⟨y0, y1, y2, yl⟩ := three_cells HY.out
    go_wp2_with fail
    refine (isWind_of false h2 _).mono ?_
    rintro r w2 ⟨rfl, hb2⟩
    have b2 := bstep b1 hb2
    have HX := Lib.hid (HX.out.below hb2 HX.out.lt)
    have HY := Lib.hid (HY.out.below hb2 HY.out.lt)
    clear x0 x1 x2 xl y0 y1 y2 yl
    obtain ⟨x0, x1, x2, xl⟩ := three_cells HX.out
    obtain ⟨y0, y1, y2, yl⟩ := three_cells HY.out
    go_wp2
    go_returns
    exact ⟨_, rfl, World.ownsRow_nil _ _ _ _, b2⟩
  rcases h3 : inB x 0 ((n : Int) - 1) with _ | _
  · skip
    obtain rfl : q = false := by rw [← hq]; simp [sfB, h3, hl]
    obtain rfl : ([] : List Int) = L := by rw [← hL]; simp [sfL, hq]
    clear hq hL
    go_wp2_with fail
    refine (IsSmoke_is H1.out _ (hr.below b0) hl (by omega)).mono ?_
    rintro r w1 ⟨rfl, hb1⟩
    have b1 := bstep b0 hb1
    have HX := Lib.hid (HX.out.below hb1 HX.out.lt)
    have HY := Lib.hid (HY.out.below hb1 HY.out.lt)
    clear x0 x1 x2 xl y0 y1 y2 yl
    obtain ⟨x0, x1, x2, xl⟩ := three_cells HX.out
    obtain ⟨y0, y1, y2, yl⟩ := three_cells HY.out
    go_wp2_with fail
    refine (isWind_of true h2 _).mono ?_
    rintro r w2 ⟨rfl, hb2⟩
    have b2 := bstep b1 hb2
    have HX := Lib.hid (HX.out.below hb2 HX.out.lt)
    have HY := Lib.hid (HY.out.below hb2 HY.out.lt)
    clear x0 x1 x2 xl y0 y1 y2 yl
    obtain ⟨x0, x1, x2, xl⟩ := three_cells HX.out
    obtain ⟨y0, y1, y2, yl⟩ := three_cells HY.out
    go_wp2_with fail
    refine (in_of false h3 _).mono ?_
    rintro r w3 ⟨rfl, rfl⟩
    go_wp2
    go_returns
    exact ⟨_, rfl, World.ownsRow_nil _ _ _ _, b2⟩
  obtain ⟨g1, g2, g3, g4, g5⟩ := smB_all3 h1
  obtain ⟨g6, g7, g8⟩ := wnB_bd h2
  have g9 := inB_iff.1 h3
  rw [hl] at g3 g4
  have G3 := Lib.hid g3
  clear g3
  obtain rfl : q = true := by rw [← hq]; simp [sfB, h1, h2, h3, hl]
  have hL2 : sfl W H e s h x zs n = L := by rw [← hL]; unfold sfL; rw [if_pos hq, hl]
  have HZ := Lib.hid (grms_bd g5)
  have HL2 := Lib.hid hL2
  clear hq hL hL2 h1 g5
  go_wp2_with fail
  refine (IsSmoke_is H1.out _ (hr.below b0) hl (by omega)).mono ?_
  rintro r w1 ⟨rfl, hb1⟩
  have b1 := bstep b0 hb1
  have HX := Lib.hid (HX.out.below hb1 HX.out.lt)
  have HY := Lib.hid (HY.out.below hb1 HY.out.lt)
  clear x0 x1 x2 xl y0 y1 y2 yl
  obtain ⟨x0, x1, x2, xl⟩ := three_cells HX.out
  obtain ⟨y0, y1, y2, yl⟩ := three_cells HY.out
  go_wp2_with fail
  refine (isWind_of true h2 _).mono ?_
  rintro r w2 ⟨rfl, hb2⟩
  have b2 := bstep b1 hb2
  have HX := Lib.hid (HX.out.below hb2 HX.out.lt)
  have HY := Lib.hid (HY.out.below hb2 HY.out.lt)
  clear x0 x1 x2 xl y0 y1 y2 yl
  obtain ⟨x0, x1, x2, xl⟩ := three_cells HX.out
  obtain ⟨y0, y1, y2, yl⟩ := three_cells HY.out
  go_wp2_with fail
  refine (in_of true h3 _).mono ?_
  rintro r w3 ⟨rfl, rfl⟩
  obtain ⟨U, rfl⟩ : ∃ U : Nat, W = (U : Int) := ⟨W.toNat, by omega⟩
  obtain ⟨xc, rfl⟩ : ∃ k : Nat, x = (k : Int) := ⟨x.toNat, by omega⟩
  clear b1 hb1 hb2
  have hwe : IntKind.i64.wrap (-e) = -e := IntWalk.i64_in _ (by omega)
  have hws : IntKind.i64.wrap (-s) = -s := IntWalk.i64_in _ (by omega)
  obtain ⟨f, hf⟩ : ∃ f, sto (U : Int) H (-e) (-s) (xc : Int) = f := ⟨_, rfl⟩
  have hfb := sto_bd (e := -e) (s := -s) (k := (xc : Int)) g1 g2
  rw [hf] at hfb
  have hf1 : -1 ≤ f := hfb.1
  have g3 := G3.out
  have hfb2 : f < (n : Int) := by omega
  have hsl := sfl_is (h := h) (zs := zs) g1 (show 0 ≤ (xc : Int) ∧ (xc : Int) < (U : Int) * H by omega) hf n (by omega)
  rw [HL2.out] at hsl
  have HF := Lib.hid (fun W => from_is (A := A) (n := n) (c := c) g1 g2 (show -1 ≤ -e ∧ -e ≤ 1 by omega) (show -1 ≤ -s ∧ -s ≤ 1 by omega) (show xc ≤ 24 by omega) hf W)
  clear hf HL2 g3 hfb
  go_wp2_with fail
  refine (HF.out _).mono ?_
  rintro r w4 ⟨rfl, hb4⟩
  have b4 := bstep b2 hb4
  have HX := Lib.hid (HX.out.below hb4 HX.out.lt)
  have HY := Lib.hid (HY.out.below hb4 HY.out.lt)
  clear x0 x1 x2 xl y0 y1 y2 yl
  obtain ⟨x0, x1, x2, xl⟩ := three_cells HX.out
  obtain ⟨y0, y1, y2, yl⟩ := three_cells HY.out
  by_cases hf0 : f < 0
  · obtain rfl : ([] : List Int) = L := by rw [hsl, if_neg (by omega)]
    have hd : decide (f < 0) = true := by simp [hf0]
    clear hsl
    go_wp2
    (try (refine wp_region_bel (by kernel_rfl) (by kernel_rfl) ?_; (repeat (go_big_quiet_step ((first | fail)))); refine wpQuiet_nil ?_; intro w' hw'; have hb := below_of hw'; clear hw'; (try clear cW fW zW); (first | (have bW := bstep bW hb) | (have bW := bstep (bdrew bW) hb) | (have bW := bstep (balloc bW _) hb) | (have bW := bstep (bdrewN bW _) hb) | (have bW := hb)); clear hb; obtain ⟨cW, fW⟩ := bcell bW; have zW := bsize bW))
    (try go_wp2)
    go_returns
    have := b4.size
    first
      | exact ⟨_, rfl, own_lit' rfl (by omega), balloc b4 _⟩
      | exact ⟨_, rfl, own_lit' rfl (by have := bW.size; omega), balloc (bstep b4 bW) _⟩
  obtain ⟨fn, rfl⟩ : ∃ k : Nat, f = (k : Int) := ⟨f.toNat, by omega⟩
  obtain ⟨b, off, y, rfl, hbl, hz, c0⟩ := ints_at hr b4 hl (show fn < n by omega)
  have s1 : b < w4.heap.size := Nat.lt_of_lt_of_le hbl b4.size
  have hyb := HZ.out y (hz ▸ List.getElem_mem (by omega))
  obtain ⟨p, hp⟩ : ∃ p, y * h = p := ⟨_, rfl⟩
  have hpb := blo_bd hyb g8 hp
  obtain ⟨z, hzz⟩ : ∃ z, p / 10 = z := ⟨_, rfl⟩
  have hzt : p.tdiv 10 = z := by rw [Int.tdiv_eq_ediv_of_nonneg hpb.1]; exact hzz
  have hblo : blo zs h fn = z := by unfold blo; rw [getD_of (show fn < zs.length by omega) hz, hp]; exact hzz
  have hzb : 0 ≤ z ∧ z ≤ 100000 := by omega
  have hwp : IntKind.i64.wrap p = p := IntWalk.i64_in _ (by omega)
  have hwz : IntKind.i64.wrap z = z := IntWalk.i64_in _ (by omega)
  have hd : decide ((fn : Int) < 0) = false := by simp
  have i1 : (0 : Int) ≤ (fn : Int) := by omega
  have i2 : (fn : Int) < (n : Int) := by omega
  rw [Int.toNat_natCast, hblo] at hsl
  clear hblo hz
  by_cases hz0' : z = 0
  · obtain rfl : ([] : List Int) = L := by rw [hsl, if_neg (by omega)]
    have heq : (z == 0) = true := by simp [hz0']
    have HZ0 := Lib.hid hz0'
    clear hsl hz0'
    go_wp2
    (try (refine wp_region_bel (by kernel_rfl) (by kernel_rfl) ?_; (repeat (go_big_quiet_step ((first | fail)))); refine wpQuiet_nil ?_; intro w' hw'; have hb := below_of hw'; clear hw'; (try clear cW fW zW); (first | (have bW := bstep bW hb) | (have bW := bstep (bdrew bW) hb) | (have bW := bstep (balloc bW _) hb) | (have bW := bstep (bdrewN bW _) hb) | (have bW := hb)); clear hb; obtain ⟨cW, fW⟩ := bcell bW; have zW := bsize bW))
    (try go_wp2)
    go_returns
    have := b4.size
    first
      | exact ⟨_, rfl, own_lit' rfl (by omega), balloc b4 _⟩
      | exact ⟨_, rfl, own_lit' rfl (by have := bW.size; omega), balloc (bstep b4 bW) _⟩
  obtain rfl : [(fn : Int)] = L := by rw [hsl, if_pos ⟨by omega, by omega, by omega⟩]
  have heq : (z == 0) = false := by simpa using hz0'
  clear hsl
  go_wp2
  (refine wp_region_bel (by kernel_rfl) (by kernel_rfl) ?_; (repeat (go_big_quiet_step ((first | fail)))); refine wpQuiet_nil ?_; intro w' hw'; have hb := below_of hw'; clear hw'; (try clear cW fW zW); (first | (have bW := bstep bW hb) | (have bW := bstep (bdrew bW) hb) | (have bW := bstep (balloc bW _) hb) | (have bW := bstep (bdrewN bW _) hb) | (have bW := hb)); clear hb; obtain ⟨cW, fW⟩ := bcell bW; have zW := bsize bW)
  go_wp2
  go_returns
  have := b4.size
  have := bW.size
  exact ⟨_, rfl, bk_own (by omega) (Bk.new' (cs := [.int .i64 (fn : Int)]) rfl) (Nat.le_refl _) (by unfold maxLen; omega) rfl rfl, balloc (bstep b4 bW) _⟩
end Go.Proofs.Ytebfphpmdkagpaa
