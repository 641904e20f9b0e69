/-
  Aircraft: tests, minutes, drops, sorties, the most drops of one. Conditions: the bounds that stand in each statement.
-/
import Derived.Test.YtbioleagenoogaaN
import Derived.Test.YtbioleagenoogaaP
namespace Go.Proofs.Ytbioleagenoogaa
open Go.RowKit
set_option maxRecDepth 100000
set_option maxHeartbeats 1000000

def acB (i l s f fi : Int) : Bool := inB i 1 99 && (inB l 100 20000 && (inB s 1 20 && (inB f 1 600 && inB fi 1 30)))
def tgB (wa le ba : Int) : Bool := inB wa 1 400 && (inB le 1 400 && inB ba 1 400)
theorem acB_bd {i l s f fi : Int} (h : acB i l s f fi = true) : (1 ≤ i ∧ i ≤ 99) ∧ (100 ≤ l ∧ l ≤ 20000) ∧ (1 ≤ s ∧ s ≤ 20) ∧ (1 ≤ f ∧ f ≤ 600) ∧ (1 ≤ fi ∧ fi ≤ 30) := by
  simp only [acB, Bool.and_eq_true] at h
  exact ⟨inB_iff.1 h.1, inB_iff.1 h.2.1, inB_iff.1 h.2.2.1, inB_iff.1 h.2.2.2.1, inB_iff.1 h.2.2.2.2⟩
theorem tgB_bd {wa le ba : Int} (h : tgB wa le ba = true) : (1 ≤ wa ∧ wa ≤ 400) ∧ (1 ≤ le ∧ le ≤ 400) ∧ (1 ≤ ba ∧ ba ≤ 400) := by
  simp only [tgB, Bool.and_eq_true] at h
  exact ⟨inB_iff.1 h.1, inB_iff.1 h.2.1, inB_iff.1 h.2.2⟩
theorem l1In_of {n lo hi : Int} (v : Bool) (h : inB n lo hi = v) (w : World) : Calls Try.prog 40 #[.int .i64 n, .int .i64 lo, .int .i64 hi] w fun e w' => e = .returned (.bool v) ∧ w = w' := by rw [← h]; exact l1In_any n lo hi w
theorem in_of {n lo hi : Int} (v : Bool) (h : inB n lo hi = v) (w : World) : Calls Try.prog 45 #[.int .i64 n, .int .i64 lo, .int .i64 hi] w fun e w' => e = .returned (.bool v) ∧ w = w' := by rw [← h]; exact in_any n lo hi w
theorem toAircraft_any (i l s f fi : Int) (w : World) : Calls Try.prog 43 #[.agg #[.int .i64 i, .int .i64 l, .int .i64 s, .int .i64 f, .int .i64 fi]] w fun e w' => e = .returned (.agg #[.int .i64 i, .int .i64 l, .int .i64 s, .int .i64 f, .int .i64 fi]) ∧ Below w.heap.size w w' := by
  go_enter Try.func43, Try.ntmps43
  go_wp2
  (refine bodyPost_ret (by simp (maxDischargeDepth := 4) [results, Try.results43, go_sem, *]; try rfl) rfl ?_)
  exact ⟨rfl, by (repeat' (first | (with_reducible exact Below.refl _ _) | (with_reducible assumption) | (with_reducible refine balloc ?_ _) | (with_reducible refine bdrew ?_) | (with_reducible refine bdrewN ?_ _) | (with_reducible refine bstep ?_ (by assumption)) | (with_reducible refine bset ?_ ?_ _) | (exact Below.size (by assumption)) | go_size))⟩
theorem toTarget_any (wa le ba : Int) (w : World) : Calls Try.prog 9 #[.agg #[.int .i64 wa, .int .i64 le, .int .i64 ba]] w fun e w' => e = .returned (.agg #[.int .i64 wa, .int .i64 le, .int .i64 ba]) ∧ Below w.heap.size w w' := by
  go_enter Try.func9, Try.ntmps9
  go_wp2
  (refine bodyPost_ret (by simp (maxDischargeDepth := 4) [results, Try.results9, go_sem, *]; try rfl) rfl ?_)
  exact ⟨rfl, by (repeat' (first | (with_reducible exact Below.refl _ _) | (with_reducible assumption) | (with_reducible refine balloc ?_ _) | (with_reducible refine bdrew ?_) | (with_reducible refine bdrewN ?_ _) | (with_reducible refine bstep ?_ (by assumption)) | (with_reducible refine bset ?_ ?_ _) | (exact Below.size (by assumption)) | go_size))⟩
theorem ac_any (i l s f fi : Int) (w : World) : Calls Try.prog 20 #[.agg #[.int .i64 i, .int .i64 l, .int .i64 s, .int .i64 f, .int .i64 fi]] w fun e w' => e = .returned (.bool (acB i l s f fi)) ∧ Below w.heap.size w w' := by
  go_enter Try.func20, Try.ntmps20
  go_wp2_with (first | (go_at_call 45; refine (in_any _ _ _ _).mono ?_; rintro e w' ⟨rfl, rfl⟩))
  all_goals (go_returns; exact ⟨by simp [acB, *], by (repeat' (first | (with_reducible exact Below.refl _ _) | (with_reducible assumption) | (with_reducible refine balloc ?_ _) | (with_reducible refine bdrew ?_) | (with_reducible refine bdrewN ?_ _) | (with_reducible refine bstep ?_ (by assumption)) | (with_reducible refine bset ?_ ?_ _) | (exact Below.size (by assumption)) | go_size))⟩)
theorem l14Good_any (i l s f fi : Int) (w : World) : Calls Try.prog 63 #[.agg #[.int .i64 i, .int .i64 l, .int .i64 s, .int .i64 f, .int .i64 fi]] w fun e w' => e = .returned (.bool (acB i l s f fi)) ∧ Below w.heap.size w w' := by
  go_enter Try.func63, Try.ntmps63
  go_wp2_with (first | (go_at_call 40; refine (l1In_any _ _ _ _).mono ?_; rintro e w' ⟨rfl, rfl⟩))
  all_goals (go_returns; exact ⟨by simp [acB, *], by (repeat' (first | (with_reducible exact Below.refl _ _) | (with_reducible assumption) | (with_reducible refine balloc ?_ _) | (with_reducible refine bdrew ?_) | (with_reducible refine bdrewN ?_ _) | (with_reducible refine bstep ?_ (by assumption)) | (with_reducible refine bset ?_ ?_ _) | (exact Below.size (by assumption)) | go_size))⟩)
theorem l14Far_any (x : Int) (w : World) : Calls Try.prog 64 #[.int .i64 x] w fun e w' => e = .returned (.bool (inB x 1 400)) ∧ w = w' := by
  go_enter Try.func64, Try.ntmps64
  go_wp2_with (first | (go_at_call 40; refine (l1In_any _ _ _ _).mono ?_; rintro e w' ⟨rfl, rfl⟩))
  all_goals (go_returns; exact ⟨by simp [*], rfl⟩)
theorem tg_any (wa le ba : Int) (w : World) : Calls Try.prog 21 #[.agg #[.int .i64 wa, .int .i64 le, .int .i64 ba]] w fun e w' => e = .returned (.bool (tgB wa le ba)) ∧ Below w.heap.size w w' := by
  go_enter Try.func21, Try.ntmps21
  go_wp2_with (first | (go_at_call 45; refine (in_any _ _ _ _).mono ?_; rintro e w' ⟨rfl, rfl⟩))
  all_goals (go_returns; exact ⟨by simp [tgB, *], by (repeat' (first | (with_reducible exact Below.refl _ _) | (with_reducible assumption) | (with_reducible refine balloc ?_ _) | (with_reducible refine bdrew ?_) | (with_reducible refine bdrewN ?_ _) | (with_reducible refine bstep ?_ (by assumption)) | (with_reducible refine bset ?_ ?_ _) | (exact Below.size (by assumption)) | go_size))⟩)
theorem l14Target_any (wa le ba : Int) (w : World) : Calls Try.prog 39 #[.agg #[.int .i64 wa, .int .i64 le, .int .i64 ba]] w fun e w' => e = .returned (.bool (tgB wa le ba)) ∧ Below w.heap.size w w' := by
  go_enter Try.func39, Try.ntmps39
  go_wp2_with (first | (go_at_call 64; refine (l14Far_any _ _).mono ?_; rintro e w' ⟨rfl, rfl⟩))
  all_goals (go_returns; exact ⟨by simp [tgB, *], by (repeat' (first | (with_reducible exact Below.refl _ _) | (with_reducible assumption) | (with_reducible refine balloc ?_ _) | (with_reducible refine bdrew ?_) | (with_reducible refine bdrewN ?_ _) | (with_reducible refine bstep ?_ (by assumption)) | (with_reducible refine bset ?_ ?_ _) | (exact Below.size (by assumption)) | go_size))⟩)
theorem wp_gen {P : Program} {c : Code} {Q : Exit → Act → World → Prop} {a : Act} {w : World} (R : World → Prop) (h1 : R w) (h2 : ∀ w0, R w0 → c.wp P Q a w0) : c.wp P Q a w := h2 w h1
theorem three_cells {w : World} {g : Nat} {t : TypeId} {a b c : Value} (h : Bk w g t [a, b, c]) : w.cell? ⟨g, 0, none⟩ = some a ∧ w.cell? ⟨g, 1, none⟩ = some b ∧ w.cell? ⟨g, 2, none⟩ = some c ∧ g < w.heap.size := ⟨h.cell 0, h.cell 1, h.cell 2, h.lt⟩
theorem five_cells {w : World} {g : Nat} {t : TypeId} {a b c d e : Value} (h : Bk w g t [a, b, c, d, e]) : w.cell? ⟨g, 0, none⟩ = some a ∧ w.cell? ⟨g, 1, none⟩ = some b ∧ w.cell? ⟨g, 2, none⟩ = some c ∧ w.cell? ⟨g, 3, none⟩ = some d ∧ w.cell? ⟨g, 4, none⟩ = some e ∧ g < w.heap.size := ⟨h.cell 0, h.cell 1, h.cell 2, h.cell 3, h.cell 4, h.lt⟩
theorem l14Asked_any (i l s f fi wa le ba : Int) (w : World) : Calls Try.prog 54 #[.agg #[.int .i64 i, .int .i64 l, .int .i64 s, .int .i64 f, .int .i64 fi], .agg #[.int .i64 wa, .int .i64 le, .int .i64 ba]] w fun e w' => e = .returned (.bool (acB i l s f fi && tgB wa le ba)) ∧ Below w.heap.size w w' := by
  have hA := l14Good_any i l s f fi
  have hT := l14Target_any wa le ba
  obtain ⟨u, hu⟩ : ∃ u, acB i l s f fi = u := ⟨_, rfl⟩
  obtain ⟨v, hv⟩ : ∃ v, tgB wa le ba = v := ⟨_, rfl⟩
  rw [hu] at hA ⊢
  rw [hv] at hT ⊢
  clear hu hv
  have hx := (Bk.new w 41 [.int .i64 i, .int .i64 l, .int .i64 s, .int .i64 f, .int .i64 fi]).alloc (.cells #[.int .i64 wa, .int .i64 le, .int .i64 ba] 31)
  have hy := Bk.new (w.alloc (.cells #[.int .i64 i, .int .i64 l, .int .i64 s, .int .i64 f, .int .i64 fi] 41)) 31 [.int .i64 wa, .int .i64 le, .int .i64 ba]
  rw [World.size_alloc] at hy
  cases u
  · go_enter Try.func54, Try.ntmps54
    go_wp2_with (first | (go_at_call 63; refine (hA _).mono ?_; rintro e w' ⟨rfl, hb⟩; (try clear cW fW zW); (first | (have bW := bstep bW hb) | (have bW := bstep (bdrew bW) hb) | (have bW := bstep (balloc bW _) hb) | (have bW := bstep (bdrewN bW _) hb) | (have bW := hb)); clear hb; obtain ⟨cW, fW⟩ := bcell bW; have zW := bsize bW))
    go_returns
    exact ⟨rfl, by (repeat' (first | (with_reducible exact Below.refl _ _) | (with_reducible assumption) | (with_reducible refine balloc ?_ _) | (with_reducible refine bdrew ?_) | (with_reducible refine bdrewN ?_ _) | (with_reducible refine bstep ?_ (by assumption)) | (with_reducible refine bset ?_ ?_ _) | (exact Below.size (by assumption)) | go_size))⟩
  · go_enter Try.func54, Try.ntmps54
    go_wp2_with fail
    refine (hA _).mono ?_
    rintro e w1 ⟨rfl, b1⟩
    have b2 := bstep (balloc (balloc (Below.refl w.heap.size w) _) _) b1
    have hy := hy.below b1 hy.lt
    have y0 := hy.cell 0
    have y1 := hy.cell 1
    have y2 := hy.cell 2
    simp only [List.getElem?_cons_zero, List.getElem?_cons_succ] at y0 y1 y2
    go_wp2_with fail
    refine (hT _).mono ?_
    rintro e w2 ⟨rfl, b3⟩
    go_wp2
    go_returns
    exact ⟨rfl, bstep b2 b3⟩
theorem isFlight_any (i l s f fi wa le ba : Int) (w : World) : Calls Try.prog 52 #[.agg #[.int .i64 i, .int .i64 l, .int .i64 s, .int .i64 f, .int .i64 fi], .agg #[.int .i64 wa, .int .i64 le, .int .i64 ba]] w fun e w' => e = .returned (.bool (acB i l s f fi && tgB wa le ba)) ∧ Below w.heap.size w w' := by
  have hA := ac_any i l s f fi
  have hT := tg_any wa le ba
  obtain ⟨u, hu⟩ : ∃ u, acB i l s f fi = u := ⟨_, rfl⟩
  obtain ⟨v, hv⟩ : ∃ v, tgB wa le ba = v := ⟨_, rfl⟩
  rw [hu] at hA ⊢
  rw [hv] at hT ⊢
  clear hu hv
  have hx := (Bk.new w 41 [.int .i64 i, .int .i64 l, .int .i64 s, .int .i64 f, .int .i64 fi]).alloc (.cells #[.int .i64 wa, .int .i64 le, .int .i64 ba] 31)
  have hy := Bk.new (w.alloc (.cells #[.int .i64 i, .int .i64 l, .int .i64 s, .int .i64 f, .int .i64 fi] 41)) 31 [.int .i64 wa, .int .i64 le, .int .i64 ba]
  rw [World.size_alloc] at hy
  cases u
  · go_enter Try.func52, Try.ntmps52
    go_wp2_with (first | (go_at_call 20; refine (hA _).mono ?_; rintro e w' ⟨rfl, hb⟩; (try clear cW fW zW); (first | (have bW := bstep bW hb) | (have bW := bstep (bdrew bW) hb) | (have bW := bstep (balloc bW _) hb) | (have bW := bstep (bdrewN bW _) hb) | (have bW := hb)); clear hb; obtain ⟨cW, fW⟩ := bcell bW; have zW := bsize bW))
    go_returns
    exact ⟨rfl, by (repeat' (first | (with_reducible exact Below.refl _ _) | (with_reducible assumption) | (with_reducible refine balloc ?_ _) | (with_reducible refine bdrew ?_) | (with_reducible refine bdrewN ?_ _) | (with_reducible refine bstep ?_ (by assumption)) | (with_reducible refine bset ?_ ?_ _) | (exact Below.size (by assumption)) | go_size))⟩
  · go_enter Try.func52, Try.ntmps52
    go_wp2_with fail
    refine (hA _).mono ?_
    rintro e w1 ⟨rfl, b1⟩
    have b2 := bstep (balloc (balloc (Below.refl w.heap.size w) _) _) b1
    have hy := hy.below b1 hy.lt
    have y0 := hy.cell 0
    have y1 := hy.cell 1
    have y2 := hy.cell 2
    simp only [List.getElem?_cons_zero, List.getElem?_cons_succ] at y0 y1 y2
    go_wp2_with fail
    refine (hT _).mono ?_
    rintro e w2 ⟨rfl, b3⟩
    go_wp2
    go_returns
    exact ⟨rfl, bstep b2 b3⟩
/-- the minutes of a distance -/
def mn (s d : Int) : Int := (d + s - 1) / s
theorem mn_bd {s d : Int} (hs : 1 ≤ s ∧ s ≤ 20) (hd : 1 ≤ d ∧ d ≤ 400) : 1 ≤ mn s d ∧ mn s d ≤ 420 := by
  have h1 : (d + s - 1) / s ≤ d + s - 1 := Int.ediv_le_self _ (by omega)
  have h2 : 1 ≤ (d + s - 1) / s := (Int.le_ediv_iff_mul_le (by omega)).2 (by omega)
  unfold mn
  omega
theorem mn_quo {s d : Int} (hs : 1 ≤ s ∧ s ≤ 20) (hd : 1 ≤ d ∧ d ≤ 400) : (d + s - 1).tdiv s = mn s d := Int.tdiv_eq_ediv_of_nonneg (by omega)
/-- the minute of a drop -/
def drp (s fi wa le k : Int) : Int := mn s wa + k * (fi + mn s le) + (k - 1) * mn s le
def srt (s fi wa le ba k : Int) : Int := drp s fi wa le k + mn s ba
theorem mul_bd {k m : Int} (hk : 0 ≤ k ∧ k ≤ 1000) (hm : 0 ≤ m ∧ m ≤ 450) : 0 ≤ k * m ∧ k * m ≤ 450000 ∧ k ≤ 1000 * 450 + k * m ∧ (1 ≤ m → k ≤ k * m) := by
  have h1 := Int.mul_nonneg hk.1 hm.1
  have h2 : k * m ≤ 1000 * m := Int.mul_le_mul_of_nonneg_right hk.2 hm.1
  refine ⟨h1, by omega, by omega, fun h => ?_⟩
  have h3 : k * 1 ≤ k * m := Int.mul_le_mul_of_nonneg_left h hk.1
  omega
theorem mul_bd1 {k m : Int} (hk : 0 ≤ k ∧ k ≤ 1000) (hm : 0 ≤ m ∧ m ≤ 450) : -450 ≤ (k - 1) * m ∧ (k - 1) * m ≤ 450000 := by
  have h := (mul_bd hk hm)
  rw [Int.sub_mul, Int.one_mul]
  omega
theorem drp_bd {s fi wa le k : Int} (hs : 1 ≤ s ∧ s ≤ 20) (hfi : 1 ≤ fi ∧ fi ≤ 30) (hwa : 1 ≤ wa ∧ wa ≤ 400) (hle : 1 ≤ le ∧ le ≤ 400) (hk : 0 ≤ k ∧ k ≤ 1000) : -1000 ≤ drp s fi wa le k ∧ drp s fi wa le k ≤ 1000000 ∧ (1 ≤ k → k ≤ drp s fi wa le k) := by
  have h1 := mn_bd hs hwa
  have h2 := mn_bd hs hle
  have h3 := mul_bd hk (m := fi + mn s le) (by omega)
  have h4 := mul_bd1 hk (m := mn s le) (by omega)
  have h5 : 1 ≤ k → 0 ≤ (k - 1) * mn s le := fun h => Int.mul_nonneg (by omega) (by omega)
  unfold drp
  refine ⟨by omega, by omega, fun h => ?_⟩
  have := h5 h
  have := h3.2.2.2 (by omega)
  omega
theorem srt_bd {s fi wa le ba k : Int} (hs : 1 ≤ s ∧ s ≤ 20) (hfi : 1 ≤ fi ∧ fi ≤ 30) (hwa : 1 ≤ wa ∧ wa ≤ 400) (hle : 1 ≤ le ∧ le ≤ 400) (hba : 1 ≤ ba ∧ ba ≤ 400) (hk : 0 ≤ k ∧ k ≤ 1000) : -1000 ≤ srt s fi wa le ba k ∧ srt s fi wa le ba k ≤ 2000000 ∧ (1 ≤ k → k < srt s fi wa le ba k) := by
  have h1 := drp_bd hs hfi hwa hle hk
  have h2 := mn_bd hs hba
  unfold srt
  refine ⟨by omega, by omega, fun h => ?_⟩
  have := h1.2.2 h
  omega
theorem l14Fly_is {i l s f fi d m : Int} (hs : 1 ≤ s ∧ s ≤ 20) (hd : 1 ≤ d ∧ d ≤ 400) (hm : mn s d = m) (w : World) : Calls Try.prog 69 #[.agg #[.int .i64 i, .int .i64 l, .int .i64 s, .int .i64 f, .int .i64 fi], .int .i64 d] w fun e w' => e = .returned (.int .i64 m) ∧ Below w.heap.size w w' := by
  have hb := mn_bd hs hd
  have hq := mn_quo hs hd
  rw [hm] at hb hq
  have s0 : ¬ s = 0 := by omega
  go_enter Try.func69, Try.ntmps69
  go_wp2
  go_returns
  exact ⟨ret_int (by first | omega | (simp [hq]; done) | (rw [hq]; omega)), by (repeat' (first | (with_reducible exact Below.refl _ _) | (with_reducible assumption) | (with_reducible refine balloc ?_ _) | (with_reducible refine bdrew ?_) | (with_reducible refine bdrewN ?_ _) | (with_reducible refine bstep ?_ (by assumption)) | (with_reducible refine bset ?_ ?_ _) | (exact Below.size (by assumption)) | go_size))⟩
theorem minutes_is {i l s f fi d m : Int} (hs : 1 ≤ s ∧ s ≤ 20) (hd : 1 ≤ d ∧ d ≤ 400) (hm : mn s d = m) (w : World) : Calls Try.prog 68 #[.agg #[.int .i64 i, .int .i64 l, .int .i64 s, .int .i64 f, .int .i64 fi], .int .i64 d] w fun e w' => e = .returned (.int .i64 m) ∧ Below w.heap.size w w' := by
  have hb := mn_bd hs hd
  have hq := mn_quo hs hd
  rw [hm] at hb hq
  have s0 : ¬ s = 0 := by omega
  go_enter Try.func68, Try.ntmps68
  go_wp2
  go_returns
  exact ⟨ret_int (by first | omega | (simp [hq]; done) | (rw [hq]; omega)), by (repeat' (first | (with_reducible exact Below.refl _ _) | (with_reducible assumption) | (with_reducible refine balloc ?_ _) | (with_reducible refine bdrew ?_) | (with_reducible refine bdrewN ?_ _) | (with_reducible refine bstep ?_ (by assumption)) | (with_reducible refine bset ?_ ?_ _) | (exact Below.size (by assumption)) | go_size))⟩
theorem l14Minutes_is {i l s f fi wa le ba k y : Int} (hs : 1 ≤ s ∧ s ≤ 20) (hfi : 1 ≤ fi ∧ fi ≤ 30) (hwa : 1 ≤ wa ∧ wa ≤ 400) (hle : 1 ≤ le ∧ le ≤ 400) (hk : 0 ≤ k ∧ k ≤ 1000) (hy : drp s fi wa le k = y) (w : World) :
    Calls Try.prog 58 #[.agg #[.int .i64 i, .int .i64 l, .int .i64 s, .int .i64 f, .int .i64 fi], .agg #[.int .i64 wa, .int .i64 le, .int .i64 ba], .int .i64 k] w fun e w' => e = .returned (.int .i64 y) ∧ Below w.heap.size w w' := by
  have h1 := mn_bd hs hwa
  have h2 := mn_bd hs hle
  have h3 := mul_bd hk (m := fi + mn s le) (by omega)
  have h4 := mul_bd1 hk (m := mn s le) (by omega)
  have F1 := fun W => l14Fly_is (i := i) (l := l) (f := f) (fi := fi) hs hwa rfl W
  have F2 := fun W => l14Fly_is (i := i) (l := l) (f := f) (fi := fi) hs hle rfl W
  unfold drp at hy
  obtain ⟨u, hu⟩ : ∃ u, mn s wa = u := ⟨_, rfl⟩
  obtain ⟨v, hv⟩ : ∃ v, mn s le = v := ⟨_, rfl⟩
  rw [hu] at h1 F1 hy
  rw [hv] at h2 h3 h4 F2 hy
  obtain ⟨p1, hp1⟩ : ∃ p, k * (fi + v) = p := ⟨_, rfl⟩
  obtain ⟨p2, hp2⟩ : ∃ p, (k - 1) * v = p := ⟨_, rfl⟩
  rw [hp1] at h3 hy
  rw [hp2] at h4 hy
  obtain ⟨h31, h32, _, _⟩ := h3
  have HF1 := Lib.hid F1
  have HF2 := Lib.hid F2
  have hw1 : IntKind.i64.wrap (k - 1) = k - 1 := IntWalk.i64_in _ (by omega)
  have hw2 : IntKind.i64.wrap (fi + v) = fi + v := IntWalk.i64_in _ (by omega)
  have hx := (Bk.new w 41 [.int .i64 i, .int .i64 l, .int .i64 s, .int .i64 f, .int .i64 fi]).alloc (.cells #[.int .i64 wa, .int .i64 le, .int .i64 ba] 31)
  have hyb := Bk.new (w.alloc (.cells #[.int .i64 i, .int .i64 l, .int .i64 s, .int .i64 f, .int .i64 fi] 41)) 31 [.int .i64 wa, .int .i64 le, .int .i64 ba]
  rw [World.size_alloc] at hyb
  clear F1 F2 hu hv
  go_enter Try.func58, Try.ntmps58
  go_wp2_with fail
  refine (HF2.out _).mono ?_
  rintro e w1 ⟨rfl, hb1⟩
  have b1 := bstep (balloc (balloc (Below.refl w.heap.size w) _) _) hb1
  have hx := hx.below hb1 hx.lt
  have hyb := hyb.below hb1 hyb.lt
  obtain ⟨x0, x1, x2, x3, x4, xl⟩ := five_cells hx
  obtain ⟨y0, y1, y2, yl⟩ := three_cells hyb
  go_wp2
  (refine wp_region_bel (by kernel_rfl) (by kernel_rfl) ?_; (repeat (go_big_quiet_step ((first | (go_at_call 69; exact calls_bel (HF1.out _)))))); refine wpQuiet_nil ?_; intro w' hw'; have hb := below_of hw'; clear hw'; (try clear cW fW zW); (first | (have bW := bstep bW hb) | (have bW := bstep (bdrew bW) hb) | (have bW := bstep (balloc bW _) hb) | (have bW := bstep (bdrewN bW _) hb) | (have bW := hb)); clear hb; obtain ⟨cW, fW⟩ := bcell bW; have zW := bsize bW)
  go_wp2
  go_returns
  exact ⟨ret_int (by first | omega | (simp only [hp1, hp2]; omega)), bstep b1 bW⟩
theorem dropAt_is {i l s f fi wa le ba k y : Int} (hs : 1 ≤ s ∧ s ≤ 20) (hfi : 1 ≤ fi ∧ fi ≤ 30) (hwa : 1 ≤ wa ∧ wa ≤ 400) (hle : 1 ≤ le ∧ le ≤ 400) (hk : 0 ≤ k ∧ k ≤ 1000) (hy : drp s fi wa le k = y) (w : World) :
    Calls Try.prog 56 #[.agg #[.int .i64 i, .int .i64 l, .int .i64 s, .int .i64 f, .int .i64 fi], .agg #[.int .i64 wa, .int .i64 le, .int .i64 ba], .int .i64 k] w fun e w' => e = .returned (.int .i64 y) ∧ Below w.heap.size w w' := by
  have h1 := mn_bd hs hwa
  have h2 := mn_bd hs hle
  have h3 := mul_bd hk (m := fi + mn s le) (by omega)
  have h4 := mul_bd1 hk (m := mn s le) (by omega)
  have F1 := fun W => minutes_is (i := i) (l := l) (f := f) (fi := fi) hs hwa rfl W
  have F2 := fun W => minutes_is (i := i) (l := l) (f := f) (fi := fi) hs hle rfl W
  unfold drp at hy
  obtain ⟨u, hu⟩ : ∃ u, mn s wa = u := ⟨_, rfl⟩
  obtain ⟨v, hv⟩ : ∃ v, mn s le = v := ⟨_, rfl⟩
  rw [hu] at h1 F1 hy
  rw [hv] at h2 h3 h4 F2 hy
  obtain ⟨p1, hp1⟩ : ∃ p, k * (fi + v) = p := ⟨_, rfl⟩
  obtain ⟨p2, hp2⟩ : ∃ p, (k - 1) * v = p := ⟨_, rfl⟩
  rw [hp1] at h3 hy
  rw [hp2] at h4 hy
  obtain ⟨h31, h32, _, _⟩ := h3
  have HF1 := Lib.hid F1
  have HF2 := Lib.hid F2
  have hw1 : IntKind.i64.wrap (k - 1) = k - 1 := IntWalk.i64_in _ (by omega)
  have hw2 : IntKind.i64.wrap (fi + v) = fi + v := IntWalk.i64_in _ (by omega)
  have hx := (Bk.new w 41 [.int .i64 i, .int .i64 l, .int .i64 s, .int .i64 f, .int .i64 fi]).alloc (.cells #[.int .i64 wa, .int .i64 le, .int .i64 ba] 31)
  have hyb := Bk.new (w.alloc (.cells #[.int .i64 i, .int .i64 l, .int .i64 s, .int .i64 f, .int .i64 fi] 41)) 31 [.int .i64 wa, .int .i64 le, .int .i64 ba]
  rw [World.size_alloc] at hyb
  clear F1 F2 hu hv
  go_enter Try.func56, Try.ntmps56
  go_wp2_with fail
  refine (HF2.out _).mono ?_
  rintro e w1 ⟨rfl, hb1⟩
  have b1 := bstep (balloc (balloc (Below.refl w.heap.size w) _) _) hb1
  have hx := hx.below hb1 hx.lt
  have hyb := hyb.below hb1 hyb.lt
  obtain ⟨x0, x1, x2, x3, x4, xl⟩ := five_cells hx
  obtain ⟨y0, y1, y2, yl⟩ := three_cells hyb
  go_wp2
  (refine wp_region_bel (by kernel_rfl) (by kernel_rfl) ?_; (repeat (go_big_quiet_step ((first | (go_at_call 68; exact calls_bel (HF1.out _)))))); refine wpQuiet_nil ?_; intro w' hw'; have hb := below_of hw'; clear hw'; (try clear cW fW zW); (first | (have bW := bstep bW hb) | (have bW := bstep (bdrew bW) hb) | (have bW := bstep (balloc bW _) hb) | (have bW := bstep (bdrewN bW _) hb) | (have bW := hb)); clear hb; obtain ⟨cW, fW⟩ := bcell bW; have zW := bsize bW)
  go_wp2
  go_returns
  exact ⟨ret_int (by first | omega | (simp only [hp1, hp2]; omega)), bstep b1 bW⟩
end Go.Proofs.Ytbioleagenoogaa
