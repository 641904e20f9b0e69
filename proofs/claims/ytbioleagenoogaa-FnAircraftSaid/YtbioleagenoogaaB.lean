/-
  Aircraft: sorties and the most drops of one. Conditions: the bounds that stand in each statement.
-/
import Derived.Test.YtbioleagenoogaaA
namespace Go.Proofs.Ytbioleagenoogaa
open Go.RowKit
set_option maxRecDepth 100000
set_option maxHeartbeats 1000000

theorem l14Sortie_is {i l s f fi wa le ba k y : Int} (hs : 1 ≤ s ∧ s ≤ 20) (hfi : 1 ≤ fi ∧ fi ≤ 30) (hwa : 1 ≤ wa ∧ wa ≤ 400) (hle : 1 ≤ le ∧ le ≤ 400) (hba : 1 ≤ ba ∧ ba ≤ 400) (hk : 0 ≤ k ∧ k ≤ 1000) (hy : srt s fi wa le ba k = y) (w : World) :
    Calls Try.prog 59 #[.agg #[.int .i64 i, .int .i64 l, .int .i64 s, .int .i64 f, .int .i64 fi], .agg #[.int .i64 wa, .int .i64 le, .int .i64 ba], .int .i64 k] w fun e w' => e = .returned (.int .i64 y) ∧ Below w.heap.size w w' := by
  have h1 := drp_bd hs hfi hwa hle hk
  have h2 := mn_bd hs hba
  have F1 := fun W => l14Minutes_is (i := i) (l := l) (f := f) (ba := ba) hs hfi hwa hle hk rfl W
  have F2 := fun W => l14Fly_is (i := i) (l := l) (f := f) (fi := fi) hs hba rfl W
  unfold srt at hy
  obtain ⟨u, hu⟩ : ∃ u, drp s fi wa le k = u := ⟨_, rfl⟩
  obtain ⟨v, hv⟩ : ∃ v, mn s ba = v := ⟨_, rfl⟩
  rw [hu] at h1 F1 hy
  rw [hv] at h2 F2 hy
  obtain ⟨h11, h12, _⟩ := h1
  have HF1 := Lib.hid F1
  have HF2 := Lib.hid F2
  clear F1 F2 hu hv
  go_enter Try.func59, Try.ntmps59
  go_upto_region 1 with fail
  refine wp_gen (fun w0 => Bk w0 w.heap.size 41 [.int .i64 i, .int .i64 l, .int .i64 s, .int .i64 f, .int .i64 fi] ∧ Bk w0 (w.heap.size + 1) 31 [.int .i64 wa, .int .i64 le, .int .i64 ba] ∧ Below w.heap.size w w0) ⟨Bk.alloc (Bk.new' rfl) _, Bk.new' (by simp), by (repeat' (first | (with_reducible exact Below.refl _ _) | (with_reducible assumption) | (with_reducible refine balloc ?_ _) | (with_reducible refine bdrew ?_) | (with_reducible refine bdrewN ?_ _) | (with_reducible refine bstep ?_ (by assumption)) | (with_reducible refine bset ?_ ?_ _) | (exact Below.size (by assumption)) | go_size))⟩ ?_
  intro w0 ⟨hx, hyb, b1⟩
  obtain ⟨x0, x1, x2, x3, x4, xl⟩ := five_cells hx
  obtain ⟨y0, y1, y2, yl⟩ := three_cells hyb
  (refine wp_region_bel (by kernel_rfl) (by kernel_rfl) ?_; (repeat (go_big_quiet_step ((first | (go_at_call 58; exact calls_bel (HF1.out _)) | (go_at_call 69; exact calls_bel (HF2.out _)))))); refine wpQuiet_nil ?_; intro w' hw'; have hb := below_of hw'; clear hw'; (try clear cW fW zW); (first | (have bW := bstep bW hb) | (have bW := bstep (bdrew bW) hb) | (have bW := bstep (balloc bW _) hb) | (have bW := bstep (bdrewN bW _) hb) | (have bW := hb)); clear hb; obtain ⟨cW, fW⟩ := bcell bW; have zW := bsize bW)
  go_wp2
  go_returns
  exact ⟨ret_int (by omega), bstep b1 bW⟩
theorem sortie_is {i l s f fi wa le ba k y : Int} (hs : 1 ≤ s ∧ s ≤ 20) (hfi : 1 ≤ fi ∧ fi ≤ 30) (hwa : 1 ≤ wa ∧ wa ≤ 400) (hle : 1 ≤ le ∧ le ≤ 400) (hba : 1 ≤ ba ∧ ba ≤ 400) (hk : 0 ≤ k ∧ k ≤ 1000) (hy : srt s fi wa le ba k = y) (w : World) :
    Calls Try.prog 55 #[.agg #[.int .i64 i, .int .i64 l, .int .i64 s, .int .i64 f, .int .i64 fi], .agg #[.int .i64 wa, .int .i64 le, .int .i64 ba], .int .i64 k] w fun e w' => e = .returned (.int .i64 y) ∧ Below w.heap.size w w' := by
  have h1 := drp_bd hs hfi hwa hle hk
  have h2 := mn_bd hs hba
  have F1 := fun W => dropAt_is (i := i) (l := l) (f := f) (ba := ba) hs hfi hwa hle hk rfl W
  have F2 := fun W => minutes_is (i := i) (l := l) (f := f) (fi := fi) hs hba rfl W
  unfold srt at hy
  obtain ⟨u, hu⟩ : ∃ u, drp s fi wa le k = u := ⟨_, rfl⟩
  obtain ⟨v, hv⟩ : ∃ v, mn s ba = v := ⟨_, rfl⟩
  rw [hu] at h1 F1 hy
  rw [hv] at h2 F2 hy
  obtain ⟨h11, h12, _⟩ := h1
  have HF1 := Lib.hid F1
  have HF2 := Lib.hid F2
  clear F1 F2 hu hv
  go_enter Try.func55, Try.ntmps55
  go_upto_region 1 with fail
  refine wp_gen (fun w0 => Bk w0 w.heap.size 41 [.int .i64 i, .int .i64 l, .int .i64 s, .int .i64 f, .int .i64 fi] ∧ Bk w0 (w.heap.size + 1) 31 [.int .i64 wa, .int .i64 le, .int .i64 ba] ∧ Below w.heap.size w w0) ⟨Bk.alloc (Bk.new' rfl) _, Bk.new' (by simp), by (repeat' (first | (with_reducible exact Below.refl _ _) | (with_reducible assumption) | (with_reducible refine balloc ?_ _) | (with_reducible refine bdrew ?_) | (with_reducible refine bdrewN ?_ _) | (with_reducible refine bstep ?_ (by assumption)) | (with_reducible refine bset ?_ ?_ _) | (exact Below.size (by assumption)) | go_size))⟩ ?_
  intro w0 ⟨hx, hyb, b1⟩
  obtain ⟨x0, x1, x2, x3, x4, xl⟩ := five_cells hx
  obtain ⟨y0, y1, y2, yl⟩ := three_cells hyb
  (refine wp_region_bel (by kernel_rfl) (by kernel_rfl) ?_; (repeat (go_big_quiet_step ((first | (go_at_call 56; exact calls_bel (HF1.out _)) | (go_at_call 68; exact calls_bel (HF2.out _)))))); refine wpQuiet_nil ?_; intro w' hw'; have hb := below_of hw'; clear hw'; (try clear cW fW zW); (first | (have bW := bstep bW hb) | (have bW := bstep (bdrew bW) hb) | (have bW := bstep (balloc bW _) hb) | (have bW := bstep (bdrewN bW _) hb) | (have bW := hb)); clear hb; obtain ⟨cW, fW⟩ := bcell bW; have zW := bsize bW)
  go_wp2
  go_returns
  exact ⟨ret_int (by omega), bstep b1 bW⟩
theorem first_ex (p : Nat → Prop) [DecidablePred p] : ∀ n, p n → ∃ N, N ≤ n ∧ p N ∧ ∀ k, k < N → ¬ p k := by
  intro n
  induction n using Nat.strongRecOn with
  | _ n ih =>
    intro h
    by_cases hx : ∃ k, k < n ∧ p k
    · obtain ⟨k, hk, hp⟩ := hx
      obtain ⟨N, h1, h2, h3⟩ := ih k hk hp
      exact ⟨N, by omega, h2, h3⟩
    · exact ⟨n, Nat.le_refl _, h, fun k hk hp => hx ⟨k, hk, hp⟩⟩
/-- N is the most drops of a sortie -/
def MD (s f fi wa le ba : Int) (N : Nat) : Prop := N ≤ 600 ∧ f < srt s fi wa le ba ((N : Int) + 1) ∧ ∀ k : Nat, k < N → srt s fi wa le ba ((k : Int) + 1) ≤ f
theorem MD_ex {s f fi wa le ba : Int} (hs : 1 ≤ s ∧ s ≤ 20) (hf : 1 ≤ f ∧ f ≤ 600) (hfi : 1 ≤ fi ∧ fi ≤ 30) (hwa : 1 ≤ wa ∧ wa ≤ 400) (hle : 1 ≤ le ∧ le ≤ 400) (hba : 1 ≤ ba ∧ ba ≤ 400) : ∃ N, MD s f fi wa le ba N := by
  obtain ⟨N, h1, h2, h3⟩ := first_ex (fun n : Nat => f < srt s fi wa le ba ((n : Int) + 1)) 600 (by
    have := (srt_bd (k := ((600 : Nat) : Int) + 1) hs hfi hwa hle hba (by omega)).2.2 (by omega)
    omega)
  exact ⟨N, h1, h2, fun k hk => by have := h3 k hk; omega⟩
theorem l14Most_is {i l s f fi wa le ba : Int} {N : Nat} (hs : 1 ≤ s ∧ s ≤ 20) (_hf : 1 ≤ f ∧ f ≤ 600) (hfi : 1 ≤ fi ∧ fi ≤ 30) (hwa : 1 ≤ wa ∧ wa ≤ 400) (hle : 1 ≤ le ∧ le ≤ 400) (hba : 1 ≤ ba ∧ ba ≤ 400) (hN : MD s f fi wa le ba N) (w : World) :
    Calls Try.prog 41 #[.agg #[.int .i64 i, .int .i64 l, .int .i64 s, .int .i64 f, .int .i64 fi], .agg #[.int .i64 wa, .int .i64 le, .int .i64 ba]] w fun e w' => e = .returned (.int .i64 (N : Int)) ∧ Below w.heap.size w w' := by
  obtain ⟨hN1, hN2, hN3⟩ := hN
  have H2 := Lib.hid hN2
  have H3 := Lib.hid hN3
  clear hN2 hN3
  go_enter Try.func41, Try.ntmps41
  go_upto_region 1 with fail
  refine wp_gen (fun w0 => Bk w0 w.heap.size 41 [.int .i64 i, .int .i64 l, .int .i64 s, .int .i64 f, .int .i64 fi] ∧ Bk w0 (w.heap.size + 1) 31 [.int .i64 wa, .int .i64 le, .int .i64 ba] ∧ Below w.heap.size w w0) ⟨Bk.alloc (Bk.new' rfl) _, Bk.new' (by simp), by (repeat' (first | (with_reducible exact Below.refl _ _) | (with_reducible assumption) | (with_reducible refine balloc ?_ _) | (with_reducible refine bdrew ?_) | (with_reducible refine bdrewN ?_ _) | (with_reducible refine bstep ?_ (by assumption)) | (with_reducible refine bset ?_ ?_ _) | (exact Below.size (by assumption)) | go_size))⟩ ?_
  intro w0 ⟨hx, hy, b1⟩
  go_wp2_with fail
  go_loopw [5] (fun n wr => ∃ k : Nat, k ≤ N ∧ n = .int .i64 k ∧ Bk wr w.heap.size 41 [.int .i64 i, .int .i64 l, .int .i64 s, .int .i64 f, .int .i64 fi] ∧ Bk wr (w.heap.size + 1) 31 [.int .i64 wa, .int .i64 le, .int .i64 ba] ∧ Below w.heap.size w wr) (fun n _ => N - (intOf n).toNat)
  case atStart => exact ⟨0, Nat.zero_le _, rfl, hx, hy, b1⟩
  case round =>
    obtain ⟨k, hk, rfl, hx, hy, hW⟩ := hrel
    obtain ⟨x0, x1, x2, x3, x4, xl⟩ := five_cells hx
    obtain ⟨y0, y1, y2, yl⟩ := three_cells hy
    have HX := Lib.hid hx
    have HY := Lib.hid hy
    clear hx hy
    obtain ⟨v, hv⟩ : ∃ v, srt s fi wa le ba ((k : Int) + 1) = v := ⟨_, rfl⟩
    have F := fun W => l14Sortie_is (i := i) (l := l) (f := f) hs hfi hwa hle hba (k := (k : Int) + 1) (by omega) hv W
    have HF := Lib.hid F
    have hwr : IntKind.i64.wrap ((k : Int) + 1) = (k : Int) + 1 := IntWalk.i64_in _ (by omega)
    by_cases hlt : k < N
    · have hd : decide (v ≤ f) = true := by have := H3.out k hlt; rw [hv] at this; simpa using this
      clear F hv
      go_wp2
      (refine wp_region_bel (by kernel_rfl) (by kernel_rfl) ?_; (repeat (go_big_quiet_step ((first | (go_at_call 59; exact calls_bel (HF.out _)))))); refine wpQuiet_nil ?_; intro w' hw'; have hb := below_of hw'; clear hw'; (try clear cW fW zW); (first | (have bW := bstep bW hb) | (have bW := bstep (bdrew bW) hb) | (have bW := bstep (balloc bW _) hb) | (have bW := bstep (bdrewN bW _) hb) | (have bW := hb)); clear hb; obtain ⟨cW, fW⟩ := bcell bW; have zW := bsize bW)
      go_wp2
      go_roundw
      case rel => exact ⟨k + 1, by omega, by go_num, HX.out.below bW xl, HY.out.below bW yl, bstep hW bW⟩
      case measure => simp [intOf]; omega
    · have hkn : k = N := by omega
      have hd : decide (v ≤ f) = false := by have := H2.out; rw [← hkn, hv] at this; simpa using this
      subst hkn
      clear F hv
      go_wp2
      (refine wp_region_bel (by kernel_rfl) (by kernel_rfl) ?_; (repeat (go_big_quiet_step ((first | (go_at_call 59; exact calls_bel (HF.out _)))))); refine wpQuiet_nil ?_; intro w' hw'; have hb := below_of hw'; clear hw'; (try clear cW fW zW); (first | (have bW := bstep bW hb) | (have bW := bstep (bdrew bW) hb) | (have bW := bstep (balloc bW _) hb) | (have bW := bstep (bdrewN bW _) hb) | (have bW := hb)); clear hb; obtain ⟨cW, fW⟩ := bcell bW; have zW := bsize bW)
      go_wp2
      go_returns
      exact ⟨rfl, bstep hW bW⟩
theorem mostDrops_is {i l s f fi wa le ba : Int} {N : Nat} (hs : 1 ≤ s ∧ s ≤ 20) (_hf : 1 ≤ f ∧ f ≤ 600) (hfi : 1 ≤ fi ∧ fi ≤ 30) (hwa : 1 ≤ wa ∧ wa ≤ 400) (hle : 1 ≤ le ∧ le ≤ 400) (hba : 1 ≤ ba ∧ ba ≤ 400) (hN : MD s f fi wa le ba N) (w : World) :
    Calls Try.prog 53 #[.agg #[.int .i64 i, .int .i64 l, .int .i64 s, .int .i64 f, .int .i64 fi], .agg #[.int .i64 wa, .int .i64 le, .int .i64 ba]] w fun e w' => e = .returned (.int .i64 (N : Int)) ∧ Below w.heap.size w w' := by
  obtain ⟨hN1, hN2, hN3⟩ := hN
  have H2 := Lib.hid hN2
  have H3 := Lib.hid hN3
  clear hN2 hN3
  go_enter Try.func53, Try.ntmps53
  go_upto_region 1 with fail
  refine wp_gen (fun w0 => Bk w0 w.heap.size 41 [.int .i64 i, .int .i64 l, .int .i64 s, .int .i64 f, .int .i64 fi] ∧ Bk w0 (w.heap.size + 1) 31 [.int .i64 wa, .int .i64 le, .int .i64 ba] ∧ Below w.heap.size w w0) ⟨Bk.alloc (Bk.new' rfl) _, Bk.new' (by simp), by (repeat' (first | (with_reducible exact Below.refl _ _) | (with_reducible assumption) | (with_reducible refine balloc ?_ _) | (with_reducible refine bdrew ?_) | (with_reducible refine bdrewN ?_ _) | (with_reducible refine bstep ?_ (by assumption)) | (with_reducible refine bset ?_ ?_ _) | (exact Below.size (by assumption)) | go_size))⟩ ?_
  intro w0 ⟨hx, hy, b1⟩
  go_wp2_with fail
  go_loopw [5] (fun n wr => ∃ k : Nat, k ≤ N ∧ n = .int .i64 k ∧ Bk wr w.heap.size 41 [.int .i64 i, .int .i64 l, .int .i64 s, .int .i64 f, .int .i64 fi] ∧ Bk wr (w.heap.size + 1) 31 [.int .i64 wa, .int .i64 le, .int .i64 ba] ∧ Below w.heap.size w wr) (fun n _ => N - (intOf n).toNat)
  case atStart => exact ⟨0, Nat.zero_le _, rfl, hx, hy, b1⟩
  case round =>
    obtain ⟨k, hk, rfl, hx, hy, hW⟩ := hrel
    obtain ⟨x0, x1, x2, x3, x4, xl⟩ := five_cells hx
    obtain ⟨y0, y1, y2, yl⟩ := three_cells hy
    have HX := Lib.hid hx
    have HY := Lib.hid hy
    clear hx hy
    obtain ⟨v, hv⟩ : ∃ v, srt s fi wa le ba ((k : Int) + 1) = v := ⟨_, rfl⟩
    have F := fun W => sortie_is (i := i) (l := l) (f := f) hs hfi hwa hle hba (k := (k : Int) + 1) (by omega) hv W
    have HF := Lib.hid F
    have hwr : IntKind.i64.wrap ((k : Int) + 1) = (k : Int) + 1 := IntWalk.i64_in _ (by omega)
    by_cases hlt : k < N
    · have hd : decide (v ≤ f) = true := by have := H3.out k hlt; rw [hv] at this; simpa using this
      clear F hv
      go_wp2
      (refine wp_region_bel (by kernel_rfl) (by kernel_rfl) ?_; (repeat (go_big_quiet_step ((first | (go_at_call 55; exact calls_bel (HF.out _)))))); refine wpQuiet_nil ?_; intro w' hw'; have hb := below_of hw'; clear hw'; (try clear cW fW zW); (first | (have bW := bstep bW hb) | (have bW := bstep (bdrew bW) hb) | (have bW := bstep (balloc bW _) hb) | (have bW := bstep (bdrewN bW _) hb) | (have bW := hb)); clear hb; obtain ⟨cW, fW⟩ := bcell bW; have zW := bsize bW)
      go_wp2
      go_roundw
      case rel => exact ⟨k + 1, by omega, by go_num, HX.out.below bW xl, HY.out.below bW yl, bstep hW bW⟩
      case measure => simp [intOf]; omega
    · have hkn : k = N := by omega
      have hd : decide (v ≤ f) = false := by have := H2.out; rw [← hkn, hv] at this; simpa using this
      subst hkn
      clear F hv
      go_wp2
      (refine wp_region_bel (by kernel_rfl) (by kernel_rfl) ?_; (repeat (go_big_quiet_step ((first | (go_at_call 55; exact calls_bel (HF.out _)))))); refine wpQuiet_nil ?_; intro w' hw'; have hb := below_of hw'; clear hw'; (try clear cW fW zW); (first | (have bW := bstep bW hb) | (have bW := bstep (bdrew bW) hb) | (have bW := bstep (balloc bW _) hb) | (have bW := bstep (bdrewN bW _) hb) | (have bW := hb)); clear hb; obtain ⟨cW, fW⟩ := bcell bW; have zW := bsize bW)
      go_wp2
      go_returns
      exact ⟨rfl, bstep hW bW⟩
end Go.Proofs.Ytbioleagenoogaa
