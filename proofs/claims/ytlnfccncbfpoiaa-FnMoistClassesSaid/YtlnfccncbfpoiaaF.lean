/-
  HoursUntil of the reference. Conditions: none.
-/
import Derived.Test.YtlnfccncbfpoiaaE
namespace Go.Proofs.Ytlnfccncbfpoiaa
open Go.RowKit
set_option maxRecDepth 100000
set_option maxHeartbeats 1000000

theorem sHoursUntil_any (l m hh t r limit : Int) (w : World) : Calls Try.prog 19 #[.agg #[.int .i64 l, .int .i64 m], .agg #[.int .i64 hh, .int .i64 t, .int .i64 r], .int .i64 limit] w fun e w' => e = .returned (.tuple #[.int .i64 (huN l m hh t r limit), .bool (huB l m hh t r limit)]) ∧ Below w.heap.size w w' := by
  obtain ⟨q, hq⟩ : ∃ q, huB l m hh t r limit = q := ⟨_, rfl⟩
  obtain ⟨N, hN⟩ : ∃ N, huN l m hh t r limit = N := ⟨_, rfl⟩
  rw [hq, hN]
  rcases hA : bedB l m with _ | _
  · have e1 : huB l m hh t r limit = false := by simp [huB, hA]
    have e2 := hu_no e1
    obtain rfl := e1.symm.trans hq
    obtain rfl := e2.symm.trans hN
    clear e1 e2 hq hN
    go_enter Try.func19, Try.ntmps19
    go_wp2_with (first | (go_at_call 36; refine (l20Bed_is false hA _).mono ?_; rintro e w' ⟨rfl, hb⟩; (try clear cW fW zW); (first | (have bW := bstep bW hb) | (have bW := bstep (bdrew bW) hb) | (have bW := bstep (balloc bW _) hb) | (have bW := bstep (bdrewN bW _) hb) | (have bW := hb)); clear hb; obtain ⟨cW, fW⟩ := bcell bW; have zW := bsize bW))
    go_returns
    exact ⟨rfl, by (repeat' (first | (with_reducible exact Below.refl _ _) | (with_reducible assumption) | (with_reducible refine balloc ?_ _) | (with_reducible refine bdrew ?_) | (with_reducible refine bdrewN ?_ _) | (with_reducible refine bstep ?_ (by assumption)) | (with_reducible refine bset ?_ ?_ _) | (exact Below.size (by assumption)) | go_size))⟩
  · rcases hB : airB hh t r with _ | _
    · have e1 : huB l m hh t r limit = false := by simp [huB, hB]
      have e2 := hu_no e1
      obtain rfl := e1.symm.trans hq
      obtain rfl := e2.symm.trans hN
      clear e1 e2 hq hN
      go_enter Try.func19, Try.ntmps19
      go_wp2_with (first | (go_at_call 36; refine (l20Bed_is true hA _).mono ?_; rintro e w' ⟨rfl, hb⟩; (try clear cW fW zW); (first | (have bW := bstep bW hb) | (have bW := bstep (bdrew bW) hb) | (have bW := bstep (balloc bW _) hb) | (have bW := bstep (bdrewN bW _) hb) | (have bW := hb)); clear hb; obtain ⟨cW, fW⟩ := bcell bW; have zW := bsize bW) | (go_at_call 37; refine (l20Air_is false hB _).mono ?_; rintro e w' ⟨rfl, hb⟩; (try clear cW fW zW); (first | (have bW := bstep bW hb) | (have bW := bstep (bdrew bW) hb) | (have bW := bstep (balloc bW _) hb) | (have bW := bstep (bdrewN bW _) hb) | (have bW := hb)); clear hb; obtain ⟨cW, fW⟩ := bcell bW; have zW := bsize bW))
      go_returns
      exact ⟨rfl, by (repeat' (first | (with_reducible exact Below.refl _ _) | (with_reducible assumption) | (with_reducible refine balloc ?_ _) | (with_reducible refine bdrew ?_) | (with_reducible refine bdrewN ?_ _) | (with_reducible refine bstep ?_ (by assumption)) | (with_reducible refine bset ?_ ?_ _) | (exact Below.size (by assumption)) | go_size))⟩
    · rcases hC : inB limit 0 400 with _ | _
      · have e1 : huB l m hh t r limit = false := by simp [huB, hC]
        have e2 := hu_no e1
        obtain rfl := e1.symm.trans hq
        obtain rfl := e2.symm.trans hN
        clear e1 e2 hq hN
        go_enter Try.func19, Try.ntmps19
        go_wp2_with (first | (go_at_call 36; refine (l20Bed_is true hA _).mono ?_; rintro e w' ⟨rfl, hb⟩; (try clear cW fW zW); (first | (have bW := bstep bW hb) | (have bW := bstep (bdrew bW) hb) | (have bW := bstep (balloc bW _) hb) | (have bW := bstep (bdrewN bW _) hb) | (have bW := hb)); clear hb; obtain ⟨cW, fW⟩ := bcell bW; have zW := bsize bW) | (go_at_call 37; refine (l20Air_is true hB _).mono ?_; rintro e w' ⟨rfl, hb⟩; (try clear cW fW zW); (first | (have bW := bstep bW hb) | (have bW := bstep (bdrew bW) hb) | (have bW := bstep (balloc bW _) hb) | (have bW := bstep (bdrewN bW _) hb) | (have bW := hb)); clear hb; obtain ⟨cW, fW⟩ := bcell bW; have zW := bsize bW) | (go_at_call 50; refine (l20Moist_is false hC _).mono ?_; rintro e w' ⟨rfl, rfl⟩))
        go_returns
        exact ⟨rfl, by (repeat' (first | (with_reducible exact Below.refl _ _) | (with_reducible assumption) | (with_reducible refine balloc ?_ _) | (with_reducible refine bdrew ?_) | (with_reducible refine bdrewN ?_ _) | (with_reducible refine bstep ?_ (by assumption)) | (with_reducible refine bset ?_ ?_ _) | (exact Below.size (by assumption)) | go_size))⟩
      · have hbd := bedB_bd hA
        obtain ⟨hb1, hb2⟩ := balI_bd hh t r
        have hlim : 0 ≤ limit ∧ limit ≤ 400 := inB_iff.1 hC
        have hin : huB l m hh t r limit = huIn m (balI hh t r) limit := by simp [huB, hA, hB, hC]
        have hyes := fun x => hu_yes (l := l) (m := m) (h := hh) (t := t) (r := r) (limit := limit) (hin.trans x)
        have hno := fun x => hu_no (l := l) (m := m) (h := hh) (t := t) (r := r) (limit := limit) (hin.trans x)
        obtain ⟨b, hb⟩ : ∃ b, balI hh t r = b := ⟨_, rfl⟩
        rw [hb] at hb1 hb2 hin hyes hno
        have haft := fun (mm : Int) (hm : 0 ≤ mm ∧ mm ≤ 400) (W : World) => by have := l20Hour_any l mm hh t r hbd.1 hm hB W; rw [hb] at this; exact this
        have HAFT := Lib.hid haft
        have HBB := Lib.hid hb
        clear haft hb
        have hW3 := balloc (balloc (Below.refl w.heap.size w) (.cells #[.int .i64 l, .int .i64 m] 25)) (.cells #[.int .i64 hh, .int .i64 t, .int .i64 r] 27)
        have hf0 := (Blk.new w 25 [.int .i64 l, .int .i64 m]).alloc (.cells #[.int .i64 hh, .int .i64 t, .int .i64 r] 27)
        have ha0 := Blk.new (w.alloc (.cells #[.int .i64 l, .int .i64 m] 25)) 27 [.int .i64 hh, .int .i64 t, .int .i64 r]
        rw [World.size_alloc] at ha0
        have HF := Lib.hid hf0
        have HA := Lib.hid ha0
        clear hf0 ha0
        have hno2 : ∀ x : huIn m b limit = false, huB l m hh t r limit = false ∧ huN l m hh t r limit = 0 := fun x => ⟨hin.trans x, hno x⟩
        have hye2 : ∀ x : huIn m b limit = true, huB l m hh t r limit = true ∧ huN l m hh t r limit = hrs l b limit 401 m 0 := fun x => ⟨hin.trans x, hyes x⟩
        have HNO := Lib.hid hno2
        have HYE := Lib.hid hye2
        clear hno2 hye2 hin hyes hno
        have HQ := Lib.hid hq
        have HN := Lib.hid hN
        clear hq hN
        have hcase : (limit = m ∧ True) ∨ (m < limit ∧ limit ≤ b) ∨ (limit < m ∧ b ≤ limit) ∨ (limit < m ∧ limit < b) ∨ (m < limit ∧ b < limit) := by simp only [and_true]; omega
        rcases hcase with ⟨c1, c2⟩ | ⟨c1, c2⟩ | ⟨c1, c2⟩ | ⟨c1, c2⟩ | ⟨c1, c2⟩
        · subst c1
          obtain ⟨e1, e2⟩ := HYE.out (huIn_iff.2 (.inl rfl))
          rw [hrs_stop _ _ (by omega)] at e2
          obtain rfl := e1.symm.trans HQ.out
          obtain rfl := e2.symm.trans HN.out
          clear e1 e2 c2
          go_enter Try.func19, Try.ntmps19
          go_wp2_with (first | (go_at_call 36; refine (l20Bed_is true hA _).mono ?_; rintro e w' ⟨rfl, hb⟩; (try clear cW fW zW); (first | (have bW := bstep bW hb) | (have bW := bstep (bdrew bW) hb) | (have bW := bstep (balloc bW _) hb) | (have bW := bstep (bdrewN bW _) hb) | (have bW := hb)); clear hb; obtain ⟨cW, fW⟩ := bcell bW; have zW := bsize bW) | (go_at_call 37; refine (l20Air_is true hB _).mono ?_; rintro e w' ⟨rfl, hb⟩; (try clear cW fW zW); (first | (have bW := bstep bW hb) | (have bW := bstep (bdrew bW) hb) | (have bW := bstep (balloc bW _) hb) | (have bW := bstep (bdrewN bW _) hb) | (have bW := hb)); clear hb; obtain ⟨cW, fW⟩ := bcell bW; have zW := bsize bW) | (go_at_call 50; refine (l20Moist_is true hC _).mono ?_; rintro e w' ⟨rfl, rfl⟩))
          refine wp_loop_rounds 1 ?_
          rw [rounds_succ]
          go_wp2
          go_returns
          exact ⟨rfl, by (repeat' (first | (with_reducible exact Below.refl _ _) | (with_reducible assumption) | (with_reducible refine balloc ?_ _) | (with_reducible refine bdrew ?_) | (with_reducible refine bdrewN ?_ _) | (with_reducible refine bstep ?_ (by assumption)) | (with_reducible refine bset ?_ ?_ _) | (exact Below.size (by assumption)) | go_size))⟩
        · obtain ⟨e1, e2⟩ := HYE.out (huIn_iff.2 (.inr (.inl ⟨c1, c2⟩)))
          have hN := e2.symm.trans HN.out
          obtain rfl := e1.symm.trans HQ.out
          have HR := Lib.hid hN
          clear e1 e2 hN
          have hml : ¬ m = limit := by omega
          go_enter Try.func19, Try.ntmps19
          go_wp2_with (first | (go_at_call 36; refine (l20Bed_is true hA _).mono ?_; rintro e w' ⟨rfl, hb⟩; (try clear cW fW zW); (first | (have bW := bstep bW hb) | (have bW := bstep (bdrew bW) hb) | (have bW := bstep (balloc bW _) hb) | (have bW := bstep (bdrewN bW _) hb) | (have bW := hb)); clear hb; obtain ⟨cW, fW⟩ := bcell bW; have zW := bsize bW) | (go_at_call 37; refine (l20Air_is true hB _).mono ?_; rintro e w' ⟨rfl, hb⟩; (try clear cW fW zW); (first | (have bW := bstep bW hb) | (have bW := bstep (bdrew bW) hb) | (have bW := bstep (balloc bW _) hb) | (have bW := bstep (bdrewN bW _) hb) | (have bW := hb)); clear hb; obtain ⟨cW, fW⟩ := bcell bW; have zW := bsize bW) | (go_at_call 50; refine (l20Moist_is true hC _).mono ?_; rintro e w' ⟨rfl, rfl⟩))
          have hfw := HF.out.keep bW
          have haw := HA.out.keep bW
          have bS := bstep hW3 bW
          go_loopw [8, 9] (fun v i wr => ∃ (now : Int) (k fu : Nat), v = .int .i64 now ∧ i = .int .i64 k ∧ 0 ≤ now ∧ now ≤ 400 ∧ k + fu = 401 ∧ now < limit ∧ limit - now ≤ fu ∧ hrs l b limit fu now (k : Int) = N ∧ Blk wr w.heap.size 25 [.int .i64 l, .int .i64 m] ∧ Blk wr (w.heap.size + 1) 27 [.int .i64 hh, .int .i64 t, .int .i64 r] ∧ Below w.heap.size w wr) (fun _ i _ => 402 - (intOf i).toNat)
          case atStart => exact ⟨m, 0, 401, rfl, rfl, by omega, by omega, rfl, by omega, by omega, HR.out, hfw, haw, bS⟩
          case round =>
            obtain ⟨now, k, fu, rfl, rfl, hn0, hn1, hk, hi1, hi2, hR, hf, ha, hW⟩ := hrel
            obtain ⟨p0, p1, f0, f1, ps⟩ := hf.two
            obtain ⟨q0, q1, q2, qs⟩ := ha.three
            have HFB := Lib.hid hf
            have HAA := Lib.hid ha
            clear hf ha
            have hne : ¬ now = limit := by omega
            obtain ⟨fu, rfl⟩ : ∃ f, fu = f + 1 := ⟨fu - 1, by omega⟩
            have hst := hourI_up (lag := l) (m := now) (b := b) (by omega)
            rw [hrs_go _ _ (.inl ⟨hi1, by omega⟩)] at hR
            have hbd2 := hourI_bd (lag := l) (m := now) (b := b) ⟨hn0, hn1⟩ ⟨hb1, hb2⟩
            have HT := HAFT.out now ⟨hn0, hn1⟩
            obtain ⟨nx, hnx⟩ : ∃ nx, hourI l now b = nx := ⟨_, rfl⟩
            rw [hnx] at hst hbd2 hR HT
            have HTT := Lib.hid HT
            clear HT hnx
            have hnn : ¬ nx = now := by omega
            have hnn2 : (nx == now) = false := by simp [hnn]
            by_cases hx : limit ≤ nx
            · rw [hrs_stop _ _ (by omega)] at hR
              subst hR
              clear HR HN HYE HNO
              have g1 : ¬ limit < now := by omega
              go_wp2_with (first | (go_at_call 38; refine (HTT.out _).mono ?_; rintro e w' ⟨rfl, hb⟩))
              go_returns
              exact ⟨rfl, bstep hW hb⟩
            · have HRR := Lib.hid hR
              clear hR
              have g1 : ¬ limit < now := by omega
              go_wp2_with (first | (go_at_call 38; refine (HTT.out _).mono ?_; rintro e w' ⟨rfl, hb⟩))
              go_roundw
              case rel => exact ⟨nx, k + 1, fu, rfl, by go_num, by omega, by omega, by omega, by omega, by omega, HRR.out, HFB.out.keep hb, HAA.out.keep hb, bstep hW hb⟩
              case measure => simp [intOf]; omega
        · obtain ⟨e1, e2⟩ := HYE.out (huIn_iff.2 (.inr (.inr ⟨c1, c2⟩)))
          have hN := e2.symm.trans HN.out
          obtain rfl := e1.symm.trans HQ.out
          have HR := Lib.hid hN
          clear e1 e2 hN
          have hml : ¬ m = limit := by omega
          go_enter Try.func19, Try.ntmps19
          go_wp2_with (first | (go_at_call 36; refine (l20Bed_is true hA _).mono ?_; rintro e w' ⟨rfl, hb⟩; (try clear cW fW zW); (first | (have bW := bstep bW hb) | (have bW := bstep (bdrew bW) hb) | (have bW := bstep (balloc bW _) hb) | (have bW := bstep (bdrewN bW _) hb) | (have bW := hb)); clear hb; obtain ⟨cW, fW⟩ := bcell bW; have zW := bsize bW) | (go_at_call 37; refine (l20Air_is true hB _).mono ?_; rintro e w' ⟨rfl, hb⟩; (try clear cW fW zW); (first | (have bW := bstep bW hb) | (have bW := bstep (bdrew bW) hb) | (have bW := bstep (balloc bW _) hb) | (have bW := bstep (bdrewN bW _) hb) | (have bW := hb)); clear hb; obtain ⟨cW, fW⟩ := bcell bW; have zW := bsize bW) | (go_at_call 50; refine (l20Moist_is true hC _).mono ?_; rintro e w' ⟨rfl, rfl⟩))
          have hfw := HF.out.keep bW
          have haw := HA.out.keep bW
          have bS := bstep hW3 bW
          go_loopw [8, 9] (fun v i wr => ∃ (now : Int) (k fu : Nat), v = .int .i64 now ∧ i = .int .i64 k ∧ 0 ≤ now ∧ now ≤ 400 ∧ k + fu = 401 ∧ limit < now ∧ now - limit ≤ fu ∧ hrs l b limit fu now (k : Int) = N ∧ Blk wr w.heap.size 25 [.int .i64 l, .int .i64 m] ∧ Blk wr (w.heap.size + 1) 27 [.int .i64 hh, .int .i64 t, .int .i64 r] ∧ Below w.heap.size w wr) (fun _ i _ => 402 - (intOf i).toNat)
          case atStart => exact ⟨m, 0, 401, rfl, rfl, by omega, by omega, rfl, by omega, by omega, HR.out, hfw, haw, bS⟩
          case round =>
            obtain ⟨now, k, fu, rfl, rfl, hn0, hn1, hk, hi1, hi2, hR, hf, ha, hW⟩ := hrel
            obtain ⟨p0, p1, f0, f1, ps⟩ := hf.two
            obtain ⟨q0, q1, q2, qs⟩ := ha.three
            have HFB := Lib.hid hf
            have HAA := Lib.hid ha
            clear hf ha
            have hne : ¬ now = limit := by omega
            obtain ⟨fu, rfl⟩ : ∃ f, fu = f + 1 := ⟨fu - 1, by omega⟩
            have hst := hourI_down (lag := l) (m := now) (b := b) (by omega)
            rw [hrs_go _ _ (.inr ⟨hi1, by omega⟩)] at hR
            have hbd2 := hourI_bd (lag := l) (m := now) (b := b) ⟨hn0, hn1⟩ ⟨hb1, hb2⟩
            have HT := HAFT.out now ⟨hn0, hn1⟩
            obtain ⟨nx, hnx⟩ : ∃ nx, hourI l now b = nx := ⟨_, rfl⟩
            rw [hnx] at hst hbd2 hR HT
            have HTT := Lib.hid HT
            clear HT hnx
            have hnn : ¬ nx = now := by omega
            have hnn2 : (nx == now) = false := by simp [hnn]
            by_cases hx : nx ≤ limit
            · rw [hrs_stop _ _ (by omega)] at hR
              subst hR
              clear HR HN HYE HNO
              have g1 : ¬ now < limit := by omega
              go_wp2_with (first | (go_at_call 38; refine (HTT.out _).mono ?_; rintro e w' ⟨rfl, hb⟩))
              go_returns
              exact ⟨rfl, bstep hW hb⟩
            · have HRR := Lib.hid hR
              clear hR
              have g1 : ¬ now < limit := by omega
              go_wp2_with (first | (go_at_call 38; refine (HTT.out _).mono ?_; rintro e w' ⟨rfl, hb⟩))
              go_roundw
              case rel => exact ⟨nx, k + 1, fu, rfl, by go_num, by omega, by omega, by omega, by omega, by omega, HRR.out, HFB.out.keep hb, HAA.out.keep hb, bstep hW hb⟩
              case measure => simp [intOf]; omega
        · obtain ⟨e1, e2⟩ := HNO.out (by simp [huIn]; omega)
          obtain rfl := e1.symm.trans HQ.out
          obtain rfl := e2.symm.trans HN.out
          clear e1 e2
          have hml : ¬ m = limit := by omega
          go_enter Try.func19, Try.ntmps19
          go_wp2_with (first | (go_at_call 36; refine (l20Bed_is true hA _).mono ?_; rintro e w' ⟨rfl, hb⟩; (try clear cW fW zW); (first | (have bW := bstep bW hb) | (have bW := bstep (bdrew bW) hb) | (have bW := bstep (balloc bW _) hb) | (have bW := bstep (bdrewN bW _) hb) | (have bW := hb)); clear hb; obtain ⟨cW, fW⟩ := bcell bW; have zW := bsize bW) | (go_at_call 37; refine (l20Air_is true hB _).mono ?_; rintro e w' ⟨rfl, hb⟩; (try clear cW fW zW); (first | (have bW := bstep bW hb) | (have bW := bstep (bdrew bW) hb) | (have bW := bstep (balloc bW _) hb) | (have bW := bstep (bdrewN bW _) hb) | (have bW := hb)); clear hb; obtain ⟨cW, fW⟩ := bcell bW; have zW := bsize bW) | (go_at_call 50; refine (l20Moist_is true hC _).mono ?_; rintro e w' ⟨rfl, rfl⟩))
          have hfw := HF.out.keep bW
          have haw := HA.out.keep bW
          have bS := bstep hW3 bW
          go_loopw [8, 9] (fun v i wr => ∃ (now : Int) (k fu : Nat), v = .int .i64 now ∧ i = .int .i64 k ∧ 0 ≤ now ∧ now ≤ 400 ∧ k + fu = 401 ∧ limit < now ∧ (b - now).natAbs ≤ fu ∧ Blk wr w.heap.size 25 [.int .i64 l, .int .i64 m] ∧ Blk wr (w.heap.size + 1) 27 [.int .i64 hh, .int .i64 t, .int .i64 r] ∧ Below w.heap.size w wr) (fun _ i _ => 402 - (intOf i).toNat)
          case atStart => exact ⟨m, 0, 401, rfl, rfl, by omega, by omega, rfl, by omega, by omega, hfw, haw, bS⟩
          case round =>
            obtain ⟨now, k, fu, rfl, rfl, hn0, hn1, hk, hi1, hi2, hf, ha, hW⟩ := hrel
            obtain ⟨p0, p1, f0, f1, ps⟩ := hf.two
            obtain ⟨q0, q1, q2, qs⟩ := ha.three
            have HFB := Lib.hid hf
            have HAA := Lib.hid ha
            clear hf ha
            have hne : ¬ now = limit := by omega
            have hbd2 := hourI_bd (lag := l) (m := now) (b := b) ⟨hn0, hn1⟩ ⟨hb1, hb2⟩
            have HT := HAFT.out now ⟨hn0, hn1⟩
            by_cases hx : b = now
            · rw [hourI_same hx] at HT
              have HTT := Lib.hid HT
              clear HT
              go_wp2_with (first | (go_at_call 38; refine (HTT.out _).mono ?_; rintro e w' ⟨rfl, hb⟩))
              go_returns
              exact ⟨rfl, bstep hW hb⟩
            · have hst : (now < hourI l now b ∧ hourI l now b ≤ b) ∨ (b ≤ hourI l now b ∧ hourI l now b < now) := by
                rcases Int.lt_or_gt_of_ne hx with h1 | h1
                · exact .inr (hourI_down h1)
                · exact .inl (hourI_up h1)
              obtain ⟨nx, hnx⟩ : ∃ nx, hourI l now b = nx := ⟨_, rfl⟩
              rw [hnx] at hst hbd2 HT
              have HTT := Lib.hid HT
              clear HT hnx
              have hnn : ¬ nx = now := by omega
              have hnn2 : (nx == now) = false := by simp [hnn]
              have g1 : ¬ now < limit := by omega
              have g2 : ¬ nx ≤ limit := by omega
              obtain ⟨fu, rfl⟩ : ∃ f, fu = f + 1 := ⟨fu - 1, by omega⟩
              have HST : (b - nx).natAbs ≤ fu := by omega
              clear hst
              go_wp2_with (first | (go_at_call 38; refine (HTT.out _).mono ?_; rintro e w' ⟨rfl, hb⟩))
              go_roundw
              case rel => exact ⟨nx, k + 1, fu, rfl, by go_num, by omega, by omega, by omega, by omega, by omega, HFB.out.keep hb, HAA.out.keep hb, bstep hW hb⟩
              case measure => simp [intOf]; omega
        · obtain ⟨e1, e2⟩ := HNO.out (by simp [huIn]; omega)
          obtain rfl := e1.symm.trans HQ.out
          obtain rfl := e2.symm.trans HN.out
          clear e1 e2
          have hml : ¬ m = limit := by omega
          go_enter Try.func19, Try.ntmps19
          go_wp2_with (first | (go_at_call 36; refine (l20Bed_is true hA _).mono ?_; rintro e w' ⟨rfl, hb⟩; (try clear cW fW zW); (first | (have bW := bstep bW hb) | (have bW := bstep (bdrew bW) hb) | (have bW := bstep (balloc bW _) hb) | (have bW := bstep (bdrewN bW _) hb) | (have bW := hb)); clear hb; obtain ⟨cW, fW⟩ := bcell bW; have zW := bsize bW) | (go_at_call 37; refine (l20Air_is true hB _).mono ?_; rintro e w' ⟨rfl, hb⟩; (try clear cW fW zW); (first | (have bW := bstep bW hb) | (have bW := bstep (bdrew bW) hb) | (have bW := bstep (balloc bW _) hb) | (have bW := bstep (bdrewN bW _) hb) | (have bW := hb)); clear hb; obtain ⟨cW, fW⟩ := bcell bW; have zW := bsize bW) | (go_at_call 50; refine (l20Moist_is true hC _).mono ?_; rintro e w' ⟨rfl, rfl⟩))
          have hfw := HF.out.keep bW
          have haw := HA.out.keep bW
          have bS := bstep hW3 bW
          go_loopw [8, 9] (fun v i wr => ∃ (now : Int) (k fu : Nat), v = .int .i64 now ∧ i = .int .i64 k ∧ 0 ≤ now ∧ now ≤ 400 ∧ k + fu = 401 ∧ now < limit ∧ (b - now).natAbs ≤ fu ∧ Blk wr w.heap.size 25 [.int .i64 l, .int .i64 m] ∧ Blk wr (w.heap.size + 1) 27 [.int .i64 hh, .int .i64 t, .int .i64 r] ∧ Below w.heap.size w wr) (fun _ i _ => 402 - (intOf i).toNat)
          case atStart => exact ⟨m, 0, 401, rfl, rfl, by omega, by omega, rfl, by omega, by omega, hfw, haw, bS⟩
          case round =>
            obtain ⟨now, k, fu, rfl, rfl, hn0, hn1, hk, hi1, hi2, hf, ha, hW⟩ := hrel
            obtain ⟨p0, p1, f0, f1, ps⟩ := hf.two
            obtain ⟨q0, q1, q2, qs⟩ := ha.three
            have HFB := Lib.hid hf
            have HAA := Lib.hid ha
            clear hf ha
            have hne : ¬ now = limit := by omega
            have hbd2 := hourI_bd (lag := l) (m := now) (b := b) ⟨hn0, hn1⟩ ⟨hb1, hb2⟩
            have HT := HAFT.out now ⟨hn0, hn1⟩
            by_cases hx : b = now
            · rw [hourI_same hx] at HT
              have HTT := Lib.hid HT
              clear HT
              go_wp2_with (first | (go_at_call 38; refine (HTT.out _).mono ?_; rintro e w' ⟨rfl, hb⟩))
              go_returns
              exact ⟨rfl, bstep hW hb⟩
            · have hst : (now < hourI l now b ∧ hourI l now b ≤ b) ∨ (b ≤ hourI l now b ∧ hourI l now b < now) := by
                rcases Int.lt_or_gt_of_ne hx with h1 | h1
                · exact .inr (hourI_down h1)
                · exact .inl (hourI_up h1)
              obtain ⟨nx, hnx⟩ : ∃ nx, hourI l now b = nx := ⟨_, rfl⟩
              rw [hnx] at hst hbd2 HT
              have HTT := Lib.hid HT
              clear HT hnx
              have hnn : ¬ nx = now := by omega
              have hnn2 : (nx == now) = false := by simp [hnn]
              have g1 : ¬ limit < now := by omega
              have g2 : ¬ limit ≤ nx := by omega
              obtain ⟨fu, rfl⟩ : ∃ f, fu = f + 1 := ⟨fu - 1, by omega⟩
              have HST : (b - nx).natAbs ≤ fu := by omega
              clear hst
              go_wp2_with (first | (go_at_call 38; refine (HTT.out _).mono ?_; rintro e w' ⟨rfl, hb⟩))
              go_roundw
              case rel => exact ⟨nx, k + 1, fu, rfl, by go_num, by omega, by omega, by omega, by omega, by omega, HFB.out.keep hb, HAA.out.keep hb, bstep hW hb⟩
              case measure => simp [intOf]; omega
end Go.Proofs.Ytlnfccncbfpoiaa
