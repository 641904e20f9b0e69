/-
  Slices of situations: copying. Conditions: lengths within the bound of a slice, as each statement says.
-/
import Derived.Test.YtgmofnceheapmaaA
import Derived.Test.YtgmofnceheapmaaS
namespace Go.Proofs.Ytgmofnceheapmaa
open Go.RowKit
set_option maxHeartbeats 1000000
abbrev SituationT := Int × Int × Int × Int × Int × Int
def sitE (a : SituationT) : List Value := [.int .i64 a.1, .int .i64 a.2.1, .int .i64 a.2.2.1, .int .i64 a.2.2.2.1, .int .i64 a.2.2.2.2.1, .int .i64 a.2.2.2.2.2]
theorem sitE_len (a : SituationT) : (sitE a).length = 6 := rfl
def sitF (zs : List SituationT) : List Value := zs.flatMap sitE
theorem sitF_len (zs : List SituationT) : (sitF zs).length = zs.length * 6 := flat_length sitE_len zs
/-- an element of a slice that lies below the world w, read in a later world -/
theorem sit_at {w wr : World} {A : Option Addr} {n k : Nat} {zs : List SituationT} (hr : Rd w 6 A n (sitF zs)) (hW : Below w.heap.size w wr) (hl : zs.length = n) (hk : k < n) :
    ∃ b off, A = some ⟨b, off, none⟩ ∧ b < w.heap.size ∧ ∃ x0 x1 x2 x3 x4 x5, zs[k]'(by omega) = (x0, x1, x2, x3, x4, x5)
    ∧ wr.cell? ⟨b, off + k * 6, none⟩ = some (.int .i64 x0)
    ∧ wr.cell? ⟨b, off + k * 6 + 1, none⟩ = some (.int .i64 x1)
    ∧ wr.cell? ⟨b, off + k * 6 + 2, none⟩ = some (.int .i64 x2)
    ∧ wr.cell? ⟨b, off + k * 6 + 3, none⟩ = some (.int .i64 x3)
    ∧ wr.cell? ⟨b, off + k * 6 + 4, none⟩ = some (.int .i64 x4)
    ∧ wr.cell? ⟨b, off + k * 6 + 5, none⟩ = some (.int .i64 x5) := by
  obtain ⟨b, off, e, hb, hc⟩ := hr.2 (by omega)
  have hg : ∀ j u, j < 6 → (sitE (zs[k]'(by omega)))[j]? = some u → wr.cell? ⟨b, off + k * 6 + j, none⟩ = some u := fun j u hj hu => by
    rw [Nat.add_assoc]
    refine (hW.cell (p := ⟨b, off + (k * 6 + j), none⟩) hb).trans (hc _ _ ?_)
    rw [← hu]; exact flat_get sitE_len zs k j (by omega) hj
  refine ⟨b, off, e, hb, (zs[k]'(by omega)).1, (zs[k]'(by omega)).2.1, (zs[k]'(by omega)).2.2.1, (zs[k]'(by omega)).2.2.2.1, (zs[k]'(by omega)).2.2.2.2.1, (zs[k]'(by omega)).2.2.2.2.2, rfl, hg 0 _ (by omega) rfl, hg 1 _ (by omega) rfl, hg 2 _ (by omega) rfl, hg 3 _ (by omega) rfl, hg 4 _ (by omega) rfl, hg 5 _ (by omega) rfl⟩
theorem sit_step {zs : List SituationT} {k n : Nat} (hl : zs.length = n) (hk : k < n) {x0 : Int} {x1 : Int} {x2 : Int} {x3 : Int} {x4 : Int} {x5 : Int} (hz : zs[k]'(by omega) = (x0, x1, x2, x3, x4, x5)) :
    sets (sitF (zs.take k) ++ (List.replicate (n - k) [.int .i64 0, .int .i64 0, .int .i64 0, .int .i64 0, .int .i64 0, .int .i64 0]).flatten) (k * 6) [.int .i64 x0, .int .i64 x1, .int .i64 x2, .int .i64 x3, .int .i64 x4, .int .i64 x5] = sitF (zs.take (k + 1)) ++ (List.replicate (n - (k + 1)) [.int .i64 0, .int .i64 0, .int .i64 0, .int .i64 0, .int .i64 0, .int .i64 0]).flatten := by
  have hL : (sitF (zs.take k)).length = k * 6 := by rw [sitF_len, List.length_take, Nat.min_eq_left (by omega)]
  have e2 : n - k = (n - (k + 1)) + 1 := by omega
  rw [e2, List.replicate_succ, List.flatten_cons, sets_mid hL (by rfl)]
  unfold sitF
  rw [List.take_succ_eq_append_getElem (by omega), List.flatMap_append, hz, List.append_assoc]
  rfl
theorem sit_there {zs : List SituationT} {k n j : Nat} (hl : zs.length = n) (hk : k < n) (hj : j < 6) : ∃ u, (sitF (zs.take k) ++ (List.replicate (n - k) [.int .i64 0, .int .i64 0, .int .i64 0, .int .i64 0, .int .i64 0, .int .i64 0]).flatten)[k * 6 + j]? = some u := by
  have hL : (sitF (zs.take k)).length = k * 6 := by rw [sitF_len, List.length_take, Nat.min_eq_left (by omega)]
  have e2 : n - k = (n - (k + 1)) + 1 := by omega
  refine ⟨_, List.getElem?_eq_getElem ?_⟩
  rw [e2, List.replicate_succ, List.flatten_cons, List.length_append, List.length_append, hL]
  simp
  omega
theorem toSituationS_any (A : Option Addr) (n c : Nat) (zs : List SituationT) (w : World) (hr : Rd w 6 A n (sitF zs)) (hl : zs.length = n) (hn : n * 48 ≤ 140737488351232) :
    Calls Try.prog 19 #[.slice A n c] w fun e w' => ∃ g, e = .returned (.slice (some ⟨g, 0, none⟩) n n) ∧ w.heap.size ≤ g ∧ Bk w' g 25 (sitF zs) ∧ Below w.heap.size w w' := by
  obtain ⟨i0, hi0, hz0, hz1, hz2⟩ := info_parts (show (Try.prog.info? 25).map (fun i => (i.zero, i.size, i.bytes)) = some (some (.agg #[.int .i64 0, .int .i64 0, .int .i64 0, .int .i64 0, .int .i64 0, .int .i64 0]), 6, 48) from by kernel_rfl)
  have hmk : ∀ W : World, (Instr.makeSlice 33 (.int .i64 (n : Int)) (.int .i64 (n : Int))).run Try.prog W = .ok (.slice (some ⟨W.heap.size, 0, none⟩) n n) (W.alloc (.cells (List.replicate n [Value.int .i64 0, .int .i64 0, .int .i64 0, .int .i64 0, .int .i64 0, .int .i64 0]).flatten.toArray 25)) := fun W => by
    have h := run_make (P := Try.prog) W 33 25 i0 (.agg #[.int .i64 0, .int .i64 0, .int .i64 0, .int .i64 0, .int .i64 0, .int .i64 0]) Try.underlying33 hi0 hz0 .i64 .i64 n n (by omega) (by omega) (by rw [hz2]; omega) (by omega)
    rw [hz1] at h
    rw [← madeCells_flat [Value.int .i64 0, .int .i64 0, .int .i64 0, .int .i64 0, .int .i64 0, .int .i64 0] n]
    simpa [Value.cells] using h
  have hb9 : n ≤ 9223372036854775807 := by omega
  clear hi0 hz0 hz1 hz2
  go_enter Try.func19, Try.ntmps19
  go_wp2
  go_loopw [4] (fun i wr => ∃ k : Nat, k ≤ n ∧ i = .int .i64 k ∧ Bk wr w.heap.size 25 (sitF (zs.take k) ++ (List.replicate (n - k) [.int .i64 0, .int .i64 0, .int .i64 0, .int .i64 0, .int .i64 0, .int .i64 0]).flatten) ∧ Below w.heap.size w wr) (fun i _ => n - (intOf i).toNat)
  case atStart => exact ⟨0, Nat.zero_le _, rfl, by simpa [sitF] using Bk.new w 25 (List.replicate n [.int .i64 0, .int .i64 0, .int .i64 0, .int .i64 0, .int .i64 0, .int .i64 0]).flatten, balloc (Below.refl _ _) _⟩
  case round =>
    obtain ⟨k, hk, rfl, hB, hW⟩ := hrel
    by_cases hlt : k < n
    · obtain ⟨b, off, rfl, hbl, x0, x1, x2, x3, x4, x5, hz, c0, c1, c2, c3, c4, c5⟩ := sit_at hr hW hl hlt
      have HZ := Lib.hid hz
      have hBs := Lib.hid hB
      clear hz hB hmk
      have hsz := hW.size
      go_wp2_with (first | (go_at_call 13; refine (toSituation_any _ _ _ _ _ _ _).mono ?_; rintro e w' ⟨rfl, hb⟩; have hB := hBs.out.below hb hBs.out.lt; have bW := bstep hW hb; obtain ⟨u0, t0⟩ : ∃ u, w'.cell? ⟨w.heap.size, k * 6, none⟩ = some u := hB.there (sit_there (j := 0) hl hlt (by omega)); have f0 : w'.frozen? ⟨w.heap.size, k * 6, none⟩ = false := hB.frozen _; obtain ⟨u1, t1⟩ : ∃ u, w'.cell? ⟨w.heap.size, k * 6 + 1, none⟩ = some u := hB.there (sit_there (j := 1) hl hlt (by omega)); have f1 : w'.frozen? ⟨w.heap.size, k * 6 + 1, none⟩ = false := hB.frozen _; obtain ⟨u2, t2⟩ : ∃ u, w'.cell? ⟨w.heap.size, k * 6 + 2, none⟩ = some u := hB.there (sit_there (j := 2) hl hlt (by omega)); have f2 : w'.frozen? ⟨w.heap.size, k * 6 + 2, none⟩ = false := hB.frozen _; obtain ⟨u3, t3⟩ : ∃ u, w'.cell? ⟨w.heap.size, k * 6 + 3, none⟩ = some u := hB.there (sit_there (j := 3) hl hlt (by omega)); have f3 : w'.frozen? ⟨w.heap.size, k * 6 + 3, none⟩ = false := hB.frozen _; obtain ⟨u4, t4⟩ : ∃ u, w'.cell? ⟨w.heap.size, k * 6 + 4, none⟩ = some u := hB.there (sit_there (j := 4) hl hlt (by omega)); have f4 : w'.frozen? ⟨w.heap.size, k * 6 + 4, none⟩ = false := hB.frozen _; obtain ⟨u5, t5⟩ : ∃ u, w'.cell? ⟨w.heap.size, k * 6 + 5, none⟩ = some u := hB.there (sit_there (j := 5) hl hlt (by omega)); have f5 : w'.frozen? ⟨w.heap.size, k * 6 + 5, none⟩ = false := hB.frozen _; have hS := Lib.hid ((((((hB.set_ (k * 6) (.int .i64 x0)).set_ (k * 6 + 1) (.int .i64 x1)).set_ (k * 6 + 2) (.int .i64 x2)).set_ (k * 6 + 3) (.int .i64 x3)).set_ (k * 6 + 4) (.int .i64 x4)).set_ (k * 6 + 5) (.int .i64 x5)); have bS := (bset (bset (bset (bset (bset (bset bW (p := ⟨w.heap.size, k * 6, none⟩) (Nat.le_refl _) (.int .i64 x0)) (p := ⟨w.heap.size, k * 6 + 1, none⟩) (Nat.le_refl _) (.int .i64 x1)) (p := ⟨w.heap.size, k * 6 + 2, none⟩) (Nat.le_refl _) (.int .i64 x2)) (p := ⟨w.heap.size, k * 6 + 3, none⟩) (Nat.le_refl _) (.int .i64 x3)) (p := ⟨w.heap.size, k * 6 + 4, none⟩) (Nat.le_refl _) (.int .i64 x4)) (p := ⟨w.heap.size, k * 6 + 5, none⟩) (Nat.le_refl _) (.int .i64 x5)); clear hB))
      have hS' := hS.out
      have hE := sit_step hl hlt HZ.out
      have hQ : Bk _ _ _ (sets (sitF (zs.take k) ++ (List.replicate (n - k) [.int .i64 0, .int .i64 0, .int .i64 0, .int .i64 0, .int .i64 0, .int .i64 0]).flatten) (k * 6) [.int .i64 x0, .int .i64 x1, .int .i64 x2, .int .i64 x3, .int .i64 x4, .int .i64 x5]) := hS'
      rw [hE] at hQ
      clear hS hS' hE
      go_roundw
      case rel => exact ⟨k + 1, by omega, by go_num, hQ, bS⟩
      case measure => simp [intOf]; omega
    · clear hmk
      go_wp2
      go_ret
      have e : k = n := by omega
      subst e
      refine ⟨_, rfl, Nat.le_refl _, ?_, hW⟩
      rw [List.take_of_length_le (by omega)] at hB
      simpa using hB
theorem eqSituation_same (x0 : Int) (x1 : Int) (x2 : Int) (x3 : Int) (x4 : Int) (x5 : Int) (w : World) : Calls Try.prog 53 #[.agg #[.int .i64 x0, .int .i64 x1, .int .i64 x2, .int .i64 x3, .int .i64 x4, .int .i64 x5], .agg #[.int .i64 x0, .int .i64 x1, .int .i64 x2, .int .i64 x3, .int .i64 x4, .int .i64 x5]] w fun e w' => e = .returned (.bool true) ∧ Below w.heap.size w w' := by
  go_enter Try.func53, Try.ntmps53
  go_wp2
  all_goals (go_returns; exact ⟨by simp, by (repeat' (first | (with_reducible exact Below.refl _ _) | (with_reducible assumption) | (with_reducible refine balloc ?_ _) | (with_reducible refine bdrew ?_) | (with_reducible refine bdrewN ?_ _) | (with_reducible refine bstep ?_ (by assumption)) | (with_reducible refine bset ?_ ?_ _) | (exact Below.size (by assumption)) | go_size))⟩)
theorem eqSituationS_same (A B : Option Addr) (n c d : Nat) (zs : List SituationT) (w : World) (hx : Rd w 6 A n (sitF zs)) (hy : Rd w 6 B n (sitF zs)) (hl : zs.length = n) (hn : n ≤ 9223372036854775807) :
    Calls Try.prog 21 #[.slice A n c, .slice B n d] w fun e w' => e = .returned (.bool true) ∧ Below w.heap.size w w' := by
  go_enter Try.func21, Try.ntmps21
  go_wp2
  go_loopw [5] (fun i wr => ∃ k : Nat, k ≤ n ∧ i = .int .i64 k ∧ Below w.heap.size w wr) (fun i _ => n - (intOf i).toNat)
  case atStart => exact ⟨0, Nat.zero_le _, rfl, Below.refl _ _⟩
  case round =>
    obtain ⟨k, hk, rfl, hW⟩ := hrel
    by_cases hlt : k < n
    · obtain ⟨b, off, rfl, hbl, x0, x1, x2, x3, x4, x5, hz, c0, c1, c2, c3, c4, c5⟩ := sit_at hx hW hl hlt
      obtain ⟨b', off', rfl, hbl', y0, y1, y2, y3, y4, y5, hz', d0, d1, d2, d3, d4, d5⟩ := sit_at hy hW hl hlt
      rw [hz] at hz'
      simp only [Prod.mk.injEq] at hz'
      obtain ⟨rfl, rfl, rfl, rfl, rfl, rfl⟩ := hz'
      have i1 : (0 : Int) ≤ (k : Int) := by omega
      have i2 : (k : Int) < (n : Int) := by omega
      have s1 : b < wr.heap.size := Nat.lt_of_lt_of_le hbl hW.size
      have s2 : b' < wr.heap.size := Nat.lt_of_lt_of_le hbl' hW.size
      clear hz
      go_wp2
      (go_region_held3 (fun W => Below (wr).heap.size (wr) W ∧ (∀ bq oq, bq < (wr).heap.size → W.cell? ⟨bq, oq, none⟩ = (wr).cell? ⟨bq, oq, none⟩) ∧ (∀ bq oq, bq < (wr).heap.size → W.frozen? ⟨bq, oq, none⟩ = (wr).frozen? ⟨bq, oq, none⟩) ∧ (∀ bq, bq < (wr).heap.size → bq < W.heap.size)) (((try dsimp only); (try go_split_ands); refine heldc ?_; (repeat' (first | (with_reducible exact Below.refl _ _) | (with_reducible assumption) | (with_reducible refine balloc ?_ _) | (with_reducible refine bdrew ?_) | (with_reducible refine bdrewN ?_ _) | (with_reducible refine bstep ?_ (by assumption)) | (with_reducible refine bset ?_ ?_ _) | (exact Below.size (by assumption)) | go_size)))) (first | (go_at_call 53; refine (eqSituation_same _ _ _ _ _ _ _).mono ?_; rintro e w' ⟨rfl, hb⟩; obtain ⟨hc1, hf1⟩ := bcell hb; have hz1 := bsize hb; have hS1 := bstep (show Below (wr).heap.size (wr) _ from (by first | assumption | (go_split_ands; assumption))) hb))); (rename_i hH; obtain ⟨bW, cW, fW, zW⟩ := hH)
      go_wp2
      go_roundw
      case rel => exact ⟨k + 1, by omega, by go_num, bstep hW bW⟩
      case measure => simp [intOf]; omega
    · go_wp2
      go_ret
      exact ⟨rfl, hW⟩
theorem szSituationS_any (A : Option Addr) (n c : Nat) (l : Int) (w : World) (hn : n ≤ 9223372036854775807) (hl : 0 ≤ l ∧ l ≤ 1048576) : Calls Try.prog 17 #[.slice A n c, .int .i64 l] w fun e w' => e = .returned (.int .i64 (szI n l)) ∧ w = w' := by
  obtain ⟨l0, l1⟩ := hl
  go_enter Try.func17, Try.ntmps17
  go_wp2
  all_goals (go_returns; exact ⟨ret_int (by unfold szI; split <;> omega), rfl⟩)
theorem markSituationS_any (g n c : Nat) (t : TypeId) (cs : List Value) (k : Int) (w : World) (hB : Bk w g t cs) (hl : n * 6 ≤ cs.length) (hn : n ≤ 140737488355328) (hk : 0 ≤ k ∧ k ≤ 1152921504606846976) :
    Calls Try.prog 28 #[.slice (some ⟨g, 0, none⟩) n c, .int .i64 k] w fun e w' => e = .returned (.int .i64 (k + (n : Int) * 6)) ∧ Bk w' g t (ints (marks k (n * 6)) ++ cs.drop (n * 6)) ∧ w.grownBy w' (some g) := by
  obtain ⟨k0, k1⟩ := hk
  go_enter Try.func28, Try.ntmps28
  go_wp2
  go_loopw [1, 5] (fun kk i wr => ∃ j : Nat, j ≤ n ∧ i = .int .i64 j ∧ kk = .int .i64 (k + (j : Int) * 6) ∧ Bk wr g t (ints (marks k (j * 6)) ++ cs.drop (j * 6)) ∧ w.grownBy wr (some g)) (fun _ i _ => n - (intOf i).toNat)
  case atStart => exact ⟨0, Nat.zero_le _, rfl, by simp, by simpa [ints, marks] using hB, World.grownBy.refl w _⟩
  case round =>
    obtain ⟨j, hj, rfl, rfl, hR, hG⟩ := hrel
    by_cases hlt : j < n
    · have hin : ∀ i, i < 6 → ∃ u, wr.cell? ⟨g, j * 6 + i, none⟩ = some u := fun i hi => by
        refine ⟨cs[j * 6 + i]'(by omega), ?_⟩
        rw [hR.cell, List.getElem?_append_right (by simp [ints, marks])]
        simp [ints, marks]
      obtain ⟨u0, t0⟩ : ∃ u, wr.cell? ⟨g, j * 6, none⟩ = some u := hin 0 (by omega)
      have f0 : wr.frozen? ⟨g, j * 6, none⟩ = false := hR.frozen _
      obtain ⟨u1, t1⟩ : ∃ u, wr.cell? ⟨g, j * 6 + 1, none⟩ = some u := hin 1 (by omega)
      have f1 : wr.frozen? ⟨g, j * 6 + 1, none⟩ = false := hR.frozen _
      obtain ⟨u2, t2⟩ : ∃ u, wr.cell? ⟨g, j * 6 + 2, none⟩ = some u := hin 2 (by omega)
      have f2 : wr.frozen? ⟨g, j * 6 + 2, none⟩ = false := hR.frozen _
      obtain ⟨u3, t3⟩ : ∃ u, wr.cell? ⟨g, j * 6 + 3, none⟩ = some u := hin 3 (by omega)
      have f3 : wr.frozen? ⟨g, j * 6 + 3, none⟩ = false := hR.frozen _
      obtain ⟨u4, t4⟩ : ∃ u, wr.cell? ⟨g, j * 6 + 4, none⟩ = some u := hin 4 (by omega)
      have f4 : wr.frozen? ⟨g, j * 6 + 4, none⟩ = false := hR.frozen _
      obtain ⟨u5, t5⟩ : ∃ u, wr.cell? ⟨g, j * 6 + 5, none⟩ = some u := hin 5 (by omega)
      have f5 : wr.frozen? ⟨g, j * 6 + 5, none⟩ = false := hR.frozen _
      have hR' := Lib.hid hR
      have hG' := Lib.hid hG
      clear hin hR hG
      go_wp2
      go_roundw
      case rel =>
        refine ⟨j + 1, by omega, by go_num, by go_num, Bk.cast ((((((hR'.out.set_ (j * 6) _).set_ (j * 6 + 1) _).set_ (j * 6 + 2) _).set_ (j * 6 + 3) _).set_ (j * 6 + 4) _).set_ (j * 6 + 5) _) ?_, ((((((hG'.out.trans (onlySet _ ⟨g, j * 6, none⟩ _)).trans (onlySet _ ⟨g, j * 6 + 1, none⟩ _)).trans (onlySet _ ⟨g, j * 6 + 2, none⟩ _)).trans (onlySet _ ⟨g, j * 6 + 3, none⟩ _)).trans (onlySet _ ⟨g, j * 6 + 4, none⟩ _)).trans (onlySet _ ⟨g, j * 6 + 5, none⟩ _))⟩
        rw [step_marks' (j := j * 6) hl (by omega) (by omega), step_marks' (j := j * 6 + 1) hl (by omega) (by omega), step_marks' (j := j * 6 + 2) hl (by omega) (by omega), step_marks' (j := j * 6 + 3) hl (by omega) (by omega), step_marks' (j := j * 6 + 4) hl (by omega) (by omega), step_marks' (j := j * 6 + 5) hl (by omega) (by omega)]
        have e : (j + 1) * 6 = j * 6 + 6 := by omega
        rw [e]
      case measure => simp [intOf]; omega
    · go_wp2
      go_ret
      have e : j = n := by omega
      subst e
      exact ⟨rfl, hR, hG⟩
theorem heldSituationS_any (A : Option Addr) (n c : Nat) (k : Int) (w : World) (hr : Rd w 6 A n (ints (marks k (n * 6)))) (hn : n ≤ 140737488355328) (hk : 0 ≤ k ∧ k ≤ 1152921504606846976) :
    Calls Try.prog 29 #[.slice A n c, .int .i64 k] w fun e w' => e = .returned (.int .i64 (k + (n : Int) * 6)) ∧ w = w' := by
  obtain ⟨k0, k1⟩ := hk
  go_enter Try.func29, Try.ntmps29
  go_wp2
  go_loop [1, 5] (fun kk i => ∃ j : Nat, j ≤ n ∧ i = .int .i64 j ∧ kk = .int .i64 (k + (j : Int) * 6)) (fun _ i => n - (intOf i).toNat)
  case atStart => exact ⟨0, Nat.zero_le _, rfl, by simp⟩
  case round =>
    obtain ⟨j, hj, rfl, rfl⟩ := hrel
    by_cases hlt : j < n
    · obtain ⟨b, off, rfl, hbl, hc⟩ := hr.2 (by omega)
      have hx : ∀ i, i < 6 → w.cell? ⟨b, off + j * 6 + i, none⟩ = some (.int .i64 (k + (j : Int) * 6 + (i : Int))) := fun i hi => by
        rw [Nat.add_assoc, show k + (j : Int) * 6 + (i : Int) = k + ((j * 6 + i : Nat) : Int) from by omega, ← marks_get k (n * 6) (j * 6 + i) (by omega)]
        exact hc _ _ (ints_get (marks k (n * 6)) _ (by rw [marks_length]; omega))
      have c0 : w.cell? ⟨b, off + j * 6, none⟩ = some (.int .i64 (k + (j : Int) * 6)) := by simpa using hx 0 (by omega)
      have c1 : w.cell? ⟨b, off + j * 6 + 1, none⟩ = some (.int .i64 (k + (j : Int) * 6 + 1)) := hx 1 (by omega)
      have c2 : w.cell? ⟨b, off + j * 6 + 2, none⟩ = some (.int .i64 (k + (j : Int) * 6 + 2)) := hx 2 (by omega)
      have c3 : w.cell? ⟨b, off + j * 6 + 3, none⟩ = some (.int .i64 (k + (j : Int) * 6 + 3)) := hx 3 (by omega)
      have c4 : w.cell? ⟨b, off + j * 6 + 4, none⟩ = some (.int .i64 (k + (j : Int) * 6 + 4)) := hx 4 (by omega)
      have c5 : w.cell? ⟨b, off + j * 6 + 5, none⟩ = some (.int .i64 (k + (j : Int) * 6 + 5)) := hx 5 (by omega)
      clear hx hc
      go_wp2
      go_round
      case rel => exact ⟨j + 1, by omega, by go_num, by go_num⟩
      case measure => simp [intOf]; omega
    · go_wp2
      go_ret
      have e : j = n := by omega
      subst e
      exact ⟨rfl, rfl⟩
end Go.Proofs.Ytgmofnceheapmaa
