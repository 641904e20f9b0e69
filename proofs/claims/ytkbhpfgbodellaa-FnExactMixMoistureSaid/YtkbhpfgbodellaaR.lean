/-
  Slices of air and of fuelbeds: copying, comparing, marking. Conditions: lengths within the bound of a slice, as each statement says.
-/
import Derived.Test.YtkbhpfgbodellaaA
import Derived.Test.YtkbhpfgbodellaaS
namespace Go.Proofs.Ytkbhpfgbodellaa
open Go.RowKit
set_option maxHeartbeats 1000000
abbrev AirT := Int × Int × Int
def airE (a : AirT) : List Value := [.int .i64 a.1, .int .i64 a.2.1, .int .i64 a.2.2]
theorem airE_len (a : AirT) : (airE a).length = 3 := rfl
def airF (zs : List AirT) : List Value := zs.flatMap airE
theorem airF_len (zs : List AirT) : (airF zs).length = zs.length * 3 := flat_length airE_len zs
/-- an element of a slice that lies below the world w, read in a later world -/
theorem air_at {w wr : World} {A : Option Addr} {n k : Nat} {zs : List AirT} (hr : Rd w 3 A n (airF zs)) (hW : Below w.heap.size w wr) (hl : zs.length = n) (hk : k < n) :
    ∃ b off, A = some ⟨b, off, none⟩ ∧ b < w.heap.size ∧ ∃ x0 x1 x2, zs[k]'(by omega) = (x0, x1, x2)
    ∧ wr.cell? ⟨b, off + k * 3, none⟩ = some (.int .i64 x0)
    ∧ wr.cell? ⟨b, off + k * 3 + 1, none⟩ = some (.int .i64 x1)
    ∧ wr.cell? ⟨b, off + k * 3 + 2, none⟩ = some (.int .i64 x2) := by
  obtain ⟨b, off, e, hb, hc⟩ := hr.2 (by omega)
  have hg : ∀ j u, j < 3 → (airE (zs[k]'(by omega)))[j]? = some u → wr.cell? ⟨b, off + k * 3 + j, none⟩ = some u := fun j u hj hu => by
    rw [Nat.add_assoc]
    refine (hW.cell (p := ⟨b, off + (k * 3 + j), none⟩) hb).trans (hc _ _ ?_)
    rw [← hu]; exact flat_get airE_len zs k j (by omega) hj
  refine ⟨b, off, e, hb, (zs[k]'(by omega)).1, (zs[k]'(by omega)).2.1, (zs[k]'(by omega)).2.2, rfl, hg 0 _ (by omega) rfl, hg 1 _ (by omega) rfl, hg 2 _ (by omega) rfl⟩
theorem air_step {zs : List AirT} {k n : Nat} (hl : zs.length = n) (hk : k < n) {x0 : Int} {x1 : Int} {x2 : Int} (hz : zs[k]'(by omega) = (x0, x1, x2)) :
    sets (airF (zs.take k) ++ (List.replicate (n - k) [.int .i64 0, .int .i64 0, .int .i64 0]).flatten) (k * 3) [.int .i64 x0, .int .i64 x1, .int .i64 x2] = airF (zs.take (k + 1)) ++ (List.replicate (n - (k + 1)) [.int .i64 0, .int .i64 0, .int .i64 0]).flatten := by
  have hL : (airF (zs.take k)).length = k * 3 := by rw [airF_len, List.length_take, Nat.min_eq_left (by omega)]
  have e2 : n - k = (n - (k + 1)) + 1 := by omega
  rw [e2, List.replicate_succ, List.flatten_cons, sets_mid hL (by rfl)]
  unfold airF
  rw [List.take_succ_eq_append_getElem (by omega), List.flatMap_append, hz, List.append_assoc]
  rfl
theorem air_there {zs : List AirT} {k n j : Nat} (hl : zs.length = n) (hk : k < n) (hj : j < 3) : ∃ u, (airF (zs.take k) ++ (List.replicate (n - k) [.int .i64 0, .int .i64 0, .int .i64 0]).flatten)[k * 3 + j]? = some u := by
  have hL : (airF (zs.take k)).length = k * 3 := by rw [airF_len, List.length_take, Nat.min_eq_left (by omega)]
  have e2 : n - k = (n - (k + 1)) + 1 := by omega
  refine ⟨_, List.getElem?_eq_getElem ?_⟩
  rw [e2, List.replicate_succ, List.flatten_cons, List.length_append, List.length_append, hL]
  simp
  omega
theorem toAirS_any (A : Option Addr) (n c : Nat) (zs : List AirT) (w : World) (hr : Rd w 3 A n (airF zs)) (hl : zs.length = n) (hn : n * 24 ≤ 140737488351232) :
    Calls Try.prog 36 #[.slice A n c] w fun e w' => ∃ g, e = .returned (.slice (some ⟨g, 0, none⟩) n n) ∧ w.heap.size ≤ g ∧ Bk w' g 34 (airF zs) ∧ Below w.heap.size w w' := by
  obtain ⟨i0, hi0, hz0, hz1, hz2⟩ := info_parts (show (Try.prog.info? 34).map (fun i => (i.zero, i.size, i.bytes)) = some (some (.agg #[.int .i64 0, .int .i64 0, .int .i64 0]), 3, 24) from by kernel_rfl)
  have hmk : ∀ W : World, (Instr.makeSlice 57 (.int .i64 (n : Int)) (.int .i64 (n : Int))).run Try.prog W = .ok (.slice (some ⟨W.heap.size, 0, none⟩) n n) (W.alloc (.cells (List.replicate n [Value.int .i64 0, .int .i64 0, .int .i64 0]).flatten.toArray 34)) := fun W => by
    have h := run_make (P := Try.prog) W 57 34 i0 (.agg #[.int .i64 0, .int .i64 0, .int .i64 0]) Try.underlying57 hi0 hz0 .i64 .i64 n n (by omega) (by omega) (by rw [hz2]; omega) (by omega)
    rw [hz1] at h
    rw [← madeCells_flat [Value.int .i64 0, .int .i64 0, .int .i64 0] n]
    simpa [Value.cells] using h
  have hb9 : n ≤ 9223372036854775807 := by omega
  clear hi0 hz0 hz1 hz2
  go_enter Try.func36, Try.ntmps36
  go_wp2
  go_loopw [4] (fun i wr => ∃ k : Nat, k ≤ n ∧ i = .int .i64 k ∧ Bk wr w.heap.size 34 (airF (zs.take k) ++ (List.replicate (n - k) [.int .i64 0, .int .i64 0, .int .i64 0]).flatten) ∧ Below w.heap.size w wr) (fun i _ => n - (intOf i).toNat)
  case atStart => exact ⟨0, Nat.zero_le _, rfl, by simpa [airF] using Bk.new w 34 (List.replicate n [.int .i64 0, .int .i64 0, .int .i64 0]).flatten, balloc (Below.refl _ _) _⟩
  case round =>
    obtain ⟨k, hk, rfl, hB, hW⟩ := hrel
    by_cases hlt : k < n
    · obtain ⟨b, off, rfl, hbl, x0, x1, x2, hz, c0, c1, c2⟩ := air_at hr hW hl hlt
      have HZ := Lib.hid hz
      have hBs := Lib.hid hB
      clear hz hB hmk
      have hsz := hW.size
      go_wp2_with (first | (go_at_call 20; refine (toAir_any _ _ _ _).mono ?_; rintro e w' ⟨rfl, hb⟩; have hB := hBs.out.below hb hBs.out.lt; have bW := bstep hW hb; obtain ⟨u0, t0⟩ : ∃ u, w'.cell? ⟨w.heap.size, k * 3, none⟩ = some u := hB.there (air_there (j := 0) hl hlt (by omega)); have f0 : w'.frozen? ⟨w.heap.size, k * 3, none⟩ = false := hB.frozen _; obtain ⟨u1, t1⟩ : ∃ u, w'.cell? ⟨w.heap.size, k * 3 + 1, none⟩ = some u := hB.there (air_there (j := 1) hl hlt (by omega)); have f1 : w'.frozen? ⟨w.heap.size, k * 3 + 1, none⟩ = false := hB.frozen _; obtain ⟨u2, t2⟩ : ∃ u, w'.cell? ⟨w.heap.size, k * 3 + 2, none⟩ = some u := hB.there (air_there (j := 2) hl hlt (by omega)); have f2 : w'.frozen? ⟨w.heap.size, k * 3 + 2, none⟩ = false := hB.frozen _; have hS := Lib.hid (((hB.set_ (k * 3) (.int .i64 x0)).set_ (k * 3 + 1) (.int .i64 x1)).set_ (k * 3 + 2) (.int .i64 x2)); have bS := (bset (bset (bset bW (p := ⟨w.heap.size, k * 3, none⟩) (Nat.le_refl _) (.int .i64 x0)) (p := ⟨w.heap.size, k * 3 + 1, none⟩) (Nat.le_refl _) (.int .i64 x1)) (p := ⟨w.heap.size, k * 3 + 2, none⟩) (Nat.le_refl _) (.int .i64 x2)); clear hB))
      have hS' := hS.out
      have hE := air_step hl hlt HZ.out
      have hQ : Bk _ _ _ (sets (airF (zs.take k) ++ (List.replicate (n - k) [.int .i64 0, .int .i64 0, .int .i64 0]).flatten) (k * 3) [.int .i64 x0, .int .i64 x1, .int .i64 x2]) := hS'
      rw [hE] at hQ
      clear hS hS' hE
      go_roundw
      case rel => exact ⟨k + 1, by omega, by go_num, hQ, bS⟩
      case measure => simp [intOf]; omega
    · clear hmk
      go_wp2
      go_ret
      have e : k = n := by omega
      subst e
      refine ⟨_, rfl, Nat.le_refl _, ?_, hW⟩
      rw [List.take_of_length_le (by omega)] at hB
      simpa using hB
theorem eqAir_same (x0 : Int) (x1 : Int) (x2 : Int) (w : World) : Calls Try.prog 78 #[.agg #[.int .i64 x0, .int .i64 x1, .int .i64 x2], .agg #[.int .i64 x0, .int .i64 x1, .int .i64 x2]] w fun e w' => e = .returned (.bool true) ∧ Below w.heap.size w w' := by
  go_enter Try.func78, Try.ntmps78
  go_wp2
  all_goals (go_returns; exact ⟨by simp, by (repeat' (first | (with_reducible exact Below.refl _ _) | (with_reducible assumption) | (with_reducible refine balloc ?_ _) | (with_reducible refine bdrew ?_) | (with_reducible refine bdrewN ?_ _) | (with_reducible refine bstep ?_ (by assumption)) | (with_reducible refine bset ?_ ?_ _) | (exact Below.size (by assumption)) | go_size))⟩)
theorem eqAirS_same (A B : Option Addr) (n c d : Nat) (zs : List AirT) (w : World) (hx : Rd w 3 A n (airF zs)) (hy : Rd w 3 B n (airF zs)) (hl : zs.length = n) (hn : n ≤ 9223372036854775807) :
    Calls Try.prog 38 #[.slice A n c, .slice B n d] w fun e w' => e = .returned (.bool true) ∧ Below w.heap.size w w' := by
  go_enter Try.func38, Try.ntmps38
  go_wp2
  go_loopw [5] (fun i wr => ∃ k : Nat, k ≤ n ∧ i = .int .i64 k ∧ Below w.heap.size w wr) (fun i _ => n - (intOf i).toNat)
  case atStart => exact ⟨0, Nat.zero_le _, rfl, Below.refl _ _⟩
  case round =>
    obtain ⟨k, hk, rfl, hW⟩ := hrel
    by_cases hlt : k < n
    · obtain ⟨b, off, rfl, hbl, x0, x1, x2, hz, c0, c1, c2⟩ := air_at hx hW hl hlt
      obtain ⟨b', off', rfl, hbl', y0, y1, y2, hz', d0, d1, d2⟩ := air_at hy hW hl hlt
      rw [hz] at hz'
      simp only [Prod.mk.injEq] at hz'
      obtain ⟨rfl, rfl, rfl⟩ := hz'
      have i1 : (0 : Int) ≤ (k : Int) := by omega
      have i2 : (k : Int) < (n : Int) := by omega
      have s1 : b < wr.heap.size := Nat.lt_of_lt_of_le hbl hW.size
      have s2 : b' < wr.heap.size := Nat.lt_of_lt_of_le hbl' hW.size
      clear hz
      go_wp2
      (go_region_held3 (fun W => Below (wr).heap.size (wr) W ∧ (∀ bq oq, bq < (wr).heap.size → W.cell? ⟨bq, oq, none⟩ = (wr).cell? ⟨bq, oq, none⟩) ∧ (∀ bq oq, bq < (wr).heap.size → W.frozen? ⟨bq, oq, none⟩ = (wr).frozen? ⟨bq, oq, none⟩) ∧ (∀ bq, bq < (wr).heap.size → bq < W.heap.size)) (((try dsimp only); (try go_split_ands); refine heldc ?_; (repeat' (first | (with_reducible exact Below.refl _ _) | (with_reducible assumption) | (with_reducible refine balloc ?_ _) | (with_reducible refine bdrew ?_) | (with_reducible refine bdrewN ?_ _) | (with_reducible refine bstep ?_ (by assumption)) | (with_reducible refine bset ?_ ?_ _) | (exact Below.size (by assumption)) | go_size)))) (first | (go_at_call 78; refine (eqAir_same _ _ _ _).mono ?_; rintro e w' ⟨rfl, hb⟩; obtain ⟨hc1, hf1⟩ := bcell hb; have hz1 := bsize hb; have hS1 := bstep (show Below (wr).heap.size (wr) _ from (by first | assumption | (go_split_ands; assumption))) hb))); (rename_i hH; obtain ⟨bW, cW, fW, zW⟩ := hH)
      go_wp2
      go_roundw
      case rel => exact ⟨k + 1, by omega, by go_num, bstep hW bW⟩
      case measure => simp [intOf]; omega
    · go_wp2
      go_ret
      exact ⟨rfl, hW⟩
theorem szAirS_any (A : Option Addr) (n c : Nat) (l : Int) (w : World) (hn : n ≤ 9223372036854775807) (hl : 0 ≤ l ∧ l ≤ 1048576) : Calls Try.prog 34 #[.slice A n c, .int .i64 l] w fun e w' => e = .returned (.int .i64 (szI n l)) ∧ w = w' := by
  obtain ⟨l0, l1⟩ := hl
  go_enter Try.func34, Try.ntmps34
  go_wp2
  all_goals (go_returns; exact ⟨ret_int (by unfold szI; split <;> omega), rfl⟩)
theorem markAirS_any (g n c : Nat) (t : TypeId) (cs : List Value) (k : Int) (w : World) (hB : Bk w g t cs) (hl : n * 3 ≤ cs.length) (hn : n ≤ 140737488355328) (hk : 0 ≤ k ∧ k ≤ 1152921504606846976) :
    Calls Try.prog 41 #[.slice (some ⟨g, 0, none⟩) n c, .int .i64 k] w fun e w' => e = .returned (.int .i64 (k + (n : Int) * 3)) ∧ Bk w' g t (ints (marks k (n * 3)) ++ cs.drop (n * 3)) ∧ w.grownBy w' (some g) := by
  obtain ⟨k0, k1⟩ := hk
  go_enter Try.func41, Try.ntmps41
  go_wp2
  go_loopw [1, 5] (fun kk i wr => ∃ j : Nat, j ≤ n ∧ i = .int .i64 j ∧ kk = .int .i64 (k + (j : Int) * 3) ∧ Bk wr g t (ints (marks k (j * 3)) ++ cs.drop (j * 3)) ∧ w.grownBy wr (some g)) (fun _ i _ => n - (intOf i).toNat)
  case atStart => exact ⟨0, Nat.zero_le _, rfl, by simp, by simpa [ints, marks] using hB, World.grownBy.refl w _⟩
  case round =>
    obtain ⟨j, hj, rfl, rfl, hR, hG⟩ := hrel
    by_cases hlt : j < n
    · have hin : ∀ i, i < 3 → ∃ u, wr.cell? ⟨g, j * 3 + i, none⟩ = some u := fun i hi => by
        refine ⟨cs[j * 3 + i]'(by omega), ?_⟩
        rw [hR.cell, List.getElem?_append_right (by simp [ints, marks])]
        simp [ints, marks]
      obtain ⟨u0, t0⟩ : ∃ u, wr.cell? ⟨g, j * 3, none⟩ = some u := hin 0 (by omega)
      have f0 : wr.frozen? ⟨g, j * 3, none⟩ = false := hR.frozen _
      obtain ⟨u1, t1⟩ : ∃ u, wr.cell? ⟨g, j * 3 + 1, none⟩ = some u := hin 1 (by omega)
      have f1 : wr.frozen? ⟨g, j * 3 + 1, none⟩ = false := hR.frozen _
      obtain ⟨u2, t2⟩ : ∃ u, wr.cell? ⟨g, j * 3 + 2, none⟩ = some u := hin 2 (by omega)
      have f2 : wr.frozen? ⟨g, j * 3 + 2, none⟩ = false := hR.frozen _
      have hR' := Lib.hid hR
      have hG' := Lib.hid hG
      clear hin hR hG
      go_wp2
      go_roundw
      case rel =>
        refine ⟨j + 1, by omega, by go_num, by go_num, Bk.cast (((hR'.out.set_ (j * 3) _).set_ (j * 3 + 1) _).set_ (j * 3 + 2) _) ?_, (((hG'.out.trans (onlySet _ ⟨g, j * 3, none⟩ _)).trans (onlySet _ ⟨g, j * 3 + 1, none⟩ _)).trans (onlySet _ ⟨g, j * 3 + 2, none⟩ _))⟩
        rw [step_marks' (j := j * 3) hl (by omega) (by omega), step_marks' (j := j * 3 + 1) hl (by omega) (by omega), step_marks' (j := j * 3 + 2) hl (by omega) (by omega)]
        have e : (j + 1) * 3 = j * 3 + 3 := by omega
        rw [e]
      case measure => simp [intOf]; omega
    · go_wp2
      go_ret
      have e : j = n := by omega
      subst e
      exact ⟨rfl, hR, hG⟩
abbrev FuelbedT := Int × Int
def fubE (a : FuelbedT) : List Value := [.int .i64 a.1, .int .i64 a.2]
theorem fubE_len (a : FuelbedT) : (fubE a).length = 2 := rfl
def fubF (zs : List FuelbedT) : List Value := zs.flatMap fubE
theorem fubF_len (zs : List FuelbedT) : (fubF zs).length = zs.length * 2 := flat_length fubE_len zs
/-- an element of a slice that lies below the world w, read in a later world -/
theorem fub_at {w wr : World} {A : Option Addr} {n k : Nat} {zs : List FuelbedT} (hr : Rd w 2 A n (fubF zs)) (hW : Below w.heap.size w wr) (hl : zs.length = n) (hk : k < n) :
    ∃ b off, A = some ⟨b, off, none⟩ ∧ b < w.heap.size ∧ ∃ x0 x1, zs[k]'(by omega) = (x0, x1)
    ∧ wr.cell? ⟨b, off + k * 2, none⟩ = some (.int .i64 x0)
    ∧ wr.cell? ⟨b, off + k * 2 + 1, none⟩ = some (.int .i64 x1) := by
  obtain ⟨b, off, e, hb, hc⟩ := hr.2 (by omega)
  have hg : ∀ j u, j < 2 → (fubE (zs[k]'(by omega)))[j]? = some u → wr.cell? ⟨b, off + k * 2 + j, none⟩ = some u := fun j u hj hu => by
    rw [Nat.add_assoc]
    refine (hW.cell (p := ⟨b, off + (k * 2 + j), none⟩) hb).trans (hc _ _ ?_)
    rw [← hu]; exact flat_get fubE_len zs k j (by omega) hj
  refine ⟨b, off, e, hb, (zs[k]'(by omega)).1, (zs[k]'(by omega)).2, rfl, hg 0 _ (by omega) rfl, hg 1 _ (by omega) rfl⟩
theorem fub_step {zs : List FuelbedT} {k n : Nat} (hl : zs.length = n) (hk : k < n) {x0 : Int} {x1 : Int} (hz : zs[k]'(by omega) = (x0, x1)) :
    sets (fubF (zs.take k) ++ (List.replicate (n - k) [.int .i64 0, .int .i64 0]).flatten) (k * 2) [.int .i64 x0, .int .i64 x1] = fubF (zs.take (k + 1)) ++ (List.replicate (n - (k + 1)) [.int .i64 0, .int .i64 0]).flatten := by
  have hL : (fubF (zs.take k)).length = k * 2 := by rw [fubF_len, List.length_take, Nat.min_eq_left (by omega)]
  have e2 : n - k = (n - (k + 1)) + 1 := by omega
  rw [e2, List.replicate_succ, List.flatten_cons, sets_mid hL (by rfl)]
  unfold fubF
  rw [List.take_succ_eq_append_getElem (by omega), List.flatMap_append, hz, List.append_assoc]
  rfl
theorem fub_there {zs : List FuelbedT} {k n j : Nat} (hl : zs.length = n) (hk : k < n) (hj : j < 2) : ∃ u, (fubF (zs.take k) ++ (List.replicate (n - k) [.int .i64 0, .int .i64 0]).flatten)[k * 2 + j]? = some u := by
  have hL : (fubF (zs.take k)).length = k * 2 := by rw [fubF_len, List.length_take, Nat.min_eq_left (by omega)]
  have e2 : n - k = (n - (k + 1)) + 1 := by omega
  refine ⟨_, List.getElem?_eq_getElem ?_⟩
  rw [e2, List.replicate_succ, List.flatten_cons, List.length_append, List.length_append, hL]
  simp
  omega
theorem toFuelbedS_any (A : Option Addr) (n c : Nat) (zs : List FuelbedT) (w : World) (hr : Rd w 2 A n (fubF zs)) (hl : zs.length = n) (hn : n * 16 ≤ 140737488351232) :
    Calls Try.prog 29 #[.slice A n c] w fun e w' => ∃ g, e = .returned (.slice (some ⟨g, 0, none⟩) n n) ∧ w.heap.size ≤ g ∧ Bk w' g 25 (fubF zs) ∧ Below w.heap.size w w' := by
  obtain ⟨i0, hi0, hz0, hz1, hz2⟩ := info_parts (show (Try.prog.info? 25).map (fun i => (i.zero, i.size, i.bytes)) = some (some (.agg #[.int .i64 0, .int .i64 0]), 2, 16) from by kernel_rfl)
  have hmk : ∀ W : World, (Instr.makeSlice 48 (.int .i64 (n : Int)) (.int .i64 (n : Int))).run Try.prog W = .ok (.slice (some ⟨W.heap.size, 0, none⟩) n n) (W.alloc (.cells (List.replicate n [Value.int .i64 0, .int .i64 0]).flatten.toArray 25)) := fun W => by
    have h := run_make (P := Try.prog) W 48 25 i0 (.agg #[.int .i64 0, .int .i64 0]) Try.underlying48 hi0 hz0 .i64 .i64 n n (by omega) (by omega) (by rw [hz2]; omega) (by omega)
    rw [hz1] at h
    rw [← madeCells_flat [Value.int .i64 0, .int .i64 0] n]
    simpa [Value.cells] using h
  have hb9 : n ≤ 9223372036854775807 := by omega
  clear hi0 hz0 hz1 hz2
  go_enter Try.func29, Try.ntmps29
  go_wp2
  go_loopw [4] (fun i wr => ∃ k : Nat, k ≤ n ∧ i = .int .i64 k ∧ Bk wr w.heap.size 25 (fubF (zs.take k) ++ (List.replicate (n - k) [.int .i64 0, .int .i64 0]).flatten) ∧ Below w.heap.size w wr) (fun i _ => n - (intOf i).toNat)
  case atStart => exact ⟨0, Nat.zero_le _, rfl, by simpa [fubF] using Bk.new w 25 (List.replicate n [.int .i64 0, .int .i64 0]).flatten, balloc (Below.refl _ _) _⟩
  case round =>
    obtain ⟨k, hk, rfl, hB, hW⟩ := hrel
    by_cases hlt : k < n
    · obtain ⟨b, off, rfl, hbl, x0, x1, hz, c0, c1⟩ := fub_at hr hW hl hlt
      have HZ := Lib.hid hz
      have hBs := Lib.hid hB
      clear hz hB hmk
      have hsz := hW.size
      go_wp2_with (first | (go_at_call 15; refine (toFuelbed_any _ _ _).mono ?_; rintro e w' ⟨rfl, hb⟩; have hB := hBs.out.below hb hBs.out.lt; have bW := bstep hW hb; obtain ⟨u0, t0⟩ : ∃ u, w'.cell? ⟨w.heap.size, k * 2, none⟩ = some u := hB.there (fub_there (j := 0) hl hlt (by omega)); have f0 : w'.frozen? ⟨w.heap.size, k * 2, none⟩ = false := hB.frozen _; obtain ⟨u1, t1⟩ : ∃ u, w'.cell? ⟨w.heap.size, k * 2 + 1, none⟩ = some u := hB.there (fub_there (j := 1) hl hlt (by omega)); have f1 : w'.frozen? ⟨w.heap.size, k * 2 + 1, none⟩ = false := hB.frozen _; have hS := Lib.hid ((hB.set_ (k * 2) (.int .i64 x0)).set_ (k * 2 + 1) (.int .i64 x1)); have bS := (bset (bset bW (p := ⟨w.heap.size, k * 2, none⟩) (Nat.le_refl _) (.int .i64 x0)) (p := ⟨w.heap.size, k * 2 + 1, none⟩) (Nat.le_refl _) (.int .i64 x1)); clear hB))
      have hS' := hS.out
      have hE := fub_step hl hlt HZ.out
      have hQ : Bk _ _ _ (sets (fubF (zs.take k) ++ (List.replicate (n - k) [.int .i64 0, .int .i64 0]).flatten) (k * 2) [.int .i64 x0, .int .i64 x1]) := hS'
      rw [hE] at hQ
      clear hS hS' hE
      go_roundw
      case rel => exact ⟨k + 1, by omega, by go_num, hQ, bS⟩
      case measure => simp [intOf]; omega
    · clear hmk
      go_wp2
      go_ret
      have e : k = n := by omega
      subst e
      refine ⟨_, rfl, Nat.le_refl _, ?_, hW⟩
      rw [List.take_of_length_le (by omega)] at hB
      simpa using hB
theorem eqFuelbed_same (x0 : Int) (x1 : Int) (w : World) : Calls Try.prog 24 #[.agg #[.int .i64 x0, .int .i64 x1], .agg #[.int .i64 x0, .int .i64 x1]] w fun e w' => e = .returned (.bool true) ∧ Below w.heap.size w w' := by
  go_enter Try.func24, Try.ntmps24
  go_wp2
  all_goals (go_returns; exact ⟨by simp, by (repeat' (first | (with_reducible exact Below.refl _ _) | (with_reducible assumption) | (with_reducible refine balloc ?_ _) | (with_reducible refine bdrew ?_) | (with_reducible refine bdrewN ?_ _) | (with_reducible refine bstep ?_ (by assumption)) | (with_reducible refine bset ?_ ?_ _) | (exact Below.size (by assumption)) | go_size))⟩)
theorem eqFuelbedS_same (A B : Option Addr) (n c d : Nat) (zs : List FuelbedT) (w : World) (hx : Rd w 2 A n (fubF zs)) (hy : Rd w 2 B n (fubF zs)) (hl : zs.length = n) (hn : n ≤ 9223372036854775807) :
    Calls Try.prog 32 #[.slice A n c, .slice B n d] w fun e w' => e = .returned (.bool true) ∧ Below w.heap.size w w' := by
  go_enter Try.func32, Try.ntmps32
  go_wp2
  go_loopw [5] (fun i wr => ∃ k : Nat, k ≤ n ∧ i = .int .i64 k ∧ Below w.heap.size w wr) (fun i _ => n - (intOf i).toNat)
  case atStart => exact ⟨0, Nat.zero_le _, rfl, Below.refl _ _⟩
  case round =>
    obtain ⟨k, hk, rfl, hW⟩ := hrel
    by_cases hlt : k < n
    · obtain ⟨b, off, rfl, hbl, x0, x1, hz, c0, c1⟩ := fub_at hx hW hl hlt
      obtain ⟨b', off', rfl, hbl', y0, y1, hz', d0, d1⟩ := fub_at hy hW hl hlt
      rw [hz] at hz'
      simp only [Prod.mk.injEq] at hz'
      obtain ⟨rfl, rfl⟩ := hz'
      have i1 : (0 : Int) ≤ (k : Int) := by omega
      have i2 : (k : Int) < (n : Int) := by omega
      have s1 : b < wr.heap.size := Nat.lt_of_lt_of_le hbl hW.size
      have s2 : b' < wr.heap.size := Nat.lt_of_lt_of_le hbl' hW.size
      clear hz
      go_wp2
      (go_region_held3 (fun W => Below (wr).heap.size (wr) W ∧ (∀ bq oq, bq < (wr).heap.size → W.cell? ⟨bq, oq, none⟩ = (wr).cell? ⟨bq, oq, none⟩) ∧ (∀ bq oq, bq < (wr).heap.size → W.frozen? ⟨bq, oq, none⟩ = (wr).frozen? ⟨bq, oq, none⟩) ∧ (∀ bq, bq < (wr).heap.size → bq < W.heap.size)) (((try dsimp only); (try go_split_ands); refine heldc ?_; (repeat' (first | (with_reducible exact Below.refl _ _) | (with_reducible assumption) | (with_reducible refine balloc ?_ _) | (with_reducible refine bdrew ?_) | (with_reducible refine bdrewN ?_ _) | (with_reducible refine bstep ?_ (by assumption)) | (with_reducible refine bset ?_ ?_ _) | (exact Below.size (by assumption)) | go_size)))) (first | (go_at_call 24; refine (eqFuelbed_same _ _ _).mono ?_; rintro e w' ⟨rfl, hb⟩; obtain ⟨hc1, hf1⟩ := bcell hb; have hz1 := bsize hb; have hS1 := bstep (show Below (wr).heap.size (wr) _ from (by first | assumption | (go_split_ands; assumption))) hb))); (rename_i hH; obtain ⟨bW, cW, fW, zW⟩ := hH)
      go_wp2
      go_roundw
      case rel => exact ⟨k + 1, by omega, by go_num, bstep hW bW⟩
      case measure => simp [intOf]; omega
    · go_wp2
      go_ret
      exact ⟨rfl, hW⟩
theorem szFuelbedS_any (A : Option Addr) (n c : Nat) (l : Int) (w : World) (hn : n ≤ 9223372036854775807) (hl : 0 ≤ l ∧ l ≤ 1048576) : Calls Try.prog 27 #[.slice A n c, .int .i64 l] w fun e w' => e = .returned (.int .i64 (szI n l)) ∧ w = w' := by
  obtain ⟨l0, l1⟩ := hl
  go_enter Try.func27, Try.ntmps27
  go_wp2
  all_goals (go_returns; exact ⟨ret_int (by unfold szI; split <;> omega), rfl⟩)
end Go.Proofs.Ytkbhpfgbodellaa
