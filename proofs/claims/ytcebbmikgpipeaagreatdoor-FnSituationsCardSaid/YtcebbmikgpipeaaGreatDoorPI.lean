/-
  The program's number of a text: FormatInt, ParseInt. Conditions: the library's variables hold what their types allow; the table of powers reads as its program's text lays it.
-/
import Derived.Test.YtcebbmikgpipeaaGreatDoorPM
import Derived.Test.YtcebbmikgpipeaaGreatDoorSA
import Derived.Lib.AtoiErrMem
namespace Go.Proofs.YtcebbmikgpipeaaGreatDoor
open Go Go.RowKit
set_option maxRecDepth 100000
set_option maxHeartbeats 4000000

/-- what the library's variables hold -/
structure Ev (w : World) : Prop where
  tb : Tb w
  mx : ∃ m, w.cell? ⟨0, 0, none⟩ = some (.int .i64 m)
  sy : ∃ v, w.cell? ⟨3, 0, none⟩ = some v ∧ (v = .nilIface ∨ ∃ te pe, v = .iface te pe)
  rg : ∃ v, w.cell? ⟨4, 0, none⟩ = some v ∧ (v = .nilIface ∨ ∃ te pe, v = .iface te pe)
theorem Ev.below {w w' : World} (h : Ev w) (hb : Below w.heap.size w w') : Ev w' := by
  obtain ⟨m, hm⟩ := h.mx
  obtain ⟨v1, h1, q1⟩ := h.sy
  obtain ⟨v2, h2, q2⟩ := h.rg
  exact ⟨h.tb.below hb, ⟨m, (hb.cell (Lib.lt_of_cell hm)).trans hm⟩, ⟨v1, (hb.cell (Lib.lt_of_cell h1)).trans h1, q1⟩, ⟨v2, (hb.cell (Lib.lt_of_cell h2)).trans h2, q2⟩⟩
theorem in6 (n : Int) (v : Bool) (h : inB n (-999999) 999999 = v) (w : World) : Calls Tryz.prog 28 #[.int .i64 n, .int .i64 (-999999), .int .i64 999999] w fun e w' => e = .returned (.bool v) ∧ w = w' := by rw [← h]; exact in_any n (-999999) 999999 w
theorem numI_itoa (n : Int) : numI n = ⟨(Lib.itoa n).toArray⟩ := by
  unfold numI Lib.itoa
  split
  · apply ByteArray.ext; simp [numS, ByteArray.data_append]
  · rfl
theorem FormatInt_is {n : Int} {q : Bool} {s : ByteArray} (hq : inB n (-999999) 999999 = q) (hs : (if q = true then numI n else ⟨#[]⟩) = s) (w : World) (hT : Tb w) :
    Calls Tryz.prog 53 #[.int .i64 n] w fun e w' => e = .returned (.tuple #[.string s, .bool q]) ∧ Below w.heap.size w w' := by
  have hb := hq
  have H6 := Lib.hid (fun W => in6 n q hq W)
  clear hq
  rcases q with _ | _
  · obtain rfl : s = ⟨#[]⟩ := by rw [← hs]; rfl
    go_enter Tryz.func53, Tryz.ntmps53
    go_wp2_with (go_at_call 28; refine (H6.out _).mono ?_; rintro e w' ⟨rfl, rfl⟩)
    go_returns
    exact ⟨rfl, Below.refl _ _⟩
  · have hr := inB_iff.1 hb
    have hs2 : (⟨(Lib.itoa n).toArray⟩ : ByteArray) = s := by rw [← hs, ← numI_itoa]; rfl
    have HC := Lib.hid (fun (W : World) (hW : Tb W) => (Any.strconv_Itoa numLays n (by omega) (by omega) W hW.here))
    clear hs hb hr
    go_enter Tryz.func53, Tryz.ntmps53
    go_wp2_with (first | (go_at_call 28; refine (H6.out _).mono ?_; rintro e w' ⟨rfl, rfl⟩) | (go_at_call 44; refine (HC.out _ hT).mono ?_; rintro e w' ⟨rfl, k, os, rfl⟩))
    go_returns
    exact ⟨by rw [← hs2]; rfl, Lib.below_grow _ _ (Nat.le_refl _) _ _⟩
theorem piV_long {s : ByteArray} (h : ¬ s.size ≤ 7) : piV s = 0 := by unfold piV; rw [if_neg h]
theorem piV_ok {s : ByteArray} {n : Int} (h : s.size ≤ 7) (ha : Lib.atoiAll s.data.toList = .ok n) : piV s = if inB n (-999999) 999999 = true ∧ numI n = s then n else 0 := by
  unfold piV
  rw [if_pos h, ha]
  simp only [inB, Bool.and_eq_true, decide_eq_true_eq]
theorem piV_err {s : ByteArray} (ha : ∀ n, Lib.atoiAll s.data.toList ≠ .ok n) : piV s = 0 := by
  unfold piV
  split
  · split
    · rename_i h; exact absurd h (ha _)
    · rfl
  · rfl
theorem ParseInt_is {s : ByteArray} {v : Int} (hv : piV s = v) (hs : s.size ≤ 1048576) (w : World) (hE : Ev w) :
    Calls Tryz.prog 43 #[.string s] w fun e w' => ∃ q, e = .returned (.tuple #[.int .i64 v, .bool q]) ∧ Below w.heap.size w w' := by
  by_cases h7 : s.size ≤ 7
  · have i7 : ¬ ((7 : Int) < (s.size : Int)) := by omega
    rcases ha : Lib.atoiAll s.data.toList with n | _ | _
    · have hp := piV_ok h7 ha
      obtain ⟨q, hq⟩ : ∃ q, inB n (-999999) 999999 = q := ⟨_, rfl⟩
      obtain ⟨x, hx⟩ : ∃ x, (if q = true then numI n else (⟨#[]⟩ : ByteArray)) = x := ⟨_, rfl⟩
      have HA := Lib.hid (fun W => Any.strconv_Atoi_ok atoiLays s (by omega) n ha W)
      have HF := Lib.hid (fun W (hW : Tb W) => FormatInt_is hq hx W hW)
      have HT := Lib.hid hE.tb
      rw [hq, hv] at hp
      rcases q with _ | _
      · obtain rfl : v = 0 := by rw [hp]; simp
        clear hp hx hq ha hv hE
        go_enter Tryz.func43, Tryz.ntmps43
        go_wp2_with (first | (go_at_call 52; refine (HA.out _).mono ?_; rintro e w1 ⟨rfl, hb1⟩; have b1 : Below w.heap.size w w1 := hb1.elim (fun h => by rw [h]; exact Below.refl _ _) (fun ⟨t, h⟩ => by rw [h]; exact Lib.bytesWorld_below _ _ _); clear hb1) | (go_at_call 53; refine (HF.out _ (HT.out.below b1)).mono ?_; rintro e w2 ⟨rfl, b2⟩))
        all_goals (go_returns; exact ⟨_, rfl, bstep b1 b2⟩)
      · obtain rfl : numI n = x := by rw [← hx]; rfl
        by_cases he : numI n = s
        · obtain rfl : v = n := by rw [hp, if_pos ⟨rfl, he⟩]
          have f1 := str_yes he
          obtain ⟨x, hx2⟩ : ∃ x, numI v = x := ⟨_, rfl⟩
          rw [hx2] at HF f1
          clear hp hx hq ha hv hE hx2 he
          go_enter Tryz.func43, Tryz.ntmps43
          go_wp2_with (first | (go_at_call 52; refine (HA.out _).mono ?_; rintro e w1 ⟨rfl, hb1⟩; have b1 : Below w.heap.size w w1 := hb1.elim (fun h => by rw [h]; exact Below.refl _ _) (fun ⟨t, h⟩ => by rw [h]; exact Lib.bytesWorld_below _ _ _); clear hb1) | (go_at_call 53; refine (HF.out _ (HT.out.below b1)).mono ?_; rintro e w2 ⟨rfl, b2⟩))
          all_goals first
            | (go_returns; exact ⟨_, rfl, bstep b1 b2⟩)
            | (exfalso; rename_i h9; rw [f1] at h9; simp at h9; done)
        · obtain rfl : v = 0 := by rw [hp, if_neg (fun h => he h.2)]
          have f1 := str_no he
          obtain ⟨x, hx2⟩ : ∃ x, numI n = x := ⟨_, rfl⟩
          rw [hx2] at HF f1
          clear hp hx hq ha hv hE hx2 he
          go_enter Tryz.func43, Tryz.ntmps43
          go_wp2_with (first | (go_at_call 52; refine (HA.out _).mono ?_; rintro e w1 ⟨rfl, hb1⟩; have b1 : Below w.heap.size w w1 := hb1.elim (fun h => by rw [h]; exact Below.refl _ _) (fun ⟨t, h⟩ => by rw [h]; exact Lib.bytesWorld_below _ _ _); clear hb1) | (go_at_call 53; refine (HF.out _ (HT.out.below b1)).mono ?_; rintro e w2 ⟨rfl, b2⟩))
          all_goals first
            | (go_returns; exact ⟨_, rfl, bstep b1 b2⟩)
            | (exfalso; rename_i h9; rw [f1] at h9; simp at h9; done)
    · obtain rfl : v = 0 := by rw [← hv]; exact piV_err (fun n h => by rw [ha] at h; cases h)
      obtain ⟨ev, hcv, hev⟩ := hE.sy
      have HA := Lib.hid (Any.strconv_Atoi_syntax atoiLays s (by omega) ha ev w hcv hev)
      obtain ⟨x, hx⟩ : ∃ x, (if true = true then numI 0 else (⟨#[]⟩ : ByteArray)) = x := ⟨_, rfl⟩
      have HF := Lib.hid (fun W (hW : Tb W) => FormatInt_is (n := 0) (q := true) (by decide) hx W hW)
      have HT := Lib.hid hE.tb
      clear hx ha hv hE hcv hev
      go_enter Tryz.func43, Tryz.ntmps43
      go_wp2_with (first | (go_at_call 52; refine HA.out.mono ?_; rintro e w1 ⟨N, rfl, _, _, b1⟩) | (go_at_call 53; refine (HF.out _ (HT.out.below b1)).mono ?_; rintro e w2 ⟨rfl, b2⟩))
      all_goals (go_returns; exact ⟨_, rfl, bstep b1 b2⟩)
    · obtain rfl : v = 0 := by rw [← hv]; exact piV_err (fun n h => by rw [ha] at h; cases h)
      obtain ⟨ev, hcv, hev⟩ := hE.rg
      obtain ⟨n, hn⟩ : ∃ n, Lib.atoiSat s.data.toList = n := ⟨_, rfl⟩
      have HA := Lib.hid (hn ▸ Any.strconv_Atoi_range atoiLays s (by omega) ha ev w hcv hev)
      obtain ⟨q, hq⟩ : ∃ q, inB n (-999999) 999999 = q := ⟨_, rfl⟩
      obtain ⟨x, hx⟩ : ∃ x, (if q = true then numI n else (⟨#[]⟩ : ByteArray)) = x := ⟨_, rfl⟩
      have HF := Lib.hid (fun W (hW : Tb W) => FormatInt_is hq hx W hW)
      have HT := Lib.hid hE.tb
      clear hx ha hv hE hcv hev hn hq
      go_enter Tryz.func43, Tryz.ntmps43
      go_wp2_with (first | (go_at_call 52; refine HA.out.mono ?_; rintro e w1 ⟨N, rfl, _, _, b1⟩) | (go_at_call 53; refine (HF.out _ (HT.out.below b1)).mono ?_; rintro e w2 ⟨rfl, b2⟩))
      all_goals (go_returns; exact ⟨_, rfl, bstep b1 b2⟩)
  · obtain rfl : v = 0 := by rw [← hv]; exact piV_long h7
    have i7 : (7 : Int) < (s.size : Int) := by omega
    go_enter Tryz.func43, Tryz.ntmps43
    go_wp2
    go_returns
    exact ⟨_, rfl, Below.refl _ _⟩
end Go.Proofs.YtcebbmikgpipeaaGreatDoor
