/-
  The reference's number of a text, walked. Conditions: the text's length within the bound of a slice.
-/
import Derived.Test.YtcebbmikgpipeaaGreatDoorPT
namespace Go.Proofs.YtcebbmikgpipeaaGreatDoor
open Go Go.RowKit
set_option maxRecDepth 100000
set_option maxHeartbeats 4000000

theorem list_inj {x y : ByteArray} (h : x.toList = y.toList) : x = y := by
  rw [ByteArray.toList_eq, ByteArray.toList_eq] at h
  cases x; cases y
  simp only [ByteArray.mk.injEq]
  exact Array.toList_inj.1 h
theorem str_yes {x y : ByteArray} (h : x = y) : (x.toList == y.toList) = true := by subst h; simp
theorem str_no {x y : ByteArray} (h : ¬ x = y) : (x.toList == y.toList) = false := by
  rw [beq_eq_false_iff_ne]
  exact fun e => h (list_inj e)
theorem rd_no {s : ByteArray} (h : rdB s = false) : rdV s = 0 := by simp [rdV, h]
theorem rd_short {s : ByteArray} (h : ¬ (1 ≤ (rdT s).size ∧ (rdT s).size ≤ 6)) : rdB s = false := by
  unfold rdB
  rw [show (decide (1 ≤ (rdT s).size) && decide ((rdT s).size ≤ 6)) = false by
    rw [Bool.and_eq_false_iff, decide_eq_false_iff_not, decide_eq_false_iff_not]; omega]
  rfl
theorem rd_digit {s : ByteArray} {k : Nat} (hk : k < (rdT s).size) (h : dgC (rdT s)[k] = false) : rdB s = false := by
  unfold rdB
  have e : (rdT s).data.toList.all dgC = false := by
    rw [List.all_eq_false]
    exact ⟨(rdT s)[k], by rw [← byte_at hk]; exact List.getElem_mem _, by simp [h]⟩
  rw [e]; simp
theorem in16 (n : Int) (w : World) (v : Bool) (h : inB n 1 6 = v) : Calls Tryz.prog 36 #[.int .i64 n, .int .i64 1, .int .i64 6] w fun e w' => e = .returned (.bool v) ∧ w = w' := by rw [← h]; exact l1In_any n 1 6 w
theorem l1Read_is {s : ByteArray} {v : Int} {q : Bool} (hv : rdV s = v) (hq : rdB s = q) (hs : s.size ≤ 1048576) (w : World) :
    Calls Tryz.prog 18 #[.string s] w fun e w' => e = .returned (.tuple #[.int .i64 v, .bool q]) ∧ Below w.heap.size w w' := by
  obtain ⟨t, ht⟩ : ∃ t, rdT s = t := ⟨_, rfl⟩
  obtain ⟨g, hg⟩ : ∃ g, sgB s = g := ⟨_, rfl⟩
  have hts := rdT_size (s := s)
  rw [ht, hg] at hts
  have HV := Lib.hid hv
  have HQ := Lib.hid hq
  have HT := Lib.hid ht
  have HG := Lib.hid hg
  have HTS := Lib.hid hts
  clear hv hq hts
  go_enter Tryz.func18, Tryz.ntmps18
  go_upto_region 2 with fail
  go_cut [8, 9, 10, 11, 12, 13, 14, 15] (fun s8 s9 s10 s11 s12 s13 s14 s15 wx => s15 = .bool g ∧ wx = w)
  case first =>
    by_cases h1 : 1 < s.size
    · have i1 : (1 : Int) < (s.size : Int) := by omega
      have h0 : 0 < s.size := by omega
      have e := sg_is h1
      rw [hg] at e
      have e2 : ((s[0].toNat : Int) == 45) = g := by
        rw [e, Bool.eq_iff_iff, beq_iff_eq, beq_iff_eq, ← UInt8.toNat_inj]
        show _ ↔ s[0].toNat = 45
        omega
      clear e hg ht
      go_wp2
      go_meet
      exact ⟨by simp, rfl⟩
    · have i1 : ¬ (1 : Int) < (s.size : Int) := by omega
      obtain rfl : g = false := by rw [← hg]; exact sg_no (by omega)
      go_wp2
      go_meet
      exact ⟨rfl, rfl⟩
  case rest =>
  obtain ⟨rfl, rfl⟩ := hcut
  go_upto_if 15 with fail
  go_cut [4, 16, 17] (fun s4 s16 s17 wx => s4 = .string t ∧ wx = wc)
  case first =>
    rcases g with _ | _
    · obtain rfl : s = t := by rw [← ht]; unfold rdT; rw [hg]; rfl
      go_wp2
      go_meet
      exact ⟨rfl, rfl⟩
    · have e : s.extract 1 s.size = t := by rw [← ht]; unfold rdT; rw [hg]; rfl
      have h1 : 1 < s.size := by
        by_cases h : 1 < s.size
        · exact h
        · rw [sg_no (by omega)] at hg; cases hg
      have HE := Lib.hid e
      clear e ht hg
      go_wp2
      go_meet
      exact ⟨by simp [HE.out], rfl⟩
  case rest =>
  obtain ⟨rfl, rfl⟩ := hcut
  obtain ⟨b6, hb6⟩ : ∃ b, inB (t.size : Int) 1 6 = b := ⟨_, rfl⟩
  have HB6 := Lib.hid hb6
  clear hb6 ht hg
  go_upto_region 4 with fail
  go_upto_if 21 with (go_at_call 36; refine (in16 _ _ b6 HB6.out).mono ?_; rintro e w' ⟨rfl, rfl⟩)
  rcases b6 with _ | _
  · have hno : rdB s = false := rd_short (by
      rw [HT.out]
      intro h
      have := HB6.out
      rw [inB_iff.2 (by omega)] at this
      cases this)
    obtain rfl : q = false := by rw [← HQ.out]; exact hno
    obtain rfl : v = 0 := by rw [← HV.out]; exact rd_no hno
    clear hno
    go_wp2
    go_returns
    exact ⟨rfl, Below.refl _ _⟩
  have h6 := inB_iff.1 HB6.out
  obtain ⟨t1, t6⟩ : 1 ≤ t.size ∧ t.size ≤ 6 := by omega
  clear h6
  go_upto_region 8 with fail
  go_loop [5, 6] (fun n i => ∃ k : Nat, k ≤ t.size ∧ i = .int .i64 k ∧ n = .int .i64 (decK t k) ∧ Hid (∀ x ∈ t.data.toList.take k, dgC x = true)) (fun _ i => t.size - (intOf i).toNat)
  case atStart => exact ⟨0, Nat.zero_le _, rfl, rfl, Lib.hid (by simp)⟩
  case round =>
    obtain ⟨k, hk, rfl, rfl, HD⟩ := hrel
    have hbd := decK_bd k hk HD.out
    have h10 : (10 : Int) ^ k ≤ 1000000 := by
      have : (10 : Nat) ^ k ≤ 10 ^ 6 := Nat.pow_le_pow_right (by decide) (by omega)
      have e : (10 : Int) ^ k = ((10 ^ k : Nat) : Int) := by push_cast; rfl
      rw [e]; omega
    have h9 : 0 ≤ decK t k ∧ decK t k ≤ 999999 := by omega
    clear hbd h10
    by_cases hlt : k < t.size
    · have hb := byte_at hlt
      rcases hc : dgC t[k] with _ | _
      · have hno : rdB s = false := by
          have := rd_digit (s := s) (k := k) (by rw [HT.out]; exact hlt) (by
            have e : (rdT s)[k]'(by rw [HT.out]; exact hlt) = t[k] := by simp only [HT.out]
            rw [e]; exact hc)
          exact this
        obtain rfl : q = false := by rw [← HQ.out]; exact hno
        obtain rfl : v = 0 := by rw [← HV.out]; exact rd_no hno
        clear hno hb
        by_cases h1 : (t[k].toNat : Int) < 48
        · go_wp2
          go_returns
          exact ⟨rfl, Below.refl _ _⟩
        · have h2 : (57 : Int) < t[k].toNat := by
            simp only [dgC, Bool.and_eq_false_iff, decide_eq_false_iff_not] at hc
            omega
          go_wp2
          go_returns
          exact ⟨rfl, Below.refl _ _⟩
      · obtain ⟨h1, h2⟩ : ¬ (t[k].toNat : Int) < 48 ∧ ¬ (57 : Int) < t[k].toNat := by
          simp only [dgC, Bool.and_eq_true, decide_eq_true_eq] at hc
          omega
        have HD2 : Hid (∀ x ∈ t.data.toList.take (k + 1), dgC x = true) := Lib.hid (by
          rw [List.take_succ_eq_append_getElem (by simpa using hlt), hb]
          intro x hx
          rcases List.mem_append.1 hx with h | h
          · exact HD.out x h
          · rw [List.mem_singleton.1 h]; exact hc)
        have HK : Hid (decK t (k + 1) = 10 * decK t k + ((t[k].toNat : Int) - 48)) := Lib.hid (by
          simp only [decK]
          rw [List.getD_eq_getElem?_getD, List.getElem?_eq_getElem (by simpa using hlt), hb]; rfl)
        obtain ⟨D, hD⟩ : ∃ D, decK t k = D := ⟨_, rfl⟩
        rw [hD] at HK h9 ⊢
        clear hD hb hc HD
        go_wp2
        go_round
        case rel => exact ⟨k + 1, by omega, by go_num, by rw [HK.out], HD2⟩
        case measure => simp [intOf]; omega
    · have hkt : k = t.size := by omega
      have hall : t.data.toList.all dgC = true := List.all_eq_true.2 (fun x hx => HD.out x (by rw [List.take_of_length_le (by simp; omega)]; exact hx))
      obtain ⟨D, hD⟩ : ∃ D, decK t k = D := ⟨_, rfl⟩
      rw [hD] at h9 ⊢
      rw [hkt] at hD
      have i1 : ¬ (k : Int) < (t.size : Int) := by omega
      have hB : rdB s = decide (numI (rdN s) = s) := by
        unfold rdB
        rw [HT.out, hall, decide_eq_true t1, decide_eq_true t6]; simp
      have hN : rdN s = if g = true then -D else D := by unfold rdN; rw [HT.out, HG.out, hD]
      have hsz := HTS.out
      obtain ⟨n, hn⟩ : ∃ n, rdN s = n := ⟨_, rfl⟩
      obtain ⟨x, hx⟩ : ∃ x, numI n = x := ⟨_, rfl⟩
      rw [hn] at hB hN
      rw [hx] at hB
      have HX := Lib.hid (fun (W : World) => l1NumI_is hx (by split at hN <;> omega) W)
      have hVn : rdB s = true → rdV s = n := fun h => by unfold rdV; rw [if_pos h, hn]
      have HVN := Lib.hid hVn
      have HB := Lib.hid hB
      clear hVn hB hn hx hall hD HD hkt
      rcases g with _ | _
      · obtain rfl : n = D := by simpa using hN
        have i2 : ¬ (t.size : Int) < (s.size : Int) := by simp at hsz; omega
        clear hN hsz
        go_upto_region 15 with fail
        go_upto_if 56 with (go_at_call 37; refine (HX.out _).mono ?_; rintro e w' ⟨rfl, hb⟩)
        by_cases he : x = s
        · have hq : rdB s = true := by rw [HB.out]; exact decide_eq_true he
          obtain rfl : q = true := by rw [← HQ.out]; exact hq
          obtain rfl : v = n := by rw [← HV.out]; exact HVN.out hq
          have f1 := str_yes he
          clear hq he
          go_wp2
          all_goals first
            | (go_returns; exact ⟨rfl, hb⟩)
            | (exfalso; rename_i h9; rw [f1] at h9; simp at h9; done)
        · have hq : rdB s = false := by rw [HB.out]; exact decide_eq_false he
          obtain rfl : q = false := by rw [← HQ.out]; exact hq
          obtain rfl : v = 0 := by rw [← HV.out]; exact rd_no hq
          have f1 := str_no he
          clear hq he
          go_wp2
          all_goals first
            | (go_returns; exact ⟨rfl, hb⟩)
            | (exfalso; rename_i h9; rw [f1] at h9; simp at h9; done)
      · obtain rfl : n = -D := by simpa using hN
        have h2 : ¬ s.size < 2 := fun h => by have := sg_no h; rw [HG.out] at this; cases this
        have i2 : (t.size : Int) < (s.size : Int) := by simp at hsz; omega
        clear hN hsz
        go_upto_region 15 with fail
        go_upto_if 56 with (go_at_call 37; refine (HX.out _).mono ?_; rintro e w' ⟨rfl, hb⟩)
        by_cases he : x = s
        · have hq : rdB s = true := by rw [HB.out]; exact decide_eq_true he
          obtain rfl : q = true := by rw [← HQ.out]; exact hq
          obtain rfl : v = -D := by rw [← HV.out]; exact HVN.out hq
          have f1 := str_yes he
          clear hq he
          go_wp2
          all_goals first
            | (go_returns; exact ⟨rfl, hb⟩)
            | (exfalso; rename_i h9; rw [f1] at h9; simp at h9; done)
        · have hq : rdB s = false := by rw [HB.out]; exact decide_eq_false he
          obtain rfl : q = false := by rw [← HQ.out]; exact hq
          obtain rfl : v = 0 := by rw [← HV.out]; exact rd_no hq
          have f1 := str_no he
          clear hq he
          go_wp2
          all_goals first
            | (go_returns; exact ⟨rfl, hb⟩)
            | (exfalso; rename_i h9; rw [f1] at h9; simp at h9; done)
end Go.Proofs.YtcebbmikgpipeaaGreatDoor
