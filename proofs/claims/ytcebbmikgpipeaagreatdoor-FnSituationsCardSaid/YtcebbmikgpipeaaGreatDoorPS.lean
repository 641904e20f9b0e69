/-
  The reference's split of a text, and its walk. Conditions: the text's length within the bound of a slice.
-/
import Derived.Test.YtcebbmikgpipeaaGreatDoorPP
import Derived.Test.YtcebbmikgpipeaaGreatDoorP
import Derived.Maps.AppendAt
namespace Go.Proofs.YtcebbmikgpipeaaGreatDoor
open Go Go.RowKit
set_option maxRecDepth 100000
set_option maxHeartbeats 4000000

def mkB (l : List UInt8) : ByteArray := ⟨l.toArray⟩
def spB (c : UInt8) (s : ByteArray) : List ByteArray := (splitL c s.data.toList).map mkB
def strs (L : List ByteArray) : List Value := L.map Value.string
theorem strs_snoc (L : List ByteArray) (x : ByteArray) : strs (L ++ [x]) = strs L ++ [.string x] := by simp [strs]
theorem ext_mk (s : ByteArray) (a b : Nat) : s.extract a b = mkB ((s.data.toList.drop a).take (b - a)) := by
  apply ByteArray.ext
  rw [ByteArray.data_extract]
  apply Array.toList_inj.1
  simp [mkB, Array.toList_extract]
theorem byte_at {s : ByteArray} {k : Nat} (h : k < s.size) : s.data.toList[k]'(by simpa using h) = s[k] := by simp [ByteArray.getElem_eq_getElem_data]
theorem drop_at {s : ByteArray} {f k : Nat} (hf : f ≤ k) (h : k < s.size) : s.data.toList.drop f = (s.data.toList.drop f).take (k - f) ++ s[k] :: s.data.toList.drop (k + 1) := by
  have e : (s.data.toList.drop f).drop (k - f) = s[k] :: s.data.toList.drop (k + 1) := by
    rw [List.drop_drop, show f + (k - f) = k by omega, List.drop_eq_getElem_cons (by simpa using h), byte_at h]
  rw [← e, List.take_append_drop]
theorem take_at {s : ByteArray} {f k : Nat} (hf : f ≤ k) (h : k < s.size) : (s.data.toList.drop f).take (k + 1 - f) = (s.data.toList.drop f).take (k - f) ++ [s[k]] := by
  rw [show k + 1 - f = (k - f) + 1 by omega, List.take_succ_eq_append_getElem (by simp; omega)]
  congr 2
  rw [List.getElem_drop]
  simp only [show f + (k - f) = k by omega]
  exact byte_at h
theorem l1Split_is {s : ByteArray} {c : UInt8} {L : List ByteArray} (hL : spB c s = L) (hs : s.size ≤ 1048576) (w : World) :
    Calls Tryz.prog 17 #[.string s, .int .u8 (c.toNat : Int)] w fun e w' => ∃ v, e = .returned v ∧ w'.ownsRow w.heap.size 9 1 v L.length (strs L) ∧ Below w.heap.size w w' := by
  obtain ⟨i0, hi0, hz0, hz1, hz2⟩ := info_parts (show (Tryz.prog.info? 9).map (fun i => (i.zero, i.size, i.bytes)) = some (some (.string ByteArray.empty), 1, 16) from by kernel_rfl)
  have HL := Lib.hid hL
  clear hL
  go_enter Tryz.func17, Tryz.ntmps17
  go_upto_region 4 with fail
  go_loopw [5, 6, 7] (fun v f i wr => ∃ (k fr : Nat) (P : List ByteArray), k ≤ s.size ∧ fr ≤ k ∧ P.length ≤ k ∧ i = .int .i64 k ∧ f = .int .i64 fr ∧ wr.ownsRow w.heap.size 9 1 v P.length (strs P) ∧ Hid (L = P ++ (splitL c (s.data.toList.drop fr)).map mkB) ∧ Hid (∀ x ∈ (s.data.toList.drop fr).take (k - fr), x ≠ c) ∧ Below w.heap.size w wr) (fun _ _ i _ => s.size - (intOf i).toNat)
  case atStart => exact ⟨0, 0, [], Nat.zero_le _, Nat.le_refl _, Nat.le_refl _, rfl, rfl, by simpa [strs] using own_lit' (w := w) (t := 9) (k := 1) rfl (Nat.le_refl _), Lib.hid (by rw [← HL.out]; rfl), Lib.hid (by simp), by (repeat' (first | (with_reducible exact Below.refl _ _) | (with_reducible assumption) | (with_reducible refine balloc ?_ _) | (with_reducible refine bdrew ?_) | (with_reducible refine bdrewN ?_ _) | (with_reducible refine bstep ?_ (by assumption)) | (with_reducible refine bset ?_ ?_ _) | (exact Below.size (by assumption)) | go_size))⟩
  case round =>
    obtain ⟨k, fr, P, hk, hf, hPl, rfl, rfl, hO, HP, HN, hW⟩ := hrel
    by_cases hlt : k < s.size
    · have i1 : (k : Int) < (s.size : Int) := by omega
      by_cases hc : s[k] = c
      · have e1 : ((s[k].toNat : Int) == (c.toNat : Int)) = true := by rw [hc]; simp
        have hst := drop_at hf hlt
        have hP2 : L = (P ++ [s.extract fr k]) ++ (splitL c (s.data.toList.drop (k + 1))).map mkB := by
          rw [HP.out]
          conv => lhs; rw [hst, hc, splitL_app _ HN.out]
          rw [List.map_cons, ← ext_mk]
          simp
        have HP2 := Lib.hid hP2
        have i2 : (0 : Int) ≤ (k : Int) := by omega
        have i3 : (0 : Int) ≤ (fr : Int) := by omega
        have i4 : (fr : Int) ≤ (k : Int) := by omega
        have i5 : (k : Int) ≤ (s.size : Int) := by omega
        clear hst hP2
        go_upto_region 7 with fail
        go_wp2_with (at_builtin; refine wpList_append_own _ rfl (.tmp 20) (.tmp 25) 35 rfl w.heap.size 9 i0 _ 1 16 Tryz.underlying35 hi0 hz0 hz1 hz2 rfl (by decide) _ _ _ rfl (own_alloc hO _) ⟨_, 0, none⟩ 1 1 [.string (s.extract fr k)] rfl rfl ?c1 ?c2 ?c3 ?c4 ?c5 ?_)
        case c1 => exact cell_one_new _ _ _
        case c2 => (intro u hu; rw [List.mem_singleton.1 hu]; rfl)
        case c3 => (unfold maxLen; omega)
        case c4 => omega
        case c5 => (have := hW.size; simp; omega)
        intro v' w9 hown' hgr _
        have bW9 := own_grownBy (own_alloc hO _) (balloc hW _) hgr (Nat.le_refl _) (by have := hW.size; simp; omega)
        have HO9 : Hid (w9.ownsRow w.heap.size 9 1 v' (P ++ [s.extract fr k]).length (strs (P ++ [s.extract fr k]))) := Lib.hid (by rw [strs_snoc, List.length_append]; exact hown')
        clear hown' hgr
        go_wp2
        go_roundw
        case rel => exact ⟨k + 1, k + 1, P ++ [s.extract fr k], by omega, Nat.le_refl _, by simp; omega, by go_num, by go_num, HO9.out, HP2, Lib.hid (by simp), bW9⟩
        case measure => simp [intOf]; omega
      · have e1 : ((s[k].toNat : Int) == (c.toNat : Int)) = false := by
          simp only [beq_eq_false_iff_ne]
          intro h
          exact hc (UInt8.toNat_inj.1 (by omega))
        have HN2 : Hid (∀ x ∈ (s.data.toList.drop fr).take (k + 1 - fr), x ≠ c) := Lib.hid (by
          rw [take_at hf hlt]
          intro x hx
          rcases List.mem_append.1 hx with h | h
          · exact HN.out x h
          · rw [List.mem_singleton.1 h]; exact hc)
        clear hc
        go_wp2
        go_roundw
        case rel => exact ⟨k + 1, fr, P, by omega, by omega, by omega, by go_num, rfl, hO, HP, HN2, hW⟩
        case measure => simp [intOf]; omega
    · have i1 : ¬ (k : Int) < (s.size : Int) := by omega
      have i3 : (0 : Int) ≤ (fr : Int) := by omega
      have i4 : (fr : Int) ≤ (s.size : Int) := by omega
      have hP2 : L = P ++ [s.extract fr s.size] := by
        have hall : ∀ x ∈ s.data.toList.drop fr, x ≠ c := by
          have h := HN.out
          rw [List.take_of_length_le (by simp; omega)] at h
          exact h
        rw [HP.out, splitL_none hall, ext_mk, List.take_of_length_le (by simp)]
        rfl
      have HP2 := Lib.hid hP2
      clear hP2
      go_upto_region 9 with fail
      go_wp2_with (at_builtin; refine wpList_append_own _ rfl (.tmp 29) (.tmp 33) 35 rfl w.heap.size 9 i0 _ 1 16 Tryz.underlying35 hi0 hz0 hz1 hz2 rfl (by decide) _ _ _ rfl (own_alloc hO _) ⟨_, 0, none⟩ 1 1 [.string (s.extract fr s.size)] rfl rfl ?c1 ?c2 ?c3 ?c4 ?c5 ?_)
      case c2 => (first | rfl | (intro u hu; rw [List.mem_singleton.1 hu]; rfl))
      case c3 => (unfold maxLen; omega)
      case c4 => omega
      case c5 => (have := hW.size; simp; omega)
      intro v' w9 hown' hgr _
      have bW9 := own_grownBy (own_alloc hO _) (balloc hW _) hgr (Nat.le_refl _) (by have := hW.size; simp; omega)
      have HO9 : Hid (w9.ownsRow w.heap.size 9 1 v' L.length (strs L)) := Lib.hid (by rw [HP2.out, strs_snoc, List.length_append]; exact hown')
      clear hown' hgr
      go_wp2
      go_returns
      exact ⟨_, rfl, HO9.out, bW9⟩
end Go.Proofs.YtcebbmikgpipeaaGreatDoor
