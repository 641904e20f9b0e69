/-
  The library's split, replacement and number of a text beside the plain ones. Conditions: those that stand in each statement.
-/
import Derived.Test.YtcebbmikgpipeaaGreatDoorPU
import Derived.Lib.AtoiAll
import Derived.Lib.AtoiAllCases
import Derived.Lib.SplitLaws
import Derived.Lib.Replace
import Derived.Lib.CountLaws
import Derived.Lib.IndexBytes
namespace Go.Proofs.YtcebbmikgpipeaaGreatDoor
open Go Go.RowKit
set_option maxRecDepth 100000
set_option maxHeartbeats 4000000

theorem first_of (c : UInt8) : ∀ l : List UInt8, (∀ x ∈ l, x ≠ c) ∨ ∃ a r, l = a ++ c :: r ∧ ∀ x ∈ a, x ≠ c
  | [] => .inl (by simp)
  | x :: xs => by
    by_cases h : x = c
    · exact .inr ⟨[], xs, by simp [h], by simp⟩
    · rcases first_of c xs with h2 | ⟨a, r, e, h2⟩
      · exact .inl (fun y hy => by
          rcases List.mem_cons.1 hy with rfl | hy
          · exact h
          · exact h2 y hy)
      · exact .inr ⟨x :: a, r, by simp [e], fun y hy => by
          rcases List.mem_cons.1 hy with rfl | hy
          · exact h
          · exact h2 y hy⟩
theorem idx_no {c : UInt8} : ∀ {l : List UInt8}, (∀ x ∈ l, x ≠ c) → Lib.index l [c] = -1 := by
  intro l
  rw [Lib.index_one]
  induction l with
  | nil => intro _; rfl
  | cons x xs ih =>
    intro h
    have h1 : (x == c) = false := beq_eq_false_iff_ne.2 (h x List.mem_cons_self)
    have h2 := ih (fun y hy => h y (List.mem_cons_of_mem _ hy))
    simp [Lib.indexByte, h1, h2]
theorem idx_yes {c : UInt8} (r : List UInt8) : ∀ {a : List UInt8}, (∀ x ∈ a, x ≠ c) → Lib.index (a ++ c :: r) [c] = (a.length : Int) := by
  intro a
  rw [Lib.index_one]
  induction a with
  | nil => intro _; simp [Lib.indexByte]
  | cons x xs ih =>
    intro h
    have h1 : (x == c) = false := beq_eq_false_iff_ne.2 (h x List.mem_cons_self)
    have h2 := ih (fun y hy => h y (List.mem_cons_of_mem _ hy))
    have h3 : ((xs.length : Int) == -1) = false := beq_eq_false_iff_ne.2 (by omega)
    rw [List.cons_append, Lib.indexByte, h2, h1, h3]
    simp
theorem splitK_one (c : UInt8) : ∀ (n : Nat) (l : List UInt8), l.length < n → Lib.splitK [c] 0 (Lib.count l [c]) l = splitL c l
  | 0, _, h => absurd h (Nat.not_lt_zero _)
  | n + 1, l, h => by
    rcases first_of c l with h1 | ⟨a, r, rfl, h1⟩
    · rw [Lib.count_miss (idx_no h1), splitL_none h1]; rfl
    · have e := idx_yes r h1
      rw [Lib.count_hit (by simp) e, splitL_app r h1]
      have e2 : (a ++ c :: r).drop (a.length + [c].length) = r := by
        simp
      rw [e2, Nat.add_comm, Lib.splitK, e]
      have h3 : ((a.length : Int) == -1) = false := beq_eq_false_iff_ne.2 (by omega)
      rw [if_neg (by rw [h3]; simp)]
      simp only [Int.toNat_natCast, Nat.add_zero]
      rw [e2, splitK_one c n r (by simp at h; omega)]
      simp
theorem replaceK_one (c : UInt8) : ∀ (n : Nat) (l : List UInt8), l.length < n → Lib.replaceK [c] [] (Lib.count l [c]) l = dropL c l
  | 0, _, h => absurd h (Nat.not_lt_zero _)
  | n + 1, l, h => by
    rcases first_of c l with h1 | ⟨a, r, rfl, h1⟩
    · rw [Lib.count_miss (idx_no h1), dropL_id h1]; rfl
    · have e := idx_yes r h1
      rw [Lib.count_hit (by simp) e]
      have e2 : (a ++ c :: r).drop (a.length + [c].length) = r := by simp
      rw [e2, Nat.add_comm, Lib.replaceK_hit _ _ _ _ _ e, e2, replaceK_one c n r (by simp at h; omega)]
      rw [show a ++ c :: r = a ++ ([c] ++ r) by simp, dropL_app, dropL_app, dropL_id h1, show dropL c [c] = [] by simp [dropL]]
      simp
theorem mkB_list (s : ByteArray) : mkB s.data.toList = s := by
  apply ByteArray.ext
  simp [mkB]
theorem splitB_one (c : UInt8) (s : ByteArray) : Lib.splitB (mkB [c]) 0 (Lib.countB s (mkB [c])) s = spB c s := by
  have h := Lib.splitB_data (mkB [c]) 0 (Lib.countB s (mkB [c])) s
  have h2 : Lib.splitK [c] 0 (Lib.count s.data.toList [c]) s.data.toList = splitL c s.data.toList := splitK_one c _ _ (Nat.lt_succ_self _)
  have h3 : (Lib.splitB (mkB [c]) 0 (Lib.countB s (mkB [c])) s).map (·.data.toList) = splitL c s.data.toList := h.trans h2
  unfold spB
  rw [← h3, List.map_map]
  conv => lhs; rw [← List.map_id (Lib.splitB (mkB [c]) 0 (Lib.countB s (mkB [c])) s)]
  exact List.map_congr_left (fun x _ => (mkB_list x).symm)
theorem splitL_length (c : UInt8) : ∀ l : List UInt8, (splitL c l).length = l.count c + 1
  | [] => rfl
  | x :: xs => by
    have h1 := splitL_length c xs
    unfold splitL
    by_cases h : x = c
    · subst h; simp [h1]
    · rw [if_neg h]
      have h2 : (x == c) = false := beq_eq_false_iff_ne.2 h
      rw [List.count_cons, h2]
      match hs : splitL c xs with
      | [] => rw [hs] at h1; simp at h1
      | z :: zs => rw [hs] at h1; simp at h1; simp [h1]
theorem spB_length (c : UInt8) (s : ByteArray) : (spB c s).length = Lib.countB s (mkB [c]) + 1 := by
  have h : Lib.countB s (mkB [c]) = s.data.toList.count c := Lib.count_one c _
  rw [h]
  simp [spB, splitL_length]
/-- a text without one byte -/
def drB (c : UInt8) (s : ByteArray) : ByteArray := mkB (dropL c s.data.toList)
theorem replaceAll_one (c : UInt8) (s : ByteArray) : (⟨(Lib.replaceAll s.data.toList [c] []).toArray⟩ : ByteArray) = drB c s := by
  have h : Lib.replaceAll s.data.toList [c] [] = dropL c s.data.toList := by
    unfold Lib.replaceAll Lib.replace Lib.replaceNum
    rw [if_neg (by simp), if_pos (.inl (by omega))]
    exact replaceK_one c _ _ (Nat.lt_succ_self _)
  rw [h]; rfl
theorem drB_size (c : UInt8) (s : ByteArray) : (drB c s).size ≤ s.size := by
  have h := List.length_filter_le (fun x => x != c) s.data.toList
  show (dropL c s.data.toList).toArray.size ≤ s.data.size
  rw [List.size_toArray]
  rw [Array.length_toList] at h
  exact h
/-! numerals -/
theorem dg_dec : ∀ (k n : Nat), n < k → Dg (Lib.decDigits n)
  | 0, _, h => absurd h (Nat.not_lt_zero _)
  | k + 1, n, h => by
    by_cases h10 : n < 10
    · rw [Lib.decDigits_one h10]
      have e : ∀ m : Fin 10, 48 ≤ UInt8.ofNat (48 + m.val) ∧ UInt8.ofNat (48 + m.val) ≤ 57 := by decide
      exact ⟨by simp, fun x hx => by rw [List.mem_singleton.1 hx]; exact e ⟨n, h10⟩⟩
    · have ih := dg_dec k (n / 10) (by omega)
      rw [Lib.decDigits, dif_neg h10]
      have e : ∀ m : Fin 10, 48 ≤ UInt8.ofNat (48 + m.val) ∧ UInt8.ofNat (48 + m.val) ≤ 57 := by decide
      exact ⟨by simp, fun x hx => by
        rcases List.mem_append.1 hx with h | h
        · exact ih.2 x h
        · rw [List.mem_singleton.1 h]; exact e ⟨n % 10, Nat.mod_lt _ (by omega)⟩⟩
theorem dig_nat (n : Nat) (h : n < 10) : (UInt8.ofNat (48 + n)).toNat = 48 + n := by
  have e : ∀ m : Fin 10, (UInt8.ofNat (48 + m.val)).toNat = 48 + m.val := by decide
  exact e ⟨n, h⟩
theorem parse_dec : ∀ (k n : Nat), n < k → n ≤ 1000000000 → ∀ r, Lib.parseUint10 0 (Lib.decDigits n ++ r) = Lib.parseUint10 n r
  | 0, _, h, _, _ => absurd h (Nat.not_lt_zero _)
  | k + 1, n, h, hn, r => by
    by_cases h10 : n < 10
    · rw [Lib.decDigits_one h10, List.singleton_append, Lib.parseUint10]
      have e := dig_nat n h10
      simp only [e]
      rw [if_pos (by omega), if_neg (by omega), if_neg (by omega)]
      congr 1; omega
    · rw [Lib.decDigits, dif_neg h10, List.append_assoc, parse_dec k (n / 10) (by omega) (by omega), List.singleton_append, Lib.parseUint10]
      have e := dig_nat (n % 10) (Nat.mod_lt _ (by omega))
      simp only [e]
      rw [if_pos (by omega), if_neg (by omega), if_neg (by omega)]
      congr 1; omega
theorem atoi_dec {n : Nat} (h : n ≤ 1000000000) : Lib.atoiAll (Lib.decDigits n) = .ok (n : Int) := by
  have hd := dg_dec (n + 1) n (Nat.lt_succ_self _)
  have hp := parse_dec (n + 1) n (Nat.lt_succ_self _) h []
  rw [List.append_nil] at hp
  match hl : Lib.decDigits n with
  | [] => exact absurd hl hd.1
  | c :: r =>
    have hc := hd.2 c (by rw [hl]; exact List.mem_cons_self)
    have hc1 : 48 ≤ c.toNat := hc.1
    rw [Lib.atoiAll_plain c r (by omega) (by omega), ← hl]
    unfold Lib.parseMag
    rw [if_neg hd.1, hp]
    simp [Lib.parseUint10, Lib.signless]
    omega
end Go.Proofs.YtcebbmikgpipeaaGreatDoor
