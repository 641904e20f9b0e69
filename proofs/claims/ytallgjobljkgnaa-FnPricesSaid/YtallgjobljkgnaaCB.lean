/-
  The cheapest assignment, in plain Lean: the reference's search and the program's are one. Conditions: those that stand in each statement.
-/
import Derived.Test.YtallgjobljkgnaaK4
namespace Go.Proofs.Ytallgjobljkgnaa
open Go.RowKit
set_option maxHeartbeats 1000000

/-- the best continuation by a place below k -/
def bstL (rec : List Int → List Int × Int) (zs : List Int) : Nat → List Int × Int
  | 0 => ([], -1)
  | k + 1 => if zs.contains (k : Int) = true then bstL rec zs k else if (bstL rec zs k).2 < 0 ∨ (rec (zs ++ [(k : Int)])).2 < (bstL rec zs k).2 then rec (zs ++ [(k : Int)]) else bstL rec zs k
def bst (T : List (List Int)) (n : Nat) : Nat → List Int → List Int × Int
  | 0, zs => (zs, cstA T zs n)
  | f + 1, zs => bstL (bst T n f) zs n
/-- the program's search carries the best so far -/
def exL (rec : List Int → List Int × Int → List Int × Int) (zs : List Int) (s : List Int × Int) : Nat → List Int × Int
  | 0 => s
  | k + 1 => if zs.contains (k : Int) = true then exL rec zs s k else rec (zs ++ [(k : Int)]) (exL rec zs s k)
def ext (T : List (List Int)) (n : Nat) : Nat → List Int → List Int × Int → List Int × Int
  | 0, zs, s => if s.2 < 0 ∨ cstA T zs n < s.2 then (zs, cstA T zs n) else s
  | f + 1, zs, s => exL (ext T n f) zs s n
theorem bstL_yes {rec : List Int → List Int × Int} {zs : List Int} {k : Nat} (h : zs.contains (k : Int) = true) : bstL rec zs (k + 1) = bstL rec zs k := by
  show (if zs.contains (k : Int) = true then _ else _) = _; rw [if_pos h]
theorem bstL_no {rec : List Int → List Int × Int} {zs : List Int} {k : Nat} (h : zs.contains (k : Int) = false) : bstL rec zs (k + 1) = if (bstL rec zs k).2 < 0 ∨ (rec (zs ++ [(k : Int)])).2 < (bstL rec zs k).2 then rec (zs ++ [(k : Int)]) else bstL rec zs k := by
  show (if zs.contains (k : Int) = true then _ else _) = _; rw [if_neg (by rw [h]; simp)]
theorem exL_yes {rec : List Int → List Int × Int → List Int × Int} {zs : List Int} {s : List Int × Int} {k : Nat} (h : zs.contains (k : Int) = true) : exL rec zs s (k + 1) = exL rec zs s k := by
  show (if zs.contains (k : Int) = true then _ else _) = _; rw [if_pos h]
theorem exL_no {rec : List Int → List Int × Int → List Int × Int} {zs : List Int} {s : List Int × Int} {k : Nat} (h : zs.contains (k : Int) = false) : exL rec zs s (k + 1) = rec (zs ++ [(k : Int)]) (exL rec zs s k) := by
  show (if zs.contains (k : Int) = true then _ else _) = _; rw [if_neg (by rw [h]; simp)]
def mrg (s r : List Int × Int) : List Int × Int := if s.2 < 0 ∨ r.2 < s.2 then r else s
theorem free_at : ∀ (n : Nat) (zs : List Int), (∀ b : Nat, b < n → zs.contains (b : Int) = true) → n ≤ zs.length
  | 0, _, _ => Nat.zero_le _
  | n + 1, zs, h => by
    have hm : (n : Int) ∈ zs := by simpa using h n (by omega)
    have h2 := free_at n (zs.erase (n : Int)) (fun b hb => by
      have hb2 : (b : Int) ∈ zs := by simpa using h b (by omega)
      have : (b : Int) ∈ zs.erase (n : Int) := (List.mem_erase_of_ne (by omega)).2 hb2
      simpa using this)
    have h3 := List.length_erase_of_mem hm
    have h4 : 0 < zs.length := List.length_pos_of_mem hm
    omega
abbrev okA (n : Nat) (r : List Int × Int) : Prop := r.1.length = n ∧ r.1.all (tskP n) = true ∧ 0 ≤ r.2 ∧ r.2 ≤ 100 * (n : Int)
theorem all_snoc {n k : Nat} {zs : List Int} (h : zs.all (tskP n) = true) (hk : k < n) : (zs ++ [(k : Int)]).all (tskP n) = true := by
  rw [List.all_append, h]
  simp [tskP, inB]; omega
theorem bst_ok {T : List (List Int)} {n : Nat} (hT : ∀ i, i < n → (row T i).length = n ∧ (row T i).all cellP = true) : ∀ (f : Nat) (zs : List Int), zs.all (tskP n) = true → zs.length + f = n → okA n (bst T n f zs)
  | 0, zs, hz, hl => by
    have h := cstA_bd hT hz n (Nat.le_refl _) (by omega)
    exact ⟨by simpa [bst] using hl, hz, h.1, h.2⟩
  | f + 1, zs, hz, hl => by
    have key : ∀ k, k ≤ n → ((∀ t : Nat, t < k → zs.contains (t : Int) = true) ∧ bstL (bst T n f) zs k = ([], -1)) ∨ okA n (bstL (bst T n f) zs k) := by
      intro k
      induction k with
      | zero => exact fun _ => .inl ⟨fun t ht => absurd ht (Nat.not_lt_zero _), rfl⟩
      | succ k ih =>
        intro hk
        have ih := ih (by omega)
        by_cases hc : zs.contains (k : Int) = true
        · have e := bstL_yes (rec := bst T n f) hc
          rw [e]
          rcases ih with ⟨h1, h2⟩ | h
          · refine .inl ⟨fun t ht => ?_, h2⟩
            by_cases htk : t = k
            · rw [htk]; exact hc
            · exact h1 t (by omega)
          · exact .inr h
        · have hr := bst_ok hT f (zs ++ [(k : Int)]) (all_snoc hz (by omega)) (by simp; omega)
          right
          rw [bstL_no (by simpa using hc)]
          split
          · exact hr
          · rcases ih with ⟨h1, h2⟩ | h
            · rename_i hn
              rw [h2] at hn
              simp at hn
            · exact h
    rcases key n (Nat.le_refl _) with ⟨h1, _⟩ | h
    · have := free_at n zs h1; omega
    · exact h
theorem ext_eq {T : List (List Int)} {n : Nat} (hT : ∀ i, i < n → (row T i).length = n ∧ (row T i).all cellP = true) : ∀ (f : Nat) (zs : List Int) (s : List Int × Int), zs.all (tskP n) = true → zs.length + f = n → ext T n f zs s = mrg s (bst T n f zs)
  | 0, _, _, _, _ => rfl
  | f + 1, zs, s, hz, hl => by
    have key : ∀ k, k ≤ n → ((∀ t : Nat, t < k → zs.contains (t : Int) = true) ∧ bstL (bst T n f) zs k = ([], -1) ∧ exL (ext T n f) zs s k = s) ∨ (0 ≤ (bstL (bst T n f) zs k).2 ∧ exL (ext T n f) zs s k = mrg s (bstL (bst T n f) zs k)) := by
      intro k
      induction k with
      | zero => exact fun _ => .inl ⟨fun t ht => absurd ht (Nat.not_lt_zero _), rfl, rfl⟩
      | succ k ih =>
        intro hk
        have ih := ih (by omega)
        by_cases hc : zs.contains (k : Int) = true
        · have e := bstL_yes (rec := bst T n f) hc
          have e2 := exL_yes (rec := ext T n f) (s := s) hc
          rw [e, e2]
          rcases ih with ⟨h1, h2⟩ | h
          · refine .inl ⟨fun t ht => ?_, h2⟩
            by_cases htk : t = k
            · rw [htk]; exact hc
            · exact h1 t (by omega)
          · exact .inr h
        · have hs := all_snoc hz (show k < n by omega)
          have hr := bst_ok hT f (zs ++ [(k : Int)]) hs (by simp; omega)
          have he := ext_eq hT f (zs ++ [(k : Int)]) (exL (ext T n f) zs s k) hs (by simp; omega)
          right
          have e2 : exL (ext T n f) zs s (k + 1) = mrg (exL (ext T n f) zs s k) (bst T n f (zs ++ [(k : Int)])) := by rw [exL_no (by simpa using hc)]; exact he
          rw [e2, bstL_no (by simpa using hc)]
          obtain ⟨r, hrr⟩ : ∃ r, bst T n f (zs ++ [(k : Int)]) = r := ⟨_, rfl⟩
          rw [hrr] at hr ⊢
          have hr2 : 0 ≤ r.2 := hr.2.2.1
          rcases ih with ⟨h1, h2, h3⟩ | ⟨h2, h3⟩
          · rw [h2, h3, if_pos (.inl (by simp))]
            exact ⟨hr2, rfl⟩
          · rw [h3]
            obtain ⟨p, hp⟩ : ∃ p, bstL (bst T n f) zs k = p := ⟨_, rfl⟩
            rw [hp] at h2 ⊢
            unfold mrg
            by_cases c1 : p.2 < 0 ∨ r.2 < p.2
            · rw [if_pos c1]
              refine ⟨hr2, ?_⟩
              by_cases c2 : s.2 < 0 ∨ p.2 < s.2
              · rw [if_pos c2, if_pos c1, if_pos (by omega)]
              · rw [if_neg c2]
            · rw [if_neg c1]
              refine ⟨h2, ?_⟩
              by_cases c2 : s.2 < 0 ∨ p.2 < s.2
              · rw [if_pos c2, if_neg c1]
              · rw [if_neg c2, if_neg (by omega)]
    rcases key n (Nat.le_refl _) with ⟨h1, _⟩ | ⟨_, h⟩
    · have := free_at n zs h1; omega
    · exact h
def caR (T : List (List Int)) : List Int × Int := if ctB T = true then bst T T.length T.length [] else ([], 0)
theorem caR_no {T : List (List Int)} (h : ctB T = false) : caR T = ([], 0) := by simp [caR, h]
theorem caR_yes {T : List (List Int)} (h : ctB T = true) : caR T = bst T T.length T.length [] := by simp [caR, h]
theorem caR_len (T : List (List Int)) : (caR T).1.length ≤ 5 := by
  by_cases h : ctB T = true
  · have hs := ct_sq h rfl
    have := (bst_ok (ct_cells h rfl) T.length [] rfl (by simp)).1
    rw [caR_yes h]; omega
  · rw [caR_no (by simpa using h)]; simp
end Go.Proofs.Ytallgjobljkgnaa
