/-
  The assignment chapter in plain Lean: the search finds the least cost, prices bound it from below, exchanges and raised prices. Conditions: those that stand in each statement.
-/
import Derived.Test.YtallgjobljkgnaaCB
import Derived.Test.YtallgjobljkgnaaK6
import Derived.Test.YtallgjobljkgnaaKE
import Derived.Test.YtallgjobljkgnaaKB
namespace Go.Proofs.Ytallgjobljkgnaa
open Go.RowKit
set_option maxHeartbeats 1000000

theorem difB_iff {zs : List Int} {n : Nat} (hl : zs.length = n) : difB zs n = true ↔ ∀ i j, i < j → j < n → zs.getD i 0 ≠ zs.getD j 0 := by
  unfold difB
  rw [List.all_eq_true]
  constructor
  · intro h i j hij hj e
    have h1 := h j (List.mem_range.2 hj)
    have h2 : (zs.take j).contains (zs.getD j 0) = true := by
      rw [List.contains_iff_mem, ← e, getD_of (show i < zs.length by omega) rfl, List.mem_take_iff_getElem]
      exact ⟨i, by omega, rfl⟩
    rw [h2] at h1
    cases h1
  · intro h j hj
    have hj := List.mem_range.1 hj
    rcases hc : (zs.take j).contains (zs.getD j 0) with _ | _
    · rfl
    · rw [List.contains_iff_mem, List.mem_take_iff_getElem] at hc
      obtain ⟨i, hi, e⟩ := hc
      exact absurd (by rw [getD_of (show i < zs.length by omega) rfl]; exact e) (h i j (by omega) hj)
theorem asB_iff {zs : List Int} {n : Nat} : asB n zs = true ↔ zs.length = n ∧ (∀ i, i < n → 0 ≤ zs.getD i 0 ∧ zs.getD i 0 < (n : Int)) ∧ ∀ i j, i < j → j < n → zs.getD i 0 ≠ zs.getD j 0 := by
  constructor
  · intro h
    obtain ⟨h1, h2, h3⟩ := asB_parts h
    refine ⟨h1, fun i hi => ?_, (difB_iff h1).1 h3⟩
    have := tsk_bd (List.all_eq_true.1 h2 (zs[i]'(by omega)) (List.getElem_mem _))
    rw [getD_of (show i < zs.length by omega) rfl]
    omega
  · rintro ⟨h1, h2, h3⟩
    unfold asB
    simp only [Bool.and_eq_true, decide_eq_true_eq]
    refine ⟨h1, List.all_eq_true.2 fun x hx => ?_, (difB_iff h1).2 h3⟩
    obtain ⟨i, hi, rfl⟩ := List.mem_iff_getElem.1 hx
    have := h2 i (by omega)
    rw [getD_of hi rfl] at this
    exact inB_iff.2 ⟨this.1, by omega⟩
/-- what the search finds is an assignment of that cost -/
abbrev attA (T : List (List Int)) (n : Nat) (r : List Int × Int) : Prop := asB n r.1 = true ∧ cstA T r.1 n = r.2
theorem dif_snoc {zs : List Int} {k : Nat} (h : difB zs zs.length = true) (hc : zs.contains (k : Int) = false) : difB (zs ++ [(k : Int)]) (zs ++ [(k : Int)]).length = true := by
  rw [difB_iff rfl] at h ⊢
  intro i j hij hj e
  simp only [List.length_append, List.length_singleton] at hj
  have gi : (zs ++ [(k : Int)]).getD i 0 = zs.getD i 0 := by
    simp only [List.getD_eq_getElem?_getD]
    rw [List.getElem?_append_left (by omega)]
  rw [gi] at e
  by_cases hjl : j = zs.length
  · subst hjl
    simp only [List.getD_eq_getElem?_getD, List.getElem?_concat_length] at e
    have hm : (k : Int) ∈ zs := by
      rw [← show (some (k : Int)).getD 0 = (k : Int) from rfl, ← e, List.getElem?_eq_getElem hij]
      exact List.getElem_mem _
    rw [← List.contains_iff_mem, hc] at hm
    cases hm
  · have gj : (zs ++ [(k : Int)]).getD j 0 = zs.getD j 0 := by
      simp only [List.getD_eq_getElem?_getD]
      rw [List.getElem?_append_left (by omega)]
    rw [gj] at e
    exact h i j hij (by omega) e
theorem bst_att {T : List (List Int)} {n : Nat} (hT : ∀ i, i < n → (row T i).length = n ∧ (row T i).all cellP = true) : ∀ (f : Nat) (zs : List Int), zs.all (tskP n) = true → difB zs zs.length = true → zs.length + f = n → attA T n (bst T n f zs)
  | 0, zs, hz, hd, hl => by
    have hl : zs.length = n := by omega
    refine ⟨?_, rfl⟩
    show asB n zs = true
    unfold asB
    rw [hl] at hd
    simp [hl, hz, hd]
  | f + 1, zs, hz, hd, hl => by
    have key : ∀ k, k ≤ n → ((∀ t : Nat, t < k → zs.contains (t : Int) = true) ∧ bstL (bst T n f) zs k = ([], -1)) ∨ attA T n (bstL (bst T n f) zs k) := by
      intro k
      induction k with
      | zero => exact fun _ => .inl ⟨fun t ht => absurd ht (Nat.not_lt_zero _), rfl⟩
      | succ k ih =>
        intro hk
        have ih := ih (by omega)
        by_cases hc : zs.contains (k : Int) = true
        · have e := bstL_yes (rec := bst T n f) hc
          rw [e]
          rcases ih with ⟨h1, h2⟩ | h
          · refine .inl ⟨fun t ht => ?_, h2⟩
            by_cases htk : t = k
            · rw [htk]; exact hc
            · exact h1 t (by omega)
          · exact .inr h
        · have hr := bst_att hT f (zs ++ [(k : Int)]) (all_snoc hz (by omega)) (dif_snoc hd (by simpa using hc)) (by simp; omega)
          right
          rw [bstL_no (by simpa using hc)]
          split
          · exact hr
          · rcases ih with ⟨h1, h2⟩ | h
            · rename_i hn
              rw [h2] at hn
              simp at hn
            · exact h
    rcases key n (Nat.le_refl _) with ⟨h1, _⟩ | h
    · have := free_at n zs h1; omega
    · exact h
/-- no continuation is cheaper than what the search finds -/
theorem bstL_min {T : List (List Int)} {n f : Nat} (hT : ∀ i, i < n → (row T i).length = n ∧ (row T i).all cellP = true) {zs : List Int} (hz : zs.all (tskP n) = true) (hl : zs.length + (f + 1) = n) {k : Nat} (hc : zs.contains (k : Int) = false) :
    ∀ m, k < m → m ≤ n → 0 ≤ (bstL (bst T n f) zs m).2 ∧ (bstL (bst T n f) zs m).2 ≤ (bst T n f (zs ++ [(k : Int)])).2 := by
  intro m
  induction m with
  | zero => intro h; omega
  | succ m ih =>
    intro hk hm
    by_cases hc2 : zs.contains (m : Int) = true
    · rw [bstL_yes hc2]
      refine ih ?_ (by omega)
      rcases Nat.lt_or_ge k m with h | h
      · exact h
      · obtain rfl : k = m := by omega
        rw [hc] at hc2; cases hc2
    · have hr := bst_ok hT f (zs ++ [(m : Int)]) (all_snoc hz (by omega)) (by simp; omega)
      have h0 : 0 ≤ (bst T n f (zs ++ [(m : Int)])).2 := hr.2.2.1
      rw [bstL_no (by simpa using hc2)]
      by_cases hkm : k = m
      · subst hkm
        split
        · exact ⟨h0, Int.le_refl _⟩
        · omega
      · have ih := ih (by omega) (by omega)
        split
        · exact ⟨h0, by omega⟩
        · exact ih
theorem bst_min {T : List (List Int)} {n : Nat} (hT : ∀ i, i < n → (row T i).length = n ∧ (row T i).all cellP = true) {zs : List Int} (hz : asB n zs = true) : ∀ (f : Nat), f ≤ n → (bst T n f (zs.take (n - f))).2 ≤ cstA T zs n
  | 0, _ => by
    obtain ⟨hl, _⟩ := asB_iff.1 hz
    rw [Nat.sub_zero, List.take_of_length_le (by omega)]
    exact Int.le_refl _
  | f + 1, hf => by
    have ih := bst_min hT hz f (by omega)
    obtain ⟨hl, h2, h3⟩ := asB_iff.1 hz
    obtain ⟨j, hj⟩ : ∃ j, n - (f + 1) = j := ⟨_, rfl⟩
    rw [show n - f = j + 1 by omega] at ih
    rw [hj]
    have hjl : j < zs.length := by omega
    have hb := h2 j (by omega)
    rw [getD_of hjl rfl] at hb
    obtain ⟨k, hk⟩ : ∃ k : Nat, zs[j] = (k : Int) := ⟨(zs[j]).toNat, by omega⟩
    rw [List.take_add_one, List.getElem?_eq_getElem hjl, hk] at ih
    have hc : (zs.take j).contains (k : Int) = false := by
      rcases hc : (zs.take j).contains (k : Int) with _ | _
      · rfl
      · rw [List.contains_iff_mem, List.mem_take_iff_getElem] at hc
        obtain ⟨i, hi, e⟩ := hc
        refine absurd ?_ (h3 i j (by omega) (by omega))
        rw [getD_of (show i < zs.length by omega) rfl, getD_of hjl rfl, hk]
        exact e
    have hall : (zs.take j).all (tskP n) = true := List.all_eq_true.2 fun x hx => List.all_eq_true.1 (asB_parts hz).2.1 x (List.mem_of_mem_take hx)
    have := (bstL_min hT (f := f) hall (by simp; omega) hc n (by omega) (Nat.le_refl _)).2
    exact Int.le_trans this ih
theorem caR_min {T : List (List Int)} {zs L : List Int} {v : Int} (h : asT T zs = true) (hR : caR T = (L, v)) : v ≤ cstA T zs T.length := by
  obtain ⟨h1, h2⟩ := asT_parts h rfl
  rw [caR_yes h1] at hR
  have h3 := bst_min (ct_cells h1 rfl) h2 T.length (Nat.le_refl _)
  rw [Nat.sub_self, List.take_zero, hR] at h3
  exact h3
theorem caR_att {T : List (List Int)} {L : List Int} {v : Int} (h : ctB T = true) (hR : caR T = (L, v)) : asT T L = true ∧ cstA T L T.length = v := by
  rw [caR_yes h] at hR
  have h3 := bst_att (ct_cells h rfl) T.length [] rfl rfl (by simp)
  rw [hR] at h3
  exact ⟨by simp [asT, h, h3.1], h3.2⟩
end Go.Proofs.Ytallgjobljkgnaa
