/-
  The assignment chapter in plain Lean, on: prices bound every cost from below; exchanges; rotations; raised prices. Conditions: those that stand in each statement.
-/
import Derived.Test.YtallgjobljkgnaaQL
namespace Go.Proofs.Ytallgjobljkgnaa
open Go.RowKit
set_option maxHeartbeats 1000000

theorem map_sum_erase (f : Nat → Int) : ∀ {l : List Nat} {a : Nat}, a ∈ l → (l.map f).sum = f a + ((l.erase a).map f).sum
  | b :: t, a, h => by
    by_cases e : b = a
    · subst e; simp
    · have h2 : a ∈ t := by
        rcases List.mem_cons.1 h with h | h
        · exact absurd h.symm e
        · exact h
      rw [List.erase_cons_tail (by simpa using e)]
      simp only [List.map_cons, List.sum_cons]
      rw [map_sum_erase f h2]
      omega
theorem sum_perm (f : Nat → Int) : ∀ (n : Nat) (l : List Nat), l.Nodup → (∀ x ∈ l, x < n) → l.length ≤ n ∧ (l.length = n → (l.map f).sum = ((List.range n).map f).sum)
  | 0, l, _, h => by
    cases l with
    | nil => exact ⟨Nat.le_refl _, fun _ => rfl⟩
    | cons a t => exact absurd (h a (by simp)) (Nat.not_lt_zero _)
  | n + 1, l, hn, h => by
    by_cases hm : n ∈ l
    · have h1 : ∀ x ∈ l.erase n, x < n := fun x hx => by
        have hx2 := h x (List.mem_of_mem_erase hx)
        have hne : x ≠ n := fun e => by subst e; exact (List.Nodup.not_mem_erase hn) hx
        omega
      obtain ⟨i1, i2⟩ := sum_perm f n (l.erase n) (hn.erase n) h1
      have hl := List.length_erase_of_mem hm
      have hp : 0 < l.length := List.length_pos_of_mem hm
      refine ⟨by omega, fun he => ?_⟩
      rw [map_sum_erase f hm, i2 (by omega), List.range_succ, List.map_append, List.sum_append]
      simp
      omega
    · have h1 : ∀ x ∈ l, x < n := fun x hx => by
        have hx2 := h x hx
        have hne : x ≠ n := fun e => by subst e; exact hm hx
        omega
      obtain ⟨i1, i2⟩ := sum_perm f n l hn h1
      exact ⟨by omega, fun he => by omega⟩
def sumN (f : Nat → Int) : Nat → Int
  | 0 => 0
  | k + 1 => sumN f k + f k
theorem sumN_range (f : Nat → Int) : ∀ n, sumN f n = ((List.range n).map f).sum
  | 0 => rfl
  | n + 1 => by rw [List.range_succ, List.map_append, List.sum_append, ← sumN_range f n]; simp [sumN]
theorem valA_sum (cs ts : List Int) : ∀ k, valA cs ts k = sumN (fun i => cs.getD i 0) k + sumN (fun i => ts.getD i 0) k
  | 0 => rfl
  | k + 1 => by
    have := valA_sum cs ts k
    simp only [valA, sumN, this]
    omega
theorem frK_at {T : List (List Int)} {cs ts : List Int} {n i j : Nat} (h : frK T cs ts n n = true) (hi : i < n) (hj : j < n) : cs.getD i 0 + ts.getD j 0 ≤ (row T i).getD j 0 := by
  unfold frK at h
  have h1 := List.all_eq_true.1 h i (List.mem_range.2 hi)
  unfold frR at h1
  have h2 := List.all_eq_true.1 h1 j (List.mem_range.2 hj)
  unfold frC at h2
  simp only [Bool.not_eq_true', decide_eq_false_iff_not] at h2
  omega
/-- the value of fair prices is no more than what an assignment costs -/
theorem dual {T : List (List Int)} {cs ts zs : List Int} {n : Nat} (hf : frK T cs ts n n = true) (hz : asB n zs = true) : valA cs ts n ≤ cstA T zs n := by
  obtain ⟨hl, h2, h3⟩ := asB_iff.1 hz
  have key : ∀ k, k ≤ n → sumN (fun i => cs.getD i 0) k + sumN (fun i => ts.getD (zs.getD i 0).toNat 0) k ≤ cstA T zs k := by
    intro k
    induction k with
    | zero => intro _; simp [sumN, cstA]
    | succ k ih =>
      intro hk
      have ih := ih (by omega)
      have := h2 k (by omega)
      have h4 := frK_at hf (i := k) (j := (zs.getD k 0).toNat) (by omega) (by omega)
      simp only [sumN, cstA]
      omega
  have key := key n (Nat.le_refl _)
  have e : sumN (fun i => ts.getD (zs.getD i 0).toNat 0) n = sumN (fun i => ts.getD i 0) n := by
    rw [sumN_range, sumN_range]
    have := (sum_perm (fun j => ts.getD j 0) n ((List.range n).map fun i => (zs.getD i 0).toNat) (by
      rw [List.nodup_iff_pairwise_ne, List.pairwise_map, List.pairwise_iff_getElem]
      intro i j hi hj hij e
      simp only [List.length_range] at hi hj
      simp only [List.getElem_range] at e
      have a := h2 i hi
      have b := h2 j hj
      exact h3 i j hij hj (by omega)) (fun x hx => by
      obtain ⟨i, hi, rfl⟩ := List.mem_map.1 hx
      have := h2 i (List.mem_range.1 hi)
      omega)).2 (by simp)
    rw [List.map_map] at this
    exact this
  rw [valA_sum, ← e]
  exact key
theorem fair_ask {T : List (List Int)} {cs ts : List Int} (h : fairV T cs ts = true) : ctB T = true ∧ frK T cs ts T.length T.length = true ∧ askB T cs ts = true := by
  obtain ⟨h1, h2⟩ := fair_parts h rfl
  have h3 : ctB T = true := by unfold askB at h1; exact ((Bool.and_eq_true _ _).mp h1).1
  exact ⟨h3, h2, h1⟩
/-- FnAssignments: the value of fair prices is no more than the least cost -/
theorem value_le {T : List (List Int)} {cs ts L : List Int} {v : Int} (h : fairV T cs ts = true) (hR : caR T = (L, v)) : ctB T = true ∧ pvI T cs ts ≤ v := by
  obtain ⟨h1, h2, _⟩ := fair_ask h
  obtain ⟨h3, h4⟩ := caR_att h1 hR
  refine ⟨h1, ?_⟩
  unfold pvI
  rw [if_pos h, ← h4]
  exact dual h2 (asT_parts h3 rfl).2
/-- FnAssignments: proved by prices, the cost is the least -/
theorem proves_eq {T : List (List Int)} {zs cs ts L : List Int} {v : Int} (h : pcV T zs cs ts = true) (hR : caR T = (L, v)) : asT T zs = true ∧ ctB T = true ∧ acI T zs = v := by
  unfold pcV pcB at h
  simp only [Bool.and_eq_true, decide_eq_true_eq] at h
  obtain ⟨⟨h1, h2⟩, h3⟩ := h
  obtain ⟨h4, h5, _⟩ := fair_ask h1
  have h6 : asT T zs = true := by simp [asT, h4, h2]
  obtain ⟨h7, h8⟩ := caR_att h4 hR
  refine ⟨h6, h4, ?_⟩
  unfold acI
  rw [if_pos h6]
  have a := caR_min h6 hR
  have b := dual h5 (asT_parts h7 rfl).2
  omega
/-- exchanges -/
theorem swp_getD {zs : List Int} {n a b : Nat} (hl : zs.length = n) (ha : a < n) (hb : b < n) (i : Nat) : (swpI zs a b).getD i 0 = zs.getD (if i = b then a else if i = a then b else i) 0 := by
  unfold swpI
  simp only [List.getD_eq_getElem?_getD, List.getElem?_set, List.length_set]
  by_cases e1 : i = b
  · subst e1
    rw [if_pos rfl, if_pos rfl, if_pos (by omega)]; rfl
  · rw [if_neg (fun h => e1 h.symm), if_neg e1]
    by_cases e2 : i = a
    · subst e2
      rw [if_pos rfl, if_pos rfl, if_pos (by omega)]; rfl
    · rw [if_neg (fun h => e2 h.symm), if_neg e2]
theorem swp_asB {zs : List Int} {n a b : Nat} (h : asB n zs = true) (ha : a < n) (hb : b < n) : asB n (swpI zs a b) = true := by
  obtain ⟨hl, h2, h3⟩ := asB_iff.1 h
  have hne : ∀ i j, i ≠ j → i < n → j < n → zs.getD i 0 ≠ zs.getD j 0 := fun i j hij hi hj e => by
    rcases Nat.lt_or_gt_of_ne hij with h | h
    · exact h3 i j h hj e
    · exact h3 j i h hi e.symm
  refine asB_iff.2 ⟨by rw [swpI_len]; exact hl, fun i hi => ?_, fun i j hij hj => ?_⟩
  · rw [swp_getD hl ha hb]
    apply h2
    split
    · exact ha
    · split <;> omega
  · rw [swp_getD hl ha hb, swp_getD hl ha hb]
    apply hne
    · repeat' split
      all_goals omega
    · repeat' split
      all_goals omega
    · repeat' split
      all_goals omega
theorem swp_swp {zs : List Int} {n a b : Nat} (hl : zs.length = n) (ha : a < n) (hb : b < n) : swpI (swpI zs a b) a b = zs := by
  apply List.ext_getElem
  · rw [swpI_len, swpI_len]
  · intro i h1 h2
    have e := swp_getD (zs := swpI zs a b) (n := n) (by rw [swpI_len]; exact hl) ha hb i
    rw [swp_getD hl ha hb, getD_of h1 rfl] at e
    rw [e]
    have e2 : (if (if i = b then a else if i = a then b else i) = b then a else if (if i = b then a else if i = a then b else i) = a then b else (if i = b then a else if i = a then b else i)) = i := by
      repeat' split
      all_goals omega
    rw [e2]
    exact getD_of h2 rfl
/-- FnPrices: an exchange taken back -/
theorem ss_parts {T : List (List Int)} {zs : List Int} {a b : Int} (h : ssB T zs a b = true) : asT T zs = true ∧ a ≠ b ∧ (0 ≤ a ∧ a.toNat < T.length) ∧ 0 ≤ b ∧ b.toNat < T.length := by
  unfold ssB at h
  simp only [Bool.and_eq_true, Bool.not_eq_true', decide_eq_false_iff_not] at h
  obtain ⟨⟨h1, h2⟩, h3, h4⟩ := h
  have a1 := tsk_bd h3
  have b1 := tsk_bd h4
  exact ⟨h1, h2, ⟨by omega, by omega⟩, by omega, by omega⟩
theorem swap_back {T : List (List Int)} {zs : List Int} {a b : Int} (h : ssB T zs a b = true) : ssB T (swpI zs a.toNat b.toNat) a b = true ∧ ssI T (swpI zs a.toNat b.toNat) a b = - ssI T zs a b := by
  obtain ⟨h1, h2, ⟨a0, a1⟩, b0, b1⟩ := ss_parts h
  obtain ⟨h3, h4⟩ := asT_parts h1 rfl
  have h5 := swp_asB h4 a1 b1
  have h6 : ssB T (swpI zs a.toNat b.toNat) a b = true := by
    unfold ssB asT at h ⊢
    rw [h5]
    simp only [Bool.and_eq_true] at h ⊢
    exact ⟨⟨⟨h.1.1.1, trivial⟩, h.1.2⟩, h.2⟩
  refine ⟨h6, ?_⟩
  unfold ssI
  rw [if_pos h6, if_pos h, swp_swp (asB_parts h4).1 a1 b1]
  omega
/-- rotations -/
abbrev rotI (T : List (List Int)) (zs : List Int) (n : Nat) (s : List Int × Int) : Prop := asB n s.1 = true ∧ s.2 = cstA T zs n - cstA T s.1 n ∧ 0 ≤ s.2
theorem rin_I {T : List (List Int)} {zs : List Int} {n a : Nat} {s : List Int × Int} (hz : asB n zs = true) (ha : a < n) (hs : rotI T zs n s) : ∀ j, j ≤ n - (a + 1) → rotI T zs n (rin T zs n a s j) ∧ s.2 ≤ (rin T zs n a s j).2 ∧ ∀ t, t < j → rsv T zs n a (a + 1 + t) ≤ (rin T zs n a s j).2
  | 0, _ => ⟨hs, Int.le_refl _, fun t ht => absurd ht (Nat.not_lt_zero _)⟩
  | j + 1, hj => by
    obtain ⟨⟨i1, i2, i3⟩, i4, i5⟩ := rin_I hz ha hs j (by omega)
    have hb : a + 1 + j < n := by omega
    unfold rin
    split
    · rename_i hlt
      refine ⟨⟨swp_asB hz ha hb, rfl, ?_⟩, ?_, fun t ht => ?_⟩
      · show 0 ≤ rsv T zs n a (a + 1 + j); omega
      · show s.2 ≤ rsv T zs n a (a + 1 + j); omega
      · show _ ≤ rsv T zs n a (a + 1 + j)
        by_cases e : t = j
        · rw [e]; exact Int.le_refl _
        · have := i5 t (by omega); omega
    · rename_i hlt
      refine ⟨⟨i1, i2, i3⟩, i4, fun t ht => ?_⟩
      by_cases e : t = j
      · rw [e]; omega
      · exact i5 t (by omega)
theorem rot_I {T : List (List Int)} {zs : List Int} {n : Nat} (hz : asB n zs = true) : ∀ a, a ≤ n → rotI T zs n (rot T zs n a) ∧ ∀ c d, c < a → c < d → d < n → rsv T zs n c d ≤ (rot T zs n a).2
  | 0, _ => ⟨⟨hz, by show (0 : Int) = cstA T zs n - cstA T zs n; omega, Int.le_refl _⟩, fun c d h => absurd h (Nat.not_lt_zero _)⟩
  | a + 1, ha => by
    obtain ⟨h1, h2⟩ := rot_I hz a (by omega)
    obtain ⟨h3, h4, h5⟩ := rin_I (s := rot T zs n a) hz (show a < n by omega) h1 (n - (a + 1)) (Nat.le_refl _)
    refine ⟨h3, fun c d hc hcd hd => ?_⟩
    by_cases e : c = a
    · subst e
      have := h5 (d - (c + 1)) (by omega)
      rw [show c + 1 + (d - (c + 1)) = d by omega] at this
      exact this
    · have := h2 c d (by omega) hcd hd
      exact Int.le_trans this h4
theorem swp_comm {zs : List Int} {n a b : Nat} (hl : zs.length = n) (ha : a < n) (hb : b < n) : swpI zs a b = swpI zs b a := by
  apply List.ext_getElem
  · rw [swpI_len, swpI_len]
  · intro i h1 h2
    have e := swp_getD hl ha hb i
    have e2 := swp_getD hl hb ha i
    rw [getD_of h1 rfl] at e
    rw [getD_of h2 rfl] at e2
    rw [e, e2]
    congr 1
    repeat' split
    all_goals omega
/-- FnPrices: what a rotation gives -/
theorem rotate_law {T : List (List Int)} {zs L : List Int} {v : Int} (h : asT T zs = true) (hL : rsL T zs = L) (hv : rsM T zs = v) : asT T L = true ∧ L.length = zs.length ∧ acI T zs - acI T L = v ∧ 0 ≤ v := by
  obtain ⟨h1, h2⟩ := asT_parts h rfl
  unfold rsL at hL
  unfold rsM at hv
  rw [if_pos h] at hL hv
  obtain ⟨⟨i1, i2, i3⟩, _⟩ := rot_I (T := T) h2 T.length (Nat.le_refl _)
  rw [hL] at i1 i2
  rw [hv] at i2 i3
  have h3 : asT T L = true := by simp [asT, h1, i1]
  refine ⟨h3, by rw [(asB_parts i1).1, (asB_parts h2).1], ?_, i3⟩
  unfold acI
  rw [if_pos h, if_pos h3]
  omega
theorem rotate_most {T : List (List Int)} {zs : List Int} {a b v : Int} (h : ssB T zs a b = true) (hv : rsM T zs = v) : ssI T zs a b ≤ v := by
  obtain ⟨h1, h2, ⟨a0, a1⟩, b0, b1⟩ := ss_parts h
  obtain ⟨h3, h4⟩ := asT_parts h1 rfl
  unfold rsM at hv
  rw [if_pos h1] at hv
  obtain ⟨_, i⟩ := rot_I (T := T) h4 T.length (Nat.le_refl _)
  unfold ssI
  rw [if_pos h, ← hv]
  rcases Int.lt_or_gt_of_ne h2 with hlt | hgt
  · exact i a.toNat b.toNat a1 (by omega) b1
  · rw [swp_comm (asB_parts h4).1 a1 b1]
    exact i b.toNat a.toNat b1 (by omega) a1
/-- FnAssignments: the best cannot be rotated for less -/
theorem rotate_best {T : List (List Int)} {L : List Int} {v m : Int} (h : ctB T = true) (hR : caR T = (L, v)) (hm : rsM T L = m) : asT T L = true ∧ acI T L = v ∧ m = 0 := by
  obtain ⟨h1, h2⟩ := caR_att h hR
  obtain ⟨r1, _, r3, r4⟩ := rotate_law h1 rfl hm
  have h3 := caR_min r1 hR
  have e1 : acI T L = v := by unfold acI; rw [if_pos h1]; exact h2
  have e2 : acI T (rsL T L) = cstA T (rsL T L) T.length := by unfold acI; rw [if_pos r1]
  exact ⟨h1, e1, by omega⟩
/-- raised prices -/
theorem rpm_le (xs ts : List Int) : ∀ k j, j < k → rpm xs ts k ≤ xs.getD j 0 - ts.getD j 0
  | k + 1, j, h => by
    show min (rpm xs ts k) (xs.getD k 0 - ts.getD k 0) ≤ _
    by_cases e : j = k
    · subst e; omega
    · have := rpm_le xs ts k j (by omega); omega
theorem rpm_at (xs ts : List Int) : ∀ k, ∃ j, (j < k ∨ j = 0) ∧ rpm xs ts k = xs.getD j 0 - ts.getD j 0
  | 0 => ⟨0, .inr rfl, rfl⟩
  | k + 1 => by
    obtain ⟨j, h1, h2⟩ := rpm_at xs ts k
    by_cases e : rpm xs ts k ≤ xs.getD k 0 - ts.getD k 0
    · refine ⟨j, by omega, ?_⟩
      show min (rpm xs ts k) (xs.getD k 0 - ts.getD k 0) = _
      omega
    · refine ⟨k, by omega, ?_⟩
      show min (rpm xs ts k) (xs.getD k 0 - ts.getD k 0) = _
      omega
theorem rpL_get (T : List (List Int)) (ts : List Int) (n : Nat) : ∀ i j, j < i → (rpL T ts n i).getD j 0 = rpm (row T j) ts n
  | i + 1, j, h => by
    show (rpL T ts n i ++ [rpm (row T i) ts n]).getD j 0 = _
    simp only [List.getD_eq_getElem?_getD]
    by_cases e : j = i
    · subst e
      have hl := rpL_len T ts n j
      rw [List.getElem?_append_right (by omega), hl, Nat.sub_self]; rfl
    · rw [List.getElem?_append_left (by rw [rpL_len]; omega)]
      have := rpL_get T ts n i j (by omega)
      simp only [List.getD_eq_getElem?_getD] at this
      exact this
theorem raise_law {T : List (List Int)} {ts L : List Int} (h : rpB T ts = true) (hL : rpO T ts = L) : fairV T L ts = true ∧ L.length = T.length ∧ (∀ x ∈ L, -100 ≤ x ∧ x ≤ 100) ∧ ∀ a, a < L.length → fairV T (L.set a (L.getD a 0 + 1)) ts = false := by
  unfold rpO at hL
  rw [if_pos h] at hL
  unfold rpB rpA at h
  simp only [Bool.and_eq_true] at h
  obtain ⟨⟨h1, h2⟩, h3⟩ := h
  obtain ⟨n5, n1, _⟩ := ct_sq h1 rfl
  have hl : L.length = T.length := by rw [← hL, rpL_len]
  have hg : ∀ j, j < T.length → L.getD j 0 = rpm (row T j) ts T.length := fun j hj => by rw [← hL]; exact rpL_get _ _ _ _ j hj
  rw [hL] at h3
  have hb : ∀ x ∈ L, -100 ≤ x ∧ x ≤ 100 := fun x hx => by
    unfold prcRow at h3
    simp only [Bool.and_eq_true] at h3
    exact prc_bd (List.all_eq_true.1 h3.2 x hx)
  refine ⟨?_, hl, hb, fun a ha => ?_⟩
  · unfold fairV askB
    rw [h1, h2, h3]
    simp only [Bool.and_self, Bool.true_and]
    unfold frK
    refine List.all_eq_true.2 fun i hi => ?_
    unfold frR
    refine List.all_eq_true.2 fun j hj => ?_
    have hi := List.mem_range.1 hi
    have hj := List.mem_range.1 hj
    unfold frC
    rw [hg i hi]
    have := rpm_le (row T i) ts T.length j hj
    simp only [Bool.not_eq_true', decide_eq_false_iff_not]
    omega
  · obtain ⟨j, hj, e⟩ := rpm_at (row T a) ts T.length
    have hj : j < T.length := by omega
    unfold fairV
    have : frK T (L.set a (L.getD a 0 + 1)) ts T.length T.length = false := by
      refine frK_no (i := a) (j := j) (by omega) hj ?_
      unfold frC
      have e2 : (L.set a (L.getD a 0 + 1)).getD a 0 = L.getD a 0 + 1 := by
        rw [getD_of (show a < (L.set a (L.getD a 0 + 1)).length by simpa using ha) rfl]
        simp
      rw [e2, hg a (by omega), e]
      simp only [Bool.not_eq_false', decide_eq_true_eq]
      omega
    rw [this, Bool.and_false]
end Go.Proofs.Ytallgjobljkgnaa
