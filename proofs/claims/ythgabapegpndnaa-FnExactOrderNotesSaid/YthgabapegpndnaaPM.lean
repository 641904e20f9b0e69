/-
  Missing notes as plain lists: what the program collects and sorts, what the reference lists; they are the same. No program in sight.
-/
import Derived.Test.YthgabapegpndnaaJ
import Derived.Test.YthgabapegpndnaaQ
namespace Go.Proofs.Ythgabapegpndnaa
set_option maxRecDepth 100000

/-- a note of that unit with that number stands at place j -/
def isAt (Z : List NoteV) (u s : Int) (j : Nat) : Prop := (nAt Z j).1 = u ∧ (nAt Z j).2.1 = s
def noN (Z : List NoteV) (u s : Int) : Prop := ∀ j, j < Z.length → ¬ isAt Z u s j
noncomputable def noB (Z : List NoteV) (u s : Int) : Bool := @decide (noN Z u s) (Classical.propDecidable _)
theorem noB_iff {Z : List NoteV} {u s : Int} : noB Z u s = true ↔ noN Z u s := by unfold noB; exact @decide_eq_true_iff _ (Classical.propDecidable _)
/-- the first place of such a note, or -1 -/
def isFnd (Z : List NoteV) (u s v : Int) : Prop := (v = -1 ∧ noN Z u s) ∨ ∃ i : Nat, i < Z.length ∧ v = (i : Int) ∧ isAt Z u s i ∧ ∀ j, j < i → ¬ isAt Z u s j
theorem first_at (Z : List NoteV) (u s : Int) : ∀ m, m ≤ Z.length → (∀ j, j < m → ¬ isAt Z u s j) ∨ ∃ i, i < m ∧ isAt Z u s i ∧ ∀ j, j < i → ¬ isAt Z u s j
  | 0, _ => .inl fun j hj => absurd hj (Nat.not_lt_zero _)
  | m + 1, h => by
    rcases first_at Z u s m (by omega) with h1 | ⟨i, h1, h2, h3⟩
    · by_cases h2 : isAt Z u s m
      · exact .inr ⟨m, by omega, h2, h1⟩
      · refine .inl fun j hj => ?_
        by_cases hjm : j < m
        · exact h1 j hjm
        · have : j = m := by omega
          subst this; exact h2
    · exact .inr ⟨i, by omega, h2, h3⟩
theorem fnd_ex (Z : List NoteV) (u s : Int) : ∃ v, isFnd Z u s v := by
  rcases first_at Z u s Z.length (Nat.le_refl _) with h | ⟨i, h1, h2, h3⟩
  · exact ⟨-1, .inl ⟨rfl, h⟩⟩
  · exact ⟨i, .inr ⟨i, h1, rfl, h2, h3⟩⟩
theorem fnd_no {Z : List NoteV} {u s v : Int} (h : isFnd Z u s v) : noB Z u s = decide (v < 0) := by
  rcases h with ⟨rfl, h⟩ | ⟨i, h1, rfl, h2, _⟩
  · rw [noB_iff.2 h]; rfl
  · have h3 : noB Z u s = false := by rw [Bool.eq_false_iff]; exact fun h => noB_iff.1 h i h1 h2
    rw [h3]; simp
section
variable (Z : List NoteV)
noncomputable def mi (acc : List PairT) (u s : Int) : List PairT := if noB Z u s = true ∧ (u, s) ∉ acc then acc ++ [(u, s)] else acc
noncomputable def ms (acc : List PairT) (u : Int) : Nat → List PairT
  | 0 => acc
  | k + 1 => mi Z (ms acc u k) u ((k : Int) + 1)
noncomputable def mu (acc : List PairT) (xs : List Int) : Nat → List PairT
  | 0 => acc
  | j + 1 => ms Z (mu acc xs j) (j : Int) (xs.getD j 0).toNat
noncomputable def mz : Nat → List PairT
  | 0 => []
  | k + 1 => mu Z (mz k) (nAt Z k).2.2.1 (nAt Z k).2.2.1.length
theorem mi_mem (acc : List PairT) (u s : Int) (x : PairT) : x ∈ mi Z acc u s ↔ x ∈ acc ∨ (x = (u, s) ∧ noN Z u s) := by
  unfold mi
  by_cases h : noB Z u s = true ∧ (u, s) ∉ acc
  · rw [if_pos h]
    have h1 := noB_iff.1 h.1
    simp only [List.mem_append, List.mem_singleton]
    exact ⟨fun hx => hx.imp id fun e => ⟨e, h1⟩, fun hx => hx.imp id fun e => e.1⟩
  · rw [if_neg h]
    refine ⟨.inl, fun hx => ?_⟩
    rcases hx with hx | ⟨rfl, h1⟩
    · exact hx
    · by_cases h2 : (u, s) ∈ acc
      · exact h2
      · exact absurd ⟨noB_iff.2 h1, h2⟩ h
theorem mi_nodup (acc : List PairT) (u s : Int) (h : acc.Nodup) : (mi Z acc u s).Nodup := by
  unfold mi
  split
  · rename_i h2
    rw [List.nodup_append]
    exact ⟨h, by simp, fun a ha b hb => by rw [List.mem_singleton] at hb; subst hb; intro e; subst e; exact h2.2 ha⟩
  · exact h
theorem mi_len (acc : List PairT) (u s : Int) : (mi Z acc u s).length ≤ acc.length + 1 := by unfold mi; split <;> simp
theorem ms_mem (acc : List PairT) (u : Int) (x : PairT) : ∀ k, x ∈ ms Z acc u k ↔ x ∈ acc ∨ ∃ s : Nat, 1 ≤ s ∧ s ≤ k ∧ x = (u, (s : Int)) ∧ noN Z u s
  | 0 => by
    unfold ms
    exact ⟨.inl, fun h => h.elim id fun ⟨s, h1, h2, _⟩ => absurd h1 (by omega)⟩
  | k + 1 => by
    unfold ms
    rw [mi_mem, ms_mem acc u x k]
    constructor
    · rintro ((h | ⟨s, h1, h2, h3, h4⟩) | ⟨h1, h2⟩)
      · exact .inl h
      · exact .inr ⟨s, h1, by omega, h3, h4⟩
      · exact .inr ⟨k + 1, by omega, Nat.le_refl _, h1, h2⟩
    · rintro (h | ⟨s, h1, h2, h3, h4⟩)
      · exact .inl (.inl h)
      · by_cases hs : s ≤ k
        · exact .inl (.inr ⟨s, h1, hs, h3, h4⟩)
        · have : s = k + 1 := by omega
          subst this
          exact .inr ⟨h3, h4⟩
theorem ms_nodup (acc : List PairT) (u : Int) (h : acc.Nodup) : ∀ k, (ms Z acc u k).Nodup
  | 0 => h
  | k + 1 => mi_nodup Z _ _ _ (ms_nodup acc u h k)
theorem ms_len (acc : List PairT) (u : Int) : ∀ k, (ms Z acc u k).length ≤ acc.length + k
  | 0 => Nat.le_refl _
  | k + 1 => by have h1 := ms_len acc u k; have h2 := mi_len Z (ms Z acc u k) u ((k : Int) + 1); show (mi Z (ms Z acc u k) u _).length ≤ _; omega
theorem mu_mem (acc : List PairT) (xs : List Int) (x : PairT) : ∀ j, x ∈ mu Z acc xs j ↔ x ∈ acc ∨ ∃ (u s : Nat), u < j ∧ 1 ≤ s ∧ s ≤ (xs.getD u 0).toNat ∧ x = ((u : Int), (s : Int)) ∧ noN Z u s
  | 0 => by
    unfold mu
    exact ⟨.inl, fun h => h.elim id fun ⟨u, s, h1, _⟩ => absurd h1 (by omega)⟩
  | j + 1 => by
    unfold mu
    rw [ms_mem, mu_mem acc xs x j]
    constructor
    · rintro ((h | ⟨u, s, h1, h2, h3, h4, h5⟩) | ⟨s, h1, h2, h3, h4⟩)
      · exact .inl h
      · exact .inr ⟨u, s, by omega, h2, h3, h4, h5⟩
      · exact .inr ⟨j, s, by omega, h1, h2, h3, h4⟩
    · rintro (h | ⟨u, s, h1, h2, h3, h4, h5⟩)
      · exact .inl (.inl h)
      · by_cases hs : u < j
        · exact .inl (.inr ⟨u, s, hs, h2, h3, h4, h5⟩)
        · have : u = j := by omega
          subst this
          exact .inr ⟨s, h2, h3, h4, h5⟩
theorem mu_nodup (acc : List PairT) (xs : List Int) (h : acc.Nodup) : ∀ j, (mu Z acc xs j).Nodup
  | 0 => h
  | j + 1 => ms_nodup Z _ _ (mu_nodup acc xs h j) _
theorem mu_len (acc : List PairT) (xs : List Int) (hx : ∀ x ∈ xs, 0 ≤ x ∧ x ≤ 12) : ∀ j, (mu Z acc xs j).length ≤ acc.length + j * 12
  | 0 => by unfold mu; omega
  | j + 1 => by
    have h1 := mu_len acc xs hx j
    have h2 := ms_len Z (mu Z acc xs j) (j : Int) (xs.getD j 0).toNat
    have h3 : (xs.getD j 0).toNat ≤ 12 := by
      rw [List.getD_eq_getElem?_getD]
      rcases h : xs[j]? with _ | y
      · simp
      · have := hx y (List.mem_of_getElem? h)
        simp; omega
    show (ms Z (mu Z acc xs j) (j : Int) _).length ≤ _
    omega
theorem mz_mem (x : PairT) : ∀ n, x ∈ mz Z n ↔ ∃ (k u s : Nat), k < n ∧ u < (nAt Z k).2.2.1.length ∧ 1 ≤ s ∧ s ≤ ((nAt Z k).2.2.1.getD u 0).toNat ∧ x = ((u : Int), (s : Int)) ∧ noN Z u s
  | 0 => by
    unfold mz
    exact ⟨fun h => absurd h (by simp), fun ⟨k, u, s, h1, _⟩ => absurd h1 (by omega)⟩
  | n + 1 => by
    unfold mz
    rw [mu_mem, mz_mem x n]
    constructor
    · rintro (⟨k, u, s, h1, h2⟩ | ⟨u, s, h1, h2⟩)
      · exact ⟨k, u, s, by omega, h2⟩
      · exact ⟨n, u, s, by omega, h1, h2⟩
    · rintro ⟨k, u, s, h1, h2, h3⟩
      by_cases hs : k < n
      · exact .inl ⟨k, u, s, hs, h2, h3⟩
      · have : k = n := by omega
        subst this
        exact .inr ⟨u, s, h2, h3⟩
theorem mz_nodup : ∀ n, (mz Z n).Nodup
  | 0 => by unfold mz; simp
  | n + 1 => mu_nodup Z _ _ (mz_nodup n) _
end
theorem mz_len {units : Int} {Z : List NoteV} (h : bookB units Z = true) : ∀ n, n ≤ Z.length → (mz Z n).length ≤ n * 48
  | 0, _ => by unfold mz; simp
  | n + 1, hn => by
    have h1 := mz_len h n (by omega)
    have hv := book_val h (k := n) (by omega)
    rcases hz : nAt Z n with ⟨u, s, xs, wd⟩
    have hv2 : nP units (u, s, xs, wd) = true := by rw [← hz]; exact hv
    obtain ⟨e1, e2, _⟩ := nP_bd hv2
    have hu := inB_iff.1 (bookB_iff.1 h).1
    have h2 := mu_len Z (mz Z n) xs e2 xs.length
    show (mu Z (mz Z n) (nAt Z n).2.2.1 (nAt Z n).2.2.1.length).length ≤ _
    rw [hz]
    show (mu Z (mz Z n) xs xs.length).length ≤ _
    omega
/-- the greatest clock of unit u among the first k notes -/
def maxU (Z : List NoteV) (u : Nat) : Nat → Int
  | 0 => 0
  | k + 1 => max (maxU Z u k) ((nAt Z k).2.2.1.getD u 0)
theorem maxU_nonneg (Z : List NoteV) (u : Nat) : ∀ k, 0 ≤ maxU Z u k
  | 0 => Int.le_refl _
  | k + 1 => by have := maxU_nonneg Z u k; show 0 ≤ max (maxU Z u k) _; omega
theorem maxU_ge (Z : List NoteV) (u : Nat) (s : Nat) (hs : 1 ≤ s) : ∀ k, (s : Int) ≤ maxU Z u k ↔ ∃ j, j < k ∧ s ≤ ((nAt Z j).2.2.1.getD u 0).toNat
  | 0 => ⟨fun h => by have : (s : Int) ≤ 0 := h; omega, fun ⟨j, h, _⟩ => absurd h (by omega)⟩
  | k + 1 => by
    have ih := maxU_ge Z u s hs k
    have e : (s : Int) ≤ maxU Z u (k + 1) ↔ (s : Int) ≤ maxU Z u k ∨ (s : Int) ≤ (nAt Z k).2.2.1.getD u 0 := by
      show (s : Int) ≤ max (maxU Z u k) _ ↔ _; omega
    rw [e, ih]
    constructor
    · rintro (⟨j, h1, h2⟩ | h)
      · exact ⟨j, by omega, h2⟩
      · exact ⟨k, by omega, by omega⟩
    · rintro ⟨j, h1, h2⟩
      by_cases hj : j < k
      · exact .inl ⟨j, hj, h2⟩
      · have : j = k := by omega
        subst this
        exact .inr (by omega)
noncomputable def spu (Z : List NoteV) (u k : Nat) : List PairT := ((List.range k).filter fun s : Nat => noB Z u ((s : Int) + 1)).map fun s : Nat => ((u : Int), (s : Int) + 1)
noncomputable def spA (Z : List NoteV) (j : Nat) : List PairT := (List.range j).flatMap fun u => spu Z u (maxU Z u Z.length).toNat
theorem spu_yes {Z : List NoteV} {u k : Nat} (h : noB Z u ((k : Int) + 1) = true) : spu Z u (k + 1) = spu Z u k ++ [((u : Int), (k : Int) + 1)] := by
  unfold spu; rw [List.range_succ, List.filter_append, List.map_append]; simp [h]
theorem spu_no {Z : List NoteV} {u k : Nat} (h : noB Z u ((k : Int) + 1) = false) : spu Z u (k + 1) = spu Z u k := by
  unfold spu; rw [List.range_succ, List.filter_append, List.map_append]; simp [h]
theorem spu_len (Z : List NoteV) (u k : Nat) : (spu Z u k).length ≤ k := by
  unfold spu; rw [List.length_map]; exact Nat.le_trans (List.length_filter_le _ _) (by simp)
theorem spA_succ (Z : List NoteV) (j : Nat) : spA Z (j + 1) = spA Z j ++ spu Z j (maxU Z j Z.length).toNat := by
  unfold spA; rw [List.range_succ, List.flatMap_append]; simp
theorem spu_mem {Z : List NoteV} {u k : Nat} {x : PairT} : x ∈ spu Z u k ↔ ∃ s : Nat, 1 ≤ s ∧ s ≤ k ∧ x = ((u : Int), (s : Int)) ∧ noN Z u s := by
  unfold spu
  simp only [List.mem_map, List.mem_filter, List.mem_range]
  constructor
  · rintro ⟨s, ⟨h1, h2⟩, rfl⟩
    exact ⟨s + 1, by omega, by omega, rfl, noB_iff.1 h2⟩
  · rintro ⟨s, h1, h2, rfl, h3⟩
    refine ⟨s - 1, ⟨by omega, ?_⟩, ?_⟩
    · rw [show ((s - 1 : Nat) : Int) + 1 = (s : Int) from by omega]; exact noB_iff.2 h3
    · rw [show ((s - 1 : Nat) : Int) + 1 = (s : Int) from by omega]
theorem spA_mem {Z : List NoteV} {j : Nat} {x : PairT} : x ∈ spA Z j ↔ ∃ u s : Nat, u < j ∧ 1 ≤ s ∧ (s : Int) ≤ maxU Z u Z.length ∧ x = ((u : Int), (s : Int)) ∧ noN Z u s := by
  unfold spA
  simp only [List.mem_flatMap, List.mem_range, spu_mem]
  constructor
  · rintro ⟨u, h1, s, h2, h3, h4, h5⟩
    exact ⟨u, s, h1, h2, by have := maxU_nonneg Z u Z.length; omega, h4, h5⟩
  · rintro ⟨u, s, h1, h2, h3, h4, h5⟩
    exact ⟨u, h1, s, h2, by omega, h4, h5⟩
def plt (x y : PairT) : Prop := x.1 < y.1 ∨ (x.1 = y.1 ∧ x.2 < y.2)
theorem spu_sorted (Z : List NoteV) (u : Nat) : ∀ k, (spu Z u k).Pairwise plt
  | 0 => by unfold spu; simp
  | k + 1 => by
    have ih := spu_sorted Z u k
    rcases h : noB Z u ((k : Int) + 1) with _ | _
    · rw [spu_no h]; exact ih
    · rw [spu_yes h, List.pairwise_append]
      refine ⟨ih, by simp, fun x hx y hy => ?_⟩
      obtain ⟨s, h1, h2, rfl, _⟩ := spu_mem.1 hx
      rw [List.mem_singleton] at hy
      subst hy
      exact .inr ⟨rfl, by show (s : Int) < (k : Int) + 1; omega⟩
theorem spA_sorted (Z : List NoteV) : ∀ j, (spA Z j).Pairwise plt
  | 0 => by unfold spA; simp
  | j + 1 => by
    rw [spA_succ, List.pairwise_append]
    refine ⟨spA_sorted Z j, spu_sorted Z j _, fun x hx y hy => ?_⟩
    obtain ⟨u, s, h1, h2, h3, rfl, _⟩ := spA_mem.1 hx
    obtain ⟨s2, h4, h5, rfl, _⟩ := spu_mem.1 hy
    exact .inl (by show (u : Int) < (j : Int); omega)
theorem eq_of_strict : ∀ l1 l2 : List PairT, l1.Pairwise plt → l2.Pairwise plt → (∀ x, x ∈ l1 ↔ x ∈ l2) → l1 = l2
  | [], [], _, _, _ => rfl
  | [], b :: l2, _, _, h => absurd ((h b).2 (List.mem_cons_self ..)) (by simp)
  | a :: l1, [], _, _, h => absurd ((h a).1 (List.mem_cons_self ..)) (by simp)
  | a :: l1, b :: l2, h1, h2, h => by
    rw [List.pairwise_cons] at h1 h2
    have hab : a = b := by
      rcases List.mem_cons.1 ((h a).1 (List.mem_cons_self ..)) with e | e
      · exact e
      · rcases List.mem_cons.1 ((h b).2 (List.mem_cons_self ..)) with e2 | e2
        · exact e2.symm
        · have p1 := h2.1 a e
          have p2 := h1.1 b e2
          unfold plt at p1 p2
          omega
    subst hab
    congr 1
    refine eq_of_strict l1 l2 h1.2 h2.2 fun x => ⟨fun hx => ?_, fun hx => ?_⟩
    · rcases List.mem_cons.1 ((h x).1 (List.mem_cons_of_mem _ hx)) with e | e
      · have := h1.1 x hx
        subst e; unfold plt at this; omega
      · exact e
    · rcases List.mem_cons.1 ((h x).2 (List.mem_cons_of_mem _ hx)) with e | e
      · have := h2.1 x hx
        subst e; unfold plt at this; omega
      · exact e
/-- a sorted permutation of what the program collects is what the reference lists -/
theorem miss_same {units : Int} {Z : List NoteV} (h : bookB units Z = true) {ds : List PairT} (hp : ds.Perm (mz Z Z.length)) (hs : ds.Pairwise fun x y => ¬ plt y x) : ds = spA Z units.toNat := by
  have hnd : ds.Nodup := hp.nodup_iff.2 (mz_nodup Z _)
  refine eq_of_strict _ _ ?_ (spA_sorted Z _) fun x => ?_
  · refine (hs.and hnd).imp fun {x y} hxy => ?_
    obtain ⟨h1, h2⟩ := hxy
    obtain ⟨x1, x2⟩ := x
    obtain ⟨y1, y2⟩ := y
    simp only [plt, ne_eq, Prod.mk.injEq] at h1 h2 ⊢
    omega
  · rw [hp.mem_iff, mz_mem, spA_mem]
    constructor
    · rintro ⟨k, u, s, h1, h2, h3, h4, h5, h6⟩
      have hv := book_val h (k := k) h1
      have e1 : ((nAt Z k).2.2.1.length : Int) = units := by
        rcases hz : nAt Z k with ⟨a, b, c, d⟩
        rw [hz] at hv
        exact (nP_bd hv).1
      exact ⟨u, s, by omega, h3, (maxU_ge Z u s h3 _).2 ⟨k, h1, h4⟩, h5, h6⟩
    · rintro ⟨u, s, h1, h2, h3, h4, h5⟩
      obtain ⟨k, hk, h6⟩ := (maxU_ge Z u s h2 _).1 h3
      have hv := book_val h (k := k) hk
      have e1 : ((nAt Z k).2.2.1.length : Int) = units := by
        rcases hz : nAt Z k with ⟨a, b, c, d⟩
        rw [hz] at hv
        exact (nP_bd hv).1
      exact ⟨k, u, s, hk, by omega, h2, h6, h4, h5⟩
end Go.Proofs.Ythgabapegpndnaa
