/-
  The fewest aircraft, in plain Lean: the reference's sets of bits and the program's subsets by size give the same. Conditions: those that stand in each statement.
-/
import Derived.Test.YtbioleagenoogaaI
import Derived.Test.YtbioleagenoogaaSL
namespace Go.Proofs.Ytbioleagenoogaa
open Go.RowKit
set_option maxHeartbeats 1000000

/-- the subsets of a size, in the order of the program's search -/
def ssL (n : Nat) : Nat → List Nat → Nat → List (List Nat)
  | 0, s, _ => [s]
  | f + 1, s, i0 => (List.range' i0 (n - i0)).flatMap fun i => ssL n f (s ++ [i]) (i + 1)
/-- all subsets, by size -/
def ssA (n : Nat) : List (List Nat) := (List.range (n + 1)).flatMap fun z => ssL n z [] 0
/-- the places of a set of bits -/
def bts (n k : Nat) : List Nat := (List.range n).filter fun i => decide (k / 2 ^ i % 2 = 1)
def lexB : List Nat → List Nat → Bool
  | a :: us, b :: vs => if a = b then lexB us vs else decide (a < b)
  | _, _ => false
def lesB (a b : List Nat) : Bool := if a.length = b.length then lexB a b else decide (a.length < b.length)
theorem lexB_irr : ∀ a, lexB a a = false
  | [] => rfl
  | a :: us => by simp [lexB, lexB_irr us]
theorem lexB_tri : ∀ a b : List Nat, a.length = b.length → a = b ∨ lexB a b = true ∨ lexB b a = true
  | [], [], _ => .inl rfl
  | a :: us, b :: vs, h => by
    by_cases e : a = b
    · subst e
      rcases lexB_tri us vs (by simpa using h) with h | h | h
      · exact .inl (by rw [h])
      · exact .inr (.inl (by simpa [lexB] using h))
      · exact .inr (.inr (by simpa [lexB] using h))
    · right
      have e' : ¬ b = a := fun x => e x.symm
      simp only [lexB, if_neg e, if_neg e', decide_eq_true_eq]
      omega
theorem lexB_trans : ∀ a b c : List Nat, lexB a b = true → lexB b c = true → lexB a c = true
  | a :: us, b :: vs, c :: ws, h1, h2 => by
    by_cases e1 : a = b
    · subst e1
      by_cases e2 : a = c
      · subst e2
        simp only [lexB, if_true] at h1 h2 ⊢
        exact lexB_trans us vs ws h1 h2
      · simpa [lexB, e2] using h2
    · by_cases e2 : b = c
      · subst e2
        simpa [lexB, e1] using h1
      · simp only [lexB, if_neg e1, if_neg e2, decide_eq_true_eq] at h1 h2
        have e3 : ¬ a = c := by omega
        simp only [lexB, if_neg e3, decide_eq_true_eq]
        omega
theorem lesB_irr (a : List Nat) : lesB a a = false := by simp [lesB, lexB_irr]
theorem lesB_tri (a b : List Nat) : a = b ∨ lesB a b = true ∨ lesB b a = true := by
  by_cases e : a.length = b.length
  · rcases lexB_tri a b e with h | h | h
    · exact .inl h
    · exact .inr (.inl (by simpa [lesB, e] using h))
    · exact .inr (.inr (by simpa [lesB, e] using h))
  · right
    have e' : ¬ b.length = a.length := fun x => e x.symm
    simp only [lesB, if_neg e, if_neg e', decide_eq_true_eq]
    omega
theorem lesB_trans {a b c : List Nat} (h1 : lesB a b = true) (h2 : lesB b c = true) : lesB a c = true := by
  by_cases e1 : a.length = b.length
  · by_cases e2 : b.length = c.length
    · simp only [lesB, e1, e2, if_true] at h1 h2 ⊢
      exact lexB_trans a b c h1 h2
    · simp only [lesB, e1, if_true, if_neg e2] at h1 h2 ⊢
      exact h2
  · by_cases e2 : b.length = c.length
    · have e3 : ¬ a.length = c.length := by omega
      simp only [lesB, if_neg e1, if_neg e3, decide_eq_true_eq] at h1 h2 ⊢
      omega
    · simp only [lesB, if_neg e1, if_neg e2, decide_eq_true_eq] at h1 h2
      have e3 : ¬ a.length = c.length := by omega
      simp only [lesB, if_neg e3, decide_eq_true_eq]
      omega
/-- the best set of bits below k -/
def fwS (n : Nat) (gd : List Nat → Bool) : Nat → Option (List Nat)
  | 0 => none
  | k + 1 => if gd (bts n k) = true then
      (match fwS n gd k with
       | none => some (bts n k)
       | some b => if lesB (bts n k) b = true then some (bts n k) else some b)
    else fwS n gd k
theorem fwS_inv (n : Nat) (gd : List Nat → Bool) : ∀ k, (fwS n gd k = none ∧ ∀ j, j < k → gd (bts n j) = false) ∨ ∃ i, i < k ∧ fwS n gd k = some (bts n i) ∧ gd (bts n i) = true ∧ ∀ j, j < k → gd (bts n j) = true → bts n j = bts n i ∨ lesB (bts n i) (bts n j) = true
  | 0 => .inl ⟨rfl, fun j hj => absurd hj (Nat.not_lt_zero _)⟩
  | k + 1 => by
    have ih := fwS_inv n gd k
    by_cases hg : gd (bts n k) = true
    · right
      rcases ih with ⟨h1, h2⟩ | ⟨i, hi, h1, h2, h3⟩
      · refine ⟨k, by omega, by simp [fwS, hg, h1], hg, fun j hj hj2 => ?_⟩
        by_cases e : j = k
        · subst e; exact .inl rfl
        · have := h2 j (by omega); rw [this] at hj2; cases hj2
      · by_cases hl : lesB (bts n k) (bts n i) = true
        · refine ⟨k, by omega, by simp [fwS, hg, h1, hl], hg, fun j hj hj2 => ?_⟩
          by_cases e : j = k
          · subst e; exact .inl rfl
          · rcases h3 j (by omega) hj2 with h | h
            · exact .inr (by rw [h]; exact hl)
            · exact .inr (lesB_trans hl h)
        · refine ⟨i, by omega, by simp [fwS, hg, h1, hl], h2, fun j hj hj2 => ?_⟩
          by_cases e : j = k
          · subst e
            rcases lesB_tri (bts n j) (bts n i) with h | h | h
            · exact .inl h
            · exact absurd h hl
            · exact .inr h
          · exact h3 j (by omega) hj2
    · have e : fwS n gd (k + 1) = fwS n gd k := by simp [fwS, hg]
      rcases ih with ⟨h1, h2⟩ | ⟨i, hi, h1, h2, h3⟩
      · refine .inl ⟨by rw [e]; exact h1, fun j hj => ?_⟩
        by_cases e : j = k
        · subst e; simpa using hg
        · exact h2 j (by omega)
      · refine .inr ⟨i, by omega, by rw [e]; exact h1, h2, fun j hj hj2 => ?_⟩
        by_cases e : j = k
        · subst e; exact absurd hj2 hg
        · exact h3 j (by omega) hj2
def chk (n : Nat) : Bool := (ssA n).all (fun s => ((List.range (2 ^ n)).map (bts n)).contains s) && (((List.range (2 ^ n)).map (bts n)).all (fun s => (ssA n).contains s) && decide ((ssA n).Pairwise (fun a b => lesB a b = true)))
theorem chk_all : ∀ n, n ≤ 6 → chk n = true := by
  intro n hn
  match n, hn with
  | 0, _ => decide +kernel
  | 1, _ => decide +kernel
  | 2, _ => decide +kernel
  | 3, _ => decide +kernel
  | 4, _ => decide +kernel
  | 5, _ => decide +kernel
  | 6, _ => decide +kernel
theorem fw_eq {n : Nat} (hn : n ≤ 6) (gd : List Nat → Bool) : fwS n gd (2 ^ n) = (ssA n).find? gd := by
  have hc := chk_all n hn
  simp only [chk, Bool.and_eq_true, List.all_eq_true, decide_eq_true_eq] at hc
  obtain ⟨h1, h2, h3⟩ := hc
  have q1 : ∀ s, s ∈ ssA n → ∃ j, j < 2 ^ n ∧ bts n j = s := fun s hs => by
    have := h1 s hs
    simpa using this
  have q2 : ∀ j, j < 2 ^ n → bts n j ∈ ssA n := fun j hj => by
    have := h2 (bts n j) (List.mem_map.2 ⟨j, List.mem_range.2 hj, rfl⟩)
    simpa using this
  rcases fwS_inv n gd (2 ^ n) with ⟨e, h⟩ | ⟨i, hi, e, hg, h⟩
  · rw [e]
    symm
    rw [List.find?_eq_none]
    intro s hs
    obtain ⟨j, hj, rfl⟩ := q1 s hs
    simp [h j hj]
  · rw [e]
    cases hf : (ssA n).find? gd with
    | none =>
      have := List.find?_eq_none.1 hf _ (q2 i hi)
      exact absurd hg this
    | some b =>
      obtain ⟨hb, us, vs, hab, has⟩ := List.find?_eq_some_iff_append.1 hf
      have hbm : b ∈ ssA n := by rw [hab]; simp
      obtain ⟨j, hj, rfl⟩ := q1 b hbm
      rcases h j hj hb with h4 | h4
      · rw [h4]
      · exfalso
        have hm := q2 i hi
        rw [hab] at hm h3
        rcases List.mem_append.1 hm with h5 | h5
        · have := has _ h5
          simp [hg] at this
        · rcases List.mem_cons.1 h5 with h5 | h5
          · rw [h5] at h4
            rw [lesB_irr] at h4; cases h4
          · have h6 := (List.pairwise_append.1 h3).2.1
            have h7 := (List.pairwise_cons.1 h6).1 _ h5
            have h8 := lesB_trans h4 h7
            rw [lesB_irr] at h8; cases h8

/-- the sum over a set -/
def tot (f : Nat → Int) : List Nat → Int
  | [] => 0
  | i :: s => f i + tot f s
theorem tot_snoc (f : Nat → Int) : ∀ s i, tot f (s ++ [i]) = tot f s + f i
  | [], i => by simp [tot]
  | a :: s, i => by
    have h := tot_snoc f s i
    simp only [List.cons_append, tot, h]; omega
theorem tot_bd {f : Nat → Int} {M : Int} (hM : 0 ≤ M) : ∀ s : List Nat, (∀ i ∈ s, 0 ≤ f i ∧ f i ≤ M) → 0 ≤ tot f s ∧ tot f s ≤ M * (s.length : Int)
  | [], _ => by simp [tot]
  | a :: s, h => by
    have h1 := tot_bd hM s (fun i hi => h i (List.mem_cons_of_mem _ hi))
    have h2 := h a List.mem_cons_self
    have e : M * ((a :: s).length : Int) = M * (s.length : Int) + M := by
      rw [List.length_cons]; push_cast; rw [Int.mul_add, Int.mul_one]
    rw [e]
    simp only [tot]
    omega
theorem take_snoc {s : List Nat} {k i : Nat} (hk : k < s.length) (h : s[k] = i) : s.take (k + 1) = s.take k ++ [i] := by
  rw [List.take_succ_eq_append_getElem hk, h]
/-- the numbers of a set -/
def nI (s : List Nat) : List Int := s.map fun (i : Nat) => (i : Int)
theorem nI_len (s : List Nat) : (nI s).length = s.length := by simp [nI]
theorem nI_snoc (s : List Nat) (i : Nat) : nI (s ++ [i]) = nI s ++ [(i : Int)] := by simp [nI]
theorem nI_get {s : List Nat} {k : Nat} (hk : k < (nI s).length) {x : Int} (h : (nI s)[k] = x) : ∃ i, s[k]'(by rw [nI_len] at hk; exact hk) = i ∧ x = (i : Int) := ⟨_, rfl, by rw [← h]; simp [nI]⟩
/-- the ids of a set -/
def idL (zs : List AircraftT) (s : List Nat) : List Int := s.map fun i => (zs.getD i ac0).1
theorem idL_len (zs : List AircraftT) (s : List Nat) : (idL zs s).length = s.length := by simp [idL]
theorem idL_snoc (zs : List AircraftT) (s : List Nat) (i : Nat) : idL zs (s ++ [i]) = idL zs s ++ [(zs.getD i ac0).1] := by simp [idL]
def lexI : List Int → List Int → Bool
  | a :: us, b :: vs => if a = b then lexI us vs else decide (a < b)
  | _, _ => false
def lesI (a b : List Int) : Bool := if a.length = b.length then lexI a b else decide (a.length < b.length)
theorem lexI_ids {zs : List AircraftT} {n : Nat} (hr : ∀ i j, i < j → j < n → (zs.getD i ac0).1 < (zs.getD j ac0).1) : ∀ a b : List Nat, (∀ i ∈ a, i < n) → (∀ i ∈ b, i < n) → lexI (idL zs a) (idL zs b) = lexB a b
  | [], [], _, _ => rfl
  | [], _ :: _, _, _ => rfl
  | _ :: _, [], _, _ => rfl
  | a :: us, b :: vs, h1, h2 => by
    have ih := lexI_ids hr us vs (fun i hi => h1 i (List.mem_cons_of_mem _ hi)) (fun i hi => h2 i (List.mem_cons_of_mem _ hi))
    have ha := h1 a List.mem_cons_self
    have hb := h2 b List.mem_cons_self
    show (if (zs.getD a ac0).1 = (zs.getD b ac0).1 then lexI (idL zs us) (idL zs vs) else decide ((zs.getD a ac0).1 < (zs.getD b ac0).1)) = (if a = b then lexB us vs else decide (a < b))
    rcases Nat.lt_trichotomy a b with h | h | h
    · have h3 := hr a b h hb
      rw [if_neg (by omega), if_neg (by omega), decide_eq_true h3, decide_eq_true h]
    · subst h
      rw [if_pos rfl, if_pos rfl, ih]
    · have h3 := hr b a h ha
      rw [if_neg (by omega), if_neg (by omega), decide_eq_false (by omega), decide_eq_false (by omega)]
theorem lesI_ids {zs : List AircraftT} {n : Nat} (hr : ∀ i j, i < j → j < n → (zs.getD i ac0).1 < (zs.getD j ac0).1) (a b : List Nat) (h1 : ∀ i ∈ a, i < n) (h2 : ∀ i ∈ b, i < n) : lesI (idL zs a) (idL zs b) = lesB a b := by
  unfold lesI lesB
  rw [idL_len, idL_len, lexI_ids hr a b h1 h2]
theorem bts_lt {n k : Nat} : ∀ i ∈ bts n k, i < n := fun _ hi => List.mem_range.1 (List.mem_filter.1 hi).1
theorem bts_succ (n k : Nat) : bts (n + 1) k = if k / 2 ^ n % 2 = 1 then bts n k ++ [n] else bts n k := by
  unfold bts
  rw [List.range_succ, List.filter_append]
  by_cases h : k / 2 ^ n % 2 = 1
  · rw [if_pos h]; simp [h]
  · rw [if_neg h]; simp [h]
theorem listed_lt {zs : List AircraftT} (h : listedB zs 6 = true) : ∀ i j, i < j → j < zs.length → (zs.getD i ac0).1 < (zs.getD j ac0).1 := by
  have hs := (listedB_iff.1 h).1
  intro i j
  induction j with
  | zero => intro h; omega
  | succ j ih =>
    intro hij hj
    have h1 := (hs (j + 1) hj hj).2 (by omega)
    have h2 : (zs.getD j ac0).1 < (zs.getD (j + 1) ac0).1 := by
      rw [getD_of (d := ac0) (show j < zs.length by omega) rfl, getD_of (d := ac0) hj rfl]
      exact h1
    rcases Nat.lt_or_ge i j with h3 | h3
    · have := ih h3 (by omega); omega
    · have : i = j := by omega
      subst this; exact h2
noncomputable def ffB (zs : List AircraftT) (wa le ba need : Int) : Bool := (listedB zs 6 && tgB wa le ba) && inB need 0 1000000
noncomputable def lt3 (zs : List AircraftT) (wa le ba : Int) (i : Nat) : Int := ltr wa le ba (zs.getD i ac0)
noncomputable def gdB (zs : List AircraftT) (wa le ba need : Int) (s : List Nat) : Bool := !decide (tot (lt3 zs wa le ba) s < need)
noncomputable def ffR (zs : List AircraftT) (wa le ba need : Int) : Option (List Nat) := if ffB zs wa le ba need = true then (ssA zs.length).find? (gdB zs wa le ba need) else none
/-- what is told of a found set -/
def outL (zs : List AircraftT) : Option (List Nat) → List Int
  | none => []
  | some s => idL zs s
theorem ff_len {zs : List AircraftT} {wa le ba need : Int} (h : ffB zs wa le ba need = true) : zs.length ≤ 6 := by
  simp only [ffB, Bool.and_eq_true] at h
  have := (listedB_iff.1 h.1.1).2
  omega
theorem ff_bits {zs : List AircraftT} {wa le ba need : Int} (h : ffB zs wa le ba need = true) : fwS zs.length (gdB zs wa le ba need) (2 ^ zs.length) = ffR zs wa le ba need := by
  rw [fw_eq (ff_len h)]
  unfold ffR
  rw [if_pos h]
/-- one step of the reference's loop over sets, in the words of its numbers -/
theorem fwS_step {zs : List AircraftT} {gd : List Nat → Bool} {k : Nat} (hl : listedB zs 6 = true) : fwS zs.length gd (k + 1) = if gd (bts zs.length k) = true ∧ (fwS zs.length gd k = none ∨ lesI (idL zs (bts zs.length k)) (outL zs (fwS zs.length gd k)) = true) then some (bts zs.length k) else fwS zs.length gd k := by
  have hh : ∀ b, fwS zs.length gd k = some b → ∃ i, b = bts zs.length i := fun b hb => by
    rcases fwS_inv zs.length gd k with ⟨h1, _⟩ | ⟨i, _, h1, _⟩
    · rw [h1] at hb; cases hb
    · rw [h1] at hb; cases hb; exact ⟨i, rfl⟩
  show (if gd (bts zs.length k) = true then _ else _) = _
  by_cases hg : gd (bts zs.length k) = true
  · rw [if_pos hg]
    cases he : fwS zs.length gd k with
    | none => rw [if_pos ⟨hg, .inl rfl⟩]
    | some b =>
      obtain ⟨i, rfl⟩ := hh b he
      have e := lesI_ids (listed_lt hl) (bts zs.length k) (bts zs.length i) bts_lt bts_lt
      show (if lesB (bts zs.length k) (bts zs.length i) = true then _ else _) = _
      by_cases h : lesB (bts zs.length k) (bts zs.length i) = true
      · rw [if_pos h, if_pos ⟨hg, .inr (by show lesI _ (idL zs _) = true; rw [e]; exact h)⟩]
      · rw [if_neg h, if_neg]
        rintro ⟨_, h2 | h2⟩
        · cases h2
        · rw [show lesI _ (outL zs (some (bts zs.length i))) = _ from e] at h2; exact h h2
  · rw [if_neg hg, if_neg (fun x => hg x.1)]
/-- the search for a set of a size, from a place on -/
def ssP (n f : Nat) (s : List Nat) (k : Nat) : List (List Nat) := (List.range' k (n - k)).flatMap fun i => ssL n f (s ++ [i]) (i + 1)
theorem ssL_succ (n f : Nat) (s : List Nat) (k : Nat) : ssL n (f + 1) s k = ssP n f s k := rfl
theorem ssP_end {n f : Nat} {s : List Nat} {k : Nat} (h : ¬ k < n) : ssP n f s k = [] := by
  unfold ssP
  rw [show n - k = 0 by omega]
  rfl
theorem ssP_step {n f : Nat} {s : List Nat} {k : Nat} (h : k < n) : ssP n f s k = ssL n f (s ++ [k]) (k + 1) ++ ssP n f s (k + 1) := by
  unfold ssP
  rw [show n - k = (n - (k + 1)) + 1 by omega, List.range'_succ, List.flatMap_cons]
theorem ssP_find {n f : Nat} {s : List Nat} {k : Nat} {gd : List Nat → Bool} (h : k < n) : (ssP n f s k).find? gd = ((ssL n f (s ++ [k]) (k + 1)).find? gd).or ((ssP n f s (k + 1)).find? gd) := by
  rw [ssP_step h, List.find?_append]
/-- the sets of sizes z and more -/
def ssZ (n z : Nat) : List (List Nat) := (List.range' z (n + 1 - z)).flatMap fun z => ssL n z [] 0
theorem ssZ_all (n : Nat) : ssZ n 0 = ssA n := by
  unfold ssZ ssA
  rw [List.range_eq_range']
  rfl
theorem ssZ_find {n z : Nat} {gd : List Nat → Bool} (h : z < n + 1) : (ssZ n z).find? gd = ((ssL n z [] 0).find? gd).or ((ssZ n (z + 1)).find? gd) := by
  unfold ssZ
  rw [show n + 1 - z = (n + 1 - (z + 1)) + 1 by omega, List.range'_succ, List.flatMap_cons, List.find?_append]
theorem ssZ_end {n z : Nat} (h : ¬ z < n + 1) : ssZ n z = [] := by
  unfold ssZ
  rw [show n + 1 - z = 0 by omega]
  rfl
end Go.Proofs.Ytbioleagenoogaa
