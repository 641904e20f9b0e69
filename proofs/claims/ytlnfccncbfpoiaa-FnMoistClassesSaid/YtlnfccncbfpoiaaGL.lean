/-
  What the law of the classes of moisture says, in plain Lean. Conditions: the bounds that stand in each statement.
-/
import Derived.Test.YtlnfccncbfpoiaaY
import Derived.Test.YtlnfccncbfpoiaaZC
import Derived.Test.YtlnfccncbfpoiaaC
namespace Go.Proofs.Ytlnfccncbfpoiaa
open Go.RowKit
set_option maxHeartbeats 1000000

theorem cnt_sum (R : List Int) : ∀ k : Nat, cntA R 0 k + cntA R 1 k + cntA R 2 k + cntA R 3 k = (k : Int)
  | 0 => by simp [cntA]
  | k + 1 => by
    have h := cnt_sum R k
    have hb := classI_bd (R.getD k 0)
    unfold cntA
    obtain ⟨c, hc⟩ : ∃ c, classI (R.getD k 0) = c := ⟨_, rfl⟩
    rw [hc] at hb ⊢
    have : c = 0 ∨ c = 1 ∨ c = 2 ∨ c = 3 := by omega
    rcases this with rfl | rfl | rfl | rfl <;> simp <;> omega
theorem hc_sum {l m : Int} {zs : List AirT} (h : mrB l m zs = true) : sumL (hcL l m zs) = (zs.length : Int) := by
  have := cnt_sum (runA l m zs zs.length) zs.length
  simp only [hcL, h, if_true, hcR, sumL]
  omega
theorem bst_le (R : List Int) : ∀ k j, j < k → R.getD (bst R k) 0 ≤ R.getD j 0
  | 0, j, h => absurd h (by omega)
  | k + 1, j, h => by
    show R.getD (if R.getD k 0 < R.getD (bst R k) 0 then k else bst R k) 0 ≤ R.getD j 0
    by_cases hlt : R.getD k 0 < R.getD (bst R k) 0
    · rw [if_pos hlt]
      by_cases e : j = k
      · subst e; exact Int.le_refl _
      · have := bst_le R k j (by omega); omega
    · rw [if_neg hlt]
      by_cases e : j = k
      · subst e; omega
      · exact bst_le R k j (by omega)
theorem classI_mono {a b : Int} (h : a ≤ b) : classI a ≤ classI b := by unfold classI; repeat' split <;> omega
theorem cnt_pos {R : List Int} {c : Int} : ∀ {k j : Nat}, j < k → classI (R.getD j 0) = c → 1 ≤ cntA R c k
  | 0, j, h, _ => absurd h (by omega)
  | k + 1, j, h, hc => by
    unfold cntA
    have hb := cntA_bd R c k
    by_cases e : j = k
    · subst e; rw [if_pos hc]; omega
    · have := cnt_pos (k := k) (j := j) (by omega) hc
      split <;> omega
theorem cnt_zero {R : List Int} {c : Int} : ∀ {k : Nat}, (∀ j, j < k → classI (R.getD j 0) ≠ c) → cntA R c k = 0
  | 0, _ => rfl
  | k + 1, h => by
    unfold cntA
    rw [if_neg (h k (by omega))]
    exact cnt_zero (fun j hj => h j (by omega))
theorem hcR_getD (R : List Int) (k : Nat) {j : Nat} (hj : j < 4) : (hcR R k).getD j 0 = cntA R (j : Int) k := by
  match j, hj with
  | 0, _ => rfl
  | 1, _ => rfl
  | 2, _ => rfl
  | 3, _ => rfl
theorem class_law {l m M : Int} {zs : List AirT} {L : List Int} (h : dhB l m zs = true) (hM : dhM l m zs = M) (hL : hcL l m zs = L) :
    inB M 0 400 = true ∧ mrB l m zs = true ∧ ∃ j : Nat, classI M = (j : Int) ∧ j < 4 ∧ L.length = 4 ∧ L.getD j 0 ≠ 0 ∧ ∀ i, i < j → L.getD i 0 = 0 := by
  have h' := h
  simp only [dhB, Bool.and_eq_true, decide_eq_true_eq] at h'
  obtain ⟨hq, hpos⟩ := h'
  have hM2 : (runA l m zs zs.length).getD (bst (runA l m zs zs.length) zs.length) 0 = M := by rw [← hM]; simp [dhM, h]
  have hL2 : L = hcR (runA l m zs zs.length) zs.length := by rw [← hL]; simp [hcL, hq]
  have hb := bst_lt (runA l m zs zs.length) zs.length hpos
  have hbed : bedB l m = true := by simp [mrB] at hq; exact hq.1
  have hbd : 0 ≤ M ∧ M ≤ 400 := by
    rw [← hM2]
    have : (runA l m zs zs.length).getD (bst (runA l m zs zs.length) zs.length) 0 = nowA l m zs (bst (runA l m zs zs.length) zs.length + 1) := by
      rw [List.getD_eq_getElem?_getD, List.getElem?_eq_getElem (by rw [runA_len]; exact hb)]
      simp [runA]
    rw [this]
    exact nowA_bd zs (bedB_bd hbed).2 _
  obtain ⟨j, hj, hj4⟩ := class_nat M
  refine ⟨inB_iff.2 hbd, hq, j, hj, hj4, by rw [hL2]; rfl, ?_, ?_⟩
  · rw [hL2, hcR_getD _ _ hj4]
    have := cnt_pos (R := runA l m zs zs.length) (c := (j : Int)) hb (by rw [hM2]; exact hj)
    omega
  · intro i hi
    rw [hL2, hcR_getD _ _ (by omega)]
    refine cnt_zero (fun j' hj' => ?_)
    have := classI_mono (bst_le (runA l m zs zs.length) zs.length j' hj')
    rw [hM2, hj] at this
    omega
theorem sumL_takeD (ps : List Int) : ∀ k, k < ps.length → sumL (ps.take (k + 1)) = sumL (ps.take k) + ps.getD k 0 := by
  intro k hk
  rw [List.take_add_one, sumL_append, List.getD_eq_getElem?_getD, List.getElem?_eq_getElem hk]
  simp [sumL]
theorem mix_between {zs : List FuelbedT} {ps : List Int} {lo hi : Int} (hp : ps.all prtP = true) (hlo : ∀ j, j < zs.length → lo ≤ (zs.getD j (0, 0)).2 ∧ (zs.getD j (0, 0)).2 ≤ hi) : ∀ k, k ≤ zs.length → k ≤ ps.length →
    lo * sumL (ps.take k) ≤ mixS zs ps k ∧ mixS zs ps k ≤ hi * sumL (ps.take k) := by
  intro k
  induction k with
  | zero => intro _ _; simp [sumL, mixS]
  | succ k ih =>
    intro h1 h2
    obtain ⟨a, b⟩ := ih (by omega) (by omega)
    rw [sumL_takeD ps k (by omega)]
    have hpk : 0 ≤ ps.getD k 0 := by
      have := List.all_eq_true.1 hp ps[k] (List.getElem_mem _)
      rw [getD_of (by omega) rfl]
      exact (prt_bd this).1
    obtain ⟨c, d⟩ := hlo k (by omega)
    simp only [mixS]
    have e1 := Int.mul_le_mul_of_nonneg_left c hpk
    have e2 := Int.mul_le_mul_of_nonneg_left d hpk
    rw [Int.mul_add, Int.mul_add, Int.mul_comm lo (ps.getD k 0), Int.mul_comm hi (ps.getD k 0)]
    omega
theorem mix_law {zs : List FuelbedT} {ps : List Int} {lo hi N D : Int} (h : mixOk zs ps = true) (hN : mixN zs ps = N) (hD : mixD zs ps = D) (hlo : ∀ j, j < zs.length → lo ≤ (zs.getD j (0, 0)).2 ∧ (zs.getD j (0, 0)).2 ≤ hi) :
    lo * D ≤ N ∧ N ≤ hi * D := by
  have h' := h
  simp only [mixOk, Bool.and_eq_true, decide_eq_true_eq, Bool.not_eq_true', decide_eq_false_iff_not] at h'
  obtain ⟨⟨_, hlen⟩, ⟨hz, hp⟩, hne⟩ := h'
  obtain ⟨a, b⟩ := mix_between hp hlo zs.length (Nat.le_refl _) (by omega)
  rw [List.take_of_length_le (by omega)] at a b
  have hS := mixS_bd hz hp zs.length (Nat.le_refl _) (by omega)
  have hT := sumL_bd (xs := ps) (B := 100) (by omega) (fun x hx => prt_bd (List.all_eq_true.1 hp x hx))
  obtain ⟨S, hS'⟩ : ∃ S : Nat, mixS zs ps zs.length = (S : Int) := ⟨(mixS zs ps zs.length).toNat, by omega⟩
  obtain ⟨T, hT'⟩ : ∃ T : Nat, sumL ps = (T : Int) := ⟨(sumL ps).toNat, by omega⟩
  have hN2 : N = ((S / Nat.gcd S T : Nat) : Int) := by rw [← hN]; simp [mixN, h, hS', hT']
  have hD2 : D = ((T / Nat.gcd S T : Nat) : Int) := by rw [← hD]; simp [mixD, h, hS', hT']
  have hg : 0 < Nat.gcd S T := Nat.gcd_pos_of_pos_right _ (by omega)
  have e1 : S / Nat.gcd S T * Nat.gcd S T = S := Nat.div_mul_cancel (Nat.gcd_dvd_left _ _)
  have e2 : T / Nat.gcd S T * Nat.gcd S T = T := Nat.div_mul_cancel (Nat.gcd_dvd_right _ _)
  rw [hS', hT'] at a b
  obtain ⟨g, hgv⟩ : ∃ g, Nat.gcd S T = g := ⟨_, rfl⟩
  obtain ⟨s, hs⟩ : ∃ s, S / Nat.gcd S T = s := ⟨_, rfl⟩
  obtain ⟨t, ht⟩ : ∃ t, T / Nat.gcd S T = t := ⟨_, rfl⟩
  rw [hs] at hN2 e1
  rw [ht] at hD2 e2
  rw [hgv] at e1 e2 hg
  have e1' : (S : Int) = (s : Int) * (g : Int) := by rw [← e1]; simp
  have e2' : (T : Int) = (t : Int) * (g : Int) := by rw [← e2]; simp
  have hg' : (0 : Int) < (g : Int) := by omega
  subst hN2 hD2
  constructor
  · refine Int.le_of_mul_le_mul_right ?_ hg'
    rw [Int.mul_assoc, ← e2', ← e1']; exact a
  · refine Int.le_of_mul_le_mul_right ?_ hg'
    rw [Int.mul_assoc, ← e2', ← e1']; exact b
theorem mix_small {zs : List FuelbedT} {ps : List Int} {N D : Int} (h : mixOk zs ps = true) (hN : mixN zs ps = N) (hD : mixD zs ps = D) : 0 ≤ N ∧ N ≤ 240000 ∧ 0 ≤ D ∧ D ≤ 600 ∧ (zs.all bedP = true) ∧ zs.length ≤ 6 := by
  have h' := h
  simp only [mixOk, Bool.and_eq_true, decide_eq_true_eq, Bool.not_eq_true', decide_eq_false_iff_not] at h'
  obtain ⟨⟨hi, hlen⟩, ⟨hz, hp⟩, hne⟩ := h'
  have hi := inB_iff.1 hi
  have hS := mixS_bd hz hp zs.length (Nat.le_refl _) (by omega)
  have hT := sumL_bd (xs := ps) (B := 100) (by omega) (fun x hx => prt_bd (List.all_eq_true.1 hp x hx))
  have a1 := Nat.div_le_self (mixS zs ps zs.length).toNat (Nat.gcd (mixS zs ps zs.length).toNat (sumL ps).toNat)
  have a2 := Nat.div_le_self (sumL ps).toNat (Nat.gcd (mixS zs ps zs.length).toNat (sumL ps).toNat)
  have hN2 : N = (((mixS zs ps zs.length).toNat / Nat.gcd (mixS zs ps zs.length).toNat (sumL ps).toNat : Nat) : Int) := by rw [← hN]; simp [mixN, h]
  have hD2 : D = (((sumL ps).toNat / Nat.gcd (mixS zs ps zs.length).toNat (sumL ps).toNat : Nat) : Int) := by rw [← hD]; simp [mixD, h]
  obtain ⟨u, hu⟩ : ∃ u, (mixS zs ps zs.length).toNat / Nat.gcd (mixS zs ps zs.length).toNat (sumL ps).toNat = u := ⟨_, rfl⟩
  obtain ⟨v, hv⟩ : ∃ v, (sumL ps).toNat / Nat.gcd (mixS zs ps zs.length).toNat (sumL ps).toNat = v := ⟨_, rfl⟩
  rw [hu] at a1 hN2
  rw [hv] at a2 hD2
  clear hu hv
  refine ⟨by omega, by omega, by omega, by omega, hz, by omega⟩
end Go.Proofs.Ytlnfccncbfpoiaa
