/-
  What the law of the sorties says, in plain Lean. Conditions: the bounds that stand in each statement.
-/
import Derived.Test.YtbioleagenoogaaFG
import Derived.Test.YtbioleagenoogaaE
namespace Go.Proofs.Ytbioleagenoogaa
open Go.RowKit
set_option maxHeartbeats 1000000

theorem md_all (i l s f fi wa le ba : Int) : ∃ N : Nat, N ≤ 600 ∧ (acB i l s f fi = true → tgB wa le ba = true → MD s f fi wa le ba N) := by
  by_cases h : acB i l s f fi = true ∧ tgB wa le ba = true
  · obtain ⟨g1, g2, g3, g4, g5⟩ := acB_bd h.1
    obtain ⟨g6, g7, g8⟩ := tgB_bd h.2
    obtain ⟨N, hN⟩ := MD_ex g3 g4 g5 g6 g7 g8
    exact ⟨N, hN.1, fun _ _ => hN⟩
  · exact ⟨0, by omega, fun a b => absurd ⟨a, b⟩ h⟩
theorem asked_two {p q : Bool} (h : (p && q) = true) : p = true ∧ q = true := by simpa using h
theorem sm_le {i l s f fi wa le ba n v : Int} {N : Nat} {q : Bool} (hN : acB i l s f fi = true → tgB wa le ba = true → MD s f fi wa le ba N) (hn : mdI i l s f fi wa le ba N = n) (hq : soB i l s f fi wa le ba n = q) (hv : soI i l s f fi wa le ba n = v) : q = true → v ≤ f := by
  intro h
  subst h
  have h' := hq
  simp only [soB, Bool.and_eq_true] at h'
  obtain ⟨⟨ha, ht⟩, hk⟩ := h'
  have hk := inB_iff.1 hk
  have e : n = (N : Int) := by rw [← hn]; simp [mdI, ha, ht]
  obtain ⟨_, _, h3⟩ := hN ha ht
  have := h3 (N - 1) (by omega)
  rw [← hv]
  simp only [soI, hq, if_true]
  rw [e]
  have e2 : (((N - 1 : Nat) : Int) + 1) = (N : Int) := by omega
  rw [e2] at this
  exact this
theorem sm_gt {i l s f fi wa le ba n v : Int} {N : Nat} {q : Bool} (hN : acB i l s f fi = true → tgB wa le ba = true → MD s f fi wa le ba N) (hn : mdI i l s f fi wa le ba N = n) (hq : soB i l s f fi wa le ba (n + 1) = q) (hv : soI i l s f fi wa le ba (n + 1) = v) : q = true → f < v := by
  intro h
  subst h
  have h' := hq
  simp only [soB, Bool.and_eq_true] at h'
  obtain ⟨⟨ha, ht⟩, hk⟩ := h'
  have e : n = (N : Int) := by rw [← hn]; simp [mdI, ha, ht]
  obtain ⟨_, h2, _⟩ := hN ha ht
  rw [← hv]
  simp only [soI, hq, if_true]
  rw [e]
  exact h2
theorem dml_get (s fi wa le : Int) : ∀ j k, k < j → (dml s fi wa le j).getD k 0 = drp s fi wa le ((k : Int) + 1)
  | 0, k, h => absurd h (by omega)
  | j + 1, k, h => by
    rw [dml, List.getD_eq_getElem?_getD]
    by_cases e : k < j
    · rw [List.getElem?_append_left (by rw [dml_len]; exact e), ← List.getD_eq_getElem?_getD]
      exact dml_get s fi wa le j k e
    · have ek : k = j := by omega
      subst ek
      rw [List.getElem?_append_right (by rw [dml_len]; exact Nat.le_refl _), dml_len]
      simp
theorem drp_next (s fi wa le k : Int) : drp s fi wa le (k + 1) = drp s fi wa le k + fi + mn s le + mn s le := by
  unfold drp
  have e : k + 1 - 1 = k - 1 + 1 := by omega
  rw [e, Int.add_mul, Int.add_mul]
  omega
theorem dm_facts {i l s f fi wa le ba : Int} {N : Nat} {L : List Int} (hN : acB i l s f fi = true → tgB wa le ba = true → MD s f fi wa le ba N) (hL : dmL i l s f fi wa le ba N = L) {k : Nat} (hk : k < L.length) :
    (acB i l s f fi && tgB wa le ba) = true ∧ L.getD k 0 < f ∧ k < N ∧ (0 < k → L.getD (k - 1) 0 < L.getD k 0) := by
  subst hL
  by_cases hq : (acB i l s f fi && tgB wa le ba) = true
  · obtain ⟨ha, ht⟩ := asked_two hq
    obtain ⟨g1, g2, g3, g4, g5⟩ := acB_bd ha
    obtain ⟨g6, g7, g8⟩ := tgB_bd ht
    obtain ⟨_, _, h3⟩ := hN ha ht
    have e : dmL i l s f fi wa le ba N = dml s fi wa le (min 20 N) := by simp [dmL, hq]
    rw [e] at hk ⊢
    rw [dml_len] at hk
    have hkN : k < N := by omega
    have h4 := h3 k hkN
    have hb := (mn_bd g3 g8).1
    rw [dml_get _ _ _ _ _ _ hk]
    refine ⟨hq, by unfold srt at h4; omega, hkN, fun h0 => ?_⟩
    rw [dml_get _ _ _ _ _ _ (by omega)]
    have hm := (mn_bd g3 g7).1
    have hx := drp_next s fi wa le (((k - 1 : Nat) : Int) + 1)
    have e2 : (((k - 1 : Nat) : Int) + 1 + 1) = (k : Int) + 1 := by omega
    rw [e2] at hx
    omega
  · have e : dmL i l s f fi wa le ba N = [] := by simp [dmL, hq]
    rw [e] at hk
    simp at hk
theorem far_is {s f fi wa ba : Int} : ∀ k : Nat, 0 < farI s f fi wa ba k → srt s fi wa (farI s f fi wa ba k) ba 1 ≤ f ∧ ∀ j : Nat, farI s f fi wa ba k < (j : Int) → j ≤ k → ¬ srt s fi wa (j : Int) ba 1 ≤ f
  | 0, h => by simp [farI] at h
  | k + 1, h => by
    by_cases hg : srt s fi wa ((k : Int) + 1) ba 1 ≤ f
    · rw [farI_go hg]
      exact ⟨hg, fun j hj hk => by omega⟩
    · rw [farI_no hg] at h ⊢
      obtain ⟨h1, h2⟩ := far_is k h
      refine ⟨h1, fun j hj hk => ?_⟩
      by_cases e : j = k + 1
      · subst e
        have : ((k + 1 : Nat) : Int) = (k : Int) + 1 := by omega
        rw [this]; exact hg
      · exact h2 j hj (by omega)
theorem far_law {i l s f fi wa le ba v : Int} {q : Bool} (hq : flB i l s f fi wa le ba = q) (hv : flI i l s f fi wa le ba = v) : q = true →
    (acB i l s f fi = true ∧ tgB wa le ba = true ∧ 1 ≤ v ∧ v ≤ 400 ∧ tgB wa v ba = true ∧ srt s fi wa v ba 1 ≤ f ∧ (tgB wa (v + 1) ba = true → f < srt s fi wa (v + 1) ba 1)) := by
  intro h
  subst h
  simp only [flB, Bool.and_eq_true, decide_eq_true_eq] at hq
  obtain ⟨⟨ha, ht⟩, hpos⟩ := hq
  have e : v = farI s f fi wa ba 400 := by rw [← hv]; simp [flI, ha, ht]
  have hb := farI_bd s f fi wa ba 400
  obtain ⟨h1, h2⟩ := far_is 400 hpos
  rw [← e] at h1 h2 hpos hb
  obtain ⟨g6, g7, g8⟩ := tgB_bd ht
  refine ⟨ha, ht, by omega, by omega, ?_, h1, fun h3 => ?_⟩
  · simp only [tgB, Bool.and_eq_true]
    exact ⟨inB_iff.2 g6, inB_iff.2 ⟨by omega, by omega⟩, inB_iff.2 g8⟩
  · obtain ⟨_, g7', _⟩ := tgB_bd h3
    have := h2 (v + 1).toNat (by omega) (by omega)
    rw [show (((v + 1).toNat : Nat) : Int) = v + 1 by omega] at this
    omega
theorem md_pos {i l s f fi wa le ba n : Int} {N : Nat} (hN : acB i l s f fi = true → tgB wa le ba = true → MD s f fi wa le ba N) (hn : mdI i l s f fi wa le ba N = n) (ha : acB i l s f fi = true) (ht : tgB wa le ba = true) (h : srt s fi wa le ba 1 ≤ f) : 1 ≤ n := by
  have e : n = (N : Int) := by rw [← hn]; simp [mdI, ha, ht]
  obtain ⟨_, h2, _⟩ := hN ha ht
  by_cases e0 : N = 0
  · subst e0
    have : srt s fi wa le ba (((0 : Nat) : Int) + 1) = srt s fi wa le ba 1 := rfl
    rw [this] at h2
    omega
  · omega
theorem md_zero {i l s f fi wa le ba n : Int} {N : Nat} (hN : acB i l s f fi = true → tgB wa le ba = true → MD s f fi wa le ba N) (hn : mdI i l s f fi wa le ba N = n) (ha : acB i l s f fi = true) (ht : tgB wa le ba = true) (h : f < srt s fi wa le ba 1) : n = 0 := by
  have e : n = (N : Int) := by rw [← hn]; simp [mdI, ha, ht]
  obtain ⟨_, _, h3⟩ := hN ha ht
  by_cases e0 : N = 0
  · omega
  · have := h3 0 (by omega)
    have e2 : srt s fi wa le ba (((0 : Nat) : Int) + 1) = srt s fi wa le ba 1 := rfl
    rw [e2] at this
    omega
theorem mdI_bd (i l s f fi wa le ba : Int) {N : Nat} (h : N ≤ 600) : 0 ≤ mdI i l s f fi wa le ba N ∧ mdI i l s f fi wa le ba N ≤ 600 := by
  unfold mdI
  split <;> omega
theorem mdI_is {i l s f fi wa le ba n : Int} {N : Nat} (hn : mdI i l s f fi wa le ba N = n) (h : (acB i l s f fi && tgB wa le ba) = true) : n = (N : Int) := by rw [← hn]; simp only [mdI, h, if_true]
end Go.Proofs.Ytbioleagenoogaa
