/-
  What the law of series says, in plain Lean. Conditions: those that stand in each statement.
-/
import Derived.Test.YtjffhacoijmgiaaZE
namespace Go.Proofs.Ytjffhacoijmgiaa
open Go.RowKit
set_option maxHeartbeats 1000000

theorem add_law {zs L : List SituationT} {a : SituationT} {q : Bool} (hq : addR zs a = q) (hL : addL zs a = L) : q = true → seriesB L = true := by
  intro e
  subst e
  have h2 : seriesB zs = true ∧ seriesB (zs ++ [a]) = true := by simpa [addR] using hq
  rw [← hL]
  simp [addL, hq, h2.2]
theorem hect_mono {zs : List SituationT} (h : seriesB zs = true) (i : Nat) : ∀ j, i + j < zs.length → hectOf zs i ≤ hectOf zs (i + j)
  | 0, _ => Int.le_refl _
  | j + 1, hj => by
    have h1 := hect_mono h i j (by omega)
    have h2 := (((seriesB_iff.1 h).1 (i + j + 1) hj).2 hj (by omega)).2.1
    have e1 : hectOf zs (i + (j + 1)) = (zs[i + j + 1]'hj).2.2.1 := by unfold hectOf; rw [getD_of hj rfl]; rfl
    have e2 : hectOf zs (i + j) = (zs[i + j + 1 - 1]'(by omega)).2.2.1 := by unfold hectOf; rw [getD_of (by omega) rfl]; rfl
    omega
theorem lastH_le {zs : List SituationT} (h : seriesB zs = true) (t : Int) {H : Int} (h0 : 0 ≤ H) : ∀ k, k ≤ zs.length → (∀ j, j < k → hectOf zs j ≤ H) → lastH zs t k ≤ H
  | 0, _, _ => by simpa [lastH] using h0
  | k + 1, hk, hH => by
    have h1 := lastH_le h t h0 k (by omega) (fun j hj => hH j (by omega))
    have h2 := hH k (by omega)
    rw [lastH_step]
    split <;> omega
theorem lastH_mono {zs : List SituationT} (h : seriesB zs = true) {f t : Int} (hft : f ≤ t) : ∀ k, k ≤ zs.length → lastH zs f k ≤ lastH zs t k
  | 0, _ => by simp [lastH]
  | k + 1, hk => by
    have h1 := lastH_mono h hft k (by omega)
    have h2 : lastH zs f k ≤ hectOf zs k := lastH_le h f (hect_bd h (k := k) (by omega)).1 k (by omega) (fun j hj => by
      have := hect_mono h j (k - j) (by omega)
      rwa [show j + (k - j) = k by omega] at this)
    rw [lastH_step, lastH_step]
    split <;> split <;> omega
theorem gb_bd {zs : List SituationT} {x y h k : Int} {q : Bool} (hq : gbB zs x y = q) (hh : gbH zs x y = h) (hk : gbC zs x y = k) : (0 ≤ h ∧ h ≤ 999999) ∧ 0 ≤ k ∧ k ≤ 12 := by
  cases q with
  | false => simp [gbH, gbC, hq] at hh hk; omega
  | true =>
    have h2 : ((seriesB zs = true ∧ inB x 0 9999 = true) ∧ inB y 0 9999 = true) ∧ x ≤ y := by simpa [gbB] using hq
    obtain ⟨⟨⟨hs, hx⟩, hy⟩, hxy⟩ := h2
    simp only [gbH, gbC, hq, if_true] at hh hk
    have h3 := lastH_mono hs hxy zs.length (Nat.le_refl _)
    have h4 := lastH_bd hs x zs.length (Nat.le_refl _)
    have h5 := lastH_bd hs y zs.length (Nat.le_refl _)
    have h6 := cntL_le zs hxy zs.length
    have h7 := cntL_bd zs x zs.length
    have h8 := cntL_bd zs y zs.length
    have h9 := (seriesB_iff.1 hs).2
    omega
theorem gb_law {zs : List SituationT} {x y h k : Int} {q : Bool} (hq : gbB zs x y = q) (hh : gbH zs x y = h) (hk : gbC zs x y = k) : q = true → (0 ≤ x ∧ x ≤ y ∧ y ≤ 9999) ∧ ∀ m, x ≤ m → m ≤ y →
    gbB zs x m = true ∧ gbB zs m y = true ∧ gbH zs x m + gbH zs m y = h ∧ gbC zs x m + gbC zs m y = k := by
  intro e
  subst e
  have h2 : ((seriesB zs = true ∧ inB x 0 9999 = true) ∧ inB y 0 9999 = true) ∧ x ≤ y := by simpa [gbB] using hq
  obtain ⟨⟨⟨hs, hx⟩, hy⟩, hxy⟩ := h2
  have bx := inB_iff.1 hx
  have by_ := inB_iff.1 hy
  refine ⟨by omega, fun m h1 h2 => ?_⟩
  have hm : inB m 0 9999 = true := inB_iff.2 (by omega)
  have q1 : gbB zs x m = true := by simp [gbB, hs, hx, hm, h1]
  have q2 : gbB zs m y = true := by simp [gbB, hs, hy, hm, h2]
  simp only [gbH, gbC, hq, if_true] at hh hk
  refine ⟨q1, q2, ?_, ?_⟩
  · simp only [gbH, q1, q2, if_true]; omega
  · simp only [gbC, q1, q2, if_true]; omega
theorem cor_law {zs L : List SituationT} {a : SituationT} {q : Bool} (hq : corR zs a = q) (hL : corL zs a = L) : q = true → seriesB L = true ∧ L.length = zs.length ∧ ∃ j, ∃ h : j < L.length, L[j] = a := by
  intro e
  subst e
  have h2 : (seriesB zs = true ∧ hasN zs a.1 zs.length = true) ∧ seriesB (rp zs a zs.length) = true := by simpa [corR] using hq
  obtain ⟨⟨_, hn⟩, hs⟩ := h2
  have e : L = rp zs a zs.length := by rw [← hL]; simp [corL, hq]
  subst e
  refine ⟨hs, rp_len _ _ _, ?_⟩
  obtain ⟨j, hj, _, e⟩ := hasN_iff.1 hn
  refine ⟨j, by rw [rp_len]; exact hj, ?_⟩
  simp [rp, putF, e]
end Go.Proofs.Ytjffhacoijmgiaa
