/-
  CorrectReport of the program and of the reference. Conditions: lengths within the bound of a slice.
-/
import Derived.Test.YtjffhacoijmgiaaZD
namespace Go.Proofs.Ytjffhacoijmgiaa
open Go.RowKit
set_option maxRecDepth 100000
set_option maxHeartbeats 2000000

def putF (a : SituationT) (z : SituationT) : SituationT := if z.1 = a.1 then a else z
/-- the list with the report laid in the place of each of the first k of its number -/
def rp (zs : List SituationT) (a : SituationT) (k : Nat) : List SituationT := (zs.take k).map (putF a) ++ zs.drop k
theorem rp_len (zs : List SituationT) (a : SituationT) (k : Nat) : (rp zs a k).length = zs.length := by simp [rp]; omega
theorem rp_zero (zs : List SituationT) (a : SituationT) : rp zs a 0 = zs := by simp [rp]
theorem rp_at {zs : List SituationT} {a x : SituationT} {k : Nat} (hk : k < zs.length) (hx : zs[k] = x) : rp zs a k = (zs.take k).map (putF a) ++ (x :: zs.drop (k + 1)) := by
  unfold rp; rw [List.drop_eq_getElem_cons hk, hx]
theorem rp_next {zs : List SituationT} {a x : SituationT} {k : Nat} (hk : k < zs.length) (hx : zs[k] = x) : rp zs a (k + 1) = (zs.take k).map (putF a) ++ (putF a x :: zs.drop (k + 1)) := by
  unfold rp; rw [List.take_succ_eq_append_getElem hk, hx]; simp
theorem rp_same {zs : List SituationT} {a x : SituationT} {k : Nat} (hk : k < zs.length) (hx : zs[k] = x) (h : x.1 ≠ a.1) : rp zs a (k + 1) = rp zs a k := by
  rw [rp_at hk hx, rp_next hk hx]; simp [putF, h]
theorem rp_none {zs : List SituationT} {a : SituationT} {k : Nat} : ∀ j, k + j ≤ zs.length → (∀ i (h : i < zs.length), k ≤ i → i < k + j → zs[i].1 ≠ a.1) → rp zs a (k + j) = rp zs a k
  | 0, _, _ => rfl
  | j + 1, hj, h => by
    have h1 := rp_none j (by omega) (fun i hi h2 h3 => h i hi h2 (by omega))
    rw [← h1]
    exact rp_same (k := k + j) (by omega) rfl (h (k + j) (by omega) (by omega) (by omega))
theorem rp_row {zs : List SituationT} {a0 a1 a2 a3 a4 a5 : Int} {x : SituationT} {k : Nat} {rest : List Value} (hk : k < zs.length) (hx : zs[k] = x) (h : x.1 = a0) :
    sets (sitF (rp zs (a0, a1, a2, a3, a4, a5) k) ++ rest) (k * 6) [.int .i64 a0, .int .i64 a1, .int .i64 a2, .int .i64 a3, .int .i64 a4, .int .i64 a5] = sitF (rp zs (a0, a1, a2, a3, a4, a5) (k + 1)) ++ rest := by
  rw [rp_at hk hx, rp_next hk hx]
  have hL : (sitF ((zs.take k).map (putF (a0, a1, a2, a3, a4, a5)))).length = k * 6 := by rw [sitF_len]; simp; omega
  have e1 : ∀ y : SituationT, ∀ l1 l2 : List SituationT, sitF (l1 ++ (y :: l2)) ++ rest = sitF l1 ++ (sitE y ++ (sitF l2 ++ rest)) := fun y l1 l2 => by simp [sitF]
  rw [e1, e1, sets_mid hL (by rfl)]
  simp [putF, h, sitE]
/-- an element of a row whose block is known -/
theorem sit_row {w : World} {g : Nat} {t : TypeId} {ys : List SituationT} {rest : List Value} (hB : Bk w g t (sitF ys ++ rest)) {k : Nat} (hk : k < ys.length) {x0 x1 x2 x3 x4 x5 : Int} (hx : ys[k] = (x0, x1, x2, x3, x4, x5)) :
    w.cell? ⟨g, k * 6, none⟩ = some (.int .i64 x0) ∧ w.cell? ⟨g, k * 6 + 1, none⟩ = some (.int .i64 x1) ∧ w.cell? ⟨g, k * 6 + 2, none⟩ = some (.int .i64 x2) ∧ w.cell? ⟨g, k * 6 + 3, none⟩ = some (.int .i64 x3) ∧ w.cell? ⟨g, k * 6 + 4, none⟩ = some (.int .i64 x4) ∧ w.cell? ⟨g, k * 6 + 5, none⟩ = some (.int .i64 x5) := by
  have hg : ∀ j, j < 6 → w.cell? ⟨g, k * 6 + j, none⟩ = (sitE (x0, x1, x2, x3, x4, x5))[j]? := fun j hj => by
    rw [hB.cell, List.getElem?_append_left (by rw [sitF_len]; omega)]
    rw [← hx]; exact flat_get sitE_len ys k j hk hj
  exact ⟨hg 0 (by omega), hg 1 (by omega), hg 2 (by omega), hg 3 (by omega), hg 4 (by omega), hg 5 (by omega)⟩
noncomputable def hasN (zs : List SituationT) (n : Int) (k : Nat) : Bool := @decide (∃ j, ∃ h : j < zs.length, j < k ∧ zs[j].1 = n) (Classical.propDecidable _)
theorem hasN_iff {zs : List SituationT} {n : Int} {k : Nat} : hasN zs n k = true ↔ ∃ j, ∃ h : j < zs.length, j < k ∧ zs[j].1 = n := by
  unfold hasN; exact @decide_eq_true_iff _ (Classical.propDecidable _)
theorem hasN_zero (zs : List SituationT) (n : Int) : hasN zs n 0 = false := by
  rw [← Bool.not_eq_true, hasN_iff]; rintro ⟨j, h, h2, _⟩; omega
theorem hasN_yes {zs : List SituationT} {n : Int} {k : Nat} (hk : k < zs.length) (h : zs[k].1 = n) : hasN zs n (k + 1) = true := hasN_iff.2 ⟨k, hk, by omega, h⟩
theorem hasN_no {zs : List SituationT} {n : Int} {k : Nat} (hk : k < zs.length) (h : zs[k].1 ≠ n) : hasN zs n (k + 1) = hasN zs n k := by
  rw [Bool.eq_iff_iff, hasN_iff, hasN_iff]
  constructor
  · rintro ⟨j, h1, h2, h3⟩
    by_cases e : j = k
    · subst e; exact absurd h3 h
    · exact ⟨j, h1, by omega, h3⟩
  · rintro ⟨j, h1, h2, h3⟩; exact ⟨j, h1, by omega, h3⟩
/-- the numbers of a series grow -/
theorem num_grow {zs : List SituationT} (h : seriesB zs = true) {i : Nat} : ∀ j (hj : i + 1 + j < zs.length), zs[i].1 < zs[i + 1 + j].1
  | 0, hj => by
    have h1 := ((seriesB_iff.1 h).1 (i + 1) hj).1 hj
    exact h1.2 (by omega)
  | j + 1, hj => by
    have h1 := ((seriesB_iff.1 h).1 (i + 1 + (j + 1)) hj).1 hj
    have h2 := h1.2 (by omega)
    have h3 := num_grow h (i := i) j (by omega)
    have e : zs[i + 1 + (j + 1) - 1]'(by omega) = zs[i + 1 + j] := rfl
    rw [e] at h2
    omega
theorem num_inj {zs : List SituationT} (h : seriesB zs = true) {i j : Nat} (hi : i < zs.length) (hj : j < zs.length) (e : zs[i].1 = zs[j].1) : i = j := by
  rcases Nat.lt_trichotomy i j with h1 | h1 | h1
  · have := num_grow h (i := i) (j - (i + 1)) (by omega)
    have e2 : zs[i + 1 + (j - (i + 1))]'(by omega) = zs[j] := by congr 1; omega
    rw [e2] at this; omega
  · exact h1
  · have := num_grow h (i := j) (i - (j + 1)) (by omega)
    have e2 : zs[j + 1 + (i - (j + 1))]'(by omega) = zs[i] := by congr 1; omega
    rw [e2] at this; omega
/-- behind the one report of the number nothing more changes -/
theorem rp_done {zs : List SituationT} (h : seriesB zs = true) {a : SituationT} {k : Nat} (hk : k < zs.length) (e : zs[k].1 = a.1) : rp zs a (k + 1) = rp zs a zs.length := by
  have h1 := rp_none (zs := zs) (a := a) (k := k + 1) (zs.length - (k + 1)) (by omega) (fun i hi h2 h3 h4 => by
    have := num_inj h hi hk (h4.trans e.symm); omega)
  rw [← h1]; congr 1; omega
noncomputable def corR (zs : List SituationT) (a : SituationT) : Bool := seriesB zs && hasN zs a.1 zs.length && seriesB (rp zs a zs.length)
noncomputable def corL (zs : List SituationT) (a : SituationT) : List SituationT := if corR zs a = true then rp zs a zs.length else []
theorem corL_len (zs : List SituationT) (a : SituationT) : (corL zs a).length ≤ zs.length + 1 := by
  unfold corL
  split
  · rw [rp_len]; omega
  · simp
end Go.Proofs.Ytjffhacoijmgiaa
