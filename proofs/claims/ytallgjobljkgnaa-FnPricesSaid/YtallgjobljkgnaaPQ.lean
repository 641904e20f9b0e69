/-
  What FnPrices leans on, in plain Lean, and a made row's cells. Conditions: those that stand in each statement.
-/
import Derived.Test.YtallgjobljkgnaaPD
import Derived.Test.YtallgjobljkgnaaQM
import Derived.Test.YtallgjobljkgnaaCJ
import Derived.Test.YtallgjobljkgnaaRB
namespace Go.Proofs.Ytallgjobljkgnaa
open Go Go.RowKit
set_option maxHeartbeats 1000000

theorem cst_bd {T : List (List Int)} {zs : List Int} (h : asT T zs = true) : 0 ≤ cstA T zs T.length ∧ cstA T zs T.length ≤ 500 := by
  obtain ⟨h1, h2⟩ := asT_parts h rfl
  obtain ⟨h3, h4, _⟩ := asB_parts h2
  have h5 := (ct_sq h1 rfl).1
  have h6 := cstA_bd (ct_cells h1 rfl) h4 T.length (Nat.le_refl _) (by omega)
  omega
theorem swap_law {T : List (List Int)} {zs L : List Int} {a b v m : Int} (h : ssB T zs a b = true) (hv : ssI T zs a b = v) (hL : rsL T zs = L) (hm : rsM T zs = m) :
    asT T zs = true ∧ (∃ i j : Nat, a = (i : Int) ∧ b = (j : Int) ∧ i < zs.length ∧ j < zs.length ∧ ssB T (swpI zs i j) (i : Int) (j : Int) = true ∧ ssI T (swpI zs i j) (i : Int) (j : Int) = -v) ∧ L.length = zs.length ∧ v ≤ m ∧ -1000 ≤ v ∧ v ≤ 1000 := by
  obtain ⟨h1, h2, ⟨a0, a1⟩, b0, b1⟩ := ss_parts h
  obtain ⟨h3, h4⟩ := asT_parts h1 rfl
  have h5 := (asB_parts h4).1
  obtain ⟨h6, h7⟩ := swap_back h
  have h8 := swp_asB h4 a1 b1
  have h9 : asT T (swpI zs a.toNat b.toNat) = true := by
    unfold asT
    rw [h3, h8]; rfl
  have k1 := cst_bd h1
  have k2 := cst_bd h9
  have e : ssI T zs a b = cstA T zs T.length - cstA T (swpI zs a.toNat b.toNat) T.length := by unfold ssI; rw [if_pos h]
  have k3 := rotate_most h hm
  refine ⟨h1, ⟨a.toNat, b.toNat, by omega, by omega, by omega, by omega, ?_, ?_⟩, (rotate_law h1 hL hm).2.1, by omega, by omega, by omega⟩
  · rw [Int.toNat_of_nonneg a0, Int.toNat_of_nonneg b0]; exact h6
  · rw [Int.toNat_of_nonneg a0, Int.toNat_of_nonneg b0, h7, hv]
theorem rotate_parts {T : List (List Int)} {zs L : List Int} {v p p' : Int} (h : asT T zs = true) (hL : rsL T zs = L) (hv : rsM T zs = v) (hp : acI T zs = p) (hp' : acI T L = p') : asT T L = true ∧ v = p - p' ∧ 0 ≤ p - p' ∧ p - p' ≤ 1000 := by
  obtain ⟨h1, h2, h3, h4⟩ := rotate_law h hL hv
  have k1 := cst_bd h
  have k2 := cst_bd h1
  have e1 : acI T zs = cstA T zs T.length := by unfold acI; rw [if_pos h]
  have e2 : acI T L = cstA T L T.length := by unfold acI; rw [if_pos h1]
  refine ⟨h1, by omega, by omega, by omega⟩
theorem getD_mem {zs : List Int} {k : Nat} (h : k < zs.length) : zs.getD k 0 ∈ zs := by
  rw [getD_of h rfl]; exact List.getElem_mem h
theorem own_ci {w : World} {base n b c k : Nat} {x : Int} {zs : List Int} (h : w.ownsRow base 3 1 (.slice (some ⟨b, 0, none⟩) n c) n (ints zs)) (hk : k < n) (hl : zs.length = n) (hx : zs.getD k 0 = x) : w.cell? ⟨b, k, none⟩ = some (.int .i64 x) ∧ b < w.heap.size := by
  obtain ⟨b', off, y, e, h1, h2, h3⟩ := ints_at (own_r h) (Below.refl _ _) hl hk
  cases e
  rw [getD_of (by omega) h2] at hx
  rw [hx] at h3
  rw [Nat.zero_add] at h3
  exact ⟨h3, h1⟩
theorem rd_ci {w : World} {n b off k : Nat} {x : Int} {zs : List Int} (h : Rd w 1 (some ⟨b, off, none⟩) n (ints zs)) (hk : k < n) (hl : zs.length = n) (hx : zs.getD k 0 = x) : w.cell? ⟨b, off + k, none⟩ = some (.int .i64 x) ∧ b < w.heap.size := by
  obtain ⟨b', off', y, e, h1, h2, h3⟩ := ints_at h (Below.refl _ _) hl hk
  cases e
  rw [getD_of (by omega) h2] at hx
  rw [hx] at h3
  exact ⟨h3, h1⟩
end Go.Proofs.Ytallgjobljkgnaa
