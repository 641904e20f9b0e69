/-
  Rows of the call's own: read, marked, kept. Conditions: lengths within the bound of a slice.
-/
import Derived.Test.YtcebbmikgpipeaaGreatDoorS
namespace Go.Proofs.YtcebbmikgpipeaaGreatDoor
open Go.RowKit
set_option maxHeartbeats 1000000

theorem own_rd {w : World} {base k n : Nat} {t : TypeId} {v : Value} {xs : List Value} (h : w.ownsRow base t k v n xs) : ∃ A c, v = .slice A n c ∧ Rd w k A n xs ∧ n ≤ maxLen := by
  rcases h.2 with ⟨hv, rfl⟩ | ⟨g, cap, cur, rfl, hb, hg, hnc, hcm, hcs, ht⟩
  · exact ⟨none, 0, hv, ⟨h.1, fun hn => absurd hn (by omega)⟩, Nat.zero_le _⟩
  · refine ⟨some ⟨g, 0, none⟩, cap, rfl, ⟨h.1, fun _ => ⟨g, 0, rfl, (Array.getElem?_eq_some_iff.1 hg).1, fun j u hu => ?_⟩⟩, by omega⟩
    rw [Nat.zero_add, cell_of_row w g j cur t (0, 0) hg]
    rw [← ht, List.getElem?_take] at hu
    split at hu
    · simpa using hu
    · cases hu
/-- an owned row that is not nil, as a block -/
theorem own_bk {w : World} {base k n : Nat} {t : TypeId} {v : Value} {xs : List Value} (h : w.ownsRow base t k v n xs) :
    (v = .slice none 0 0 ∧ n = 0) ∨ ∃ g cap cs, v = .slice (some ⟨g, 0, none⟩) n cap ∧ base ≤ g ∧ Bk w g t cs ∧ n ≤ cap ∧ cap ≤ maxLen ∧ cs.length = cap * k ∧ cs.take (n * k) = xs := by
  rcases h.2 with h0 | ⟨g, cap, cur, rfl, hb, hg, hnc, hcm, hcs, ht⟩
  · exact .inl h0
  · exact .inr ⟨g, cap, cur.toList, rfl, hb, by simpa [Bk] using hg, hnc, hcm, by simpa using hcs, ht⟩
theorem bk_own {w : World} {base k n g cap : Nat} {t : TypeId} {cs xs : List Value} (hb : base ≤ g) (hB : Bk w g t cs) (h1 : n ≤ cap) (h2 : cap ≤ maxLen) (h3 : cs.length = cap * k) (h4 : cs.take (n * k) = xs) :
    w.ownsRow base t k (.slice (some ⟨g, 0, none⟩) n cap) n xs := by
  refine ⟨?_, .inr ⟨g, cap, cs.toArray, rfl, hb, hB, h1, h2, by simpa using h3, by simpa using h4⟩⟩
  rw [← h4, List.length_take, h3]
  exact Nat.min_eq_left (Nat.mul_le_mul_right _ h1)
theorem own_below {w w' : World} {base k n : Nat} {t : TypeId} {v : Value} {xs : List Value} (h : w.ownsRow base t k v n xs) (hb : Below w.heap.size w w') : w'.ownsRow base t k v n xs :=
  h.kept (row := none) ⟨hb.os, hb.tape, hb.output, hb.size, fun i hi _ => hb.block i hi⟩ (by cases hv : v.ownBlock <;> simp)
end Go.Proofs.YtcebbmikgpipeaaGreatDoor
