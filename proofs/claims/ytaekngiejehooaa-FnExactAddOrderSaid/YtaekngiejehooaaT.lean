/-
  Rows of the call's own: read, marked, kept. Conditions: lengths within the bound of a slice.
-/
import Derived.Test.YtaekngiejehooaaS
namespace Go.Proofs.Ytaekngiejehooaa
open Go.RowKit
set_option maxHeartbeats 1000000

theorem own_rd {w : World} {base k n : Nat} {t : TypeId} {v : Value} {xs : List Value} (h : w.ownsRow base t k v n xs) : ∃ A c, v = .slice A n c ∧ Rd w k A n xs ∧ n ≤ maxLen := by
  rcases h.2 with ⟨hv, rfl⟩ | ⟨g, cap, cur, rfl, hb, hg, hnc, hcm, hcs, ht⟩
  · exact ⟨none, 0, hv, ⟨h.1, fun hn => absurd hn (by omega)⟩, Nat.zero_le _⟩
  · refine ⟨some ⟨g, 0, none⟩, cap, rfl, ⟨h.1, fun _ => ⟨g, 0, rfl, (Array.getElem?_eq_some_iff.1 hg).1, fun j u hu => ?_⟩⟩, by omega⟩
    rw [Nat.zero_add, cell_of_row w g j cur t (0, 0) hg]
    rw [← ht, List.getElem?_take] at hu
    split at hu
    · simpa using hu
    · cases hu
/-- an owned row that is not nil, as a block -/
theorem own_bk {w : World} {base k n : Nat} {t : TypeId} {v : Value} {xs : List Value} (h : w.ownsRow base t k v n xs) :
    (v = .slice none 0 0 ∧ n = 0) ∨ ∃ g cap cs, v = .slice (some ⟨g, 0, none⟩) n cap ∧ base ≤ g ∧ Bk w g t cs ∧ n ≤ cap ∧ cap ≤ maxLen ∧ cs.length = cap * k ∧ cs.take (n * k) = xs := by
  rcases h.2 with h0 | ⟨g, cap, cur, rfl, hb, hg, hnc, hcm, hcs, ht⟩
  · exact .inl h0
  · exact .inr ⟨g, cap, cur.toList, rfl, hb, by simpa [Bk] using hg, hnc, hcm, by simpa using hcs, ht⟩
theorem bk_own {w : World} {base k n g cap : Nat} {t : TypeId} {cs xs : List Value} (hb : base ≤ g) (hB : Bk w g t cs) (h1 : n ≤ cap) (h2 : cap ≤ maxLen) (h3 : cs.length = cap * k) (h4 : cs.take (n * k) = xs) :
    w.ownsRow base t k (.slice (some ⟨g, 0, none⟩) n cap) n xs := by
  refine ⟨?_, .inr ⟨g, cap, cs.toArray, rfl, hb, hB, h1, h2, by simpa using h3, by simpa using h4⟩⟩
  rw [← h4, List.length_take, h3]
  exact Nat.min_eq_left (Nat.mul_le_mul_right _ h1)
theorem own_below {w w' : World} {base k n : Nat} {t : TypeId} {v : Value} {xs : List Value} (h : w.ownsRow base t k v n xs) (hb : Below w.heap.size w w') : w'.ownsRow base t k v n xs :=
  h.kept (row := none) ⟨hb.os, hb.tape, hb.output, hb.size, fun i hi _ => hb.block i hi⟩ (by cases hv : v.ownBlock <;> simp)
theorem markIntS_own {A : Option Addr} {n c base : Nat} {t : TypeId} {xs : List Value} {k : Int} {w : World} (h : w.ownsRow base t 1 (.slice A n c) n xs) (hn : n ≤ 140737488355328) (hk : 0 ≤ k ∧ k ≤ 1152921504606846976) :
    Calls Try.prog 33 #[.slice A n c, .int .i64 k] w fun e w' => e = .returned (.int .i64 (k + (n : Int))) ∧ w'.ownsRow base t 1 (.slice A n c) n (ints (marks k n)) ∧ w.grownBy w' (Value.slice A n c).ownBlock := by
  rcases own_bk h with ⟨hv, rfl⟩ | ⟨g, cap, cs, hv, hb, hB, h1, h2, h3, h4⟩
  · simp only [Value.slice.injEq] at hv
    obtain ⟨rfl, _, rfl⟩ := hv
    obtain ⟨k0, k1⟩ := hk
    go_enter Try.func33, Try.ntmps33
    go_wp2
    refine wp_loop_rounds 1 ?_
    rw [rounds_succ]
    go_wp2
    go_ret
    exact ⟨by simp, by simpa [marks, ints] using World.ownsRow_nil w base t 1, World.grownBy.refl w _⟩
  · simp only [Value.slice.injEq] at hv
    obtain ⟨rfl, _, rfl⟩ := hv
    refine (markIntS_any g n c t cs k w hB (by omega) (by omega) hk).mono ?_
    rintro e w' ⟨rfl, hB', hG⟩
    exact ⟨rfl, bk_own hb hB' h1 h2 (by simp [ints, marks]; omega) (by rw [Nat.mul_one, List.take_append_of_le_length (by simp [ints, marks])]; exact List.take_of_length_le (by simp [ints, marks])), hG⟩
end Go.Proofs.Ytaekngiejehooaa
