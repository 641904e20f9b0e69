/-
  The draws: rows of the call's own beside boxes of small ints that are written in regions that draw their order. Conditions: none.
-/
import Derived.Test.YtallgjobljkgnaaDG
import Derived.Test.YtallgjobljkgnaaTZ
import Derived.Maps.AppendAt
namespace Go.Proofs.Ytallgjobljkgnaa
open Go Go.RowKit
set_option maxRecDepth 100000
set_option maxHeartbeats 4000000

theorem wrap64_bd (n : Int) : -9223372036854775808 ≤ wrap64 n ∧ wrap64 n ≤ 9223372036854775807 := by simp only [wrap64]; omega
theorem list2 {zs : List Int} (h : zs.length = 2) : ∃ a b, zs = [a, b] := by
  match zs, h with
  | [a, b], _ => exact ⟨a, b, rfl⟩
theorem list3 {zs : List Int} (h : zs.length = 3) : ∃ a b c, zs = [a, b, c] := by
  match zs, h with
  | [a, b, c], _ => exact ⟨a, b, c, rfl⟩
theorem list5 {zs : List Int} (h : zs.length = 5) : ∃ a b c d e, zs = [a, b, c, d, e] := by
  match zs, h with
  | [a, b, c, d, e], _ => exact ⟨a, b, c, d, e, rfl⟩
theorem list6 {zs : List Int} (h : zs.length = 6) : ∃ a b c d e f, zs = [a, b, c, d, e, f] := by
  match zs, h with
  | [a, b, c, d, e, f], _ => exact ⟨a, b, c, d, e, f, rfl⟩
theorem lx_grown {g : Nat} {S : List Nat} {base : Nat} {w w1 w2 : World} (h : w.grownBy w1 (some g)) (hl : Lx g S base w1 w2) (hS : ∀ b ∈ S, w.heap.size ≤ b) (hb : w.heap.size ≤ base) : w.grownBy w2 (some g) :=
  ⟨hl.os.trans h.os, hl.tape.trans h.tape, hl.output.trans h.output, Nat.le_trans h.size hl.size, fun b hlt hne => (hl.keep b (Nat.lt_of_lt_of_le hlt h.size) (by omega) (fun hm => by have := hS b hm; omega) (fun e => hne (by rw [e]))).trans (h.block b hlt hne)⟩
theorem own_lx {w1 w2 : World} {g base k n : Nat} {S : List Nat} {t : TypeId} {v : Value} {xs : List Value} (h : w1.ownsRow base t k v n xs) (hl : Lx g S w1.heap.size w1 w2) (hS : ∀ b, v.ownBlock = some b → b ∉ S ∧ b ≠ g) : w2.ownsRow base t k v n xs := by
  have hlt := h.lt
  obtain ⟨h1, h2⟩ := h
  refine ⟨h1, ?_⟩
  rcases h2 with h2 | ⟨g', cap, cur, rfl, hbg, hg, hnc, hcm, hcs, ht⟩
  · exact .inl h2
  · obtain ⟨n1, n2⟩ := hS g' rfl
    have h3 := (hlt g' rfl).2
    exact .inr ⟨g', cap, cur, rfl, hbg, (hl.keep g' h3 h3 n1 n2).trans hg, hnc, hcm, hcs, ht⟩
theorem below_lx {g base : Nat} {S : List Nat} {w w1 w2 : World} (h : Below w.heap.size w w1) (hl : Lx g S base w1 w2) (hS : ∀ b ∈ S, w.heap.size ≤ b) (hg : w.heap.size ≤ g) (hb : w.heap.size ≤ base) : Below w.heap.size w w2 :=
  ⟨hl.os.trans h.os, hl.tape.trans h.tape, hl.output.trans h.output, Nat.le_trans h.size hl.size, fun k hk => (hl.keep k (Nat.lt_of_lt_of_le hk h.size) (by omega) (fun hm => by have := hS k hm; omega) (by omega)).trans (h.block k hk)⟩
/-- a store into a box leaves the rows of the call's own -/
theorem own_far {w : World} {base k n b o : Nat} {t : TypeId} {v : Value} {xs : List Value} {u : Value} (h : w.ownsRow base t k v n xs) (hS : ∀ b', v.ownBlock = some b' → b' ≠ b) : (w.setCell ⟨b, o, none⟩ u).ownsRow base t k v n xs := by
  obtain ⟨h1, h2⟩ := h
  refine ⟨h1, ?_⟩
  rcases h2 with h2 | ⟨g', cap, cur, rfl, hbg, hg, hnc, hcm, hcs, ht⟩
  · exact .inl h2
  · exact .inr ⟨g', cap, cur, rfl, hbg, (Below.heap_setCell w ⟨b, o, none⟩ u g' (hS g' rfl)).trans hg, hnc, hcm, hcs, ht⟩
theorem gb_set {w W : World} {g : Option Nat} {b o : Nat} {u : Value} (h : w.grownBy W g) (hb : w.heap.size ≤ b) : w.grownBy (W.setCell ⟨b, o, none⟩ u) g :=
  ⟨h.os, h.tape, h.output, by simpa using h.size, fun i hi hne => (Below.heap_setCell W ⟨b, o, none⟩ u i (by show i ≠ b; omega)).trans (h.block i hi hne)⟩
/-- what a call has grown leaves a box of small ints that is not the row -/
theorem good_own {W w' : World} {b : Nat} {t : TypeId} {m : Nat} {r : Option Nat} (h : Good W b t m) (hg : W.grownBy w' r) (hne : some b ≠ r) : Good w' b t m := h.of_eq (hg.block b h.lt hne)
theorem own_ne {w : World} {base k n : Nat} {t : TypeId} {v : Value} {xs : List Value} {g : Nat} (h : w.ownsRow base t k v n xs) (hg : g < base) : ∀ b, v.ownBlock = some b → b ≠ g := fun b e => by have := (h.lt b e).1; omega
end Go.Proofs.Ytallgjobljkgnaa
