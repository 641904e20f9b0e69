/-
  FnExactAfterHour, walked. Conditions: none.
-/
import Derived.Test.YtlnfccncbfpoiaaC
import Derived.Deep.RegionHeld3
import Derived.Deep.DeepCutAuto
namespace Go.Proofs.Ytlnfccncbfpoiaa
open Go.RowKit
set_option maxRecDepth 100000
set_option maxHeartbeats 1000000

/-- a block of int cells, known whole -/
structure Blk (w : World) (g : Nat) (t : TypeId) (cs : List Value) : Prop where
  lt : g < w.heap.size
  at_ : w.heap[g]? = some (.cells cs.toArray t (0, 0))
theorem Blk.new (w : World) (t : TypeId) (cs : List Value) : Blk (w.alloc (.cells cs.toArray t)) w.heap.size t cs := ⟨by simp, heap_alloc_new w _⟩
theorem Blk.alloc {w : World} {g : Nat} {t : TypeId} {cs : List Value} (h : Blk w g t cs) (o : Obj) : Blk (w.alloc o) g t cs := ⟨Nat.lt_of_lt_of_le h.lt (by simp), (Below.heap_alloc w o g h.lt).trans h.at_⟩
theorem Blk.below {w w' : World} {B g : Nat} {t : TypeId} {cs : List Value} (h : Blk w g t cs) (hb : Below B w w') (_hB : B ≤ w.heap.size) (hg : g < B) : Blk w' g t cs := ⟨by have := hb.size; have := h.lt; omega, (hb.block g hg).trans h.at_⟩
theorem Blk.cell {w : World} {g : Nat} {t : TypeId} {cs : List Value} (h : Blk w g t cs) (i : Nat) : w.cell? ⟨g, i, none⟩ = cs[i]? := by
  rw [cell_of_row w g i cs.toArray t (0, 0) h.at_]; simp
theorem Blk.frozen {w : World} {g : Nat} {t : TypeId} {cs : List Value} (h : Blk w g t cs) (i : Nat) : w.frozen? ⟨g, i, none⟩ = false := by
  have := h.at_
  simp [World.frozen?, this]
/-- the block made last, kept by a call -/
theorem Blk.n {w w' : World} {t : TypeId} {a b : Value} (hb : Below (w.alloc (.cells #[a, b] t)).heap.size (w.alloc (.cells #[a, b] t)) w') : Blk w' w.heap.size t [a, b] :=
  (Blk.new w t [a, b]).below hb (Nat.le_refl _) (by simp)
theorem Blk.nd {w w' : World} {t : TypeId} {a b : Value} (hb : Below (w.alloc (.cells #[a, b] t)).drew.heap.size (w.alloc (.cells #[a, b] t)).drew w') : Blk w' w.heap.size t [a, b] :=
  (show Blk (w.alloc (.cells #[a, b] t)).drew w.heap.size t [a, b] from ⟨(Blk.new w t [a, b]).lt, (Blk.new w t [a, b]).at_⟩).below hb (Nat.le_refl _) (by simp)
theorem Blk.k {w w' : World} {g : Nat} {t : TypeId} {a b : Value} (h : Blk w g t [a, b]) (hb : Below w.heap.size w w') : Blk w' g t [a, b] := h.below hb (Nat.le_refl _) h.lt
theorem Blk.two {w : World} {g : Nat} {t : TypeId} {a b : Value} (h : Blk w g t [a, b]) : w.cell? ⟨g, 0, none⟩ = some a ∧ w.cell? ⟨g, 1, none⟩ = some b ∧ w.frozen? ⟨g, 0, none⟩ = false ∧ w.frozen? ⟨g, 1, none⟩ = false ∧ g < w.heap.size := ⟨h.cell 0, h.cell 1, h.frozen 0, h.frozen 1, h.lt⟩
theorem Blk.three {w : World} {g : Nat} {t : TypeId} {a b c : Value} (h : Blk w g t [a, b, c]) : w.cell? ⟨g, 0, none⟩ = some a ∧ w.cell? ⟨g, 1, none⟩ = some b ∧ w.cell? ⟨g, 2, none⟩ = some c ∧ g < w.heap.size := ⟨h.cell 0, h.cell 1, h.cell 2, h.lt⟩
theorem Blk.set2 {w : World} {g : Nat} {t : TypeId} {a b u v : Value} (h : Blk w g t [a, b]) : Blk ((w.setCell ⟨g, 0, none⟩ u).setCell ⟨g, 1, none⟩ v) g t [u, v] := by
  refine ⟨by simpa using h.lt, ?_⟩
  have := h.at_
  simp [World.setCell, Array.getElem?_modify, this]
end Go.Proofs.Ytlnfccncbfpoiaa
