/-
  Rows that a draw makes itself, and the cursor beside them. Conditions: none.
-/
import Derived.Test.YtcebbmikgpipeaaGreatDoorTY
namespace Go.Proofs.YtcebbmikgpipeaaGreatDoor
open Go Go.RowKit

theorem gb_refl (w : World) (g : Option Nat) : w.grownBy w g := ⟨rfl, rfl, rfl, Nat.le_refl _, fun _ _ _ => rfl⟩
theorem gb_alloc {w W : World} {g : Option Nat} (h : w.grownBy W g) (o : Obj) : w.grownBy (W.alloc o) g := h.trans (World.grownBy_alloc W o _)
theorem gb_own {w W w' : World} {g : Nat} {t : TypeId} {k n : Nat} {v : Value} {xs : List Value} (h : w.grownBy W (some g)) (hown : W.ownsRow w.heap.size t k v n xs) (hg : W.grownBy w' v.ownBlock) : w.grownBy w' (some g) :=
  ⟨hg.os.trans h.os, hg.tape.trans h.tape, hg.output.trans h.output, Nat.le_trans h.size hg.size, fun i hi hne => (hg.block i (Nat.lt_of_lt_of_le hi h.size) (fun e => by have := (hown.lt i e.symm).1; omega)).trans (h.block i hi hne)⟩
theorem cur_own {W w' : World} {X : DX} {B : Int} {base : Nat} {t : TypeId} {k n : Nat} {v : Value} {xs : List Value} (hC : Cur W X B) (hown : W.ownsRow base t k v n xs) (hgl : X.g < base) (hb0 : X.base ≤ base) (hg : W.grownBy w' v.ownBlock) : Cur w' X B := by
  obtain ⟨⟨a, s, hb, h0, h1⟩, h2, h3, h4, h5⟩ := hC
  have key : ∀ i, i < W.heap.size → i < base → w'.heap[i]? = W.heap[i]? := fun i hi hb => hg.block i hi (fun e => by have := (hown.lt i e.symm).1; omega)
  exact ⟨⟨a, s, (key _ hb.lt hgl).trans hb, h0, h1⟩, h2.of_blocks hg.size (fun h0 a ha hlt => key _ hlt (Nat.lt_of_lt_of_le (h3 h0 a ha).1 hb0)), h3, h4, h5⟩
end Go.Proofs.YtcebbmikgpipeaaGreatDoor
