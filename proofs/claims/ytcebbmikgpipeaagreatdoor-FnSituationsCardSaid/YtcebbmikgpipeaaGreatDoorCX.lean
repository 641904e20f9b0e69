/-
  A cursor newly made over a text that came in. Conditions: the text is no longer than 2^16.
-/
import Derived.Test.YtcebbmikgpipeaaGreatDoorCV
import Derived.Test.YtcebbmikgpipeaaGreatDoorTZ
namespace Go.Proofs.YtcebbmikgpipeaaGreatDoor
open Go Go.RowKit

/-- a text of bytes that came in -/
structure Code (w : World) (A : Option Addr) (n : Nat) (cs : List Value) : Prop where
  rd : Rd w 1 A n cs
  lt : 0 < n → ∀ a, A = some a → a.block < w.heap.size
  byte : ∀ k, k < n → ∃ b : Int, cs[k]? = some (.int .u8 b) ∧ 0 ≤ b ∧ b ≤ 255
  hn : n ≤ 140737488355328
theorem Code.below {w w' : World} {A : Option Addr} {n : Nat} {cs : List Value} (h : Code w A n cs) (hb : Below w.heap.size w w') : Code w' A n cs :=
  ⟨h.rd.below hb, fun h0 a ha => Nat.lt_of_lt_of_le (h.lt h0 a ha) hb.size, h.byte, h.hn⟩
/-- the cursor that is made at block g -/
theorem Cur.made {w W : World} {A : Option Addr} {n c : Nat} {cs : List Value} {g : Nat} (h : Code w A n cs) (hb : Below w.heap.size w W) (hg : W.heap.size = g) :
    Cur (W.alloc (.cells #[.slice A n c, .int .i64 0, .int .u64 0] 53)) ⟨g, A, n, c, cs, g + 1⟩ 0 := by
  have hs := hb.size
  refine ⟨⟨0, 0, Bk.new' hg, ⟨by omega, by omega, by omega⟩, by omega⟩, (h.rd.below hb).below (balloc (Below.refl _ _) _), fun h0 a ha => ?_, h.byte, h.hn⟩
  have := h.lt h0 a ha
  exact ⟨by simp only; omega, by simp only; omega⟩
/-- what a draw has written lies behind what was there -/
theorem below_gr {w W w' : World} {g : Nat} (h : Below w.heap.size w W) (hg : W.grownBy w' (some g)) (hb : w.heap.size ≤ g) : Below w.heap.size w w' :=
  h.grown hg h.size (fun k hk => by cases hk; exact hb)
/-- what lies behind is not touched by a store into a box in front -/
theorem rd_set {w : World} {k n : Nat} {A : Option Addr} {xs : List Value} {b o : Nat} {u : Value} (h : Rd w k A n xs) (hA : ∀ a, A = some a → b < a.block) : Rd (w.setCell ⟨b, o, none⟩ u) k A n xs :=
  h.of_blocks (by simp) (fun _ a ha _ => Below.heap_setCell w ⟨b, o, none⟩ u a.block (by have := hA a ha; simp only; omega))
theorem own_behind {w : World} {base k n n' c : Nat} {t : TypeId} {A : Option Addr} {xs : List Value} (h : w.ownsRow base t k (.slice A n' c) n xs) : ∀ a, A = some a → base ≤ a.block := fun a e => (h.lt a.block (by rw [e]; rfl)).1
end Go.Proofs.YtcebbmikgpipeaaGreatDoor
