/-
  Regions of the draws that draw their order: everything that was there stays, but the cursor, the result's boxes (small ints all along) and what is new. Conditions: none.
-/
import Derived.Test.YtbioleagenoogaaCX
import Derived.Test.YtbioleagenoogaaDR
namespace Go.Proofs.Ytbioleagenoogaa
open Go Go.RowKit
set_option maxRecDepth 100000
set_option maxHeartbeats 4000000

structure Lx (g : Nat) (S : List Nat) (base : Nat) (w w' : World) : Prop where
  os : w'.os = w.os
  tape : w'.tape = w.tape
  output : w'.output = w.output
  size : w.heap.size ≤ w'.heap.size
  keep : ∀ b, b < w.heap.size → b < base → b ∉ S → b ≠ g → w'.heap[b]? = w.heap[b]?
  good : ∀ b t m, (base ≤ b ∨ b ∈ S) → b ≠ g → Good w b t m → Good w' b t m
theorem Lx.refl (g : Nat) (S : List Nat) (base : Nat) (w : World) : Lx g S base w w := ⟨rfl, rfl, rfl, Nat.le_refl _, fun _ _ _ _ _ => rfl, fun _ _ _ _ _ h => h⟩
theorem Lx.trans {g : Nat} {S : List Nat} {base : Nat} {a b c : World} (h : Lx g S base a b) (h' : Lx g S base b c) : Lx g S base a c :=
  ⟨h'.os.trans h.os, h'.tape.trans h.tape, h'.output.trans h.output, Nat.le_trans h.size h'.size, fun k hk hb hs hg => (h'.keep k (Nat.lt_of_lt_of_le hk h.size) hb hs hg).trans (h.keep k hk hb hs hg), fun b t m hb hg hG => h'.good b t m hb hg (h.good b t m hb hg hG)⟩
theorem Lx.grown {g : Nat} {S : List Nat} {base : Nat} {w w' : World} (h : w.grownBy w' (some g)) : Lx g S base w w' :=
  ⟨h.os, h.tape, h.output, h.size, fun b hb _ _ hg => h.block b hb (fun e => hg (by cases e; rfl)), fun b t m _ hg hG => hG.of_eq (h.block b hG.lt (fun e => hg (by cases e; rfl)))⟩
theorem Lx.alloc (g : Nat) (S : List Nat) (base : Nat) (w : World) (o : Obj) : Lx g S base w (w.alloc o) := Lx.grown (World.grownBy_alloc w o _)
theorem Lx.set {g : Nat} {S : List Nat} {base : Nat} (w : World) {b o : Nat} {u : Value} (hb : b ∈ S) (hu : sm u) : Lx g S base w (w.setCell ⟨b, o, none⟩ u) :=
  ⟨rfl, rfl, rfl, by simp, fun k _ _ hs _ => Below.heap_setCell w ⟨b, o, none⟩ u k (fun e => hs (by rw [show k = b from e]; exact hb)), fun _ _ _ _ _ h => h.set hu⟩
/-- the worlds inside the region: some operations on the way from w0 -/
structure GG (X : DX) (S : List Nat) (w0 : World) (B M : Int) (k : Nat) (w : World) : Prop where
  le : Lx X.g S w0.heap.size w0 w
  cur : Cur w X (B + M * k)
abbrev RV (X : DX) (S : List Nat) (w0 : World) (B M : Int) (k : Nat) (w : World) (R : Fact) : Fact := fun v w' => Lx X.g S w0.heap.size w w' ∧ GG X S w0 B M (k + 1) w' ∧ R v w'
section
variable {X : DX} {S : List Nat} {w0 w w' : World} {B M : Int} {k : Nat} {R : Fact} {v : Value}
theorem step_le (hM : 0 ≤ M) : B + M * (k : Int) ≤ B + M * ((k + 1 : Nat) : Int) := by rw [Int.natCast_add, Int.mul_add]; omega
theorem rv_same (hM : 0 ≤ M) (h : GG X S w0 B M k w) (hd : R v w) : RV X S w0 B M k w R v w := ⟨Lx.refl _ _ _ _, ⟨h.le, h.cur.le (step_le hM)⟩, hd⟩
theorem rv_alloc {o : Obj} (hM : 0 ≤ M) (h : GG X S w0 B M k w) (hd : R v (w.alloc o)) : RV X S w0 B M k w R v (w.alloc o) :=
  ⟨Lx.alloc _ _ _ _ _, ⟨h.le.trans (Lx.alloc _ _ _ _ _), (h.cur.alloc o).le (step_le hM)⟩, hd⟩
theorem rv_call {m : Int} (hm : m ≤ M) (h : GG X S w0 B M k w) (hg : w.grownBy w' (some X.g)) (hc : Cur w' X (B + M * k + m)) (hd : R v w') : RV X S w0 B M k w R v w' :=
  ⟨Lx.grown hg, ⟨h.le.trans (Lx.grown hg), hc.le (by rw [Int.natCast_add, Int.mul_add]; omega)⟩, hd⟩
theorem curL_set {b o : Nat} {u : Value} (h : Cur w X B) (hb : b ≠ X.g) (hA : 0 < X.n → ∀ a, X.A = some a → a.block ≠ b) : Cur (w.setCell ⟨b, o, none⟩ u) X B := by
  obtain ⟨⟨a, s, hK, h0, h1⟩, h2, h3, h4, h5⟩ := h
  exact ⟨⟨a, s, hK.far (by simp only; omega) u, h0, h1⟩, h2.of_blocks (by simp) (fun h0 a ha _ => Below.heap_setCell w ⟨b, o, none⟩ u a.block (hA h0 a ha)), h3, h4, h5⟩
theorem rv_set {b o : Nat} {u : Value} (hM : 0 ≤ M) (h : GG X S w0 B M k w) (hb : b ∈ S) (hg : b ≠ X.g) (hA : 0 < X.n → ∀ a, X.A = some a → a.block ≠ b) (hu : sm u) (hd : R v (w.setCell ⟨b, o, none⟩ u)) : RV X S w0 B M k w R v (w.setCell ⟨b, o, none⟩ u) :=
  ⟨Lx.set w hb hu, ⟨h.le.trans (Lx.set w hb hu), (curL_set h.cur hg hA).le (step_le hM)⟩, hd⟩
theorem gg_set {b o : Nat} {u : Value} (h : GG X S w0 B M k w) (hb : b ∈ S) (hg : b ≠ X.g) (hA : 0 < X.n → ∀ a, X.A = some a → a.block ≠ b) (hu : sm u) : GG X S w0 B M k (w.setCell ⟨b, o, none⟩ u) :=
  ⟨h.le.trans (Lx.set w hb hu), curL_set h.cur hg hA⟩
theorem rv_then {w1 : World} (hl : Lx X.g S w0.heap.size w w1) (h : RV X S w0 B M k w1 R v w') : RV X S w0 B M k w R v w' := ⟨hl.trans h.1, h.2.1, h.2.2⟩
end
theorem keep_bk {X : DX} {S : List Nat} {w0 w : World} {B M : Int} {k b : Nat} {t : TypeId} {cs : List Value} (h : Bk w0 b t cs) (hG : GG X S w0 B M k w) (hS : b ∉ S) (hg : b ≠ X.g) : Bk w b t cs :=
  (hG.le.keep b h.lt h.lt hS hg).trans h
/-- kinds of values -/
def isV (u : Value) : Fact := fun v _ => v = u
def isI (lo hi : Int) : Fact := fun v _ => ∃ x : Int, v = .int .i64 x ∧ lo ≤ x ∧ x ≤ hi
def isB : Fact := fun v _ => ∃ b : Bool, v = .bool b
def isS (g base : Nat) (lo c : Nat) : Fact := fun v w => ∃ b n, v = .slice (some ⟨b, 0, none⟩) n c ∧ lo ≤ n ∧ n ≤ c ∧ base ≤ b ∧ b ≠ g ∧ Good w b 3 c
def isT : Fact := fun _ _ => True
/-- a struct of k small ints -/
def isA (k : Nat) : Fact := fun v _ => ∃ zs : List Int, v = .agg (ints zs).toArray ∧ zs.length = k ∧ ∀ z ∈ zs, -9223372036854775808 ≤ z ∧ z ≤ 9223372036854775807
section
variable {g : Nat} {S : List Nat} {base : Nat}
theorem st_V (u : Value) : Stable (Lx g S base) (isV u) := fun _ _ _ _ h => h
theorem st_I (lo hi : Int) : Stable (Lx g S base) (isI lo hi) := fun _ _ _ _ h => h
theorem st_B : Stable (Lx g S base) isB := fun _ _ _ _ h => h
theorem st_A (k : Nat) : Stable (Lx g S base) (isA k) := fun _ _ _ _ h => h
theorem st_T : Stable (Lx g S base) isT := fun _ _ _ _ h => h
theorem st_S (lo c : Nat) : Stable (Lx g S base) (isS g base lo c) := fun _ _ _ hl ⟨b, n, e, h1, h2, h3, h4, hG⟩ => ⟨b, n, e, h1, h2, h3, h4, hl.good b _ c (.inl h3) h4 hG⟩
end
theorem DP_mk {a : Act} {dst : Option Tmp} {Rv : Fact} {w' : World} {v : Value} (h : Rv v w') : DP a dst Rv .normal (a.put dst v) w' := ⟨rfl, v, rfl, h⟩
end Go.Proofs.Ytbioleagenoogaa
