/-
  What the draws' walks know of values: small ints, bools, the cursor, boxes and slices of small ints that the walk made itself. Conditions: none.
-/
import Derived.Test.YtcebbmikgpipeaaGreatDoorDR
import Derived.Test.YtcebbmikgpipeaaGreatDoorP
namespace Go.Proofs.YtcebbmikgpipeaaGreatDoor
open Go Go.RowKit
set_option maxRecDepth 100000
set_option maxHeartbeats 4000000

/-- the draws' cursor lies in block g; its text is what came in; what the walk makes lies from base on -/
structure DX where
  g : Nat
  A : Option Addr
  n : Nat
  c : Nat
  cs : List Value
  base : Nat
def sm (u : Value) : Prop := ∃ x : Int, u = .int .i64 x ∧ -9223372036854775808 ≤ x ∧ x ≤ 9223372036854775807
/-- block b holds m cells at least, all of them small ints -/
def Good (w : World) (b : Nat) (t : TypeId) (m : Nat) : Prop := ∃ cur : Array Value, w.heap[b]? = some (.cells cur t (0, 0)) ∧ m ≤ cur.size ∧ ∀ (j : Nat) u, cur[j]? = some u → sm u
inductive Ty where
  | int (lo hi : Int)
  | bool
  | cur
  | box (t : TypeId) (k : Nat)
  | ptr (t : TypeId)
  | agg (k : Nat)
  | sl (t : TypeId) (k lo hi : Nat)
  | any
def den (X : DX) : Ty → Value → World → Prop
  | .int lo hi, v, _ => ∃ x : Int, v = .int .i64 x ∧ lo ≤ x ∧ x ≤ hi
  | .bool, v, _ => ∃ b : Bool, v = .bool b
  | .cur, v, _ => v = .pointer (some ⟨X.g, 0, none⟩)
  | .box t k, v, w => ∃ b, v = .pointer (some ⟨b, 0, none⟩) ∧ X.base ≤ b ∧ b ≠ X.g ∧ Good w b t k
  | .ptr t, v, w => ∃ b o m, v = .pointer (some ⟨b, o, none⟩) ∧ X.base ≤ b ∧ b ≠ X.g ∧ o < m ∧ Good w b t m
  | .agg k, v, _ => ∃ zs : List Int, v = .agg (ints zs).toArray ∧ zs.length = k ∧ ∀ z ∈ zs, -9223372036854775808 ≤ z ∧ z ≤ 9223372036854775807
  | .sl t k lo hi, v, w => ∃ b n c, v = .slice (some ⟨b, 0, none⟩) n c ∧ lo ≤ n ∧ n ≤ hi ∧ n ≤ c ∧ c ≤ maxLen ∧ X.base ≤ b ∧ b ≠ X.g ∧ Good w b t (c * k)
  | .any, _, _ => True
/-- the worlds on the way: what was there before base stays, what is the walk's own stays small ints -/
structure Le (X : DX) (w w' : World) : Prop where
  os : w'.os = w.os
  tape : w'.tape = w.tape
  output : w'.output = w.output
  size : w.heap.size ≤ w'.heap.size
  keep : ∀ b, b < w.heap.size → b < X.base → b ≠ X.g → w'.heap[b]? = w.heap[b]?
  good : ∀ b t m, X.base ≤ b → b ≠ X.g → Good w b t m → Good w' b t m
theorem Le.refl (X : DX) (w : World) : Le X w w := ⟨rfl, rfl, rfl, Nat.le_refl _, fun _ _ _ _ => rfl, fun _ _ _ _ _ h => h⟩
theorem Le.trans {X : DX} {a b c : World} (h : Le X a b) (h' : Le X b c) : Le X a c :=
  ⟨h'.os.trans h.os, h'.tape.trans h.tape, h'.output.trans h.output, Nat.le_trans h.size h'.size, fun k hk hb hg => (h'.keep k (Nat.lt_of_lt_of_le hk h.size) hb hg).trans (h.keep k hk hb hg), fun b t m hb hg hG => h'.good b t m hb hg (h.good b t m hb hg hG)⟩
theorem Good.lt {w : World} {b : Nat} {t : TypeId} {m : Nat} (h : Good w b t m) : b < w.heap.size := by
  obtain ⟨cur, h, _⟩ := h
  exact (Array.getElem?_eq_some_iff.1 h).1
theorem Good.of_eq {w w' : World} {b : Nat} {t : TypeId} {m : Nat} (h : Good w b t m) (e : w'.heap[b]? = w.heap[b]?) : Good w' b t m := by
  obtain ⟨cur, h, r⟩ := h
  exact ⟨cur, e.trans h, r⟩
theorem Good.cell {w : World} {b : Nat} {t : TypeId} {m j : Nat} (h : Good w b t m) (hj : j < m) : ∃ x : Int, w.cell? ⟨b, j, none⟩ = some (.int .i64 x) ∧ -9223372036854775808 ≤ x ∧ x ≤ 9223372036854775807 := by
  obtain ⟨cur, h, hm, hs⟩ := h
  have hlt : j < cur.size := by omega
  obtain ⟨x, e, r⟩ := hs j cur[j] (Array.getElem?_eq_getElem hlt)
  refine ⟨x, ?_, r⟩
  rw [cell_of_row w b j cur t (0, 0) h, Array.getElem?_eq_getElem hlt, e]
theorem Good.frozen {w : World} {b : Nat} {t : TypeId} {m : Nat} (h : Good w b t m) (j : Nat) : w.frozen? ⟨b, j, none⟩ = false := by
  obtain ⟨cur, h, _⟩ := h
  simp [World.frozen?, h]
theorem Good.of_bk {w : World} {b : Nat} {t : TypeId} {zs : List Int} (h : Bk w b t (ints zs)) (hz : ∀ z ∈ zs, -9223372036854775808 ≤ z ∧ z ≤ 9223372036854775807) : Good w b t zs.length := by
  refine ⟨(ints zs).toArray, h, by simp [ints], fun j u hu => ?_⟩
  simp only [List.getElem?_toArray, ints, List.getElem?_map, Option.map_eq_some_iff] at hu
  obtain ⟨x, hx, rfl⟩ := hu
  exact ⟨x, rfl, hz x (List.mem_of_getElem? hx)⟩
theorem Le.grown {X : DX} {w w' : World} (h : w.grownBy w' (some X.g)) : Le X w w' :=
  ⟨h.os, h.tape, h.output, h.size, fun b hb _ hg => h.block b hb (fun e => hg (by cases e; rfl)), fun b t m _ hg hG => hG.of_eq (h.block b hG.lt (fun e => hg (by cases e; rfl)))⟩
theorem Le.toGrown {X : DX} {w w' : World} (h : Le X w w') (hb : w.heap.size ≤ X.base) : w.grownBy w' (some X.g) :=
  ⟨h.os, h.tape, h.output, h.size, fun k hk hne => h.keep k hk (by omega) (fun e => hne (by rw [e]))⟩
theorem Le.alloc (X : DX) (w : World) (o : Obj) : Le X w (w.alloc o) :=
  Le.grown (World.grownBy_alloc w o _)
theorem Le.drew (X : DX) (w : World) : Le X w w.drew := ⟨rfl, rfl, rfl, Nat.le_refl _, fun _ _ _ _ => rfl, fun _ _ _ _ _ h => h⟩
theorem Good.set {w : World} {b b' o : Nat} {t : TypeId} {m : Nat} {u : Value} (h : Good w b t m) (hu : sm u) : Good (w.setCell ⟨b', o, none⟩ u) b t m := by
  by_cases e : b = b'
  · subst e
    obtain ⟨cur, h, hm, hs⟩ := h
    refine ⟨cur.setIfInBounds o u, ?_, by simpa using hm, fun j v hv => ?_⟩
    · simp [World.setCell, Array.getElem?_modify, h]
    · rw [Array.getElem?_setIfInBounds] at hv
      split at hv
      · split at hv
        · cases hv; exact hu
        · cases hv
      · exact hs j v hv
  · exact h.of_eq (Below.heap_setCell w ⟨b', o, none⟩ u b e)
theorem Le.set {X : DX} (w : World) {b o : Nat} {u : Value} (hb : X.base ≤ b) (hu : sm u) : Le X w (w.setCell ⟨b, o, none⟩ u) :=
  ⟨rfl, rfl, rfl, by simp, fun k _ hk _ => Below.heap_setCell w ⟨b, o, none⟩ u k (by show k ≠ b; omega), fun _ _ _ _ _ h => h.set hu⟩
theorem den_mono {X : DX} {w w' : World} (h : Le X w w') : ∀ {τ : Ty} {v : Value}, den X τ v w → den X τ v w'
  | .int _ _, _, hd => hd
  | .bool, _, hd => hd
  | .cur, _, hd => hd
  | .box t k, _, ⟨b, e, hb, hg, hG⟩ => ⟨b, e, hb, hg, h.good b t k hb hg hG⟩
  | .ptr t, _, ⟨b, o, m, e, hb, hg, ho, hG⟩ => ⟨b, o, m, e, hb, hg, ho, h.good b t m hb hg hG⟩
  | .agg _, _, hd => hd
  | .sl t k _ _, _, ⟨b, n, c, e, h1, h2, h3, h4, hb, hg, hG⟩ => ⟨b, n, c, e, h1, h2, h3, h4, hb, hg, h.good b t (c * k) hb hg hG⟩
  | .any, _, _ => trivial
theorem den_stable (X : DX) (τ : Ty) : Stable (Le X) (den X τ) := fun _ _ _ h hd => den_mono h hd
theorem den_base {X : DX} {base : Nat} {w : World} (hb : X.base ≤ base) : ∀ {τ : Ty} {v : Value}, den { X with base := base } τ v w → den X τ v w
  | .int _ _, _, hd => hd
  | .bool, _, hd => hd
  | .cur, _, hd => hd
  | .box _ _, _, ⟨b, e, h1, hg, hG⟩ => ⟨b, e, Nat.le_trans hb h1, hg, hG⟩
  | .ptr _, _, ⟨b, o, m, e, h1, hg, ho, hG⟩ => ⟨b, o, m, e, Nat.le_trans hb h1, hg, ho, hG⟩
  | .agg _, _, hd => hd
  | .sl _ _ _ _, _, ⟨b, n, c, e, h1, h2, h3, h4, h5, hg, hG⟩ => ⟨b, n, c, e, h1, h2, h3, h4, Nat.le_trans hb h5, hg, hG⟩
  | .any, _, _ => trivial
/-- the cursor: it has read at most B bytes -/
structure Cur (w : World) (X : DX) (B : Int) : Prop where
  cur : ∃ a s : Int, Bk w X.g 53 [.slice X.A X.n X.c, .int .i64 a, .int .u64 s] ∧ (0 ≤ a ∧ 0 ≤ s ∧ s < 18446744073709551616) ∧ a ≤ B
  code : Rd w 1 X.A X.n X.cs
  ne : 0 < X.n → ∀ a, X.A = some a → a.block < X.base ∧ a.block ≠ X.g
  byte : ∀ k, k < X.n → ∃ b : Int, X.cs[k]? = some (.int .u8 b) ∧ 0 ≤ b ∧ b ≤ 255
  hn : X.n ≤ 140737488355328
theorem Cur.lt {w : World} {X : DX} {B : Int} (h : Cur w X B) : X.g < w.heap.size := by
  obtain ⟨a, s, hb, _⟩ := h.cur
  exact hb.lt
theorem Cur.le {w : World} {X : DX} {B B' : Int} (h : Cur w X B) (hB : B ≤ B') : Cur w X B' := by
  obtain ⟨⟨a, s, hb, h0, h1⟩, h2, h3, h4, h5⟩ := h
  exact ⟨⟨a, s, hb, h0, by omega⟩, h2, h3, h4, h5⟩
theorem Rd.of_blocks {w w' : World} {k n : Nat} {A : Option Addr} {xs : List Value} (h : Rd w k A n xs) (hs : w.heap.size ≤ w'.heap.size) (he : 0 < n → ∀ a, A = some a → a.block < w.heap.size → w'.heap[a.block]? = w.heap[a.block]?) : Rd w' k A n xs := by
  refine ⟨h.1, fun hn => ?_⟩
  obtain ⟨b, off, e, hb, hc⟩ := h.2 hn
  refine ⟨b, off, e, Nat.lt_of_lt_of_le hb hs, fun j u hu => ?_⟩
  rw [← hc j u hu]
  exact World.cell?_of_block (a := ⟨b, off + j, none⟩) (he hn ⟨b, off, none⟩ e hb)
/-- the cursor is not touched -/
theorem Cur.kept {w w' : World} {X : DX} {B : Int} (h : Cur w X B) (hl : Le X w w') (hg : w'.heap[X.g]? = w.heap[X.g]?) : Cur w' X B := by
  obtain ⟨⟨a, s, hb, h0, h1⟩, h2, h3, h4, h5⟩ := h
  exact ⟨⟨a, s, hg.trans hb, h0, h1⟩, h2.of_blocks hl.size (fun h0 a ha hlt => hl.keep _ hlt (h3 h0 a ha).1 (h3 h0 a ha).2), h3, h4, h5⟩
theorem Cur.alloc {w : World} {X : DX} {B : Int} (h : Cur w X B) (o : Obj) : Cur (w.alloc o) X B := h.kept (Le.alloc X w o) (Below.heap_alloc w o _ h.lt)
theorem Cur.set {w : World} {X : DX} {B : Int} (h : Cur w X B) {b o : Nat} {u : Value} (hb : X.base ≤ b) (hg : b ≠ X.g) (hu : sm u) : Cur (w.setCell ⟨b, o, none⟩ u) X B :=
  h.kept (Le.set w hb hu) (Below.heap_setCell w ⟨b, o, none⟩ u _ (fun e => hg e.symm))
theorem Cur.drew {w : World} {X : DX} {B : Int} (h : Cur w X B) : Cur w.drew X B := h.kept (Le.drew X w) rfl
theorem Cur.rebase {w : World} {X : DX} {B : Int} {b : Nat} (h : Cur w X B) (hb : X.base ≤ b) : Cur w { X with base := b } B :=
  ⟨h.cur, h.code, fun h0 a ha => ⟨Nat.lt_of_lt_of_le (h.ne h0 a ha).1 hb, (h.ne h0 a ha).2⟩, h.byte, h.hn⟩
theorem Cur.unbase {w : World} {X : DX} {B : Int} {b : Nat} (h : Cur w { X with base := b } B) (h' : 0 < X.n → ∀ a, X.A = some a → a.block < X.base ∧ a.block ≠ X.g) : Cur w X B :=
  ⟨h.cur, h.code, h', h.byte, h.hn⟩
/-- what a draw leaves: a value of the kind, the cursor moved on, nothing else written -/
abbrev Drawn (X : DX) (B : Int) (w : World) (τ : Ty) (e : Ending) (w' : World) : Prop := ∃ v, e = .returned v ∧ w.grownBy w' (some X.g) ∧ Cur w' X B ∧ den X τ v w'
theorem sm_int {x : Int} : sm (.int .i64 x) ↔ -9223372036854775808 ≤ x ∧ x ≤ 9223372036854775807 := ⟨fun ⟨_, e, h⟩ => by cases e; exact h, fun h => ⟨x, rfl, h⟩⟩
def smB (u : Value) : Bool := match u with
  | .int .i64 x => decide (-9223372036854775808 ≤ x) && decide (x ≤ 9223372036854775807)
  | _ => false
theorem sm_of {u : Value} (h : smB u = true) : sm u := by
  unfold smB at h
  split at h
  · simp at h; exact ⟨_, rfl, h⟩
  · cases h
theorem Good.lit (w : World) (cells : Array Value) (t : TypeId) {m : Nat} (hm : m ≤ cells.size) (h : ∀ u ∈ cells.toList, sm u) : Good (w.alloc (.cells cells t)) w.heap.size t m :=
  ⟨cells, heap_alloc_new w _, hm, fun j u hu => h u (List.mem_of_getElem? (by simpa using hu))⟩
theorem Good.lit' {w : World} {g : Nat} (hg : w.heap.size = g) {cells : Array Value} {t : TypeId} {m : Nat} (hm : m ≤ cells.size) (h : ∀ u ∈ cells.toList, sm u) : Good (w.alloc (.cells cells t)) g t m := by subst hg; exact Good.lit w cells t hm h
theorem Good.alloc {w : World} {b : Nat} {t : TypeId} {m : Nat} (h : Good w b t m) (o : Obj) : Good (w.alloc o) b t m := h.of_eq (Below.heap_alloc w o b h.lt)
theorem leal {X : DX} {w W : World} (h : Le X w W) (o : Obj) : Le X w (W.alloc o) := h.trans (Le.alloc X W o)
theorem legr {X : DX} {w W w' : World} (h : Le X w W) (hg : W.grownBy w' (some X.g)) : Le X w w' := h.trans (Le.grown hg)
theorem lese {X : DX} {w W : World} {b o : Nat} {u : Value} (h : Le X w W) (hb : X.base ≤ b) (hu : sm u) : Le X w (W.setCell ⟨b, o, none⟩ u) := h.trans (Le.set W hb hu)
theorem good_gr {X : DX} {W w' : World} {b : Nat} {t : TypeId} {m : Nat} (h : Good W b t m) (hb : b ≠ X.g) (hg : W.grownBy w' (some X.g)) : Good w' b t m := h.of_eq (hg.block b h.lt (fun e => hb (by cases e; rfl)))
theorem cur_lt {w : World} {X : DX} {B : Int} (h : Cur w X B) (hX : X.base = w.heap.size) : X.g < X.base := by rw [hX]; exact h.lt
theorem bp_gen {P : Program} {f : Func} {R : Ending → World → Prop} {e : Exit} {a : Act} {w : World} (S : World → Prop) (h1 : S w) (h2 : ∀ w0, S w0 → bodyPost P f R e a w0) : bodyPost P f R e a w := h2 w h1
end Go.Proofs.YtcebbmikgpipeaaGreatDoor
