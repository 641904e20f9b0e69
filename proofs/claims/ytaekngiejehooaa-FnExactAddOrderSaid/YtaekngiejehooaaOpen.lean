/-
  How the arguments of a law are opened: what a reading of a value says of its cells, for ints, strings, slices and structs with fields of one cell, over any program. Conditions: none.
-/
import Derived.WalkKit
import Derived.ProofKit
import Derived.Deep.Slices
import Derived.Deep.Fields
import Derived.Deep.Draws
import Derived.Deep.QuietTactic
import Derived.BigQuiet
import Derived.IntWalk
import Derived.Handy
import Derived.WalkLawsBesides
import Derived.WalkSpells
import Derived.Laws.NewBlocks
import Derived.Laws.AppendOwnNone
import Derived.Laws.CopyOwn
import Derived.Deep.AppendLies
import Derived.Deep.DeepFit
import Derived.Deep.RegionLaw
import Derived.Deep.CutBlock
import Derived.Deep.CutRange
import Derived.Deep.DeepCutAuto
import Derived.Deep.Cut
import Derived.Deep.RegionHeld3
import Derived.Deep.LoopGhost
import Derived.RegionTactic
import Derived.Deep.RegionWith
namespace Go.Proofs.Ytaekngiejehooaa
open Go.RowKit Go.ChangeShapes Go.WideShapes Go.Deep

/-- the slice '.slice A n c' holds the cells xs, k cells an element -/
def Rd (w : World) (k : Nat) (A : Option Addr) (n : Nat) (xs : List Value) : Prop :=
  xs.length = n * k ∧ (0 < n → ∃ b off, A = some ⟨b, off, none⟩ ∧ b < w.heap.size ∧ ∀ j u, xs[j]? = some u → w.cell? ⟨b, off + j, none⟩ = some u)

def I64 (n : Int) : Prop := -9223372036854775808 ≤ n ∧ n ≤ 9223372036854775807
theorem i64_of_wf {n : Int} (h : (Lit.int .i64 n).wf = true) : I64 n := by
  have hh : IntKind.i64.min ≤ n ∧ n ≤ IntKind.i64.max := by simpa [Lit.wf] using h
  exact hh

@[simp, go_sem] theorem ltp3 (n : Nat) : n < n + 1 + 1 + 1 := by omega
@[simp, go_sem] theorem ltp4 (n : Nat) : n < n + 1 + 1 + 1 + 1 := by omega
@[simp, go_sem] theorem ltp5 (n : Nat) : n < n + 1 + 1 + 1 + 1 + 1 := by omega
@[simp, go_sem] theorem ltp6 (n : Nat) : n < n + 1 + 1 + 1 + 1 + 1 + 1 := by omega
@[simp, go_sem] theorem ltp7 (n : Nat) : n < n + 1 + 1 + 1 + 1 + 1 + 1 + 1 := by omega
@[simp, go_sem] theorem ltp8 (n : Nat) : n < n + 1 + 1 + 1 + 1 + 1 + 1 + 1 + 1 := by omega
@[simp, go_sem] theorem ltp9 (n : Nat) : n < n + 1 + 1 + 1 + 1 + 1 + 1 + 1 + 1 + 1 := by omega
@[go_sem ↓] theorem stored_some {P : Program} {w : World} {a : Addr} {v : Value} {m : Mode} (h : (w.cell? a).isSome = true) (hf : w.frozen? a = false) : stored P w a v m = .ok () (w.setCell a v) := by
  obtain ⟨u, hu⟩ := Option.isSome_iff_exists.1 h
  simp [stored, hu, hf]
theorem bcell {W w1 : World} (hb : Below W.heap.size W w1) : (∀ b o, b < W.heap.size → w1.cell? ⟨b, o, none⟩ = W.cell? ⟨b, o, none⟩) ∧ (∀ b o, b < W.heap.size → w1.frozen? ⟨b, o, none⟩ = W.frozen? ⟨b, o, none⟩) :=
  ⟨fun b o h => hb.cell (p := ⟨b, o, none⟩) h, fun b o h => hb.frozen (p := ⟨b, o, none⟩) h⟩
theorem bstep {w W w' : World} (h : Below w.heap.size w W) (hb : Below W.heap.size W w') : Below w.heap.size w w' := h.trans (hb.mono h.size)
theorem balloc {w W : World} (h : Below w.heap.size w W) (o : Obj) : Below w.heap.size w (W.alloc o) := h.alloc h.size o
theorem bdrew {w W : World} (h : Below w.heap.size w W) : Below w.heap.size w W.drew := h.drew
theorem bdrewN {w W : World} (h : Below w.heap.size w W) (n : Nat) : Below w.heap.size w (W.drewN n) := ⟨h.os, h.tape, h.output, h.size, h.block⟩
theorem bset {w W : World} (h : Below w.heap.size w W) {p : Addr} (hp : w.heap.size ≤ p.block) (u : Value) : Below w.heap.size w (W.setCell p u) := h.setCell hp u
theorem bsize {W w1 : World} (hb : Below W.heap.size W w1) : ∀ b, b < W.heap.size → b < w1.heap.size := fun _ h => Nat.lt_of_lt_of_le h hb.size

/-- how far a world is from W0 that keeps all that W0 has: so many draws, these new blocks -/
structure BG where
  d : Nat
  os : Array Obj
instance : Inhabited BG := ⟨⟨0, #[]⟩⟩
def bel (W0 : World) (p : BG) : World := { W0 with heap := W0.heap ++ p.os, drawn := p.d }
theorem heap_bel (W0 : World) (p : BG) {k : Nat} (h : k < W0.heap.size) : (bel W0 p).heap[k]? = W0.heap[k]? := by simp [bel, Array.getElem?_append, h]
@[simp, go_sem] theorem cell_bel (W0 : World) (p : BG) (a : Addr) (h : a.block < W0.heap.size) : (bel W0 p).cell? a = W0.cell? a := by simp only [World.cell?, heap_bel W0 p h]
@[simp, go_sem] theorem frozen_bel (W0 : World) (p : BG) (a : Addr) (h : a.block < W0.heap.size) : (bel W0 p).frozen? a = W0.frozen? a := by simp only [World.frozen?, heap_bel W0 p h]
theorem below_bel (W0 : World) (p : BG) : Below W0.heap.size W0 (bel W0 p) := ⟨rfl, rfl, rfl, by simp [bel], fun _ hk => heap_bel W0 p hk⟩
theorem bel_of {W0 w : World} (h : Below W0.heap.size W0 w) : ∃ p : BG, w = bel W0 p := by
  refine ⟨⟨w.drawn, w.heap.extract W0.heap.size w.heap.size⟩, ?_⟩
  have hh : w.heap = W0.heap ++ w.heap.extract W0.heap.size w.heap.size := by
    apply Array.ext_getElem?
    intro k
    rw [Array.getElem?_append]
    split
    · rename_i hk; exact h.block k hk
    · rename_i hk
      rw [Array.getElem?_extract]
      have hs := h.size
      by_cases hk2 : k < w.heap.size
      · rw [if_pos (by omega)]
        congr 1; omega
      · rw [if_neg (by omega), Array.getElem?_eq_none (by omega)]
  obtain ⟨h1, h2, h3, h4, h5⟩ := w
  have e1 := h.os
  have e2 := h.tape
  have e3 := h.output
  simp only at e1 e2 e3 hh
  unfold bel
  simp only [World.mk.injEq]
  exact ⟨hh, e2, trivial, e1, e3⟩
theorem calls_bel {P : Program} {f : FuncId} {args : Array Value} {W0 : World} {p : BG} {v : Value}
    (h : Calls P f args (bel W0 p) fun e w' => e = .returned v ∧ Below (bel W0 p).heap.size (bel W0 p) w') : Calls P f args (bel W0 p) fun e w'' => e = .returned v ∧ ∃ q : BG, w'' = bel W0 q :=
  h.mono fun _ _ ⟨he, hb⟩ => ⟨he, bel_of (bstep (below_bel W0 p) hb)⟩
theorem calls_bel_same {P : Program} {f : FuncId} {args : Array Value} {W0 : World} {p : BG} {v : Value}
    (h : Calls P f args (bel W0 p) fun e w' => e = .returned v ∧ bel W0 p = w') : Calls P f args (bel W0 p) fun e w'' => e = .returned v ∧ ∃ q : BG, w'' = bel W0 q :=
  h.mono fun _ _ ⟨he, hb⟩ => ⟨he, p, hb.symm⟩
/-- a region that draws its order, whose operations only read and whose calls keep all that there is: one walk in the order of the text -/
theorem wp_region_bel {P : Program} {id : Nat} {Q : Exit → Act → World → Prop} {a : Act} {w : World} {l : List Oper} (hm : P.follows .mixedOrders = true) (hB : Region.lexB .any l.toArray = true)
    (h : wpQuiet P l.toArray (fun w' => ∃ p : BG, w' = bel w p) (fun a' => ∀ w', (∃ p : BG, w' = bel w p) → Q .normal a' w') l a) : (Code.region id l.toArray true).wp P Q a w :=
  wp_region_quiet (C := fun w' => ∃ p : BG, w' = bel w p) hm hB (bel_of ⟨rfl, rfl, rfl, Nat.le_refl _, fun _ _ => rfl⟩) (by simpa using h)
theorem below_of {W0 w : World} (h : ∃ p : BG, w = bel W0 p) : Below W0.heap.size W0 w := by
  obtain ⟨p, rfl⟩ := h; exact below_bel W0 p
theorem heldc {W0 W : World} (h : Below W0.heap.size W0 W) : Below W0.heap.size W0 W ∧ (∀ b o, b < W0.heap.size → W.cell? ⟨b, o, none⟩ = W0.cell? ⟨b, o, none⟩) ∧ (∀ b o, b < W0.heap.size → W.frozen? ⟨b, o, none⟩ = W0.frozen? ⟨b, o, none⟩) ∧ (∀ b, b < W0.heap.size → b < W.heap.size) :=
  ⟨h, (bcell h).1, (bcell h).2, bsize h⟩
theorem heldx {W0 W : World} {R : Prop} (h : Below W0.heap.size W0 W) (r : R) : Below W0.heap.size W0 W ∧ (∀ b o, b < W0.heap.size → W.cell? ⟨b, o, none⟩ = W0.cell? ⟨b, o, none⟩) ∧ (∀ b o, b < W0.heap.size → W.frozen? ⟨b, o, none⟩ = W0.frozen? ⟨b, o, none⟩) ∧ (∀ b, b < W0.heap.size → b < W.heap.size) ∧ R :=
  ⟨h, (bcell h).1, (bcell h).2, bsize h, r⟩

section
variable {w w' : World} {k n : Nat} {A : Option Addr} {xs : List Value}
theorem Rd.nil_ : Rd w k A 0 [] := ⟨by simp, fun h => absurd h (by omega)⟩
theorem Rd.below (h : Rd w k A n xs) (hb : Below w.heap.size w w') : Rd w' k A n xs :=
  ⟨h.1, fun hn => by
    obtain ⟨b, off, e, hlt, hc⟩ := h.2 hn
    exact ⟨b, off, e, Nat.lt_of_lt_of_le hlt hb.size, fun j u hu => (hb.cell (p := ⟨b, off + j, none⟩) hlt).trans (hc j u hu)⟩⟩
end

section
variable {H : Type} {encH : TypeId × Value → H} {P : Program} {w : World}

/-- every reading at type t is of cells 'en a' of some a that is 'ok' -/
def Opens {α : Type} (encH : TypeId × Value → H) (P : Program) (w : World) (t : TypeId) (en : α → List Value) (ok : α → Prop) : Prop :=
  ∀ (base : Nat) (spare : Nat → Bool) (held : Bool) (fuel : Nat) (cs : List Value) (x : DataW H × List MemPlace),
    DataW.trod encH P w base spare held fuel t cs = some x → ∃ a, cs = en a ∧ ok a

theorem opens_int {t : TypeId} (ht : P.underlying t = some (.int .i64)) : Opens encH P w t (fun n : Int => [.int .i64 n]) I64 := by
  intro base spare held fuel cs x h
  obtain ⟨n, h1, _, h2⟩ := DataW.trod_int ht h
  exact ⟨n, h1, i64_of_wf h2⟩

theorem opens_u8 {t : TypeId} (ht : P.underlying t = some (.int .u8)) : Opens encH P w t (fun n : Int => [.int .u8 n]) (fun n => 0 ≤ n ∧ n ≤ 255) := by
  intro base spare held fuel cs x h
  obtain ⟨n, h1, _, h2⟩ := DataW.trod_int ht h
  refine ⟨n, h1, ?_⟩
  have hh : IntKind.u8.min ≤ n ∧ n ≤ IntKind.u8.max := by simpa [Lit.wf] using h2
  exact hh

theorem opens_string {t : TypeId} (ht : P.underlying t = some .string) : Opens encH P w t (fun s : ByteArray => [.string s]) (fun s => s.size ≤ maxLen) := by
  intro base spare held fuel cs x h
  obtain ⟨s, h1, _, h2⟩ := DataW.trod_string ht h
  exact ⟨s, h1, h2⟩

theorem choose_list {α : Type} (Q : Nat → α → Prop) : ∀ n : Nat, (∀ i, i < n → ∃ a, Q i a) → ∃ zs : List α, zs.length = n ∧ ∀ i (h : i < zs.length), Q i zs[i] := by
  intro n
  induction n with
  | zero => intro _; exact ⟨[], rfl, fun i h => absurd h (by simp)⟩
  | succ n ih =>
    intro h
    obtain ⟨zs, hl, hz⟩ := ih (fun i hi => h i (by omega))
    obtain ⟨a, ha⟩ := h n (by omega)
    refine ⟨zs ++ [a], by simp [hl], fun i hi => ?_⟩
    by_cases e : i < zs.length
    · rw [List.getElem_append_left e]; exact hz i e
    · have e2 : i = n := by simp at hi; omega
      subst e2
      rw [List.getElem_append_right (by omega)]
      simpa [hl] using ha

theorem flat_length {α : Type} {en : α → List Value} {k : Nat} (hk : ∀ a, (en a).length = k) (zs : List α) : (zs.flatMap en).length = zs.length * k := by
  induction zs with
  | nil => simp
  | cons z zs ih => simp [List.flatMap_cons, ih, hk, Nat.add_mul]; omega

theorem flat_get {α : Type} {en : α → List Value} {k : Nat} (hk : ∀ a, (en a).length = k) : ∀ (zs : List α) (i j : Nat) (h : i < zs.length), j < k → (zs.flatMap en)[i * k + j]? = (en zs[i])[j]? := by
  intro zs
  induction zs with
  | nil => intro i j h; simp at h
  | cons z zs ih =>
    intro i j h hj
    rw [List.flatMap_cons]
    cases i with
    | zero =>
      rw [Nat.zero_mul, Nat.zero_add, List.getElem?_append_left (by rw [hk]; exact hj)]
      rfl
    | succ i =>
      rw [List.getElem?_append_right (by rw [hk, Nat.add_mul]; omega), hk]
      have e : (i + 1) * k + j - k = i * k + j := by rw [Nat.add_mul]; omega
      rw [e]
      exact ih i j (by simpa using h) hj

theorem flat_split {α : Type} {en : α → List Value} {k : Nat} (hk : ∀ a, (en a).length = k) (zs : List α) (m : Nat) (u : Value) (h : (zs.flatMap en)[m]? = some u) :
    ∃ i j, m = i * k + j ∧ j < k ∧ i < zs.length := by
  have hl := (List.getElem?_eq_some_iff.1 h).1
  rw [flat_length hk] at hl
  have hk0 : 0 < k := by
    rcases Nat.eq_zero_or_pos k with e | e
    · subst e; simp at hl
    · exact e
  refine ⟨m / k, m % k, ?_, Nat.mod_lt _ hk0, ?_⟩
  · rw [Nat.mul_comm]; exact (Nat.div_add_mod m k).symm
  · exact Nat.div_lt_of_lt_mul (by rw [Nat.mul_comm]; exact hl)

theorem opens_slice {α : Type} {t e : TypeId} {en : α → List Value} {ok : α → Prop} {k : Nat} (ht : P.underlying t = some (.slice e)) (hC : P.cellsOf e = k) (hk0 : 0 < k) (hk : ∀ a, (en a).length = k) (he : Opens encH P w e en ok) :
    Opens encH P w t (fun r : Option Addr × Nat × Nat => [.slice r.1 r.2.1 r.2.2])
      (fun r => r.2.1 ≤ r.2.2 ∧ r.2.2 ≤ maxLen ∧ ∃ zs : List α, zs.length = r.2.1 ∧ Rd w k r.1 r.2.1 (zs.flatMap en) ∧ ∀ z ∈ zs, ok z) := by
  intro base spare held fuel cs x h
  rcases open_slice ht h with ⟨rfl, _⟩ | ⟨a, len, cap, m, n, D, Pl, rfl, hb, hl, hm, hmm, _, hi⟩
  · exact ⟨(none, 0, 0), rfl, Nat.le_refl _, Nat.zero_le _, [], rfl, ⟨by simp, fun h => absurd h (by simp)⟩, fun z hz => by cases hz⟩
  · rw [hC] at hi
    have hlm : len ≤ m := by rw [hmm]; split <;> omega
    obtain ⟨zs, hzl, hz⟩ := choose_list (fun i (z : α) => w.cells? base (a.add (i * k)) k = some (en z) ∧ ok z) len (fun i hil => by
      obtain ⟨cs', hc, ht'⟩ := hi i (by omega)
      obtain ⟨z, rfl, hz⟩ := he _ _ _ _ _ _ ht'
      exact ⟨z, hc, hz⟩)
    refine ⟨(some a, len, cap), rfl, hl, hm, zs, hzl, ⟨by rw [flat_length hk, hzl], fun hn => ?_⟩, fun z hzm => ?_⟩
    · obtain ⟨b, off, spot⟩ := a
      have hlen0 : 0 < zs.length := by have hn' : 0 < len := hn; omega
      have h0 := hz 0 hlen0
      obtain ⟨_, _, hc0⟩ := World.cells?_some h0.1
      have hc00 := hc0 0 hk0
      have hex : ∃ u, (en zs[0])[0]? = some u := ⟨_, List.getElem?_eq_getElem (by rw [hk]; exact hk0)⟩
      obtain ⟨u0, hu0⟩ := hex
      rw [hu0] at hc00
      have hspot : spot = none := by simpa [Addr.add] using World.cell?_spot hc00
      subst hspot
      refine ⟨b, off, rfl, ?_, fun j u hu => ?_⟩
      · have := World.block_lt_of_cell? w _ hc00
        simpa [Addr.add] using this
      · obtain ⟨i, j', rfl, hj', hi'⟩ := flat_split hk zs j u hu
        rw [flat_get hk zs i j' hi' hj'] at hu
        obtain ⟨_, _, hcc⟩ := World.cells?_some (hz i hi').1
        have := hcc j' hj'
        rw [hu] at this
        rw [← this]
        congr 1
        unfold Addr.add
        by_cases e1 : i * k = 0 <;> by_cases e2 : j' = 0 <;> simp [e1, e2] <;> omega
    · obtain ⟨i, hi1, rfl⟩ := List.getElem_of_mem hzm
      exact (hz i hi1).2

theorem open_agg_by {α : Type} {r : Reach} {b0 base : Nat} {spare : Nat → Bool} {held : Bool} {t : TypeId} {fs : Array Field} {en : α → List Value} {ok : α → Prop} {v : Value} {d : DataW H} {ps : List MemPlace}
    (ht : P.underlying t = some (.struct fs)) (ho : Opens encH P w t en ok) (hval : Value.okWide P w r b0 t v) (hd : DataW.Trod encH P w base spare held t v d ps) : ∃ a, v = .agg (en a).toArray ∧ ok a := by
  obtain ⟨cs, rfl, _⟩ := okWide_struct ht hval
  obtain ⟨fuel, hf⟩ := hd
  obtain ⟨a, h1, h2⟩ := ho _ _ _ _ _ _ hf
  refine ⟨a, ?_, h2⟩
  have : cs.toList = en a := h1
  rw [← this]

theorem open_slice_by {α : Type} {r : Reach} {b0 base : Nat} {spare : Nat → Bool} {held : Bool} {t e : TypeId} {k : Nat} {en : α → List Value} {ok : α → Prop} {v : Value} {d : DataW H} {ps : List MemPlace}
    (ht : P.underlying t = some (.slice e)) (hC : P.cellsOf e = k) (hk0 : 0 < k) (hk : ∀ a, (en a).length = k) (ho : Opens encH P w e en ok) (hval : Value.okWide P w r b0 t v) (hd : DataW.Trod encH P w base spare held t v d ps) :
    ∃ A n c zs, v = .slice A n c ∧ n ≤ c ∧ c ≤ maxLen ∧ List.length zs = n ∧ Rd w k A n (zs.flatMap en) ∧ ∀ z ∈ zs, ok z := by
  obtain ⟨A, n, c, rfl⟩ := okWide_slice ht hval
  obtain ⟨fuel, hf⟩ := hd
  obtain ⟨⟨A', n', c'⟩, h1, h2, h3, zs, h4, h5, h6⟩ := opens_slice ht hC hk0 hk ho _ _ _ _ _ _ hf
  simp [Value.cells] at h1
  obtain ⟨rfl, rfl, rfl⟩ := h1
  exact ⟨A, n, c, zs, rfl, h2, h3, h4, h5, h6⟩

theorem opens_struct2 {α0 α1 : Type} {t : TypeId} {f0 f1 : Field} {en0 : α0 → Value} {en1 : α1 → Value} {ok0 : α0 → Prop} {ok1 : α1 → Prop}
    (ht : P.underlying t = some (.struct #[f0, f1])) (hone : oneCellFields P #[f0, f1] = true) (hC : P.cellsOf t = 2)
    (h0 : Opens encH P w f0.type (fun a => [en0 a]) ok0) (h1 : Opens encH P w f1.type (fun a => [en1 a]) ok1) :
    Opens encH P w t (fun a : α0 × α1 => [en0 a.1, en1 a.2]) (fun a => ok0 a.1 ∧ ok1 a.2) := by
  intro base spare held fuel cs x h
  obtain ⟨xs, n, _, _, hl, hlen, hg⟩ := DataW.trod_struct ht h
  obtain ⟨o0, k0⟩ := hone_of hone 0 f0 rfl
  obtain ⟨o1, k1⟩ := hone_of hone 1 f1 rfl
  match cs, hl.trans hC with
  | [c0, c1], _ =>
    match xs, hlen with
    | [y0, y1], _ =>
      obtain ⟨a0, e0, w0⟩ := h0 _ _ _ _ _ _ (show DataW.trod encH P w base spare held n f0.type [c0] = some y0 by simpa [o0, k0] using hg 0 f0 rfl)
      simp only [List.cons.injEq, and_true] at e0
      subst e0
      obtain ⟨a1, e1, w1⟩ := h1 _ _ _ _ _ _ (show DataW.trod encH P w base spare held n f1.type [c1] = some y1 by simpa [o1, k1] using hg 1 f1 rfl)
      simp only [List.cons.injEq, and_true] at e1
      subst e1
      exact ⟨⟨a0, a1⟩, rfl, w0, w1⟩

theorem opens_struct3 {α0 α1 α2 : Type} {t : TypeId} {f0 f1 f2 : Field} {en0 : α0 → Value} {en1 : α1 → Value} {en2 : α2 → Value} {ok0 : α0 → Prop} {ok1 : α1 → Prop} {ok2 : α2 → Prop}
    (ht : P.underlying t = some (.struct #[f0, f1, f2])) (hone : oneCellFields P #[f0, f1, f2] = true) (hC : P.cellsOf t = 3)
    (h0 : Opens encH P w f0.type (fun a => [en0 a]) ok0) (h1 : Opens encH P w f1.type (fun a => [en1 a]) ok1) (h2 : Opens encH P w f2.type (fun a => [en2 a]) ok2) :
    Opens encH P w t (fun a : α0 × α1 × α2 => [en0 a.1, en1 a.2.1, en2 a.2.2]) (fun a => ok0 a.1 ∧ ok1 a.2.1 ∧ ok2 a.2.2) := by
  intro base spare held fuel cs x h
  obtain ⟨xs, n, _, _, hl, hlen, hg⟩ := DataW.trod_struct ht h
  obtain ⟨o0, k0⟩ := hone_of hone 0 f0 rfl
  obtain ⟨o1, k1⟩ := hone_of hone 1 f1 rfl
  obtain ⟨o2, k2⟩ := hone_of hone 2 f2 rfl
  match cs, hl.trans hC with
  | [c0, c1, c2], _ =>
    match xs, hlen with
    | [y0, y1, y2], _ =>
      obtain ⟨a0, e0, w0⟩ := h0 _ _ _ _ _ _ (show DataW.trod encH P w base spare held n f0.type [c0] = some y0 by simpa [o0, k0] using hg 0 f0 rfl)
      simp only [List.cons.injEq, and_true] at e0
      subst e0
      obtain ⟨a1, e1, w1⟩ := h1 _ _ _ _ _ _ (show DataW.trod encH P w base spare held n f1.type [c1] = some y1 by simpa [o1, k1] using hg 1 f1 rfl)
      simp only [List.cons.injEq, and_true] at e1
      subst e1
      obtain ⟨a2, e2, w2⟩ := h2 _ _ _ _ _ _ (show DataW.trod encH P w base spare held n f2.type [c2] = some y2 by simpa [o2, k2] using hg 2 f2 rfl)
      simp only [List.cons.injEq, and_true] at e2
      subst e2
      exact ⟨⟨a0, a1, a2⟩, rfl, w0, w1, w2⟩

theorem opens_struct4 {α0 α1 α2 α3 : Type} {t : TypeId} {f0 f1 f2 f3 : Field} {en0 : α0 → Value} {en1 : α1 → Value} {en2 : α2 → Value} {en3 : α3 → Value} {ok0 : α0 → Prop} {ok1 : α1 → Prop} {ok2 : α2 → Prop} {ok3 : α3 → Prop}
    (ht : P.underlying t = some (.struct #[f0, f1, f2, f3])) (hone : oneCellFields P #[f0, f1, f2, f3] = true) (hC : P.cellsOf t = 4)
    (h0 : Opens encH P w f0.type (fun a => [en0 a]) ok0) (h1 : Opens encH P w f1.type (fun a => [en1 a]) ok1) (h2 : Opens encH P w f2.type (fun a => [en2 a]) ok2) (h3 : Opens encH P w f3.type (fun a => [en3 a]) ok3) :
    Opens encH P w t (fun a : α0 × α1 × α2 × α3 => [en0 a.1, en1 a.2.1, en2 a.2.2.1, en3 a.2.2.2]) (fun a => ok0 a.1 ∧ ok1 a.2.1 ∧ ok2 a.2.2.1 ∧ ok3 a.2.2.2) := by
  intro base spare held fuel cs x h
  obtain ⟨xs, n, _, _, hl, hlen, hg⟩ := DataW.trod_struct ht h
  obtain ⟨o0, k0⟩ := hone_of hone 0 f0 rfl
  obtain ⟨o1, k1⟩ := hone_of hone 1 f1 rfl
  obtain ⟨o2, k2⟩ := hone_of hone 2 f2 rfl
  obtain ⟨o3, k3⟩ := hone_of hone 3 f3 rfl
  match cs, hl.trans hC with
  | [c0, c1, c2, c3], _ =>
    match xs, hlen with
    | [y0, y1, y2, y3], _ =>
      obtain ⟨a0, e0, w0⟩ := h0 _ _ _ _ _ _ (show DataW.trod encH P w base spare held n f0.type [c0] = some y0 by simpa [o0, k0] using hg 0 f0 rfl)
      simp only [List.cons.injEq, and_true] at e0
      subst e0
      obtain ⟨a1, e1, w1⟩ := h1 _ _ _ _ _ _ (show DataW.trod encH P w base spare held n f1.type [c1] = some y1 by simpa [o1, k1] using hg 1 f1 rfl)
      simp only [List.cons.injEq, and_true] at e1
      subst e1
      obtain ⟨a2, e2, w2⟩ := h2 _ _ _ _ _ _ (show DataW.trod encH P w base spare held n f2.type [c2] = some y2 by simpa [o2, k2] using hg 2 f2 rfl)
      simp only [List.cons.injEq, and_true] at e2
      subst e2
      obtain ⟨a3, e3, w3⟩ := h3 _ _ _ _ _ _ (show DataW.trod encH P w base spare held n f3.type [c3] = some y3 by simpa [o3, k3] using hg 3 f3 rfl)
      simp only [List.cons.injEq, and_true] at e3
      subst e3
      exact ⟨⟨a0, a1, a2, a3⟩, rfl, w0, w1, w2, w3⟩

theorem opens_struct5 {α0 α1 α2 α3 α4 : Type} {t : TypeId} {f0 f1 f2 f3 f4 : Field} {en0 : α0 → Value} {en1 : α1 → Value} {en2 : α2 → Value} {en3 : α3 → Value} {en4 : α4 → Value} {ok0 : α0 → Prop} {ok1 : α1 → Prop} {ok2 : α2 → Prop} {ok3 : α3 → Prop} {ok4 : α4 → Prop}
    (ht : P.underlying t = some (.struct #[f0, f1, f2, f3, f4])) (hone : oneCellFields P #[f0, f1, f2, f3, f4] = true) (hC : P.cellsOf t = 5)
    (h0 : Opens encH P w f0.type (fun a => [en0 a]) ok0) (h1 : Opens encH P w f1.type (fun a => [en1 a]) ok1) (h2 : Opens encH P w f2.type (fun a => [en2 a]) ok2) (h3 : Opens encH P w f3.type (fun a => [en3 a]) ok3) (h4 : Opens encH P w f4.type (fun a => [en4 a]) ok4) :
    Opens encH P w t (fun a : α0 × α1 × α2 × α3 × α4 => [en0 a.1, en1 a.2.1, en2 a.2.2.1, en3 a.2.2.2.1, en4 a.2.2.2.2]) (fun a => ok0 a.1 ∧ ok1 a.2.1 ∧ ok2 a.2.2.1 ∧ ok3 a.2.2.2.1 ∧ ok4 a.2.2.2.2) := by
  intro base spare held fuel cs x h
  obtain ⟨xs, n, _, _, hl, hlen, hg⟩ := DataW.trod_struct ht h
  obtain ⟨o0, k0⟩ := hone_of hone 0 f0 rfl
  obtain ⟨o1, k1⟩ := hone_of hone 1 f1 rfl
  obtain ⟨o2, k2⟩ := hone_of hone 2 f2 rfl
  obtain ⟨o3, k3⟩ := hone_of hone 3 f3 rfl
  obtain ⟨o4, k4⟩ := hone_of hone 4 f4 rfl
  match cs, hl.trans hC with
  | [c0, c1, c2, c3, c4], _ =>
    match xs, hlen with
    | [y0, y1, y2, y3, y4], _ =>
      obtain ⟨a0, e0, w0⟩ := h0 _ _ _ _ _ _ (show DataW.trod encH P w base spare held n f0.type [c0] = some y0 by simpa [o0, k0] using hg 0 f0 rfl)
      simp only [List.cons.injEq, and_true] at e0
      subst e0
      obtain ⟨a1, e1, w1⟩ := h1 _ _ _ _ _ _ (show DataW.trod encH P w base spare held n f1.type [c1] = some y1 by simpa [o1, k1] using hg 1 f1 rfl)
      simp only [List.cons.injEq, and_true] at e1
      subst e1
      obtain ⟨a2, e2, w2⟩ := h2 _ _ _ _ _ _ (show DataW.trod encH P w base spare held n f2.type [c2] = some y2 by simpa [o2, k2] using hg 2 f2 rfl)
      simp only [List.cons.injEq, and_true] at e2
      subst e2
      obtain ⟨a3, e3, w3⟩ := h3 _ _ _ _ _ _ (show DataW.trod encH P w base spare held n f3.type [c3] = some y3 by simpa [o3, k3] using hg 3 f3 rfl)
      simp only [List.cons.injEq, and_true] at e3
      subst e3
      obtain ⟨a4, e4, w4⟩ := h4 _ _ _ _ _ _ (show DataW.trod encH P w base spare held n f4.type [c4] = some y4 by simpa [o4, k4] using hg 4 f4 rfl)
      simp only [List.cons.injEq, and_true] at e4
      subst e4
      exact ⟨⟨a0, a1, a2, a3, a4⟩, rfl, w0, w1, w2, w3, w4⟩

theorem opens_struct6 {α0 α1 α2 α3 α4 α5 : Type} {t : TypeId} {f0 f1 f2 f3 f4 f5 : Field} {en0 : α0 → Value} {en1 : α1 → Value} {en2 : α2 → Value} {en3 : α3 → Value} {en4 : α4 → Value} {en5 : α5 → Value} {ok0 : α0 → Prop} {ok1 : α1 → Prop} {ok2 : α2 → Prop} {ok3 : α3 → Prop} {ok4 : α4 → Prop} {ok5 : α5 → Prop}
    (ht : P.underlying t = some (.struct #[f0, f1, f2, f3, f4, f5])) (hone : oneCellFields P #[f0, f1, f2, f3, f4, f5] = true) (hC : P.cellsOf t = 6)
    (h0 : Opens encH P w f0.type (fun a => [en0 a]) ok0) (h1 : Opens encH P w f1.type (fun a => [en1 a]) ok1) (h2 : Opens encH P w f2.type (fun a => [en2 a]) ok2) (h3 : Opens encH P w f3.type (fun a => [en3 a]) ok3) (h4 : Opens encH P w f4.type (fun a => [en4 a]) ok4) (h5 : Opens encH P w f5.type (fun a => [en5 a]) ok5) :
    Opens encH P w t (fun a : α0 × α1 × α2 × α3 × α4 × α5 => [en0 a.1, en1 a.2.1, en2 a.2.2.1, en3 a.2.2.2.1, en4 a.2.2.2.2.1, en5 a.2.2.2.2.2]) (fun a => ok0 a.1 ∧ ok1 a.2.1 ∧ ok2 a.2.2.1 ∧ ok3 a.2.2.2.1 ∧ ok4 a.2.2.2.2.1 ∧ ok5 a.2.2.2.2.2) := by
  intro base spare held fuel cs x h
  obtain ⟨xs, n, _, _, hl, hlen, hg⟩ := DataW.trod_struct ht h
  obtain ⟨o0, k0⟩ := hone_of hone 0 f0 rfl
  obtain ⟨o1, k1⟩ := hone_of hone 1 f1 rfl
  obtain ⟨o2, k2⟩ := hone_of hone 2 f2 rfl
  obtain ⟨o3, k3⟩ := hone_of hone 3 f3 rfl
  obtain ⟨o4, k4⟩ := hone_of hone 4 f4 rfl
  obtain ⟨o5, k5⟩ := hone_of hone 5 f5 rfl
  match cs, hl.trans hC with
  | [c0, c1, c2, c3, c4, c5], _ =>
    match xs, hlen with
    | [y0, y1, y2, y3, y4, y5], _ =>
      obtain ⟨a0, e0, w0⟩ := h0 _ _ _ _ _ _ (show DataW.trod encH P w base spare held n f0.type [c0] = some y0 by simpa [o0, k0] using hg 0 f0 rfl)
      simp only [List.cons.injEq, and_true] at e0
      subst e0
      obtain ⟨a1, e1, w1⟩ := h1 _ _ _ _ _ _ (show DataW.trod encH P w base spare held n f1.type [c1] = some y1 by simpa [o1, k1] using hg 1 f1 rfl)
      simp only [List.cons.injEq, and_true] at e1
      subst e1
      obtain ⟨a2, e2, w2⟩ := h2 _ _ _ _ _ _ (show DataW.trod encH P w base spare held n f2.type [c2] = some y2 by simpa [o2, k2] using hg 2 f2 rfl)
      simp only [List.cons.injEq, and_true] at e2
      subst e2
      obtain ⟨a3, e3, w3⟩ := h3 _ _ _ _ _ _ (show DataW.trod encH P w base spare held n f3.type [c3] = some y3 by simpa [o3, k3] using hg 3 f3 rfl)
      simp only [List.cons.injEq, and_true] at e3
      subst e3
      obtain ⟨a4, e4, w4⟩ := h4 _ _ _ _ _ _ (show DataW.trod encH P w base spare held n f4.type [c4] = some y4 by simpa [o4, k4] using hg 4 f4 rfl)
      simp only [List.cons.injEq, and_true] at e4
      subst e4
      obtain ⟨a5, e5, w5⟩ := h5 _ _ _ _ _ _ (show DataW.trod encH P w base spare held n f5.type [c5] = some y5 by simpa [o5, k5] using hg 5 f5 rfl)
      simp only [List.cons.injEq, and_true] at e5
      subst e5
      exact ⟨⟨a0, a1, a2, a3, a4, a5⟩, rfl, w0, w1, w2, w3, w4, w5⟩
end
end Go.Proofs.Ytaekngiejehooaa
