/-
  A region that draws its order: reads that float, and calls or allocations between which one or two can come next, walked along the tree of their orders. Conditions: what floats only reads; the rest keeps all that there was.
-/
import Derived.Test.YtallgjobljkgnaaMX
namespace Go.Proofs.Ytallgjobljkgnaa
open Go Go.RowKit

inductive MT where
  | fin (is : List Nat)
  | one (is : List Nat) (s : Nat) (t : MT)
  | two (is : List Nat) (s : Nat) (t : MT) (s' : Nat) (t' : MT)
def treeLen : MT → Nat
  | .fin is => is.length
  | .one is _ t => is.length + (treeLen t + 1)
  | .two is _ t _ _ => is.length + (treeLen t + 1)
def treeB (md : Region.Mode) (l : List Oper) : MT → Array Bool → Bool
  | .fin is, listed => floatB md l is listed && (Region.ready md l.toArray (setAll listed is)).isEmpty
  | .one is s t, listed => floatB md l is listed && decide (Region.ready md l.toArray (setAll listed is) = [s]) && treeB md l t ((setAll listed is).setIfInBounds s true)
  | .two is s t s' t', listed => floatB md l is listed && decide (Region.ready md l.toArray (setAll listed is) = [s, s']) && decide (treeLen t = treeLen t') && (treeB md l t ((setAll listed is).setIfInBounds s true) && treeB md l t' ((setAll listed is).setIfInBounds s' true))
section
variable {P : Program} {ops : Array Oper} {md : Region.Mode} {Q : Act → World → Prop}
def treeW (P : Program) (l : List Oper) (Q : Act → World → Prop) : MT → Act → World → Prop
  | .fin is, a, w => wpQuiet P l.toArray (fun w' => ∃ p : BG, w' = bel w p) (fun a' => Q a' w) (is.map fun i => l.getD i noOp) a
  | .one is s t, a, w => wpQuiet P l.toArray (fun w' => ∃ p : BG, w' = bel w p) (fun a' => wpList P l.toArray (ChainPost w (treeW P l Q t)) [l.getD s noOp] a' w) (is.map fun i => l.getD i noOp) a
  | .two is s t s' t', a, w => wpQuiet P l.toArray (fun w' => ∃ p : BG, w' = bel w p) (fun a' => wpList P l.toArray (ChainPost w (treeW P l Q t)) [l.getD s noOp] a' w ∧ wpList P l.toArray (ChainPost w (treeW P l Q t')) [l.getD s' noOp] a' w) (is.map fun i => l.getD i noOp) a
theorem treeW_fin {l : List Oper} {is : List Nat} {a : Act} {w : World} (h : wpQuiet P l.toArray (fun w' => ∃ p : BG, w' = bel w p) (fun a' => Q a' w) (is.map fun i => l.getD i noOp) a) : treeW P l Q (.fin is) a w := h
theorem treeW_one {l : List Oper} {is : List Nat} {s : Nat} {t : MT} {a : Act} {w : World}
    (h : wpQuiet P l.toArray (fun w' => ∃ p : BG, w' = bel w p) (fun a' => wpList P l.toArray (ChainPost w (treeW P l Q t)) [l.getD s noOp] a' w) (is.map fun i => l.getD i noOp) a) : treeW P l Q (.one is s t) a w := h
theorem treeW_two {l : List Oper} {is : List Nat} {s s' : Nat} {t t' : MT} {a : Act} {w : World}
    (h : wpQuiet P l.toArray (fun w' => ∃ p : BG, w' = bel w p) (fun a' => wpList P l.toArray (ChainPost w (treeW P l Q t)) [l.getD s noOp] a' w ∧ wpList P l.toArray (ChainPost w (treeW P l Q t')) [l.getD s' noOp] a' w) (is.map fun i => l.getD i noOp) a) : treeW P l Q (.two is s t s' t') a w := h
theorem wpOp_chain {f s : Nat} {os : Oper} {listed : Array Bool} {a : Act} {w : World} {K : Act → World → Prop} (hs : ops[s]? = some os)
    (h : wpList P ops (ChainPost w K) [os] a w) (hK : ∀ a' w', K a' w' → wpD P md ops Q f (listed.setIfInBounds s true) a' w') : wpOp P ops QF s (fun a' w' => Below w.heap.size w w' ∧ wpD P md ops Q f (listed.setIfInBounds s true) a' w') a w := by
  unfold wpOp
  simp only [hs]
  simp only [wpList] at h
  split
  · rename_i hw
    simp only [hw, if_true] at h
    rcases h with h | ⟨_, x, y, hl, _⟩
    · exact .inl (wp_exit (fun c a w hp => by cases hp.1) (fun (hl : LetsOut (ChainPost w K)) => by obtain ⟨_, _, hl, _⟩ := hl; cases hl) (fun a' w' hk => ⟨hk.2.1, hK _ _ hk.2.2⟩) h)
    · cases hl
  · rename_i hw
    simp only [hw] at h
    exact ⟨h.2.1, hK _ _ h.2.2⟩
theorem ready_get {l : List Oper} {listed : Array Bool} {s : Nat} (hm : s ∈ Region.ready md l.toArray listed) : l.toArray[s]? = some (l.getD s noOp) := by
  obtain ⟨_, os, hos, _⟩ := mem_ready.1 hm
  have : l[s]? = some os := by simpa using hos
  simp [List.getD_eq_getElem?_getD, this]
theorem wpD_tree {l : List Oper} (hsel : Region.noSelect l.toArray = true) : ∀ (T : MT) (listed : Array Bool) (a : Act) (w : World), treeB md l T listed = true → treeW P l Q T a w → wpD P md l.toArray Q (treeLen T) listed a w
  | .fin is, listed, a, w, hB, h => by
    simp only [treeB, Bool.and_eq_true] at hB
    have := wpD_floats (P := P) (Q := Q) (w := w) hsel is 0 listed a hB.1 (quiet_mono (fun a' h' => ⟨by simpa using hB.2, h'⟩) _ _ h)
    simpa [treeLen] using this
  | .one is s t, listed, a, w, hB, h => by
    simp only [treeB, Bool.and_eq_true, decide_eq_true_eq] at hB
    obtain ⟨⟨h1, h2⟩, h3⟩ := hB
    refine wpD_floats hsel is _ _ _ h1 (quiet_mono (fun a' h' => ?_) _ _ h)
    have hm : s ∈ Region.ready md l.toArray (setAll listed is) := by rw [h2]; simp
    exact wpD_chain (ready_get hm) h2 h' (fun a2 w2 hk => wpD_tree hsel t _ a2 w2 h3 hk)
  | .two is s t s' t', listed, a, w, hB, h => by
    simp only [treeB, Bool.and_eq_true, decide_eq_true_eq] at hB
    obtain ⟨⟨⟨h1, h2⟩, hlen⟩, h3, h4⟩ := hB
    refine wpD_floats hsel is _ _ _ h1 (quiet_mono (fun a' h' => ?_) _ _ h)
    have hm : s ∈ Region.ready md l.toArray (setAll listed is) := by rw [h2]; simp
    have hm' : s' ∈ Region.ready md l.toArray (setAll listed is) := by rw [h2]; simp
    refine ⟨fun h0 => (by rw [h0] at hm; cases hm), fun i hi => ?_⟩
    rw [h2] at hi
    rcases List.mem_cons.1 hi with rfl | hi
    · exact wpOp_chain (ready_get hm) h'.1 (fun a2 w2 hk => wpD_tree hsel t _ a2 w2 h3 hk)
    · obtain rfl : i = s' := by simpa using hi
      exact wpOp_chain (ready_get hm') h'.2 (fun a2 w2 hk => by rw [hlen]; exact wpD_tree hsel t' _ a2 w2 h4 hk)
/-- the region, walked along the tree T of its orders -/
theorem wp_region_tree {id : Nat} {Q : Exit → Act → World → Prop} {a : Act} {w : World} {l : List Oper} (T : MT) (hm : P.follows .mixedOrders = true)
    (hB : (Region.noSelect l.toArray && decide (treeLen T = l.length) && treeB .any l T (Array.replicate l.length false)) = true)
    (h : ∀ w1, Below w.heap.size w w1 → treeW P l (fun a' w' => Q .normal a' w') T a w1) : (Code.region id l.toArray true).wp P Q a w := by
  simp only [Bool.and_eq_true, decide_eq_true_eq] at hB
  obtain ⟨⟨hsel, hlen⟩, hmix⟩ := hB
  refine wp_region_any hm (wpAny_of_D (Q := fun a' w' => Q .normal a' w') (fun _ _ h => h) _ _ _ _ ?_)
  have := wpD_tree (Q := fun a' w' => Q .normal a' w') hsel T _ a w.drew hmix (h _ (bdrew (Below.refl _ _)))
  rw [hlen] at this
  simpa using this
end
end Go.Proofs.Ytallgjobljkgnaa
