/-
  Tables that a draw makes itself: rows of the call's own in a row of the call's own. Conditions: none.
-/
import Derived.Test.YtallgjobljkgnaaRW
import Derived.Test.YtallgjobljkgnaaG
import Derived.Test.YtallgjobljkgnaaCS
namespace Go.Proofs.Ytallgjobljkgnaa
open Go Go.RowKit
set_option maxRecDepth 100000
set_option maxHeartbeats 4000000

def tdVs (T : List (List Int)) (f c : Nat → Nat) : List Value := (List.range T.length).map fun i => .slice (some ⟨f i, 0, none⟩) (row T i).length (c i)
/-- the table T as the call made it: row i lies in block f i -/
structure TD (w : World) (base : Nat) (v : Value) (T : List (List Int)) (f c : Nat → Nat) : Prop where
  outer : w.ownsRow base 24 1 v T.length (tdVs T f c)
  rows : ∀ i, i < T.length → w.ownsRow base 3 1 (.slice (some ⟨f i, 0, none⟩) (row T i).length (c i)) (row T i).length (ints (row T i))
theorem tdVs_get {T : List (List Int)} {f c : Nat → Nat} {i : Nat} (h : i < T.length) : (tdVs T f c)[i]? = some (.slice (some ⟨f i, 0, none⟩) (row T i).length (c i)) := by simp [tdVs, h]
theorem TD.rd {w : World} {base : Nat} {v : Value} {T : List (List Int)} {f c : Nat → Nat} (h : TD w base v T f c) : ∃ A cc, v = .slice A T.length cc ∧ RdT w A T.length T := by
  obtain ⟨A, cc, rfl, hr, _⟩ := own_rd h.outer
  refine ⟨A, cc, rfl, rfl, fun hn => ?_⟩
  obtain ⟨b, off, e, hb, hcc⟩ := hr.2 hn
  exact ⟨b, off, e, hb, fun k hk => ⟨_, c k, hcc k _ (tdVs_get hk), own_r (h.rows k hk)⟩⟩
theorem TD.apart {w w' : World} {base : Nat} {v : Value} {T : List (List Int)} {f c : Nat → Nat} {r : Option Nat} (h : TD w base v T f c) (hg : w.grownBy w' r) (h1 : ∀ b, v.ownBlock = some b → some b ≠ r) (h2 : ∀ i, i < T.length → some (f i) ≠ r) : TD w' base v T f c :=
  ⟨own_apart h.outer hg h1, fun i hi => own_apart (h.rows i hi) hg (fun b e => by cases e; exact h2 i hi)⟩
theorem TD.grown {w w' : World} {base g : Nat} {v : Value} {T : List (List Int)} {f c : Nat → Nat} (h : TD w base v T f c) (hg : w.grownBy w' (some g)) (hgb : g < base) : TD w' base v T f c :=
  ⟨own_grown h.outer hg hgb, fun i hi => own_grown (h.rows i hi) hg hgb⟩
theorem TD.below {w w' : World} {base : Nat} {v : Value} {T : List (List Int)} {f c : Nat → Nat} (h : TD w base v T f c) (hb : Below w.heap.size w w') : TD w' base v T f c :=
  ⟨own_below h.outer hb, fun i hi => own_below (h.rows i hi) hb⟩
theorem TD.lt {w : World} {base : Nat} {v : Value} {T : List (List Int)} {f c : Nat → Nat} (h : TD w base v T f c) : (∀ b, v.ownBlock = some b → b < w.heap.size) ∧ ∀ i, i < T.length → f i < w.heap.size :=
  ⟨fun b e => (h.outer.lt b e).2, fun i hi => ((h.rows i hi).lt (f i) rfl).2⟩
theorem TD.weaken {w : World} {base base' : Nat} {v : Value} {T : List (List Int)} {f c : Nat → Nat} (h : TD w base v T f c) (hb : base' ≤ base) : TD w base' v T f c :=
  ⟨own_weaken h.outer hb, fun i hi => own_weaken (h.rows i hi) hb⟩
theorem TD.nil {w : World} {base : Nat} {v : Value} (h : w.ownsRow base 24 1 v 0 []) : TD w base v [] (fun _ => 0) (fun _ => 0) := ⟨h, fun _ hi => absurd hi (Nat.not_lt_zero _)⟩
/-- a row of ints and the row of rows lie in different blocks -/
theorem own_types {w : World} {b1 b2 n1 n2 k1 k2 b : Nat} {v1 v2 : Value} {xs1 xs2 : List Value} (h1 : w.ownsRow b1 3 k1 v1 n1 xs1) (h2 : w.ownsRow b2 24 k2 v2 n2 xs2) (e1 : v1.ownBlock = some b) : v2.ownBlock ≠ some b := by
  intro e2
  rcases own_bk h1 with ⟨rfl, _⟩ | ⟨g, _, cs, rfl, _, hB, _⟩
  · cases e1
  rcases own_bk h2 with ⟨rfl, _⟩ | ⟨g', _, cs', rfl, _, hB', _⟩
  · cases e2
  cases e1
  cases e2
  have h := hB.symm.trans hB'
  simp only [Option.some.injEq, Obj.cells.injEq] at h
  exact absurd h.2.1 (by decide)
theorem TD.apart_base {w w' : World} {base b0 k n : Nat} {t : TypeId} {u v : Value} {xs : List Value} {T : List (List Int)} {f c : Nat → Nat} (h : TD w base v T f c) (hu : w.ownsRow b0 t k u n xs) (hv : ∀ b, v.ownBlock = some b → b < b0) (hf : ∀ i, i < T.length → f i < b0) (hg : w.grownBy w' u.ownBlock) : TD w' base v T f c :=
  h.apart hg (fun b e he => by have := (hu.lt b he.symm).1; have := hv b e; omega) (fun i hi he => by have := (hu.lt (f i) he.symm).1; have := hf i hi; omega)
theorem row_snoc {T : List (List Int)} {ys : List Int} {i : Nat} : row (T ++ [ys]) i = if i < T.length then row T i else if i = T.length then ys else [] := by
  unfold row
  simp only [List.getD_eq_getElem?_getD]
  split
  · rw [List.getElem?_append_left (by assumption)]
  · split
    · rename_i h; rw [h, List.getElem?_concat_length]; rfl
    · rw [List.getElem?_eq_none (by simp; omega)]; rfl
theorem tdVs_snoc {T : List (List Int)} {ys : List Int} {f c : Nat → Nat} {b cb : Nat} : tdVs (T ++ [ys]) (fun i => if i = T.length then b else f i) (fun i => if i = T.length then cb else c i) = tdVs T f c ++ [.slice (some ⟨b, 0, none⟩) ys.length cb] := by
  unfold tdVs
  rw [List.length_append, List.length_singleton, List.range_succ, List.map_append]
  congr 1
  · apply List.map_congr_left
    intro i hi
    have hi := List.mem_range.1 hi
    simp only [row_snoc, if_pos hi, if_neg (show ¬ i = T.length by omega)]
  · simp
theorem TD.snoc {w w' : World} {base : Nat} {v v' : Value} {T : List (List Int)} {f c : Nat → Nat} {ys : List Int} {b cb : Nat} (h : TD w base v T f c) (hu : w.ownsRow base 3 1 (.slice (some ⟨b, 0, none⟩) ys.length cb) ys.length (ints ys))
    (ho : w'.ownsRow base 24 1 v' (T.length + 1) (tdVs T f c ++ [.slice (some ⟨b, 0, none⟩) ys.length cb])) (hg : w.grownBy w' v.ownBlock) : TD w' base v' (T ++ [ys]) (fun i => if i = T.length then b else f i) (fun i => if i = T.length then cb else c i) := by
  refine ⟨by rw [tdVs_snoc, List.length_append]; exact ho, fun i hi => ?_⟩
  rw [List.length_append, List.length_singleton] at hi
  by_cases e : i = T.length
  · simp only [row_snoc, if_neg (show ¬ i < T.length by omega), if_pos e]
    exact own_apart hu hg (fun b' e' he => own_types hu h.outer e' he.symm)
  · have hlt : i < T.length := by omega
    simp only [row_snoc, if_pos hlt, if_neg e]
    exact own_apart (h.rows i hlt) hg (fun b' e' he => own_types (h.rows i hlt) h.outer e' he.symm)
theorem own_seti {w : World} {base n b c j : Nat} {ys : List Int} {x : Int} (h : w.ownsRow base 3 1 (.slice (some ⟨b, 0, none⟩) n c) n (ints ys)) : (w.setCell ⟨b, j, none⟩ (.int .i64 x)).ownsRow base 3 1 (.slice (some ⟨b, 0, none⟩) n c) n (ints (ys.set j x)) := by
  rcases own_bk h with ⟨h1, _⟩ | ⟨g', cap, cs, hv, hb', hB', h1, h2, h3, h4⟩
  · cases h1
  · cases hv
    refine bk_own hb' (hB'.set_ j _) h1 h2 (by simpa using h3) ?_
    rw [Nat.mul_one] at h4 ⊢
    rw [List.take_set, h4]
    simp [ints, List.map_set]
theorem own_setv {w : World} {base n b c j : Nat} {t : TypeId} {xs : List Value} {u : Value} (h : w.ownsRow base t 1 (.slice (some ⟨b, 0, none⟩) n c) n xs) : (w.setCell ⟨b, j, none⟩ u).ownsRow base t 1 (.slice (some ⟨b, 0, none⟩) n c) n (xs.set j u) := by
  rcases own_bk h with ⟨h1, _⟩ | ⟨g', cap, cs, hv, hb', hB', h1, h2, h3, h4⟩
  · cases h1
  · cases hv
    refine bk_own hb' (hB'.set_ j _) h1 h2 (by simpa using h3) ?_
    rw [Nat.mul_one] at h4 ⊢
    rw [List.take_set, h4]
theorem row_set {T : List (List Int)} {ys : List Int} {N i : Nat} (hN : N < T.length) : row (T.set N ys) i = if i = N then ys else row T i := by
  unfold row
  simp only [List.getD_eq_getElem?_getD, List.getElem?_set]
  split
  · rename_i h; subst h; simp
  · rename_i h; rw [if_neg (fun e => h e.symm)]
theorem tdVs_set {T : List (List Int)} {ys : List Int} {N b' c' : Nat} {f c : Nat → Nat} (hN : N < T.length) : tdVs (T.set N ys) (fun i => if i = N then b' else f i) (fun i => if i = N then c' else c i) = (tdVs T f c).set N (.slice (some ⟨b', 0, none⟩) ys.length c') := by
  apply List.ext_getElem?
  intro i
  rw [List.getElem?_set]
  by_cases hi : i < T.length
  · rw [tdVs_get (by simpa using hi)]
    by_cases e : N = i
    · subst e
      simp [tdVs, hN]
    · rw [if_neg e, tdVs_get hi]
      simp only [row_set hN, if_neg (show ¬ i = N from fun h => e h.symm)]
  · rw [List.getElem?_eq_none (by simp [tdVs]; omega)]
    rw [if_neg (by omega), List.getElem?_eq_none (by simp [tdVs]; omega)]
theorem TD.setrow {w w1 : World} {base bo n cc N b' c' m' : Nat} {T : List (List Int)} {f c : Nat → Nat} {ys : List Int} (h : TD w base (.slice (some ⟨bo, 0, none⟩) n cc) T f c) (hn : T.length = n) (hN : N < T.length)
    (hown : w1.ownsRow base 3 1 (.slice (some ⟨b', 0, none⟩) m' c') m' (ints ys)) (hyl : ys.length = m') (hg : w.grownBy w1 (some (f N))) (hinj : ∀ i, i < T.length → i ≠ N → f i ≠ f N) :
    TD (w1.setCell ⟨bo, N, none⟩ (.slice (some ⟨b', 0, none⟩) m' c')) base (.slice (some ⟨bo, 0, none⟩) n cc) (T.set N ys) (fun i => if i = N then b' else f i) (fun i => if i = N then c' else c i) := by
  subst hyl
  subst hn
  have ho := own_apart h.outer hg (fun b e he => own_types (h.rows N hN) h.outer (b := b) he.symm e)
  refine ⟨by rw [tdVs_set hN, List.length_set]; exact own_setv ho, fun i hi => ?_⟩
  rw [List.length_set] at hi
  by_cases e : i = N
  · simp only [row_set hN, if_pos e]
    exact own_far hown (fun b2 e2 he => own_types hown ho e2 (by rw [he]; rfl))
  · simp only [row_set hN, if_neg e]
    have hr := own_apart (h.rows i hi) hg (fun b2 e2 he => by cases e2; exact hinj i hi e (Option.some.inj he))
    exact own_far hr (fun b2 e2 he => own_types hr ho e2 (by rw [he]; rfl))
theorem TD.seti {w : World} {base bo n cc N j : Nat} {x : Int} {T : List (List Int)} {f c : Nat → Nat} (h : TD w base (.slice (some ⟨bo, 0, none⟩) n cc) T f c) (hN : N < T.length) (hinj : ∀ i, i < T.length → i ≠ N → f i ≠ f N) :
    TD (w.setCell ⟨f N, j, none⟩ (.int .i64 x)) base (.slice (some ⟨bo, 0, none⟩) n cc) (T.set N ((row T N).set j x)) f c := by
  have e1 : ∀ i, row (T.set N ((row T N).set j x)) i = if i = N then (row T N).set j x else row T i := fun i => row_set hN
  have e2 : tdVs (T.set N ((row T N).set j x)) f c = tdVs T f c := by
    unfold tdVs
    rw [List.length_set]
    apply List.map_congr_left
    intro i _
    rw [e1]
    split
    · rename_i h; rw [h, List.length_set]
    · rfl
  refine ⟨?_, fun i hi => ?_⟩
  · rw [e2, List.length_set]
    exact own_far h.outer (fun b2 e3 he => own_types (h.rows N hN) h.outer (b := b2) (by rw [he]; rfl) e3)
  · rw [List.length_set] at hi
    rw [e1]
    by_cases e : i = N
    · subst e
      rw [if_pos rfl, List.length_set]
      exact own_seti (h.rows i hi)
    · rw [if_neg e]
      exact own_far (h.rows i hi) (fun b2 e3 he => by cases e3; exact hinj i hi e he)
end Go.Proofs.Ytallgjobljkgnaa
