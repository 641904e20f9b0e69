/-
  A region that draws its order: moves and reslices that float and read no memory, and calls or allocations that may write what is theirs, between which one or two can come next, walked along the tree of their orders. Conditions: what floats reads no memory.
-/
import Derived.Test.YtallgjobljkgnaaMY
namespace Go.Proofs.Ytallgjobljkgnaa
open Go Go.RowKit

section
variable {P : Program} {ops : Array Oper} {md : Region.Mode} {Q : Act → World → Prop}
/-- in every world the operation only reads, and yields v -/
def YieldsRP (P : Program) (ops : Array Oper) (o : Oper) (v : Value) (a : Act) : Prop :=
  (Region.wanted o (yielded ops a.tmps) = true ∧ ∀ w : World, ((execOp a.eval o).run P w = .ok (.value v) w ∨ ((execOp a.eval o).run P w = .ok .skip w ∧ v = undef))) ∨
  (Region.wanted o (yielded ops a.tmps) = false ∧ v = undef)
theorem YieldsRP.wpOp {w : World} {i : Nat} {o : Oper} {v : Value} {a : Act} {Q' : Exit → Act → World → Prop} (hi : ops[i]? = some o) (hy : YieldsRP P ops o v a) {K : Act → World → Prop} (h : K (a.put o.dst v) w) : wpOp P ops Q' i K a w := by
  unfold Go.wpOp
  simp only [hi]
  rcases hy with ⟨hw, hv⟩ | ⟨hw, rfl⟩
  · rcases hv w with h1 | ⟨h1, rfl⟩
    · simp only [hw, if_true, Oper.wp, h1, Oper.upon]; exact .inl h
    · simp only [hw, if_true, Oper.wp, h1, Oper.upon]; exact .inl h
  · simp only [hw, Bool.false_eq_true, if_false]; exact h
theorem YieldsRP.of_same {o : Oper} {v : Value} {a a' : Act} (hy : YieldsRP P ops o v a) (he : execOp a'.eval o = execOp a.eval o)
    (hw : Region.wanted o (yielded ops a'.tmps) = Region.wanted o (yielded ops a.tmps)) : YieldsRP P ops o v a' := by
  unfold YieldsRP at *
  rw [he, hw]
  exact hy
theorem wpOpR_putP {w : World} {j : Nat} {oi oj : Oper} {v : Value} (hj : ops[j]? = some oj) (hap : oi.apart ops oj = true)
    (hsi : ∀ cs b, oi.op ≠ .select cs b) (hsj : ∀ cs b, oj.op ≠ .select cs b) {K : Act → World → Prop} {a : Act}
    (hy : YieldsRP P ops oi v a) (h : wpOp P ops QF j K (a.put oi.dst v) w) :
    wpOp P ops QF j (fun a' w' => YieldsRP P ops oi v a' ∧ K (a'.put oi.dst v) w') a w := by
  obtain ⟨h1, h2, h3⟩ := Oper.apart_spec hap
  have keep : ∀ (a : Act), YieldsRP P ops oi v a → ∀ u, YieldsRP P ops oi v (a.put oj.dst u) := fun a hy u =>
    hy.of_same (execOp_put oi hsi a oj.dst u h3) (wanted_put oi a oj.dst u h3)
  have keepD : ∀ d, YieldsRP P ops oi v { a with defers := d :: a.defers } := fun d => hy.of_same rfl rfl
  unfold wpOp at *
  simp only [hj] at *
  rw [wanted_put oj a oi.dst v h1] at h
  split
  · rename_i hw
    simp only [hw, if_true] at h
    rcases h with h | ⟨hasks, hlets⟩
    case inr => exact .inr ⟨by unfold Oper.asks at *; rw [execOp_put oj hsj a oi.dst v h1] at hasks; exact hasks, hlets⟩
    refine .inl ?_
    unfold Oper.wp at *
    rw [execOp_put oj hsj a oi.dst v h1] at h
    generalize (execOp a.eval oj).run P w = r at *
    cases r with
    | ok n w' =>
      cases n <;> simp only [Oper.upon] at h ⊢
      case value u => exact ⟨keep a hy u, by rw [← Act.put_comm a v u h2]; exact h⟩
      case skip => exact ⟨keep a hy _, by rw [← Act.put_comm a v undef h2]; exact h⟩
      case defer d =>
        refine ⟨keep _ (keepD d) _, ?_⟩
        rw [← Act.put_comm _ v undef h2, ← Act.put_defers]
        exact h
      case enter f args =>
        refine Calls.mono h fun e w'' he => ?_
        cases e with
        | returned u => exact ⟨keep a hy u, by rw [← Act.put_comm a v u h2]; exact he⟩
        | panicked c => exact he
        | outgrown => exact he
      case row row args => exact Rows.mono h fun u w'' he => ⟨keep a hy u, by rw [← Act.put_comm a v u h2]; exact he⟩
    | halt x w' =>
      cases x <;> simp only [Oper.upon] at h ⊢ <;> exact h
  · rename_i hw
    simp only [hw] at h
    exact ⟨keep a hy _, by rw [← Act.put_comm a v undef h2]; exact h⟩
/-- whatever order is picked from here on, each step keeping all that there is -/
def wpDP (P : Program) (md : Region.Mode) (ops : Array Oper) (Q : Act → World → Prop) : Nat → Array Bool → Act → World → Prop
  | 0, listed, a, w => Region.ready md ops listed = [] ∧ Q a w
  | f + 1, listed, a, w => (Region.ready md ops listed = [] → Q a w) ∧ ∀ i ∈ Region.ready md ops listed, wpOp P ops QF i (fun a' w' => wpDP P md ops Q f (listed.setIfInBounds i true) a' w') a w
theorem wpAny_of_DP {Q' : Exit → Act → World → Prop} (hQ : ∀ a w, Q a w → Q' .normal a w) : ∀ (f : Nat) (listed : Array Bool) (a : Act) (w : World), wpDP P md ops Q f listed a w → wpAny P md ops Q' f listed a w
  | 0, _, _, _, h => ⟨h.1, hQ _ _ h.2⟩
  | f + 1, _, _, _, h => ⟨fun h0 => hQ _ _ (h.1 h0), fun i hi => wpOp_exit (fun a' w' h' => wpAny_of_DP hQ f _ a' w' h') (h.2 i hi)⟩
theorem wpD_firstP {i : Nat} {oi : Oper} {v : Value} (hi : ops[i]? = some oi) (hsel : ∀ (j : Nat) (o : Oper) cs b, ops[j]? = some o → o.op ≠ .select cs b) :
    ∀ (f : Nat) (listed : Array Bool) (a : Act) (w : World),
      (∀ j oj, ops[j]? = some oj → j ≠ i → listed.getD j true = false → (∀ e ∈ oj.after, Region.binds md e = true → e.on ≠ i) → oi.apart ops oj = true) →
      i ∈ Region.ready md ops listed → YieldsRP P ops oi v a →
      wpDP P md ops Q f (listed.setIfInBounds i true) (a.put oi.dst v) w → wpDP P md ops Q (f + 1) listed a w := by
  intro f
  induction f with
  | zero =>
    intro listed a w _ hr hy H
    refine ⟨fun h => (by rw [h] at hr; cases hr), fun j hj => ?_⟩
    by_cases hji : j = i
    · subst hji; exact hy.wpOp hi H
    · have := ready_mono hj hji
      rw [H.1] at this
      cases this
  | succ f ih =>
    intro listed a w hfree hr hy H
    refine ⟨fun h => (by rw [h] at hr; cases hr), fun j hj => ?_⟩
    by_cases hji : j = i
    · subst hji; exact hy.wpOp hi H
    · have h1 := H.2 j (ready_mono hj hji)
      obtain ⟨hjun, oj, hoj, hall⟩ := mem_ready.1 hj
      have hnot : ∀ e ∈ oj.after, Region.binds md e = true → e.on ≠ i := fun e he hb heq => by
        have h1 := hall e he hb
        have h0 := (mem_ready.1 hr).1
        rw [heq] at h1
        rw [getD_both h0] at h1
        cases h1
      have h2 := wpOpR_putP hoj (hfree j oj hoj hji hjun hnot) (fun cs b => hsel i oi cs b hi) (fun cs b => hsel j oj cs b hoj) hy h1
      have hfree' : ∀ k ok, ops[k]? = some ok → k ≠ i → (listed.setIfInBounds j true).getD k true = false →
          (∀ e ∈ ok.after, Region.binds md e = true → e.on ≠ i) → oi.apart ops ok = true := fun k ok hk hki hun hno => by
        refine hfree k ok hk hki ?_ hno
        by_cases hjk : j = k
        · subst hjk; exact hjun
        · rw [getD_set_ne true hjk] at hun; exact hun
      refine wpOp_mono (fun a' w' h3 => ih (listed.setIfInBounds j true) a' w' hfree' (ready_mono hr (Ne.symm hji)) h3.1 ?_) h2
      rw [Array.setIfInBounds_comm _ _ hji]
      exact h3.2
/-- what an operation of the forced order leaves -/
def ChainPostP (K : Act → World → Prop) (e : Exit) (a' : Act) (w' : World) : Prop := e = .normal ∧ K a' w'
theorem ChainPostP.mk {w' : World} {K : Act → World → Prop} {a' : Act} (k : K a' w') : ChainPostP K .normal a' w' := ⟨rfl, k⟩
theorem wpD_chainP {f s : Nat} {os : Oper} {listed : Array Bool} {a : Act} {w : World} {K : Act → World → Prop} (hs : ops[s]? = some os) (hr : Region.ready md ops listed = [s])
    (h : wpList P ops (ChainPostP K) [os] a w) (hK : ∀ a' w', K a' w' → wpDP P md ops Q f (listed.setIfInBounds s true) a' w') : wpDP P md ops Q (f + 1) listed a w := by
  refine ⟨fun h0 => (by rw [h0] at hr; cases hr), fun i hi => ?_⟩
  rw [hr] at hi
  obtain rfl : i = s := by simpa using hi
  unfold wpOp
  simp only [hs]
  simp only [wpList] at h
  split
  · rename_i hw
    simp only [hw, if_true] at h
    rcases h with h | ⟨_, x, y, hl, _⟩
    · exact .inl (wp_exit (fun c a w hp => by cases hp.1) (fun (hl : LetsOut (ChainPostP K)) => by obtain ⟨_, _, hl, _⟩ := hl; cases hl) (fun a' w' hk => hK _ _ hk.2) h)
    · cases hl
  · rename_i hw
    simp only [hw] at h
    exact hK _ _ h.2
theorem wpD_floatsP {l : List Oper} {w : World} (hsel : Region.noSelect l.toArray = true) : ∀ (is : List Nat) (f : Nat) (listed : Array Bool) (a : Act), floatB md l is listed = true →
    wpQuiet P l.toArray (fun w' => ∃ p : World, w' = p) (fun a' => wpDP P md l.toArray Q f (setAll listed is) a' w) (is.map fun i => l.getD i noOp) a → wpDP P md l.toArray Q (is.length + f) listed a w
  | [], f, listed, a, _, h => by simpa [wpQuiet, setAll] using h
  | i :: r, f, listed, a, hB, h => by
    simp only [floatB, Bool.and_eq_true] at hB
    obtain ⟨⟨⟨h1, h2⟩, h3⟩, h4⟩ := hB
    obtain ⟨hi, hread⟩ := isSet_at h1
    have key : ∃ v, YieldsRP P l.toArray (l.getD i noOp) v a ∧ wpQuiet P l.toArray (fun w' => ∃ p : World, w' = p) (fun a' => wpDP P md l.toArray Q f (setAll (listed.setIfInBounds i true) r) a' w) (r.map fun i => l.getD i noOp) (a.put (l.getD i noOp).dst v) := by
      simp only [List.map_cons, wpQuiet] at h
      by_cases hw : Region.wanted (l.getD i noOp) (yielded l.toArray a.tmps) = true
      · simp only [hw, if_true] at h
        obtain ⟨v, hv, hk⟩ := h
        refine ⟨v, .inl ⟨hw, fun w1 => ?_⟩, hk⟩
        have h5 := hv w1 ⟨w1, rfl⟩
        unfold Oper.quietAt at h5
        generalize hrun : (execOp a.eval (l.getD i noOp)).run P w1 = x at h5
        cases x with
        | ok n w2 =>
          cases n <;> simp only [Oper.quietUpon] at h5
          case value u => obtain ⟨rfl, rfl⟩ := h5; exact .inl rfl
          case skip => obtain ⟨rfl, rfl⟩ := h5; exact .inr ⟨rfl, rfl⟩
          case enter g args => exact absurd hrun (noEnter hread)
        | halt x w2 => simp only [Oper.quietUpon] at h5
      · simp only [hw] at h
        exact ⟨undef, .inr ⟨by simpa using hw, rfl⟩, h⟩
    obtain ⟨v, hy, hk⟩ := key
    rw [show (i :: r).length + f = (r.length + f) + 1 from by simp only [List.length_cons]; omega]
    exact wpD_firstP hi (Region.noSelect_spec hsel) (r.length + f) listed a w (Region.free_spec hi h3) (by simpa using h2) hy (wpD_floatsP hsel r f _ _ h4 hk)
def treeWP (P : Program) (l : List Oper) (Q : Act → World → Prop) : MT → Act → World → Prop
  | .fin is, a, w => wpQuiet P l.toArray (fun w' => ∃ p : World, w' = p) (fun a' => Q a' w) (is.map fun i => l.getD i noOp) a
  | .one is s t, a, w => wpQuiet P l.toArray (fun w' => ∃ p : World, w' = p) (fun a' => wpList P l.toArray (ChainPostP (treeWP P l Q t)) [l.getD s noOp] a' w) (is.map fun i => l.getD i noOp) a
  | .two is s t s' t', a, w => wpQuiet P l.toArray (fun w' => ∃ p : World, w' = p) (fun a' => wpList P l.toArray (ChainPostP (treeWP P l Q t)) [l.getD s noOp] a' w ∧ wpList P l.toArray (ChainPostP (treeWP P l Q t')) [l.getD s' noOp] a' w) (is.map fun i => l.getD i noOp) a
theorem treeW_finP {l : List Oper} {is : List Nat} {a : Act} {w : World} (h : wpQuiet P l.toArray (fun w' => ∃ p : World, w' = p) (fun a' => Q a' w) (is.map fun i => l.getD i noOp) a) : treeWP P l Q (.fin is) a w := h
theorem treeW_oneP {l : List Oper} {is : List Nat} {s : Nat} {t : MT} {a : Act} {w : World}
    (h : wpQuiet P l.toArray (fun w' => ∃ p : World, w' = p) (fun a' => wpList P l.toArray (ChainPostP (treeWP P l Q t)) [l.getD s noOp] a' w) (is.map fun i => l.getD i noOp) a) : treeWP P l Q (.one is s t) a w := h
theorem treeW_twoP {l : List Oper} {is : List Nat} {s s' : Nat} {t t' : MT} {a : Act} {w : World}
    (h : wpQuiet P l.toArray (fun w' => ∃ p : World, w' = p) (fun a' => wpList P l.toArray (ChainPostP (treeWP P l Q t)) [l.getD s noOp] a' w ∧ wpList P l.toArray (ChainPostP (treeWP P l Q t')) [l.getD s' noOp] a' w) (is.map fun i => l.getD i noOp) a) : treeWP P l Q (.two is s t s' t') a w := h
theorem wpOp_chainP {f s : Nat} {os : Oper} {listed : Array Bool} {a : Act} {w : World} {K : Act → World → Prop} (hs : ops[s]? = some os)
    (h : wpList P ops (ChainPostP K) [os] a w) (hK : ∀ a' w', K a' w' → wpDP P md ops Q f (listed.setIfInBounds s true) a' w') : wpOp P ops QF s (fun a' w' => wpDP P md ops Q f (listed.setIfInBounds s true) a' w') a w := by
  unfold wpOp
  simp only [hs]
  simp only [wpList] at h
  split
  · rename_i hw
    simp only [hw, if_true] at h
    rcases h with h | ⟨_, x, y, hl, _⟩
    · exact .inl (wp_exit (fun c a w hp => by cases hp.1) (fun (hl : LetsOut (ChainPostP K)) => by obtain ⟨_, _, hl, _⟩ := hl; cases hl) (fun a' w' hk => hK _ _ hk.2) h)
    · cases hl
  · rename_i hw
    simp only [hw] at h
    exact hK _ _ h.2
theorem ready_getP {l : List Oper} {listed : Array Bool} {s : Nat} (hm : s ∈ Region.ready md l.toArray listed) : l.toArray[s]? = some (l.getD s noOp) := by
  obtain ⟨_, os, hos, _⟩ := mem_ready.1 hm
  have : l[s]? = some os := by simpa using hos
  simp [List.getD_eq_getElem?_getD, this]
theorem wpD_treeP {l : List Oper} (hsel : Region.noSelect l.toArray = true) : ∀ (T : MT) (listed : Array Bool) (a : Act) (w : World), treeB md l T listed = true → treeWP P l Q T a w → wpDP P md l.toArray Q (treeLen T) listed a w
  | .fin is, listed, a, w, hB, h => by
    simp only [treeB, Bool.and_eq_true] at hB
    have := wpD_floatsP (P := P) (Q := Q) (w := w) hsel is 0 listed a hB.1 (quiet_mono (fun a' h' => ⟨by simpa using hB.2, h'⟩) _ _ h)
    simpa [treeLen] using this
  | .one is s t, listed, a, w, hB, h => by
    simp only [treeB, Bool.and_eq_true, decide_eq_true_eq] at hB
    obtain ⟨⟨h1, h2⟩, h3⟩ := hB
    refine wpD_floatsP hsel is _ _ _ h1 (quiet_mono (fun a' h' => ?_) _ _ h)
    have hm : s ∈ Region.ready md l.toArray (setAll listed is) := by rw [h2]; simp
    exact wpD_chainP (ready_getP hm) h2 h' (fun a2 w2 hk => wpD_treeP hsel t _ a2 w2 h3 hk)
  | .two is s t s' t', listed, a, w, hB, h => by
    simp only [treeB, Bool.and_eq_true, decide_eq_true_eq] at hB
    obtain ⟨⟨⟨h1, h2⟩, hlen⟩, h3, h4⟩ := hB
    refine wpD_floatsP hsel is _ _ _ h1 (quiet_mono (fun a' h' => ?_) _ _ h)
    have hm : s ∈ Region.ready md l.toArray (setAll listed is) := by rw [h2]; simp
    have hm' : s' ∈ Region.ready md l.toArray (setAll listed is) := by rw [h2]; simp
    refine ⟨fun h0 => (by rw [h0] at hm; cases hm), fun i hi => ?_⟩
    rw [h2] at hi
    rcases List.mem_cons.1 hi with rfl | hi
    · exact wpOp_chainP (ready_getP hm) h'.1 (fun a2 w2 hk => wpD_treeP hsel t _ a2 w2 h3 hk)
    · obtain rfl : i = s' := by simpa using hi
      exact wpOp_chainP (ready_getP hm') h'.2 (fun a2 w2 hk => by rw [hlen]; exact wpD_treeP hsel t' _ a2 w2 h4 hk)
/-- the region, walked along the tree T of its orders -/
theorem wp_region_treeP {id : Nat} {Q : Exit → Act → World → Prop} {a : Act} {w : World} {l : List Oper} (T : MT) (hm : P.follows .mixedOrders = true)
    (hB : (Region.noSelect l.toArray && decide (treeLen T = l.length) && treeB .any l T (Array.replicate l.length false)) = true)
    (h : treeWP P l (fun a' w' => Q .normal a' w') T a w.drew) : (Code.region id l.toArray true).wp P Q a w := by
  simp only [Bool.and_eq_true, decide_eq_true_eq] at hB
  obtain ⟨⟨hsel, hlen⟩, hmix⟩ := hB
  refine wp_region_any hm (wpAny_of_DP (Q := fun a' w' => Q .normal a' w') (fun _ _ h => h) _ _ _ _ ?_)
  have := wpD_treeP (Q := fun a' w' => Q .normal a' w') hsel T _ a w.drew hmix h
  rw [hlen] at this
  simpa using this
end
end Go.Proofs.Ytallgjobljkgnaa
