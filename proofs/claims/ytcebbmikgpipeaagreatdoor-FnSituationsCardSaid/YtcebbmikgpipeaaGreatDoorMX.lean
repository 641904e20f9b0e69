/-
  A region that draws its order: reads that float, and calls or allocations in one forced order between them, walked in one order. Conditions: what floats only reads; the rest keeps all that there was.
-/
import Derived.Test.YtcebbmikgpipeaaGreatDoorQT
namespace Go.Proofs.YtcebbmikgpipeaaGreatDoor
open Go Go.RowKit

def isRead (o : Oper) : Bool := match o.op with
  | .move _ | .assign _ | .pick _ _ _ | .load _ _ | .binOp _ _ _ _ _ | .unOp _ _ _ | .convert _ _ _ | .slice _ _ _ _ _ | .fieldAddr _ _ _ | .field _ _ _ | .indexAddr _ _ _ | .index _ _ _ | .extract _ _ => true
  | _ => false
section
variable {P : Program} {ops : Array Oper} {md : Region.Mode} {Q : Act → World → Prop}
theorem v_noEnter {s : Sem Value} {w w' : World} {f : FuncId} {args : Array Value} : (do pure (Next.value (← s)) : Sem Next).run P w ≠ .ok (.enter f args) w' := by
  intro h
  rw [Sem.run_bind] at h
  cases hs : s.run P w with
  | ok v w1 => rw [hs] at h; simp [Result.andThen, Sem.run_pure] at h
  | halt x w1 => rw [hs] at h; simp [Result.andThen] at h
theorem noEnter {o : Oper} (h : isRead o = true) {ρ : Operand → Value} {w w' : World} {f : FuncId} {args : Array Value} : (execOp ρ o).run P w ≠ .ok (.enter f args) w' := by
  obtain ⟨dst, op, type, pos, after, guard⟩ := o
  cases op <;> first | (simp [isRead] at h; done) | skip
  all_goals simp only [execOp]
  all_goals first
    | exact v_noEnter
    | (intro h; simp [Sem.run_pure] at h; done)
    | skip
  intro h
  rename_i c a b hh
  rw [Sem.run_bind] at h
  cases hs : (asBool (ρ c)).run P w with
  | ok v w1 => rw [hs] at h; simp [Result.andThen, Sem.run_pure] at h
  | halt x w1 => rw [hs] at h; simp [Result.andThen] at h
abbrev QF : Exit → Act → World → Prop := fun _ _ _ => False
/-- in every world that keeps what W0 has, the operation only reads, and yields v -/
def YieldsR (P : Program) (ops : Array Oper) (W0 : World) (o : Oper) (v : Value) (a : Act) : Prop :=
  (Region.wanted o (yielded ops a.tmps) = true ∧ ∀ w, Below W0.heap.size W0 w → ((execOp a.eval o).run P w = .ok (.value v) w ∨ ((execOp a.eval o).run P w = .ok .skip w ∧ v = undef))) ∨
  (Region.wanted o (yielded ops a.tmps) = false ∧ v = undef)
theorem YieldsR.wpOp {W0 w : World} {i : Nat} {o : Oper} {v : Value} {a : Act} {Q' : Exit → Act → World → Prop} (hi : ops[i]? = some o) (hy : YieldsR P ops W0 o v a) (hb : Below W0.heap.size W0 w) {K : Act → World → Prop} (h : K (a.put o.dst v) w) : wpOp P ops Q' i K a w := by
  unfold Go.wpOp
  simp only [hi]
  rcases hy with ⟨hw, hv⟩ | ⟨hw, rfl⟩
  · rcases hv w hb with h1 | ⟨h1, rfl⟩
    · simp only [hw, if_true, Oper.wp, h1, Oper.upon]; exact .inl h
    · simp only [hw, if_true, Oper.wp, h1, Oper.upon]; exact .inl h
  · simp only [hw, Bool.false_eq_true, if_false]; exact h
theorem YieldsR.of_same {W0 : World} {o : Oper} {v : Value} {a a' : Act} (hy : YieldsR P ops W0 o v a) (he : execOp a'.eval o = execOp a.eval o)
    (hw : Region.wanted o (yielded ops a'.tmps) = Region.wanted o (yielded ops a.tmps)) : YieldsR P ops W0 o v a' := by
  unfold YieldsR at *
  rw [he, hw]
  exact hy
theorem wpOpR_put {W0 w : World} {j : Nat} {oi oj : Oper} {v : Value} (hj : ops[j]? = some oj) (hap : oi.apart ops oj = true)
    (hsi : ∀ cs b, oi.op ≠ .select cs b) (hsj : ∀ cs b, oj.op ≠ .select cs b) {K : Act → World → Prop} {a : Act}
    (hy : YieldsR P ops W0 oi v a) (h : wpOp P ops QF j K (a.put oi.dst v) w) :
    wpOp P ops QF j (fun a' w' => YieldsR P ops W0 oi v a' ∧ K (a'.put oi.dst v) w') a w := by
  obtain ⟨h1, h2, h3⟩ := Oper.apart_spec hap
  have keep : ∀ (a : Act), YieldsR P ops W0 oi v a → ∀ u, YieldsR P ops W0 oi v (a.put oj.dst u) := fun a hy u =>
    hy.of_same (execOp_put oi hsi a oj.dst u h3) (wanted_put oi a oj.dst u h3)
  have keepD : ∀ d, YieldsR P ops W0 oi v { a with defers := d :: a.defers } := fun d => hy.of_same rfl rfl
  unfold wpOp at *
  simp only [hj] at *
  rw [wanted_put oj a oi.dst v h1] at h
  split
  · rename_i hw
    simp only [hw, if_true] at h
    rcases h with h | ⟨hasks, hlets⟩
    case inr => exact .inr ⟨by unfold Oper.asks at *; rw [execOp_put oj hsj a oi.dst v h1] at hasks; exact hasks, hlets⟩
    refine .inl ?_
    unfold Oper.wp at *
    rw [execOp_put oj hsj a oi.dst v h1] at h
    generalize (execOp a.eval oj).run P w = r at *
    cases r with
    | ok n w' =>
      cases n <;> simp only [Oper.upon] at h ⊢
      case value u => exact ⟨keep a hy u, by rw [← Act.put_comm a v u h2]; exact h⟩
      case skip => exact ⟨keep a hy _, by rw [← Act.put_comm a v undef h2]; exact h⟩
      case defer d =>
        refine ⟨keep _ (keepD d) _, ?_⟩
        rw [← Act.put_comm _ v undef h2, ← Act.put_defers]
        exact h
      case enter f args =>
        refine Calls.mono h fun e w'' he => ?_
        cases e with
        | returned u => exact ⟨keep a hy u, by rw [← Act.put_comm a v u h2]; exact he⟩
        | panicked c => exact he
        | outgrown => exact he
      case row row args => exact Rows.mono h fun u w'' he => ⟨keep a hy u, by rw [← Act.put_comm a v u h2]; exact he⟩
    | halt x w' =>
      cases x <;> simp only [Oper.upon] at h ⊢ <;> exact h
  · rename_i hw
    simp only [hw] at h
    exact ⟨keep a hy _, by rw [← Act.put_comm a v undef h2]; exact h⟩
/-- whatever order is picked from here on, each step keeping all that there is -/
def wpD (P : Program) (md : Region.Mode) (ops : Array Oper) (Q : Act → World → Prop) : Nat → Array Bool → Act → World → Prop
  | 0, listed, a, w => Region.ready md ops listed = [] ∧ Q a w
  | f + 1, listed, a, w => (Region.ready md ops listed = [] → Q a w) ∧ ∀ i ∈ Region.ready md ops listed, wpOp P ops QF i (fun a' w' => Below w.heap.size w w' ∧ wpD P md ops Q f (listed.setIfInBounds i true) a' w') a w
theorem wp_exit {o : Oper} {a : Act} {w : World} {K K' : Act → World → Prop} {Q1 Q2 : Exit → Act → World → Prop} (hp : ∀ c a w, ¬ Q1 (.panic c) a w) (hl : ¬ LetsOut Q1) (h : ∀ a w, K a w → K' a w) (hh : o.wp P a w K Q1) : o.wp P a w K' Q2 := by
  unfold Oper.wp at *
  generalize (execOp a.eval o).run P w = r at *
  cases r with
  | ok n w' =>
    cases n <;> simp only [Oper.upon] at hh ⊢ <;>
      first
        | exact h _ _ hh
        | exact Calls.mono hh (fun e w'' he => by cases e <;> first | exact h _ _ he | exact absurd he (hp _ _ _) | exact absurd he hl)
        | exact Rows.mono hh (fun _ _ he => h _ _ he)
  | halt x w' => cases x <;> simp only [Oper.upon] at hh ⊢; exact absurd hh (hp _ _ _)
theorem letsF : ¬ LetsOut QF := fun ⟨_, _, h⟩ => h
theorem wpOp_exit {i : Nat} {a : Act} {w : World} {K K' : Act → World → Prop} {Q2 : Exit → Act → World → Prop} (h : ∀ a w, K a w → K' a w) (hh : wpOp P ops QF i K a w) : wpOp P ops Q2 i K' a w := by
  unfold wpOp at *
  split
  · exact h _ _ (by simpa [*] using hh)
  · rename_i o ho
    simp only [ho] at hh
    split
    · rename_i hw; simp only [hw, if_true] at hh; exact hh.imp (wp_exit (fun _ _ _ h => h) letsF h) (fun x => absurd x.2 letsF)
    · rename_i hw; simp only [hw] at hh; exact h _ _ hh
theorem wpAny_of_D {Q' : Exit → Act → World → Prop} (hQ : ∀ a w, Q a w → Q' .normal a w) : ∀ (f : Nat) (listed : Array Bool) (a : Act) (w : World), wpD P md ops Q f listed a w → wpAny P md ops Q' f listed a w
  | 0, _, _, _, h => ⟨h.1, hQ _ _ h.2⟩
  | f + 1, _, _, _, h => ⟨fun h0 => hQ _ _ (h.1 h0), fun i hi => wpOp_exit (fun a' w' h' => wpAny_of_D hQ f _ a' w' h'.2) (h.2 i hi)⟩
theorem wpD_first {W0 : World} {i : Nat} {oi : Oper} {v : Value} (hi : ops[i]? = some oi) (hsel : ∀ (j : Nat) (o : Oper) cs b, ops[j]? = some o → o.op ≠ .select cs b) :
    ∀ (f : Nat) (listed : Array Bool) (a : Act) (w : World), Below W0.heap.size W0 w →
      (∀ j oj, ops[j]? = some oj → j ≠ i → listed.getD j true = false → (∀ e ∈ oj.after, Region.binds md e = true → e.on ≠ i) → oi.apart ops oj = true) →
      i ∈ Region.ready md ops listed → YieldsR P ops W0 oi v a →
      wpD P md ops Q f (listed.setIfInBounds i true) (a.put oi.dst v) w → wpD P md ops Q (f + 1) listed a w := by
  intro f
  induction f with
  | zero =>
    intro listed a w hW _ hr hy H
    refine ⟨fun h => (by rw [h] at hr; cases hr), fun j hj => ?_⟩
    by_cases hji : j = i
    · subst hji; exact hy.wpOp hi hW ⟨Below.refl _ _, H⟩
    · have := ready_mono hj hji
      rw [H.1] at this
      cases this
  | succ f ih =>
    intro listed a w hW hfree hr hy H
    refine ⟨fun h => (by rw [h] at hr; cases hr), fun j hj => ?_⟩
    by_cases hji : j = i
    · subst hji; exact hy.wpOp hi hW ⟨Below.refl _ _, H⟩
    · have h1 := H.2 j (ready_mono hj hji)
      obtain ⟨hjun, oj, hoj, hall⟩ := mem_ready.1 hj
      have hnot : ∀ e ∈ oj.after, Region.binds md e = true → e.on ≠ i := fun e he hb heq => by
        have h1 := hall e he hb
        have h0 := (mem_ready.1 hr).1
        rw [heq] at h1
        rw [getD_both h0] at h1
        cases h1
      have h2 := wpOpR_put hoj (hfree j oj hoj hji hjun hnot) (fun cs b => hsel i oi cs b hi) (fun cs b => hsel j oj cs b hoj) hy h1
      have hfree' : ∀ k ok, ops[k]? = some ok → k ≠ i → (listed.setIfInBounds j true).getD k true = false →
          (∀ e ∈ ok.after, Region.binds md e = true → e.on ≠ i) → oi.apart ops ok = true := fun k ok hk hki hun hno => by
        refine hfree k ok hk hki ?_ hno
        by_cases hjk : j = k
        · subst hjk; exact hjun
        · rw [getD_set_ne true hjk] at hun; exact hun
      refine wpOp_mono (fun a' w' h3 => ⟨h3.2.1, ih (listed.setIfInBounds j true) a' w' (bstep hW h3.2.1) hfree' (ready_mono hr (Ne.symm hji)) h3.1 ?_⟩) h2
      rw [Array.setIfInBounds_comm _ _ hji]
      exact h3.2.2
/-- what an operation of the forced order leaves -/
def ChainPost (w : World) (K : Act → World → Prop) (e : Exit) (a' : Act) (w' : World) : Prop := e = .normal ∧ Below w.heap.size w w' ∧ K a' w'
theorem ChainPost.mk {w w' : World} {K : Act → World → Prop} {a' : Act} (h : Below w.heap.size w w') (k : K a' w') : ChainPost w K .normal a' w' := ⟨rfl, h, k⟩
theorem wpD_chain {f s : Nat} {os : Oper} {listed : Array Bool} {a : Act} {w : World} {K : Act → World → Prop} (hs : ops[s]? = some os) (hr : Region.ready md ops listed = [s])
    (h : wpList P ops (ChainPost w K) [os] a w) (hK : ∀ a' w', K a' w' → wpD P md ops Q f (listed.setIfInBounds s true) a' w') : wpD P md ops Q (f + 1) listed a w := by
  refine ⟨fun h0 => (by rw [h0] at hr; cases hr), fun i hi => ?_⟩
  rw [hr] at hi
  obtain rfl : i = s := by simpa using hi
  unfold wpOp
  simp only [hs]
  simp only [wpList] at h
  split
  · rename_i hw
    simp only [hw, if_true] at h
    rcases h with h | ⟨_, x, y, hl, _⟩
    · exact .inl (wp_exit (fun c a w hp => by cases hp.1) (fun (hl : LetsOut (ChainPost w K)) => by obtain ⟨_, _, hl, _⟩ := hl; cases hl) (fun a' w' hk => ⟨hk.2.1, hK _ _ hk.2.2⟩) h)
    · cases hl
  · rename_i hw
    simp only [hw] at h
    exact ⟨h.2.1, hK _ _ h.2.2⟩
def isSet (l : List Oper) (i : Nat) : Bool := match l[i]? with | some o => isRead o | none => false
def setAll (listed : Array Bool) : List Nat → Array Bool
  | [] => listed
  | i :: r => setAll (listed.setIfInBounds i true) r
def floatB (md : Region.Mode) (l : List Oper) : List Nat → Array Bool → Bool
  | [], _ => true
  | i :: r, listed => isSet l i && (Region.ready md l.toArray listed).contains i && Region.free md l.toArray listed i && floatB md l r (listed.setIfInBounds i true)
def mixB (md : Region.Mode) (l : List Oper) : List (List Nat × Option Nat) → Array Bool → Bool
  | [], listed => (Region.ready md l.toArray listed).isEmpty
  | (is, none) :: r, listed => floatB md l is listed && mixB md l r (setAll listed is)
  | (is, some s) :: r, listed => floatB md l is listed && decide (Region.ready md l.toArray (setAll listed is) = [s]) && mixB md l r ((setAll listed is).setIfInBounds s true)
def noOp : Oper := ⟨none, .move (.const undef), 0, "", #[], none⟩
def mixW (P : Program) (l : List Oper) (Q : Act → World → Prop) : List (List Nat × Option Nat) → Act → World → Prop
  | [], a, w => Q a w
  | (is, none) :: r, a, w => wpQuiet P l.toArray (fun w' => ∃ p : BG, w' = bel w p) (fun a' => mixW P l Q r a' w) (is.map fun i => l.getD i noOp) a
  | (is, some s) :: r, a, w => wpQuiet P l.toArray (fun w' => ∃ p : BG, w' = bel w p) (fun a' => wpList P l.toArray (ChainPost w (mixW P l Q r)) [l.getD s noOp] a' w) (is.map fun i => l.getD i noOp) a
theorem mixW_some {l : List Oper} {is : List Nat} {s : Nat} {r : List (List Nat × Option Nat)} {a : Act} {w : World}
    (h : wpQuiet P l.toArray (fun w' => ∃ p : BG, w' = bel w p) (fun a' => wpList P l.toArray (ChainPost w (mixW P l Q r)) [l.getD s noOp] a' w) (is.map fun i => l.getD i noOp) a) : mixW P l Q ((is, some s) :: r) a w := h
theorem mixW_none {l : List Oper} {is : List Nat} {r : List (List Nat × Option Nat)} {a : Act} {w : World}
    (h : wpQuiet P l.toArray (fun w' => ∃ p : BG, w' = bel w p) (fun a' => mixW P l Q r a' w) (is.map fun i => l.getD i noOp) a) : mixW P l Q ((is, none) :: r) a w := h
theorem mixW_nil {l : List Oper} {a : Act} {w : World} (h : Q a w) : mixW P l Q [] a w := h
def mixLen : List (List Nat × Option Nat) → Nat
  | [] => 0
  | (is, none) :: r => is.length + mixLen r
  | (is, some _) :: r => is.length + (mixLen r + 1)
theorem isSet_at {l : List Oper} {i : Nat} (h : isSet l i = true) : l.toArray[i]? = some (l.getD i noOp) ∧ isRead (l.getD i noOp) = true := by
  unfold isSet at h
  cases hl : l[i]? with
  | none => rw [hl] at h; cases h
  | some o => rw [hl] at h; simp [hl, List.getD_eq_getElem?_getD]; exact h
theorem wpD_floats {l : List Oper} {w : World} (hsel : Region.noSelect l.toArray = true) : ∀ (is : List Nat) (f : Nat) (listed : Array Bool) (a : Act), floatB md l is listed = true →
    wpQuiet P l.toArray (fun w' => ∃ p : BG, w' = bel w p) (fun a' => wpD P md l.toArray Q f (setAll listed is) a' w) (is.map fun i => l.getD i noOp) a → wpD P md l.toArray Q (is.length + f) listed a w
  | [], f, listed, a, _, h => by simpa [wpQuiet, setAll] using h
  | i :: r, f, listed, a, hB, h => by
    simp only [floatB, Bool.and_eq_true] at hB
    obtain ⟨⟨⟨h1, h2⟩, h3⟩, h4⟩ := hB
    obtain ⟨hi, hread⟩ := isSet_at h1
    have key : ∃ v, YieldsR P l.toArray w (l.getD i noOp) v a ∧ wpQuiet P l.toArray (fun w' => ∃ p : BG, w' = bel w p) (fun a' => wpD P md l.toArray Q f (setAll (listed.setIfInBounds i true) r) a' w) (r.map fun i => l.getD i noOp) (a.put (l.getD i noOp).dst v) := by
      simp only [List.map_cons, wpQuiet] at h
      by_cases hw : Region.wanted (l.getD i noOp) (yielded l.toArray a.tmps) = true
      · simp only [hw, if_true] at h
        obtain ⟨v, hv, hk⟩ := h
        refine ⟨v, .inl ⟨hw, fun w1 hw1 => ?_⟩, hk⟩
        have h5 := hv w1 (bel_of hw1)
        unfold Oper.quietAt at h5
        generalize hrun : (execOp a.eval (l.getD i noOp)).run P w1 = x at h5
        cases x with
        | ok n w2 =>
          cases n <;> simp only [Oper.quietUpon] at h5
          case value u => obtain ⟨rfl, rfl⟩ := h5; exact .inl rfl
          case skip => obtain ⟨rfl, rfl⟩ := h5; exact .inr ⟨rfl, rfl⟩
          case enter g args => exact absurd hrun (noEnter hread)
        | halt x w2 => simp only [Oper.quietUpon] at h5
      · simp only [hw] at h
        exact ⟨undef, .inr ⟨by simpa using hw, rfl⟩, h⟩
    obtain ⟨v, hy, hk⟩ := key
    rw [show (i :: r).length + f = (r.length + f) + 1 from by simp only [List.length_cons]; omega]
    exact wpD_first hi (Region.noSelect_spec hsel) (r.length + f) listed a w (Below.refl _ _) (Region.free_spec hi h3) (by simpa using h2) hy (wpD_floats hsel r f _ _ h4 hk)
theorem quiet_mono {C : World → Prop} {K K' : Act → Prop} (hk : ∀ a, K a → K' a) : ∀ (l : List Oper) (a : Act), wpQuiet P ops C K l a → wpQuiet P ops C K' l a
  | [], _, h => hk _ h
  | o :: r, a, h => by
    unfold wpQuiet at h ⊢
    split
    · rename_i hw; rw [if_pos hw] at h; exact Oper.quiet_mono (fun a' => quiet_mono hk r a') h
    · rename_i hw; rw [if_neg hw] at h; exact quiet_mono hk r _ h
theorem wpD_mix {l : List Oper} (hsel : Region.noSelect l.toArray = true) : ∀ (π : List (List Nat × Option Nat)) (listed : Array Bool) (a : Act) (w : World), mixB md l π listed = true → mixW P l Q π a w → wpD P md l.toArray Q (mixLen π) listed a w
  | [], listed, a, w, hB, h => ⟨by simpa [mixB] using hB, h⟩
  | (is, none) :: r, listed, a, w, hB, h => by
    simp only [mixB, Bool.and_eq_true] at hB
    exact wpD_floats hsel is _ _ _ hB.1 (quiet_mono (fun a' h' => wpD_mix hsel r _ a' w hB.2 h') _ _ h)
  | (is, some s) :: r, listed, a, w, hB, h => by
    simp only [mixB, Bool.and_eq_true, decide_eq_true_eq] at hB
    obtain ⟨⟨h1, h2⟩, h3⟩ := hB
    refine wpD_floats hsel is _ _ _ h1 (quiet_mono (fun a' h' => ?_) _ _ h)
    have hm : s ∈ Region.ready md l.toArray (setAll listed is) := by rw [h2]; simp
    obtain ⟨_, os, hos, _⟩ := mem_ready.1 hm
    have he : l.getD s noOp = os := by
      have : l[s]? = some os := by simpa using hos
      simp [List.getD_eq_getElem?_getD, this]
    rw [he] at h'
    exact wpD_chain hos h2 h' (fun a2 w2 hk => wpD_mix hsel r _ a2 w2 h3 hk)
theorem ready_done {f : Nat} {listed : Array Bool} {a : Act} {w : World} (h : wpD P md ops Q f listed a w) : wpD P md ops Q f listed a w := h
/-- the region, walked in the order of π: between the operations of the forced order what only reads, as soon as it can -/
theorem wp_region_mix {id : Nat} {Q : Exit → Act → World → Prop} {a : Act} {w : World} {l : List Oper} (π : List (List Nat × Option Nat)) (hm : P.follows .mixedOrders = true)
    (hB : (Region.noSelect l.toArray && decide (mixLen π = l.length) && mixB .any l π (Array.replicate l.length false)) = true)
    (h : ∀ w1, Below w.heap.size w w1 → mixW P l (fun a' w' => Q .normal a' w') π a w1) : (Code.region id l.toArray true).wp P Q a w := by
  simp only [Bool.and_eq_true, decide_eq_true_eq] at hB
  obtain ⟨⟨hsel, hlen⟩, hmix⟩ := hB
  refine wp_region_any hm (wpAny_of_D (Q := fun a' w' => Q .normal a' w') (fun _ _ h => h) _ _ _ _ ?_)
  have := wpD_mix (Q := fun a' w' => Q .normal a' w') hsel π _ a w.drew hmix (h _ (bdrew (Below.refl _ _)))
  rw [hlen] at this
  simpa using this
end
end Go.Proofs.YtcebbmikgpipeaaGreatDoor
