/-
  A region that draws its order, whose operations each keep a class of worlds and yield something of a kind, whatever order is drawn: one look at each operation, under what it waits for. Conditions: each slot is written once; an operation reads what it waits for or what nobody has written before it.
-/
import Derived.Test.YtcebbmikgpipeaaGreatDoorMX
namespace Go.Proofs.YtcebbmikgpipeaaGreatDoor
open Go Go.RowKit

def edgesOf (o : Oper) : List Nat := (o.after.toList.filter (Region.binds .any)).map (·.on)
def laters (j : Nat) : List Oper → List Bool → List Bool
  | [], acc => acc
  | o :: r, acc => laters j r (acc ++ [acc.length == j || (edgesOf o).any (fun e => acc.getD e false)])
def maskT (V : Nat → Value) : Nat → List Value → List Bool → List Value
  | _, [], _ => []
  | k, _ :: xs, [] => V k :: maskT V (k + 1) xs []
  | k, x :: xs, b :: bs => (if b = true then x else V k) :: maskT V (k + 1) xs bs
def maskOkB (ops : List Oper) (L : List Bool) (m : List Bool) : Bool := (List.range ops.length).all fun i => match (ops.getD i noOp).dst with
  | none => true
  | some d => !(m.getD d false) || L.getD i false
def uniqB : List Oper → List Nat → Bool
  | [], _ => true
  | o :: r, seen => match o.dst with
    | none => uniqB r seen
    | some d => !seen.contains d && uniqB r (d :: seen)
def planB (ops : List Oper) : List (List Nat × List Bool) → Nat → Bool
  | [], k => k == ops.length
  | p :: ps, k => p.1.all (fun i => (edgesOf (ops.getD k noOp)).contains i) && maskOkB ops (laters k ops []) p.2 && planB ops ps (k + 1)
def topoB (ops : List Oper) : Bool := (List.range ops.length).all fun i => (edgesOf (ops.getD i noOp)).all fun e => decide (e < i)
def dstsB (ops : List Oper) (N : Nat) : Bool := ops.all fun o => match o.dst with
  | none => true
  | some d => decide (d < N)
def finB (ops : List Oper) (m : List Bool) : Bool := (List.range ops.length).all fun i => match (ops.getD i noOp).dst with
  | none => true
  | some d => !(m.getD d false)
def checkB (ops : List Oper) (N : Nat) (plan : List (List Nat × List Bool)) (fm : List Bool) : Bool :=
  Region.noSelect ops.toArray && uniqB ops [] && planB ops plan 0 && topoB ops && dstsB ops N && finB ops fm
abbrev Fact := Value → World → Prop
def factAt (Fs : List Fact) (i : Nat) : Fact := Fs.getD i (fun _ _ => True)
def deps (ops : List Oper) (Fs : List Fact) (V : Nat → Value) (w : World) : List Nat → Prop
  | [] => True
  | i :: r => (match (ops.getD i noOp).dst with | none => True | some d => factAt Fs i (V d) w) ∧ deps ops Fs V w r
def Stable (Le : World → World → Prop) (R : Fact) : Prop := ∀ v w w', Le w w' → R v w → R v w'
/-- what an operation leaves: the slot written, a value of the kind -/
def DP (a : Act) (dst : Option Tmp) (Rv : Fact) (e : Exit) (a' : Act) (w' : World) : Prop := e = .normal ∧ ∃ v, a' = a.put dst v ∧ Rv v w'
section
variable {P : Program} {Le : World → World → Prop} {G : Nat → World → Prop} {Q : Exit → Act → World → Prop}
def actT (a0 : Act) (V : Nat → Value) (m : List Bool) : Act := { a0 with tmps := (maskT V 0 a0.tmps.toList m).toArray }
def wpK (P : Program) (Le : World → World → Prop) (G : Nat → World → Prop) (Q : Exit → Act → World → Prop) (ops : List Oper) (a0 : Act) (fm : List Bool) : List Oper → List (List Nat × List Bool) → List Fact → Prop
  | o :: r, p :: ps, Fs => ∃ R : Fact, Stable Le R ∧
      (∀ V w k, k < ops.length → G k w → deps ops Fs V w p.1 → wpList P ops.toArray (DP (actT a0 V p.2) o.dst (fun v w' => Le w w' ∧ G (k + 1) w' ∧ R v w')) [o] (actT a0 V p.2) w) ∧
      wpK P Le G Q ops a0 fm r ps (Fs ++ [R])
  | _, _, Fs => ∀ V w, G ops.length w → deps ops Fs V w (List.range ops.length) → Q .normal (actT a0 V fm) w
theorem wpK_cons {ops : List Oper} {a0 : Act} {fm : List Bool} {o : Oper} {r : List Oper} {p : List Nat × List Bool} {ps : List (List Nat × List Bool)} {Fs : List Fact} (R : Fact)
    (h2 : ∀ V w k, k < ops.length → G k w → deps ops Fs V w p.1 → wpList P ops.toArray (DP (actT a0 V p.2) o.dst (fun v w' => Le w w' ∧ G (k + 1) w' ∧ R v w')) [o] (actT a0 V p.2) w)
    (h1 : Stable Le R) (h3 : wpK P Le G Q ops a0 fm r ps (Fs ++ [R])) : wpK P Le G Q ops a0 fm (o :: r) (p :: ps) Fs := ⟨R, h1, h2, h3⟩
theorem wpK_nil {ops : List Oper} {a0 : Act} {fm : List Bool} {Fs : List Fact}
    (h : ∀ V w, G ops.length w → deps ops Fs V w (List.range ops.length) → Q .normal (actT a0 V fm) w) : wpK P Le G Q ops a0 fm [] [] Fs := h

/-- what is listed is closed under what was waited for -/
def Closed (ops : List Oper) (listed : Array Bool) : Prop := ∀ i o, ops[i]? = some o → listed.getD i false = true → ∀ e ∈ edgesOf o, listed.getD e false = true
theorem later_sound {j : Nat} {listed : Array Bool} : ∀ (r : List Oper) (acc : List Bool) (ops : List Oper), (∀ k, r[k]? = ops[acc.length + k]?) → Closed ops listed →
    (∀ i, acc.getD i false = true → listed.getD i false = true → listed.getD j false = true) → ∀ i, (laters j r acc).getD i false = true → listed.getD i false = true → listed.getD j false = true
  | [], _, _, _, _, h => h
  | o :: r, acc, ops, hr, hc, h => by
    have ho : ops[acc.length]? = some o := by have := hr 0; simpa using this.symm
    refine later_sound r _ ops (fun k => ?_) hc (fun i hi hl => ?_)
    · have := hr (k + 1)
      simpa [Nat.add_assoc, Nat.add_comm 1 k] using this
    · by_cases hlt : i < acc.length
      · rw [List.getD_eq_getElem?_getD, List.getElem?_append_left hlt, ← List.getD_eq_getElem?_getD] at hi
        exact h i hi hl
      · rw [List.getD_eq_getElem?_getD, List.getElem?_append_right (by omega)] at hi
        by_cases he : i = acc.length
        · subst he
          simp only [Nat.sub_self, List.getElem?_cons_zero, Option.getD_some, Bool.or_eq_true, beq_iff_eq, List.any_eq_true] at hi
          rcases hi with rfl | ⟨e, he, hl2⟩
          · exact hl
          · exact h e hl2 (hc _ _ ho hl e he)
        · rw [List.getElem?_eq_none (by simp; omega)] at hi
          cases hi
structure InvD (G : Nat → World → Prop) (ops : List Oper) (a0 : Act) (Fs : List Fact) (k : Nat) (listed : Array Bool) (a : Act) (w : World) : Prop where
  g : G k w
  size : a.tmps.size = a0.tmps.size
  defers : a.defers = a0.defers
  closed : Closed ops listed
  facts : ∀ i o d, ops[i]? = some o → o.dst = some d → listed.getD i false = true → factAt Fs i (a.tmps.getD d undef) w
  still : ∀ d, (∀ i o, ops[i]? = some o → o.dst = some d → listed.getD i false = false) → a.tmps.getD d undef = a0.tmps.getD d undef
theorem maskT_length (V : Nat → Value) : ∀ (k : Nat) (xs : List Value) (m : List Bool), (maskT V k xs m).length = xs.length
  | _, [], _ => rfl
  | k, _ :: xs, [] => by simp [maskT, maskT_length V (k + 1) xs []]
  | k, x :: xs, b :: bs => by simp [maskT, maskT_length V (k + 1) xs bs]
theorem maskT_get (V : Nat → Value) : ∀ (k : Nat) (xs : List Value) (m : List Bool) (i : Nat) (h : i < xs.length), (maskT V k xs m)[i]? = some (if m.getD i false = true then xs[i] else V (k + i))
  | _, [], _, _, h => absurd h (by simp)
  | k, x :: xs, [], 0, _ => by simp [maskT]
  | k, x :: xs, [], i + 1, h => by
    have := maskT_get V (k + 1) xs [] i (by simpa using h)
    simp only [maskT, List.getElem?_cons_succ, this]
    simp [Nat.add_assoc, Nat.add_comm 1 i]
  | k, x :: xs, b :: bs, 0, _ => by simp [maskT]
  | k, x :: xs, b :: bs, i + 1, h => by
    have := maskT_get V (k + 1) xs bs i (by simpa using h)
    simp only [maskT, List.getElem?_cons_succ, this]
    simp [Nat.add_assoc, Nat.add_comm 1 i]
theorem act_is {a a0 : Act} {m : List Bool} (hs : a.tmps.size = a0.tmps.size) (hd : a.defers = a0.defers) (h : ∀ d, m.getD d false = true → a.tmps.getD d undef = a0.tmps.getD d undef) :
    a = actT a0 (fun d => a.tmps.getD d undef) m := by
  obtain ⟨t, df⟩ := a
  obtain ⟨t0, df0⟩ := a0
  simp only at hs hd h
  subst hd
  unfold actT
  simp only [Act.mk.injEq, and_true]
  apply Array.ext_getElem?
  intro i
  by_cases hi : i < t.size
  · have hi0 : i < t0.toList.length := by simp; omega
    rw [show (maskT (fun d => t.getD d undef) 0 t0.toList m).toArray[i]? = (maskT (fun d => t.getD d undef) 0 t0.toList m)[i]? from by simp, maskT_get _ _ _ _ _ hi0]
    have hD : t.getD i undef = t[i] := by simp [Array.getD, hi]
    have hD0 : t0.getD i undef = t0[i]'(by omega) := by simp [Array.getD, show i < t0.size by omega]
    rw [Array.getElem?_eq_getElem hi]
    congr 1
    by_cases hm : m.getD i false = true
    · rw [if_pos hm]
      have := h i hm
      rw [hD, hD0] at this
      simpa using this
    · rw [if_neg hm]
      simp [hD]
  · rw [Array.getElem?_eq_none (by omega), List.getElem?_toArray, List.getElem?_eq_none (by rw [maskT_length]; simp; omega)]
theorem deps_of {ops : List Oper} {Fs : List Fact} {V : Nat → Value} {w : World} : ∀ (A : List Nat), (∀ i ∈ A, ∀ o d, ops[i]? = some o → o.dst = some d → factAt Fs i (V d) w) → deps ops Fs V w A
  | [], _ => trivial
  | i :: r, h => by
    refine ⟨?_, deps_of r (fun i hi => h i (List.mem_cons_of_mem _ hi))⟩
    split
    · trivial
    · rename_i d hd
      cases ho : ops[i]? with
      | none => simp [List.getD_eq_getElem?_getD, ho, noOp] at hd
      | some o => exact h i (List.mem_cons_self ..) o d ho (by simpa [List.getD_eq_getElem?_getD, ho] using hd)
theorem planB_at {ops : List Oper} : ∀ (plan : List (List Nat × List Bool)) (k : Nat), planB ops plan k = true → k + plan.length = ops.length ∧ ∀ i p, plan[i]? = some p →
    (∀ e ∈ p.1, e ∈ edgesOf (ops.getD (k + i) noOp)) ∧ maskOkB ops (laters (k + i) ops []) p.2 = true
  | [], k, h => ⟨by simpa [planB] using h, fun i p hp => by simp at hp⟩
  | q :: ps, k, h => by
    simp only [planB, Bool.and_eq_true, List.all_eq_true, List.contains_iff_mem] at h
    obtain ⟨⟨h1, h2⟩, h3⟩ := h
    obtain ⟨h4, h5⟩ := planB_at ps (k + 1) h3
    refine ⟨by simp; omega, fun i p hp => ?_⟩
    cases i with
    | zero => simp at hp; subst hp; exact ⟨by simpa using h1, by simpa using h2⟩
    | succ i =>
      have := h5 i p (by simpa using hp)
      rw [show k + (i + 1) = k + 1 + i by omega]
      exact this
theorem uniqB_at : ∀ (ops : List Oper) (seen : List Nat), uniqB ops seen = true → (∀ (i : Nat) (o : Oper) (d : Nat), ops[i]? = some o → o.dst = some d → d ∉ seen) ∧ ∀ (i j : Nat) (o o' : Oper) (d : Nat), ops[i]? = some o → ops[j]? = some o' → o.dst = some d → o'.dst = some d → i = j
  | [], _, _ => ⟨fun i o d h => by simp at h, fun i j o o' d h => by simp at h⟩
  | q :: r, seen, h => by
    unfold uniqB at h
    split at h
    · rename_i hq
      obtain ⟨h1, h2⟩ := uniqB_at r seen h
      refine ⟨fun i o d ho hd => ?_, fun i j o o' d hi hj hd hd' => ?_⟩
      · cases i with
        | zero => simp at ho; subst ho; rw [hq] at hd; cases hd
        | succ i => exact h1 i o d (by simpa using ho) hd
      · cases i with
        | zero => simp at hi; subst hi; rw [hq] at hd; cases hd
        | succ i =>
          cases j with
          | zero => simp at hj; subst hj; rw [hq] at hd'; cases hd'
          | succ j => rw [h2 i j o o' d (by simpa using hi) (by simpa using hj) hd hd']
    · rename_i c hq
      simp only [Bool.and_eq_true, Bool.not_eq_true'] at h
      obtain ⟨h1, h2⟩ := uniqB_at r (c :: seen) h.2
      refine ⟨fun i o d ho hd => ?_, fun i j o o' d hi hj hd hd' => ?_⟩
      · cases i with
        | zero => simp at ho; subst ho; rw [hq] at hd; cases hd; simpa using h.1
        | succ i => exact fun hm => h1 i o d (by simpa using ho) hd (List.mem_cons_of_mem _ hm)
      · cases i with
        | zero =>
          cases j with
          | zero => rfl
          | succ j =>
            simp at hi; subst hi; rw [hq] at hd; cases hd
            exact absurd (List.mem_cons_self ..) (h1 j o' c (by simpa using hj) hd')
        | succ i =>
          cases j with
          | zero =>
            simp at hj; subst hj; rw [hq] at hd'; cases hd'
            exact absurd (List.mem_cons_self ..) (h1 i o c (by simpa using hi) hd)
          | succ j => rw [h2 i j o o' d (by simpa using hi) (by simpa using hj) hd hd']
theorem deps_mono {ops : List Oper} {Fs Fs' : List Fact} {V : Nat → Value} {w : World} (h : ∀ i v w, factAt Fs i v w → factAt Fs' i v w) : ∀ (A : List Nat), deps ops Fs V w A → deps ops Fs' V w A
  | [], _ => trivial
  | i :: r, hd => by
    refine ⟨?_, deps_mono h r hd.2⟩
    have := hd.1
    cases h0 : (ops.getD i noOp).dst with
    | none => trivial
    | some d => rw [h0] at this; exact h _ _ _ this
theorem wpK_get {ops : List Oper} {a0 : Act} {fm : List Bool} : ∀ (r : List Oper) (ps : List (List Nat × List Bool)) (Fs : List Fact), r.length = ps.length → wpK P Le G Q ops a0 fm r ps Fs →
    ∃ Rs : List Fact, Rs.length = r.length ∧ (∀ i o p, r[i]? = some o → ps[i]? = some p → ∃ R, Rs[i]? = some R ∧ Stable Le R ∧
      ∀ V w k, k < ops.length → G k w → deps ops (Fs ++ Rs.take i) V w p.1 → wpList P ops.toArray (DP (actT a0 V p.2) o.dst (fun v w' => Le w w' ∧ G (k + 1) w' ∧ R v w')) [o] (actT a0 V p.2) w) ∧
      (∀ V w, G ops.length w → deps ops (Fs ++ Rs) V w (List.range ops.length) → Q .normal (actT a0 V fm) w)
  | [], [], Fs, _, h => ⟨[], rfl, fun i o p hi => by simp at hi, by rw [List.append_nil]; exact h⟩
  | [], _ :: _, _, hl, _ => by simp at hl
  | _ :: _, [], _, hl, _ => by simp at hl
  | o :: r, p :: ps, Fs, hl, h => by
    obtain ⟨R, h1, h2, h3⟩ := h
    obtain ⟨Rs, hlen, hs, hf⟩ := wpK_get r ps (Fs ++ [R]) (by simpa using hl) h3
    refine ⟨R :: Rs, by simp [hlen], fun i o' p' hi hp => ?_, fun V w hg hd => hf V w hg (by simpa using hd)⟩
    cases i with
    | zero =>
      simp at hi hp; subst hi; subst hp
      exact ⟨R, by simp, h1, by simpa using h2⟩
    | succ i =>
      obtain ⟨R', e1, e2, e3⟩ := hs i o' p' (by simpa using hi) (by simpa using hp)
      exact ⟨R', by simpa using e1, e2, by simpa using e3⟩
theorem wpOp_of_DP {ops : Array Oper} {j : Nat} {o : Oper} {a : Act} {w : World} {K : Act → World → Prop} {Rv : Fact} (hs : ops[j]? = some o) (h : wpList P ops (DP a o.dst Rv) [o] a w)
    (hK : ∀ v w', Rv v w' → K (a.put o.dst v) w') : wpOp P ops Q j K a w := by
  unfold wpOp
  simp only [hs]
  simp only [wpList] at h
  split
  · rename_i hw
    simp only [hw, if_true] at h
    rcases h with h | ⟨_, x, y, hl, _⟩
    · exact .inl (wp_exit (fun c a w hp => by cases hp.1) (fun (hl : LetsOut (DP a o.dst Rv)) => by obtain ⟨_, _, hl, _⟩ := hl; cases hl) (fun a' w' hk => by obtain ⟨_, v, rfl, hv⟩ := hk; exact hK v w' hv) h)
    · cases hl
  · rename_i hw
    simp only [hw] at h
    obtain ⟨_, v, e, hv⟩ := h
    have : (a.put o.dst undef) = a.put o.dst v := e
    rw [this]
    exact hK v w hv
theorem getD_set_eq {t : Array Value} {d : Nat} {v : Value} (h : d < t.size) : (t.setIfInBounds d v).getD d undef = v := by
  simp [Array.getD, h]
theorem getD_set_other {t : Array Value} {d e : Nat} {v : Value} (h : e ≠ d) : (t.setIfInBounds e v).getD d undef = t.getD d undef := by
  simp only [Array.getD_eq_getD_getElem?]
  rw [Array.getElem?_setIfInBounds_ne h]
theorem wpAny_inv {ops : List Oper} {a0 : Act} {fm : List Bool} {plan : List (List Nat × List Bool)} {Rs : List Fact} {N : Nat} (hN : a0.tmps.size = N)
    (hB : checkB ops N plan fm = true)
    (hstep : ∀ i o p, ops[i]? = some o → plan[i]? = some p → Stable Le (factAt Rs i) ∧
      ∀ V w k, k < ops.length → G k w → deps ops Rs V w p.1 → wpList P ops.toArray (DP (actT a0 V p.2) o.dst (fun v w' => Le w w' ∧ G (k + 1) w' ∧ factAt Rs i v w')) [o] (actT a0 V p.2) w)
    (hfin : ∀ V w, G ops.length w → deps ops Rs V w (List.range ops.length) → Q .normal (actT a0 V fm) w) :
    ∀ (f : Nat) (listed : Array Bool) (a : Act) (w : World), listed.size = ops.length → listed.toList.count false = f → f ≤ ops.length → InvD G ops a0 Rs (ops.length - f) listed a w → wpAny P .any ops.toArray Q f listed a w := by
  subst hN
  simp only [checkB, Bool.and_eq_true] at hB
  obtain ⟨⟨⟨⟨⟨hsel, huq⟩, hplan⟩, htopo⟩, hdst⟩, hfinB⟩ := hB
  obtain ⟨hpl, hpa⟩ := planB_at plan 0 hplan
  obtain ⟨_, huniq⟩ := uniqB_at ops [] huq
  have hdlt : ∀ (i : Nat) (o : Oper) (d : Nat), ops[i]? = some o → o.dst = some d → d < a0.tmps.size := fun i o d ho hd => by
    have := List.all_eq_true.1 hdst o (List.mem_of_getElem? ho)
    rw [hd] at this
    simpa using this
  have hall : ∀ (listed : Array Bool) (a : Act) (w : World), InvD G ops a0 Rs ops.length listed a w → (∀ i, i < ops.length → listed.getD i false = true) → Q .normal a w := fun listed a w inv hl => by
    have he : a = actT a0 (fun d => a.tmps.getD d undef) fm := act_is inv.size inv.defers (fun d hm => inv.still d (fun i o ho hd => by
      have := List.all_eq_true.1 hfinB i (by simp; exact (List.getElem?_eq_some_iff.1 ho).1)
      simp [List.getD_eq_getElem?_getD, ho, hd] at this
      simp [List.getD_eq_getElem?_getD, this] at hm))
    rw [he]
    exact hfin _ w inv.g (deps_of _ (fun i _ o d ho hd => inv.facts i o d ho hd (hl i (List.getElem?_eq_some_iff.1 ho).1)))
  intro f
  induction f with
  | zero =>
    intro listed a w hsz hc hf inv
    have hl : ∀ i, i < ops.length → listed.getD i false = true := fun i hi => by
      have h0 := List.count_eq_zero.1 hc
      have hi' : i < listed.size := by omega
      have e : listed.getD i false = listed[i] := by simp [Array.getD, hi']
      rw [e]
      cases hb : listed[i] with
      | true => rfl
      | false => exact absurd (by rw [← hb]; simp) h0
    refine ⟨?_, hall listed a w (by simpa using inv) hl⟩
    rw [List.eq_nil_iff_forall_not_mem]
    intro j hj
    obtain ⟨hun, oj, hoj, _⟩ := mem_ready.1 hj
    have hjl : j < ops.length := by
      have := (Array.getElem?_eq_some_iff.1 hoj).1
      simpa using this
    have := hl j hjl
    rw [getD_both hun] at this
    cases this
  | succ f ih =>
    intro listed a w hsz hc hf inv
    refine ⟨fun hr => ?_, fun j hj => ?_⟩
    · exfalso
      -- the smallest that is not listed is ready
      have hex : ∃ i, i < ops.length ∧ listed.getD i true = false := by
        have : false ∈ listed.toList := List.count_pos_iff.1 (by omega)
        obtain ⟨i, hi, he⟩ := List.getElem_of_mem this
        refine ⟨i, by simp at hi; omega, ?_⟩
        simp at hi he
        simp [Array.getD, hi, he]
      have key : ∀ n i, i < n → i < ops.length → listed.getD i true = false → False := by
        intro n
        induction n with
        | zero => intro i hi; omega
        | succ n ihn =>
          intro i hi hil hun
          have ho : ops[i]? = some ops[i] := List.getElem?_eq_getElem hil
          by_cases hrd : ∀ e ∈ ops[i].after, Region.binds .any e = true → listed.getD e.on false = true
          · have : i ∈ Region.ready .any ops.toArray listed := mem_ready.2 ⟨hun, ops[i], by simp, hrd⟩
            rw [hr] at this
            cases this
          · simp only [Classical.not_forall] at hrd
            obtain ⟨e, he, hb, hne⟩ := hrd
            have ht := List.all_eq_true.1 htopo i (by simp; exact hil)
            have hlt : e.on < i := by
              have := List.all_eq_true.1 ht e.on (by
                simp only [edgesOf, List.mem_map, List.mem_filter]
                exact ⟨e, ⟨by simpa [List.getD_eq_getElem?_getD, ho] using he, hb⟩, rfl⟩)
              simpa using this
            refine ihn e.on (by omega) (by omega) ?_
            have : e.on < listed.size := by omega
            simp [Array.getD, this] at hne ⊢
            exact hne
      obtain ⟨i, hi, hun⟩ := hex
      exact key (i + 1) i (by omega) hi hun
    · obtain ⟨hun, oj, hoj, hrd⟩ := mem_ready.1 hj
      have hun' := getD_both hun
      have hoj' : ops[j]? = some oj := by simpa using hoj
      have hjl : j < ops.length := (List.getElem?_eq_some_iff.1 hoj').1
      have hjs : j < listed.size := by omega
      obtain ⟨p, hp⟩ : ∃ p, plan[j]? = some p := ⟨plan[j]'(by omega), List.getElem?_eq_getElem (by omega)⟩
      obtain ⟨hedge, hmask⟩ := hpa j p hp
      rw [Nat.zero_add] at hedge hmask
      have hoD : ops.getD j noOp = oj := by simp [List.getD_eq_getElem?_getD, hoj']
      rw [hoD] at hedge
      have hEd : ∀ e ∈ edgesOf oj, listed.getD e false = true := fun e he => by
        simp only [edgesOf, List.mem_map, List.mem_filter] at he
        obtain ⟨x, ⟨hx, hb⟩, rfl⟩ := he
        exact hrd x (by simpa using hx) hb
      have hea : a = actT a0 (fun d => a.tmps.getD d undef) p.2 := act_is inv.size inv.defers (fun d hm => inv.still d (fun i o ho hd => by
        have h1 := List.all_eq_true.1 hmask i (by simp; exact (List.getElem?_eq_some_iff.1 ho).1)
        simp only [List.getD_eq_getElem?_getD, ho, Option.getD_some, hd] at h1
        simp only [← List.getD_eq_getElem?_getD, hm, Bool.not_true, Bool.false_or] at h1
        cases hli : listed.getD i false with
        | false => rfl
        | true =>
          have := later_sound ops [] ops (fun k => by simp) inv.closed (fun i hi => by simp at hi) i h1 hli
          rw [hun'] at this
          cases this))
      obtain ⟨hst, hs⟩ := hstep j oj p hoj' hp
      have hk : ops.length - (f + 1) < ops.length := by omega
      have hwp := hs (fun d => a.tmps.getD d undef) w _ hk inv.g (deps_of _ (fun i hi o d ho hd => inv.facts i o d ho hd (hEd i (hedge i hi))))
      rw [← hea] at hwp
      refine wpOp_of_DP hoj hwp (fun v w' ⟨hle, hg, hR⟩ => ih _ _ w' (by simp [hsz]) ?_ (by omega) ?_)
      · rw [Array.toList_setIfInBounds]
        have hx : listed.toList[j]'(by simpa using hjs) = false := by
          simp [Array.getD, hjs] at hun
          simpa using hun
        rw [List.count_set (by simpa using hjs), hx, hc]
        simp
      · have hgd : ∀ i d, (listed.setIfInBounds j true).getD i d = if i = j then true else listed.getD i d := fun i d => by
          by_cases h : i = j
          · subst h; simp [Array.getD, hjs]
          · rw [if_neg h, getD_set_ne d (fun e => h e.symm)]
        refine ⟨by rw [show ops.length - f = ops.length - (f + 1) + 1 by omega]; exact hg, ?_, ?_, ?_, ?_, ?_⟩
        · cases hd : oj.dst <;> simp [Act.put, inv.size]
        · cases hd : oj.dst <;> simp [Act.put, inv.defers]
        · intro i o ho hl e he
          rw [hgd] at hl ⊢
          by_cases hij : i = j
          · subst hij
            rw [hoj'] at ho; cases ho
            split
            · rfl
            · exact hEd e he
          · rw [if_neg hij] at hl
            split
            · rfl
            · exact inv.closed i o ho hl e he
        · intro i o d ho hd hl
          rw [hgd] at hl
          by_cases hij : i = j
          · subst hij
            rw [hoj'] at ho; cases ho
            have hlt : d < a.tmps.size := by rw [inv.size]; exact hdlt _ _ _ hoj' hd
            simp only [hd, Act.put]
            rw [getD_set_eq hlt]
            exact hR
          · rw [if_neg hij] at hl
            have hne : oj.dst ≠ some d := fun h => hij (huniq i j o oj d ho hoj' hd h)
            have h0 := inv.facts i o d ho hd hl
            obtain ⟨sti, _⟩ := hstep i o (plan[i]'(by have := (List.getElem?_eq_some_iff.1 ho).1; omega)) ho (List.getElem?_eq_getElem _)
            have h1 := sti _ _ _ hle h0
            cases hdj : oj.dst with
            | none => simpa [Act.put] using h1
            | some e =>
              simp only [Act.put]
              rw [getD_set_other (fun h => hne (by rw [hdj, h]))]
              exact h1
        · intro d hw
          have h1 := inv.still d (fun i o ho hd => by
            have := hw i o ho hd
            rw [hgd] at this
            split at this
            · cases this
            · exact this)
          cases hdj : oj.dst with
          | none => simpa [Act.put] using h1
          | some e =>
            simp only [Act.put]
            by_cases he : e = d
            · subst he
              have := hw j oj hoj' hdj
              rw [hgd, if_pos rfl] at this
              cases this
            · rw [getD_set_other he]
              exact h1
/-- a region that draws: each operation looked at once, under what it waits for -/
theorem wp_region_inv {id : Nat} {a : Act} {w : World} {l : List Oper} (N : Nat) (plan : List (List Nat × List Bool)) (fm : List Bool) (hm : P.follows .mixedOrders = true) (hN : a.tmps.size = N)
    (hB : checkB l N plan fm = true) (hg : G 0 w.drew) (h : wpK P Le G Q l a fm l plan []) : (Code.region id l.toArray true).wp P Q a w := by
  refine wp_region_any hm ?_
  have hlen : l.length = plan.length := by
    simp only [checkB, Bool.and_eq_true] at hB
    have := (planB_at plan 0 hB.1.1.1.2).1
    omega
  obtain ⟨Rs, hR, hs, hf⟩ := wpK_get l plan [] hlen h
  have key := wpAny_inv (P := P) (Le := Le) (G := G) (Q := Q) (Rs := Rs) hN hB (fun i o p ho hp => by
    obtain ⟨R, e1, e2, e3⟩ := hs i o p ho hp
    have : factAt Rs i = R := by simp [factAt, List.getD_eq_getElem?_getD, e1]
    rw [this]
    refine ⟨e2, fun V w k hk hg hd => e3 V w k hk hg (deps_mono (fun i' v w h' => ?_) _ hd)⟩
    unfold factAt at *
    simp only [List.nil_append, List.getD_eq_getElem?_getD, List.getElem?_take] at *
    split
    · exact h'
    · trivial) (by simpa using hf) l.length (Array.replicate l.length false) a w.drew (by simp) (by simp) (Nat.le_refl _)
  have hz : ∀ i, (Array.replicate l.length false).getD i false = false := fun i => by
    simp only [Array.getD_eq_getD_getElem?, Array.getElem?_replicate]
    split <;> rfl
  have := key { g := by simpa using hg, size := rfl, defers := rfl, closed := fun i o _ hl => (by rw [hz] at hl; cases hl), facts := fun i o d _ _ hl => (by rw [hz] at hl; cases hl), still := fun d _ => rfl }
  simpa using this
end
end Go.Proofs.YtcebbmikgpipeaaGreatDoor
