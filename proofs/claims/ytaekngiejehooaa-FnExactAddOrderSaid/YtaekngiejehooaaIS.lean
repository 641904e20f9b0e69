/-
  Insertion sort as plain lists: where an element is inserted from the right, and one swap of it. No program in sight.
-/
import Derived.Test.YtaekngiejehooaaN
namespace Go.Proofs.Ytaekngiejehooaa

section
variable {α : Type}
/-- from place k to the left past all elements behind which x does not stand -/
def back (lt : α → α → Bool) (x : α) (xs : List α) : Nat → Nat
  | 0 => 0
  | k + 1 => match xs[k]? with
    | none => k + 1
    | some y => if lt x y = true then back lt x xs k else k + 1
def insAt (xs : List α) (x : α) (k : Nat) : List α := xs.take k ++ x :: xs.drop k
def ins (lt : α → α → Bool) (x : α) (xs : List α) : List α := insAt xs x (back lt x xs xs.length)
/-- the first k elements, sorted -/
def srt (lt : α → α → Bool) (ds : List α) : Nat → List α
  | 0 => []
  | k + 1 => match ds[k]? with
    | none => srt lt ds k
    | some x => ins lt x (srt lt ds k)
theorem back_zero (lt : α → α → Bool) (x : α) (xs : List α) : back lt x xs 0 = 0 := rfl
theorem back_yes {lt : α → α → Bool} {x : α} {xs : List α} {k : Nat} (h : k < xs.length) (hl : lt x xs[k] = true) : back lt x xs (k + 1) = back lt x xs k := by
  show (match xs[k]? with | none => k + 1 | some y => if lt x y = true then back lt x xs k else k + 1) = _
  rw [List.getElem?_eq_getElem h]; simp [hl]
theorem back_no {lt : α → α → Bool} {x : α} {xs : List α} {k : Nat} (h : k < xs.length) (hl : lt x xs[k] = false) : back lt x xs (k + 1) = k + 1 := by
  show (match xs[k]? with | none => k + 1 | some y => if lt x y = true then back lt x xs k else k + 1) = _
  rw [List.getElem?_eq_getElem h]; simp [hl]
theorem back_le (lt : α → α → Bool) (x : α) (xs : List α) : ∀ k, back lt x xs k ≤ k
  | 0 => Nat.le_refl _
  | k + 1 => by
    have h := back_le lt x xs k
    show (match xs[k]? with | none => k + 1 | some y => if lt x y = true then back lt x xs k else k + 1) ≤ _
    split
    · exact Nat.le_refl _
    · split
      · exact Nat.le_trans h (Nat.le_succ k)
      · exact Nat.le_refl _
theorem insAt_len (xs : List α) (x : α) (k : Nat) : (insAt xs x k).length = xs.length + 1 := by
  unfold insAt
  rw [List.length_append, List.length_cons, List.length_take, List.length_drop]; omega
theorem ins_len (lt : α → α → Bool) (x : α) (xs : List α) : (ins lt x xs).length = xs.length + 1 := insAt_len _ _ _
theorem srt_succ {lt : α → α → Bool} {ds : List α} {k : Nat} (h : k < ds.length) : srt lt ds (k + 1) = ins lt ds[k] (srt lt ds k) := by
  show (match ds[k]? with | none => srt lt ds k | some x => ins lt x (srt lt ds k)) = _
  rw [List.getElem?_eq_getElem h]
theorem srt_len {lt : α → α → Bool} {ds : List α} : ∀ {k : Nat}, k ≤ ds.length → (srt lt ds k).length = k
  | 0, _ => rfl
  | k + 1, h => by rw [srt_succ (by omega), ins_len, srt_len (by omega)]
theorem insAt_mem {xs : List α} {x z : α} {k : Nat} : z ∈ insAt xs x k ↔ z = x ∨ z ∈ xs := by
  unfold insAt
  rw [List.mem_append, List.mem_cons]
  have h : z ∈ xs ↔ z ∈ xs.take k ∨ z ∈ xs.drop k := by rw [← List.mem_append, List.take_append_drop]
  rw [h]
  constructor
  · rintro (h | h | h)
    · exact .inr (.inl h)
    · exact .inl h
    · exact .inr (.inr h)
  · rintro (h | h | h)
    · exact .inr (.inl h)
    · exact .inl h
    · exact .inr (.inr h)
theorem srt_mem {lt : α → α → Bool} {ds : List α} : ∀ {k : Nat} {z : α}, k ≤ ds.length → z ∈ srt lt ds k → z ∈ ds.take k
  | 0, _, _, h => by cases h
  | k + 1, z, hk, h => by
    rw [srt_succ (by omega)] at h
    rw [List.take_succ_eq_append_getElem (by omega)]
    rcases insAt_mem.1 h with h | h
    · exact List.mem_append_right _ (List.mem_singleton.2 h)
    · exact List.mem_append_left _ (srt_mem (by omega) h)
/-- the same list of places by two tests that agree on what is compared -/
theorem back_congr {lt lt' : α → α → Bool} {x : α} {xs : List α} (h : ∀ y ∈ xs, lt x y = lt' x y) : ∀ k, back lt x xs k = back lt' x xs k
  | 0 => rfl
  | k + 1 => by
    have ih := back_congr h k
    show (match xs[k]? with | none => k + 1 | some y => if lt x y = true then back lt x xs k else k + 1) = (match xs[k]? with | none => k + 1 | some y => if lt' x y = true then back lt' x xs k else k + 1)
    rcases hk : xs[k]? with _ | y
    · rfl
    · have hy : y ∈ xs := List.mem_of_getElem? hk
      simp only [h y hy, ih]
/-- an element on its way to the left, in front of the rest -/
theorem mid_swap {xs rest : List α} {x : α} {p : Nat} (hp : p < xs.length) :
    ((insAt xs x (p + 1) ++ rest).set (p + 1) xs[p]).set p x = insAt xs x p ++ rest := by
  have e1 : xs.take (p + 1) = xs.take p ++ [xs[p]] := List.take_succ_eq_append_getElem hp
  have e2 : xs.drop p = xs[p] :: xs.drop (p + 1) := List.drop_eq_getElem_cons hp
  have hL : (xs.take p).length = p := by rw [List.length_take]; omega
  unfold insAt
  rw [e1, e2]
  simp only [List.append_assoc, List.cons_append, List.nil_append]
  rw [List.set_append_right _ _ (by omega), hL, show p + 1 - p = 1 from by omega]
  simp only [List.set_cons_succ, List.set_cons_zero]
  rw [List.set_append_right _ _ (by omega), hL, Nat.sub_self]
  rfl
theorem mid_at {xs rest : List α} {x : α} {j : Nat} (hj : j ≤ xs.length) (h : j < (insAt xs x j ++ rest).length) : (insAt xs x j ++ rest)[j] = x := by
  have hL : (xs.take j).length = j := by rw [List.length_take]; omega
  have h2 : (insAt xs x j ++ rest)[j]? = some x := by
    unfold insAt
    rw [List.append_assoc, List.getElem?_append_right (by omega), hL, Nat.sub_self]; rfl
  rw [List.getElem?_eq_getElem h] at h2
  exact Option.some.inj h2
theorem mid_before {xs rest : List α} {x : α} {p : Nat} (hp : p < xs.length) (h : p < (insAt xs x (p + 1) ++ rest).length) : (insAt xs x (p + 1) ++ rest)[p] = xs[p] := by
  have h2 : (insAt xs x (p + 1) ++ rest)[p]? = some xs[p] := by
    unfold insAt
    rw [List.append_assoc, List.getElem?_append_left (by rw [List.length_take]; omega), List.getElem?_take]
    rw [if_pos (by omega), List.getElem?_eq_getElem hp]
  rw [List.getElem?_eq_getElem h] at h2
  exact Option.some.inj h2
theorem insAt_end (xs : List α) (x : α) : insAt xs x xs.length = xs ++ [x] := by
  unfold insAt; rw [List.take_length, List.drop_length]
end
end Go.Proofs.Ytaekngiejehooaa
