/-
  FnExactIsCostTable, walked. Conditions: none beyond the layout of its arguments.
-/
import Derived.Test.YtallgjobljkgnaaA
namespace Go.Proofs.Ytallgjobljkgnaa
open Go.RowKit
set_option maxRecDepth 100000
set_option maxHeartbeats 1000000

theorem flat_one {α : Type} (f : α → Value) (z : List α) : z.flatMap (fun r => [f r]) = z.map f := by
  induction z with
  | nil => rfl
  | cons a z ih => rw [List.flatMap_cons, ih]; rfl
theorem ints_flat (zs : List Int) : zs.flatMap (fun n => [Value.int .i64 n]) = ints zs := flat_one _ zs
abbrev Row3 := Option Addr × Nat × Nat
theorem table_of {w : World} {A : Option Addr} {n : Nat} {z : List Row3} (hr : Rd w 1 A n (z.flatMap (fun r : Row3 => [Value.slice r.1 r.2.1 r.2.2]))) (hl : z.length = n)
    (ok : ∀ r ∈ z, r.2.1 ≤ r.2.2 ∧ r.2.2 ≤ maxLen ∧ ∃ zs : List Int, zs.length = r.2.1 ∧ Rd w 1 r.1 r.2.1 (zs.flatMap (fun n => [Value.int .i64 n])) ∧ ∀ y ∈ zs, I64 y) :
    ∃ T : List (List Int), RdT w A n T ∧ ∀ i, i < n → (row T i).length ≤ 9223372036854775807 := by
  obtain ⟨T, hTl, hT⟩ := choose_list (fun i (zs : List Int) => ∀ hi : i < z.length, zs.length = (z[i]).2.1 ∧ Rd w 1 (z[i]).1 (z[i]).2.1 (ints zs) ∧ (z[i]).2.1 ≤ 9223372036854775807) n (fun i hi => by
    obtain ⟨h1, h2, zs, h3, h4, _⟩ := ok z[i] (List.getElem_mem _)
    refine ⟨zs, fun _ => ⟨h3, ?_, ?_⟩⟩
    · rw [← ints_flat]; exact h4
    · have : (z[i]).2.1 ≤ maxLen := Nat.le_trans h1 h2
      unfold maxLen at this; omega)
  have key : ∀ i (hi : i < n), (row T i).length = (z[i]).2.1 ∧ Rd w 1 (z[i]).1 (z[i]).2.1 (ints (row T i)) ∧ (z[i]).2.1 ≤ 9223372036854775807 := fun i hi => by
    have := hT i (by omega) (by omega)
    rw [row_get (by omega)] at this
    exact this
  refine ⟨T, ⟨hTl, fun hn => ?_⟩, fun i hi => by rw [(key i hi).1]; exact (key i hi).2.2⟩
  obtain ⟨b, off, e, hb, hc⟩ := hr.2 hn
  refine ⟨b, off, e, hb, fun k hk => ⟨(z[k]).1, (z[k]).2.2, ?_, ?_⟩⟩
  · rw [(key k hk).1]
    refine hc k _ ?_
    rw [flat_one (fun r : Row3 => Value.slice r.1 r.2.1 r.2.2), List.getElem?_map, List.getElem?_eq_getElem (by omega)]
    rfl
  · have := (key k hk).2.1
    rw [← (key k hk).1] at this
    exact this
end Go.Proofs.Ytallgjobljkgnaa
