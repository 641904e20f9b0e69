/-
  StateChanges of the program and of the reference, as rows. Conditions: lengths within the bound of a slice.
-/
import Derived.Test.YtjffhacoijmgiaaZ
namespace Go.Proofs.Ytjffhacoijmgiaa
open Go.RowKit
set_option maxHeartbeats 4000000

theorem chgL_len (zs : List SituationT) : (chgL zs).length ≤ zs.length := by
  unfold chgL
  split
  · exact chg_len zs _
  · exact Nat.zero_le _
theorem sStateChanges_is {m : Nat} {q : Bool} {A : Option Addr} {n c : Nat} {zs : List SituationT} (h : seriesB zs = q) (hm : (chgL zs).length = m) (w : World) (hr : Rd w 6 A n (sitF zs)) (hl : zs.length = n) (hn : n ≤ 140737488355) :
    Calls Try.prog 18 #[.slice A n c] w fun e w' => ∃ A' c', e = .returned (.tuple #[.slice A' m c', .bool q]) ∧ w'.ownsRow w.heap.size 3 1 (.slice A' m c') m (ints (chgL zs)) ∧ Below w.heap.size w w' := by
  subst h; subst hm
  refine (sStateChanges_any A n c zs w hr hl hn).mono ?_
  rintro e w' ⟨v, rfl, ho, hb⟩
  obtain ⟨A2, c2, rfl, r2, hm2⟩ := own_rd ho
  exact ⟨A2, c2, rfl, ho, hb⟩
theorem StateChanges_is {m : Nat} {q : Bool} {A : Option Addr} {n c : Nat} {zs : List SituationT} (h : seriesB zs = q) (hm : (chgL zs).length = m) (w : World) (hr : Rd w 6 A n (sitF zs)) (hl : zs.length = n) (hn : n ≤ 140737488355) :
    Calls Try.prog 17 #[.slice A n c] w fun e w' => ∃ A' c', e = .returned (.tuple #[.slice A' m c', .bool q]) ∧ w'.ownsRow w.heap.size 3 1 (.slice A' m c') m (ints (chgL zs)) ∧ Below w.heap.size w w' := by
  subst h; subst hm
  refine (StateChanges_any A n c zs w hr hl hn).mono ?_
  rintro e w' ⟨v, rfl, ho, hb⟩
  obtain ⟨A2, c2, rfl, r2, hm2⟩ := own_rd ho
  exact ⟨A2, c2, rfl, ho, hb⟩
end Go.Proofs.Ytjffhacoijmgiaa
