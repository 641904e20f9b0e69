/-
  Inserting into a row of ints by three appends: what is read where. No program in sight.
-/
import Derived.Test.YtallgjobljkgnaaIS
import Derived.Test.YtallgjobljkgnaaP
namespace Go.Proofs.Ytallgjobljkgnaa
open Go.RowKit

theorem Rd.take1 {w : World} {A : Option Addr} {n p : Nat} {xs : List Int} (h : Rd w 1 A n (ints xs)) (hl : xs.length = n) (hp : p ≤ n) : Rd w 1 A p (ints (xs.take p)) := by
  refine ⟨by rw [ints_length, List.length_take]; omega, fun hp0 => ?_⟩
  obtain ⟨b, off, e, hb, hc⟩ := h.2 (by omega)
  refine ⟨b, off, e, hb, fun j u hu => hc j u ?_⟩
  have e2 : ints xs = ints (xs.take p) ++ ints (xs.drop p) := by
    unfold ints; rw [← List.map_append, List.take_append_drop]
  rw [e2, List.getElem?_append_left (List.getElem?_eq_some_iff.1 hu).1, hu]
theorem Rd.drop1 {w : World} {g off n p : Nat} {xs : List Int} (h : Rd w 1 (some ⟨g, off, none⟩) n (ints xs)) (hl : xs.length = n) (hp : p ≤ n) (o : Nat) (ho : p < n → o = off + p) : Rd w 1 (some ⟨g, o, none⟩) (n - p) (ints (xs.drop p)) := by
  refine ⟨by rw [ints_length, List.length_drop]; omega, fun hp0 => ?_⟩
  obtain ⟨b, off', e, hb, hc⟩ := h.2 (by omega)
  simp only [Option.some.injEq, Addr.mk.injEq, and_true] at e
  obtain ⟨rfl, rfl⟩ := e
  refine ⟨g, o, rfl, hb, fun j u hu => ?_⟩
  rw [ho (by omega), Nat.add_assoc]
  refine hc (p + j) u ?_
  have e2 : ints xs = ints (xs.take p) ++ ints (xs.drop p) := by
    unfold ints; rw [← List.map_append, List.take_append_drop]
  have hL : (ints (xs.take p)).length = p := by rw [ints_length, List.length_take]; omega
  rw [e2, List.getElem?_append_right (by omega), hL, Nat.add_sub_cancel_left, hu]
theorem rd_one {w : World} {g : Nat} {t : TypeId} {x : Int} (h : Bk w g t [.int .i64 x]) : Rd w 1 (some ⟨g, 0, none⟩) 1 [.int .i64 x] := h.rd rfl
theorem ints_one (xs : List Int) : ∀ u ∈ ints xs, u.oneCell' = true := by
  intro u hu
  obtain ⟨x, _, rfl⟩ := List.mem_map.1 hu
  rfl
theorem ints_one1 {us : List Value} (h : ∀ u ∈ us, u.oneCell' = true) : ∀ u ∈ us, u.oneCell' = true := h
theorem ins_ints (xs : List Int) (x : Int) (p : Nat) : ints (insAt xs x p) = (ints (xs.take p) ++ [.int .i64 x]) ++ ints (xs.drop p) := by
  unfold insAt ints
  simp
theorem own_len {w : World} {base k n n' : Nat} {t : TypeId} {v : Value} {xs : List Value} (h : w.ownsRow base t k v n xs) (e : n = n') : w.ownsRow base t k v n' xs := e ▸ h
theorem own_list {w : World} {base k n : Nat} {t : TypeId} {v : Value} {xs xs' : List Value} (h : w.ownsRow base t k v n xs) (e : xs = xs') : w.ownsRow base t k v n xs' := e ▸ h
macro "bk_find" : tactic => `(tactic| (repeat (first | exact Bk.new' rfl | exact Bk.new' (by simp) | refine Bk.drew ?_ | refine Bk.alloc ?_ _)))
end Go.Proofs.Ytallgjobljkgnaa
