/-
  Adding an order to a list: the plain law: a sorted permutation is the list with the order at its place. No condition.
-/
import Derived.Test.YtaekngiejehooaaH
namespace Go.Proofs.Ytaekngiejehooaa
open Go.RowKit
set_option maxHeartbeats 1000000

def insO : List OrderT → OrderT → List OrderT
  | [], x => [x]
  | z :: zs, x => if z.1 < x.1 then z :: insO zs x else x :: z :: zs
theorem insO_at : ∀ (zs : List OrderT) (x : OrderT) (k : Nat), k ≤ zs.length → (∀ j (h : j < zs.length), j < k → zs[j].1 < x.1) → (∀ h : k < zs.length, ¬ zs[k].1 < x.1) → zs.take k ++ x :: zs.drop k = insO zs x
  | [], x, k, hk, _, _ => by simp [insO]
  | z :: zs, x, 0, _, _, h => by
    have h0 := h (by simp)
    simp only [List.getElem_cons_zero] at h0
    simp [insO, h0]
  | z :: zs, x, k + 1, hk, h1, h2 => by
    have h0 := h1 0 (by simp) (by omega)
    simp only [List.getElem_cons_zero] at h0
    have ih := insO_at zs x k (by simpa using hk) (fun j hj hjk => h1 (j + 1) (by simpa using hj) (by omega)) (fun h => h2 (by simpa using h))
    simp only [insO, h0, if_true, List.take_succ_cons, List.drop_succ_cons, List.cons_append, ih]
theorem insO_perm : ∀ (zs : List OrderT) (x : OrderT), (insO zs x).Perm (x :: zs)
  | [], x => .refl _
  | z :: zs, x => by
    unfold insO
    split
    · exact ((insO_perm zs x).cons z).trans (.swap x z zs)
    · exact .refl _
theorem insO_len (zs : List OrderT) (x : OrderT) : (insO zs x).length = zs.length + 1 := by rw [(insO_perm zs x).length_eq]; rfl
theorem insO_up : ∀ (zs : List OrderT) (x : OrderT), zs.Pairwise (fun a b => a.1 < b.1) → (∀ z ∈ zs, z.1 ≠ x.1) → (insO zs x).Pairwise (fun a b => a.1 < b.1)
  | [], x, _, _ => by simp [insO]
  | z :: zs, x, hp, hx => by
    rw [List.pairwise_cons] at hp
    have hz := hx z (by simp)
    unfold insO
    split
    · rename_i h
      rw [List.pairwise_cons]
      refine ⟨fun y hy => ?_, insO_up zs x hp.2 (fun y hy => hx y (by simp [hy]))⟩
      rcases List.mem_cons.1 ((insO_perm zs x).mem_iff.1 hy) with rfl | h3
      · exact h
      · exact hp.1 y h3
    · rename_i h
      rw [List.pairwise_cons, List.pairwise_cons]
      refine ⟨fun y hy => ?_, hp⟩
      rcases List.mem_cons.1 hy with rfl | h3
      · omega
      · have := hp.1 y h3
        omega
theorem listed_up {zs : List OrderT} {most : Int} : listedB zs most = true ↔ (∀ z ∈ zs, okP z) ∧ zs.Pairwise (fun a b => a.1 < b.1) ∧ (zs.length : Int) ≤ most := by
  rw [listedB_iff]
  constructor
  · rintro ⟨h1, h2⟩
    refine ⟨fun z hz => ?_, ?_, h2⟩
    · obtain ⟨i, hi, rfl⟩ := List.mem_iff_getElem.1 hz
      exact (h1 i hi hi).1
    · rw [List.pairwise_iff_getElem]
      intro i j hi hj hij
      obtain ⟨e, rfl⟩ : ∃ e, j = i + 1 + e := ⟨j - (i + 1), by omega⟩
      clear hij
      induction e with
      | zero => exact (h1 (i + 1) (by omega) hj).2 (by omega)
      | succ e ih =>
        have a := ih (by omega)
        have b := (h1 (i + 1 + (e + 1)) (by omega) hj).2 (by omega)
        have e1 : i + 1 + (e + 1) - 1 = i + 1 + e := by omega
        simp only [e1] at b
        omega
  · rintro ⟨h1, h2, h3⟩
    refine ⟨fun k hk hk' => ⟨h1 _ (List.getElem_mem hk'), fun h0 => ?_⟩, h3⟩
    rw [List.pairwise_iff_getElem] at h2
    exact h2 (k - 1) k (by omega) hk' (by omega)
/-- one list of strictly rising numbers for each permutation -/
theorem up_unique {L M : List OrderT} (hp : L.Perm M) (h1 : L.Pairwise (fun a b => a.1 < b.1)) (h2 : M.Pairwise (fun a b => a.1 < b.1)) : L = M :=
  hp.eq_of_pairwise (fun a b _ _ h3 h4 => absurd h4 (by omega)) h1 h2
theorem up_ne {L : List OrderT} {x : OrderT} {zs : List OrderT} (h : L.Pairwise (fun a b => a.1 < b.1)) (hp : L.Perm (x :: zs)) : ∀ z ∈ zs, z.1 ≠ x.1 := by
  have hn : (L.map (·.1)).Pairwise (· ≠ ·) := by
    rw [List.pairwise_map]
    exact h.imp (fun {a b} h => by omega)
  have h2 : ((x :: zs).map (·.1)).Pairwise (· ≠ ·) := ((hp.map (·.1)).pairwise_iff (R := (· ≠ ·)) (fun h => Ne.symm h)).1 hn
  rw [List.map_cons, List.pairwise_cons] at h2
  intro z hz e
  exact h2.1 z.1 (List.mem_map.2 ⟨z, hz, rfl⟩) e.symm
/-- what the sort left behind, and the list with the order at its place -/
theorem sorted_is {zs ys : List OrderT} {x : OrderT} (h0 : listedB zs 10 = true) (hs : zs.length < 19 → ys.Perm (zs ++ [x]) ∧ ys.Pairwise (fun a b => a.1 ≤ b.1)) :
    listedB ys 10 = listedB (insO zs x) 10 ∧ (listedB (insO zs x) 10 = true → ys = insO zs x) := by
  obtain ⟨_, hu, h10⟩ := listed_up.1 h0
  obtain ⟨hp, hle⟩ := hs (by omega)
  have hp2 : ys.Perm (insO zs x) := (hp.trans (List.perm_append_comm (l₁ := zs) (l₂ := [x]))).trans (insO_perm zs x).symm
  have key : (insO zs x).Pairwise (fun a b => a.1 < b.1) → ys = insO zs x := fun hi => by
    have hn : (ys.map (·.1)).Pairwise (· ≠ ·) := by
      refine ((hp2.map (·.1)).pairwise_iff (R := (· ≠ ·)) (fun h => Ne.symm h)).2 ?_
      rw [List.pairwise_map]
      exact hi.imp (fun {a b} h => by omega)
    rw [List.pairwise_map] at hn
    exact up_unique hp2 ((hle.and hn).imp (fun {a b} h => by have := h.1; have := h.2; omega)) hi
  have k1 : listedB (insO zs x) 10 = true → ys = insO zs x := fun h => key (listed_up.1 h).2.1
  refine ⟨?_, k1⟩
  rw [Bool.eq_iff_iff]
  constructor
  · intro h
    have hup := (listed_up.1 h).2.1
    have e := key (insO_up zs x hu (up_ne hup (hp2.trans (insO_perm zs x))))
    rw [← e]; exact h
  · intro h
    rw [k1 h]; exact h
noncomputable def addR (zs : List OrderT) (x : OrderT) : Bool := listedB zs 10 && listedB (insO zs x) 10
noncomputable def addL (zs : List OrderT) (x : OrderT) : List OrderT := if addR zs x = true then insO zs x else []
end Go.Proofs.Ytaekngiejehooaa
