/-
  A row of orders of the call's own, as the family of slices.SortStableFunc reads it. Conditions: the length of a string.
-/
import Derived.Test.YtaekngiejehooaaTF
import Derived.Test.YtaekngiejehooaaX
import Derived.Test.YtaekngiejehooaaMT
namespace Go.Proofs.Ytaekngiejehooaa
open Go.RowKit Go.Lib Go.Sort
set_option maxRecDepth 100000
set_option maxHeartbeats 2000000

abbrev OrS := {z : OrderT // z.2.1.size ≤ maxLen}
instance : Inhabited OrS := ⟨⟨(0, ⟨#[]⟩, 0, 0, 0), Nat.zero_le _⟩⟩
def encS (x : OrS) : List Value := ordE x.1
def unS (d : Array OrS) : List OrderT := d.toList.map (·.1)
theorem unS_len (d : Array OrS) : (unS d).length = d.size := by simp [unS]
theorem unS_hz (d : Array OrS) : ∀ z ∈ unS d, z.2.1.size ≤ maxLen := by
  intro z hz
  obtain ⟨x, _, rfl⟩ := List.mem_map.1 hz
  exact x.2
theorem unS_of {zs : List OrderT} (h : ∀ z ∈ zs, z.2.1.size ≤ maxLen) : ∃ d : Array OrS, unS d = zs :=
  ⟨(zs.pmap (fun z hz => (⟨z, hz⟩ : OrS)) h).toArray, by simp [unS, List.map_pmap]⟩
theorem encS_len (x : OrS) : (encS x).length = 5 := ordE_len x.1
theorem encS_one (x : OrS) : ∀ v ∈ encS x, v.oneCell' = true := by
  intro v hv
  obtain ⟨⟨x0, x1, x2, x3, x4⟩, hx⟩ := x
  simp only [encS, ordE, List.mem_cons, List.not_mem_nil, or_false] at hv
  rcases hv with rfl | rfl | rfl | rfl | rfl <;> rfl
theorem flat_unS (d : Array OrS) : (flatK encS 5 d).toList = ordF (unS d) := by
  apply List.ext_getElem?
  intro i
  by_cases hi : i < d.size * 5
  · obtain ⟨q, r, hr, rfl⟩ : ∃ q r, r < 5 ∧ i = q * 5 + r := ⟨i / 5, i % 5, by omega, by omega⟩
    have hq : q < d.size := by omega
    have e1 := get_flatK encS 5 d (q * 5 + r) hi
    rw [show (q * 5 + r) / 5 = q by omega, show (q * 5 + r) % 5 = r by omega] at e1
    have hq2 : q < (unS d).length := by rw [unS_len]; exact hq
    have e2 : (ordF (unS d))[q * 5 + r]? = (ordE (unS d)[q])[r]? := flat_get ordE_len (unS d) q r hq2 hr
    have e3 : (unS d)[q] = (d[q]!).1 := by simp [unS, getElem!_pos d q hq]
    rw [e2, e3]
    have h1 : r < (encS d[q]!).length := by rw [encS_len]; exact hr
    have h2 : (ordE (d[q]!).1)[r]? = some ((encS d[q]!)[r]!) := by
      rw [getElem!_pos (encS d[q]!) r h1]
      exact List.getElem?_eq_getElem h1
    rw [h2, ← e1, getElem!_pos _ _ (by rw [size_flatK]; exact hi), List.getElem?_eq_getElem (by simpa using hi)]
    simp
  · rw [List.getElem?_eq_none (by simpa using hi), List.getElem?_eq_none (by rw [ordF_len, unS_len]; omega)]
theorem holds_bk {w : World} {g : Nat} {t : TypeId} {d : Array OrS} {sp : List Value} (hB : Bk w g t (ordF (unS d) ++ sp)) : HoldsK encS 5 w g 0 d := by
  intro j hj
  rw [Nat.zero_add]
  refine ⟨?_, hB.frozen j⟩
  rw [hB.cell, ← flat_unS, List.getElem?_append_left (by simpa using hj), List.getElem?_eq_getElem (by simpa using hj), getElem!_pos (flatK encS 5 d) j hj]
  simp
theorem putCells_app (F : Array Value) (xs sp : List Value) (h : xs.length = F.size) : putCells id 0 F (xs ++ sp).toArray = (F.toList ++ sp).toArray := by
  unfold putCells
  apply Array.ext
  · simp [h]
  · intro i h1 h2
    by_cases hi : i < F.size
    · simp [hi, List.getElem_append_left]
    · simp only [Array.getElem_mapIdx, List.getElem_toArray]
      rw [if_neg (by omega), List.getElem_append_right (by omega), List.getElem_append_right (by simp; omega)]
      simp [h]
theorem bk_swk {w W : World} {g : Nat} {t : TypeId} {d d' : Array OrS} {sp : List Value} (hB : Bk w g t (ordF (unS d) ++ sp)) (hs : d'.size = d.size) (h : SWK encS 5 w g 0 d' W) : Bk W g t (ordF (unS d') ++ sp) ∧ w.grownBy W (some g) := by
  obtain ⟨n, os, rfl⟩ := h
  have hl := hB.lt
  constructor
  · unfold Bk at hB ⊢
    show ((w.heap.modify g _) ++ os)[g]? = _
    rw [Array.getElem?_append_left (by simpa using hl), Array.getElem?_modify, if_pos rfl, hB]
    show some (Obj.cells (putCells id 0 (flatK encS 5 d') _) t (0, 0)) = _
    rw [putCells_app _ _ _ (by rw [ordF_len, unS_len, size_flatK, hs]), flat_unS]
  · refine ⟨rfl, rfl, rfl, ?_, fun i hi hne => ?_⟩
    · show w.heap.size ≤ ((w.heap.modify g _) ++ os).size
      simp
    · show ((w.heap.modify g _) ++ os)[i]? = _
      rw [Array.getElem?_append_left (by simpa using hi), Array.getElem?_modify, if_neg (fun e => hne (by rw [e]))]
end Go.Proofs.Ytaekngiejehooaa
