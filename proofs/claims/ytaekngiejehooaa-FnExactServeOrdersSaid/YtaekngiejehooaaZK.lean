/-
  Serving as plain lists: what is given and what is left, order by order. No program in sight.
-/
import Derived.Test.YtaekngiejehooaaZI
import Derived.Test.YtaekngiejehooaaI
namespace Go.Proofs.Ytaekngiejehooaa
set_option maxRecDepth 100000

abbrev StT := List Int × List StockT
open Classical in
/-- the first place of that kind -/
noncomputable def fndK (x : ByteArray) : List StockT → Option Nat
  | [] => none
  | z :: S => if z.1 = x then some 0 else (fndK x S).map (· + 1)
theorem fndK_some {x : ByteArray} : ∀ {S : List StockT} {f : Nat} (h : f < S.length), S[f].1 = x → (∀ j (hj : j < f), S[j].1 ≠ x) → fndK x S = some f
  | z :: S, 0, _, h1, _ => by
    unfold fndK; rw [if_pos (by simpa using h1)]
  | z :: S, f + 1, h, h1, h2 => by
    have h0 : z.1 ≠ x := h2 0 (by omega)
    unfold fndK
    rw [if_neg h0, fndK_some (S := S) (f := f) (by simpa using h) (by simpa using h1) (fun j hj => by simpa using h2 (j + 1) (by omega))]
    rfl
theorem fndK_none {x : ByteArray} : ∀ {S : List StockT}, (∀ j (h : j < S.length), S[j].1 ≠ x) → fndK x S = none
  | [], _ => rfl
  | z :: S, h => by
    have h0 : z.1 ≠ x := h 0 (by simp)
    unfold fndK
    rw [if_neg h0, fndK_none (S := S) (fun j hj => h (j + 1) (Nat.succ_lt_succ hj))]
    rfl
def stkAt (S : List StockT) (f : Nat) : StockT := S.getD f (⟨#[]⟩, 0)
theorem stkAt_of {S : List StockT} {f : Nat} {z : StockT} {h : f < S.length} (hz : S[f] = z) : stkAt S f = z := by
  unfold stkAt; rw [List.getD_eq_getElem?_getD, List.getElem?_eq_getElem h, hz]; rfl
/-- one order is served -/
noncomputable def stp (zs : List OrderT) (s : StT) (i : Nat) : StT :=
  match fndK (oAt zs i).2.1 s.2 with
  | none => s
  | some f => (s.1.set i (min (stkAt s.2 f).2 (oAt zs i).2.2.1), s.2.set f ((oAt zs i).2.1, (stkAt s.2 f).2 - min (stkAt s.2 f).2 (oAt zs i).2.2.1))
theorem stp_no {zs : List OrderT} {s : StT} {i : Nat} {x0 x2 x3 x4 : Int} {x1 : ByteArray} (hi : i < zs.length) (hz : zs[i] = (x0, x1, x2, x3, x4)) (h : ∀ j (h : j < s.2.length), s.2[j].1 ≠ x1) : stp zs s i = s := by
  unfold stp
  rw [oAt_nat hi hz, fndK_none h]
theorem stp_yes {zs : List OrderT} {s : StT} {i f : Nat} {x0 x2 x3 x4 c : Int} {x1 : ByteArray} (hi : i < zs.length) (hz : zs[i] = (x0, x1, x2, x3, x4)) (hf : f < s.2.length) (hS : s.2[f] = (x1, c)) (h : ∀ j (hj : j < f), s.2[j].1 ≠ x1) :
    stp zs s i = (s.1.set i (min c x2), s.2.set f (x1, c - min c x2)) := by
  unfold stp
  rw [oAt_nat hi hz, fndK_some hf (by rw [hS]) h]
  show (s.1.set i (min (stkAt s.2 f).2 x2), s.2.set f (x1, (stkAt s.2 f).2 - min (stkAt s.2 f).2 x2)) = _
  rw [stkAt_of hS]
noncomputable def stF (zs : List OrderT) (Q : List Int) (s : StT) (k : Nat) : StT := (Q.take k).foldl (fun s x => stp zs s x.toNat) s
theorem stF_zero (zs : List OrderT) (Q : List Int) (s : StT) : stF zs Q s 0 = s := rfl
theorem stF_succ {zs : List OrderT} {Q : List Int} {s : StT} {k i : Nat} (hk : k < Q.length) (hx : Q[k] = (i : Int)) : stF zs Q s (k + 1) = stp zs (stF zs Q s k) i := by
  unfold stF
  rw [List.take_succ_eq_append_getElem hk, List.foldl_append, hx]
  simp
/-- what stays true of the state: as many given, the same kinds, small counts -/
def inv (n : Nat) (S0 : List StockT) (s : StT) : Prop := s.1.length = n ∧ s.2.map (·.1) = S0.map (·.1) ∧ ∀ z ∈ s.2, 0 ≤ z.2 ∧ z.2 ≤ 99
theorem inv_len {n : Nat} {S0 : List StockT} {s : StT} (h : inv n S0 s) : s.2.length = S0.length := by
  have := congrArg List.length h.2.1
  simpa using this
theorem inv_kind {n : Nat} {S0 : List StockT} {s : StT} (h : inv n S0 s) {j : Nat} (hj : j < s.2.length) : s.2[j].1 = (S0[j]'(by rw [← inv_len h]; exact hj)).1 := by
  have h1 : (s.2.map (·.1))[j]? = (S0.map (·.1))[j]? := by rw [h.2.1]
  simp only [List.getElem?_map, List.getElem?_eq_getElem hj, List.getElem?_eq_getElem (show j < S0.length by rw [← inv_len h]; exact hj), Option.map_some, Option.some.injEq] at h1
  exact h1
theorem inv_put {n : Nat} {S0 : List StockT} {s : StT} {i f : Nat} {x : ByteArray} {c y v : Int} (h : inv n S0 s) (hf : f < s.2.length) (hS : s.2[f] = (x, c)) (hy : 0 ≤ y ∧ y ≤ 99) : inv n S0 (s.1.set i v, s.2.set f (x, y)) := by
  refine ⟨by rw [List.length_set]; exact h.1, ?_, fun z hz => ?_⟩
  · rw [← h.2.1, List.map_set]
    have : (x : ByteArray) = (s.2.map (·.1))[f]'(by simpa using hf) := by simp [hS]
    show (s.2.map (·.1)).set f x = _
    rw [this, List.set_getElem_self]
  · rcases List.mem_or_eq_of_mem_set hz with h1 | h1
    · exact h.2.2 z h1
    · subst h1; exact hy
theorem bytesLess_irrefl : ∀ x : List UInt8, Op.bytesLess x x = false
  | [] => rfl
  | a :: x => by
    have h : ¬ a < a := fun h' => by have := UInt8.lt_iff_toNat_lt.1 h'; omega
    simp [Op.bytesLess, h, bytesLess_irrefl x]
theorem bytesLess_trans : ∀ x y z : List UInt8, Op.bytesLess x y = true → Op.bytesLess y z = true → Op.bytesLess x z = true
  | [], [], _, h, _ => by simp [Op.bytesLess] at h
  | [], _ :: _, [], _, h => by simp [Op.bytesLess] at h
  | [], _ :: _, _ :: _, _, _ => rfl
  | _ :: _, [], _, h, _ => by simp [Op.bytesLess] at h
  | _ :: _, _ :: _, [], _, h => by simp [Op.bytesLess] at h
  | a :: x, b :: y, c :: z, h1, h2 => by
    have ih := bytesLess_trans x y z
    simp only [Op.bytesLess, Bool.or_eq_true, Bool.and_eq_true, decide_eq_true_eq, beq_iff_eq] at *
    rcases h1 with h1 | ⟨rfl, h1⟩
    · rcases h2 with h2 | ⟨rfl, h2⟩
      · left
        have e1 := UInt8.lt_iff_toNat_lt.1 h1
        have e2 := UInt8.lt_iff_toNat_lt.1 h2
        exact UInt8.lt_iff_toNat_lt.2 (by omega)
      · exact .inl h1
    · rcases h2 with h2 | ⟨rfl, h2⟩
      · exact .inl h2
      · exact .inr ⟨rfl, ih h1 h2⟩
theorem store_lt {S : List StockT} (h : storeB S = true) {i : Nat} : ∀ d (hd : i + 1 + d < S.length), Op.bytesLess (S[i]'(by omega)).1.toList S[i + 1 + d].1.toList = true
  | 0, hd => by
    have h1 := ((storeB_iff.1 h).1 (i + 1) (by omega) (by omega)).2 (by omega)
    simpa using h1
  | d + 1, hd => by
    have h1 := store_lt h (i := i) d (by omega)
    have h2 := ((storeB_iff.1 h).1 (i + 1 + d + 1) (by omega) (by omega)).2 (by omega)
    have h3 : Op.bytesLess S[i + 1 + d].1.toList S[i + 1 + d + 1].1.toList = true := by simpa using h2
    exact bytesLess_trans _ _ _ h1 h3
theorem store_ne {S : List StockT} (h : storeB S = true) {i j : Nat} (hij : i < j) (hj : j < S.length) : (S[i]'(by omega)).1 ≠ S[j].1 := by
  obtain ⟨d, rfl⟩ : ∃ d, j = i + 1 + d := ⟨j - (i + 1), by omega⟩
  have h1 := store_lt h d hj
  intro e
  rw [e, bytesLess_irrefl] at h1
  cases h1
theorem store_bd {S : List StockT} (h : storeB S = true) : ∀ z ∈ S, 0 ≤ z.2 ∧ z.2 ≤ 99 := by
  intro z hz
  obtain ⟨i, hi, rfl⟩ := List.mem_iff_getElem.1 hz
  have h1 := ((storeB_iff.1 h).1 i hi hi).1
  simp only [stkB, Bool.and_eq_true] at h1
  exact inB_iff.1 h1.2
noncomputable def srvQ (zs : List OrderT) (S : List StockT) : Bool := listedB zs 10 && storeB S
noncomputable def srvS (zs : List OrderT) (S : List StockT) : StT := if srvQ zs S = true then stF zs (quO zs) (List.replicate zs.length 0, S) zs.length else ([], [])
theorem first_k (S : List StockT) (x : ByteArray) : ∀ m, m ≤ S.length → (∀ j, j < m → ∀ h : j < S.length, S[j].1 ≠ x) ∨ ∃ f, ∃ hf : f < S.length, S[f].1 = x ∧ ∀ j (hj : j < f), (S[j]'(by omega)).1 ≠ x
  | 0, _ => .inl fun j hj => absurd hj (Nat.not_lt_zero _)
  | m + 1, h => by
    rcases first_k S x m (by omega) with h1 | h1
    · by_cases h2 : (S[m]'(by omega)).1 = x
      · exact .inr ⟨m, by omega, h2, fun j hj => h1 j hj (by omega)⟩
      · refine .inl fun j hj hl => ?_
        by_cases hjm : j < m
        · exact h1 j hjm hl
        · have : j = m := by omega
          subst this; exact h2
    · exact .inr h1
theorem ord_cnt {zs : List OrderT} {most : Int} (h : listedB zs most = true) {k : Nat} (hk : k < zs.length) {x0 : Int} {x1 : ByteArray} {x2 x3 x4 : Int} (hx : zs[k] = (x0, x1, x2, x3, x4)) : 1 ≤ x2 ∧ x2 ≤ 99 := by
  have h1 := ((listedB_iff.1 h).1 k hk hk).1
  rw [hx] at h1
  simp only [okP, ordB, Bool.and_eq_true] at h1
  exact inB_iff.1 h1.2.2.1
theorem inv_stp {zs : List OrderT} {S0 : List StockT} {s : StT} {n i : Nat} (hv : listedB zs 10 = true) (hi : i < zs.length) (h : inv n S0 s) : inv n S0 (stp zs s i) := by
  rcases hz : zs[i] with ⟨x0, x1, x2, x3, x4⟩
  have hc := ord_cnt hv hi hz
  rcases first_k s.2 x1 s.2.length (Nat.le_refl _) with h1 | ⟨f, hf, h1, h2⟩
  · rw [stp_no hi hz (fun j hj => h1 j hj hj)]; exact h
  · rcases hS : s.2[f] with ⟨k, c⟩
    rw [hS] at h1
    obtain rfl : k = x1 := h1
    have hcb := h.2.2 _ (hS ▸ List.getElem_mem hf)
    simp only at hcb
    rw [stp_yes hi hz hf hS h2]
    exact inv_put h hf hS (by omega)
theorem inv_stF {zs : List OrderT} {S0 : List StockT} {s : StT} {n : Nat} {Q : List Int} (hv : listedB zs 10 = true) (hQ : ∀ y ∈ Q, ∃ i : Nat, i < zs.length ∧ y = (i : Int)) (h : inv n S0 s) : ∀ k, k ≤ Q.length → inv n S0 (stF zs Q s k)
  | 0, _ => h
  | k + 1, hk => by
    obtain ⟨i, hi, hx⟩ := hQ Q[k] (List.getElem_mem (by omega))
    rw [stF_succ (by omega) hx]
    exact inv_stp hv hi (inv_stF hv hQ h k (by omega))
end Go.Proofs.Ytaekngiejehooaa
