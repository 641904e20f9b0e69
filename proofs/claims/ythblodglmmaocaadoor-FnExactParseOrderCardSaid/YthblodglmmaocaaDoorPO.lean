/-
  The text of an order is the text of one order. Conditions: those that stand in each statement.
-/
import Derived.Test.YthblodglmmaocaaDoorPM
import Derived.Test.YthblodglmmaocaaDoorOT
namespace Go.Proofs.YthblodglmmaocaaDoor
open Go Go.RowKit
set_option maxRecDepth 100000
set_option maxHeartbeats 4000000

theorem ord_list (i : Nat) (k : ByteArray) (c u t : Nat) : (ordText i k c u t).data.toList = ordL (Lib.decDigits i) (Lib.decDigits c) k.data.toList (Lib.decDigits u) (Lib.decDigits t) := by
  unfold ordText ordL
  simp only [ByteArray.data_append, Array.toList_append, numS_list]
  simp [bOrder, bUrgent, bAt]
theorem ord_parts {i : Nat} {k : ByteArray} {c u t : Nat} (hq : ordB i k c u t = true) : (1 ≤ i ∧ i ≤ 999) ∧ (1 ≤ k.size ∧ k.size ≤ 10) ∧ (1 ≤ c ∧ c ≤ 99) ∧ (1 ≤ u ∧ u ≤ 5) ∧ t ≤ 9999 ∧ Wd k.data.toList := by
  simp only [ordB, wordB, inB, Bool.and_eq_true, decide_eq_true_eq, List.all_eq_true] at hq
  obtain ⟨h1, ⟨h2, h3⟩, h4, h5, h6⟩ := hq
  refine ⟨by omega, by omega, by omega, by omega, by omega, fun x hx => ?_⟩
  have h := h2 x hx
  simp only [lowC, Bool.and_eq_true, decide_eq_true_eq] at h
  exact ⟨show 97 ≤ x.toNat by omega, show x.toNat ≤ 122 by omega⟩
theorem dgD (n : Nat) : Dg (Lib.decDigits n) := dg_dec (n + 1) n (Nat.lt_succ_self _)
theorem ord_words {i : Nat} {k : ByteArray} {c u t : Nat} {s : ByteArray} (hq : ordB i k c u t = true) (hs : ordText i k c u t = s) :
    s.size ≤ 60 ∧ spB 32 s = [mkB bOrder, numS i ++ mkB [58], numS c, k, mkB bUrgent, numS u, mkB bAt, numS t] ∧ spB 32 (drB 58 s) = [mkB bOrder, numS i, numS c, k, mkB bUrgent, numS u, mkB bAt, numS t] := by
  obtain ⟨hi, hk, hc, hu, ht, hw⟩ := ord_parts hq
  subst hs
  refine ⟨?_, ?_, ?_⟩
  · have z1 := numS_len (k := 2) (n := i) (by omega)
    have z2 := numS_len (k := 1) (n := c) (by omega)
    have z3 := numS_len (k := 0) (n := u) (by omega)
    have z4 := numS_len (k := 3) (n := t) (by omega)
    unfold ordText
    simp only [ByteArray.size_append]
    have e1 : ({ data := #[111, 114, 100, 101, 114, 32] } : ByteArray).size = 6 := rfl
    have e2 : ({ data := #[58, 32] } : ByteArray).size = 2 := rfl
    have e3 : ({ data := #[32] } : ByteArray).size = 1 := rfl
    have e4 : ({ data := #[32, 117, 114, 103, 101, 110, 116, 32] } : ByteArray).size = 8 := rfl
    have e5 : ({ data := #[32, 97, 116, 32] } : ByteArray).size = 4 := rfl
    omega
  · unfold spB
    rw [ord_list, ord_split (dgD i) (dgD c) hw (dgD u) (dgD t)]
    simp only [List.map_cons, List.map_nil]
    have e : mkB (Lib.decDigits i ++ [58]) = numS i ++ mkB [58] := by
      apply ByteArray.ext; simp [mkB, numS, ByteArray.data_append]
    have e2 : ∀ n, mkB (Lib.decDigits n) = numS n := fun n => rfl
    rw [e, e2, e2, e2, mkB_list]
  · unfold spB drB
    have e2 : ∀ n, mkB (Lib.decDigits n) = numS n := fun n => rfl
    rw [ord_list, show (mkB (dropL 58 (ordL (Lib.decDigits i) (Lib.decDigits c) k.data.toList (Lib.decDigits u) (Lib.decDigits t)))).data.toList = dropL 58 (ordL (Lib.decDigits i) (Lib.decDigits c) k.data.toList (Lib.decDigits u) (Lib.decDigits t)) from by simp [mkB], ord_drop (dgD i) (dgD c) hw (dgD u) (dgD t)]
    simp only [List.map_cons, List.map_nil]
    rw [e2, e2, e2, e2, mkB_list]
/-- what a text's order is: the order if there is one -/
def OrdOf (s : ByteArray) (i : Int) (k : ByteArray) (c u t : Int) (q : Bool) : Prop :=
  (q = true ∧ ordB i k c u t = true ∧ ordText i.toNat k c.toNat u.toNat t.toNat = s) ∨ (q = false ∧ i = 0 ∧ k = ⟨#[]⟩ ∧ c = 0 ∧ u = 0 ∧ t = 0 ∧ ∀ i k c u t, ordB i k c u t = true → ¬ ordText i.toNat k c.toNat u.toNat t.toNat = s)
theorem ord_nat {i : Int} {k : ByteArray} {c u t : Int} (hq : ordB i k c u t = true) : (i.toNat : Int) = i ∧ (c.toNat : Int) = c ∧ (u.toNat : Int) = u ∧ (t.toNat : Int) = t := by
  simp only [ordB, wordB, inB, Bool.and_eq_true, decide_eq_true_eq] at hq
  omega
theorem ord_wordsI {i : Int} {k : ByteArray} {c u t : Int} {s : ByteArray} (hq : ordB i k c u t = true) (hs : ordText i.toNat k c.toNat u.toNat t.toNat = s) :
    s.size ≤ 60 ∧ spB 32 s = [mkB bOrder, numS i.toNat ++ mkB [58], numS c.toNat, k, mkB bUrgent, numS u.toNat, mkB bAt, numS t.toNat] ∧ spB 32 (drB 58 s) = [mkB bOrder, numS i.toNat, numS c.toNat, k, mkB bUrgent, numS u.toNat, mkB bAt, numS t.toNat] := by
  obtain ⟨e1, e2, e3, e4⟩ := ord_nat hq
  exact ord_words (by rw [e1, e2, e3, e4]; exact hq) hs
theorem OrdOf.one {s : ByteArray} {i i' : Int} {k k' : ByteArray} {c u t c' u' t' : Int} {q q' : Bool} (h : OrdOf s i k c u t q) (h' : OrdOf s i' k' c' u' t' q') : i = i' ∧ k = k' ∧ c = c' ∧ u = u' ∧ t = t' ∧ q = q' := by
  rcases h with ⟨rfl, hq, hs⟩ | ⟨rfl, rfl, rfl, rfl, rfl, rfl, hn⟩
  · rcases h' with ⟨rfl, hq', hs'⟩ | ⟨rfl, _, _, _, _, _, hn⟩
    · obtain ⟨_, h1, _⟩ := ord_wordsI hq hs
      obtain ⟨_, _, h2⟩ := ord_wordsI hq hs
      obtain ⟨_, _, h2'⟩ := ord_wordsI hq' hs'
      rw [h2] at h2'
      simp only [List.cons.injEq, and_true, true_and] at h2'
      obtain ⟨a1, a2, a3, a4, a5⟩ := h2'
      obtain ⟨e1, e2, e3, e4⟩ := ord_nat hq
      obtain ⟨f1, f2, f3, f4⟩ := ord_nat hq'
      simp only [ordB, wordB, inB, Bool.and_eq_true, decide_eq_true_eq] at hq hq'
      have b1 := congrArg rdV a1
      have b2 := congrArg rdV a2
      have b4 := congrArg rdV a4
      have b5 := congrArg rdV a5
      rw [rdV_num (by omega), rdV_num (by omega)] at b1 b2 b4 b5
      exact ⟨by omega, a3, by omega, by omega, by omega, rfl⟩
    · exact absurd hs (hn _ _ _ _ _ hq)
  · rcases h' with ⟨rfl, hq', hs'⟩ | ⟨rfl, rfl, rfl, rfl, rfl, rfl, _⟩
    · exact absurd hs' (hn _ _ _ _ _ hq')
    · exact ⟨rfl, rfl, rfl, rfl, rfl, rfl⟩
theorem ord_read {s x0 x1 x2 x3 x4 x5 x6 x7 : ByteArray} (h : spB 32 s = [x0, x1, x2, x3, x4, x5, x6, x7]) {i : Int} {k : ByteArray} {c u t : Int} (hq : ordB i k c u t = true) (hs : ordText i.toNat k c.toNat u.toNat t.toNat = s) :
    2 ≤ x1.size ∧ rdV (x1.extract 0 (x1.size - 1)) = i ∧ x3 = k ∧ rdV x2 = c ∧ rdV x5 = u ∧ rdV x7 = t := by
  obtain ⟨_, h1, _⟩ := ord_wordsI hq hs
  rw [h] at h1
  simp only [List.cons.injEq, and_true] at h1
  obtain ⟨_, a1, a2, a3, _, a5, _, a7⟩ := h1
  obtain ⟨e1, e2, e3, e4⟩ := ord_nat hq
  have hb := ord_parts (i := i.toNat) (c := c.toNat) (u := u.toNat) (t := t.toNat) (by rw [e1, e2, e3, e4]; exact hq)
  subst a1 a2 a3 a5 a7
  have hp := numS_pos i.toNat
  refine ⟨?_, ?_, rfl, ?_, ?_, ?_⟩
  · rw [ByteArray.size_append, show (mkB [58]).size = 1 from rfl]; omega
  · rw [numS_ext, rdV_num (by omega), e1]
  · rw [rdV_num (by omega), e2]
  · rw [rdV_num (by omega), e3]
  · rw [rdV_num (by omega), e4]
theorem ord_readP {s x0 x1 x2 x3 x4 x5 x6 x7 : ByteArray} (h : spB 32 (drB 58 s) = [x0, x1, x2, x3, x4, x5, x6, x7]) {i : Int} {k : ByteArray} {c u t : Int} (hq : ordB i k c u t = true) (hs : ordText i.toNat k c.toNat u.toNat t.toNat = s) :
    piV x1 = i ∧ x3 = k ∧ piV x2 = c ∧ piV x5 = u ∧ piV x7 = t := by
  obtain ⟨_, _, h1⟩ := ord_wordsI hq hs
  rw [h] at h1
  simp only [List.cons.injEq, and_true] at h1
  obtain ⟨_, a1, a2, a3, _, a5, _, a7⟩ := h1
  obtain ⟨e1, e2, e3, e4⟩ := ord_nat hq
  have hb := ord_parts (i := i.toNat) (c := c.toNat) (u := u.toNat) (t := t.toNat) (by rw [e1, e2, e3, e4]; exact hq)
  subst a1 a2 a3 a5 a7
  refine ⟨?_, rfl, ?_, ?_, ?_⟩
  · rw [piV_num (by omega), e1]
  · rw [piV_num (by omega), e2]
  · rw [piV_num (by omega), e3]
  · rw [piV_num (by omega), e4]
theorem list8 {α : Type} {L : List α} (h : L.length = 8) : ∃ x0 x1 x2 x3 x4 x5 x6 x7, L = [x0, x1, x2, x3, x4, x5, x6, x7] := by
  match L, h with
  | [x0, x1, x2, x3, x4, x5, x6, x7], _ => exact ⟨x0, x1, x2, x3, x4, x5, x6, x7, rfl⟩
theorem rd8 {w : World} {b off : Nat} {x0 x1 x2 x3 x4 x5 x6 x7 : ByteArray} (h : Rd w 1 (some ⟨b, off, none⟩) 8 (strs [x0, x1, x2, x3, x4, x5, x6, x7])) :
    b < w.heap.size ∧ w.cell? ⟨b, off + 1, none⟩ = some (.string x1) ∧ w.cell? ⟨b, off + 2, none⟩ = some (.string x2) ∧ w.cell? ⟨b, off + 3, none⟩ = some (.string x3) ∧ w.cell? ⟨b, off + 5, none⟩ = some (.string x5) ∧ w.cell? ⟨b, off + 7, none⟩ = some (.string x7) := by
  obtain ⟨b', off', e, hlt, hc⟩ := h.2 (by decide)
  simp only [Option.some.injEq, Addr.mk.injEq, and_true] at e
  obtain ⟨rfl, rfl⟩ := e
  exact ⟨hlt, hc 1 _ rfl, hc 2 _ rfl, hc 3 _ rfl, hc 5 _ rfl, hc 7 _ rfl⟩
/-- words of a text are no longer than the text -/
theorem splitL_mem (c : UInt8) : ∀ (l : List UInt8), ∀ x ∈ splitL c l, x.length ≤ l.length
  | [], x, hx => by simp [splitL] at hx; subst hx; simp
  | y :: ys, x, hx => by
    have ih := splitL_mem c ys
    unfold splitL at hx
    by_cases h : y = c
    · rw [if_pos h] at hx
      rcases List.mem_cons.1 hx with rfl | hx
      · simp
      · have := ih x hx; simp; omega
    · rw [if_neg h] at hx
      rcases List.mem_cons.1 hx with rfl | hx
      · cases hs : splitL c ys with
        | nil => simp
        | cons z zs => have := ih z (by rw [hs]; exact List.mem_cons_self); simp; exact this
      · have := ih x (List.mem_of_mem_tail hx); simp; omega
theorem spB_mem {c : UInt8} {s x : ByteArray} (h : x ∈ spB c s) : x.size ≤ s.size := by
  unfold spB at h
  obtain ⟨l, hl, rfl⟩ := List.mem_map.1 h
  have h2 := splitL_mem c _ l hl
  show l.toArray.size ≤ s.data.size
  rw [List.size_toArray]
  rw [Array.length_toList] at h2
  exact h2
end Go.Proofs.YthblodglmmaocaaDoor
