/-
  What the law of the aircraft says, in plain Lean. Conditions: the bounds that stand in each statement.
-/
import Derived.Test.YtbioleagenoogaaWT
namespace Go.Proofs.Ytbioleagenoogaa
open Go Go.RowKit
set_option maxHeartbeats 1000000

theorem bsA_le {zs : List AircraftT} {wa le ba : Int} : ∀ k i, i < k → ltr wa le ba (zs.getD i ac0) ≤ (bsA zs wa le ba k).2
  | 0, i, h => absurd h (Nat.not_lt_zero _)
  | k + 1, i, h => by
    show _ ≤ (if _ < _ then _ else _ : Int × Int).2
    by_cases e : i = k
    · subst e
      split
      · exact Int.le_refl _
      · omega
    · have ih := bsA_le (zs := zs) (wa := wa) (le := le) (ba := ba) k i (by omega)
      split
      · show _ ≤ ltr wa le ba (zs.getD k ac0); omega
      · exact ih
theorem bsA_at {zs : List AircraftT} {wa le ba : Int} : ∀ k, 0 < (bsA zs wa le ba k).2 → ∃ i, i < k ∧ bsA zs wa le ba k = ((zs.getD i ac0).1, ltr wa le ba (zs.getD i ac0))
  | 0, h => by simp [bsA] at h
  | k + 1, h => by
    by_cases c : (bsA zs wa le ba k).2 < ltr wa le ba (zs.getD k ac0)
    · exact ⟨k, by omega, by show (if _ < _ then _ else _) = _; rw [if_pos c]⟩
    · have e : bsA zs wa le ba (k + 1) = bsA zs wa le ba k := by show (if _ < _ then _ else _) = _; rw [if_neg c]
      rw [e] at h ⊢
      obtain ⟨i, h1, h2⟩ := bsA_at k h
      exact ⟨i, by omega, h2⟩
theorem id_inj {zs : List AircraftT} (h : listedB zs 6 = true) {i j : Nat} (hi : i < zs.length) (hj : j < zs.length) (e : (zs.getD i ac0).1 = (zs.getD j ac0).1) : i = j := by
  rcases Nat.lt_trichotomy i j with c | c | c
  · have := listed_lt h i j c hj; omega
  · exact c
  · have := listed_lt h j i c hi; omega
theorem bs_law {zs : List AircraftT} {wa le ba I M : Int} (hq : baQ zs wa le ba = true) (hI : baI zs wa le ba = I) (hM : baM zs wa le ba = M) :
    listedB zs 6 = true ∧ tgB wa le ba = true ∧ ∀ i, i < zs.length → ltr wa le ba (zs.getD i ac0) ≤ M ∧ ((zs.getD i ac0).1 = I → ltr wa le ba (zs.getD i ac0) = M) := by
  simp only [baQ, Bool.and_eq_true, decide_eq_true_eq] at hq
  obtain ⟨hB, hpos⟩ := hq
  have eI : (bsA zs wa le ba zs.length).1 = I := by rw [← hI]; unfold baI; rw [if_pos hB]
  have eM : (bsA zs wa le ba zs.length).2 = M := by rw [← hM]; unfold baM; rw [if_pos hB]
  simp only [baB, Bool.and_eq_true] at hB
  refine ⟨hB.1, hB.2, fun i hi => ⟨by rw [← eM]; exact bsA_le _ i hi, fun h => ?_⟩⟩
  obtain ⟨j, hj, e⟩ := bsA_at _ hpos
  rw [e] at eI eM
  have : i = j := id_inj hB.1 hi hj (h.trans eI.symm)
  rw [this]; exact eM
theorem drp_lt {s fi wa le : Int} (hs : 1 ≤ s ∧ s ≤ 20) (hfi : 1 ≤ fi ∧ fi ≤ 30) (hle : 1 ≤ le ∧ le ≤ 400) (i : Nat) : ∀ j, i < j → drp s fi wa le ((i : Int) + 1) < drp s fi wa le ((j : Int) + 1)
  | 0, h => absurd h (Nat.not_lt_zero _)
  | j + 1, h => by
    have e := drp_next s fi wa le ((j : Int) + 1)
    have h1 := mn_bd hs hle
    have e2 : (((j + 1 : Nat) : Int) + 1) = (j : Int) + 1 + 1 := by omega
    rw [e2, e]
    by_cases c : i = j
    · subst c; omega
    · have := drp_lt (wa := wa) hs hfi hle i j (by omega); omega
theorem cin_more {s fi wa le M b : Int} (hs : 1 ≤ s ∧ s ≤ 20) (hfi : 1 ≤ fi ∧ fi ≤ 30) (hle : 1 ≤ le ∧ le ≤ 400) : ∀ j, cin s fi wa le M b j ≤ cin s fi wa le (M + 1) b j ∧ cin s fi wa le (M + 1) b j ≤ cin s fi wa le M b j + 1 ∧ (cin s fi wa le (M + 1) b j ≠ cin s fi wa le M b j → ∃ i, i < j ∧ b + drp s fi wa le ((i : Int) + 1) = M + 1)
  | 0 => by simp [cin]
  | j + 1 => by
    obtain ⟨h1, h2, h3⟩ := cin_more (M := M) (b := b) (wa := wa) hs hfi hle j
    simp only [cin]
    by_cases c : b + drp s fi wa le ((j : Int) + 1) = M + 1
    · have h4 : cin s fi wa le (M + 1) b j = cin s fi wa le M b j := by
        by_cases h5 : cin s fi wa le (M + 1) b j = cin s fi wa le M b j
        · exact h5
        · obtain ⟨i, hi, he⟩ := h3 h5
          have := drp_lt (wa := wa) hs hfi hle i j hi
          omega
      rw [if_neg (show ¬ b + drp s fi wa le ((j : Int) + 1) ≤ M by omega), if_pos (show b + drp s fi wa le ((j : Int) + 1) ≤ M + 1 by omega), h4]
      exact ⟨by omega, by omega, fun _ => ⟨j, by omega, c⟩⟩
    · by_cases d : b + drp s fi wa le ((j : Int) + 1) ≤ M
      · rw [if_pos d, if_pos (by omega)]
        refine ⟨by omega, by omega, fun h => ?_⟩
        obtain ⟨i, hi, he⟩ := h3 (by omega)
        exact ⟨i, by omega, he⟩
      · rw [if_neg d, if_neg (by omega)]
        refine ⟨by omega, by omega, fun h => ?_⟩
        obtain ⟨i, hi, he⟩ := h3 (by omega)
        exact ⟨i, by omega, he⟩
theorem cin_none {s fi wa le M b : Int} : ∀ j, (∀ i : Nat, i < j → ¬ b + drp s fi wa le ((i : Int) + 1) ≤ M) → cin s fi wa le M b j = 0
  | 0, _ => rfl
  | j + 1, h => by
    simp only [cin]
    rw [cin_none j (fun i hi => h i (by omega)), if_neg (h j (by omega))]; rfl
theorem lit_more {s fi wa le M P : Int} {N : Nat} (hs : 1 ≤ s ∧ s ≤ 20) (hfi : 1 ≤ fi ∧ fi ≤ 30) (hwa : 1 ≤ wa ∧ wa ≤ 400) (hle : 1 ≤ le ∧ le ≤ 400) (hP : 1 ≤ P) (hN : ∀ i : Nat, i < N → drp s fi wa le ((i : Int) + 1) < P) (hN6 : N ≤ 600) :
    ∀ g b, lit s fi wa le M P N g b ≤ lit s fi wa le (M + 1) P N g b ∧ lit s fi wa le (M + 1) P N g b ≤ lit s fi wa le M P N g b + 1
  | 0, _ => by simp [lit]
  | g + 1, b => by
    by_cases c : b ≤ M
    · rw [lit_step c, lit_step (show b ≤ M + 1 by omega)]
      obtain ⟨h1, h2, h3⟩ := cin_more (M := M) (b := b) (wa := wa) hs hfi hle N
      by_cases d : cin s fi wa le (M + 1) b N = cin s fi wa le M b N
      · have ih := lit_more (M := M) hs hfi hwa hle hP hN hN6 g (b + P)
        omega
      · obtain ⟨i, hi, he⟩ := h3 d
        have := hN i hi
        rw [lit_end (show ¬ b + P ≤ M by omega), lit_end (show ¬ b + P ≤ M + 1 by omega)]
        omega
    · rw [lit_end c]
      by_cases d : b ≤ M + 1
      · rw [lit_step d, lit_end (show ¬ b + P ≤ M + 1 by omega), cin_none N (fun i hi => by
          have := (drp_bd (wa := wa) (k := (i : Int) + 1) hs hfi hwa hle (by omega)).2.2 (by omega)
          omega)]
        omega
      · rw [lit_end d]; omega
theorem lit_law {i l s f fi wa le ba M t v v' : Int} {N : Nat} (hN : acB i l s f fi = true → tgB wa le ba = true → MD s f fi wa le ba N) (hq : litB i l s f fi wa le ba M t = true) (hq' : litB i l s f fi wa le ba (M + 1) t = true) (hv : litI i l s f fi wa le ba M t N = v) (hv' : litI i l s f fi wa le ba (M + 1) t N = v') :
    (v ≤ v' ∧ v' - v ≤ l) ∧ (0 ≤ M ∧ M ≤ 1999) ∧ -48000000000 ≤ v' - v ∧ v' - v ≤ 48000000000 := by
  have h1 := hq
  have h2 := hq'
  simp only [litB, Bool.and_eq_true] at h1 h2
  obtain ⟨⟨ha, ht⟩, hm, htt⟩ := h1
  obtain ⟨g1, g2, g3, g4, g5⟩ := acB_bd ha
  obtain ⟨g6, g7, g8⟩ := tgB_bd ht
  have bm := inB_iff.1 hm
  have bm' := inB_iff.1 h2.2.1
  have bt := inB_iff.1 htt
  have hmd := hN ha ht
  unfold litI at hv hv'
  rw [if_pos hq] at hv
  rw [if_pos hq'] at hv'
  by_cases n0 : N = 0
  · rw [if_pos n0] at hv hv'
    omega
  · rw [if_neg n0] at hv hv'
    have hsr : drp s fi wa le N < srt s fi wa le ba N := by
      have := mn_bd g3 g8
      unfold srt; omega
    have hd1 := (drp_bd (k := (N : Int)) g3 g5 g6 g7 (by have := hmd.1; omega)).2.2 (by omega)
    have key := lit_more (M := M) (P := srt s fi wa le ba N + t) (N := N) g3 g5 g6 g7 (by omega) (fun j hj => by
      have e : ((N - 1 : Nat) : Int) + 1 = (N : Int) := by omega
      by_cases c : j = N - 1
      · subst c; rw [e]; omega
      · have := drp_lt (wa := wa) g3 g5 g7 j (N - 1) (by omega)
        rw [e] at this; omega) hmd.1 2001 0
    obtain ⟨c, hc⟩ : ∃ c, lit s fi wa le M (srt s fi wa le ba N + t) N 2001 0 = c := ⟨_, rfl⟩
    obtain ⟨c', hc'⟩ : ∃ c, lit s fi wa le (M + 1) (srt s fi wa le ba N + t) N 2001 0 = c := ⟨_, rfl⟩
    rw [hc] at hv key
    rw [hc'] at hv' key
    have hcc : c' = c ∨ c' = c + 1 := by omega
    rcases hcc with h | h
    · subst h; omega
    · subst h
      rw [Int.add_mul, Int.one_mul] at hv'
      omega
theorem tot_erase (f : Nat → Int) : ∀ (s : List Nat) (p : Nat), p ∈ s → tot f (s.erase p) = tot f s - f p
  | [], p, h => by simp at h
  | a :: s, p, h => by
    by_cases c : a = p
    · subst c; simp only [List.erase_cons_head, tot]; omega
    · have h2 : p ∈ s := (List.mem_cons.1 h).resolve_left (fun e => c e.symm)
      have e : (a :: s).erase p = a :: s.erase p := by simp [c]
      rw [e]
      simp only [tot, tot_erase f s p h2]; omega
def chE (n : Nat) : Bool := ((List.range (2 ^ n)).map (bts n)).all fun s => s.all fun p => ((List.range (2 ^ n)).map (bts n)).contains (s.erase p)
theorem chE_all : ∀ n, n ≤ 6 → chE n = true := by
  intro n hn
  match n, hn with
  | 0, _ => decide +kernel
  | 1, _ => decide +kernel
  | 2, _ => decide +kernel
  | 3, _ => decide +kernel
  | 4, _ => decide +kernel
  | 5, _ => decide +kernel
  | 6, _ => decide +kernel
theorem few_law {zs : List AircraftT} {wa le ba need : Int} {s : List Nat} (h : ffR zs wa le ba need = some s) :
    listedB zs 6 = true ∧ tgB wa le ba = true ∧ (∃ k, k ≤ 64 ∧ s = bts zs.length k) ∧ need ≤ tot (lt3 zs wa le ba) s ∧ (∀ p ∈ s, tot (lt3 zs wa le ba) s - lt3 zs wa le ba p < need) ∧ 0 ≤ need := by
  by_cases hB : ffB zs wa le ba need = true
  · have n6 := ff_len hB
    have hb := ff_bits hB
    rw [h] at hb
    rcases fwS_inv zs.length (gdB zs wa le ba need) (2 ^ zs.length) with ⟨e, _⟩ | ⟨i, hi, e, hg, hmin⟩
    · rw [e] at hb; cases hb
    · rw [e] at hb
      have hs : s = bts zs.length i := by injection hb with hb; exact hb.symm
      have hB2 := hB
      simp only [ffB, Bool.and_eq_true] at hB2
      have h64 : 2 ^ zs.length ≤ 64 := Nat.pow_le_pow_right (n := 2) (by decide) n6
      refine ⟨hB2.1.1, hB2.1.2, ⟨i, by omega, hs⟩, ?_, fun p hp => ?_, (inB_iff.1 hB2.2).1⟩
      · rw [hs]
        unfold gdB at hg
        simp only [Bool.not_eq_true', decide_eq_false_iff_not] at hg
        omega
      · have hc := chE_all _ n6
        simp only [chE, List.all_eq_true] at hc
        have hm := hc s (List.mem_map.2 ⟨i, List.mem_range.2 hi, hs.symm⟩) p hp
        obtain ⟨j, hj, hje⟩ : ∃ j, j < 2 ^ zs.length ∧ bts zs.length j = s.erase p := by simpa using hm
        rw [← tot_erase _ s p hp]
        have hlen := List.length_erase_of_mem hp
        have hpos := List.length_pos_of_mem hp
        cases hgj : gdB zs wa le ba need (s.erase p) with
        | false =>
          unfold gdB at hgj
          simpa using hgj
        | true =>
          exfalso
          rcases hmin j hj (by rw [hje]; exact hgj) with h1 | h1
          · rw [hje, ← hs] at h1
            rw [h1] at hlen; omega
          · rw [hje, ← hs] at h1
            have h2 : ¬ s.length = (s.erase p).length := by omega
            unfold lesB at h1
            rw [if_neg h2] at h1
            simp only [decide_eq_true_eq] at h1
            omega
  · unfold ffR at h
    rw [if_neg hB] at h; cases h
theorem has_law {zs : List AircraftT} (h : listedB zs 6 = true) {k p : Nat} (hp : p < zs.length) : (idL zs (bts zs.length k)).contains (zs.getD p ac0).1 = decide (k / 2 ^ p % 2 = 1) := by
  have hm : (∃ i, i ∈ bts zs.length k ∧ (zs.getD i ac0).1 = (zs.getD p ac0).1) ↔ k / 2 ^ p % 2 = 1 := by
    constructor
    · rintro ⟨i, hi, e⟩
      have : i = p := id_inj h (bts_lt i hi) hp e
      subst this
      simpa using (List.mem_filter.1 hi).2
    · intro hb
      exact ⟨p, List.mem_filter.2 ⟨List.mem_range.2 hp, by simpa using hb⟩, rfl⟩
  rw [Bool.eq_iff_iff, decide_eq_true_iff, ← hm, List.contains_iff_mem]
  unfold idL
  rw [List.mem_map]
end Go.Proofs.Ytbioleagenoogaa
