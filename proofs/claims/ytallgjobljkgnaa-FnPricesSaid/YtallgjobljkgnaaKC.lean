/-
  Tables that are marked, and what is kept beside. Conditions: lengths within the bound of a slice.
-/
import Derived.Test.YtallgjobljkgnaaKB
namespace Go.Proofs.Ytallgjobljkgnaa
open Go.RowKit
set_option maxRecDepth 100000
set_option maxHeartbeats 1000000

/-- only blocks from lo to hi are written, new ones may be made -/
def Mid (lo hi : Nat) (w w' : World) : Prop := w'.os = w.os ∧ w'.tape = w.tape ∧ w'.output = w.output ∧ w.heap.size ≤ w'.heap.size ∧ ∀ i, i < w.heap.size → (i < lo ∨ hi ≤ i) → w'.heap[i]? = w.heap[i]?
theorem Mid.refl (lo hi : Nat) (w : World) : Mid lo hi w w := ⟨rfl, rfl, rfl, Nat.le_refl _, fun _ _ _ => rfl⟩
theorem Mid.trans {lo hi : Nat} {w w1 w2 : World} (h : Mid lo hi w w1) (h' : Mid lo hi w1 w2) : Mid lo hi w w2 :=
  ⟨h'.1.trans h.1, h'.2.1.trans h.2.1, h'.2.2.1.trans h.2.2.1, Nat.le_trans h.2.2.2.1 h'.2.2.2.1, fun i hi1 hi2 => (h'.2.2.2.2 i (Nat.lt_of_lt_of_le hi1 h.2.2.2.1) hi2).trans (h.2.2.2.2 i hi1 hi2)⟩
theorem Mid.of_below {lo hi : Nat} {w w' : World} (h : Below w.heap.size w w') : Mid lo hi w w' := ⟨h.os, h.tape, h.output, h.size, fun i hi1 _ => h.block i hi1⟩
theorem Mid.of_grown {lo hi g : Nat} {w w' : World} (h : w.grownBy w' (some g)) (h1 : lo ≤ g) (h2 : g < hi) : Mid lo hi w w' :=
  ⟨h.os, h.tape, h.output, h.size, fun i hi1 hi2 => h.block i hi1 (by intro e; cases e; omega)⟩
theorem below_mid {lo hi : Nat} {w w1 w2 : World} (h : Below w.heap.size w w1) (hm : Mid lo hi w1 w2) (hlo : w.heap.size ≤ lo) : Below w.heap.size w w2 :=
  ⟨hm.1.trans h.os, hm.2.1.trans h.tape, hm.2.2.1.trans h.output, Nat.le_trans h.size hm.2.2.2.1, fun i hi1 => (hm.2.2.2.2 i (Nat.lt_of_lt_of_le hi1 h.size) (.inl (by omega))).trans (h.block i hi1)⟩
theorem own_mid {lo hi base k n : Nat} {t : TypeId} {v : Value} {xs : List Value} {w w' : World} (h : w.ownsRow base t k v n xs) (hm : Mid lo hi w w') (hb : hi ≤ base) : w'.ownsRow base t k v n xs := by
  rcases own_bk h with ⟨hv, rfl⟩ | ⟨g, cap, cs, rfl, hb1, hB, h1, h2, h3, h4⟩
  · exact ⟨h.1, .inl ⟨hv, rfl⟩⟩
  · exact bk_own hb1 ((hm.2.2.2.2 g hB.lt (.inr (by omega))).trans hB) h1 h2 h3 h4
theorem bk_uniq {w : World} {g : Nat} {t t' : TypeId} {cs cs' : List Value} (h : Bk w g t cs) (h' : Bk w g t' cs') : cs = cs' := by
  unfold Bk at h h'
  rw [h] at h'
  simp only [Option.some.injEq, Obj.cells.injEq] at h'
  have h2 := h'.1
  simpa using h2
theorem markIntSS_any (g n c : Nat) (f : Nat → Nat) (T : List (List Int)) (k lo hi : Nat) (w : World) (hB : BkT w g f T) (hl : T.length = n) (hn : n ≤ 1048576) (hm : ∀ i, i < n → (row T i).length ≤ 1048576) (hk : k ≤ 1048576) (hlo : ∀ i, i < n → lo ≤ f i ∧ f i < hi) :
    Calls Try.prog 12 #[.slice (some ⟨g, 0, none⟩) n c, .int .i64 k] w fun e w' => ∃ v : Nat, e = .returned (.int .i64 (v : Int)) ∧ v ≤ 1099512676352 + 1048576 ∧ Mid lo hi w w' := by
  have hO := hB.1
  have hF : ∀ i, i < n → g < f i ∧ ∃ cs, Bk w (f i) 3 cs ∧ (row T i).length ≤ cs.length := fun i hi => ⟨(hB.2 i (by omega)).1, _, (hB.2 i (by omega)).2, by simp [ints]⟩
  have Hm := Lib.hid hm
  have Hlo := Lib.hid hlo
  have HF := Lib.hid hF
  clear hB hm hlo hF
  go_enter Try.func12, Try.ntmps12
  go_wp2_with fail
  go_loopw [1, 5] (fun v i wr => ∃ j s : Nat, j ≤ n ∧ i = .int .i64 j ∧ v = .int .i64 (s : Int) ∧ s ≤ 1048576 + j * 1048576 ∧ Bk wr g 24 (rowVs f T T.length) ∧ Hid (∀ i, i < n → ∃ cs, Bk wr (f i) 3 cs ∧ (row T i).length ≤ cs.length) ∧ Mid lo hi w wr) (fun _ i _ => n - (intOf i).toNat)
  case atStart => exact ⟨0, k, Nat.zero_le _, rfl, rfl, by omega, hO, Lib.hid (fun i hi => (HF.out i hi).2), Mid.refl _ _ _⟩
  case round =>
    obtain ⟨j, s, hj, rfl, rfl, hs, hO, HK, hM⟩ := hrel
    by_cases hlt : j < n
    · obtain ⟨cs, hC, hcl⟩ := HK.out j hlt
      have c0 : wr.cell? ⟨g, j, none⟩ = some (.slice (some ⟨f j, 0, none⟩) (row T j).length (row T j).length) := by
        rw [hO.cell]; simp [rowVs, hl, hlt]
      have hmj := Hm.out j hlt
      obtain ⟨h1, h2⟩ := Hlo.out j hlt
      have h3 := (HF.out j hlt).1
      obtain ⟨m, hmm⟩ : ∃ m, (row T j).length = m := ⟨_, rfl⟩
      rw [hmm] at c0 hcl hmj
      have HMM := Lib.hid hmm
      have HC := Lib.hid hC
      have HOO := Lib.hid hO
      clear hmm hC hO
      go_wp2_with fail
      refine (markIntS_any (f j) m m 3 cs s _ HC.out hcl (by omega) (by omega)).mono ?_
      rintro e w1 ⟨rfl, hB1, hG1⟩
      have hO1 : Bk w1 g 24 (rowVs f T T.length) := HOO.out.grown hG1 (by intro e; cases e; omega)
      have HK1 : Hid (∀ i, i < n → ∃ cs, Bk w1 (f i) 3 cs ∧ (row T i).length ≤ cs.length) := Lib.hid (fun i hi => by
        obtain ⟨cs', hC', hl'⟩ := HK.out i hi
        by_cases hfe : f i = f j
        · rw [hfe] at hC' ⊢
          have e := bk_uniq HC.out hC'
          subst e
          refine ⟨_, hB1, ?_⟩
          have e2 : (ints (marks (s : Int) m) ++ List.drop m cs).length = m + (cs.length - m) := by simp [ints, marks]
          rw [e2]
          omega
        · exact ⟨cs', hC'.grown hG1 (by intro e; exact hfe (Option.some.inj e)), hl'⟩)
      go_wp2
      go_roundw
      case rel => exact ⟨j + 1, s + m, by omega, by go_num, by go_num, by omega, hO1, HK1, hM.trans (Mid.of_grown hG1 h1 h2)⟩
      case measure => simp [intOf]; omega
    · have hjn : j = n := by omega
      subst hjn
      clear HK
      go_wp2
      go_returns
      exact ⟨s, rfl, by omega, hM⟩
end Go.Proofs.Ytallgjobljkgnaa
