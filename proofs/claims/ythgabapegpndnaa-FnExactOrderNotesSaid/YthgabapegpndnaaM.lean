/-
  Notes that are marked, and what is kept beside. Conditions: lengths within the bound of a slice.
-/
import Derived.Test.YthgabapegpndnaaC
namespace Go.Proofs.Ythgabapegpndnaa
open Go.RowKit
set_option maxRecDepth 100000
set_option maxHeartbeats 2000000

/-- only blocks from lo to hi are written, new ones may be made -/
def Mid (lo hi : Nat) (w w' : World) : Prop := w'.os = w.os ∧ w'.tape = w.tape ∧ w'.output = w.output ∧ w.heap.size ≤ w'.heap.size ∧ ∀ i, i < w.heap.size → (i < lo ∨ hi ≤ i) → w'.heap[i]? = w.heap[i]?
theorem Mid.refl (lo hi : Nat) (w : World) : Mid lo hi w w := ⟨rfl, rfl, rfl, Nat.le_refl _, fun _ _ _ => rfl⟩
theorem Mid.trans {lo hi : Nat} {w w1 w2 : World} (h : Mid lo hi w w1) (h' : Mid lo hi w1 w2) : Mid lo hi w w2 :=
  ⟨h'.1.trans h.1, h'.2.1.trans h.2.1, h'.2.2.1.trans h.2.2.1, Nat.le_trans h.2.2.2.1 h'.2.2.2.1, fun i hi1 hi2 => (h'.2.2.2.2 i (Nat.lt_of_lt_of_le hi1 h.2.2.2.1) hi2).trans (h.2.2.2.2 i hi1 hi2)⟩
theorem Mid.of_below {lo hi : Nat} {w w' : World} (h : Below w.heap.size w w') : Mid lo hi w w' := ⟨h.os, h.tape, h.output, h.size, fun i hi1 _ => h.block i hi1⟩
theorem Mid.of_grown {lo hi g : Nat} {w w' : World} (h : w.grownBy w' (some g)) (h1 : lo ≤ g) (h2 : g < hi) : Mid lo hi w w' :=
  ⟨h.os, h.tape, h.output, h.size, fun i hi1 hi2 => h.block i hi1 (by intro e; cases e; omega)⟩
theorem Mid.of_set {lo hi g : Nat} {w : World} {k : Nat} {u : Value} (h1 : lo ≤ g) (h2 : g < hi) : Mid lo hi w (w.setCell ⟨g, k, none⟩ u) := Mid.of_grown (onlySet w ⟨g, k, none⟩ u) h1 h2
theorem below_mid {lo hi : Nat} {w w1 w2 : World} (h : Below w.heap.size w w1) (hm : Mid lo hi w1 w2) (hlo : w.heap.size ≤ lo) : Below w.heap.size w w2 :=
  ⟨hm.1.trans h.os, hm.2.1.trans h.tape, hm.2.2.1.trans h.output, Nat.le_trans h.size hm.2.2.2.1, fun i hi1 => (hm.2.2.2.2 i (Nat.lt_of_lt_of_le hi1 h.size) (.inl (by omega))).trans (h.block i hi1)⟩
theorem own_mid {lo hi base k n : Nat} {t : TypeId} {v : Value} {xs : List Value} {w w' : World} (h : w.ownsRow base t k v n xs) (hm : Mid lo hi w w') (hb : hi ≤ base) : w'.ownsRow base t k v n xs := by
  rcases own_bk h with ⟨hv, rfl⟩ | ⟨g, cap, cs, rfl, hb1, hB, h1, h2, h3, h4⟩
  · exact ⟨h.1, .inl ⟨hv, rfl⟩⟩
  · exact bk_own hb1 ((hm.2.2.2.2 g hB.lt (.inr (by omega))).trans hB) h1 h2 h3 h4
theorem bk_uniq {w : World} {g : Nat} {t t' : TypeId} {cs cs' : List Value} (h : Bk w g t cs) (h' : Bk w g t' cs') : cs = cs' := by
  unfold Bk at h h'
  rw [h] at h'
  simp only [Option.some.injEq, Obj.cells.injEq] at h'
  have h2 := h'.1
  simpa using h2
/-- the outer block of marked notes: the clocks' slices stand as they stood -/
def OutN (w : World) (g n : Nat) (f m : Nat → Nat) : Prop := ∃ cs, Bk w g 35 cs ∧ cs.length = n * 4 ∧ ∀ i, i < n → cs[i * 4 + 2]? = some (.slice (some ⟨f i, 0, none⟩) (m i) (m i))
theorem OutN.set_ {w : World} {g n : Nat} {f m : Nat → Nat} (h : OutN w g n f m) {k j : Nat} (hj : j = 0 ∨ j = 1 ∨ j = 3) (u : Value) : OutN (w.setCell ⟨g, k * 4 + j, none⟩ u) g n f m := by
  obtain ⟨cs, h1, h2, h3⟩ := h
  refine ⟨_, h1.set_ (k * 4 + j) u, by simpa using h2, fun i hi => ?_⟩
  rw [List.getElem?_set_ne (by omega)]
  exact h3 i hi
theorem OutN.far {w : World} {g n : Nat} {f m : Nat → Nat} (h : OutN w g n f m) {w' : World} {row : Option Nat} (hg : w.grownBy w' row) (hne : some g ≠ row) : OutN w' g n f m := by
  obtain ⟨cs, h1, h2, h3⟩ := h
  exact ⟨cs, h1.grown hg hne, h2, h3⟩
theorem OutN.at_ {w : World} {g n : Nat} {f m : Nat → Nat} (h : OutN w g n f m) {k j : Nat} (hk : k < n) (hj : j < 4) : ∃ u, w.cell? ⟨g, k * 4 + j, none⟩ = some u := by
  obtain ⟨cs, h1, h2, _⟩ := h
  exact ⟨cs[k * 4 + j]'(by omega), by rw [h1.cell, List.getElem?_eq_getElem]⟩
theorem OutN.two {w : World} {g n : Nat} {f m : Nat → Nat} (h : OutN w g n f m) {k : Nat} (hk : k < n) : w.cell? ⟨g, k * 4 + 2, none⟩ = some (.slice (some ⟨f k, 0, none⟩) (m k) (m k)) := by
  obtain ⟨cs, h1, _, h3⟩ := h
  rw [h1.cell, h3 k hk]
theorem OutN.frozen {w : World} {g n : Nat} {f m : Nat → Nat} (h : OutN w g n f m) (i : Nat) : w.frozen? ⟨g, i, none⟩ = false := by
  obtain ⟨cs, h1, _, _⟩ := h
  exact h1.frozen i
theorem OutN.lt {w : World} {g n : Nat} {f m : Nat → Nat} (h : OutN w g n f m) : g < w.heap.size := by
  obtain ⟨cs, h1, _, _⟩ := h
  exact h1.lt
theorem markNoteS_any (g n c : Nat) (f : Nat → Nat) (Z : List NoteV) (k lo hi : Nat) (w : World) (hB : BkN w g f Z) (hl : Z.length = n) (hn : n ≤ 1048576) (hm : ∀ i, i < n → (nAt Z i).2.2.1.length ≤ 1048576) (hk : 0 < k ∧ k ≤ 1048576) (hlo : ∀ i, i < n → lo ≤ f i ∧ f i < hi) (hg : lo ≤ g ∧ g < hi) :
    Calls Try.prog 23 #[.slice (some ⟨g, 0, none⟩) n c, .int .i64 k] w fun e w' => ∃ v : Nat, e = .returned (.int .i64 (v : Int)) ∧ v ≤ 1099514773504 + 1048576 + 1048576 ∧ Mid lo hi w w' := by
  obtain ⟨g0, g1⟩ := hg
  obtain ⟨k0, k1⟩ := hk
  have hO : OutN w g n f (fun i => (nAt Z i).2.2.1.length) := by
    refine ⟨_, hB.1, by rw [notVs_len, hl], fun i hi => ?_⟩
    have := notVs_get (f := f) (Z := Z) (n := Z.length) (k := i) (j := 2) (by omega) (by omega) []
    simpa [notE] using this
  have hF : ∀ i, i < n → g < f i ∧ ∃ cs, Bk w (f i) 3 cs ∧ (nAt Z i).2.2.1.length ≤ cs.length := fun i hi => ⟨(hB.2 i (by omega)).1, _, (hB.2 i (by omega)).2, by simp [ints]⟩
  obtain ⟨mf, hmf⟩ : ∃ mf : Nat → Nat, mf = fun i => (nAt Z i).2.2.1.length := ⟨_, rfl⟩
  have hm2 : ∀ i, i < n → mf i ≤ 1048576 := fun i hi => by rw [hmf]; exact hm i hi
  have hF2 : ∀ i, i < n → g < f i ∧ ∃ cs, Bk w (f i) 3 cs ∧ mf i ≤ cs.length := fun i hi => by rw [hmf]; exact hF i hi
  rw [← hmf] at hO
  have HO := Lib.hid hO
  have Hm := Lib.hid hm2
  have Hlo := Lib.hid hlo
  have HF := Lib.hid hF2
  clear hB hm hlo hF hO hmf hm2 hF2
  go_enter Try.func23, Try.ntmps23
  go_wp2_with fail
  go_loopw [1, 5] (fun v i wr => ∃ j s : Nat, j ≤ n ∧ i = .int .i64 j ∧ v = .int .i64 (s : Int) ∧ 0 < s ∧ s ≤ 1048576 + j * 1048579 ∧ Hid (OutN wr g n f mf) ∧ Hid (∀ i, i < n → ∃ cs, Bk wr (f i) 3 cs ∧ mf i ≤ cs.length) ∧ Mid lo hi w wr) (fun _ i _ => n - (intOf i).toNat)
  case atStart => exact ⟨0, k, Nat.zero_le _, rfl, rfl, k0, by omega, HO, Lib.hid (fun i hi => (HF.out i hi).2), Mid.refl _ _ _⟩
  case round =>
    obtain ⟨j, s, hj, rfl, rfl, hs0, hs, HO, HK, hM⟩ := hrel
    by_cases hlt : j < n
    · have hmj := Hm.out j hlt
      obtain ⟨h1, h2⟩ := Hlo.out j hlt
      have h3 := (HF.out j hlt).1
      obtain ⟨cs, hC, hcl⟩ := HK.out j hlt
      obtain ⟨m, hmm⟩ : ∃ m, mf j = m := ⟨_, rfl⟩
      rw [hmm] at hcl hmj
      have HMM := Lib.hid hmm
      have hO := HO.out
      obtain ⟨u0, t0⟩ := hO.at_ hlt (j := 0) (by omega)
      obtain ⟨u1, t1⟩ := hO.at_ hlt (j := 1) (by omega)
      have t2 := hO.two hlt
      rw [hmm] at t2
      simp only [Nat.add_zero] at t0
      have f0 := hO.frozen (j * 4)
      have f1 := hO.frozen (j * 4 + 1)
      have gl := hO.lt
      have HC := Lib.hid hC
      clear hmm hC hO
      obtain ⟨wo, rfl⟩ : ∃ wo, wo = wr := ⟨_, rfl⟩
      go_wp2_with fail
      refine (markIntS_any (f j) m m 3 cs ((s : Int) + 1 + 1) _ ((HC.out.far (by show f j ≠ g; omega) _).far (by show f j ≠ g; omega) _) hcl (by omega) (by omega)).mono ?_
      rintro e w1 ⟨rfl, hB1, hG1⟩
      have hO1 : OutN w1 g n f mf := ((HO.out.set_ (k := j) (j := 0) (.inl rfl) (.int .i64 (s : Int))).set_ (k := j) (j := 1) (.inr (.inl rfl)) (.int .i64 ((s : Int) + 1))).far hG1 (by intro e; cases e; omega)
      have hM1 : Mid lo hi w w1 := ((hM.trans (Mid.of_set g0 g1)).trans (Mid.of_set g0 g1)).trans (Mid.of_grown hG1 h1 h2)
      have HK1 : Hid (∀ i, i < n → ∃ cs, Bk w1 (f i) 3 cs ∧ mf i ≤ cs.length) := Lib.hid (fun i hi => by
        obtain ⟨cs', hC', hl'⟩ := HK.out i hi
        have hgi := (HF.out i hi).1
        by_cases hfe : f i = f j
        · rw [hfe] at hC' ⊢
          have e := bk_uniq HC.out hC'
          subst e
          refine ⟨_, hB1, ?_⟩
          have e2 : (ints (marks ((s : Int) + 1 + 1) m) ++ List.drop m cs).length = m + (cs.length - m) := by simp [ints, marks]
          rw [e2]
          omega
        · exact ⟨cs', ((hC'.far (by show f i ≠ g; omega) _).far (by show f i ≠ g; omega) _).grown hG1 (by intro e; exact hfe (Option.some.inj e)), hl'⟩)
      have HO1 := Lib.hid hO1
      clear t0 t1 t2 f0 f1 gl hO1 hB1 hG1
      go_wp2_with fail
      refine (markText_any _ _ ⟨by omega, by omega⟩).mono ?_
      rintro e w2 ⟨rfl, hb2⟩
      have hO2 := HO1.out.far (grown_of_below hb2 none) (by simp)
      obtain ⟨u3, t3⟩ := hO2.at_ hlt (j := 3) (by omega)
      have f3 := hO2.frozen (j * 4 + 3)
      have gl := hO2.lt
      have HO2 := Lib.hid hO2
      have hM2 := hM1.trans (Mid.of_below hb2)
      have HK2 : Hid (∀ i, i < n → ∃ cs, Bk w2 (f i) 3 cs ∧ mf i ≤ cs.length) := Lib.hid (fun i hi => by
        obtain ⟨cs', hC', hl'⟩ := HK1.out i hi
        exact ⟨cs', hC'.below hb2 hC'.lt, hl'⟩)
      clear hO2
      go_wp2
      go_roundw
      case rel =>
        refine ⟨j + 1, s + m + 3, by omega, by go_num, by first | rfl | (congr 1; omega) | go_num, by omega, by omega, Lib.hid (HO2.out.set_ (k := j) (j := 3) (.inr (.inr rfl)) _), Lib.hid (fun i hi => ?_), hM2.trans (Mid.of_set g0 g1)⟩
        obtain ⟨cs', hC', hl'⟩ := HK2.out i hi
        have hgi := (HF.out i hi).1
        exact ⟨cs', hC'.far (by show f i ≠ g; omega) _, hl'⟩
      case measure => simp [intOf]; omega
    · have hjn : j = n := by omega
      subst hjn
      clear HK
      go_wp2
      go_returns
      exact ⟨s, rfl, by omega, hM⟩
end Go.Proofs.Ythgabapegpndnaa
