/-
  slices.SortStableFunc at orders: it ends, and a row of the same length is there; at fewer than twenty it is a permutation, sorted by number. Conditions: the length of a slice, of a string.
-/
import Derived.Test.YtaekngiejehooaaTH
namespace Go.Proofs.Ytaekngiejehooaa
open Go.Shelf Go.RowKit Go.Lib Go.Sort
set_option maxRecDepth 1000000
set_option maxHeartbeats 4000000

def insLays_ren : Go.Shelf.Ren := ⟨fun | 20 => 78 | n => n, fun | 22 => 32 | 24 => 46 | 25 => 81 | n => n, fun | n => n⟩
theorem insLays : SlLaysF0.n20 Try.prog insLays_ren := {
  mixed := by kernel_rfl
  f20 := ⟨Try.f78.name, by decide, Try.func78.trans (congrArg some (by kernel_rfl))⟩
  t0 := Try.underlying0
  a0 := Try.isAgg0
  z0 := Try.sizeOf0
  v0 := Try.zeroValue0
  t3 := Try.underlying3
  a3 := Try.isAgg3
  z3 := Try.sizeOf3
  v3 := Try.zeroValue3
  t4 := Try.underlying4
  a4 := Try.isAgg4
  z4 := Try.sizeOf4
  v4 := Try.zeroValue4
  t22 := Try.underlying32
  a22 := Try.isAgg32
  z22 := Try.sizeOf32
  v22 := Try.zeroValue32
  t25 := Try.underlying81
  a25 := Try.isAgg81
  z25 := Try.sizeOf81
  v25 := Try.zeroValue81 }
abbrev cfS (x y : OrS) : Int := cmpv x.1.1 y.1.1
theorem ltS (x y : OrS) : ltOf cfS x y = decide (x.1.1 < y.1.1) := by
  unfold ltOf cfS cmpv
  by_cases h : x.1.1 < y.1.1
  · simp [h]
  · rw [if_neg h]
    by_cases h2 : y.1.1 < x.1.1
    · simp [h, h2]
    · simp [h, h2]
theorem swoS : SWO (ltOf cfS) where
  irrefl x := by rw [ltS]; simp
  trans x y z := by rw [ltS, ltS, ltS]; simp only [decide_eq_true_eq]; omega
  ntrans x y z := by rw [ltS, ltS, ltS]; simp only [decide_eq_false_iff_not]; omega
theorem size_insS (d : Array OrS) (a b : Nat) (hab : a ≤ b) (hb : b ≤ d.size) : (Sort.insertionSort (ltOf cfS) d a b).size = d.size := (insertionSort_holds (lt := ltOf cfS) swoS d a b hab hb).1.1
theorem sortO (g n cap bx : Nat) (t : TypeId) (zs : List OrderT) (sp : List Value) (w : World) (hB : Bk w g t (ordF zs ++ sp)) (hl : zs.length = n) (hz9 : ∀ z ∈ zs, z.2.1.size ≤ maxLen) (hn : n < 1099511627776)
    (hb : w.cell? ⟨bx, 0, none⟩ = some (.func (.func 48) #[] #[])) (hne : bx ≠ g) :
    Calls Try.prog 64 #[.slice (some ⟨g, 0, none⟩) n cap, .func (.func 65) #[] #[.pointer (some ⟨bx, 0, none⟩)]] w fun e w' => e = .returned (.tuple #[]) ∧
      ∃ ys : List OrderT, ys.length = n ∧ (∀ z ∈ ys, z.2.1.size ≤ maxLen) ∧ (n < 20 → ys.Perm zs ∧ ys.Pairwise (fun x y => x.1 ≤ y.1)) ∧ Bk w' g t (ordF ys ++ sp) ∧ w.grownBy w' (some g) := by
  obtain ⟨d, rfl⟩ := unS_of hz9
  rw [unS_len] at hl
  subst hl
  have hC := cmpLaysO g d.size bx w hb hne
  have hH := holds_bk hB
  have R : RowK encS 5 w g 0 d := ⟨encS_len, encS_one, hH, hB.lt⟩
  have e65 : ∀ args w, (callFunc 65 args).run Try.prog w = .ok (.enter 65 args) w := enters_of Try.func65 (by kernel_rfl) rfl
  have e78 : ∀ args w, (callFunc 78 args).run Try.prog w = .ok (.enter 78 args) w := enters_of Try.func78 (by kernel_rfl) rfl
  have hS : Calls Try.prog 75 #[.slice (some ⟨g, 0, none⟩) d.size cap, .int .i64 d.size, .func (.func 65) #[] #[.pointer (some ⟨bx, 0, none⟩)]] w fun e w' => e = .returned (.tuple #[]) ∧
      ∃ ys : List OrderT, ys.length = d.size ∧ (∀ z ∈ ys, z.2.1.size ≤ maxLen) ∧ (d.size < 20 → ys.Perm (unS d) ∧ ys.Pairwise (fun x y => x.1 ≤ y.1)) ∧ Bk w' g t (ordF ys ++ sp) ∧ w.grownBy w' (some g) := by
    by_cases h20 : d.size < 20
    · refine stable_small stF _ 65 _ g cap d.size w h20 e78 ((AnyQ.insertionSortCmpFunc insLays 5 Try.isAgg46 Try.sizeOf46 encS encS_len encS_one cfS 65 #[.pointer (some ⟨bx, 0, none⟩)] g 0 cap 0 d.size d w e65 hC hH hB.lt (Nat.zero_le _) (Nat.le_refl _) (by omega)).mono ?_)
      rintro e w' ⟨rfl, m, os, hw⟩
      have hins := insertionSort_holds (lt := ltOf cfS) swoS d 0 d.size (Nat.zero_le _) (Nat.le_refl _)
      generalize Sort.insertionSort (ltOf cfS) d 0 d.size = d' at hw hins
      obtain ⟨⟨hs, _, hp⟩, hso⟩ := hins
      have h := bk_swk hB hs ⟨m, os, hw⟩
      refine ⟨rfl, unS d', by rw [unS_len, hs], unS_hz d', fun _ => ⟨?_, ?_⟩, h.1, h.2⟩
      · have hp2 : d'.toList.Perm d.toList := by
          have hp3 : d'.toList.Perm (List.take d'.size d.toList) := by simpa [← hs] using hp
          rwa [List.take_of_length_le (by rw [Array.length_toList, hs]; exact Nat.le_refl _)] at hp3
        exact hp2.map _
      · rw [List.pairwise_iff_getElem]
        intro i j hi hj hij
        rw [unS_len] at hi hj
        have h3 := hso i j (Nat.zero_le _) hij (by omega)
        rw [ltS, getElem!_pos d' i hi, getElem!_pos d' j hj] at h3
        simp only [decide_eq_false_iff_not] at h3
        simp only [unS, List.getElem_map, Array.getElem_toList]
        omega
    · refine (stable_fr stF encS cfS 65 #[.pointer (some ⟨bx, 0, none⟩)] g cap d w w e65 hC R hn e78 ?_ ⟨d, rfl, SWK.start hH⟩).mono ?_
      · intro a b W hW hab hbd
        obtain ⟨dk, hds, hK⟩ := hW
        rw [← hds]
        refine (AnyQ.insertionSortCmpFunc insLays 5 Try.isAgg46 Try.sizeOf46 encS encS_len encS_one cfS 65 #[.pointer (some ⟨bx, 0, none⟩)] g 0 cap a b dk W e65 (cmpLays_on hK hB.lt (by rw [hds]; exact hC) rfl) (hK.holds hB.lt hH hds) (hK.lt hB.lt) hab (by omega) (by omega)).mono ?_
        rintro e w' ⟨rfl, m, os, rfl⟩
        exact ⟨rfl, _, size_insS dk a b hab (by omega), hK.on hB.lt m _ os (size_insS dk a b hab (by omega))⟩
      · rintro e w' ⟨rfl, d', hs, hK⟩
        have h := bk_swk hB hs hK
        exact ⟨rfl, unS d', by rw [unS_len, hs], unS_hz d', fun h => absurd h h20, h.1, h.2⟩
  clear hC hH R
  go_enter Try.func64, Try.ntmps64
  go_wp2_with fail
  refine hS.mono ?_
  rintro e w1 ⟨rfl, h1⟩
  go_wp2
  go_returns
  exact ⟨rfl, h1⟩
end Go.Proofs.Ytaekngiejehooaa
