/-
  The library's slices.SortFunc over pairs, laid for this program (by the kit's shelf tool, in plain words), and stated with rows. Conditions: the length of a slice.
-/
import Derived.Shelf.SlSortCmp.WholeK
import Derived.Test.YthgabapegpndnaaPM
import Derived.Test.YthgabapegpndnaaCP
namespace Go.Proofs.Ythgabapegpndnaa
open Go.Shelf Go.RowKit
set_option maxRecDepth 100000
set_option maxHeartbeats 2000000

def sortLays_ren : Go.Shelf.Ren := ⟨fun | 6 => 69 | 15 => 79 | 14 => 78 | 28 => 92 | 29 => 93 | 20 => 84 | 21 => 85 | 22 => 86 | 23 => 87 | 24 => 88 | 25 => 89 | 26 => 90 | 27 => 91 | 46 => 95 | 47 => 96 | 48 => 97 | 49 => 98 | 50 => 99 | 57 => 101 | n => n, fun | 22 => 44 | 24 => 55 | 25 => 73 | 3 => 3 | 39 => 78 | 0 => 0 | 53 => 92 | 55 => 94 | 4 => 4 | 46 => 85 | 45 => 84 | 50 => 89 | 5 => 5 | 9 => 9 | 66 => 95 | 70 => 99 | 76 => 101 | 77 => 102 | n => n, fun | n => n⟩
theorem sortLays : Go.Proofs.SlLaysF0.n6 Try.prog sortLays_ren := {
  mixed := by kernel_rfl
  f6 := ⟨Try.f69.name, by decide, Try.func69.trans (congrArg some (by kernel_rfl))⟩
  f14 := ⟨Try.f78.name, by decide, Try.func78.trans (congrArg some (by kernel_rfl))⟩
  f15 := Try.func79.trans (congrArg some (by kernel_rfl))
  f20 := ⟨Try.f84.name, by decide, Try.func84.trans (congrArg some (by kernel_rfl))⟩
  f21 := ⟨Try.f85.name, by decide, Try.func85.trans (congrArg some (by kernel_rfl))⟩
  f22 := ⟨Try.f86.name, by decide, Try.func86.trans (congrArg some (by kernel_rfl))⟩
  f23 := ⟨Try.f87.name, by decide, Try.func87.trans (congrArg some (by kernel_rfl))⟩
  f24 := ⟨Try.f88.name, by decide, Try.func88.trans (congrArg some (by kernel_rfl))⟩
  f25 := ⟨Try.f89.name, by decide, Try.func89.trans (congrArg some (by kernel_rfl))⟩
  f26 := ⟨Try.f90.name, by decide, Try.func90.trans (congrArg some (by kernel_rfl))⟩
  f27 := ⟨Try.f91.name, by decide, Try.func91.trans (congrArg some (by kernel_rfl))⟩
  f28 := Try.func92.trans (congrArg some (by kernel_rfl))
  f29 := Try.func93.trans (congrArg some (by kernel_rfl))
  f46 := ⟨Try.f95.name, by decide, Try.func95.trans (congrArg some (by kernel_rfl))⟩
  f47 := Try.func96.trans (congrArg some (by kernel_rfl))
  f48 := Try.func97.trans (congrArg some (by kernel_rfl))
  f49 := ⟨Try.f98.name, by decide, Try.func98.trans (congrArg some (by kernel_rfl))⟩
  f50 := ⟨Try.f99.name, by decide, Try.func99.trans (congrArg some (by kernel_rfl))⟩
  f57 := ⟨Try.f101.name, by decide, Try.func101.trans (congrArg some (by kernel_rfl))⟩
  t0 := Try.underlying0
  a0 := Try.isAgg0
  z0 := Try.sizeOf0
  v0 := Try.zeroValue0
  t3 := Try.underlying3
  a3 := Try.isAgg3
  z3 := Try.sizeOf3
  v3 := Try.zeroValue3
  t4 := Try.underlying4
  a4 := Try.isAgg4
  z4 := Try.sizeOf4
  v4 := Try.zeroValue4
  t5 := Try.underlying5
  a5 := Try.isAgg5
  z5 := Try.sizeOf5
  v5 := Try.zeroValue5
  t9 := Try.underlying9
  a9 := Try.isAgg9
  z9 := Try.sizeOf9
  v9 := Try.zeroValue9
  t22 := Try.underlying44
  a22 := Try.isAgg44
  z22 := Try.sizeOf44
  v22 := Try.zeroValue44
  t25 := Try.underlying73
  a25 := Try.isAgg73
  z25 := Try.sizeOf73
  v25 := Try.zeroValue73
  t39 := Try.underlying78
  a39 := Try.isAgg78
  z39 := Try.sizeOf78
  v39 := Try.zeroValue78
  t45 := Try.underlying84
  a45 := Try.isAgg84
  z45 := Try.sizeOf84
  v45 := Try.zeroValue84
  t46 := Try.underlying85
  a46 := Try.isAgg85
  z46 := Try.sizeOf85
  v46 := Try.zeroValue85
  t50 := Try.underlying89
  a50 := Try.isAgg89
  z50 := Try.sizeOf89
  v50 := Try.zeroValue89
  t53 := Try.underlying92
  a53 := Try.isAgg92
  z53 := Try.sizeOf92
  v53 := Try.zeroValue92
  t55 := Try.underlying94
  a55 := Try.isAgg94
  z55 := Try.sizeOf94
  v55 := Try.zeroValue94
  t66 := Try.underlying95
  a66 := Try.isAgg95
  z66 := Try.sizeOf95
  v66 := Try.zeroValue95
  t70 := Try.underlying99
  a70 := Try.isAgg99
  z70 := Try.sizeOf99
  v70 := Try.zeroValue99
  t76 := Try.underlying101
  a76 := Try.isAgg101
  z76 := Try.sizeOf101
  v76 := Try.zeroValue101
  t77 := Try.underlying102
  a77 := Try.isAgg102
  z77 := Try.sizeOf102
  v77 := Try.zeroValue102 }

theorem getL {zs : List PairT} {t : Nat} (h : t < zs.length * 2) : (prF zs)[t]? = some ((prE (zs.toArray[t / 2]!))[t % 2]!) := by
  have h2 : t / 2 < zs.length := by omega
  have h3 := flat_get prE_len zs (t / 2) (t % 2) h2 (by omega)
  rw [show t / 2 * 2 + t % 2 = t from by omega] at h3
  have e1 : zs.toArray[t / 2]! = zs[t / 2] := by simp [h2]
  rw [e1]
  show (zs.flatMap prE)[t]? = _
  rw [h3]
  have h4 : t % 2 = 0 ∨ t % 2 = 1 := by omega
  rcases h4 with h4 | h4 <;> rw [h4] <;> rfl
theorem flat_pr (zs : List PairT) : Go.Sort.flatK prE 2 zs.toArray = (prF zs).toArray := by
  apply Array.ext_getElem?
  intro t
  by_cases h : t < zs.length * 2
  · have h1 := Go.Sort.get_flatK prE 2 zs.toArray t (by simpa using h)
    rw [Array.getElem?_eq_getElem (by simpa using h)]
    rw [getElem!_pos _ t (by simpa using h)] at h1
    rw [h1]
    simp only [List.getElem?_toArray]
    exact (getL h).symm
  · rw [Array.getElem?_eq_none (by simp; omega), Array.getElem?_eq_none (by rw [List.size_toArray, prF_len]; omega)]
theorem holds_pr {w : World} {g : Nat} {t : TypeId} {zs : List PairT} {sp : List Value} (h : Bk w g t (prF zs ++ sp)) : Go.Sort.HoldsK prE 2 w g 0 zs.toArray := by
  unfold Go.Sort.HoldsK
  rw [flat_pr]
  intro j hj
  have hj2 : j < (prF zs).length := by simpa using hj
  refine ⟨?_, by rw [Nat.zero_add]; exact h.frozen j⟩
  rw [Nat.zero_add, h.cell, List.getElem?_append_left hj2, List.getElem?_eq_getElem hj2]
  simp [hj2]
theorem put_pr {zs ys : List PairT} {sp : List Value} (hl : ys.length = zs.length) : Go.Sort.putCells id 0 (prF ys).toArray (prF zs ++ sp).toArray = (prF ys ++ sp).toArray := by
  have h1 := prF_len ys
  have h2 := prF_len zs
  unfold Go.Sort.putCells
  apply Array.ext_getElem?
  intro k
  rw [Array.getElem?_mapIdx]
  simp only [List.getElem?_toArray, Nat.zero_le, true_and, Nat.zero_add, Nat.sub_zero, List.size_toArray, id]
  by_cases hk : k < (prF ys).length
  · rw [List.getElem?_append_left (by omega), List.getElem?_append_left hk, List.getElem?_eq_getElem (by omega), List.getElem?_eq_getElem hk]
    simp [hk]
  · rw [List.getElem?_append_right (by omega), List.getElem?_append_right (by omega), h1, h2, hl]
    rcases h3 : sp[k - zs.length * 2]? with _ | u
    · rfl
    · have h4 : ¬ k < zs.length * 2 := by omega
      simp [h4]
theorem sorted_bk {w : World} {g m : Nat} {t : TypeId} {zs ys : List PairT} {sp : List Value} {os : Array Obj} (h : Bk w g t (prF zs ++ sp)) (hl : ys.length = zs.length) :
    Bk (sortWorldK prE 2 w g 0 m ys.toArray os) g t (prF ys ++ sp) ∧ w.grownBy (sortWorldK prE 2 w g 0 m ys.toArray os) (some g) := by
  have hg := h.lt
  unfold sortWorldK Go.Sort.putRowK
  rw [flat_pr]
  unfold Go.Sort.putRow Go.Sort.mapBlock Go.Sort.grow Go.Sort.ahead
  constructor
  · unfold Bk at h ⊢
    simp only
    rw [Array.getElem?_append_left (by simpa using hg), Array.getElem?_modify, if_pos rfl, h]
    simp only [Option.map_some, Go.Sort.onCells]
    rw [put_pr hl]
  · refine ⟨rfl, rfl, rfl, by simp, fun i hi hne => ?_⟩
    simp only
    rw [Array.getElem?_append_left (by simpa using hi), Array.getElem?_modify, if_neg (fun e => hne (by rw [e]))]
def cfP (x y : PairT) : Int := orv (cmpv x.1 y.1) (cmpv x.2 y.2)
instance pltDec (x y : PairT) : Decidable (plt x y) := by unfold plt; infer_instance
theorem ltP (x y : PairT) : ltOf cfP x y = decide (plt x y) := by
  unfold ltOf cfP
  congr 1
  exact propext cmpn_lt
theorem ltP_iff {x y : PairT} : ltOf cfP x y = true ↔ plt x y := by rw [ltP, decide_eq_true_iff]
theorem ltP_no {x y : PairT} : ltOf cfP x y = false ↔ ¬ plt x y := by rw [← ltP_iff]; simp
theorem swoP : Go.Sort.SWO (ltOf cfP) where
  irrefl x := by rw [ltP_no]; unfold plt; omega
  trans x y z h1 h2 := by rw [ltP_iff] at *; unfold plt at *; omega
  ntrans x y z h1 h2 := by rw [ltP_no] at *; unfold plt at *; omega
/-- a region that draws: a head that leaves the world but for draws, then a tail in one order -/
theorem wp_region_drew_tail {P : Program} {id : Nat} {Q : Exit → Act → World → Prop} {a : Act} {w : World} {l : List Oper} (n : Nat) (hm : P.follows .mixedOrders = true) (hB : Region.lexTailB .any l.toArray n = true)
    (h : wpQuiet P l.toArray (fun w' => ∃ n, w' = w.drewN n) (fun a' => ∀ w', (∃ n, w' = w.drewN n) → wpList P l.toArray Q (l.drop n) a' w') (l.take n) a) : (Code.region id l.toArray true).wp P Q a w :=
  wp_region_quiet_tail (C := fun w' => ∃ n, w' = w.drewN n) n hm hB ⟨1, rfl⟩ h
theorem grow3 (w : World) (a b c : Obj) (n : Nat) : (((w.alloc a).alloc b).drewN n).alloc c = Go.Sort.grow (w.drewN n) #[a, b, c] := by
  unfold World.alloc World.drewN Go.Sort.grow
  congr 1
theorem Compare_back (a b : Int) (W : World) : Calls Try.prog 57 #[.int .i64 a, .int .i64 b] W fun e w' => e = .returned (.int .i64 (cmpv a b)) ∧ w' = W := (Compare_any a b W).mono fun _ _ h => ⟨h.1, h.2.symm⟩
theorem missing_clo (x y : PairT) (w : World) : Calls Try.prog 70 #[.agg #[.int .i64 x.1, .int .i64 x.2], .agg #[.int .i64 y.1, .int .i64 y.2]] w fun e w' => e = .returned (.int .i64 (cfP x y)) ∧ ∃ q os, w' = Go.Sort.grow (w.drewN q) os := by
  obtain ⟨x1, x2⟩ := x
  obtain ⟨y1, y2⟩ := y
  show Calls Try.prog 70 #[.agg #[.int .i64 x1, .int .i64 x2], .agg #[.int .i64 y1, .int .i64 y2]] w fun e w' => e = .returned (.int .i64 (orv (cmpv x1 y1) (cmpv x2 y2))) ∧ ∃ q os, w' = Go.Sort.grow (w.drewN q) os
  have hC := Compare_back
  go_enter Try.func70, Try.ntmps70
  go_wp2_with fail
  refine wp_region_drew_tail 10 (by kernel_rfl) (by kernel_rfl) ?_
  simp only [List.take_succ_cons, List.take_zero, List.drop_succ_cons, List.drop_zero]
  repeat (go_big_quiet_step ((go_at_call 57; exact Calls.quiet_of_same (hC _ _ _))))
  refine wpQuiet_nil ?_
  intro w' hw'
  obtain ⟨nq, rfl⟩ := hw'
  go_wp2_with fail
  refine (Or2_any (cmpv x1 y1) (cmpv x2 y2) (w.heap.size + 2) _ (by simp [go_sem]) (by simp [go_sem])).mono ?_
  rintro e w' ⟨rfl, rfl⟩
  go_wp2
  go_returns
  refine ⟨rfl, nq, #[.cells #[.int .i64 x1, .int .i64 x2] 55, .cells #[.int .i64 y1, .int .i64 y2] 55, .cells #[.int .i64 (cmpv x1 y1), .int .i64 (cmpv x2 y2)] 3], ?_⟩
  exact grow3 _ _ _ _ _
theorem perm_list {ds : List PairT} {d' : Array PairT} (h : Go.Sort.PermIn 0 ds.toArray.size ds.toArray d') : d'.toList.Perm ds := by
  obtain ⟨h1, _, h3⟩ := h
  have e1 : ds.toArray.extract 0 ds.toArray.size = ds.toArray := by simp
  have e2 : d'.extract 0 ds.toArray.size = d' := by rw [← h1]; simp
  rw [e1, e2] at h3
  simpa using h3
theorem sorted_list {d' : Array PairT} {n : Nat} (hn : d'.size = n) (h : Go.Sort.SortedIn (ltOf cfP) 0 n d') : d'.toList.Pairwise fun x y => ¬ plt y x := by
  rw [List.pairwise_iff_getElem]
  intro i j hi hj hij
  have hj2 : j < d'.size := by simpa using hj
  have hi2 : i < d'.size := by simpa using hi
  have h1 := ltP_no.1 (h i j (Nat.zero_le _) hij (by omega))
  rw [getElem!_pos _ i hi2, getElem!_pos _ j hj2] at h1
  simpa using h1
theorem SortFunc_pr (g n cap : Nat) (t : TypeId) (ds : List PairT) (sp : List Value) (w : World) (hB : Bk w g t (prF ds ++ sp)) (hl : ds.length = n) (hn : n ≤ 1000000) :
    Calls Try.prog 69 #[.slice (some ⟨g, 0, none⟩) n cap, .func (.func 70) #[] #[]] w fun e w' => e = .returned (.tuple #[]) ∧ ∃ ds' : List PairT, ds'.Perm ds ∧ (ds'.Pairwise fun x y => ¬ plt y x) ∧ Bk w' g t (prF ds' ++ sp) ∧ w.grownBy w' (some g) := by
  have eg : ∀ args w, (callFunc 70 args).run Try.prog w = .ok (.enter 70 args) w := enters_of Try.func70 (by kernel_rfl) rfl
  have hcmp : CmpLays Try.prog 70 #[] prE 2 cfP g 0 ds.toArray.size w := fun _ _ _ _ x y => missing_clo x y _
  have hcon := AnyQ.slices_SortFunc sortLays 2 Try.isAgg55 Try.sizeOf55 prE (fun _ => rfl) (fun x v hv => pr_one [x] v (by simpa [prF] using hv)) cfP swoP 70 #[] g 0 cap ds.toArray w eg hcmp (holds_pr hB) hB.lt (by simp; omega)
  change Calls Try.prog 69 _ _ _ at hcon
  have e : ds.toArray.size = n := by simpa using hl
  rw [e] at hcon
  refine hcon.mono ?_
  rintro e2 w' ⟨rfl, d', m, os, hp, hs, rfl⟩
  have hsz : d'.size = n := by rw [hp.1]; exact e
  have hb := sorted_bk (m := m) (ys := d'.toList) (os := os) hB (by simp; omega)
  rw [show d'.toList.toArray = d' from by simp] at hb
  exact ⟨rfl, d'.toList, perm_list (by rw [e]; exact hp), sorted_list hsz hs, hb.1, hb.2⟩
end Go.Proofs.Ythgabapegpndnaa
