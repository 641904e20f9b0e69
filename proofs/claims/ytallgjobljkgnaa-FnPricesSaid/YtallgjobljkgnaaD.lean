/-
  Fair prices: the reference's and the program's test. Conditions: the table is square of at most five, the prices are bounded.
-/
import Derived.Test.YtallgjobljkgnaaC
namespace Go.Proofs.Ytallgjobljkgnaa
open Go.RowKit
set_option maxRecDepth 100000
set_option maxHeartbeats 1000000

def frC (T : List (List Int)) (cs ts : List Int) (i j : Nat) : Bool := !decide ((row T i).getD j 0 < cs.getD i 0 + ts.getD j 0)
def frR (T : List (List Int)) (cs ts : List Int) (_n i k : Nat) : Bool := (List.range k).all (frC T cs ts i)
def frK (T : List (List Int)) (cs ts : List Int) (n k : Nat) : Bool := (List.range k).all (fun i => frR T cs ts n i n)
theorem frR_step {T : List (List Int)} {cs ts : List Int} {n i k : Nat} (h : frR T cs ts n i k = true) (h2 : frC T cs ts i k = true) : frR T cs ts n i (k + 1) = true := by
  unfold frR at h ⊢
  rw [List.range_succ, List.all_append, h]; simp [h2]
theorem frK_step {T : List (List Int)} {cs ts : List Int} {n k : Nat} (h : frK T cs ts n k = true) (h2 : frR T cs ts n k n = true) : frK T cs ts n (k + 1) = true := by
  unfold frK at h ⊢
  rw [List.range_succ, List.all_append, h]; simp [h2]
theorem frK_no {T : List (List Int)} {cs ts : List Int} {n i j : Nat} (hi : i < n) (hj : j < n) (h : frC T cs ts i j = false) : frK T cs ts n n = false := by
  unfold frK
  rw [List.all_eq_false]
  refine ⟨i, by simp [hi], ?_⟩
  have : frR T cs ts n i n = false := by
    unfold frR
    rw [List.all_eq_false]
    exact ⟨j, by simp [hj], by simp [h]⟩
  simp [this]
theorem getD_of {α : Type} {xs : List α} {k : Nat} {d x : α} (hk : k < xs.length) (h : xs[k] = x) : xs.getD k d = x := by
  rw [List.getD_eq_getElem?_getD, List.getElem?_eq_getElem hk, h]; rfl
theorem frC_of {T : List (List Int)} {cs ts xs : List Int} {i j : Nat} {x u v : Int} (hx : row T i = xs) (hj : j < xs.length) (hxj : xs[j] = x) (hi : i < cs.length) (hu : cs[i] = u) (hj' : j < ts.length) (hv : ts[j] = v) : frC T cs ts i j = !decide (x < u + v) := by
  unfold frC
  rw [hx, getD_of hj hxj, getD_of hi hu, getD_of hj' hv]
theorem prc_bd {x : Int} (h : prcP x = true) : -100 ≤ x ∧ x ≤ 100 := inB_iff.1 h
theorem l16Fair_is {q : Bool} {A B C : Option Addr} {n c c' c'' : Nat} {T : List (List Int)} {cs ts : List Int} (hq : frK T cs ts n n = q) (w : World) (hr : RdT w A n T) (hT : ∀ i, i < n → (row T i).length = n) (hn : n ≤ 5)
    (hx : Rd w 1 B n (ints cs)) (hy : Rd w 1 C n (ints ts)) (hl : cs.length = n) (hl' : ts.length = n) (hb : cs.all prcP = true) (hb' : ts.all prcP = true) :
    Calls Try.prog 68 #[.slice A n c, .slice B n c', .slice C n c''] w fun e w' => e = .returned (.bool q) ∧ Below w.heap.size w w' := by
  have HT := Lib.hid hT
  have HB := Lib.hid hb
  have HB' := Lib.hid hb'
  clear hT hb hb'
  go_enter Try.func68, Try.ntmps68
  go_wp2_with fail
  go_loopw [7] (fun i wr => ∃ k : Nat, k ≤ n ∧ i = .int .i64 k ∧ frK T cs ts n k = true ∧ Below w.heap.size w wr) (fun i _ => n - (intOf i).toNat)
  case atStart => exact ⟨0, Nat.zero_le _, rfl, rfl, Below.refl _ _⟩
  case round =>
    obtain ⟨k, hk, rfl, ho, hW⟩ := hrel
    have HO := Lib.hid ho
    clear ho
    by_cases hlt : k < n
    · obtain ⟨b, off, Ar, m, cr, xs, rfl, hbl, hxr, hxm, c0, hrow⟩ := hr.at_ hW hlt
      obtain ⟨b2, off2, u, rfl, hbl2, hu, d0⟩ := ints_at hx hW hl hlt
      obtain rfl : m = n := by rw [← hxm, ← hxr]; exact HT.out k hlt
      have HX := Lib.hid hxr
      have HR := Lib.hid hrow
      have HU := Lib.hid hu
      have s1 : b < wr.heap.size := Nat.lt_of_lt_of_le hbl hW.size
      have s2 : b2 < wr.heap.size := Nat.lt_of_lt_of_le hbl2 hW.size
      have bu := prc_bd (List.all_eq_true.1 HB.out u (hu ▸ List.getElem_mem (by omega)))
      clear hxr hrow hu
      obtain ⟨wo, rfl⟩ : ∃ wo, wo = wr := ⟨_, rfl⟩
      go_wp2_with fail
      go_loopw [8] (fun i wr => ∃ j : Nat, j ≤ m ∧ i = .int .i64 j ∧ frR T cs ts m k j = true ∧ Below wo.heap.size wo wr) (fun i _ => m - (intOf i).toNat)
      case atStart => exact ⟨0, Nat.zero_le _, rfl, rfl, Below.refl _ _⟩
      case round =>
        obtain ⟨j, hj, rfl, hp, hV⟩ := hrel
        have HP := Lib.hid hp
        clear hp
        have e0 := (hV.cell (p := ⟨b, off + k, none⟩) s1).trans c0
        have e1 := (hV.cell (p := ⟨b2, off2 + k, none⟩) s2).trans d0
        have s3 : b < wr.heap.size := Nat.lt_of_lt_of_le s1 hV.size
        have s4 : b2 < wr.heap.size := Nat.lt_of_lt_of_le s2 hV.size
        by_cases hjt : j < m
        · obtain ⟨b', off', x, rfl, hbl', hz, e2⟩ := ints_at HR.out hV hxm hjt
          obtain ⟨b3, off3, v, rfl, hbl3, hv, e3⟩ := ints_at hy (hW.trans (hV.mono hW.size)) hl' hjt
          have s5 : b' < wr.heap.size := Nat.lt_of_lt_of_le hbl' hV.size
          have s6 : b3 < wr.heap.size := Nat.lt_of_lt_of_le hbl3 (hW.trans (hV.mono hW.size)).size
          have bv := prc_bd (List.all_eq_true.1 HB'.out v (hv ▸ List.getElem_mem (by omega)))
          have hfc := frC_of (cs := cs) (ts := ts) (i := k) HX.out (show j < xs.length by omega) hz (show k < cs.length by omega) HU.out (show j < ts.length by omega) hv
          have hwr : IntKind.i64.wrap (u + v) = u + v := IntWalk.i64_in _ (by omega)
          have i1 : (k : Int) < (m : Int) := by omega
          have i2 : (0 : Int) ≤ (k : Int) := by omega
          have i3 : (j : Int) < (m : Int) := by omega
          have i4 : (0 : Int) ≤ (j : Int) := by omega
          rcases hd : decide (x < u + v) with _ | _
          · have hf : frC T cs ts k j = true := by rw [hfc, hd]; rfl
            have HF := Lib.hid hf
            clear hfc hz hv hf
            go_wp2
            (refine wp_region_bel (by kernel_rfl) (by kernel_rfl) ?_; (repeat (go_big_quiet_step ((first | fail)))); refine wpQuiet_nil ?_; intro w' hw'; have hb := below_of hw'; clear hw'; (try clear cW fW zW); (first | (have bW := bstep bW hb) | (have bW := bstep (bdrew bW) hb) | (have bW := bstep (balloc bW _) hb) | (have bW := bstep (bdrewN bW _) hb) | (have bW := hb)); clear hb; obtain ⟨cW, fW⟩ := bcell bW; have zW := bsize bW)
            go_wp2
            go_roundw
            case rel => exact ⟨j + 1, by omega, by go_num, frR_step HP.out HF.out, bstep hV bW⟩
            case measure => simp [intOf]; omega
          · have hf : frC T cs ts k j = false := by rw [hfc, hd]; rfl
            have hq2 := frK_no hlt hjt hf
            obtain rfl := hq2.symm.trans hq
            clear hfc hz hv hf hq2 hq
            go_wp2
            (refine wp_region_bel (by kernel_rfl) (by kernel_rfl) ?_; (repeat (go_big_quiet_step ((first | fail)))); refine wpQuiet_nil ?_; intro w' hw'; have hb := below_of hw'; clear hw'; (try clear cW fW zW); (first | (have bW := bstep bW hb) | (have bW := bstep (bdrew bW) hb) | (have bW := bstep (balloc bW _) hb) | (have bW := bstep (bdrewN bW _) hb) | (have bW := hb)); clear hb; obtain ⟨cW, fW⟩ := bcell bW; have zW := bsize bW)
            go_wp2
            go_returns
            exact ⟨rfl, bstep hW (bstep hV bW)⟩
        · have hjm : j = m := by omega
          have hf : frR T cs ts m k m = true := by rw [← hjm]; rw [hjm]; have := HP.out; rwa [hjm] at this
          have HF := Lib.hid hf
          clear hf
          go_wp2
          go_roundw
          case rel => exact ⟨k + 1, by omega, by go_num, frK_step HO.out HF.out, bstep hW hV⟩
          case measure => simp [intOf]; omega
    · have hkn : k = n := by omega
      obtain rfl : q = true := by rw [← hq]; have := HO.out; rwa [hkn] at this
      clear hq
      go_wp2
      go_returns
      exact ⟨rfl, hW⟩
theorem fair_is {q : Bool} {A B C : Option Addr} {n c c' c'' : Nat} {T : List (List Int)} {cs ts : List Int} (hq : frK T cs ts n n = q) (w : World) (hr : RdT w A n T) (hT : ∀ i, i < n → (row T i).length = n) (hn : n ≤ 5)
    (hx : Rd w 1 B n (ints cs)) (hy : Rd w 1 C n (ints ts)) (hl : cs.length = n) (hl' : ts.length = n) (hb : cs.all prcP = true) (hb' : ts.all prcP = true) :
    Calls Try.prog 51 #[.slice A n c, .slice B n c', .slice C n c''] w fun e w' => e = .returned (.bool q) ∧ Below w.heap.size w w' := by
  have HT := Lib.hid hT
  have HB := Lib.hid hb
  have HB' := Lib.hid hb'
  clear hT hb hb'
  go_enter Try.func51, Try.ntmps51
  go_wp2_with fail
  go_loopw [13] (fun i wr => ∃ k : Nat, k ≤ n ∧ i = .int .i64 k ∧ frK T cs ts n k = true ∧ Below w.heap.size w wr) (fun i _ => n - (intOf i).toNat)
  case atStart => exact ⟨0, Nat.zero_le _, rfl, rfl, Below.refl _ _⟩
  case round =>
    obtain ⟨k, hk, rfl, ho, hW⟩ := hrel
    have HO := Lib.hid ho
    clear ho
    by_cases hlt : k < n
    · obtain ⟨b, off, Ar, m, cr, xs, rfl, hbl, hxr, hxm, c0, hrow⟩ := hr.at_ hW hlt
      obtain ⟨b2, off2, u, rfl, hbl2, hu, d0⟩ := ints_at hx hW hl hlt
      obtain rfl : m = n := by rw [← hxm, ← hxr]; exact HT.out k hlt
      have HX := Lib.hid hxr
      have HR := Lib.hid hrow
      have HU := Lib.hid hu
      have s1 : b < wr.heap.size := Nat.lt_of_lt_of_le hbl hW.size
      have s2 : b2 < wr.heap.size := Nat.lt_of_lt_of_le hbl2 hW.size
      have bu := prc_bd (List.all_eq_true.1 HB.out u (hu ▸ List.getElem_mem (by omega)))
      clear hxr hrow hu
      obtain ⟨wo, rfl⟩ : ∃ wo, wo = wr := ⟨_, rfl⟩
      go_wp2_with fail
      go_loopw [20] (fun i wr => ∃ j : Nat, j ≤ m ∧ i = .int .i64 j ∧ frR T cs ts m k j = true ∧ Below wo.heap.size wo wr) (fun i _ => m - (intOf i).toNat)
      case atStart => exact ⟨0, Nat.zero_le _, rfl, rfl, Below.refl _ _⟩
      case round =>
        obtain ⟨j, hj, rfl, hp, hV⟩ := hrel
        have HP := Lib.hid hp
        clear hp
        have e0 := (hV.cell (p := ⟨b, off + k, none⟩) s1).trans c0
        have e1 := (hV.cell (p := ⟨b2, off2 + k, none⟩) s2).trans d0
        have s3 : b < wr.heap.size := Nat.lt_of_lt_of_le s1 hV.size
        have s4 : b2 < wr.heap.size := Nat.lt_of_lt_of_le s2 hV.size
        by_cases hjt : j < m
        · obtain ⟨b', off', x, rfl, hbl', hz, e2⟩ := ints_at HR.out hV hxm hjt
          obtain ⟨b3, off3, v, rfl, hbl3, hv, e3⟩ := ints_at hy (hW.trans (hV.mono hW.size)) hl' hjt
          have s5 : b' < wr.heap.size := Nat.lt_of_lt_of_le hbl' hV.size
          have s6 : b3 < wr.heap.size := Nat.lt_of_lt_of_le hbl3 (hW.trans (hV.mono hW.size)).size
          have bv := prc_bd (List.all_eq_true.1 HB'.out v (hv ▸ List.getElem_mem (by omega)))
          have hfc := frC_of (cs := cs) (ts := ts) (i := k) HX.out (show j < xs.length by omega) hz (show k < cs.length by omega) HU.out (show j < ts.length by omega) hv
          have hwr : IntKind.i64.wrap (u + v) = u + v := IntWalk.i64_in _ (by omega)
          have i1 : (k : Int) < (m : Int) := by omega
          have i2 : (0 : Int) ≤ (k : Int) := by omega
          have i3 : (j : Int) < (m : Int) := by omega
          have i4 : (0 : Int) ≤ (j : Int) := by omega
          rcases hd : decide (x < u + v) with _ | _
          · have hf : frC T cs ts k j = true := by rw [hfc, hd]; rfl
            have HF := Lib.hid hf
            clear hfc hz hv hf
            go_wp2
            (refine wp_region_bel (by kernel_rfl) (by kernel_rfl) ?_; (repeat (go_big_quiet_step ((first | fail)))); refine wpQuiet_nil ?_; intro w' hw'; have hb := below_of hw'; clear hw'; (try clear cW fW zW); (first | (have bW := bstep bW hb) | (have bW := bstep (bdrew bW) hb) | (have bW := bstep (balloc bW _) hb) | (have bW := bstep (bdrewN bW _) hb) | (have bW := hb)); clear hb; obtain ⟨cW, fW⟩ := bcell bW; have zW := bsize bW)
            go_wp2
            go_roundw
            case rel => exact ⟨j + 1, by omega, by go_num, frR_step HP.out HF.out, bstep hV bW⟩
            case measure => simp [intOf]; omega
          · have hf : frC T cs ts k j = false := by rw [hfc, hd]; rfl
            have hq2 := frK_no hlt hjt hf
            obtain rfl := hq2.symm.trans hq
            clear hfc hz hv hf hq2 hq
            go_wp2
            (refine wp_region_bel (by kernel_rfl) (by kernel_rfl) ?_; (repeat (go_big_quiet_step ((first | fail)))); refine wpQuiet_nil ?_; intro w' hw'; have hb := below_of hw'; clear hw'; (try clear cW fW zW); (first | (have bW := bstep bW hb) | (have bW := bstep (bdrew bW) hb) | (have bW := bstep (balloc bW _) hb) | (have bW := bstep (bdrewN bW _) hb) | (have bW := hb)); clear hb; obtain ⟨cW, fW⟩ := bcell bW; have zW := bsize bW)
            go_wp2
            go_returns
            exact ⟨rfl, bstep hW (bstep hV bW)⟩
        · have hjm : j = m := by omega
          have hf : frR T cs ts m k m = true := by rw [← hjm]; rw [hjm]; have := HP.out; rwa [hjm] at this
          have HF := Lib.hid hf
          clear hf
          go_wp2
          go_roundw
          case rel => exact ⟨k + 1, by omega, by go_num, frK_step HO.out HF.out, bstep hW hV⟩
          case measure => simp [intOf]; omega
    · have hkn : k = n := by omega
      obtain rfl : q = true := by rw [← hq]; have := HO.out; rwa [hkn] at this
      clear hq
      go_wp2
      go_returns
      exact ⟨rfl, hW⟩
end Go.Proofs.Ytallgjobljkgnaa
