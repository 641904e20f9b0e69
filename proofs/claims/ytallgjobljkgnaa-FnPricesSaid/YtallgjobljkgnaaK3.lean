/-
  Assignments: the reference's test, and the costs. Conditions: lengths within the bound of a slice; the table square of at most five.
-/
import Derived.Test.YtallgjobljkgnaaK2
namespace Go.Proofs.Ytallgjobljkgnaa
open Go.RowKit
set_option maxRecDepth 100000
set_option maxHeartbeats 1000000

theorem Rd.take_ {w : World} {A : Option Addr} {n k : Nat} {zs : List Int} (h : Rd w 1 A n (ints zs)) (hk : k ≤ n) : Rd w 1 A k (ints (zs.take k)) := by
  have hl := h.eq_len
  refine ⟨by simp [ints, hl]; omega, fun h0 => ?_⟩
  obtain ⟨b, off, e, hb, hc⟩ := h.2 (by omega)
  refine ⟨b, off, e, hb, fun j u hu => hc j u ?_⟩
  simp only [ints, List.map_take, List.getElem?_take] at hu ⊢
  split at hu
  · exact hu
  · cases hu
def asT (T : List (List Int)) (zs : List Int) : Bool := ctB T && asB T.length zs
theorem l16Tasks_is {q : Bool} {A B : Option Addr} {n m c d : Nat} {T : List (List Int)} {zs : List Int} (hq : asT T zs = q) (w : World) (hr : RdT w A n T) (hn : n ≤ 1048576) (hx : Rd w 1 B m (ints zs)) (hl : zs.length = m) (hm : m ≤ 1048576) (hd : m ≤ d) :
    Calls Try.prog 58 #[.slice A n c, .slice B m d] w fun e w' => e = .returned (.bool q) ∧ Below w.heap.size w w' := by
  have hT := hr.1
  go_enter Try.func58, Try.ntmps58
  rcases h1 : ctB T with _ | _
  · obtain rfl : q = false := by rw [← hq]; simp [asT, h1]
    clear hq
    go_wp2_with fail
    refine (l16Table_is h1 _ hr hn).mono ?_
    rintro e w1 ⟨rfl, b1⟩
    go_wp2
    go_returns
    exact ⟨rfl, b1⟩
  · by_cases hmn : m = n
    · subst hmn
      have hne : ((m : Int) != (m : Int)) = false := by simp
      have hq2 : asB m zs = q := by rw [← hq]; simp [asT, h1, hT]
      clear hq
      go_wp2_with fail
      refine (l16Table_is h1 _ hr hn).mono ?_
      rintro e w1 ⟨rfl, b1⟩
      go_wp2_with fail
      go_loopw [5] (fun i wr => ∃ k : Nat, k ≤ m ∧ i = .int .i64 k ∧ (zs.take k).all (tskP m) = true ∧ difB zs k = true ∧ Below w.heap.size w wr) (fun i _ => m - (intOf i).toNat)
      case atStart => exact ⟨0, Nat.zero_le _, rfl, by simp, rfl, b1⟩
      case round =>
        obtain ⟨k, hk, rfl, ho, hp, hW⟩ := hrel
        have HO := Lib.hid ho
        have HP := Lib.hid hp
        clear ho hp
        by_cases hlt : k < m
        · obtain ⟨b, off, x, rfl, hbl, hz, c0⟩ := ints_at hx hW hl hlt
          have hk2 : k < zs.length := by omega
          have s1 : b < wr.heap.size := Nat.lt_of_lt_of_le hbl hW.size
          have i1 : (0 : Int) ≤ (k : Int) := by omega
          have i2 : (k : Int) < (m : Int) := by omega
          have i3 : (k : Int) ≤ (d : Int) := by omega
          have i4 : k ≤ d := by omega
          have hwr : IntKind.i64.wrap ((m : Int) - 1) = (m : Int) - 1 := IntWalk.i64_in _ (by omega)
          have hrk := (hx.take_ (k := k) (by omega)).below hW
          have HRK := Lib.hid hrk
          have HZ := Lib.hid hz
          clear hz hrk
          rcases hv : tskP m x with _ | _
          · obtain rfl : q = false := by rw [← hq2]; simp [asB, all_not hk2 HZ.out hv]
            clear hq2
            go_wp2
            (refine wp_region_bel (by kernel_rfl) (by kernel_rfl) ?_; (repeat (go_big_quiet_step ((first | (go_at_call 59; exact calls_bel_same (l1In_of false hv _)))))); refine wpQuiet_nil ?_; intro w' hw'; have hb := below_of hw'; clear hw'; (try clear cW fW zW); (first | (have bW := bstep bW hb) | (have bW := bstep (bdrew bW) hb) | (have bW := bstep (balloc bW _) hb) | (have bW := bstep (bdrewN bW _) hb) | (have bW := hb)); clear hb; obtain ⟨cW, fW⟩ := bcell bW; have zW := bsize bW)
            go_wp2
            go_returns
            exact ⟨rfl, bstep hW bW⟩
          · obtain ⟨cc, hcc⟩ : ∃ cc, (zs.take k).contains x = cc := ⟨_, rfl⟩
            have HC := Lib.hid hcc
            clear hcc
            cases cc
            · go_wp2
              (refine wp_region_bel (by kernel_rfl) (by kernel_rfl) ?_; (repeat (go_big_quiet_step ((first | (go_at_call 59; exact calls_bel_same (l1In_of true hv _)) | (go_at_call 72; exact calls_bel (l1Has_is HC.out _ (HRK.out.below (below_bel _ _)) (by simp; omega) (by omega))))))); refine wpQuiet_nil ?_; intro w' hw'; have hb := below_of hw'; clear hw'; (try clear cW fW zW); (first | (have bW := bstep bW hb) | (have bW := bstep (bdrew bW) hb) | (have bW := bstep (balloc bW _) hb) | (have bW := bstep (bdrewN bW _) hb) | (have bW := hb)); clear hb; obtain ⟨cW, fW⟩ := bcell bW; have zW := bsize bW)
              go_wp2
              go_roundw
              case rel => exact ⟨k + 1, by omega, by go_num, all_step hk2 HZ.out HO.out hv, difB_step hk2 HZ.out HP.out HC.out, bstep hW bW⟩
              case measure => simp [intOf]; omega
            · obtain rfl : q = false := by rw [← hq2]; simp [asB, difB_no hlt hk2 HZ.out HC.out]
              clear hq2
              go_wp2
              (refine wp_region_bel (by kernel_rfl) (by kernel_rfl) ?_; (repeat (go_big_quiet_step ((first | (go_at_call 59; exact calls_bel_same (l1In_of true hv _)) | (go_at_call 72; exact calls_bel (l1Has_is HC.out _ (HRK.out.below (below_bel _ _)) (by simp; omega) (by omega))))))); refine wpQuiet_nil ?_; intro w' hw'; have hb := below_of hw'; clear hw'; (try clear cW fW zW); (first | (have bW := bstep bW hb) | (have bW := bstep (bdrew bW) hb) | (have bW := bstep (balloc bW _) hb) | (have bW := bstep (bdrewN bW _) hb) | (have bW := hb)); clear hb; obtain ⟨cW, fW⟩ := bcell bW; have zW := bsize bW)
              go_wp2
              go_returns
              exact ⟨rfl, bstep hW bW⟩
        · have hkm : k = m := by omega
          have a1 := all_whole (show zs.length ≤ k by omega) HO.out
          have a2 := HP.out
          rw [hkm] at a2
          obtain rfl : q = true := by rw [← hq2]; simp [asB, a1, a2, hl]
          clear hq2
          go_wp2
          go_returns
          exact ⟨rfl, hW⟩
    · obtain rfl : q = false := by rw [← hq]; simp [asT, asB, hT, hl, hmn]
      have hne : ((m : Int) != (n : Int)) = true := by simp; omega
      clear hq
      go_wp2_with fail
      refine (l16Table_is h1 _ hr hn).mono ?_
      rintro e w1 ⟨rfl, b1⟩
      go_wp2
      go_returns
      exact ⟨rfl, b1⟩
def cstA (T : List (List Int)) (zs : List Int) : Nat → Int
  | 0 => 0
  | k + 1 => cstA T zs k + (row T k).getD (zs.getD k 0).toNat 0
theorem cstA_step {T : List (List Int)} {xs zs : List Int} {k x : Nat} {y : Int} (hk : k < zs.length) (hz : zs[k] = (x : Int)) (hr : row T k = xs) (hx : x < xs.length) (hy : xs[x] = y) : cstA T zs (k + 1) = cstA T zs k + y := by
  show _ + (row T k).getD (zs.getD k 0).toNat 0 = _
  rw [getD_of hk hz, hr, Int.toNat_natCast, getD_of hx hy]
theorem cell_bd {x : Int} (h : cellP x = true) : 0 ≤ x ∧ x ≤ 100 := inB_iff.1 h
theorem cstA_bd {T : List (List Int)} {zs : List Int} {n : Nat} (hT : ∀ i, i < n → (row T i).length = n ∧ (row T i).all cellP = true) (hz : zs.all (tskP n) = true) : ∀ k, k ≤ n → k ≤ zs.length → 0 ≤ cstA T zs k ∧ cstA T zs k ≤ 100 * (k : Int)
  | 0, _, _ => by simp [cstA]
  | k + 1, h1, h2 => by
    have ih := cstA_bd hT hz k (by omega) (by omega)
    have b := tsk_bd (List.all_eq_true.1 hz zs[k] (List.getElem_mem _))
    obtain ⟨x, hx⟩ : ∃ x : Nat, zs[k] = (x : Int) := ⟨(zs[k]).toNat, by omega⟩
    have hxl : x < (row T k).length := by rw [(hT k (by omega)).1]; omega
    have c := cell_bd (List.all_eq_true.1 (hT k (by omega)).2 ((row T k)[x]) (List.getElem_mem _))
    rw [cstA_step (by omega) hx rfl hxl rfl]
    omega
theorem ct_cells {T : List (List Int)} {n : Nat} (h : ctB T = true) (hl : T.length = n) : ∀ i, i < n → (row T i).length = n ∧ (row T i).all cellP = true := by
  simp only [ctB, Bool.and_eq_true, hl] at h
  intro i hi
  have := List.all_eq_true.1 h.2 _ (row_mem (T := T) (k := i) (by omega))
  simpa [rowP] using this
theorem l16Cost_any (A B : Option Addr) (n m c d : Nat) (T : List (List Int)) (zs : List Int) (w : World) (hr : RdT w A n T) (hT : ∀ i, i < n → (row T i).length = n ∧ (row T i).all cellP = true) (hn : n ≤ 5) (hx : Rd w 1 B m (ints zs)) (hl : zs.length = m) (hm : m ≤ n) (hz : zs.all (tskP n) = true) :
    Calls Try.prog 60 #[.slice A n c, .slice B m d] w fun e w' => e = .returned (.int .i64 (cstA T zs m)) ∧ Below w.heap.size w w' := by
  have HT := Lib.hid hT
  have HZ := Lib.hid hz
  clear hT hz
  go_enter Try.func60, Try.ntmps60
  go_wp2_with fail
  go_loopw [5, 6] (fun s i wr => ∃ k : Nat, k ≤ m ∧ i = .int .i64 k ∧ s = .int .i64 (cstA T zs k) ∧ Below w.heap.size w wr) (fun _ i _ => m - (intOf i).toNat)
  case atStart => exact ⟨0, Nat.zero_le _, rfl, rfl, Below.refl _ _⟩
  case round =>
    obtain ⟨k, hk, rfl, rfl, hW⟩ := hrel
    by_cases hlt : k < m
    · obtain ⟨b, off, x', rfl, hbl, hzk, c0⟩ := ints_at hx hW hl hlt
      have hk2 : k < zs.length := by omega
      have bx := tsk_bd (List.all_eq_true.1 HZ.out x' (hzk ▸ List.getElem_mem hk2))
      obtain ⟨x, rfl⟩ : ∃ x : Nat, x' = (x : Int) := ⟨x'.toNat, by omega⟩
      obtain ⟨b1, off1, Ar, r, cr, xs, rfl, hbl1, hrow, hxm, c1, hRr⟩ := hr.at_ hW (show k < n by omega)
      have hT := HT.out k (by omega)
      rw [hrow] at hT
      obtain rfl : r = n := by omega
      obtain ⟨b2, off2, y, rfl, hbl2, hy, c2⟩ := ints_at hRr (Below.refl _ _) hxm (show x < r by omega)
      have by0 := cell_bd (List.all_eq_true.1 hT.2 y (hy ▸ List.getElem_mem (by omega)))
      have hst := cstA_step hk2 hzk hrow (show x < xs.length by omega) hy
      have bd := cstA_bd HT.out HZ.out k (by omega) (by omega)
      obtain ⟨u, hu⟩ : ∃ u, cstA T zs k = u := ⟨_, rfl⟩
      rw [hu] at hst bd ⊢
      have HS := Lib.hid hst
      have s1 : b < wr.heap.size := Nat.lt_of_lt_of_le hbl hW.size
      have s2 : b1 < wr.heap.size := Nat.lt_of_lt_of_le hbl1 hW.size
      have i1 : (0 : Int) ≤ (k : Int) := by omega
      have i2 : (k : Int) < (m : Int) := by omega
      have i3 : (k : Int) < (r : Int) := by omega
      have i4 : (x : Int) < (r : Int) := by omega
      have i5 : (0 : Int) ≤ (x : Int) := by omega
      clear hst hu hy hrow hzk hT hRr
      go_wp2
      (refine wp_region_bel (by kernel_rfl) (by kernel_rfl) ?_; (repeat (go_big_quiet_step ((first | fail)))); refine wpQuiet_nil ?_; intro w' hw'; have hb := below_of hw'; clear hw'; (try clear cW fW zW); (first | (have bW := bstep bW hb) | (have bW := bstep (bdrew bW) hb) | (have bW := bstep (balloc bW _) hb) | (have bW := bstep (bdrewN bW _) hb) | (have bW := hb)); clear hb; obtain ⟨cW, fW⟩ := bcell bW; have zW := bsize bW)
      go_wp2
      go_roundw
      case rel => exact ⟨k + 1, by omega, by go_num, by rw [HS.out], bstep hW bW⟩
      case measure => simp [intOf]; omega
    · have hkm : k = m := by omega
      subst hkm
      go_wp2
      go_returns
      exact ⟨rfl, hW⟩
theorem cost_any (A B : Option Addr) (n m c d : Nat) (T : List (List Int)) (zs : List Int) (w : World) (hr : RdT w A n T) (hT : ∀ i, i < n → (row T i).length = n ∧ (row T i).all cellP = true) (hn : n ≤ 5) (hx : Rd w 1 B m (ints zs)) (hl : zs.length = m) (hm : m ≤ n) (hz : zs.all (tskP n) = true) :
    Calls Try.prog 44 #[.slice A n c, .slice B m d] w fun e w' => e = .returned (.int .i64 (cstA T zs m)) ∧ Below w.heap.size w w' := by
  have HT := Lib.hid hT
  have HZ := Lib.hid hz
  clear hT hz
  go_enter Try.func44, Try.ntmps44
  go_wp2_with fail
  go_loopw [5, 10] (fun s i wr => ∃ k : Nat, k ≤ m ∧ i = .int .i64 k ∧ s = .int .i64 (cstA T zs k) ∧ Below w.heap.size w wr) (fun _ i _ => m - (intOf i).toNat)
  case atStart => exact ⟨0, Nat.zero_le _, rfl, rfl, Below.refl _ _⟩
  case round =>
    obtain ⟨k, hk, rfl, rfl, hW⟩ := hrel
    by_cases hlt : k < m
    · obtain ⟨b, off, x', rfl, hbl, hzk, c0⟩ := ints_at hx hW hl hlt
      have hk2 : k < zs.length := by omega
      have bx := tsk_bd (List.all_eq_true.1 HZ.out x' (hzk ▸ List.getElem_mem hk2))
      obtain ⟨x, rfl⟩ : ∃ x : Nat, x' = (x : Int) := ⟨x'.toNat, by omega⟩
      obtain ⟨b1, off1, Ar, r, cr, xs, rfl, hbl1, hrow, hxm, c1, hRr⟩ := hr.at_ hW (show k < n by omega)
      have hT := HT.out k (by omega)
      rw [hrow] at hT
      obtain rfl : r = n := by omega
      obtain ⟨b2, off2, y, rfl, hbl2, hy, c2⟩ := ints_at hRr (Below.refl _ _) hxm (show x < r by omega)
      have by0 := cell_bd (List.all_eq_true.1 hT.2 y (hy ▸ List.getElem_mem (by omega)))
      have hst := cstA_step hk2 hzk hrow (show x < xs.length by omega) hy
      have bd := cstA_bd HT.out HZ.out k (by omega) (by omega)
      obtain ⟨u, hu⟩ : ∃ u, cstA T zs k = u := ⟨_, rfl⟩
      rw [hu] at hst bd ⊢
      have HS := Lib.hid hst
      have s1 : b < wr.heap.size := Nat.lt_of_lt_of_le hbl hW.size
      have s2 : b1 < wr.heap.size := Nat.lt_of_lt_of_le hbl1 hW.size
      have i1 : (0 : Int) ≤ (k : Int) := by omega
      have i2 : (k : Int) < (m : Int) := by omega
      have i3 : (k : Int) < (r : Int) := by omega
      have i4 : (x : Int) < (r : Int) := by omega
      have i5 : (0 : Int) ≤ (x : Int) := by omega
      clear hst hu hy hrow hzk hT hRr
      go_wp2
      (try (refine wp_region_bel (by kernel_rfl) (by kernel_rfl) ?_; (repeat (go_big_quiet_step ((first | fail)))); refine wpQuiet_nil ?_; intro w' hw'; have hb := below_of hw'; clear hw'; (try clear cW fW zW); (first | (have bW := bstep bW hb) | (have bW := bstep (bdrew bW) hb) | (have bW := bstep (balloc bW _) hb) | (have bW := bstep (bdrewN bW _) hb) | (have bW := hb)); clear hb; obtain ⟨cW, fW⟩ := bcell bW; have zW := bsize bW))
      (try go_wp2)
      go_roundw
      case rel => exact ⟨k + 1, by omega, by go_num, by rw [HS.out], by first | exact bstep hW bW | exact hW⟩
      case measure => simp [intOf]; omega
    · have hkm : k = m := by omega
      subst hkm
      go_wp2
      go_returns
      exact ⟨rfl, hW⟩
end Go.Proofs.Ytallgjobljkgnaa
