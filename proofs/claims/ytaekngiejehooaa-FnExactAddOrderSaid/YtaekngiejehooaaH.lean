/-
  Lists of orders: the program's and the reference's test. Conditions: lengths within the bound of a slice.
-/
import Derived.Test.YtaekngiejehooaaR
namespace Go.Proofs.Ytaekngiejehooaa
open Go.RowKit
set_option maxRecDepth 100000
set_option maxHeartbeats 4000000

def okP (a : OrderT) : Prop := ordB (a.1) (a.2.1) (a.2.2.1) (a.2.2.2.1) (a.2.2.2.2) = true
/-- place k of the list is valid, and its number is greater than that before -/
def okL (zs : List OrderT) (k : Nat) : Prop := ∀ h : k < zs.length, okP zs[k] ∧ (0 < k → (zs[k - 1]'(by omega)).1 < zs[k].1)
noncomputable def listedB (zs : List OrderT) (most : Int) : Bool := @decide ((∀ k, k < zs.length → okL zs k) ∧ (zs.length : Int) ≤ most) (Classical.propDecidable _)
theorem listedB_iff {zs : List OrderT} {most : Int} : listedB zs most = true ↔ (∀ k, k < zs.length → okL zs k) ∧ (zs.length : Int) ≤ most := by
  unfold listedB; exact @decide_eq_true_iff _ (Classical.propDecidable _)
theorem listedB_true {zs : List OrderT} {most : Int} (h : ∀ k, k < zs.length → okL zs k) : listedB zs most = decide ((zs.length : Int) ≤ most) := by
  rw [Bool.eq_iff_iff, listedB_iff, decide_eq_true_iff]
  exact ⟨fun x => x.2, fun x => ⟨h, x⟩⟩
theorem listedB_false {zs : List OrderT} {most : Int} {k : Nat} (hk : k < zs.length) (h : ¬ okL zs k) : listedB zs most = false := by
  rw [Bool.eq_false_iff]
  exact fun x => h ((listedB_iff.1 x).1 k hk)
theorem isOrder_of {i : Int} {k : ByteArray} {c u t : Int} (v : Bool) (h : ordB i k c u t = v) (w : World) (hs : k.size ≤ maxLen) : Calls Try.prog 47 #[.agg #[.int .i64 i, .string k, .int .i64 c, .int .i64 u, .int .i64 t]] w fun e w' => e = .returned (.bool v) ∧ Below w.heap.size w w' := by rw [← h]; exact isOrder_any i k c u t w hs
theorem l15One_of {i : Int} {k : ByteArray} {c u t : Int} (v : Bool) (h : ordB i k c u t = v) (w : World) (hs : k.size ≤ maxLen) : Calls Try.prog 63 #[.agg #[.int .i64 i, .string k, .int .i64 c, .int .i64 u, .int .i64 t]] w fun e w' => e = .returned (.bool v) ∧ Below w.heap.size w w' := by rw [← h]; exact l15One_any i k c u t w hs
theorem orderId_any (i : Int) (k : ByteArray) (c u t : Int) (w : World) : Calls Try.prog 48 #[.agg #[.int .i64 i, .string k, .int .i64 c, .int .i64 u, .int .i64 t]] w fun e w' => e = .returned (.int .i64 i) ∧ Below w.heap.size w w' := by
  go_enter Try.func48, Try.ntmps48
  go_wp2
  all_goals (go_returns; exact ⟨rfl, by (repeat' (first | (with_reducible exact Below.refl _ _) | (with_reducible assumption) | (with_reducible refine balloc ?_ _) | (with_reducible refine bdrew ?_) | (with_reducible refine bdrewN ?_ _) | (with_reducible refine bstep ?_ (by assumption)) | (with_reducible refine bset ?_ ?_ _) | (exact Below.size (by assumption)) | go_size))⟩)
theorem areListed_any (A : Option Addr) (n c : Nat) (zs : List OrderT) (most : Int) (hz9 : ∀ z ∈ zs, z.2.1.size ≤ maxLen) (w : World) (hr : Rd w 5 A n (ordF zs)) (hl : zs.length = n) (hn : n ≤ 140737488355328) :
    Calls Try.prog 46 #[.slice A n c, .int .i64 most, .func (.func 47) #[] #[], .func (.func 48) #[] #[]] w fun e w' => e = .returned (.bool (listedB zs most)) ∧ Below w.heap.size w w' := by
  go_enter Try.func46, Try.ntmps46
  go_wp2
  go_loopw [13] (fun i wr => ∃ k : Nat, k ≤ n ∧ i = .int .i64 k ∧ Hid (∀ j, j < k → okL zs j) ∧ Below w.heap.size w wr) (fun i _ => n - (intOf i).toNat)
  case atStart => exact ⟨0, Nat.zero_le _, rfl, fun j hj => absurd hj (Nat.not_lt_zero _), Below.refl _ _⟩
  case round =>
    obtain ⟨k, hk, rfl, hO, hW⟩ := hrel
    by_cases hlt : k < n
    · have hsz := hW.size
      obtain ⟨b, off, rfl, hbl, x0, x1, x2, x3, x4, hz, c0, c1, c2, c3, c4⟩ := ord_at hr hW hl hlt
      have s1 : b < wr.heap.size := Nat.lt_of_lt_of_le hbl hW.size
      have hx9 : x1.size ≤ maxLen := by
        have h := hz9 _ (List.getElem_mem (l := zs) (n := k) (by omega))
        rw [hz] at h; exact h
      have HZ := Lib.hid hz
      clear hz
      rcases hv : ordB x0 x1 x2 x3 x4 with _ | _
      · go_wp2
        (refine wp_region_bel (by kernel_rfl) (by kernel_rfl) ?_; (repeat (go_big_quiet_step ((first | (go_at_call 47; exact calls_bel (isOrder_of false hv _ hx9)))))); refine wpQuiet_nil ?_; intro w' hw'; have hb := below_of hw'; clear hw'; (try clear cW fW zW); (first | (have bW := bstep bW hb) | (have bW := bstep (bdrew bW) hb) | (have bW := bstep (balloc bW _) hb) | (have bW := bstep (bdrewN bW _) hb) | (have bW := hb)); clear hb; obtain ⟨cW, fW⟩ := bcell bW; have zW := bsize bW)
        go_wp2
        go_ret
        have hd : listedB zs most = false := listedB_false (k := k) (by omega) (fun h => by
          have h1 := (h (by omega)).1
          rw [HZ.out] at h1
          simp only [okP, hv] at h1
          cases h1)
        exact ⟨by rw [hd]; rfl, by (repeat' (first | (with_reducible exact Below.refl _ _) | (with_reducible assumption) | (with_reducible refine balloc ?_ _) | (with_reducible refine bdrew ?_) | (with_reducible refine bdrewN ?_ _) | (with_reducible refine bstep ?_ (by assumption)) | (with_reducible refine bset ?_ ?_ _) | (exact Below.size (by assumption)) | go_size))⟩
      · rcases Nat.eq_zero_or_pos k with h0 | h0
        · have g0 : decide (0 < k) = false := by simp; omega
          have H0 := Lib.hid h0
          clear h0
          go_wp2
          (refine wp_region_bel (by kernel_rfl) (by kernel_rfl) ?_; (repeat (go_big_quiet_step ((first | (go_at_call 47; exact calls_bel (isOrder_of true hv _ hx9)))))); refine wpQuiet_nil ?_; intro w' hw'; have hb := below_of hw'; clear hw'; (try clear cW fW zW); (first | (have bW := bstep bW hb) | (have bW := bstep (bdrew bW) hb) | (have bW := bstep (balloc bW _) hb) | (have bW := bstep (bdrewN bW _) hb) | (have bW := hb)); clear hb; obtain ⟨cW, fW⟩ := bcell bW; have zW := bsize bW)
          go_wp2
          go_roundw
          case rel =>
            refine ⟨k + 1, by omega, by go_num, (show Hid _ from fun j hj hjl => ?_), by (repeat' (first | (with_reducible exact Below.refl _ _) | (with_reducible assumption) | (with_reducible refine balloc ?_ _) | (with_reducible refine bdrew ?_) | (with_reducible refine bdrewN ?_ _) | (with_reducible refine bstep ?_ (by assumption)) | (with_reducible refine bset ?_ ?_ _) | (exact Below.size (by assumption)) | go_size))⟩
            have h1 := H0.out
            have h2 : j = k := by omega
            subst h2
            refine ⟨?_, fun h => by omega⟩
            rw [HZ.out]; exact hv
          case measure => simp [intOf]; omega
        · obtain ⟨q, rfl⟩ : ∃ q, k = q + 1 := ⟨k - 1, by omega⟩
          obtain ⟨b', off', hbe, hbl', y0, y1, y2, y3, y4, hy, d0, d1, d2, d3, d4⟩ := ord_at (k := q) hr hW hl (by omega)
          simp only [Option.some.injEq, Addr.mk.injEq, and_true] at hbe
          obtain ⟨rfl, rfl⟩ := hbe
          have HY := Lib.hid hy
          clear hy
          have i1 : (q : Int) < (n : Int) := by omega
          by_cases hlt2 : x0 ≤ y0
          · have g1 : decide (x0 ≤ y0) = true := by simp [hlt2]
            go_wp2
            (refine wp_region_bel (by kernel_rfl) (by kernel_rfl) ?_; (repeat (go_big_quiet_step ((first | (go_at_call 47; exact calls_bel (isOrder_of true hv _ hx9)) | (go_at_call 48; exact calls_bel (orderId_any _ _ _ _ _ _)))))); refine wpQuiet_nil ?_; intro w' hw'; have hb := below_of hw'; clear hw'; (try clear cW fW zW); (first | (have bW := bstep bW hb) | (have bW := bstep (bdrew bW) hb) | (have bW := bstep (balloc bW _) hb) | (have bW := bstep (bdrewN bW _) hb) | (have bW := hb)); clear hb; obtain ⟨cW, fW⟩ := bcell bW; have zW := bsize bW)
            go_wp2
            go_ret
            have hd : listedB zs most = false := listedB_false (k := q + 1) (by omega) (fun h => by
              have h1 := (h (by omega)).2 (by omega)
              rw [HZ.out] at h1
              have h2 := HY.out
              simp only [Nat.add_sub_cancel, h2] at h1
              omega)
            exact ⟨by rw [hd]; rfl, by (repeat' (first | (with_reducible exact Below.refl _ _) | (with_reducible assumption) | (with_reducible refine balloc ?_ _) | (with_reducible refine bdrew ?_) | (with_reducible refine bdrewN ?_ _) | (with_reducible refine bstep ?_ (by assumption)) | (with_reducible refine bset ?_ ?_ _) | (exact Below.size (by assumption)) | go_size))⟩
          · have g1 : decide (x0 ≤ y0) = false := by simp; omega
            go_wp2
            (refine wp_region_bel (by kernel_rfl) (by kernel_rfl) ?_; (repeat (go_big_quiet_step ((first | (go_at_call 47; exact calls_bel (isOrder_of true hv _ hx9)) | (go_at_call 48; exact calls_bel (orderId_any _ _ _ _ _ _)))))); refine wpQuiet_nil ?_; intro w' hw'; have hb := below_of hw'; clear hw'; (try clear cW fW zW); (first | (have bW := bstep bW hb) | (have bW := bstep (bdrew bW) hb) | (have bW := bstep (balloc bW _) hb) | (have bW := bstep (bdrewN bW _) hb) | (have bW := hb)); clear hb; obtain ⟨cW, fW⟩ := bcell bW; have zW := bsize bW)
            go_wp2
            go_roundw
            case rel =>
              refine ⟨q + 1 + 1, by omega, by go_num, (show Hid _ from fun j hj => ?_), by (repeat' (first | (with_reducible exact Below.refl _ _) | (with_reducible assumption) | (with_reducible refine balloc ?_ _) | (with_reducible refine bdrew ?_) | (with_reducible refine bdrewN ?_ _) | (with_reducible refine bstep ?_ (by assumption)) | (with_reducible refine bset ?_ ?_ _) | (exact Below.size (by assumption)) | go_size))⟩
              by_cases h2 : j < q + 1
              · exact hO.out j h2
              · have h3 : j = q + 1 := by omega
                subst h3
                intro hjl
                refine ⟨by rw [HZ.out]; exact hv, fun _ => ?_⟩
                have h4 := HY.out
                simp only [Nat.add_sub_cancel, h4]
                rw [HZ.out]
                show y0 < x0
                omega
            case measure => simp [intOf]; omega
    · go_wp2
      go_ret
      have e : k = n := by omega
      subst e
      have hd : listedB zs most = decide ((k : Int) ≤ most) := by rw [listedB_true (by rw [hl]; exact hO.out), hl]
      exact ⟨by rw [hd]; rfl, hW⟩
theorem l15Good_any (A : Option Addr) (n c : Nat) (zs : List OrderT) (hz9 : ∀ z ∈ zs, z.2.1.size ≤ maxLen) (w : World) (hr : Rd w 5 A n (ordF zs)) (hl : zs.length = n) (hn : n ≤ 140737488355328) :
    Calls Try.prog 45 #[.slice A n c] w fun e w' => e = .returned (.bool (listedB zs 10)) ∧ Below w.heap.size w w' := by
  go_enter Try.func45, Try.ntmps45
  go_wp2
  go_loopw [3] (fun i wr => ∃ k : Nat, k ≤ n ∧ i = .int .i64 k ∧ Hid (∀ j, j < k → okL zs j) ∧ Below w.heap.size w wr) (fun i _ => n - (intOf i).toNat)
  case atStart => exact ⟨0, Nat.zero_le _, rfl, fun j hj => absurd hj (Nat.not_lt_zero _), Below.refl _ _⟩
  case round =>
    obtain ⟨k, hk, rfl, hO, hW⟩ := hrel
    by_cases hlt : k < n
    · have hsz := hW.size
      obtain ⟨b, off, rfl, hbl, x0, x1, x2, x3, x4, hz, c0, c1, c2, c3, c4⟩ := ord_at hr hW hl hlt
      have s1 : b < wr.heap.size := Nat.lt_of_lt_of_le hbl hW.size
      have hx9 : x1.size ≤ maxLen := by
        have h := hz9 _ (List.getElem_mem (l := zs) (n := k) (by omega))
        rw [hz] at h; exact h
      have HZ := Lib.hid hz
      clear hz
      rcases hv : ordB x0 x1 x2 x3 x4 with _ | _
      · go_wp2
        (refine wp_region_bel (by kernel_rfl) (by kernel_rfl) ?_; (repeat (go_big_quiet_step ((first | (go_at_call 63; exact calls_bel (l15One_of false hv _ hx9)))))); refine wpQuiet_nil ?_; intro w' hw'; have hb := below_of hw'; clear hw'; (try clear cW fW zW); (first | (have bW := bstep bW hb) | (have bW := bstep (bdrew bW) hb) | (have bW := bstep (balloc bW _) hb) | (have bW := bstep (bdrewN bW _) hb) | (have bW := hb)); clear hb; obtain ⟨cW, fW⟩ := bcell bW; have zW := bsize bW)
        go_wp2
        go_ret
        have hd : listedB zs 10 = false := listedB_false (k := k) (by omega) (fun h => by
          have h1 := (h (by omega)).1
          rw [HZ.out] at h1
          simp only [okP, hv] at h1
          cases h1)
        exact ⟨by rw [hd]; rfl, by (repeat' (first | (with_reducible exact Below.refl _ _) | (with_reducible assumption) | (with_reducible refine balloc ?_ _) | (with_reducible refine bdrew ?_) | (with_reducible refine bdrewN ?_ _) | (with_reducible refine bstep ?_ (by assumption)) | (with_reducible refine bset ?_ ?_ _) | (exact Below.size (by assumption)) | go_size))⟩
      · rcases Nat.eq_zero_or_pos k with h0 | h0
        · have g0 : decide (0 < k) = false := by simp; omega
          have H0 := Lib.hid h0
          clear h0
          go_wp2
          (refine wp_region_bel (by kernel_rfl) (by kernel_rfl) ?_; (repeat (go_big_quiet_step ((first | (go_at_call 63; exact calls_bel (l15One_of true hv _ hx9)))))); refine wpQuiet_nil ?_; intro w' hw'; have hb := below_of hw'; clear hw'; (try clear cW fW zW); (first | (have bW := bstep bW hb) | (have bW := bstep (bdrew bW) hb) | (have bW := bstep (balloc bW _) hb) | (have bW := bstep (bdrewN bW _) hb) | (have bW := hb)); clear hb; obtain ⟨cW, fW⟩ := bcell bW; have zW := bsize bW)
          go_wp2
          go_roundw
          case rel =>
            refine ⟨k + 1, by omega, by go_num, (show Hid _ from fun j hj hjl => ?_), by (repeat' (first | (with_reducible exact Below.refl _ _) | (with_reducible assumption) | (with_reducible refine balloc ?_ _) | (with_reducible refine bdrew ?_) | (with_reducible refine bdrewN ?_ _) | (with_reducible refine bstep ?_ (by assumption)) | (with_reducible refine bset ?_ ?_ _) | (exact Below.size (by assumption)) | go_size))⟩
            have h1 := H0.out
            have h2 : j = k := by omega
            subst h2
            refine ⟨?_, fun h => by omega⟩
            rw [HZ.out]; exact hv
          case measure => simp [intOf]; omega
        · obtain ⟨q, rfl⟩ : ∃ q, k = q + 1 := ⟨k - 1, by omega⟩
          obtain ⟨b', off', hbe, hbl', y0, y1, y2, y3, y4, hy, d0, d1, d2, d3, d4⟩ := ord_at (k := q) hr hW hl (by omega)
          simp only [Option.some.injEq, Addr.mk.injEq, and_true] at hbe
          obtain ⟨rfl, rfl⟩ := hbe
          have HY := Lib.hid hy
          clear hy
          have i1 : (q : Int) < (n : Int) := by omega
          by_cases hlt2 : x0 ≤ y0
          · have g1 : decide (x0 ≤ y0) = true := by simp [hlt2]
            go_wp2
            (refine wp_region_bel (by kernel_rfl) (by kernel_rfl) ?_; (repeat (go_big_quiet_step ((first | (go_at_call 63; exact calls_bel (l15One_of true hv _ hx9)))))); refine wpQuiet_nil ?_; intro w' hw'; have hb := below_of hw'; clear hw'; (try clear cW fW zW); (first | (have bW := bstep bW hb) | (have bW := bstep (bdrew bW) hb) | (have bW := bstep (balloc bW _) hb) | (have bW := bstep (bdrewN bW _) hb) | (have bW := hb)); clear hb; obtain ⟨cW, fW⟩ := bcell bW; have zW := bsize bW)
            go_wp2
            go_ret
            have hd : listedB zs 10 = false := listedB_false (k := q + 1) (by omega) (fun h => by
              have h1 := (h (by omega)).2 (by omega)
              rw [HZ.out] at h1
              have h2 := HY.out
              simp only [Nat.add_sub_cancel, h2] at h1
              omega)
            exact ⟨by rw [hd]; rfl, by (repeat' (first | (with_reducible exact Below.refl _ _) | (with_reducible assumption) | (with_reducible refine balloc ?_ _) | (with_reducible refine bdrew ?_) | (with_reducible refine bdrewN ?_ _) | (with_reducible refine bstep ?_ (by assumption)) | (with_reducible refine bset ?_ ?_ _) | (exact Below.size (by assumption)) | go_size))⟩
          · have g1 : decide (x0 ≤ y0) = false := by simp; omega
            go_wp2
            (refine wp_region_bel (by kernel_rfl) (by kernel_rfl) ?_; (repeat (go_big_quiet_step ((first | (go_at_call 63; exact calls_bel (l15One_of true hv _ hx9)))))); refine wpQuiet_nil ?_; intro w' hw'; have hb := below_of hw'; clear hw'; (try clear cW fW zW); (first | (have bW := bstep bW hb) | (have bW := bstep (bdrew bW) hb) | (have bW := bstep (balloc bW _) hb) | (have bW := bstep (bdrewN bW _) hb) | (have bW := hb)); clear hb; obtain ⟨cW, fW⟩ := bcell bW; have zW := bsize bW)
            go_wp2
            go_roundw
            case rel =>
              refine ⟨q + 1 + 1, by omega, by go_num, (show Hid _ from fun j hj => ?_), by (repeat' (first | (with_reducible exact Below.refl _ _) | (with_reducible assumption) | (with_reducible refine balloc ?_ _) | (with_reducible refine bdrew ?_) | (with_reducible refine bdrewN ?_ _) | (with_reducible refine bstep ?_ (by assumption)) | (with_reducible refine bset ?_ ?_ _) | (exact Below.size (by assumption)) | go_size))⟩
              by_cases h2 : j < q + 1
              · exact hO.out j h2
              · have h3 : j = q + 1 := by omega
                subst h3
                intro hjl
                refine ⟨by rw [HZ.out]; exact hv, fun _ => ?_⟩
                have h4 := HY.out
                simp only [Nat.add_sub_cancel, h4]
                rw [HZ.out]
                show y0 < x0
                omega
            case measure => simp [intOf]; omega
    · go_wp2
      go_ret
      have e : k = n := by omega
      subst e
      have hd : listedB zs 10 = decide ((k : Int) ≤ 10) := by rw [listedB_true (by rw [hl]; exact hO.out), hl]
      exact ⟨by rw [hd]; rfl, hW⟩
theorem AreOrders_of {v : Bool} {A : Option Addr} {n c : Nat} {zs : List OrderT} (h : listedB zs 10 = v) (w : World) (hr : Rd w 5 A n (ordF zs)) (hl : zs.length = n) (hn : n ≤ 140737488355328) (hz9 : ∀ z ∈ zs, z.2.1.size ≤ maxLen) : Calls Try.prog 18 #[.slice A n c] w fun e w' => e = .returned (.bool v) ∧ Below w.heap.size w w' := by
  have hA := areListed_any A n c zs 10 hz9 w hr hl hn
  rw [h] at hA
  go_enter Try.func18, Try.ntmps18
  go_wp2_with fail
  refine hA.mono ?_
  rintro e w1 ⟨rfl, b1⟩
  go_wp2
  go_returns
  exact ⟨rfl, b1⟩
theorem sAreOrders_of {v : Bool} {A : Option Addr} {n c : Nat} {zs : List OrderT} (h : listedB zs 10 = v) (w : World) (hr : Rd w 5 A n (ordF zs)) (hl : zs.length = n) (hn : n ≤ 140737488355328) (hz9 : ∀ z ∈ zs, z.2.1.size ≤ maxLen) : Calls Try.prog 16 #[.slice A n c] w fun e w' => e = .returned (.bool v) ∧ Below w.heap.size w w' := by
  have hA := l15Good_any A n c zs hz9 w hr hl hn
  rw [h] at hA
  go_enter Try.func16, Try.ntmps16
  go_wp2_with fail
  refine hA.mono ?_
  rintro e w1 ⟨rfl, b1⟩
  go_wp2
  go_returns
  exact ⟨rfl, b1⟩
theorem l15Good_of {v : Bool} {A : Option Addr} {n c : Nat} {zs : List OrderT} (h : listedB zs 10 = v) (w : World) (hr : Rd w 5 A n (ordF zs)) (hl : zs.length = n) (hn : n ≤ 140737488355328) (hz9 : ∀ z ∈ zs, z.2.1.size ≤ maxLen) : Calls Try.prog 45 #[.slice A n c] w fun e w' => e = .returned (.bool v) ∧ Below w.heap.size w w' := by
  rw [← h]; exact l15Good_any A n c zs hz9 w hr hl hn
end Go.Proofs.Ytaekngiejehooaa
