/-
  Slices of orders and of stock: copied, compared, measured. Conditions: lengths within the bound of a slice, as each statement says.
-/
import Derived.Test.YtaekngiejehooaaA
import Derived.Test.YtaekngiejehooaaS
namespace Go.Proofs.Ytaekngiejehooaa
open Go.RowKit
set_option maxHeartbeats 1000000
abbrev OrderT := Int × ByteArray × Int × Int × Int
def ordE (a : OrderT) : List Value := [.int .i64 a.1, .string a.2.1, .int .i64 a.2.2.1, .int .i64 a.2.2.2.1, .int .i64 a.2.2.2.2]
theorem ordE_len (a : OrderT) : (ordE a).length = 5 := rfl
def ordF (zs : List OrderT) : List Value := zs.flatMap ordE
theorem ordF_len (zs : List OrderT) : (ordF zs).length = zs.length * 5 := flat_length ordE_len zs
/-- an element of a slice that lies below the world w, read in a later world -/
theorem ord_at {w wr : World} {A : Option Addr} {n k : Nat} {zs : List OrderT} (hr : Rd w 5 A n (ordF zs)) (hW : Below w.heap.size w wr) (hl : zs.length = n) (hk : k < n) :
    ∃ b off, A = some ⟨b, off, none⟩ ∧ b < w.heap.size ∧ ∃ x0 x1 x2 x3 x4, zs[k]'(by omega) = (x0, x1, x2, x3, x4)
    ∧ wr.cell? ⟨b, off + k * 5, none⟩ = some (.int .i64 x0)
    ∧ wr.cell? ⟨b, off + k * 5 + 1, none⟩ = some (.string x1)
    ∧ wr.cell? ⟨b, off + k * 5 + 2, none⟩ = some (.int .i64 x2)
    ∧ wr.cell? ⟨b, off + k * 5 + 3, none⟩ = some (.int .i64 x3)
    ∧ wr.cell? ⟨b, off + k * 5 + 4, none⟩ = some (.int .i64 x4) := by
  obtain ⟨b, off, e, hb, hc⟩ := hr.2 (by omega)
  have hg : ∀ j u, j < 5 → (ordE (zs[k]'(by omega)))[j]? = some u → wr.cell? ⟨b, off + k * 5 + j, none⟩ = some u := fun j u hj hu => by
    rw [Nat.add_assoc]
    refine (hW.cell (p := ⟨b, off + (k * 5 + j), none⟩) hb).trans (hc _ _ ?_)
    rw [← hu]; exact flat_get ordE_len zs k j (by omega) hj
  refine ⟨b, off, e, hb, (zs[k]'(by omega)).1, (zs[k]'(by omega)).2.1, (zs[k]'(by omega)).2.2.1, (zs[k]'(by omega)).2.2.2.1, (zs[k]'(by omega)).2.2.2.2, rfl, hg 0 _ (by omega) rfl, hg 1 _ (by omega) rfl, hg 2 _ (by omega) rfl, hg 3 _ (by omega) rfl, hg 4 _ (by omega) rfl⟩
theorem ord_step {zs : List OrderT} {k n : Nat} (hl : zs.length = n) (hk : k < n) {x0 : Int} {x1 : ByteArray} {x2 : Int} {x3 : Int} {x4 : Int} (hz : zs[k]'(by omega) = (x0, x1, x2, x3, x4)) :
    sets (ordF (zs.take k) ++ (List.replicate (n - k) [.int .i64 0, .string ⟨#[]⟩, .int .i64 0, .int .i64 0, .int .i64 0]).flatten) (k * 5) [.int .i64 x0, .string x1, .int .i64 x2, .int .i64 x3, .int .i64 x4] = ordF (zs.take (k + 1)) ++ (List.replicate (n - (k + 1)) [.int .i64 0, .string ⟨#[]⟩, .int .i64 0, .int .i64 0, .int .i64 0]).flatten := by
  have hL : (ordF (zs.take k)).length = k * 5 := by rw [ordF_len, List.length_take, Nat.min_eq_left (by omega)]
  have e2 : n - k = (n - (k + 1)) + 1 := by omega
  rw [e2, List.replicate_succ, List.flatten_cons, sets_mid hL (by rfl)]
  unfold ordF
  rw [List.take_succ_eq_append_getElem (by omega), List.flatMap_append, hz, List.append_assoc]
  rfl
theorem ord_there {zs : List OrderT} {k n j : Nat} (hl : zs.length = n) (hk : k < n) (hj : j < 5) : ∃ u, (ordF (zs.take k) ++ (List.replicate (n - k) [.int .i64 0, .string ⟨#[]⟩, .int .i64 0, .int .i64 0, .int .i64 0]).flatten)[k * 5 + j]? = some u := by
  have hL : (ordF (zs.take k)).length = k * 5 := by rw [ordF_len, List.length_take, Nat.min_eq_left (by omega)]
  have e2 : n - k = (n - (k + 1)) + 1 := by omega
  refine ⟨_, List.getElem?_eq_getElem ?_⟩
  rw [e2, List.replicate_succ, List.flatten_cons, List.length_append, List.length_append, hL]
  simp
  omega
theorem toOrderS_any (A : Option Addr) (n c : Nat) (zs : List OrderT) (w : World) (hr : Rd w 5 A n (ordF zs)) (hl : zs.length = n) (hn : n * 48 ≤ 140737488351232) :
    Calls Try.prog 17 #[.slice A n c] w fun e w' => ∃ g, e = .returned (.slice (some ⟨g, 0, none⟩) n n) ∧ w.heap.size ≤ g ∧ Bk w' g 46 (ordF zs) ∧ Below w.heap.size w w' := by
  obtain ⟨i0, hi0, hz0, hz1, hz2⟩ := info_parts (show (Try.prog.info? 46).map (fun i => (i.zero, i.size, i.bytes)) = some (some (.agg #[.int .i64 0, .string ⟨#[]⟩, .int .i64 0, .int .i64 0, .int .i64 0]), 5, 48) from by kernel_rfl)
  have hmk : ∀ W : World, (Instr.makeSlice 32 (.int .i64 (n : Int)) (.int .i64 (n : Int))).run Try.prog W = .ok (.slice (some ⟨W.heap.size, 0, none⟩) n n) (W.alloc (.cells (List.replicate n [Value.int .i64 0, .string ⟨#[]⟩, .int .i64 0, .int .i64 0, .int .i64 0]).flatten.toArray 46)) := fun W => by
    have h := run_make (P := Try.prog) W 32 46 i0 (.agg #[.int .i64 0, .string ⟨#[]⟩, .int .i64 0, .int .i64 0, .int .i64 0]) Try.underlying32 hi0 hz0 .i64 .i64 n n (by omega) (by omega) (by rw [hz2]; omega) (by omega)
    rw [hz1] at h
    rw [← madeCells_flat [Value.int .i64 0, .string ⟨#[]⟩, .int .i64 0, .int .i64 0, .int .i64 0] n]
    simpa [Value.cells] using h
  have hb9 : n ≤ 9223372036854775807 := by omega
  clear hi0 hz0 hz1 hz2
  go_enter Try.func17, Try.ntmps17
  go_wp2
  go_loopw [4] (fun i wr => ∃ k : Nat, k ≤ n ∧ i = .int .i64 k ∧ Bk wr w.heap.size 46 (ordF (zs.take k) ++ (List.replicate (n - k) [.int .i64 0, .string ⟨#[]⟩, .int .i64 0, .int .i64 0, .int .i64 0]).flatten) ∧ Below w.heap.size w wr) (fun i _ => n - (intOf i).toNat)
  case atStart => exact ⟨0, Nat.zero_le _, rfl, by simpa [ordF] using Bk.new w 46 (List.replicate n [.int .i64 0, .string ⟨#[]⟩, .int .i64 0, .int .i64 0, .int .i64 0]).flatten, balloc (Below.refl _ _) _⟩
  case round =>
    obtain ⟨k, hk, rfl, hB, hW⟩ := hrel
    by_cases hlt : k < n
    · obtain ⟨b, off, rfl, hbl, x0, x1, x2, x3, x4, hz, c0, c1, c2, c3, c4⟩ := ord_at hr hW hl hlt
      have HZ := Lib.hid hz
      have hBs := Lib.hid hB
      clear hz hB hmk
      have hsz := hW.size
      go_wp2_with (first | (go_at_call 28; refine (toOrder_any _ _ _ _ _ _).mono ?_; rintro e w' ⟨rfl, hb⟩; have hB := hBs.out.below hb hBs.out.lt; have bW := bstep hW hb; obtain ⟨u0, t0⟩ : ∃ u, w'.cell? ⟨w.heap.size, k * 5, none⟩ = some u := hB.there (ord_there (j := 0) hl hlt (by omega)); have f0 : w'.frozen? ⟨w.heap.size, k * 5, none⟩ = false := hB.frozen _; obtain ⟨u1, t1⟩ : ∃ u, w'.cell? ⟨w.heap.size, k * 5 + 1, none⟩ = some u := hB.there (ord_there (j := 1) hl hlt (by omega)); have f1 : w'.frozen? ⟨w.heap.size, k * 5 + 1, none⟩ = false := hB.frozen _; obtain ⟨u2, t2⟩ : ∃ u, w'.cell? ⟨w.heap.size, k * 5 + 2, none⟩ = some u := hB.there (ord_there (j := 2) hl hlt (by omega)); have f2 : w'.frozen? ⟨w.heap.size, k * 5 + 2, none⟩ = false := hB.frozen _; obtain ⟨u3, t3⟩ : ∃ u, w'.cell? ⟨w.heap.size, k * 5 + 3, none⟩ = some u := hB.there (ord_there (j := 3) hl hlt (by omega)); have f3 : w'.frozen? ⟨w.heap.size, k * 5 + 3, none⟩ = false := hB.frozen _; obtain ⟨u4, t4⟩ : ∃ u, w'.cell? ⟨w.heap.size, k * 5 + 4, none⟩ = some u := hB.there (ord_there (j := 4) hl hlt (by omega)); have f4 : w'.frozen? ⟨w.heap.size, k * 5 + 4, none⟩ = false := hB.frozen _; have hS := Lib.hid (((((hB.set_ (k * 5) (.int .i64 x0)).set_ (k * 5 + 1) (.string x1)).set_ (k * 5 + 2) (.int .i64 x2)).set_ (k * 5 + 3) (.int .i64 x3)).set_ (k * 5 + 4) (.int .i64 x4)); have bS := (bset (bset (bset (bset (bset bW (p := ⟨w.heap.size, k * 5, none⟩) (Nat.le_refl _) (.int .i64 x0)) (p := ⟨w.heap.size, k * 5 + 1, none⟩) (Nat.le_refl _) (.string x1)) (p := ⟨w.heap.size, k * 5 + 2, none⟩) (Nat.le_refl _) (.int .i64 x2)) (p := ⟨w.heap.size, k * 5 + 3, none⟩) (Nat.le_refl _) (.int .i64 x3)) (p := ⟨w.heap.size, k * 5 + 4, none⟩) (Nat.le_refl _) (.int .i64 x4)); clear hB))
      have hS' := hS.out
      have hE := ord_step hl hlt HZ.out
      have hQ : Bk _ _ _ (sets (ordF (zs.take k) ++ (List.replicate (n - k) [.int .i64 0, .string ⟨#[]⟩, .int .i64 0, .int .i64 0, .int .i64 0]).flatten) (k * 5) [.int .i64 x0, .string x1, .int .i64 x2, .int .i64 x3, .int .i64 x4]) := hS'
      rw [hE] at hQ
      clear hS hS' hE
      go_roundw
      case rel => exact ⟨k + 1, by omega, by go_num, hQ, bS⟩
      case measure => simp [intOf]; omega
    · clear hmk
      go_wp2
      go_ret
      have e : k = n := by omega
      subst e
      refine ⟨_, rfl, Nat.le_refl _, ?_, hW⟩
      rw [List.take_of_length_le (by omega)] at hB
      simpa using hB
theorem eqOrder_same (x0 : Int) (x1 : ByteArray) (x2 : Int) (x3 : Int) (x4 : Int) (w : World) : Calls Try.prog 49 #[.agg #[.int .i64 x0, .string x1, .int .i64 x2, .int .i64 x3, .int .i64 x4], .agg #[.int .i64 x0, .string x1, .int .i64 x2, .int .i64 x3, .int .i64 x4]] w fun e w' => e = .returned (.bool true) ∧ Below w.heap.size w w' := by
  go_enter Try.func49, Try.ntmps49
  go_wp2
  all_goals (go_returns; exact ⟨by simp, by (repeat' (first | (with_reducible exact Below.refl _ _) | (with_reducible assumption) | (with_reducible refine balloc ?_ _) | (with_reducible refine bdrew ?_) | (with_reducible refine bdrewN ?_ _) | (with_reducible refine bstep ?_ (by assumption)) | (with_reducible refine bset ?_ ?_ _) | (exact Below.size (by assumption)) | go_size))⟩)
theorem eqOrderS_same (A B : Option Addr) (n c d : Nat) (zs : List OrderT) (w : World) (hx : Rd w 5 A n (ordF zs)) (hy : Rd w 5 B n (ordF zs)) (hl : zs.length = n) (hn : n ≤ 9223372036854775807) :
    Calls Try.prog 19 #[.slice A n c, .slice B n d] w fun e w' => e = .returned (.bool true) ∧ Below w.heap.size w w' := by
  go_enter Try.func19, Try.ntmps19
  go_wp2
  go_loopw [5] (fun i wr => ∃ k : Nat, k ≤ n ∧ i = .int .i64 k ∧ Below w.heap.size w wr) (fun i _ => n - (intOf i).toNat)
  case atStart => exact ⟨0, Nat.zero_le _, rfl, Below.refl _ _⟩
  case round =>
    obtain ⟨k, hk, rfl, hW⟩ := hrel
    by_cases hlt : k < n
    · obtain ⟨b, off, rfl, hbl, x0, x1, x2, x3, x4, hz, c0, c1, c2, c3, c4⟩ := ord_at hx hW hl hlt
      obtain ⟨b', off', rfl, hbl', y0, y1, y2, y3, y4, hz', d0, d1, d2, d3, d4⟩ := ord_at hy hW hl hlt
      rw [hz] at hz'
      simp only [Prod.mk.injEq] at hz'
      obtain ⟨rfl, rfl, rfl, rfl, rfl⟩ := hz'
      have i1 : (0 : Int) ≤ (k : Int) := by omega
      have i2 : (k : Int) < (n : Int) := by omega
      have s1 : b < wr.heap.size := Nat.lt_of_lt_of_le hbl hW.size
      have s2 : b' < wr.heap.size := Nat.lt_of_lt_of_le hbl' hW.size
      clear hz
      go_wp2
      (go_region_held3 (fun W => Below (wr).heap.size (wr) W ∧ (∀ bq oq, bq < (wr).heap.size → W.cell? ⟨bq, oq, none⟩ = (wr).cell? ⟨bq, oq, none⟩) ∧ (∀ bq oq, bq < (wr).heap.size → W.frozen? ⟨bq, oq, none⟩ = (wr).frozen? ⟨bq, oq, none⟩) ∧ (∀ bq, bq < (wr).heap.size → bq < W.heap.size)) (((try dsimp only); (try go_split_ands); refine heldc ?_; (repeat' (first | (with_reducible exact Below.refl _ _) | (with_reducible assumption) | (with_reducible refine balloc ?_ _) | (with_reducible refine bdrew ?_) | (with_reducible refine bdrewN ?_ _) | (with_reducible refine bstep ?_ (by assumption)) | (with_reducible refine bset ?_ ?_ _) | (exact Below.size (by assumption)) | go_size)))) (first | (go_at_call 49; refine (eqOrder_same _ _ _ _ _ _).mono ?_; rintro e w' ⟨rfl, hb⟩; obtain ⟨hc1, hf1⟩ := bcell hb; have hz1 := bsize hb; have hS1 := bstep (show Below (wr).heap.size (wr) _ from (by first | assumption | (go_split_ands; assumption))) hb))); (rename_i hH; obtain ⟨bW, cW, fW, zW⟩ := hH)
      go_wp2
      go_roundw
      case rel => exact ⟨k + 1, by omega, by go_num, bstep hW bW⟩
      case measure => simp [intOf]; omega
    · go_wp2
      go_ret
      exact ⟨rfl, hW⟩
theorem szOrder_any (x0 : Int) (x1 : ByteArray) (x2 : Int) (x3 : Int) (x4 : Int) (l : Int) (w : World) (hs : x1.size ≤ maxLen) (hl : 0 ≤ l ∧ l ≤ 1048576) : Calls Try.prog 26 #[.agg #[.int .i64 x0, .string x1, .int .i64 x2, .int .i64 x3, .int .i64 x4], .int .i64 l] w fun e w' => ∃ v : Int, e = .returned (.int .i64 v) ∧ v ≤ 1048576 ∧ Below w.heap.size w w' := by
  obtain ⟨l0, l1⟩ := hl
  unfold maxLen at hs
  have hs2 : (x1.size : Int) ≤ 9223372036854775807 := by omega
  go_enter Try.func26, Try.ntmps26
  go_wp2
  all_goals (go_returns; exact ⟨_, rfl, by omega, by (repeat' (first | (with_reducible exact Below.refl _ _) | (with_reducible assumption) | (with_reducible refine balloc ?_ _) | (with_reducible refine bdrew ?_) | (with_reducible refine bdrewN ?_ _) | (with_reducible refine bstep ?_ (by assumption)) | (with_reducible refine bset ?_ ?_ _) | (exact Below.size (by assumption)) | go_size))⟩)
theorem szOrderS_any (A : Option Addr) (n c : Nat) (zs : List OrderT) (l : Int) (w : World) (hr : Rd w 5 A n (ordF zs)) (hl : zs.length = n) (hn : n ≤ 9223372036854775807) (hz : ∀ z ∈ zs, (z.2.1).size ≤ maxLen) (h2 : 0 ≤ l ∧ l ≤ 1048576) : Calls Try.prog 15 #[.slice A n c, .int .i64 l] w fun e w' => ∃ v : Int, e = .returned (.int .i64 v) ∧ v ≤ 1048576 ∧ (0 ≤ v → n ≤ 1048576) ∧ Below w.heap.size w w' := by
  obtain ⟨l0, l1⟩ := h2
  by_cases hbig : l < (n : Int)
  · go_enter Try.func15, Try.ntmps15
    go_wp2
    go_returns
    exact ⟨_, rfl, by omega, fun h => by omega, by (repeat' (first | (with_reducible exact Below.refl _ _) | (with_reducible assumption) | (with_reducible refine balloc ?_ _) | (with_reducible refine bdrew ?_) | (with_reducible refine bdrewN ?_ _) | (with_reducible refine bstep ?_ (by assumption)) | (with_reducible refine bset ?_ ?_ _) | (exact Below.size (by assumption)) | go_size))⟩
  go_enter Try.func15, Try.ntmps15
  go_wp2
  go_loopw [1, 5] (fun v i wr => ∃ (k : Nat) (u : Int), k ≤ n ∧ i = .int .i64 k ∧ v = .int .i64 u ∧ 0 ≤ u ∧ u ≤ 1048576 ∧ Below w.heap.size w wr) (fun _ i _ => n - (intOf i).toNat)
  case atStart => exact ⟨0, _, Nat.zero_le _, rfl, rfl, by omega, by omega, Below.refl _ _⟩
  case round =>
    obtain ⟨k, u, hk, rfl, rfl, hu0, hu1, hW⟩ := hrel
    by_cases hlt : k < n
    · obtain ⟨b, off, rfl, hbl, x0, x1, x2, x3, x4, hzz, c0, c1, c2, c3, c4⟩ := ord_at hr hW hl hlt
      have hsz : x1.size ≤ maxLen := by
        have h := hz _ (List.getElem_mem (l := zs) (n := k) (by omega))
        rw [hzz] at h; exact h
      have s1 : b < wr.heap.size := Nat.lt_of_lt_of_le hbl hW.size
      clear hzz hz
      go_wp2_with fail
      refine (szOrder_any _ _ _ _ _ u _ hsz ⟨hu0, hu1⟩).mono ?_
      rintro e w1 ⟨v, rfl, hv, hb⟩
      have b1 := bstep hW hb
      by_cases hneg : v < 0
      · go_wp2
        go_returns
        exact ⟨_, rfl, by omega, fun h => by omega, b1⟩
      · go_wp2
        go_roundw
        case rel => exact ⟨k + 1, _, by omega, by go_num, rfl, by omega, by omega, b1⟩
        case measure => simp [intOf]; omega
    · go_wp2
      go_returns
      exact ⟨_, rfl, by omega, fun _ => by omega, hW⟩
abbrev StockT := ByteArray × Int
def stkE (a : StockT) : List Value := [.string a.1, .int .i64 a.2]
theorem stkE_len (a : StockT) : (stkE a).length = 2 := rfl
def stkF (zs : List StockT) : List Value := zs.flatMap stkE
theorem stkF_len (zs : List StockT) : (stkF zs).length = zs.length * 2 := flat_length stkE_len zs
/-- an element of a slice that lies below the world w, read in a later world -/
theorem stk_at {w wr : World} {A : Option Addr} {n k : Nat} {zs : List StockT} (hr : Rd w 2 A n (stkF zs)) (hW : Below w.heap.size w wr) (hl : zs.length = n) (hk : k < n) :
    ∃ b off, A = some ⟨b, off, none⟩ ∧ b < w.heap.size ∧ ∃ x0 x1, zs[k]'(by omega) = (x0, x1)
    ∧ wr.cell? ⟨b, off + k * 2, none⟩ = some (.string x0)
    ∧ wr.cell? ⟨b, off + k * 2 + 1, none⟩ = some (.int .i64 x1) := by
  obtain ⟨b, off, e, hb, hc⟩ := hr.2 (by omega)
  have hg : ∀ j u, j < 2 → (stkE (zs[k]'(by omega)))[j]? = some u → wr.cell? ⟨b, off + k * 2 + j, none⟩ = some u := fun j u hj hu => by
    rw [Nat.add_assoc]
    refine (hW.cell (p := ⟨b, off + (k * 2 + j), none⟩) hb).trans (hc _ _ ?_)
    rw [← hu]; exact flat_get stkE_len zs k j (by omega) hj
  refine ⟨b, off, e, hb, (zs[k]'(by omega)).1, (zs[k]'(by omega)).2, rfl, hg 0 _ (by omega) rfl, hg 1 _ (by omega) rfl⟩
theorem stk_step {zs : List StockT} {k n : Nat} (hl : zs.length = n) (hk : k < n) {x0 : ByteArray} {x1 : Int} (hz : zs[k]'(by omega) = (x0, x1)) :
    sets (stkF (zs.take k) ++ (List.replicate (n - k) [.string ⟨#[]⟩, .int .i64 0]).flatten) (k * 2) [.string x0, .int .i64 x1] = stkF (zs.take (k + 1)) ++ (List.replicate (n - (k + 1)) [.string ⟨#[]⟩, .int .i64 0]).flatten := by
  have hL : (stkF (zs.take k)).length = k * 2 := by rw [stkF_len, List.length_take, Nat.min_eq_left (by omega)]
  have e2 : n - k = (n - (k + 1)) + 1 := by omega
  rw [e2, List.replicate_succ, List.flatten_cons, sets_mid hL (by rfl)]
  unfold stkF
  rw [List.take_succ_eq_append_getElem (by omega), List.flatMap_append, hz, List.append_assoc]
  rfl
theorem stk_there {zs : List StockT} {k n j : Nat} (hl : zs.length = n) (hk : k < n) (hj : j < 2) : ∃ u, (stkF (zs.take k) ++ (List.replicate (n - k) [.string ⟨#[]⟩, .int .i64 0]).flatten)[k * 2 + j]? = some u := by
  have hL : (stkF (zs.take k)).length = k * 2 := by rw [stkF_len, List.length_take, Nat.min_eq_left (by omega)]
  have e2 : n - k = (n - (k + 1)) + 1 := by omega
  refine ⟨_, List.getElem?_eq_getElem ?_⟩
  rw [e2, List.replicate_succ, List.flatten_cons, List.length_append, List.length_append, hL]
  simp
  omega
theorem toStockS_any (A : Option Addr) (n c : Nat) (zs : List StockT) (w : World) (hr : Rd w 2 A n (stkF zs)) (hl : zs.length = n) (hn : n * 24 ≤ 140737488351232) :
    Calls Try.prog 12 #[.slice A n c] w fun e w' => ∃ g, e = .returned (.slice (some ⟨g, 0, none⟩) n n) ∧ w.heap.size ≤ g ∧ Bk w' g 61 (stkF zs) ∧ Below w.heap.size w w' := by
  obtain ⟨i0, hi0, hz0, hz1, hz2⟩ := info_parts (show (Try.prog.info? 61).map (fun i => (i.zero, i.size, i.bytes)) = some (some (.agg #[.string ⟨#[]⟩, .int .i64 0]), 2, 24) from by kernel_rfl)
  have hmk : ∀ W : World, (Instr.makeSlice 25 (.int .i64 (n : Int)) (.int .i64 (n : Int))).run Try.prog W = .ok (.slice (some ⟨W.heap.size, 0, none⟩) n n) (W.alloc (.cells (List.replicate n [Value.string ⟨#[]⟩, .int .i64 0]).flatten.toArray 61)) := fun W => by
    have h := run_make (P := Try.prog) W 25 61 i0 (.agg #[.string ⟨#[]⟩, .int .i64 0]) Try.underlying25 hi0 hz0 .i64 .i64 n n (by omega) (by omega) (by rw [hz2]; omega) (by omega)
    rw [hz1] at h
    rw [← madeCells_flat [Value.string ⟨#[]⟩, .int .i64 0] n]
    simpa [Value.cells] using h
  have hb9 : n ≤ 9223372036854775807 := by omega
  clear hi0 hz0 hz1 hz2
  go_enter Try.func12, Try.ntmps12
  go_wp2
  go_loopw [4] (fun i wr => ∃ k : Nat, k ≤ n ∧ i = .int .i64 k ∧ Bk wr w.heap.size 61 (stkF (zs.take k) ++ (List.replicate (n - k) [.string ⟨#[]⟩, .int .i64 0]).flatten) ∧ Below w.heap.size w wr) (fun i _ => n - (intOf i).toNat)
  case atStart => exact ⟨0, Nat.zero_le _, rfl, by simpa [stkF] using Bk.new w 61 (List.replicate n [.string ⟨#[]⟩, .int .i64 0]).flatten, balloc (Below.refl _ _) _⟩
  case round =>
    obtain ⟨k, hk, rfl, hB, hW⟩ := hrel
    by_cases hlt : k < n
    · obtain ⟨b, off, rfl, hbl, x0, x1, hz, c0, c1⟩ := stk_at hr hW hl hlt
      have HZ := Lib.hid hz
      have hBs := Lib.hid hB
      clear hz hB hmk
      have hsz := hW.size
      go_wp2_with (first | (go_at_call 41; refine (toStock_any _ _ _).mono ?_; rintro e w' ⟨rfl, hb⟩; have hB := hBs.out.below hb hBs.out.lt; have bW := bstep hW hb; obtain ⟨u0, t0⟩ : ∃ u, w'.cell? ⟨w.heap.size, k * 2, none⟩ = some u := hB.there (stk_there (j := 0) hl hlt (by omega)); have f0 : w'.frozen? ⟨w.heap.size, k * 2, none⟩ = false := hB.frozen _; obtain ⟨u1, t1⟩ : ∃ u, w'.cell? ⟨w.heap.size, k * 2 + 1, none⟩ = some u := hB.there (stk_there (j := 1) hl hlt (by omega)); have f1 : w'.frozen? ⟨w.heap.size, k * 2 + 1, none⟩ = false := hB.frozen _; have hS := Lib.hid ((hB.set_ (k * 2) (.string x0)).set_ (k * 2 + 1) (.int .i64 x1)); have bS := (bset (bset bW (p := ⟨w.heap.size, k * 2, none⟩) (Nat.le_refl _) (.string x0)) (p := ⟨w.heap.size, k * 2 + 1, none⟩) (Nat.le_refl _) (.int .i64 x1)); clear hB))
      have hS' := hS.out
      have hE := stk_step hl hlt HZ.out
      have hQ : Bk _ _ _ (sets (stkF (zs.take k) ++ (List.replicate (n - k) [.string ⟨#[]⟩, .int .i64 0]).flatten) (k * 2) [.string x0, .int .i64 x1]) := hS'
      rw [hE] at hQ
      clear hS hS' hE
      go_roundw
      case rel => exact ⟨k + 1, by omega, by go_num, hQ, bS⟩
      case measure => simp [intOf]; omega
    · clear hmk
      go_wp2
      go_ret
      have e : k = n := by omega
      subst e
      refine ⟨_, rfl, Nat.le_refl _, ?_, hW⟩
      rw [List.take_of_length_le (by omega)] at hB
      simpa using hB
theorem eqStock_same (x0 : ByteArray) (x1 : Int) (w : World) : Calls Try.prog 44 #[.agg #[.string x0, .int .i64 x1], .agg #[.string x0, .int .i64 x1]] w fun e w' => e = .returned (.bool true) ∧ Below w.heap.size w w' := by
  go_enter Try.func44, Try.ntmps44
  go_wp2
  all_goals (go_returns; exact ⟨by simp, by (repeat' (first | (with_reducible exact Below.refl _ _) | (with_reducible assumption) | (with_reducible refine balloc ?_ _) | (with_reducible refine bdrew ?_) | (with_reducible refine bdrewN ?_ _) | (with_reducible refine bstep ?_ (by assumption)) | (with_reducible refine bset ?_ ?_ _) | (exact Below.size (by assumption)) | go_size))⟩)
theorem eqStockS_same (A B : Option Addr) (n c d : Nat) (zs : List StockT) (w : World) (hx : Rd w 2 A n (stkF zs)) (hy : Rd w 2 B n (stkF zs)) (hl : zs.length = n) (hn : n ≤ 9223372036854775807) :
    Calls Try.prog 14 #[.slice A n c, .slice B n d] w fun e w' => e = .returned (.bool true) ∧ Below w.heap.size w w' := by
  go_enter Try.func14, Try.ntmps14
  go_wp2
  go_loopw [5] (fun i wr => ∃ k : Nat, k ≤ n ∧ i = .int .i64 k ∧ Below w.heap.size w wr) (fun i _ => n - (intOf i).toNat)
  case atStart => exact ⟨0, Nat.zero_le _, rfl, Below.refl _ _⟩
  case round =>
    obtain ⟨k, hk, rfl, hW⟩ := hrel
    by_cases hlt : k < n
    · obtain ⟨b, off, rfl, hbl, x0, x1, hz, c0, c1⟩ := stk_at hx hW hl hlt
      obtain ⟨b', off', rfl, hbl', y0, y1, hz', d0, d1⟩ := stk_at hy hW hl hlt
      rw [hz] at hz'
      simp only [Prod.mk.injEq] at hz'
      obtain ⟨rfl, rfl⟩ := hz'
      have i1 : (0 : Int) ≤ (k : Int) := by omega
      have i2 : (k : Int) < (n : Int) := by omega
      have s1 : b < wr.heap.size := Nat.lt_of_lt_of_le hbl hW.size
      have s2 : b' < wr.heap.size := Nat.lt_of_lt_of_le hbl' hW.size
      clear hz
      go_wp2
      (go_region_held3 (fun W => Below (wr).heap.size (wr) W ∧ (∀ bq oq, bq < (wr).heap.size → W.cell? ⟨bq, oq, none⟩ = (wr).cell? ⟨bq, oq, none⟩) ∧ (∀ bq oq, bq < (wr).heap.size → W.frozen? ⟨bq, oq, none⟩ = (wr).frozen? ⟨bq, oq, none⟩) ∧ (∀ bq, bq < (wr).heap.size → bq < W.heap.size)) (((try dsimp only); (try go_split_ands); refine heldc ?_; (repeat' (first | (with_reducible exact Below.refl _ _) | (with_reducible assumption) | (with_reducible refine balloc ?_ _) | (with_reducible refine bdrew ?_) | (with_reducible refine bdrewN ?_ _) | (with_reducible refine bstep ?_ (by assumption)) | (with_reducible refine bset ?_ ?_ _) | (exact Below.size (by assumption)) | go_size)))) (first | (go_at_call 44; refine (eqStock_same _ _ _).mono ?_; rintro e w' ⟨rfl, hb⟩; obtain ⟨hc1, hf1⟩ := bcell hb; have hz1 := bsize hb; have hS1 := bstep (show Below (wr).heap.size (wr) _ from (by first | assumption | (go_split_ands; assumption))) hb))); (rename_i hH; obtain ⟨bW, cW, fW, zW⟩ := hH)
      go_wp2
      go_roundw
      case rel => exact ⟨k + 1, by omega, by go_num, bstep hW bW⟩
      case measure => simp [intOf]; omega
    · go_wp2
      go_ret
      exact ⟨rfl, hW⟩
theorem szStock_any (x0 : ByteArray) (x1 : Int) (l : Int) (w : World) (hs : x0.size ≤ maxLen) (hl : 0 ≤ l ∧ l ≤ 1048576) : Calls Try.prog 39 #[.agg #[.string x0, .int .i64 x1], .int .i64 l] w fun e w' => ∃ v : Int, e = .returned (.int .i64 v) ∧ v ≤ 1048576 ∧ Below w.heap.size w w' := by
  obtain ⟨l0, l1⟩ := hl
  unfold maxLen at hs
  have hs2 : (x0.size : Int) ≤ 9223372036854775807 := by omega
  go_enter Try.func39, Try.ntmps39
  go_wp2
  all_goals (go_returns; exact ⟨_, rfl, by omega, by (repeat' (first | (with_reducible exact Below.refl _ _) | (with_reducible assumption) | (with_reducible refine balloc ?_ _) | (with_reducible refine bdrew ?_) | (with_reducible refine bdrewN ?_ _) | (with_reducible refine bstep ?_ (by assumption)) | (with_reducible refine bset ?_ ?_ _) | (exact Below.size (by assumption)) | go_size))⟩)
theorem szStockS_any (A : Option Addr) (n c : Nat) (zs : List StockT) (l : Int) (w : World) (hr : Rd w 2 A n (stkF zs)) (hl : zs.length = n) (hn : n ≤ 9223372036854775807) (hz : ∀ z ∈ zs, (z.1).size ≤ maxLen) (h2 : 0 ≤ l ∧ l ≤ 1048576) : Calls Try.prog 10 #[.slice A n c, .int .i64 l] w fun e w' => ∃ v : Int, e = .returned (.int .i64 v) ∧ v ≤ 1048576 ∧ (0 ≤ v → n ≤ 1048576) ∧ Below w.heap.size w w' := by
  obtain ⟨l0, l1⟩ := h2
  by_cases hbig : l < (n : Int)
  · go_enter Try.func10, Try.ntmps10
    go_wp2
    go_returns
    exact ⟨_, rfl, by omega, fun h => by omega, by (repeat' (first | (with_reducible exact Below.refl _ _) | (with_reducible assumption) | (with_reducible refine balloc ?_ _) | (with_reducible refine bdrew ?_) | (with_reducible refine bdrewN ?_ _) | (with_reducible refine bstep ?_ (by assumption)) | (with_reducible refine bset ?_ ?_ _) | (exact Below.size (by assumption)) | go_size))⟩
  go_enter Try.func10, Try.ntmps10
  go_wp2
  go_loopw [1, 5] (fun v i wr => ∃ (k : Nat) (u : Int), k ≤ n ∧ i = .int .i64 k ∧ v = .int .i64 u ∧ 0 ≤ u ∧ u ≤ 1048576 ∧ Below w.heap.size w wr) (fun _ i _ => n - (intOf i).toNat)
  case atStart => exact ⟨0, _, Nat.zero_le _, rfl, rfl, by omega, by omega, Below.refl _ _⟩
  case round =>
    obtain ⟨k, u, hk, rfl, rfl, hu0, hu1, hW⟩ := hrel
    by_cases hlt : k < n
    · obtain ⟨b, off, rfl, hbl, x0, x1, hzz, c0, c1⟩ := stk_at hr hW hl hlt
      have hsz : x0.size ≤ maxLen := by
        have h := hz _ (List.getElem_mem (l := zs) (n := k) (by omega))
        rw [hzz] at h; exact h
      have s1 : b < wr.heap.size := Nat.lt_of_lt_of_le hbl hW.size
      clear hzz hz
      go_wp2_with fail
      refine (szStock_any _ _ u _ hsz ⟨hu0, hu1⟩).mono ?_
      rintro e w1 ⟨v, rfl, hv, hb⟩
      have b1 := bstep hW hb
      by_cases hneg : v < 0
      · go_wp2
        go_returns
        exact ⟨_, rfl, by omega, fun h => by omega, b1⟩
      · go_wp2
        go_roundw
        case rel => exact ⟨k + 1, _, by omega, by go_num, rfl, by omega, by omega, b1⟩
        case measure => simp [intOf]; omega
    · go_wp2
      go_returns
      exact ⟨_, rfl, by omega, fun _ => by omega, hW⟩
end Go.Proofs.Ytaekngiejehooaa
