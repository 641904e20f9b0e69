/-
  Tables of ints (slices of slices): read, copied, compared. Conditions: lengths within the bound of a slice.
-/
import Derived.Test.YtallgjobljkgnaaN
import Derived.Test.YtallgjobljkgnaaP
namespace Go.Proofs.Ytallgjobljkgnaa
open Go.RowKit
set_option maxRecDepth 100000
set_option maxHeartbeats 1000000

abbrev row (T : List (List Int)) (i : Nat) : List Int := T.getD i []
/-- a slice of slices of ints: the table T -/
def RdT (w : World) (A : Option Addr) (n : Nat) (T : List (List Int)) : Prop :=
  T.length = n ∧ (0 < n → ∃ b off, A = some ⟨b, off, none⟩ ∧ b < w.heap.size ∧ ∀ k, k < n → ∃ Ar cr, w.cell? ⟨b, off + k, none⟩ = some (.slice Ar (row T k).length cr) ∧ Rd w 1 Ar (row T k).length (ints (row T k)))
theorem RdT.below {w w' : World} {A : Option Addr} {n : Nat} {T : List (List Int)} (h : RdT w A n T) (hb : Below w.heap.size w w') : RdT w' A n T :=
  ⟨h.1, fun hn => by
    obtain ⟨b, off, e, hlt, hc⟩ := h.2 hn
    refine ⟨b, off, e, Nat.lt_of_lt_of_le hlt hb.size, fun k hk => ?_⟩
    obtain ⟨Ar, cr, h1, h2⟩ := hc k hk
    exact ⟨Ar, cr, (hb.cell (p := ⟨b, off + k, none⟩) hlt).trans h1, h2.below hb⟩⟩
theorem RdT.at_ {w wr : World} {A : Option Addr} {n k : Nat} {T : List (List Int)} (h : RdT w A n T) (hW : Below w.heap.size w wr) (hk : k < n) :
    ∃ b off Ar m cr xs, A = some ⟨b, off, none⟩ ∧ b < w.heap.size ∧ row T k = xs ∧ xs.length = m ∧ wr.cell? ⟨b, off + k, none⟩ = some (.slice Ar m cr) ∧ Rd wr 1 Ar m (ints xs) := by
  obtain ⟨b, off, e, hb, hc⟩ := h.2 (by omega)
  obtain ⟨Ar, cr, h1, h2⟩ := hc k hk
  exact ⟨b, off, Ar, _, cr, _, e, hb, rfl, rfl, (hW.cell (p := ⟨b, off + k, none⟩) hb).trans h1, h2.below hW⟩
theorem row_mem {T : List (List Int)} {k : Nat} (hk : k < T.length) : row T k ∈ T := by
  unfold row
  rw [List.getD_eq_getElem?_getD, List.getElem?_eq_getElem hk]
  exact List.getElem_mem hk
theorem row_get {T : List (List Int)} {k : Nat} (hk : k < T.length) : T[k] = row T k := by
  unfold row
  rw [List.getD_eq_getElem?_getD, List.getElem?_eq_getElem hk]; rfl
/-- the values of the first k rows that are laid in blocks f 0, f 1, .. -/
def rowVs (f : Nat → Nat) (T : List (List Int)) (k : Nat) : List Value := (List.range k).map fun i => .slice (some ⟨f i, 0, none⟩) (row T i).length (row T i).length
theorem rowVs_len (f : Nat → Nat) (T : List (List Int)) (k : Nat) : (rowVs f T k).length = k := by simp [rowVs]
theorem rowVs_step {f : Nat → Nat} {T : List (List Int)} {k n g : Nat} {xs : List Int} {m : Nat} {z : Value} (hk : k < n) (hx : row T k = xs) (hm : xs.length = m) :
    (rowVs f T k ++ List.replicate (n - k) z).set k (.slice (some ⟨g, 0, none⟩) m m) = rowVs (fun i => if i = k then g else f i) T (k + 1) ++ List.replicate (n - (k + 1)) z := by
  rw [List.set_append_right _ _ (by rw [rowVs_len]; exact Nat.le_refl _), rowVs_len, Nat.sub_self]
  have e : n - k = (n - (k + 1)) + 1 := by omega
  rw [e, List.replicate_succ, List.set_cons_zero]
  unfold rowVs
  rw [List.range_succ, List.map_append, List.append_assoc]
  congr 1
  · apply List.map_congr_left
    intro i hi
    have h : i < k := by simpa using hi
    show Value.slice (some ⟨f i, 0, none⟩) _ _ = Value.slice (some ⟨if i = k then g else f i, 0, none⟩) _ _
    rw [if_neg (by omega)]
  · have hm' : (row T k).length = m := by rw [hx]; exact hm
    simp only [List.map_cons, List.map_nil, if_true, hm']
    rfl
/-- a table in blocks of the call's own: g the outer, f i the rows -/
def BkT (w : World) (g : Nat) (f : Nat → Nat) (T : List (List Int)) : Prop :=
  Bk w g 24 (rowVs f T T.length) ∧ ∀ i, i < T.length → g < f i ∧ Bk w (f i) 3 (ints (row T i))
theorem BkT.rd {w : World} {g n : Nat} {f : Nat → Nat} {T : List (List Int)} (h : BkT w g f T) (hl : T.length = n) : RdT w (some ⟨g, 0, none⟩) n T := by
  refine ⟨hl, fun hn => ⟨g, 0, rfl, h.1.lt, fun k hk => ⟨some ⟨f k, 0, none⟩, (row T k).length, ?_, ?_⟩⟩⟩
  · rw [Nat.zero_add, h.1.cell]
    simp [rowVs, hl, hk]
  · exact (h.2 k (by omega)).2.rd (by simp [ints])
theorem BkT.below {w w' : World} {g : Nat} {f : Nat → Nat} {T : List (List Int)} (h : BkT w g f T) (hb : Below w.heap.size w w') : BkT w' g f T :=
  ⟨h.1.below hb h.1.lt, fun i hi => ⟨(h.2 i hi).1, (h.2 i hi).2.below hb (h.2 i hi).2.lt⟩⟩
theorem toIntSS_any (A : Option Addr) (n c : Nat) (T : List (List Int)) (w : World) (hr : RdT w A n T) (hn : n ≤ 1048576) (hm : ∀ i, i < n → (row T i).length ≤ 1048576) :
    Calls Try.prog 8 #[.slice A n c] w fun e w' => ∃ g f, e = .returned (.slice (some ⟨g, 0, none⟩) n n) ∧ w.heap.size ≤ g ∧ BkT w' g f T ∧ Below w.heap.size w w' := by
  have hl := hr.1
  obtain ⟨i0, hi0, hz0, hz1, hz2⟩ := info_parts (show (Try.prog.info? 24).map (fun i => (i.zero, i.size, i.bytes)) = some (some (.slice none 0 0), 1, 24) from by kernel_rfl)
  have hmk : ∀ W : World, (Instr.makeSlice 22 (.int .i64 (n : Int)) (.int .i64 (n : Int))).run Try.prog W = .ok (.slice (some ⟨W.heap.size, 0, none⟩) n n) (W.alloc (.cells (List.replicate n (Value.slice none 0 0)).toArray 24)) := fun W => by
    have h := run_make (P := Try.prog) W 22 24 i0 (.slice none 0 0) Try.underlying22 hi0 hz0 .i64 .i64 n n (by omega) (by omega) (by rw [hz2]; omega) (by omega)
    rw [hz1] at h
    simpa [Value.cells, madeCells_one] using h
  have hb9 : n ≤ 9223372036854775807 := by omega
  clear hi0 hz0 hz1 hz2
  go_enter Try.func8, Try.ntmps8
  go_wp2
  go_loopw [4] (fun i wr => ∃ k f, k ≤ n ∧ i = .int .i64 ((k : Nat) : Int) ∧ Bk wr w.heap.size 24 (rowVs f T k ++ List.replicate (n - k) (.slice none 0 0)) ∧ (∀ i, i < k → w.heap.size < f i ∧ Bk wr (f i) 3 (ints (row T i))) ∧ Below w.heap.size w wr) (fun i _ => n - (intOf i).toNat)
  case atStart => exact ⟨0, fun _ => 0, Nat.zero_le _, rfl, by simpa [rowVs] using Bk.new w 24 (List.replicate n (Value.slice none 0 0)), fun i hi => absurd hi (by omega), balloc (Below.refl _ _) _⟩
  case round =>
    obtain ⟨k, f, hk, rfl, hB, hR, hW⟩ := hrel
    by_cases hlt : k < n
    · obtain ⟨b, off, Ar, m, cr, xs, rfl, hbl, hx, hxm, hc, hrow⟩ := hr.at_ hW hlt
      have hmm : m ≤ 1048576 := by have := hm k hlt; rw [hx, hxm] at this; exact this
      have hy : wr.cell? ⟨w.heap.size, k, none⟩ = some (.slice none 0 0) := by
        rw [hB.cell, List.getElem?_append_right (by rw [rowVs_len]; exact Nat.le_refl _), rowVs_len, Nat.sub_self, List.getElem?_replicate, if_pos (by omega)]
      have hfz : wr.frozen? ⟨w.heap.size, k, none⟩ = false := hB.frozen k
      have gl := hB.lt
      have hst := fun g => rowVs_step (f := f) (n := n) (g := g) (z := .slice none 0 0) hlt hx hxm
      have HS := Lib.hid hst
      have HB := Lib.hid hB
      have HR := Lib.hid hR
      have HX := Lib.hid hx
      clear hB hR hst hmk hx
      go_wp2_with fail
      refine (toIntS_any Ar m cr xs _ hrow (by omega)).mono ?_
      rintro e w1 ⟨g1, rfl, hg1, hB1, hb1⟩
      have hy1 := (hb1.cell (p := ⟨w.heap.size, k, none⟩) gl).trans hy
      have hf1 := (hb1.frozen (p := ⟨w.heap.size, k, none⟩) gl).trans hfz
      have gl1 := Nat.lt_of_lt_of_le gl hb1.size
      go_wp2
      go_roundw
      case rel =>
        refine ⟨k + 1, fun i => if i = k then g1 else f i, by omega, by go_num, ((HB.out.below hb1 gl).set_ k (.slice (some ⟨g1, 0, none⟩) m m)).cast (HS.out g1), fun i hi => ?_, bset (bstep hW hb1) (Nat.le_refl _) _⟩
        by_cases hik : i = k
        · subst hik
          simp only [if_true]
          refine ⟨by omega, ?_⟩
          rw [HX.out]
          exact hB1.far (by show g1 ≠ w.heap.size; omega) _
        · simp only [if_neg hik]
          obtain ⟨h1, h2⟩ := HR.out i (by omega)
          exact ⟨h1, (h2.below hb1 h2.lt).far (by show f i ≠ w.heap.size; omega) _⟩
      case measure => simp [intOf]; omega
    · clear hmk
      go_wp2
      go_ret
      have e : k = n := by omega
      subst e
      refine ⟨_, f, rfl, Nat.le_refl _, ⟨?_, fun i hi => hR i (by omega)⟩, hW⟩
      rw [hl]
      simpa using hB
theorem szIntSS_any (A : Option Addr) (n c : Nat) (T : List (List Int)) (w : World) (hr : RdT w A n T) (hn : n ≤ 9223372036854775807) (hm : ∀ i, i < n → (row T i).length ≤ 9223372036854775807) :
    Calls Try.prog 6 #[.slice A n c, .int .i64 1048576] w fun e w' => ∃ v : Int, e = .returned (.int .i64 v) ∧ (0 ≤ v → n ≤ 1048576 ∧ ∀ i, i < n → (row T i).length ≤ 1048576) ∧ Below w.heap.size w w' := by
  by_cases hbig : n ≤ 1048576
  · go_enter Try.func6, Try.ntmps6
    go_wp2
    go_loopw [1, 5] (fun l i wr => ∃ (k : Nat) (v : Int), k ≤ n ∧ i = .int .i64 k ∧ l = .int .i64 v ∧ 0 ≤ v ∧ v ≤ 1048576 ∧ (∀ i, i < k → (row T i).length ≤ 1048576) ∧ Below w.heap.size w wr) (fun _ i _ => n - (intOf i).toNat)
    case atStart => exact ⟨0, _, Nat.zero_le _, rfl, rfl, by omega, by omega, fun i hi => absurd hi (by omega), Below.refl _ _⟩
    case round =>
      obtain ⟨k, v, hk, rfl, rfl, v0, v1, hR, hW⟩ := hrel
      by_cases hlt : k < n
      · obtain ⟨b, off, Ar, m, cr, xs, rfl, hbl, hx, hxm, hc, hrow⟩ := hr.at_ hW hlt
        have hmm : m ≤ 9223372036854775807 := by have := hm k hlt; rw [hx, hxm] at this; exact this
        have HR := Lib.hid hR
        have hx2 : (row T k).length = m := by rw [hx]; exact hxm
        have HX := Lib.hid hx2
        clear hR hx hx2 hrow
        obtain ⟨u, hu⟩ : ∃ u, szI m v = u := ⟨_, rfl⟩
        have hz := szIntS_any Ar m cr v wr hmm ⟨v0, v1⟩
        rw [hu] at hz
        by_cases hneg : u < 0
        · clear hu
          go_wp2_with fail
          refine hz.mono ?_
          rintro e w1 ⟨rfl, rfl⟩
          go_wp2
          go_returns
          exact ⟨_, rfl, fun h => absurd h (by omega), hW⟩
        · have hu2 : u ≤ 1048576 ∧ m ≤ 1048576 := by unfold szI at hu; split at hu <;> omega
          obtain ⟨u1, u2⟩ := hu2
          clear hu
          go_wp2_with fail
          refine hz.mono ?_
          rintro e w1 ⟨rfl, rfl⟩
          go_wp2
          go_roundw
          case rel =>
            refine ⟨k + 1, u, by omega, by go_num, rfl, by omega, by omega, fun i hi => ?_, hW⟩
            by_cases hik : i = k
            · subst hik; rw [HX.out]; exact u2
            · exact HR.out i (by omega)
          case measure => simp [intOf]; omega
      · go_wp2
        go_ret
        exact ⟨_, rfl, fun _ => ⟨hbig, fun i hi => hR i (by omega)⟩, hW⟩
  · go_enter Try.func6, Try.ntmps6
    go_wp2
    all_goals (go_returns; exact ⟨_, rfl, fun h => absurd h (by omega), Below.refl _ _⟩)
theorem eqIntSS_same (A B : Option Addr) (n c d : Nat) (T : List (List Int)) (w : World) (hx : RdT w A n T) (hy : RdT w B n T) (hn : n ≤ 1048576) (hm : ∀ i, i < n → (row T i).length ≤ 1048576) :
    Calls Try.prog 11 #[.slice A n c, .slice B n d] w fun e w' => e = .returned (.bool true) ∧ Below w.heap.size w w' := by
  go_enter Try.func11, Try.ntmps11
  go_wp2
  go_loopw [5] (fun i wr => ∃ k : Nat, k ≤ n ∧ i = .int .i64 k ∧ Below w.heap.size w wr) (fun i _ => n - (intOf i).toNat)
  case atStart => exact ⟨0, Nat.zero_le _, rfl, Below.refl _ _⟩
  case round =>
    obtain ⟨k, hk, rfl, hW⟩ := hrel
    by_cases hlt : k < n
    · obtain ⟨b, off, Ar, m, cr, xs, rfl, hbl, h1, h2, c0, hrow⟩ := hx.at_ hW hlt
      obtain ⟨b', off', Ar', m', cr', xs', rfl, hbl', h1', h2', d0, hrow'⟩ := hy.at_ hW hlt
      obtain rfl : xs = xs' := by rw [← h1, ← h1']
      obtain rfl : m = m' := by rw [← h2, ← h2']
      have hmm : m ≤ 1048576 := by have := hm k hlt; rw [h1, h2] at this; exact this
      have i1 : (0 : Int) ≤ (k : Int) := by omega
      have i2 : (k : Int) < (n : Int) := by omega
      have s1 : b < wr.heap.size := Nat.lt_of_lt_of_le hbl hW.size
      have s2 : b' < wr.heap.size := Nat.lt_of_lt_of_le hbl' hW.size
      have HR := Lib.hid hrow
      have HR' := Lib.hid hrow'
      clear h1 h1' h2 h2' hrow hrow'
      go_wp2
      (refine wp_region_bel (by kernel_rfl) (by kernel_rfl) ?_; (repeat (go_big_quiet_step ((first | (go_at_call 10; exact calls_bel (eqIntS_yes _ (HR.out.below (below_bel _ _)) (HR'.out.below (below_bel _ _)) (by omega) rfl)))))); refine wpQuiet_nil ?_; intro w' hw'; have hb := below_of hw'; clear hw'; (try clear cW fW zW); (first | (have bW := bstep bW hb) | (have bW := bstep (bdrew bW) hb) | (have bW := bstep (balloc bW _) hb) | (have bW := bstep (bdrewN bW _) hb) | (have bW := hb)); clear hb; obtain ⟨cW, fW⟩ := bcell bW; have zW := bsize bW)
      go_wp2
      go_roundw
      case rel => exact ⟨k + 1, by omega, by go_num, bstep hW bW⟩
      case measure => simp [intOf]; omega
    · go_wp2
      go_ret
      exact ⟨rfl, hW⟩
end Go.Proofs.Ytallgjobljkgnaa
