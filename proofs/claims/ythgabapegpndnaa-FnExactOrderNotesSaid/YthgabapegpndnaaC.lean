/-
  Lists of notes: read, copied, compared, measured. Conditions: lengths within the bound of a slice.
-/
import Derived.Test.YthgabapegpndnaaB
namespace Go.Proofs.Ythgabapegpndnaa
open Go.RowKit
set_option maxRecDepth 100000
set_option maxHeartbeats 2000000

abbrev NoteV := Int × Int × List Int × ByteArray
def nAt (Z : List NoteV) (i : Nat) : NoteV := Z.getD i (0, 0, [], ⟨#[]⟩)
theorem nAt_get {Z : List NoteV} {k : Nat} (hk : k < Z.length) : Z[k] = nAt Z k := by
  unfold nAt
  rw [List.getD_eq_getElem?_getD, List.getElem?_eq_getElem hk]; rfl
theorem nAt_mem {Z : List NoteV} {k : Nat} (hk : k < Z.length) : nAt Z k ∈ Z := by
  rw [← nAt_get hk]; exact List.getElem_mem hk
/-- a slice of notes whose clocks lie in rows of their own -/
def RdN (w : World) (A : Option Addr) (n : Nat) (Z : List NoteV) : Prop :=
  Z.length = n ∧ (0 < n → ∃ b off, A = some ⟨b, off, none⟩ ∧ b < w.heap.size ∧ ∀ k, k < n → ∃ Ar cr, w.cell? ⟨b, off + k * 4, none⟩ = some (.int .i64 (nAt Z k).1) ∧ w.cell? ⟨b, off + k * 4 + 1, none⟩ = some (.int .i64 (nAt Z k).2.1) ∧ w.cell? ⟨b, off + k * 4 + 2, none⟩ = some (.slice Ar (nAt Z k).2.2.1.length cr) ∧ w.cell? ⟨b, off + k * 4 + 3, none⟩ = some (.string (nAt Z k).2.2.2) ∧ Rd w 1 Ar (nAt Z k).2.2.1.length (ints (nAt Z k).2.2.1))
theorem RdN.below {w w' : World} {A : Option Addr} {n : Nat} {Z : List NoteV} (h : RdN w A n Z) (hb : Below w.heap.size w w') : RdN w' A n Z :=
  ⟨h.1, fun hn => by
    obtain ⟨b, off, e, hlt, hc⟩ := h.2 hn
    refine ⟨b, off, e, Nat.lt_of_lt_of_le hlt hb.size, fun k hk => ?_⟩
    obtain ⟨Ar, cr, h1, h2, h3, h4, h5⟩ := hc k hk
    exact ⟨Ar, cr, (hb.cell (p := ⟨b, off + k * 4, none⟩) hlt).trans h1, (hb.cell (p := ⟨b, off + k * 4 + 1, none⟩) hlt).trans h2, (hb.cell (p := ⟨b, off + k * 4 + 2, none⟩) hlt).trans h3, (hb.cell (p := ⟨b, off + k * 4 + 3, none⟩) hlt).trans h4, h5.below hb⟩⟩
theorem RdN.at_ {w wr : World} {A : Option Addr} {n k : Nat} {Z : List NoteV} (h : RdN w A n Z) (hW : Below w.heap.size w wr) (hk : k < n) :
    ∃ b off u s Ar m cr xs wd, A = some ⟨b, off, none⟩ ∧ b < w.heap.size ∧ nAt Z k = (u, s, xs, wd) ∧ xs.length = m ∧ Rd wr 1 Ar m (ints xs)
    ∧ wr.cell? ⟨b, off + k * 4, none⟩ = some (.int .i64 u) ∧ wr.cell? ⟨b, off + k * 4 + 1, none⟩ = some (.int .i64 s) ∧ wr.cell? ⟨b, off + k * 4 + 2, none⟩ = some (.slice Ar m cr) ∧ wr.cell? ⟨b, off + k * 4 + 3, none⟩ = some (.string wd) := by
  obtain ⟨b, off, e, hb, hc⟩ := h.2 (by omega)
  obtain ⟨Ar, cr, h1, h2, h3, h4, h5⟩ := hc k hk
  exact ⟨b, off, _, _, Ar, _, cr, _, _, e, hb, rfl, rfl, h5.below hW, (hW.cell (p := ⟨b, off + k * 4, none⟩) hb).trans h1, (hW.cell (p := ⟨b, off + k * 4 + 1, none⟩) hb).trans h2, (hW.cell (p := ⟨b, off + k * 4 + 2, none⟩) hb).trans h3, (hW.cell (p := ⟨b, off + k * 4 + 3, none⟩) hb).trans h4⟩
def notE (z : NoteV) (g : Nat) : List Value := [.int .i64 z.1, .int .i64 z.2.1, .slice (some ⟨g, 0, none⟩) z.2.2.1.length z.2.2.1.length, .string z.2.2.2]
def notZ : List Value := [.int .i64 0, .int .i64 0, .slice none 0 0, .string ⟨#[]⟩]
/-- the cells of the first k notes whose clocks are laid in blocks f 0, f 1, .. -/
def notVs (f : Nat → Nat) (Z : List NoteV) (k : Nat) : List Value := (List.range k).flatMap fun i => notE (nAt Z i) (f i)
theorem notVs_len (f : Nat → Nat) (Z : List NoteV) (k : Nat) : (notVs f Z k).length = k * 4 := by
  induction k with
  | zero => rfl
  | succ k ih => 
    unfold notVs at ih ⊢
    rw [List.range_succ, List.flatMap_append, List.length_append, ih]
    simp [notE]; omega
theorem notVs_get {f : Nat → Nat} {Z : List NoteV} {n k j : Nat} (hk : k < n) (hj : j < 4) (rest : List Value) : (notVs f Z n ++ rest)[k * 4 + j]? = (notE (nAt Z k) (f k))[j]? := by
  rw [List.getElem?_append_left (by rw [notVs_len]; omega)]
  have h := flat_get (en := fun i => notE (nAt Z i) (f i)) (k := 4) (fun _ => rfl) (List.range n) k j (by simpa using hk) hj
  simpa [notVs] using h
theorem notVs_step {f : Nat → Nat} {Z : List NoteV} {k n g : Nat} {u s : Int} {xs : List Int} {m : Nat} {wd : ByteArray} (hk : k < n) (hx : nAt Z k = (u, s, xs, wd)) (hm : xs.length = m) :
    sets (notVs f Z k ++ (List.replicate (n - k) notZ).flatten) (k * 4) [.int .i64 u, .int .i64 s, .slice (some ⟨g, 0, none⟩) m m, .string wd] = notVs (fun i => if i = k then g else f i) Z (k + 1) ++ (List.replicate (n - (k + 1)) notZ).flatten := by
  have e : n - k = (n - (k + 1)) + 1 := by omega
  rw [e, List.replicate_succ, List.flatten_cons, sets_mid (notVs_len f Z k) (by rfl)]
  unfold notVs
  rw [List.range_succ, List.flatMap_append, List.append_assoc]
  have e1 : (List.range k).flatMap (fun i => notE (nAt Z i) (f i)) = (List.range k).flatMap (fun i => notE (nAt Z i) (if i = k then g else f i)) := by
    rw [List.flatMap_def, List.flatMap_def]
    congr 1
    apply List.map_congr_left
    intro i hi
    have h : i < k := by simpa using hi
    rw [if_neg (by omega)]
  rw [e1]
  congr 1
  simp only [List.flatMap_cons, List.flatMap_nil, if_true, hx, notE, hm, List.append_nil]
theorem notVs_there {f : Nat → Nat} {Z : List NoteV} {k n j : Nat} (hk : k < n) (hj : j < 4) : ∃ u, (notVs f Z k ++ (List.replicate (n - k) notZ).flatten)[k * 4 + j]? = some u := by
  have e : n - k = (n - (k + 1)) + 1 := by omega
  rw [e, List.replicate_succ, List.flatten_cons, List.getElem?_append_right (by rw [notVs_len]; omega), notVs_len, Nat.add_sub_cancel_left, List.getElem?_append_left (by simpa [notZ] using hj)]
  exact ⟨_, List.getElem?_eq_getElem (by simpa [notZ] using hj)⟩
/-- notes in blocks of the call's own: g the outer, f i the clocks -/
def BkN (w : World) (g : Nat) (f : Nat → Nat) (Z : List NoteV) : Prop :=
  Bk w g 35 (notVs f Z Z.length) ∧ ∀ i, i < Z.length → g < f i ∧ Bk w (f i) 3 (ints (nAt Z i).2.2.1)
theorem BkN.rd {w : World} {g n : Nat} {f : Nat → Nat} {Z : List NoteV} (h : BkN w g f Z) (hl : Z.length = n) : RdN w (some ⟨g, 0, none⟩) n Z := by
  refine ⟨hl, fun hn => ⟨g, 0, rfl, h.1.lt, fun k hk => ⟨some ⟨f k, 0, none⟩, (nAt Z k).2.2.1.length, ?_, ?_, ?_, ?_, ?_⟩⟩⟩
  · rw [Nat.zero_add, h.1.cell]; have := notVs_get (f := f) (Z := Z) (n := Z.length) (k := k) (j := 0) (by omega) (by omega) []; simpa [notE] using this
  · rw [Nat.zero_add, h.1.cell]; have := notVs_get (f := f) (Z := Z) (n := Z.length) (k := k) (j := 1) (by omega) (by omega) []; simpa [notE] using this
  · rw [Nat.zero_add, h.1.cell]; have := notVs_get (f := f) (Z := Z) (n := Z.length) (k := k) (j := 2) (by omega) (by omega) []; simpa [notE] using this
  · rw [Nat.zero_add, h.1.cell]; have := notVs_get (f := f) (Z := Z) (n := Z.length) (k := k) (j := 3) (by omega) (by omega) []; simpa [notE] using this
  · exact (h.2 k (by omega)).2.rd (by simp [ints])
theorem BkN.below {w w' : World} {g : Nat} {f : Nat → Nat} {Z : List NoteV} (h : BkN w g f Z) (hb : Below w.heap.size w w') : BkN w' g f Z :=
  ⟨h.1.below hb h.1.lt, fun i hi => ⟨(h.2 i hi).1, (h.2 i hi).2.below hb (h.2 i hi).2.lt⟩⟩
theorem toNoteS_any (A : Option Addr) (n c : Nat) (Z : List NoteV) (w : World) (hr : RdN w A n Z) (hn : n ≤ 1048576) (hm : ∀ i, i < n → (nAt Z i).2.2.1.length ≤ 1048576) :
    Calls Try.prog 12 #[.slice A n c] w fun e w' => ∃ g f, e = .returned (.slice (some ⟨g, 0, none⟩) n n) ∧ w.heap.size ≤ g ∧ BkN w' g f Z ∧ Below w.heap.size w w' := by
  have hl := hr.1
  obtain ⟨i0, hi0, hz0, hz1, hz2⟩ := info_parts (show (Try.prog.info? 35).map (fun i => (i.zero, i.size, i.bytes)) = some (some (.agg #[.int .i64 0, .int .i64 0, .slice none 0 0, .string ⟨#[]⟩]), 4, 56) from by kernel_rfl)
  have hmk : ∀ W : World, (Instr.makeSlice 25 (.int .i64 (n : Int)) (.int .i64 (n : Int))).run Try.prog W = .ok (.slice (some ⟨W.heap.size, 0, none⟩) n n) (W.alloc (.cells (List.replicate n notZ).flatten.toArray 35)) := fun W => by
    have h := run_make (P := Try.prog) W 25 35 i0 (.agg #[.int .i64 0, .int .i64 0, .slice none 0 0, .string ⟨#[]⟩]) Try.underlying25 hi0 hz0 .i64 .i64 n n (by omega) (by omega) (by rw [hz2]; omega) (by omega)
    rw [hz1] at h
    rw [← madeCells_flat notZ n]
    simpa [Value.cells, notZ] using h
  have hb9 : n ≤ 9223372036854775807 := by omega
  clear hi0 hz0 hz1 hz2
  go_enter Try.func12, Try.ntmps12
  go_wp2
  go_loopw [4] (fun i wr => ∃ k f, k ≤ n ∧ i = .int .i64 ((k : Nat) : Int) ∧ Bk wr w.heap.size 35 (notVs f Z k ++ (List.replicate (n - k) notZ).flatten) ∧ (∀ i, i < k → w.heap.size < f i ∧ Bk wr (f i) 3 (ints (nAt Z i).2.2.1)) ∧ Below w.heap.size w wr) (fun i _ => n - (intOf i).toNat)
  case atStart => exact ⟨0, fun _ => 0, Nat.zero_le _, rfl, by simpa [notVs] using Bk.new w 35 (List.replicate n notZ).flatten, fun i hi => absurd hi (by omega), balloc (Below.refl _ _) _⟩
  case round =>
    obtain ⟨k, f, hk, rfl, hB, hR, hW⟩ := hrel
    by_cases hlt : k < n
    · obtain ⟨b, off, u, s, Ar, m, cr, xs, wd, rfl, hbl, hx, hxm, hrow, c0, c1, c2, c3⟩ := hr.at_ hW hlt
      have hmm : m ≤ 1048576 := by have := hm k hlt; rw [hx] at this; simp only [hxm] at this; exact this
      have gl := hB.lt
      have hst := fun g => notVs_step (f := f) (n := n) (g := g) hlt hx hxm
      have hth := fun j (hj : j < 4) => notVs_there (f := f) (Z := Z) (n := n) (k := k) (j := j) hlt hj
      have HS := Lib.hid hst
      have HB := Lib.hid hB
      have HR := Lib.hid hR
      have HX := Lib.hid hx
      have HT := Lib.hid hth
      clear hB hR hst hmk hx hth
      go_wp2_with fail
      refine (toNote_any u s Ar m cr xs wd _ hrow (by omega)).mono ?_
      rintro e w1 ⟨g1, rfl, hg1, hB1, hb1⟩
      have hB2 := HB.out.below hb1 gl
      obtain ⟨u0, t0⟩ := hB2.there (HT.out 0 (by omega))
      obtain ⟨u1, t1⟩ := hB2.there (HT.out 1 (by omega))
      obtain ⟨u2, t2⟩ := hB2.there (HT.out 2 (by omega))
      obtain ⟨u3, t3⟩ := hB2.there (HT.out 3 (by omega))
      simp only [Nat.add_zero] at t0
      have f0 := hB2.frozen (k * 4)
      have f1 := hB2.frozen (k * 4 + 1)
      have f2 := hB2.frozen (k * 4 + 2)
      have f3 := hB2.frozen (k * 4 + 3)
      have gl1 := hB2.lt
      have hS := Lib.hid ((((hB2.set_ (k * 4) (.int .i64 u)).set_ (k * 4 + 1) (.int .i64 s)).set_ (k * 4 + 2) (.slice (some ⟨g1, 0, none⟩) m m)).set_ (k * 4 + 3) (.string wd))
      have bW := bstep hW hb1
      have bS := (bset (bset (bset (bset bW (p := ⟨w.heap.size, k * 4, none⟩) (Nat.le_refl _) (.int .i64 u)) (p := ⟨w.heap.size, k * 4 + 1, none⟩) (Nat.le_refl _) (.int .i64 s)) (p := ⟨w.heap.size, k * 4 + 2, none⟩) (Nat.le_refl _) (.slice (some ⟨g1, 0, none⟩) m m)) (p := ⟨w.heap.size, k * 4 + 3, none⟩) (Nat.le_refl _) (.string wd))
      clear hB2
      go_wp2
      have hS' := hS.out
      have hQ : Bk _ _ _ (sets (notVs f Z k ++ (List.replicate (n - k) notZ).flatten) (k * 4) [.int .i64 u, .int .i64 s, .slice (some ⟨g1, 0, none⟩) m m, .string wd]) := hS'
      rw [HS.out g1] at hQ
      clear hS hS'
      go_roundw
      case rel =>
        refine ⟨k + 1, fun i => if i = k then g1 else f i, by omega, by go_num, hQ, fun i hi => ?_, bS⟩
        by_cases hik : i = k
        · subst hik
          simp only [if_true]
          refine ⟨by omega, ?_⟩
          rw [HX.out]
          exact (((hB1.far (by show g1 ≠ w.heap.size; omega) _).far (by show g1 ≠ w.heap.size; omega) _).far (by show g1 ≠ w.heap.size; omega) _).far (by show g1 ≠ w.heap.size; omega) _
        · simp only [if_neg hik]
          obtain ⟨h1, h2⟩ := HR.out i (by omega)
          exact ⟨h1, ((((h2.below hb1 h2.lt).far (by show f i ≠ w.heap.size; omega) _).far (by show f i ≠ w.heap.size; omega) _).far (by show f i ≠ w.heap.size; omega) _).far (by show f i ≠ w.heap.size; omega) _⟩
      case measure => simp [intOf]; omega
    · clear hmk
      go_wp2
      go_ret
      have e : k = n := by omega
      subst e
      refine ⟨_, f, rfl, Nat.le_refl _, ⟨?_, fun i hi => hR i (by omega)⟩, hW⟩
      rw [hl]
      simpa using hB
theorem szNoteS_any (A : Option Addr) (n c : Nat) (Z : List NoteV) (w : World) (hr : RdN w A n Z) (hn : n ≤ 9223372036854775807) (hm : ∀ i, i < n → (nAt Z i).2.2.1.length ≤ 9223372036854775807 ∧ (nAt Z i).2.2.2.size ≤ maxLen) :
    Calls Try.prog 10 #[.slice A n c, .int .i64 1048576] w fun e w' => ∃ v : Int, e = .returned (.int .i64 v) ∧ (0 ≤ v → n ≤ 1048576 ∧ ∀ i, i < n → (nAt Z i).2.2.1.length ≤ 1048576) ∧ Below w.heap.size w w' := by
  by_cases hbig : n ≤ 1048576
  · go_enter Try.func10, Try.ntmps10
    go_wp2
    go_loopw [1, 5] (fun l i wr => ∃ (k : Nat) (v : Int), k ≤ n ∧ i = .int .i64 k ∧ l = .int .i64 v ∧ 0 ≤ v ∧ v ≤ 1048576 ∧ (∀ i, i < k → (nAt Z i).2.2.1.length ≤ 1048576) ∧ Below w.heap.size w wr) (fun _ i _ => n - (intOf i).toNat)
    case atStart => exact ⟨0, _, Nat.zero_le _, rfl, rfl, by omega, by omega, fun i hi => absurd hi (by omega), Below.refl _ _⟩
    case round =>
      obtain ⟨k, v, hk, rfl, rfl, v0, v1, hR, hW⟩ := hrel
      by_cases hlt : k < n
      · obtain ⟨b, off, u, s, Ar, m, cr, xs, wd, rfl, hbl, hx, hxm, hrow, c0, c1, c2, c3⟩ := hr.at_ hW hlt
        obtain ⟨hmm, hws⟩ := hm k hlt
        rw [hx] at hmm hws
        simp only [hxm] at hmm hws
        have HR := Lib.hid hR
        have hx2 : (nAt Z k).2.2.1.length = m := by rw [hx]; exact hxm
        have HX := Lib.hid hx2
        have s1 : b < wr.heap.size := Nat.lt_of_lt_of_le hbl hW.size
        clear hR hx hx2 hrow
        have hz := szNote_any u s Ar m cr wd v wr hmm hws ⟨v0, v1⟩
        go_wp2_with fail
        refine hz.mono ?_
        rintro e w1 ⟨q, rfl, q1, q2, hb1⟩
        have b1 := bstep hW hb1
        have Q2 := Lib.hid q2
        clear q2
        by_cases hneg : q < 0
        · go_wp2
          go_returns
          exact ⟨_, rfl, fun h => absurd h (by omega), b1⟩
        · go_wp2
          go_roundw
          case rel =>
            refine ⟨k + 1, q, by omega, by go_num, rfl, by omega, by omega, fun i hi => ?_, b1⟩
            by_cases hik : i = k
            · subst hik; rw [HX.out]; exact Q2.out (by omega)
            · exact HR.out i (by omega)
          case measure => simp [intOf]; omega
      · go_wp2
        go_ret
        exact ⟨_, rfl, fun _ => ⟨hbig, fun i hi => hR i (by omega)⟩, hW⟩
  · go_enter Try.func10, Try.ntmps10
    go_wp2
    all_goals (go_returns; exact ⟨_, rfl, fun h => absurd h (by omega), Below.refl _ _⟩)
theorem eqNoteS_same (A B : Option Addr) (n c d : Nat) (Z : List NoteV) (w : World) (hx : RdN w A n Z) (hy : RdN w B n Z) (hn : n ≤ 1048576) (hm : ∀ i, i < n → (nAt Z i).2.2.1.length ≤ 1048576) :
    Calls Try.prog 14 #[.slice A n c, .slice B n d] w fun e w' => e = .returned (.bool true) ∧ Below w.heap.size w w' := by
  go_enter Try.func14, Try.ntmps14
  go_wp2
  go_loopw [5] (fun i wr => ∃ k : Nat, k ≤ n ∧ i = .int .i64 k ∧ Below w.heap.size w wr) (fun i _ => n - (intOf i).toNat)
  case atStart => exact ⟨0, Nat.zero_le _, rfl, Below.refl _ _⟩
  case round =>
    obtain ⟨k, hk, rfl, hW⟩ := hrel
    by_cases hlt : k < n
    · obtain ⟨b, off, u, s, Ar, m, cr, xs, wd, rfl, hbl, h1, h2, hrow, c0, c1, c2, c3⟩ := hx.at_ hW hlt
      obtain ⟨b', off', u', s', Ar', m', cr', xs', wd', rfl, hbl', h1', h2', hrow', d0, d1, d2, d3⟩ := hy.at_ hW hlt
      rw [h1] at h1'
      simp only [Prod.mk.injEq] at h1'
      obtain ⟨rfl, rfl, rfl, rfl⟩ := h1'
      obtain rfl : m = m' := by rw [← h2, ← h2']
      have hmm : m ≤ 1048576 := by have := hm k hlt; rw [h1] at this; simp only [h2] at this; exact this
      have i1 : (0 : Int) ≤ (k : Int) := by omega
      have i2 : (k : Int) < (n : Int) := by omega
      have s1 : b < wr.heap.size := Nat.lt_of_lt_of_le hbl hW.size
      have s2 : b' < wr.heap.size := Nat.lt_of_lt_of_le hbl' hW.size
      have HR := Lib.hid hrow
      have HR' := Lib.hid hrow'
      clear h1 h2 h2' hrow hrow'
      go_wp2
      (refine wp_region_bel (by kernel_rfl) (by kernel_rfl) ?_; (repeat (go_big_quiet_step ((first | (go_at_call 19; exact calls_bel (eqNote_same _ _ _ _ _ _ _ _ _ _ (HR.out.below (below_bel _ _)) (HR'.out.below (below_bel _ _)) (by omega))))))); refine wpQuiet_nil ?_; intro w' hw'; have hb := below_of hw'; clear hw'; (try clear cW fW zW); (first | (have bW := bstep bW hb) | (have bW := bstep (bdrew bW) hb) | (have bW := bstep (balloc bW _) hb) | (have bW := bstep (bdrewN bW _) hb) | (have bW := hb)); clear hb; obtain ⟨cW, fW⟩ := bcell bW; have zW := bsize bW)
      go_wp2
      go_roundw
      case rel => exact ⟨k + 1, by omega, by go_num, bstep hW bW⟩
      case measure => simp [intOf]; omega
    · go_wp2
      go_ret
      exact ⟨rfl, hW⟩
end Go.Proofs.Ythgabapegpndnaa
